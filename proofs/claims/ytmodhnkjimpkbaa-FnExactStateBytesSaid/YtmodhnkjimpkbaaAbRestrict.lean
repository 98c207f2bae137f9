import Derived.Test.YtmodhnkjimpkbaaAbMemU
set_option linter.all false
namespace Go.Proofs.YtmodhnkjimpkbaaAb
open Go
theorem mapM_congr {ev ev' : Operand → Option Value} : ∀ (xs : List Operand), (∀ x ∈ xs, ev' x = ev x) → xs.mapM ev' = xs.mapM ev
  | [], _ => rfl
  | x :: xs, h => by simp only [List.mapM_cons]; rw [h x (by simp), mapM_congr xs (fun y hy => h y (by simp [hy]))]
theorem mapM_congr2 {ev ev' : Operand → Option Value} : ∀ (ps : List (Nat × Operand)), (∀ p ∈ ps, ev' p.2 = ev p.2) → ps.mapM (fun p => (ev' p.2).map fun v => (p.1, v)) = ps.mapM (fun p => (ev p.2).map fun v => (p.1, v))
  | [], _ => rfl
  | p :: ps, h => by simp only [List.mapM_cons]; rw [h p (by simp), mapM_congr2 ps (fun y hy => h y (by simp [hy]))]
section
variable {P : Program} {lo n n' : Nat} {H H' : Heap} {ev ev' : Operand → Option Value} {o : Oper} {v : Value}
theorem Bnd.congr {x : Option Operand} {d r : Nat} (h : Bnd ev x d r) (he : ∀ y, x = some y → ev' y = ev y) : Bnd ev' x d r := by
  cases x with
  | none => exact h
  | some y => obtain ⟨q, hq⟩ := h; exact ⟨q, by rw [he y rfl]; exact hq⟩
theorem Src.congr {size : Nat} {u : TypeId} {y : Operand} {m : Nat} {l : List Value} (h : Src P ev H size u y m l) (he : ev' y = ev y) : Src P ev' H size u y m l := by
  cases h with
  | slice hu hd hy hb hl hn => exact .slice hu hd (by rw [he]; exact hy) hb hl hn
  | nil hu hd hy => exact .nil hu hd (by rw [he]; exact hy)
  | str hu hd hs hy => exact .str hu hd hs (by rw [he]; exact hy)
theorem Step.restrict (h : Step P lo ev n H o v n' H') (he : ∀ x ∈ o.op.operands, ev' x = ev x) : Step P lo ev' n H o v n' H' := by
  obtain ⟨dst, op, ty, pos, after, guard⟩ := o
  simp only at he
  cases h with
  | ground hsel hv hg hr =>
    refine .ground hsel (fun x hx => by rw [he x hx]; exact hv x hx) hg (fun w => ?_)
    rw [← hr w]
    congr 1
    exact execOp_congr _ hsel fun x hx => by rw [he x hx]
  | move ho hx => rcases ho with ho | ho <;> (simp only at ho; subst ho) <;> simp [Op.operands] at he
                  · exact .move (.inl rfl) (by rw [he]; exact hx)
                  · exact .move (.inr rfl) (by rw [he]; exact hx)
  | pick ho hc hv =>
    rename_i c a b t
    simp only at ho; subst ho
    simp [Op.operands] at he
    exact .pick rfl (by rw [he.1]; exact hc) (by cases t <;> simp [he.2.1, he.2.2] at hv ⊢ <;> exact hv)
  | alloc e ho hi hz hg => exact .alloc e ho hi hz hg
  | box e ho hx hg => simp only at ho; subst ho; simp [Op.operands] at he; exact .box e rfl (by rw [he]; exact hx) hg
  | load1 ho ht hd hx hb hk => simp only at ho; subst ho; simp [Op.operands] at he; exact .load1 rfl ht hd (by rw [he]; exact hx) hb hk
  | loadN ho ht hd hi hx hb hk hl => simp only at ho; subst ho; simp [Op.operands] at he; exact .loadN rfl ht hd hi (by rw [he]; exact hx) hb hk hl
  | store ho hi hx hy hsz hb hk hlo hbn h1 => simp only at ho; subst ho; simp [Op.operands] at he; exact .store rfl hi (by rw [he.1]; exact hx) (by rw [he.2]; exact hy) hsz hb hk hlo hbn h1
  | nilCheck ho hx => simp only at ho; subst ho; simp [Op.operands] at he; exact .nilCheck rfl (by rw [he]; exact hx)
  | nilCheckF ho hx => simp only at ho; subst ho; simp [Op.operands] at he; exact .nilCheckF rfl (by rw [he]; exact hx)
  | fieldAddr ho hs hf hi h0 hx => simp only at ho; subst ho; simp [Op.operands] at he; exact .fieldAddr rfl hs hf hi h0 (by rw [he]; exact hx)
  | field1 ho hs hf ht hd hx hv => simp only at ho; subst ho; simp [Op.operands] at he; exact .field1 rfl hs hf ht hd (by rw [he]; exact hx) hv
  | fieldN ho hs hf ht hd hi hx => simp only at ho; subst ho; simp [Op.operands] at he; exact .fieldN rfl hs hf ht hd hi (by rw [he]; exact hx)
  | indexAddrS ho ht hi hx hy h0 hj => simp only at ho; subst ho; simp [Op.operands] at he; exact .indexAddrS rfl ht hi (by rw [he.1]; exact hx) (by rw [he.2]; exact hy) h0 hj
  | indexAddrA ho ht hi hx hy h0 hj => simp only at ho; subst ho; simp [Op.operands] at he; exact .indexAddrA rfl ht hi (by rw [he.1]; exact hx) (by rw [he.2]; exact hy) h0 hj
  | indexA1 ho ht hi hd hd1 hx hy h0 hj hv => simp only at ho; subst ho; simp [Op.operands] at he; exact .indexA1 rfl ht hi hd hd1 (by rw [he.1]; exact hx) (by rw [he.2]; exact hy) h0 hj hv
  | extract ho hx hv => simp only at ho; subst ho; simp [Op.operands] at he; exact .extract rfl (by rw [he]; exact hx) hv
  | mkIface ho ht hd hx => simp only at ho; subst ho; simp [Op.operands] at he; exact .mkIface rfl ht hd (by rw [he]; exact hx)
  | mkFunc ho hx hy =>
    simp only at ho; subst ho
    simp only [Op.operands, Array.mem_append] at he
    exact .mkFunc rfl (by rw [mapM_congr _ (fun x hx => he x (.inl (by simpa using hx)))]; exact hx) (by rw [mapM_congr _ (fun x hx => he x (.inr (by simpa using hx)))]; exact hy)
  | len ho ht hx => simp only at ho; subst ho; simp [Op.operands, Call.operands] at he; exact .len rfl ht (by rw [he]; exact hx)
  | assert ho ht hd hx => simp only at ho; subst ho; simp [Op.operands] at he; exact .assert rfl ht hd (by rw [he]; exact hx)
theorem StepM.restrict (h : StepM P lo ev n H o v n' H') (he : ∀ x ∈ o.op.operands, ev' x = ev x) : StepM P lo ev' n H o v n' H' := by
  obtain ⟨dst, op, ty, pos, after, guard⟩ := o
  simp only at he
  cases h with
  | slice ho ht hi hx hb he' hm hmm hl hh hmx hlh hhm =>
    rename_i t el i x low high mx b k len cap l h m e c
    simp only at ho; subst ho
    simp only [Op.operands, Array.mem_append] at he
    exact .slice rfl ht hi (by rw [he x (by simp)]; exact hx) hb he' (hm.congr fun y hy => he y (by simp [hy])) hmm (hl.congr fun y hy => he y (by simp [hy])) (hh.congr fun y hy => he y (by simp [hy])) hmx hlh hhm
  | sliceNil ho ht hi hx hl hh =>
    rename_i t el i x low high
    simp only at ho; subst ho
    simp only [Op.operands, Array.mem_append] at he
    exact .sliceNil rfl ht hi (by rw [he x (by simp)]; exact hx) (hl.congr fun y hy => he y (by simp [hy])) (hh.congr fun y hy => he y (by simp [hy]))
  | eqNil ho hop ht hx hy => simp only at ho; subst ho; simp [Op.operands] at he; exact .eqNil rfl hop ht (by rw [he.1]; exact hx) (by rw [he.2]; exact hy)
  | capE ho ht hx hc => simp only at ho; subst ho; simp [Op.operands, Call.operands] at he; exact .capE rfl ht (by rw [he]; exact hx) hc
  | make ho ht hi hz hzs h0 hg hx hy hlc hb h63 => simp only at ho; subst ho; simp [Op.operands] at he; exact .make rfl ht hi hz hzs h0 hg (by rw [he.1]; exact hx) (by rw [he.2]; exact hy) hlc hb h63
  | build ho ht hi hz hg hp hpl hfl =>
    rename_i t ps fs parts places z iz cells
    simp only at ho; subst ho
    exact .build rfl ht hi hz hg (by rw [mapM_congr2 (ev := ev) _ (fun p hp => he p.2 (by simp [Op.operands]; exact ⟨p.1, by simpa using hp⟩))]; exact hp) hpl hfl
  | buildA ho ht hi hz hie hg hp hfl =>
    rename_i t el len ps parts z iz i cells
    simp only at ho; subst ho
    exact .buildA rfl ht hi hz hie hg (by rw [mapM_congr2 (ev := ev) _ (fun p hp => he p.2 (by simp [Op.operands]; exact ⟨p.1, by simpa using hp⟩))]; exact hp) hfl
  | buildSlice ho ht hi hz hg hsz hlen hp h1 hzc hfl hcs =>
    rename_i t el len ps parts z i cells
    simp only at ho; subst ho
    exact .buildSlice rfl ht hi hz hg hsz hlen (by rw [mapM_congr2 (ev := ev) _ (fun p hp => he p.2 (by simp [Op.operands]; exact ⟨p.1, by simpa using hp⟩))]; exact hp) h1 hzc hfl hcs
  | append0 ho ht hi hx hsrc => simp only at ho; subst ho; simp [Op.operands, Call.operands] at he; exact .append0 rfl ht hi (by rw [he.1]; exact hx) (hsrc.congr he.2)
  | appendI ho ht hi hx hsrc hb hlb hfit hlo hbn h1 hm0 hcu => simp only at ho; subst ho; simp [Op.operands, Call.operands] at he; exact .appendI rfl ht hi (by rw [he.1]; exact hx) (hsrc.congr he.2) hb hlb hfit hlo hbn h1 hm0 hcu
  | appendZ ho ht hu hi hz hzs h0 hg hx hy hm0 hby h63 => simp only at ho; subst ho; simp [Op.operands, Call.operands] at he; exact .appendZ rfl ht hu hi hz hzs h0 hg (by rw [he.1]; exact hx) (by rw [he.2]; exact hy) hm0 hby h63
  | appendN ho ht hi hz hzs hx hsrc h1 hm0 hby h63 => simp only at ho; subst ho; simp [Op.operands, Call.operands] at he; exact .appendN rfl ht hi hz hzs (by rw [he.1]; exact hx) (hsrc.congr he.2) h1 hm0 hby h63
  | appendG ho ht hi hz hzs hx hsrc hb hol holn hcap hgr h1 hby h63 => simp only at ho; subst ho; simp [Op.operands, Call.operands] at he; exact .appendG rfl ht hi hz hzs (by rw [he.1]; exact hx) (hsrc.congr he.2) hb hol holn hcap hgr h1 hby h63
  | appendU ho ht hi hz hzs hx hsrc hb he' hol holn hcap hlo hbn hm0 h1 hby h63 hk => simp only at ho; subst ho; simp [Op.operands, Call.operands] at he; exact .appendU rfl ht hi hz hzs (by rw [he.1]; exact hx) (hsrc.congr he.2) hb he' hol holn hcap hlo hbn hm0 h1 hby h63 hk
  | copy ho ht hi hx hsrc hb hfit hlo hbn h1 => simp only at ho; subst ho; simp [Op.operands, Call.operands] at he; exact .copy rfl ht hi (by rw [he.1]; exact hx) (hsrc.congr he.2) hb hfit hlo hbn h1
  | clear ho ht hi hz hzs hx hb hfit hlo hbn hg hl0 => simp only at ho; subst ho; simp [Op.operands, Call.operands] at he; exact .clear rfl ht hi hz hzs (by rw [he]; exact hx) hb hfit hlo hbn hg hl0
  | toBytes ho hs ht hel hx h63 => simp only at ho; subst ho; simp [Op.operands] at he; exact .toBytes rfl hs ht hel (by rw [he]; exact hx) h63
  | toStr ho hs ht hel hx hb hl hn => simp only at ho; subst ho; simp [Op.operands] at he; exact .toStr rfl hs ht hel (by rw [he]; exact hx) hb hl hn
  | toStrNil ho hs ht hel hx => simp only at ho; subst ho; simp [Op.operands] at he; exact .toStrNil rfl hs ht hel (by rw [he]; exact hx)
theorem Step.abs (h : Step P lo ev n H o v n' H') (hlo : lo ≤ n) : n ≤ n' ∧ (∀ i, i < lo → H' i = H i) ∧ ((∀ i, n ≤ i → H i = none) → ∀ i, n' ≤ i → H' i = none) ∧ ∀ i, i < n → H i = none → H' i = none := by
  cases h
  case alloc => exact ⟨by omega, fun i hi => Heap.set_ne _ _ (by omega), fun h i hi => by rw [Heap.set_ne _ _ (by omega)]; exact h i (by omega), fun i hi h => by rw [Heap.set_ne _ _ (by omega)]; exact h⟩
  case box => exact ⟨by omega, fun i hi => Heap.set_ne _ _ (by omega), fun h i hi => by rw [Heap.set_ne _ _ (by omega)]; exact h i (by omega), fun i hi h => by rw [Heap.set_ne _ _ (by omega)]; exact h⟩
  case store b _ _ _ _ _ _ _ _ _ hb _ _ _ _ =>
    exact ⟨by omega, fun i hi => Heap.set_ne _ _ (by omega), fun h i hi => by rw [Heap.set_ne _ _ (by omega)]; exact h i (by omega), fun i hi h => by rw [Heap.set_ne _ _ (fun e => by subst e; rw [hb] at h; cases h)]; exact h⟩
  all_goals exact ⟨Nat.le_refl _, fun _ _ => rfl, fun h => h, fun _ _ h => h⟩
theorem StepM.abs (h : StepM P lo ev n H o v n' H') (hlo : lo ≤ n) : n ≤ n' ∧ (∀ i, i < lo → H' i = H i) ∧ ((∀ i, n ≤ i → H i = none) → ∀ i, n' ≤ i → H' i = none) ∧ ∀ i, i < n → H i = none → H' i = none := by
  have new : ∀ ob, n ≤ n + 1 ∧ (∀ i, i < lo → (H.set n ob) i = H i) ∧ ((∀ i, n ≤ i → H i = none) → ∀ i, n + 1 ≤ i → (H.set n ob) i = none) ∧ ∀ i, i < n → H i = none → (H.set n ob) i = none :=
    fun ob => ⟨by omega, fun i hi => Heap.set_ne _ _ (by omega), fun h i hi => by rw [Heap.set_ne _ _ (by omega)]; exact h i (by omega), fun i hi h => by rw [Heap.set_ne _ _ (by omega)]; exact h⟩
  have upd : ∀ b ob ob', lo ≤ b → b < n → H b = some ob → n ≤ n ∧ (∀ i, i < lo → (H.set b ob') i = H i) ∧ ((∀ i, n ≤ i → H i = none) → ∀ i, n ≤ i → (H.set b ob') i = none) ∧ ∀ i, i < n → H i = none → (H.set b ob') i = none :=
    fun b ob ob' h1 h2 hb => ⟨Nat.le_refl _, fun i hi => Heap.set_ne _ _ (by omega), fun h i hi => by rw [Heap.set_ne _ _ (by omega)]; exact h i hi, fun i hi h => by rw [Heap.set_ne _ _ (fun e => by subst e; rw [hb] at h; cases h)]; exact h⟩
  cases h
  case make => exact new _
  case buildSlice => exact new _
  case appendN => exact new _
  case appendZ => exact new _
  case appendG => exact new _
  case toBytes => exact new _
  case appendI hb hlb hfit hlo' hbn h1 hm0 hcu => exact upd _ _ _ hlo' hbn hb
  case copy hb hfit hlo' hbn h1 => exact upd _ _ _ hlo' hbn hb
  case clear hb hfit hlo' hbn hg hl0 => exact upd _ _ _ hlo' hbn hb
  case appendU hb he' hol holn hcap hlo' hbn hm0 h1 hby h63 hk =>
    refine ⟨by omega, fun i hi => by rw [Heap.set_ne _ _ (by omega), Heap.del_ne _ (by omega)], fun h i hi => by rw [Heap.set_ne _ _ (by omega), Heap.del_ne _ (by omega)]; exact h i (by omega), fun i hi h => ?_⟩
    rw [Heap.set_ne _ _ (by omega)]
    simp only [Heap.del]
    split
    · rfl
    · exact h
  all_goals exact ⟨Nat.le_refl _, fun _ _ => rfl, fun h => h, fun _ _ h => h⟩
end
end Go.Proofs.YtmodhnkjimpkbaaAb
