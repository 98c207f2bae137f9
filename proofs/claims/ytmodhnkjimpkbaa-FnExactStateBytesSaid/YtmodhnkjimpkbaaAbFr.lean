import Derived.Test.YtmodhnkjimpkbaaAbP3
set_option linter.all false
namespace Go.Proofs.YtmodhnkjimpkbaaAb
open Go
def Heap.plus (H K : Heap) : Heap := fun i => match K i with | some o => some o | none => H i
def Off (K : Heap) (n : Nat) (H : Heap) : Prop := ∀ i o, K i = some o → i < n ∧ H i = none
section
variable {K H H' : Heap} {n n' lo : Nat}
theorem Off.none (hK : Off K n H) {b : Nat} {o : Ob} (h : H b = some o) : K b = none := by
  cases e : K b with
  | none => rfl
  | some x => rw [(hK b x e).2] at h; cases h
theorem Off.new (hK : Off K n H) {b : Nat} (h : n ≤ b) : K b = Option.none := by
  cases e : K b with
  | none => rfl
  | some x => have := (hK b x e).1; omega
theorem plus_none {b : Nat} (h : K b = none) : (H.plus K) b = H b := by simp [Heap.plus, h]
theorem Off.get (hK : Off K n H) {b : Nat} {o : Ob} (h : H b = some o) : (H.plus K) b = some o := by rw [plus_none (hK.none h)]; exact h
theorem plus_set {b : Nat} (h : K b = none) (o : Ob) : (H.set b o).plus K = (H.plus K).set b o := by
  funext i
  by_cases hi : i = b
  · subst hi; rw [plus_none h, Heap.set_same, Heap.set_same]
  · rw [Heap.set_ne _ _ hi]; simp only [Heap.plus]; split
    · rfl
    · rw [Heap.set_ne _ _ hi]
theorem plus_del {b : Nat} (h : K b = none) : (H.del b).plus K = (H.plus K).del b := by
  funext i
  by_cases hi : i = b
  · subst hi; rw [plus_none h, Heap.del_same, Heap.del_same]
  · rw [Heap.del_ne _ hi]; simp only [Heap.plus]; split
    · rfl
    · rw [Heap.del_ne _ hi]
theorem rm_in {H : Heap} {a b i : Nat} (h : a ≤ i ∧ i < b) : H.rm a b i = none := by unfold Heap.rm; exact if_pos h
theorem rm_out {H : Heap} {a b i : Nat} (h : ¬ (a ≤ i ∧ i < b)) : H.rm a b i = H i := by unfold Heap.rm; exact if_neg h
theorem plus_rm {a b : Nat} (h : ∀ i, a ≤ i → K i = none) : (H.rm a b).plus K = (H.plus K).rm a b := by
  funext i
  by_cases hi : a ≤ i ∧ i < b
  · rw [plus_none (h i hi.1), rm_in hi, rm_in hi]
  · rw [rm_out hi]; simp only [Heap.plus]; rw [rm_out hi]
theorem Off.step (hK : Off K n H) (ha : AbsOk lo n H n' H') : Off K n' H' := fun i o h => ⟨Nat.lt_of_lt_of_le (hK i o h).1 ha.1, ha.2.2.2 i (hK i o h).1 (hK i o h).2⟩
variable {P : Program} {ev : Operand → Option Value} {o : Oper} {v : Value}
theorem Step.frame (hK : Off K n H) (h : Step P lo ev n H o v n' H') : Step P lo ev n (H.plus K) o v n' (H'.plus K) := by
  cases h with
  | ground hsel hv hg hr => exact .ground hsel hv hg hr
  | move ho hx => exact .move ho hx
  | pick ho hc hv => exact .pick ho hc hv
  | alloc e ho hi hz hg => rw [plus_set (hK.new (Nat.le_refl _))]; exact .alloc e ho hi hz hg
  | box e ho hx hg => rw [plus_set (hK.new (Nat.le_refl _))]; exact .box e ho hx hg
  | load1 ho ht hd hx hb hk => exact .load1 ho ht hd hx (hK.get hb) hk
  | loadN ho ht hd hi hx hb hk hl => exact .loadN ho ht hd hi hx (hK.get hb) hk hl
  | store ho hi hx hy hsz hb hk hlo hbn h1 => rw [plus_set (hK.none hb)]; exact .store ho hi hx hy hsz (hK.get hb) hk hlo hbn h1
  | nilCheck ho hx => exact .nilCheck ho hx
  | nilCheckF ho hx => exact .nilCheckF ho hx
  | fieldAddr ho hs hf hi h0 hx => exact .fieldAddr ho hs hf hi h0 hx
  | field1 ho hs hf ht hd hx hv => exact .field1 ho hs hf ht hd hx hv
  | fieldN ho hs hf ht hd hi hx => exact .fieldN ho hs hf ht hd hi hx
  | indexAddrS ho ht hi hx hy h0 hj => exact .indexAddrS ho ht hi hx hy h0 hj
  | indexAddrA ho ht hi hx hy h0 hj => exact .indexAddrA ho ht hi hx hy h0 hj
  | indexA1 ho ht hi hd hd1 hx hy h0 hj hv => exact .indexA1 ho ht hi hd hd1 hx hy h0 hj hv
  | extract ho hx hv => exact .extract ho hx hv
  | mkIface ho ht hd hx => exact .mkIface ho ht hd hx
  | mkFunc ho hx hy => exact .mkFunc ho hx hy
  | len ho ht hx => exact .len ho ht hx
  | assert ho ht hd hx => exact .assert ho ht hd hx
theorem Src.frame (hK : Off K n H) {size : Nat} {u : TypeId} {y : Operand} {m : Nat} {l : List Value} (h : Src P ev H size u y m l) : Src P ev (H.plus K) size u y m l := by
  cases h with
  | slice hu hd hy hb hl hn => exact .slice hu hd hy (hK.get hb) hl hn
  | nil hu hd hy => exact .nil hu hd hy
  | str hu hd hs hy => exact .str hu hd hs hy
theorem StepM.frame (hK : Off K n H) (h : StepM P lo ev n H o v n' H') : StepM P lo ev n (H.plus K) o v n' (H'.plus K) := by
  have hnn := hK.new (Nat.le_refl _)
  cases h with
  | slice ho ht hi hx hb he' hm hmm hl hh hmx hlh hhm => exact .slice ho ht hi hx (hK.get hb) he' hm hmm hl hh hmx hlh hhm
  | sliceNil ho ht hi hx hl hh => exact .sliceNil ho ht hi hx hl hh
  | eqNil ho hop ht hx hy => exact .eqNil ho hop ht hx hy
  | capE ho ht hx hc => exact .capE ho ht hx hc
  | make ho ht hi hz hzs h0 hg hx hy hlc hb h63 => rw [plus_set hnn]; exact .make ho ht hi hz hzs h0 hg hx hy hlc hb h63
  | build ho ht hi hz hg hp hpl hfl => exact .build ho ht hi hz hg hp hpl hfl
  | buildA ho ht hi hz hie hg hp hfl => exact .buildA ho ht hi hz hie hg hp hfl
  | buildSlice ho ht hi hz hg hsz hlen hp h1 hzc hfl hcs => rw [plus_set hnn]; exact .buildSlice ho ht hi hz hg hsz hlen hp h1 hzc hfl hcs
  | append0 ho ht hi hx hsrc => exact .append0 ho ht hi hx (hsrc.frame hK)
  | appendI ho ht hi hx hsrc hb hlb hfit hlo hbn h1 hm0 hcu => rw [plus_set (hK.none hb)]; exact .appendI ho ht hi hx (hsrc.frame hK) (hK.get hb) hlb hfit hlo hbn h1 hm0 hcu
  | appendZ ho ht hu hi hz hzs h0 hg hx hy hm0 hby h63 => rw [plus_set hnn]; exact .appendZ ho ht hu hi hz hzs h0 hg hx hy hm0 hby h63
  | appendN ho ht hi hz hzs hx hsrc h1 hm0 hby h63 => rw [plus_set hnn]; exact .appendN ho ht hi hz hzs hx (hsrc.frame hK) h1 hm0 hby h63
  | appendG ho ht hi hz hzs hx hsrc hb hol holn hcap hgr h1 hby h63 => rw [plus_set hnn]; exact .appendG ho ht hi hz hzs hx (hsrc.frame hK) (hK.get hb) hol holn hcap hgr h1 hby h63
  | appendU ho ht hi hz hzs hx hsrc hb he' hol holn hcap hlo hbn hm0 h1 hby h63 hk => rw [plus_set hnn, plus_del (hK.none hb)]; exact .appendU ho ht hi hz hzs hx (hsrc.frame hK) (hK.get hb) he' hol holn hcap hlo hbn hm0 h1 hby h63 hk
  | copy ho ht hi hx hsrc hb hfit hlo hbn h1 => rw [plus_set (hK.none hb)]; exact .copy ho ht hi hx (hsrc.frame hK) (hK.get hb) hfit hlo hbn h1
  | clear ho ht hi hz hzs hx hb hfit hlo hbn hg hl0 => rw [plus_set (hK.none hb)]; exact .clear ho ht hi hz hzs hx (hK.get hb) hfit hlo hbn hg hl0
  | toBytes ho hs ht hel hx h63 => rw [plus_set hnn]; exact .toBytes ho hs ht hel hx h63
  | toStr ho hs ht hel hx hb hl hn => exact .toStr ho hs ht hel hx (hK.get hb) hl hn
  | toStrNil ho hs ht hel hx => exact .toStrNil ho hs ht hel hx
theorem ResV.frame {fr : Fr} {r : ResultVar} (hK : Off K n H) (h : ResV P H fr r v) : ResV P (H.plus K) fr r v := by
  cases h with
  | tmp h => exact .tmp h
  | cell1 ha ht hd hb hk => exact .cell1 ha ht hd (hK.get hb) hk
  | cellN ha ht hd hi hb hk hl => exact .cellN ha ht hd hi (hK.get hb) hk hl
theorem ResL.frame {fr : Fr} {rs : List ResultVar} {vs : List Value} (hK : Off K n H) (h : ResL P H fr rs vs) : ResL P (H.plus K) fr rs vs := by
  induction h with
  | nil => exact .nil
  | cons h hs ih => exact .cons (h.frame hK) ih
end
def J.frame (P : Program) (Δ : Prims) (K : Heap) : J → Prop
  | .op lo o fr n H v n' H' => lo ≤ n → Off K n H → D P Δ (.op lo o fr n (H.plus K) v n' (H'.plus K))
  | .ops lo all l fr n H e fr' n' H' => lo ≤ n → Off K n H → D P Δ (.ops lo all l fr n (H.plus K) e fr' n' (H'.plus K))
  | .code lo c fr n H e fr' n' H' => lo ≤ n → Off K n H → D P Δ (.code lo c fr n (H.plus K) e fr' n' (H'.plus K))
  | .call lo f args n H e n' H' => lo ≤ n → Off K n H → D P Δ (.call lo f args n (H.plus K) e n' (H'.plus K))
def Framed (Δ : Prims) : Prop := ∀ K lo f args n H e n' H', Δ lo f args n H e n' H' → lo ≤ n → Off K n H → Δ lo f args n (H.plus K) e n' (H'.plus K)
theorem noPrims_framed : Framed (fun _ _ _ _ _ _ _ _ => False) := fun _ _ _ _ _ _ _ _ _ h => h.elim
theorem D.frame {P : Program} {Δ : Prims} {K : Heap} (hΔ : ∀ lo f args n H e n' H', Δ lo f args n H e n' H' → lo ≤ n → AbsOk lo n H n' H') (hF : Framed Δ) {j : J} (h : D P Δ j) : j.frame P Δ K := by
  induction h with
  | step h => exact fun hl hK => .step (h.frame hK)
  | stepM h => exact fun hl hK => .stepM (h.frame hK)
  | callF ho hx ha hfn hname hbody h1 h2 h ih => exact fun hl hK => .callF ho hx ha hfn hname hbody h1 h2 (ih h2 hK)
  | nil => exact fun _ _ => .nil
  | skip hw h ih => exact fun hl hK => .skip hw (ih hl hK)
  | cons hw h1 h ih1 ih => exact fun hl hK => have a := h1.abs hΔ hl; .cons hw (ih1 hl hK) (ih (Nat.le_trans hl a.1) (hK.step a))
  | pan hw ho hx => exact fun _ _ => .pan hw ho hx
  | panCall hw ho hx ha hfn hname hbody h1 h2 h ih => exact fun hl hK => .panCall hw ho hx ha hfn hname hbody h1 h2 (ih h2 hK)
  | cskip => exact fun _ _ => .cskip
  | ret => exact fun _ _ => .ret
  | exit => exact fun _ _ => .exit
  | seqN h1 h2 i1 i2 => exact fun hl hK => have a := h1.abs hΔ hl; .seqN (i1 hl hK) (i2 (Nat.le_trans hl a.1) (hK.step a))
  | seqE h1 he ih => exact fun hl hK => .seqE (ih hl hK) he
  | cond hc h ih => exact fun hl hK => .cond hc (ih hl hK)
  | block h ih => exact fun hl hK => .block (ih hl hK)
  | loopN h1 h2 i1 i2 => exact fun hl hK => have a := h1.abs hΔ hl; .loopN (i1 hl hK) (i2 (Nat.le_trans hl a.1) (hK.step a))
  | loopE h1 he ih => exact fun hl hK => .loopE (ih hl hK) he
  | region h ih => exact fun hl hK => .region (ih hl hK)
  | regionD r isW wk fr n H v hchk hw hfr hskip hrun hlate ih =>
    rename_i lo id ops
    intro hl hK
    have key : ∀ k, k ≤ ops.size → n 0 ≤ n k ∧ Off K (n k) (H k) := by
      intro k
      induction k with
      | zero => exact fun _ => ⟨Nat.le_refl _, hK⟩
      | succ k ihk =>
        intro hk
        obtain ⟨h0, h1⟩ := ihk (by omega)
        cases hwk : wk k with
        | false =>
          obtain ⟨_, a, b⟩ := hskip k (by omega) hwk
          rw [a, b]; exact ⟨h0, h1⟩
        | true =>
          have a := (hrun k (by omega) hwk).abs hΔ
          simp only [J.abs] at a
          have a' := a (by split <;> omega)
          exact ⟨Nat.le_trans h0 a'.1, h1.step a'⟩
    have := D.regionD (P := P) (Δ := Δ) (lo := lo) (id := id) (ops := ops) r isW wk fr n (fun k => (H k).plus K) v hchk hw hfr (fun k hk hwk => ?_) (fun k hk hwk => ?_) (fun k c hkc hc hcw hiw hfl hwk => ?_)
    · exact this
    · obtain ⟨a, b, c⟩ := hskip k hk hwk
      exact ⟨a, b, by rw [c]⟩
    · obtain ⟨h0, h1⟩ := key k (by omega)
      have := ih k hk hwk
      simp only [J.frame] at this
      exact this (by split <;> omega) h1
    · obtain ⟨h0, h1⟩ := key k (by omega)
      obtain ⟨h0c, h1c⟩ := key c hc
      have hoff : Off K (n k) ((H c).rm (n k) (n (k + 1))) := fun i o hi => ⟨(h1 i o hi).1, by simp only [Heap.rm]; rw [if_neg (by have := (h1 i o hi).1; omega)]; exact (h1c i o hi).2⟩
      rw [← plus_rm (fun i hi => h1.new hi)]
      exact (hlate k c hkc hc hcw hiw hfl hwk).imp (fun h => h.frame hoff) (fun h => h.frame hoff)
  | weak hle h ih => exact fun hl hK => .weak hle (ih hl hK)
  | drop h hle ih => exact fun hl hK => .drop (ih hl hK) hle
  | weakL hle h ih => exact fun hl hK => .weakL hle (ih hl hK)
  | body hfn hb hd h he hr ih => exact fun hl hK => .body hfn hb hd (ih hl hK) he (hr.frame (hK.step (h.abs hΔ hl)))
  | bodyPan hfn hb hd h ih => exact fun hl hK => .bodyPan hfn hb hd (ih hl hK)
  | prim h => exact fun hl hK => .prim (hF _ _ _ _ _ _ _ _ _ h hl hK)
noncomputable def Heap.vis (H : Heap) (n : Nat) (S : Nat → Prop) : Heap := fun i => open Classical in if i < n ∧ ¬ S i then none else H i
noncomputable def Heap.hid (H : Heap) (n : Nat) (S : Nat → Prop) : Heap := fun i => open Classical in if i < n ∧ ¬ S i then H i else none
theorem vis_in {H : Heap} {n : Nat} {S : Nat → Prop} {i : Nat} (h : S i) : H.vis n S i = H i := by simp [Heap.vis, h]
theorem vis_out {H : Heap} {n : Nat} {S : Nat → Prop} {i : Nat} (h : i < n) (hs : ¬ S i) : H.vis n S i = none := by simp [Heap.vis, h, hs]
theorem vis_new {H : Heap} {n : Nat} {S : Nat → Prop} {i : Nat} (h : n ≤ i) : H.vis n S i = H i := by simp only [Heap.vis]; rw [if_neg (by omega)]
theorem hid_out {H : Heap} {n : Nat} {S : Nat → Prop} {i : Nat} (h : i < n) (hs : ¬ S i) : H.hid n S i = H i := by simp [Heap.hid, h, hs]
theorem hid_some {H : Heap} {n : Nat} {S : Nat → Prop} {i : Nat} {o : Ob} (h : H.hid n S i = some o) : i < n ∧ ¬ S i ∧ H i = some o := by
  simp only [Heap.hid] at h; split at h
  · rename_i hc; exact ⟨hc.1, hc.2, h⟩
  · cases h
theorem off_hid {H : Heap} {n : Nat} {S : Nat → Prop} : Off (H.hid n S) n (H.vis n S) := fun i o h => by
  obtain ⟨h1, h2, h3⟩ := hid_some h
  exact ⟨h1, vis_out h1 h2⟩
theorem plus_vis (H : Heap) (n : Nat) (S : Nat → Prop) : (H.vis n S).plus (H.hid n S) = H := by
  funext i
  simp only [Heap.plus, Heap.vis, Heap.hid]
  by_cases h : i < n ∧ ¬ S i
  · simp only [if_pos h]; cases H i <;> rfl
  · simp only [if_neg h]
theorem C.frame {P : Program} {Δ : Prims} (g : Good P Δ) (hF : Framed Δ) {lo n : Nat} {f : FuncId} {args : List Value} {H : Heap} {R : Value → Nat → Heap → Prop} (S : Nat → Prop) (hlo : lo ≤ n) (h : C P Δ lo f args n (H.vis n S) R) :
    C P Δ lo f args n H fun v n' H' => ∃ H1, R v n' H1 ∧ n ≤ n' ∧ H1.Le H' ∧ (∀ i, i < n → ¬ S i → H' i = H i) ∧ (∀ i, n ≤ i → H' i = H1 i) ∧ (∀ i, i < n → ¬ S i → H1 i = none) ∧ (∀ i, i < lo → H' i = H i) := by
  obtain ⟨v, n', H1, d, r⟩ := h
  have a := d.abs g.abs hlo
  have d2 := d.frame (K := H.hid n S) g.abs hF hlo off_hid
  rw [plus_vis] at d2
  refine ⟨v, n', _, d2, H1, r, a.1, fun i o hi => ?_, fun i hi hs => ?_, fun i hi => ?_, fun i hi hs => a.2.2.2 i hi (vis_out hi hs), (d2.abs g.abs hlo).2.1⟩
  · have hoff := (off_hid (H := H) (S := S) (n := n)).step a
    exact hoff.get hi
  · cases e : H i with
    | some o => simp [Heap.plus, hid_out hi hs, e]
    | none =>
      have hh : H.hid n S i = none := by rw [hid_out hi hs]; exact e
      rw [plus_none hh]
      exact a.2.2.2 i hi (vis_out hi hs)
  · have hh : H.hid n S i = none := by
      cases e : H.hid n S i with
      | none => rfl
      | some o => have := (hid_some e).1; omega
    rw [plus_none hh]
end Go.Proofs.YtmodhnkjimpkbaaAb
