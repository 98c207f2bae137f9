import Derived.Test.YtmodhnkjimpkbaaAbMem
set_option linter.all false
namespace Go.Proofs.YtmodhnkjimpkbaaAb
open Go
section
variable {P : Program} {β lo n : Nat} {ρ : Rho} {H : Heap} {w : World} {evc : Operand → Value}
theorem int_inv {ev : Operand → Option Value} (he : EvR ρ ev evc) {y : Operand} {q : IntKind} {j : Int} (h : ev y = some (.int q j)) : evc y = .int q j := by
  have := he _ _ h; generalize evc y = z at this; cases this; rfl
theorem run_isInt {u : TypeId} {d : TypeDesc} (h : P.underlying u = some d) (hd : isInt d = false) (w : World) :
    (do pure ((← underlying u) matches .int _) : Sem Bool).run P w = .ok false w := by
  simp only [Sem.run_bind, run_underlying h, Result.andThen_ok]
  cases d <;> first | rfl | simp [isInt] at hd
theorem run_append_fit {t u ty e : TypeId} {i : TypeInfo} {d : TypeDesc} (ht : P.underlying t = some (.slice e)) (hu : P.underlying u = some d) (hd : isInt d = false) (hi : P.info? e = some i) {x : Value} {a : Addr} {sLen sCap m : Nat} {l : List Value} {w' : World}
    (hlen : (Builtin.lenOf x).run P w = .ok m w) (hfirst : (Builtin.firstCells i.size m x).run P w = .ok l.toArray w) (hst : (storeCells (a.add (sLen * i.size)) l).run P w = .ok () w') (hroom : sLen + m ≤ sCap) :
    (Builtin.append_ #[t, u] ty #[.slice (some a) sLen sCap, x]).run P w = .ok (.slice (some a) (sLen + m) sCap) w' := by
  have hz := run_isInt (P := P) hu hd w
  simp only [Sem.run_bind, run_underlying hu, Result.andThen_ok] at hz
  simp [Builtin.append_, run_underlying ht, sizeOf, typeInfo, hi, run_underlying hu]
  cases d <;> first | (simp [isInt] at hd; done) | simp [hlen, hroom, hfirst, hst]
theorem run_append_same {t u ty e : TypeId} {i : TypeInfo} {d : TypeDesc} (ht : P.underlying t = some (.slice e)) (hu : P.underlying u = some d) (hd : isInt d = false) (hi : P.info? e = some i) {x : Value} {a : Option Addr} {sLen sCap : Nat}
    (hlen : (Builtin.lenOf x).run P w = .ok 0 w) (hfirst : (Builtin.firstCells i.size 0 x).run P w = .ok #[] w) (hroom : sLen ≤ sCap) :
    (Builtin.append_ #[t, u] ty #[.slice a sLen sCap, x]).run P w = .ok (.slice a sLen sCap) w := by
  simp [Builtin.append_, run_underlying ht, sizeOf, typeInfo, hi, run_underlying hu]
  cases d <;> first | (simp [isInt] at hd; done) | (cases a <;> simp [hlen, hroom, hfirst, storeCells])
theorem run_append_new {t u ty e : TypeId} {i : TypeInfo} {z : Value} {d : TypeDesc} (ht : P.underlying t = some (.slice e)) (hu : P.underlying u = some d) (hd : isInt d = false) (hi : P.info? e = some i) (hz : i.zero = some z) {x : Value} {a : Option Addr} {sLen sCap m : Nat} {olds l : List Value}
    (hlen : (Builtin.lenOf x).run P w = .ok m w) (hfirst : (Builtin.firstCells i.size m x).run P w.drew = .ok l.toArray w.drew) (hold : (Builtin.firstCells i.size sLen (.slice a sLen sCap)).run P w.drew = .ok olds.toArray w.drew)
    (hgr : sCap < sLen + m) (hby : (sLen + m) * i.bytes ≤ 140737488355328) (h63 : sLen + m < UNK) :
    (Builtin.append_ #[t, u] ty #[.slice a sLen sCap, x]).run P w =
      .ok (.slice (some ⟨w.heap.size, 0, none⟩) (sLen + m) (grownCap w (sLen + m) sCap e)) (w.drew.alloc (.cells (olds.toArray ++ (l.toArray ++ Builtin.zeroCells z.cells (grownCap w (sLen + m) sCap e - (sLen + m)))) e)) := by
  have hn : ¬ (sLen + m ≤ sCap) := by omega
  have h63' : ¬ (9223372036854775807 < ((sLen : Int) + (m : Int))) := by unfold UNK at h63; omega
  have h48 := growslice_fits (bytes := i.bytes) hgr hby
  have h48' : ¬ (281474976710656 < Builtin.nextslicecap (sLen + m) sCap * i.bytes) := by omega
  simp [Builtin.append_, run_underlying ht, sizeOf, typeInfo, hi, run_underlying hu]
  cases d <;> first
    | (simp [isInt] at hd; done)
    | (simp [hlen, hn, h63', h48', Question.forced, hfirst, hold, zeroValue, typeInfo, hi, hz, newRow, grownCap])
theorem run_append_zeros {t u ty e : TypeId} {i : TypeInfo} {z : Value} {q qk : IntKind} (ht : P.underlying t = some (.slice e)) (hu : P.underlying u = some (.int qk)) (hi : P.info? e = some i) (hz : i.zero = some z) {m : Nat} (hm0 : 0 < m) (h0 : 0 < i.size) (hby : m * i.bytes ≤ 140737488355328) (h63 : m < UNK) :
    (Builtin.append_ #[t, u] ty #[.slice none 0 0, .int q (m : Int)]).run P w =
      .ok (.slice (some ⟨w.heap.size, 0, none⟩) m (grownCap w m 0 e)) (w.drew.alloc (.cells (([] : List Value).toArray ++ (Builtin.zeroCells z.cells m ++ Builtin.zeroCells z.cells (grownCap w m 0 e - m))) e)) := by
  have hm : m ≠ 0 := by omega
  have hw : IntKind.wrap .i64 (m : Int) = m := by
    have e1 : (2 : Int) ^ 64 = 18446744073709551616 := by decide
    have e2 : (2 : Int) ^ (64 - 1) = 9223372036854775808 := by decide
    unfold UNK at h63
    simp only [IntKind.wrap, IntKind.bits, IntKind.signed, Bool.true_and, e1, e2, decide_eq_true_eq]
    split <;> omega
  have h63' : ¬ (9223372036854775807 < (m : Int)) := by unfold UNK at h63; omega
  have hb' : ¬ (281474976710656 < (m : Int) * (i.bytes : Int)) := by
    have h1 : ((m * i.bytes : Nat) : Int) ≤ 140737488355328 := by omega
    rw [Int.natCast_mul] at h1; omega
  have hms : ¬ (m * i.size = 0) := by
    have := Nat.mul_pos hm0 h0; omega
  have h48 := growslice_fits (old := 0) (bytes := i.bytes) (need := m) hm0 hby
  have h48' : ¬ (281474976710656 < Builtin.nextslicecap m 0 * i.bytes) := by omega
  have hneg : ¬ ((m : Int) < 0) := by omega
  have hsz : ¬ (i.size = 0) := by omega
  simp [Builtin.append_, run_underlying ht, sizeOf, typeInfo, hi, run_underlying hu, asInt, asIntOf, hw, hneg, hb', hm, hsz, h63', h48', Question.forced, zeroValue, hz, newRow, grownCap, Builtin.firstCells]
  intro h; exact absurd h hms
theorem le_grownCap (w : World) (need old : Nat) (e : TypeId) : need ≤ grownCap w need old e := by
  unfold grownCap Question.cut
  simp
theorem fill_places (f g : Nat → Option (Nat × Nat)) (h : ∀ j, f j = g j) : ∀ (c : Array Value) (ps : List (Nat × Value)), Instr.fill f c ps = Instr.fill g c ps
  | c, [] => rfl
  | c, (i, v) :: r => by
    simp only [Instr.fill, h i]
    cases g i with
    | none => rfl
    | some p =>
      obtain ⟨o, s⟩ := p
      simp only
      split
      · rfl
      · exact fill_places f g h _ r
theorem foldl_set_rel {β : Type} : ∀ (l l' : List (Value × Nat)) (c c' : Array Value), c.size = c'.size → l.length = l'.length → (∀ (k : Nat) v v', c[k]? = some v → c'[k]? = some v' → VR ρ v v') →
    (∀ (k : Nat) p p', l[k]? = some p → l'[k]? = some p' → VR ρ p.1 p'.1 ∧ p.2 = p'.2) → ∀ o : Nat,
    (l.foldl (fun cs x => cs.setIfInBounds (o + x.2) x.1) c).size = (l'.foldl (fun cs x => cs.setIfInBounds (o + x.2) x.1) c').size ∧
      ∀ (k : Nat) v v', (l.foldl (fun cs x => cs.setIfInBounds (o + x.2) x.1) c)[k]? = some v → (l'.foldl (fun cs x => cs.setIfInBounds (o + x.2) x.1) c')[k]? = some v' → VR ρ v v'
  | [], [], c, c', hs, _, hc, _, o => ⟨hs, hc⟩
  | [], _ :: _, _, _, _, h, _, _, _ => by simp at h
  | _ :: _, [], _, _, _, h, _, _, _ => by simp at h
  | x :: l, x' :: l', c, c', hs, hl, hc, hp, o => by
    obtain ⟨h1, h2⟩ := hp 0 x x' rfl rfl
    refine foldl_set_rel (β := β) l l' (c.setIfInBounds (o + x.2) x.1) (c'.setIfInBounds (o + x'.2) x'.1) (by simp [hs]) (by simpa using hl) (fun k v v' hv hv' => ?_) (fun k p p' a b => hp (k + 1) p p' (by simpa using a) (by simpa using b)) o
    rw [← h2] at hv'
    rw [Array.getElem?_setIfInBounds] at hv hv'
    by_cases hk : o + x.2 = k
    · rw [if_pos hk] at hv hv'
      by_cases hin : o + x.2 < c.size
      · rw [if_pos hin] at hv
        rw [if_pos (by omega)] at hv'
        rw [← Option.some.inj hv, ← Option.some.inj hv']; exact h1
      · rw [if_neg hin] at hv; cases hv
    · rw [if_neg hk] at hv hv'
      exact hc k v v' hv hv'
theorem fill_rel (place : Nat → Option (Nat × Nat)) : ∀ (ps ps' : List (Nat × Value)) (c c' out : Array Value), c.size = c'.size → (∀ (k : Nat) v v', c[k]? = some v → c'[k]? = some v' → VR ρ v v') →
    ps.length = ps'.length → (∀ (k : Nat) p p', ps[k]? = some p → ps'[k]? = some p' → p.1 = p'.1 ∧ VR ρ p.2 p'.2) → Instr.fill place c ps = some out →
    ∃ out', Instr.fill place c' ps' = some out' ∧ out.size = out'.size ∧ ∀ (k : Nat) v v', out[k]? = some v → out'[k]? = some v' → VR ρ v v'
  | [], [], c, c', out, hs, hc, _, _, h => by simp [Instr.fill] at h ⊢; subst h; exact ⟨hs, hc⟩
  | [], _ :: _, _, _, _, _, _, h, _, _ => by simp at h
  | _ :: _, [], _, _, _, _, _, h, _, _ => by simp at h
  | (i, v) :: ps, (i', v') :: ps', c, c', out, hs, hc, hl, hp, h => by
    obtain ⟨h1, h2⟩ := hp 0 (i, v) (i', v') rfl rfl
    simp only at h1 h2
    subst h1
    obtain ⟨l1, l2⟩ := h2.cells
    have hsz : v'.cells.size = v.cells.size := by simpa [Cells] using l1
    simp only [Instr.fill] at h ⊢
    cases hpl : place i with
    | none => rw [hpl] at h; cases h
    | some q =>
      obtain ⟨off, size⟩ := q
      rw [hpl] at h
      simp only at h ⊢
      split at h
      · cases h
      · rename_i hcond
        rw [if_neg (by rw [hsz, ← hs]; exact hcond)]
        have hz : ∀ (k : Nat) (p p' : Value × Nat), v.cells.zipIdx.toList[k]? = some p → v'.cells.zipIdx.toList[k]? = some p' → VR ρ p.1 p'.1 ∧ p.2 = p'.2 := by
          intro k p p' hp hp'
          simp only [Array.toList_zipIdx, List.getElem?_zipIdx, Option.map_eq_some_iff] at hp hp'
          obtain ⟨a, ha, rfl⟩ := hp
          obtain ⟨a', ha', rfl⟩ := hp'
          obtain ⟨u', e1, e2⟩ := l2 k a (by simpa [Cells] using ha)
          have : a' = u' := by
            simp only [Cells] at e1
            rw [e1] at ha'; exact (Option.some.inj ha').symm
          exact ⟨by rw [this]; exact e2, rfl⟩
        have hfold := foldl_set_rel (β := Unit) v.cells.zipIdx.toList v'.cells.zipIdx.toList c c' hs (by simp [hsz]) hc hz off
        simp only [Array.foldl_toList] at hfold
        exact fill_rel place ps ps' _ _ out hfold.1 hfold.2 (by simpa using hl) (fun k p p' a b => hp (k + 1) p p' (by simpa using a) (by simpa using b)) h
theorem parts_rel {ev : Operand → Option Value} (he : EvR ρ ev evc) : ∀ (ps : List (Nat × Operand)) (parts : List (Nat × Value)), ps.mapM (fun p => (ev p.2).map fun v => (p.1, v)) = some parts →
    parts.length = ps.length ∧ ∀ (k : Nat) (p p' : Nat × Value), parts[k]? = some p → (ps.map fun x => (x.1, evc x.2))[k]? = some p' → p.1 = p'.1 ∧ VR ρ p.2 p'.2
  | [], parts, h => by simp at h; subst h; simp
  | x :: ps, parts, h => by
    simp only [List.mapM_cons, bind, pure, Option.bind_eq_some_iff, Option.map_eq_some_iff] at h
    obtain ⟨q, ⟨v, hv, rfl⟩, r, hr, ha⟩ := h
    obtain rfl := Option.some.inj ha
    obtain ⟨i1, i2⟩ := parts_rel he ps r hr
    refine ⟨by simp [i1], fun k p p' hk hk' => ?_⟩
    cases k with
    | zero => simp at hk hk'; subst hk; subst hk'; exact ⟨rfl, he _ _ hv⟩
    | succ k => exact i2 k p p' (by simpa using hk) (by simpa using hk')
theorem run_mapM_places {fs : List Field} : ∀ {l : List (Nat × Nat)}, fs.mapM (fun f => (P.info? f.type).map fun i => (f.offset, i.size)) = some l →
    ∀ w, (fs.mapM (fun (f : Field) => do pure (f.offset, ← sizeOf f.type) : Field → Sem (Nat × Nat))).run P w = .ok l w := by
  induction fs with
  | nil => intro l h w; simp at h; subst h; simp
  | cons f fs ih =>
    intro l h w
    simp only [List.mapM_cons, bind, pure, Option.bind_eq_some_iff, Option.map_eq_some_iff] at h
    obtain ⟨q, ⟨i, hi, rfl⟩, r, hr, ha⟩ := h
    obtain rfl := Option.some.inj ha
    have := ih hr w
    rw [List.mapM_cons]
    simp only [Sem.run_bind, sizeOf, typeInfo]
    simp [hi]
    simp only [sizeOf, typeInfo] at this
    simp at this
    simp [this]
end
end Go.Proofs.YtmodhnkjimpkbaaAb
