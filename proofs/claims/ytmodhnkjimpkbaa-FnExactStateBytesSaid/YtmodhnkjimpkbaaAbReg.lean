import Derived.Test.YtmodhnkjimpkbaaAbEv
set_option linter.all false
namespace Go.Proofs.YtmodhnkjimpkbaaAb
open Go
inductive Reach (ops : Array Oper) : Nat → Nat → Prop
  | edge {i j : Nat} {o : Oper} {e : Edge} (ho : ops[j]? = some o) (he : e ∈ o.after) (hb : Region.binds .any e = true) (hi : e.on = i) : Reach ops i j
  | more {i k j : Nat} {o : Oper} {e : Edge} (h : Reach ops i k) (ho : ops[j]? = some o) (he : e ∈ o.after) (hb : Region.binds .any e = true) (hi : e.on = k) : Reach ops i j
theorem edgeBits_bit (acc : Array Nat) (i : Nat) : ∀ (l : List Edge) (s : Nat), (l.foldl (fun s e => if Region.binds .any e then s ||| 2 ^ e.on ||| acc.getD e.on 0 else s) s).testBit i = true →
    s.testBit i = true ∨ ∃ e ∈ l, Region.binds .any e = true ∧ (e.on = i ∨ (acc.getD e.on 0).testBit i = true)
  | [], s, h => .inl h
  | e :: l, s, h => by
    simp only [List.foldl_cons] at h
    rcases edgeBits_bit acc i l _ h with h | ⟨e', h1, h2, h3⟩
    · split at h
      · rename_i hb
        simp only [Nat.testBit_or, Bool.or_eq_true, Nat.testBit_two_pow, decide_eq_true_eq] at h
        rcases h with (h | h) | h
        · exact .inl h
        · exact .inr ⟨e, by simp, hb, .inl h⟩
        · exact .inr ⟨e, by simp, hb, .inr h⟩
      · exact .inl h
    · exact .inr ⟨e', by simp [h1], h2, h3⟩
theorem closL_reach (ops : Array Oper) : ∀ (l : List Oper) (acc : Array Nat), (∀ k, l[k]? = ops[acc.size + k]?) → (∀ j i, (acc.getD j 0).testBit i = true → Reach ops i j) → ∀ j i, ((closL l acc).getD j 0).testBit i = true → Reach ops i j
  | [], acc, _, h => h
  | o :: l, acc, hl, h => by
    refine closL_reach ops l _ (fun k => ?_) (fun j i hb => ?_)
    · have := hl (k + 1)
      rw [Array.size_push, List.getElem?_cons_succ] at *
      rw [this]; congr 1; omega
    · by_cases hj : j < acc.size
      · have : (acc.push (edgeBits acc o)).getD j 0 = acc.getD j 0 := by
          simp [Array.getD_eq_getD_getElem?, Array.getElem?_push, Nat.ne_of_lt hj]
        rw [this] at hb
        exact h j i hb
      · by_cases hj2 : j = acc.size
        · subst hj2
          have : (acc.push (edgeBits acc o)).getD acc.size 0 = edgeBits acc o := by simp [Array.getD_eq_getD_getElem?]
          rw [this] at hb
          have ho : ops[acc.size]? = some o := by simpa using (hl 0).symm
          rcases edgeBits_bit acc i o.after.toList 0 hb with h0 | ⟨e, h1, h2, h3⟩
          · simp at h0
          · rcases h3 with h3 | h3
            · exact .edge ho (by simpa using h1) h2 h3
            · exact .more (h _ _ h3) ho (by simpa using h1) h2 rfl
        · have : (acc.push (edgeBits acc o)).getD j 0 = 0 := by
            rw [Array.getD_eq_getD_getElem?, Array.getElem?_eq_none (by simp; omega)]; rfl
          rw [this] at hb
          simp at hb
theorem reach_of_depB {ops : Array Oper} {i j : Nat} (h : depB (clos ops) i j = true) : Reach ops i j :=
  closL_reach ops ops.toList #[] (fun k => by simp) (fun j i hb => by simp at hb) j i h
def Closed (ops : Array Oper) (listed : Array Bool) : Prop := ∀ j o, ops[j]? = some o → listed.getD j false = true → ∀ e ∈ o.after, Region.binds .any e = true → listed.getD e.on false = true
theorem Reach.listed {ops : Array Oper} {listed : Array Bool} (hc : Closed ops listed) {i j : Nat} (h : Reach ops i j) : listed.getD j false = true → listed.getD i false = true := by
  induction h with
  | edge ho he hb hi => intro hj; rw [← hi]; exact hc _ _ ho hj _ he hb
  | more h ho he hb hi ih => intro hj; exact ih (by rw [← hi]; exact hc _ _ ho hj _ he hb)
theorem Reach.ready {ops : Array Oper} {listed : Array Bool} (hc : Closed ops listed) {i j : Nat} (h : Reach ops i j) (hr : j ∈ Region.ready .any ops listed) : listed.getD i false = true := by
  obtain ⟨_, o', ho', hall⟩ := mem_ready.1 hr
  cases h with
  | edge ho he hb hi =>
    rw [ho] at ho'; obtain rfl := Option.some.inj ho'
    rw [← hi]; exact hall _ he hb
  | more h ho he hb hi =>
    rw [ho] at ho'; obtain rfl := Option.some.inj ho'
    exact h.listed hc (by rw [← hi]; exact hall _ he hb)
section
variable {ops : Array Oper} {r : List Nat} {isW : Nat → Bool}
structure RegFacts (ops : Array Oper) (r : List Nat) (isW : Nat → Bool) : Prop where
  onto : ∀ i, i < ops.size → ∃ k, k < ops.size ∧ r.getD k 0 = i
  into : ∀ k, k < ops.size → r.getD k 0 < ops.size
  inj : ∀ k j, k < ops.size → j < ops.size → r.getD j 0 = r.getD k 0 → j = k
  direct : ∀ k, k < ops.size → ∀ e ∈ (ops.getD (r.getD k 0) default).after, Region.binds .any e = true → ∃ j, j < k ∧ r.getD j 0 = e.on
  ahead : ∀ k j, k < ops.size → j < ops.size → depB (clos ops) (r.getD j 0) (r.getD k 0) = true → j < k
  writer : ∀ k j, k < ops.size → j < ops.size → isW j = true → j < k → depB (clos ops) (r.getD j 0) (r.getD k 0) = true
  slots : ∀ k j, k < ops.size → j < ops.size → j ≠ k → ∀ t, (ops.getD (r.getD j 0) default).dst = some t →
    (ops.getD (r.getD k 0) default).dst ≠ some t ∧ (t ∈ (ops.getD (r.getD k 0) default).looksAt ops → depB (clos ops) (r.getD j 0) (r.getD k 0) = true ∨ depB (clos ops) (r.getD k 0) (r.getD j 0) = true)
theorem regFacts (h : regOK ops r isW = true) : RegFacts ops r isW := by
  simp only [regOK, Bool.and_eq_true, List.all_eq_true, List.mem_range, beq_iff_eq, decide_eq_true_eq, Bool.or_eq_true, Bool.not_eq_true', bne_iff_ne, Bool.not_eq_eq_eq_not, Bool.not_true] at h
  obtain ⟨⟨⟨⟨h1, h2⟩, h3⟩, h4⟩, h5⟩ := h
  have hget : ∀ k, k < ops.size → r[k]? = some (r.getD k 0) := fun k hk => by
    rw [List.getElem?_eq_getElem (by omega)]; simp [List.getD, List.getElem?_eq_getElem (show k < r.length by omega)]
  refine ⟨fun i hi => ?_, fun k hk => ?_, fun k j hk hj e => ?_, fun k hk e he hb => ?_, fun k j hk hj hd => ?_, fun k j hk hj hw hjk => ?_, fun k j hk hj hne t ht => ?_⟩
  · have := h2 i hi
    rw [List.contains_iff_mem] at this
    obtain ⟨k, hk⟩ := List.getElem?_of_mem this
    have hkl := (List.getElem?_eq_some_iff.1 hk).1
    exact ⟨k, by omega, by rw [hget k (by omega)] at hk; exact Option.some.inj hk⟩
  · exact h3 _ (List.mem_of_getElem? (hget k hk))
  · rcases (h5 k hk j hj).1.1.1 with h | h
    · exact h
    · exact absurd e h
  · rcases h4 k hk e (by simpa using he) with h | h
    · rw [hb] at h; cases h
    · rw [List.contains_iff_mem] at h
      obtain ⟨j, hj⟩ := List.getElem?_of_mem h
      have hjl := (List.getElem?_eq_some_iff.1 hj).1
      rw [List.length_take] at hjl
      rw [List.getElem?_take_of_lt (by omega), hget j (by omega)] at hj
      exact ⟨j, by omega, Option.some.inj hj⟩
  · rcases (h5 k hk j hj).1.1.2 with h | h
    · rw [hd] at h; cases h
    · exact h
  · rcases (h5 k hk j hj).1.2 with h | h
    · simp [hw, hjk] at h
    · exact h
  · rcases (h5 k hk j hj).2 with h | h
    · exact absurd h hne
    · rw [ht] at h
      simp only [Bool.and_eq_true, bne_iff_ne, ne_eq, Bool.or_eq_true, Bool.not_eq_true', ← Bool.not_eq_true, List.contains_iff_mem] at h
      refine ⟨h.1, fun hl => ?_⟩
      rcases h.2 with (h | h) | h
      · exact absurd hl h
      · exact .inl h
      · exact .inr h
end
def OpSnd (P : Program) (β lo : Nat) (o : Oper) (fr : Fr) (n : Nat) (H : Heap) (v : Value) (n' : Nat) (H' : Heap) : Prop :=
  ∀ (ρ : Rho) (a : Act) (w : World), (∀ x ∈ o.op.operands, ∀ u, fr.eval x = some u → VR ρ u (a.eval x)) → Sim β ρ H w → (∀ i, n ≤ i → H i = none) → (∀ i, n ≤ i → i < n' → ρ i = none) →
    ∀ (K : Act → World → Prop) (Q : Exit → Act → World → Prop), (∀ ρ' v' w', VR ρ' v v' → Ok β lo ρ n H w ρ' n' H' w' → K (a.put o.dst v') w') → o.wp P a w K Q
def OpSnd0 (P : Program) (β lo : Nat) (o : Oper) (fr : Fr) (n : Nat) (H : Heap) (v : Value) (n' : Nat) (H' : Heap) : Prop :=
  ∀ (ρ : Rho) (a : Act) (w : World), (∀ x ∈ o.op.operands, ∀ u, fr.eval x = some u → VR ρ u (a.eval x)) → Sim β ρ H w → (∀ i, n ≤ i → i < n' → ρ i = none) →
    ∀ (K : Act → World → Prop) (Q : Exit → Act → World → Prop), (∀ ρ' v' w', VR ρ' v v' → Ok β lo ρ n H w ρ' n' H' w' → K (a.put o.dst v') w') → o.wp P a w K Q
theorem Sim.of_same {β : Nat} {ρ : Rho} {H H' : Heap} {w : World} (h : Sim β ρ H w) (he : ∀ i s o, ρ i = some s → H' i = some o → H i = some o) : Sim β ρ H' w := by
  have live : ∀ i s, ρ i = some s → (H' i).isSome → (H i).isSome := fun i s hr hl => by
    obtain ⟨o, ho⟩ := Option.isSome_iff_exists.1 hl
    simp [he i s o hr ho]
  exact ⟨fun i e c s ho hr => h.row i e c s (he i s _ hr ho) hr, fun i es s ho hr => h.mp i es s (he i s _ hr ho) hr,
    fun i j s s' hi hj hr hr' hb hβ => h.inj i j s s' (live i s hr hi) (live j s' hr' hj) hr hr' hb hβ⟩
theorem Sim.join {β : Nat} {ρ ρ' : Rho} {H K H' : Heap} {w w' : World} {a b : Nat} (h : Sim β ρ H w) (h' : Sim β ρ' K w') (hle : ρ.le ρ') (heq : ∀ i, (i < a ∨ b ≤ i) → ρ' i = ρ i)
    (hkeep : ∀ B, B < w.heap.size → w'.heap[B]? = w.heap[B]?) (hnew : ∀ i s, a ≤ i → i < b → ρ' i = some s → w.heap.size ≤ s.blk)
    (hK : ∀ i s o, a ≤ i → i < b → ρ' i = some s → H' i = some o → K i = some o) (hH : ∀ i s o, (i < a ∨ b ≤ i) → ρ i = some s → H' i = some o → H i = some o) : Sim β ρ' H' w' := by
  have cases : ∀ i, (a ≤ i ∧ i < b) ∨ (i < a ∨ b ≤ i) := fun i => by omega
  refine ⟨fun i e c s ho hr => ?_, fun i es s ho hr => ?_, fun i j s s' hi hj hr hr' hb hβ => ?_⟩
  · rcases cases i with ⟨h1, h2⟩ | h1
    · exact h'.row i e c s (hK i s _ h1 h2 hr ho) hr
    · rw [heq i h1] at hr
      obtain ⟨cc, T, fz, a1, a2, a3, a4, a5, a6, a7⟩ := h.row i e c s (hH i s _ h1 hr ho) hr
      exact ⟨cc, T, fz, by rw [hkeep _ (Array.getElem?_eq_some_iff.1 a1).1]; exact a1, a2, a3, a4, fun k v hk => by obtain ⟨v', x, y⟩ := a5 k v hk; exact ⟨v', x, y.mono hle⟩, a6, a7⟩
  · rcases cases i with ⟨h1, h2⟩ | h1
    · exact h'.mp i es s (hK i s _ h1 h2 hr ho) hr
    · rw [heq i h1] at hr
      obtain ⟨en, cl, a1, a2, a3⟩ := h.mp i es s (hH i s _ h1 hr ho) hr
      exact ⟨en, cl, by rw [hkeep _ (Array.getElem?_eq_some_iff.1 a1).1]; exact a1, a2, fun k p hk => by obtain ⟨x, y1, y2, y3, y4⟩ := a3 k p hk; exact ⟨x, y1, y2, y3, y4.mono hle⟩⟩
  · obtain ⟨oi, hoi⟩ := Option.isSome_iff_exists.1 hi
    obtain ⟨oj, hoj⟩ := Option.isSome_iff_exists.1 hj
    rcases cases i with ⟨h1, h2⟩ | h1
    · rcases cases j with ⟨k1, k2⟩ | k1
      · exact h'.inj i j s s' (by simp [hK i s _ h1 h2 hr hoi]) (by simp [hK j s' _ k1 k2 hr' hoj]) hr hr' hb hβ
      · exfalso
        have hn := hnew i s h1 h2 hr
        rw [heq j k1] at hr'
        have := h.lt (by simp [hH j s' _ k1 hr' hoj]) hr'
        omega
    · rcases cases j with ⟨k1, k2⟩ | k1
      · exfalso
        have hn := hnew j s' k1 k2 hr'
        rw [heq i h1] at hr
        have := h.lt (by simp [hH i s _ h1 hr hoi]) hr
        omega
      · rw [heq i h1] at hr; rw [heq j k1] at hr'
        exact h.inj i j s s' (by simp [hH i s _ h1 hr hoi]) (by simp [hH j s' _ k1 hr' hoj]) hr hr' hb hβ
end Go.Proofs.YtmodhnkjimpkbaaAb
