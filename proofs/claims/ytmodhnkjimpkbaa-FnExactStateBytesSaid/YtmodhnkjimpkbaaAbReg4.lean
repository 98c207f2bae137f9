import Derived.Test.YtmodhnkjimpkbaaAbReg3
set_option linter.all false
namespace Go.Proofs.YtmodhnkjimpkbaaAb
open Go
def unl (ops : Array Oper) (r : List Nat) (listed : Array Bool) : Nat := ((List.range ops.size).filter fun k => !listed.getD (r.getD k 0) false).length
section
variable {P : Program} {β lo : Nat} {ops : Array Oper} {r : List Nat} {isW wk : Nat → Bool} {fr : Nat → Fr} {n : Nat → Nat} {H : Nat → Heap} {v : Nat → Value}
  {ρ0 : Rho} {a0 : Act} {w0 : World}
theorem unl_set (hF : RegFacts ops r isW) {listed : Array Bool} (hs : listed.size = ops.size) {k : Nat} (hk : k < ops.size) (hun : listed.getD (r.getD k 0) false = false) :
    unl ops r (listed.setIfInBounds (r.getD k 0) true) + 1 = unl ops r listed := by
  unfold unl
  have hlt : r.getD k 0 < listed.size := by rw [hs]; exact hF.into k hk
  have hmem : k ∈ (List.range ops.size).filter (fun j => !listed.getD (r.getD j 0) false) := by
    rw [List.mem_filter, List.mem_range]; exact ⟨hk, by rw [hun]; rfl⟩
  have hnd : ((List.range ops.size).filter (fun j => !listed.getD (r.getD j 0) false)).Nodup := List.Pairwise.filter _ List.nodup_range
  have he : (List.range ops.size).filter (fun j => !(listed.setIfInBounds (r.getD k 0) true).getD (r.getD j 0) false) = ((List.range ops.size).filter (fun j => !listed.getD (r.getD j 0) false)).erase k := by
    rw [hnd.erase_eq_filter, List.filter_filter]
    apply List.filter_congr
    intro j hj
    rw [List.mem_range] at hj
    rw [getD_set _ _ _ hlt]
    by_cases hjk : j = k
    · subst hjk; simp
    · have : r.getD k 0 ≠ r.getD j 0 := fun e => hjk (hF.inj k j hk hj e.symm)
      have h1 : (j != k) = true := by simpa using hjk
      simp only [this, decide_false, Bool.false_or, h1, Bool.true_and]
  rw [he, List.length_erase_of_mem hmem]
  have : 0 < ((List.range ops.size).filter (fun j => !listed.getD (r.getD j 0) false)).length := List.length_pos_of_mem hmem
  omega
theorem all_listed {listed : Array Bool} (hF : RegFacts ops r isW) (hs : listed.size = ops.size) (h : Region.ready .any ops listed = []) : ∀ k, k < ops.size → listed.getD (r.getD k 0) false = true := by
  intro k
  induction k using Nat.strongRecOn with
  | _ k ih =>
    intro hk
    have hlt : r.getD k 0 < listed.size := by rw [hs]; exact hF.into k hk
    cases hl : listed.getD (r.getD k 0) false with
    | true => rfl
    | false =>
      exfalso
      have hin : r.getD k 0 ∈ Region.ready .any ops listed := by
        rw [mem_ready]
        have hri := hF.into k hk
        refine ⟨by rw [getD_true_false hlt]; exact hl, ops.getD (r.getD k 0) default, ?_, fun e he hb => ?_⟩
        · rw [Array.getD_eq_getD_getElem?, Array.getElem?_eq_getElem hri]; rfl
        · obtain ⟨j, hj, hje⟩ := hF.direct k hk e he hb
          rw [← hje]; exact ih j hj (by omega)
      rw [h] at hin; cases hin
theorem Reg.wpAny (g : Reg P β lo ops r isW wk fr n H v) (hdst : ∀ k, k < ops.size → opDst a0.tmps.size (ops.getD (r.getD k 0) default) = true) {Q : Exit → Act → World → Prop}
    (hQ : ∀ listed a w ρ, Inv β lo ops r isW fr n H v ρ0 a0 w0 listed a w ρ ops.size → (∀ k, k < ops.size → listed.getD (r.getD k 0) false = true) → Q .normal a w) :
    ∀ (fuel : Nat) (listed : Array Bool) (a : Act) (w : World) (ρ : Rho) (c : Nat), Inv β lo ops r isW fr n H v ρ0 a0 w0 listed a w ρ c → unl ops r listed = fuel → Go.wpAny P .any ops Q fuel listed a w := by
  have hF := g.facts
  have done : ∀ (listed : Array Bool) (a : Act) (w : World) (ρ : Rho) (c : Nat), Inv β lo ops r isW fr n H v ρ0 a0 w0 listed a w ρ c → Region.ready .any ops listed = [] → Q .normal a w := by
    intro listed a w ρ c I hr
    have hall := all_listed hF I.lsize hr
    have hc : c = ops.size := by
      rcases Nat.lt_or_ge c ops.size with h | h
      · have h1 := I.cun h; rw [hall c h] at h1; cases h1
      · have := I.cle; omega
    subst hc
    exact hQ listed a w ρ I hall
  intro fuel
  induction fuel with
  | zero =>
    intro listed a w ρ c I hu
    have hr : Region.ready .any ops listed = [] := by
      apply List.eq_nil_iff_forall_not_mem.2
      intro i hi
      obtain ⟨hun, o, ho, _⟩ := mem_ready.1 hi
      have hlt := (Array.getElem?_eq_some_iff.1 ho).1
      obtain ⟨k, hk, rfl⟩ := hF.onto i hlt
      have hmem : k ∈ (List.range ops.size).filter (fun j => !listed.getD (r.getD j 0) false) := by
        rw [List.mem_filter, List.mem_range]
        exact ⟨hk, by rw [← getD_true_false (by rw [I.lsize]; exact hlt), hun]; rfl⟩
      have := List.length_pos_of_mem hmem
      unfold unl at hu
      omega
    exact ⟨hr, done listed a w ρ c I hr⟩
  | succ fuel ih =>
    intro listed a w ρ c I hu
    refine ⟨done listed a w ρ c I, fun i hi => ?_⟩
    obtain ⟨hun, o, ho, hall⟩ := mem_ready.1 hi
    have hlt := (Array.getElem?_eq_some_iff.1 ho).1
    obtain ⟨k, hk, rfl⟩ := hF.onto i hlt
    have hll : r.getD k 0 < listed.size := by rw [I.lsize]; exact hlt
    have hunk : listed.getD (r.getD k 0) false = false := by rw [← getD_true_false hll]; exact hun
    have hod : ops.getD (r.getD k 0) default = o := by rw [Array.getD_eq_getD_getElem?, ho]; rfl
    have hdk : opDst a.tmps.size (ops.getD (r.getD k 0) default) = true := by rw [I.tsize]; exact hdst k hk
    have hreads := I.reads g hk hi
    have hwant := wanted_eq (g.hw k hk) hreads
    have hev := eval_rel (a := a) hreads (fun v hv => opDst_gr hdk hv)
    have hkc : k ≤ c := by
      rcases Nat.lt_or_ge c k with h | h
      · exfalso
        have hcm : c < ops.size := by omega
        have hwc : isW c = true := by rcases I.cw with h | h; omega; exact h
        have := (reach_of_depB (hF.writer k c hk hcm hwc h)).ready I.closed hi
        rw [I.cun hcm] at this; cases this
      · exact h
    have hunl := unl_set hF I.lsize hk hunk
    have hn0k := g.mono 0 k (by omega) (by omega)
    have habs := g.habs k hk
    have hrange : ∀ i s, n 0 ≤ i → i < n ops.size → ρ i = some s → i < n c := fun i s hi him hr => by
      obtain ⟨j, j1, j2, j3, j4⟩ := I.dom i s hi him hr
      have := g.mono (j + 1) c (by have := I.below j j1 j2; omega) I.cle
      omega
    have hnone : ∀ i, n k ≤ i → i < n (k + 1) → ρ i = none := fun i h1 h2 => by
      cases hr : ρ i with
      | none => rfl
      | some s =>
        exfalso
        have hkm := g.mono (k + 1) ops.size (by omega) (Nat.le_refl _)
        obtain ⟨j, j1, j2, j3, j4⟩ := I.dom i s (by omega) (by omega) hr
        by_cases hjk : j = k
        · subst hjk; rw [hunk] at j2; cases j2
        · by_cases hlt2 : j < k
          · have := g.mono (j + 1) k (by omega) (by omega); omega
          · have := g.mono (k + 1) j (by omega) (by omega); omega
    have cont : ∀ ρ' v' w' c', ((k < c ∧ c' = c) ∨ (k = c ∧ c + 1 ≤ c' ∧ c' ≤ ops.size ∧ (c' = ops.size ∨ isW c' = true) ∧ ∀ j, c + 1 ≤ j → j < c' → isW j = false)) → VR ρ' (v k) v' → Sim β ρ' (H c') w' →
        (∀ i, (i < n k ∨ n (k + 1) ≤ i) → ρ' i = ρ i) → w.heap.size ≤ w'.heap.size → SameOut w w' →
        (∀ B, B < w.heap.size → (∀ i s, lo ≤ i → (H c i).isSome → ρ i = some s → s.blk ≠ B) → w'.heap[B]? = w.heap[B]?) →
        (∀ i s, n k ≤ i → i < n (k + 1) → ρ' i = some s → w.heap.size ≤ s.blk ∨ ∃ j t, lo ≤ j ∧ (H c j).isSome ∧ ρ j = some t ∧ t.blk = s.blk) →
        Go.wpAny P .any ops Q fuel (listed.setIfInBounds (r.getD k 0) true) (a.put o.dst v') w' := by
      intro ρ' v' w' c' h1 h2 h3 h4 h5 hso h6 h7
      have I' := I.next g hk hi hdk h1 h2 h3 h4 hnone h5 hso h6 h7
      rw [hod] at I'
      exact ih _ _ _ ρ' c' I' (by omega)
    unfold wpOp
    simp only [ho]
    rw [← hod, hwant, hod]
    cases hwk : wk k with
    | false =>
      obtain ⟨e1, e2, e3⟩ := g.hskip k hk hwk
      simp only [Bool.false_eq_true, if_false]
      by_cases hkc2 : k < c
      · exact cont ρ undef w c (.inl ⟨hkc2, rfl⟩) (by rw [e1]; exact gr_undef.2 ρ) I.sim (fun _ _ => rfl) (Nat.le_refl _) (.refl _) (fun _ _ _ => rfl) (fun i s h1 h2 => by omega)
      · obtain rfl : k = c := by omega
        obtain ⟨c', d1, d2, d3, d4⟩ := next_writer isW ops.size _ (k + 1) rfl (by omega)
        refine cont ρ undef w c' (.inr ⟨rfl, d1, d2, d3, d4⟩) (by rw [e1]; exact gr_undef.2 ρ) (I.sim.of_same fun i s o hr ho' => ?_) (fun _ _ => rfl) (Nat.le_refl _) (.refl _) (fun _ _ _ => rfl) (fun i s h1 h2 => by omega)
        have him : i < n ops.size := by
          rcases Nat.lt_or_ge i (n c') with h | h
          · have := g.mono c' ops.size d2 (Nat.le_refl _); omega
          · rw [g.hb c' d2 i h] at ho'; cases ho'
        by_cases hi0 : n 0 ≤ i
        · have := hrange i s hi0 him hr
          rw [g.quiet (k + 1) c' d1 d2 d4 i (by omega), e3] at ho'; exact ho'
        · rw [g.quiet (k + 1) c' d1 d2 d4 i (by omega), e3] at ho'; exact ho'
    | true =>
      simp only [if_true]
      refine .inl ?_
      rw [← hod]
      by_cases hkc2 : k < c
      · have hwn : isW k = false := by
          cases h : isW k with
          | false => rfl
          | true => have h2 := I.wdone k hkc2 h; rw [hunk] at h2; cases h2
        by_cases hB : ∀ j, k < j → j < c → isW j = false
        ·
          have hsnd := g.hrun k hk hwk
          rw [hwn] at hsnd habs
          simp only [Bool.false_eq_true, if_false] at hsnd habs
          have hq : ∀ j, k ≤ j → j < c → isW j = false := fun j h1 h2 => by
            by_cases e : j = k
            · subst e; exact hwn
            · exact hB j (by omega) h2
          refine hsnd ρ a w hev (I.sim.of_same fun i s o hr ho' => ?_) (g.hb k (by omega)) hnone _ Q fun ρ' v' w' hV hok => ?_
          · have hik : i < n k := by
              rcases Nat.lt_or_ge i (n k) with h | h
              · exact h
              · rw [g.hb k (by omega) i h] at ho'; cases ho'
            rw [g.quiet k c (by omega) I.cle hq i hik]; exact ho'
          · rw [hod]
            refine cont ρ' v' w' c (.inl ⟨hkc2, rfl⟩) hV ?_ (fun i h => h.elim (hok.old i) (hok.far i)) hok.size hok.out (fun B hB2 _ => hok.keep B hB2 fun i s h1 h2 => by omega) (fun i s h1 h2 hr => (hok.fresh i s h1 h2 hr).imp id fun ⟨j, t, b1, b2, _⟩ => by omega)
            refine Sim.join (H := H c) (K := H (k + 1)) (a := n k) (b := n (k + 1)) I.sim hok.sim (hok.rho hnone) (fun i h => h.elim (hok.old i) (hok.far i)) (fun B hB2 => hok.keep B hB2 fun i s h1 h2 => by omega)
              (fun i s h1 h2 hr => (hok.fresh i s h1 h2 hr).elim id fun ⟨j, t, b1, b2, _⟩ => by omega) (fun i s o h1 h2 hr ho' => ?_) (fun i s o _ _ ho' => ho')
            rw [← g.quiet (k + 1) c (by omega) I.cle (fun j h1 h2 => hq j (by omega) h2) i h2]; exact ho'
        ·
          have hfl : floatsB ops r isW k c = true := by
            simp only [floatsB, Bool.and_eq_true, List.any_eq_true, List.mem_range, List.all_eq_true, decide_eq_true_eq, Bool.or_eq_true, Bool.not_eq_true', Bool.and_eq_false_iff, decide_eq_false_iff_not]
            refine ⟨?_, fun j hj => ?_⟩
            · apply Classical.byContradiction
              intro hno
              apply hB
              intro j h1 h2
              cases h : isW j with
              | false => rfl
              | true => exact absurd ⟨j, h2, h1, h⟩ hno
            · by_cases h1 : k < j ∧ isW j = true
              · refine .inr ?_
                cases hd : depB (clos ops) (r.getD k 0) (r.getD j 0) with
                | false => rfl
                | true =>
                  have h3 := (reach_of_depB hd).listed I.closed (I.wdone j hj h1.2)
                  rw [hunk] at h3; cases h3
              · refine .inl ?_
                rcases Classical.em (k < j) with h2 | h2
                · refine .inr ?_
                  cases h : isW j with
                  | false => rfl
                  | true => exact absurd ⟨h2, h⟩ h1
                · exact .inl h2
          have hsnd := g.hlate k c hkc2 I.cle I.cw hwn hfl hwk
          refine hsnd ρ a w hev (I.sim.of_same fun i s o hr ho' => ?_) hnone _ Q fun ρ' v' w' hV hok => ?_
          · simp only [Heap.rm] at ho'
            split at ho'
            · cases ho'
            · exact ho'
          · rw [hod]
            exact cont ρ' v' w' c (.inl ⟨hkc2, rfl⟩) hV hok.sim (fun i h => h.elim (hok.old i) (hok.far i)) hok.size hok.out (fun B hB2 _ => hok.keep B hB2 fun i s h1 h2 => by omega) (fun i s h1 h2 hr => (hok.fresh i s h1 h2 hr).imp id fun ⟨j, t, b1, b2, _⟩ => by omega)
      ·
        obtain rfl : k = c := by omega
        have hwc : isW k = true := by rcases I.cw with h | h; omega; exact h
        have hsnd := g.hrun k hk hwk
        rw [hwc] at hsnd habs
        simp only [if_true] at hsnd habs
        obtain ⟨c', d1, d2, d3, d4⟩ := next_writer isW ops.size _ (k + 1) rfl (by omega)
        refine hsnd ρ a w hev I.sim (g.hb k (by omega)) hnone _ Q fun ρ' v' w' hV hok => ?_
        rw [hod]
        refine cont ρ' v' w' c' (.inr ⟨rfl, d1, d2, d3, d4⟩) hV (hok.sim.of_same fun i s o hr ho' => ?_) (fun i h => h.elim (hok.old i) (hok.far i)) hok.size hok.out
          (fun B hB2 hne => hok.keep B hB2 fun i s h1 h2 h3 h4 => hne i s h1 h3 h4) (fun i s h1 h2 hr => (hok.fresh i s h1 h2 hr).imp id fun ⟨j, t, b1, b2, b3, b4, b5⟩ => ⟨j, t, b1, b3, b4, b5⟩)
        have hik : i < n (k + 1) := by
          rcases Nat.lt_or_ge i (n (k + 1)) with h | h
          · exact h
          · exfalso
            rw [hok.far i h] at hr
            have him : i < n ops.size := by
              rcases Nat.lt_or_ge i (n c') with h | h
              · have := g.mono c' ops.size d2 (Nat.le_refl _); omega
              · rw [g.hb c' d2 i h] at ho'; cases ho'
            have := hrange i s (by have := habs.1; omega) him hr
            have := habs.1
            omega
        rw [g.quiet (k + 1) c' d1 d2 d4 i hik] at ho'; exact ho'
end
end Go.Proofs.YtmodhnkjimpkbaaAb
