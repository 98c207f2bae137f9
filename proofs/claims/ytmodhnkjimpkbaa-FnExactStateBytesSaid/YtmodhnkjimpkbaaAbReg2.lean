import Derived.Test.YtmodhnkjimpkbaaAbReg
set_option linter.all false
namespace Go.Proofs.YtmodhnkjimpkbaaAb
open Go
structure Reg (P : Program) (β lo : Nat) (ops : Array Oper) (r : List Nat) (isW wk : Nat → Bool) (fr : Nat → Fr) (n : Nat → Nat) (H : Nat → Heap) (v : Nat → Value) : Prop where
  facts : RegFacts ops r isW
  hw : ∀ k, k < ops.size → wantedA ops (ops.getD (r.getD k 0) default) (fr k) = some (wk k)
  hfr : ∀ k, k < ops.size → fr (k + 1) = (fr k).put (ops.getD (r.getD k 0) default).dst (v k)
  hskip : ∀ k, k < ops.size → wk k = false → v k = undef ∧ n (k + 1) = n k ∧ H (k + 1) = H k
  hrun : ∀ k, k < ops.size → wk k = true → OpSnd P β (if isW k then lo else n k) (ops.getD (r.getD k 0) default) (fr k) (n k) (H k) (v k) (n (k + 1)) (H (k + 1))
  hlate : ∀ k c, k < c → c ≤ ops.size → (c = ops.size ∨ isW c = true) → isW k = false → floatsB ops r isW k c = true → wk k = true → OpSnd0 P β (n k) (ops.getD (r.getD k 0) default) (fr k) (n k) ((H c).rm (n k) (n (k + 1))) (v k) (n (k + 1)) (H c)
  habs : ∀ k, k < ops.size → AbsOk (if isW k then lo else n k) (n k) (H k) (n (k + 1)) (H (k + 1))
  hlo : lo ≤ n 0
  hHB : ∀ i, n 0 ≤ i → H 0 i = none
section
variable {P : Program} {β lo : Nat} {ops : Array Oper} {r : List Nat} {isW wk : Nat → Bool} {fr : Nat → Fr} {n : Nat → Nat} {H : Nat → Heap} {v : Nat → Value}
theorem Reg.abs (g : Reg P β lo ops r isW wk fr n H v) : ∀ k, k ≤ ops.size → AbsOk lo (n 0) (H 0) (n k) (H k) ∧ lo ≤ n k := by
  intro k
  induction k with
  | zero => exact fun _ => ⟨.refl _ _ _, g.hlo⟩
  | succ k ih =>
    intro hk
    obtain ⟨h0, h1⟩ := ih (by omega)
    have h2 := g.habs k (by omega)
    have h3 : AbsOk lo (n k) (H k) (n (k + 1)) (H (k + 1)) := h2.mono (by cases isW k <;> simp <;> omega)
    exact ⟨h0.trans h3, by have := h3.1; omega⟩
theorem Reg.mono (g : Reg P β lo ops r isW wk fr n H v) : ∀ a b, a ≤ b → b ≤ ops.size → n a ≤ n b := by
  intro a b hab
  induction b with
  | zero => intro _; rw [show a = 0 by omega]; exact Nat.le_refl _
  | succ b ih =>
    intro hb
    by_cases h : a = b + 1
    · rw [h]; exact Nat.le_refl _
    · exact Nat.le_trans (ih (by omega) (by omega)) (g.habs b (by omega)).1
theorem Reg.hb (g : Reg P β lo ops r isW wk fr n H v) (k : Nat) (hk : k ≤ ops.size) : ∀ i, n k ≤ i → H k i = none := (g.abs k hk).1.2.2.1 g.hHB
theorem Reg.quiet (g : Reg P β lo ops r isW wk fr n H v) : ∀ a b, a ≤ b → b ≤ ops.size → (∀ k, a ≤ k → k < b → isW k = false) → ∀ i, i < n a → H b i = H a i := by
  intro a b hab
  induction b with
  | zero => intro _ _ i _; rw [show a = 0 by omega]
  | succ b ih =>
    intro hb hq i hi
    by_cases h : a = b + 1
    · rw [h]
    · have h1 := g.habs b (by omega)
      rw [hq b (by omega) (by omega)] at h1
      rw [h1.2.1 i (by have := g.mono a b (by omega) (by omega); simp; omega)]
      exact ih (by omega) (by omega) (fun k x y => hq k x (by omega)) i hi
theorem next_writer (isW : Nat → Bool) (m : Nat) : ∀ d c0, m - c0 = d → c0 ≤ m → ∃ c, c0 ≤ c ∧ c ≤ m ∧ (c = m ∨ isW c = true) ∧ ∀ k, c0 ≤ k → k < c → isW k = false := by
  intro d
  induction d with
  | zero => intro c0 h1 h2; exact ⟨c0, Nat.le_refl _, h2, .inl (by omega), fun k a b => by omega⟩
  | succ d ih =>
    intro c0 h1 h2
    by_cases hc : isW c0 = true
    · exact ⟨c0, Nat.le_refl _, h2, .inr hc, fun k a b => by omega⟩
    · obtain ⟨c, a1, a2, a3, a4⟩ := ih (c0 + 1) (by omega) (by omega)
      exact ⟨c, by omega, a2, a3, fun k x y => by
        by_cases hk : k = c0
        · subst hk; simpa using hc
        · exact a4 k (by omega) y⟩
theorem fr_get (hfr : ∀ k, k < ops.size → fr (k + 1) = (fr k).put (ops.getD (r.getD k 0) default).dst (v k)) : ∀ k, k ≤ ops.size → ∀ t u, (fr k).get t = some u →
    (∃ j, j < k ∧ (ops.getD (r.getD j 0) default).dst = some t ∧ u = v j) ∨ ((∀ j, j < k → (ops.getD (r.getD j 0) default).dst ≠ some t) ∧ (fr 0).get t = some u) := by
  intro k
  induction k with
  | zero => intro _ t u h; exact .inr ⟨fun j hj => by omega, h⟩
  | succ k ih =>
    intro hk t u h
    rw [hfr k (by omega)] at h
    by_cases hd : (ops.getD (r.getD k 0) default).dst = some t
    · rw [hd] at h
      simp only [Fr.put, Fr.get, if_true] at h
      exact .inl ⟨k, by omega, hd, (Option.some.inj h).symm⟩
    · have h' : (fr k).get t = some u := by
        revert h
        cases hdd : (ops.getD (r.getD k 0) default).dst with
        | none => exact fun h => h
        | some d =>
          rw [hdd] at hd
          simp only [Fr.put, Fr.get]
          rw [if_neg (by simpa using hd)]
          exact fun h => h
      rcases ih (by omega) t u h' with ⟨j, a, b, c⟩ | ⟨a, b⟩
      · exact .inl ⟨j, by omega, b, c⟩
      · refine .inr ⟨fun j hj => ?_, b⟩
        by_cases hjk : j = k
        · subst hjk; exact hd
        · exact a j (by omega)
structure Inv (β lo : Nat) (ops : Array Oper) (r : List Nat) (isW : Nat → Bool) (fr : Nat → Fr) (n : Nat → Nat) (H : Nat → Heap) (v : Nat → Value) (ρ0 : Rho) (a0 : Act) (w0 : World)
    (listed : Array Bool) (a : Act) (w : World) (ρ : Rho) (c : Nat) : Prop where
  lsize : listed.size = ops.size
  closed : Closed ops listed
  cle : c ≤ ops.size
  cw : c = ops.size ∨ isW c = true
  cun : c < ops.size → listed.getD (r.getD c 0) false = false
  wdone : ∀ k, k < c → isW k = true → listed.getD (r.getD k 0) false = true
  below : ∀ k, k < ops.size → listed.getD (r.getD k 0) false = true → k < c
  s1 : ∀ k, k < ops.size → listed.getD (r.getD k 0) false = true → ∀ t, (ops.getD (r.getD k 0) default).dst = some t → t < a.tmps.size ∧ VR ρ (v k) (a.tmps.getD t undef)
  s2 : ∀ t u, (∀ k, k < ops.size → listed.getD (r.getD k 0) false = true → (ops.getD (r.getD k 0) default).dst ≠ some t) → (fr 0).get t = some u → t < a.tmps.size ∧ VR ρ u (a.tmps.getD t undef)
  dom : ∀ i s, n 0 ≤ i → i < n ops.size → ρ i = some s → ∃ k, k < ops.size ∧ listed.getD (r.getD k 0) false = true ∧ n k ≤ i ∧ i < n (k + 1)
  old : ∀ i, i < n 0 → ρ i = ρ0 i
  sim : Sim β ρ (H c) w
  keep : ∀ B, B < w0.heap.size → (∀ i s, lo ≤ i → i < n 0 → (H 0 i).isSome → ρ0 i = some s → s.blk ≠ B) → w.heap[B]? = w0.heap[B]?
  far : ∀ i, n ops.size ≤ i → ρ i = ρ0 i
  fresh : ∀ i s, n 0 ≤ i → i < n ops.size → ρ i = some s → w0.heap.size ≤ s.blk ∨ ∃ j t, lo ≤ j ∧ j < n 0 ∧ (H 0 j).isSome ∧ ρ0 j = some t ∧ t.blk = s.blk
  size : w0.heap.size ≤ w.heap.size
  defers : a.defers = a0.defers
  tsize : a.tmps.size = a0.tmps.size
  out : SameOut w0 w
theorem getD_set (listed : Array Bool) (i j : Nat) (hi : i < listed.size) : (listed.setIfInBounds i true).getD j false = (decide (i = j) || listed.getD j false) := by
  simp only [Array.getD_eq_getD_getElem?, Array.getElem?_setIfInBounds]
  by_cases h : i = j
  · subst h; simp [hi]
  · simp [h]
theorem getD_true_false {listed : Array Bool} {i : Nat} (hi : i < listed.size) : listed.getD i true = listed.getD i false := by
  simp [Array.getD_eq_getD_getElem?, hi]
theorem Inv.next (g : Reg P β lo ops r isW wk fr n H v) {ρ0 : Rho} {a0 : Act} {w0 : World} {listed : Array Bool} {a : Act} {w : World} {ρ : Rho} {c : Nat} (I : Inv β lo ops r isW fr n H v ρ0 a0 w0 listed a w ρ c)
    {k : Nat} (hk : k < ops.size) (hready : r.getD k 0 ∈ Region.ready .any ops listed) (hdst : opDst a.tmps.size (ops.getD (r.getD k 0) default) = true)
    {ρ' : Rho} {v' : Value} {w' : World} {c' : Nat} (hc' : (k < c ∧ c' = c) ∨ (k = c ∧ c + 1 ≤ c' ∧ c' ≤ ops.size ∧ (c' = ops.size ∨ isW c' = true) ∧ ∀ j, c + 1 ≤ j → j < c' → isW j = false))
    (hV : VR ρ' (v k) v') (hsim : Sim β ρ' (H c') w') (heq : ∀ i, (i < n k ∨ n (k + 1) ≤ i) → ρ' i = ρ i) (hnone : ∀ i, n k ≤ i → i < n (k + 1) → ρ i = none) (hsz : w.heap.size ≤ w'.heap.size) (hout : SameOut w w')
    (hkeep : ∀ B, B < w.heap.size → (∀ i s, lo ≤ i → (H c i).isSome → ρ i = some s → s.blk ≠ B) → w'.heap[B]? = w.heap[B]?)
    (hfresh : ∀ i s, n k ≤ i → i < n (k + 1) → ρ' i = some s → w.heap.size ≤ s.blk ∨ ∃ j t, lo ≤ j ∧ (H c j).isSome ∧ ρ j = some t ∧ t.blk = s.blk) :
    Inv β lo ops r isW fr n H v ρ0 a0 w0 (listed.setIfInBounds (r.getD k 0) true) (a.put (ops.getD (r.getD k 0) default).dst v') w' ρ' c' := by
  have hF := g.facts
  have hrk := hF.into k hk
  have hlt : r.getD k 0 < listed.size := by rw [I.lsize]; exact hrk
  obtain ⟨hun, ok, hok, hall⟩ := mem_ready.1 hready
  have hokd : ops.getD (r.getD k 0) default = ok := by rw [Array.getD_eq_getD_getElem?, hok]; rfl
  have hunk : listed.getD (r.getD k 0) false = false := by rw [← getD_true_false hlt]; exact hun
  have hle : ρ.le ρ' := fun i s hs => by
    by_cases h1 : i < n k ∨ n (k + 1) ≤ i
    · rw [heq i h1]; exact hs
    · rw [hnone i (by omega) (by omega)] at hs; cases hs
  have hn0k := g.mono 0 k (by omega) (by omega)
  have hset : ∀ j, j < ops.size → (listed.setIfInBounds (r.getD k 0) true).getD (r.getD j 0) false = (decide (j = k) || listed.getD (r.getD j 0) false) := fun j hj => by
    rw [getD_set _ _ _ hlt]
    congr 1
    by_cases h : j = k
    · subst h; simp
    · have : r.getD k 0 ≠ r.getD j 0 := fun e => h (hF.inj k j hk hj e.symm)
      simp only [h, decide_false, decide_eq_false_iff_not]; exact this
  have hwrk : isW k = true → k = c := fun hwk => by
    rcases hc' with ⟨h1, _⟩ | ⟨h1, _⟩
    · have := I.wdone k h1 hwk; rw [hunk] at this; cases this
    · exact h1
  have hputs : (a.put (ops.getD (r.getD k 0) default).dst v').tmps.size = a.tmps.size := by
    cases (ops.getD (r.getD k 0) default).dst <;> simp [Act.put]
  have hputne : ∀ t, (ops.getD (r.getD k 0) default).dst ≠ some t → (a.put (ops.getD (r.getD k 0) default).dst v').tmps.getD t undef = a.tmps.getD t undef := fun t ht => by
    cases hd : (ops.getD (r.getD k 0) default).dst with
    | none => rfl
    | some d =>
      rw [hd] at ht
      simp only [Act.put, Array.getD_eq_getD_getElem?]
      rw [Array.getElem?_setIfInBounds_ne (fun e => ht (by rw [e]))]
  have hkm := g.mono (k + 1) ops.size (by omega) (Nat.le_refl _)
  have hlive : ∀ i, (H c i).isSome → i < n ops.size := fun i hl => by
    rcases Nat.lt_or_ge i (n c) with h | h
    · have := g.mono c ops.size I.cle (Nat.le_refl _); omega
    · rw [g.hb c I.cle i h] at hl; cases hl
  refine ⟨by simp [I.lsize], ?_, ?_, ?_, ?_, ?_, ?_, ?_, ?_, ?_, ?_, hsim, ?_, fun i hi => by rw [heq i (.inr (by omega))]; exact I.far i hi, ?_, by have := I.size; omega, ?_, ?_, I.out.trans hout⟩
  ·
    intro j o hj hl e he hb
    rw [getD_set _ _ _ hlt] at hl ⊢
    by_cases hjk : r.getD k 0 = j
    · rw [← hjk, hok] at hj
      obtain rfl := Option.some.inj hj
      have := hall e he hb
      simp [this]
    · simp only [hjk, decide_false, Bool.false_or] at hl
      have := I.closed j o hj hl e he hb
      simp [this]
  · rcases hc' with ⟨_, rfl⟩ | ⟨_, _, h, _⟩; exact I.cle; exact h
  · rcases hc' with ⟨_, rfl⟩ | ⟨_, _, _, h, _⟩; exact I.cw; exact h
  · intro hcl
    rw [hset c' hcl]
    rcases hc' with ⟨h1, rfl⟩ | ⟨h1, h2, h3, h4, h5⟩
    · simp only [I.cun hcl, Bool.or_false, decide_eq_false_iff_not]; omega
    · have hne : c' ≠ k := by omega
      simp only [hne, decide_false, Bool.false_or]
      cases hl : listed.getD (r.getD c' 0) false with
      | false => rfl
      | true => have := I.below c' hcl hl; omega
  · intro j hj hwj
    have hjm : j < ops.size := by rcases hc' with ⟨_, rfl⟩ | ⟨_, _, h, _⟩; have := I.cle; omega; omega
    rw [hset j hjm]
    rcases hc' with ⟨h1, rfl⟩ | ⟨h1, h2, h3, h4, h5⟩
    · rw [I.wdone j hj hwj]; simp
    · by_cases hjc : j < c
      · rw [I.wdone j hjc hwj]; simp
      · by_cases hje : j = c
        · simp [hje, h1]
        · have := h5 j (by omega) hj; rw [hwj] at this; cases this
  · intro j hj hl
    rw [hset j hj] at hl
    by_cases hjk : j = k
    · subst hjk; rcases hc' with ⟨h1, rfl⟩ | ⟨h1, h2, _⟩; exact h1; omega
    · simp only [hjk, decide_false, Bool.false_or] at hl
      have := I.below j hj hl
      rcases hc' with ⟨_, rfl⟩ | ⟨h1, h2, _⟩; exact this; omega
  ·
    intro j hj hl t ht
    rw [hset j hj] at hl
    by_cases hjk : j = k
    · subst hjk
      have hts : t < a.tmps.size := opDst_lt hdst ht
      rw [ht]
      refine ⟨by simp [Act.put]; exact hts, ?_⟩
      simp only [Act.put, Array.getD_eq_getD_getElem?]
      rw [Array.getElem?_setIfInBounds_self_of_lt hts]
      exact hV
    · simp only [hjk, decide_false, Bool.false_or] at hl
      obtain ⟨x1, x2⟩ := I.s1 j hj hl t ht
      have hne := (hF.slots k j hk hj hjk t ht).1
      exact ⟨by rw [hputs]; exact x1, by rw [hputne t hne]; exact x2.mono hle⟩
  ·
    intro t u hno hu
    have hne : (ops.getD (r.getD k 0) default).dst ≠ some t := hno k hk (by rw [hset k hk]; simp)
    obtain ⟨x1, x2⟩ := I.s2 t u (fun j hj hl => hno j hj (by rw [hset j hj, hl]; simp)) hu
    exact ⟨by rw [hputs]; exact x1, by rw [hputne t hne]; exact x2.mono hle⟩
  ·
    intro i s hi him hr
    by_cases h1 : i < n k ∨ n (k + 1) ≤ i
    · rw [heq i h1] at hr
      obtain ⟨j, a1, a2, a3, a4⟩ := I.dom i s hi him hr
      exact ⟨j, a1, by rw [hset j a1, a2]; simp, a3, a4⟩
    · exact ⟨k, hk, by rw [hset k hk]; simp, by omega, by omega⟩
  · intro i hi
    rw [heq i (.inl (by omega))]; exact I.old i hi
  ·
    intro B hB hne
    rw [hkeep B (by have := I.size; omega) ?_]
    · exact I.keep B hB hne
    · intro i s hi hl hr
      by_cases hi0 : i < n 0
      · rw [I.old i hi0] at hr
        refine hne i s hi hi0 ?_ hr
        cases h0 : H 0 i with
        | none => have := (g.abs c I.cle).1.2.2.2 i hi0 h0; rw [this] at hl; cases hl
        | some o => rfl
      · rcases I.fresh i s (by omega) (hlive i hl) hr with h | ⟨j, t, b1, b2, b3, b4, b5⟩
        · omega
        · rw [← b5]; exact hne j t b1 b2 b3 b4
  ·
    intro i s hi him hr
    by_cases h1 : i < n k ∨ n (k + 1) ≤ i
    · rw [heq i h1] at hr; exact I.fresh i s hi him hr
    · rcases hfresh i s (by omega) (by omega) hr with h | ⟨j, t, b1, b2, b3, b4⟩
      · exact .inl (by have := I.size; omega)
      · by_cases hj0 : j < n 0
        · refine .inr ⟨j, t, b1, hj0, ?_, by rw [← I.old j hj0]; exact b3, b4⟩
          cases h0 : H 0 j with
          | none => have := (g.abs c I.cle).1.2.2.2 j hj0 h0; rw [this] at b2; cases b2
          | some o => rfl
        · rcases I.fresh j t (by omega) (hlive j b2) b3 with h | ⟨q, x, d1, d2, d3, d4, d5⟩
          · exact .inl (by omega)
          · exact .inr ⟨q, x, d1, d2, d3, d4, by rw [d5, b4]⟩
  · cases (ops.getD (r.getD k 0) default).dst <;> simp [Act.put, I.defers]
  · rw [hputs]; exact I.tsize
end
end Go.Proofs.YtmodhnkjimpkbaaAb
