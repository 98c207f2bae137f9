import Derived.Test.YtmodhnkjimpkbaaAbB
set_option linter.all false
namespace Go.Proofs.YtmodhnkjimpkbaaAb
open Go
section
variable {P : Program} {Δ : Prims}
theorem D.op_congr {lo : Nat} {o : Oper} {fr fr2 : Fr} {n n' : Nat} {H H' : Heap} {v : Value} (hs : Fr.same fr2 fr) (h : D P Δ (.op lo o fr n H v n' H')) : D P Δ (.op lo o fr2 n H v n' H') := by
  have he := Fr.same_eval hs
  generalize hj : J.op lo o fr n H v n' H' = j at h
  cases h with
  | step h => cases hj; exact .step (by rw [he]; exact h)
  | stepM h => cases hj; exact .stepM (by rw [he]; exact h)
  | callF ho hx ha hfn hname hbody h1 h2 h => cases hj; exact .callF ho (by rw [he]; exact hx) (by rw [he]; exact ha) hfn hname hbody h1 h2 h
  | _ => cases hj
theorem TR.fns {lo : Nat} {all : Array Oper} {fl : List Bool} {l : List Oper} {fr fr' : Fr} {n n' : Nat} {H H' : Heap} {e : Ex} (h : TR P Δ lo all fl l fr n H e fr' n' H') : fl.length = l.length → ∀ frx, Fr.same frx fr →
    e = .norm ∧ ∃ (F : Nat → Fr) (N : Nat → Nat) (HH : Nat → Heap) (V : Nat → Value) (K : Nat → Bool), F 0 = frx ∧ N 0 = n ∧ HH 0 = H ∧ Fr.same (F l.length) fr' ∧ N l.length = n' ∧ HH l.length = H' ∧
      ∀ k, k < l.length → wantedA all (l.getD k default) (F k) = some (K k) ∧ F (k + 1) = (F k).put (l.getD k default).dst (V k) ∧ (K k = false → V k = undef ∧ N (k + 1) = N k ∧ HH (k + 1) = HH k) ∧
        (K k = true → D P Δ (.op (if fl.getD k true then lo else N k) (l.getD k default) (F k) (N k) (HH k) (V k) (N (k + 1)) (HH (k + 1)))) := by
  induction h with
  | nil =>
    intro _ frx hx
    exact ⟨rfl, fun _ => frx, fun _ => _, fun _ => _, fun _ => undef, fun _ => false, rfl, rfl, rfl, hx, rfl, rfl, fun k hk => by simp at hk⟩
  | @skip fl fl2 lw o l fr fr' n n' H H' e hfl hw h ih =>
    intro hlen frx hx
    have hlen2 : fl2.length = l.length := by cases hfl <;> simp at hlen ⊢ <;> omega
    obtain ⟨he, F, N, HH, V, K, f0, n0, h0, f1, n1, h1, hk⟩ := ih hlen2 (frx.put o.dst undef) (Fr.same_put hx _ _)
    refine ⟨he, fun k => match k with | 0 => frx | k + 1 => F k, fun k => match k with | 0 => n | k + 1 => N k, fun k => match k with | 0 => H | k + 1 => HH k, fun k => match k with | 0 => undef | k + 1 => V k, fun k => match k with | 0 => false | k + 1 => K k,
      rfl, rfl, rfl, by simpa using f1, by simpa using n1, by simpa using h1, fun k hkl => ?_⟩
    cases k with
    | zero =>
      refine ⟨by rw [Fr.same_wanted hx]; exact hw, f0, fun _ => ⟨rfl, n0, h0⟩, fun h => by cases h⟩
    | succ k =>
      have := hk k (by simpa using hkl)
      simp only [List.getD_cons_succ]
      have e1 : fl.getD (k + 1) true = fl2.getD k true := by cases hfl <;> simp
      rw [e1]; exact this
  | @cons fl fl2 lw o l fr fr' n n1 n' H H1 H' v e hfl hw hd h ih =>
    intro hlen frx hx
    have hlen2 : fl2.length = l.length := by cases hfl <;> simp at hlen ⊢ <;> omega
    obtain ⟨he, F, N, HH, V, K, f0, n0, h0, f1, nn1, h1, hk⟩ := ih hlen2 (frx.put o.dst v) (Fr.same_put hx _ _)
    refine ⟨he, fun k => match k with | 0 => frx | k + 1 => F k, fun k => match k with | 0 => n | k + 1 => N k, fun k => match k with | 0 => H | k + 1 => HH k, fun k => match k with | 0 => v | k + 1 => V k, fun k => match k with | 0 => true | k + 1 => K k,
      rfl, rfl, rfl, by simpa using f1, by simpa using nn1, by simpa using h1, fun k hkl => ?_⟩
    cases k with
    | zero =>
      refine ⟨by rw [Fr.same_wanted hx]; exact hw, f0, fun h => (by cases h), fun _ => ?_⟩
      have e1 : (if fl.getD 0 true then lo else n) = lw := by cases hfl <;> simp
      show D P Δ (.op (if fl.getD 0 true then lo else n) o frx n H v (N 0) (HH 0))
      rw [n0, h0, e1]
      exact D.op_congr hx hd
    | succ k =>
      have := hk k (by simpa using hkl)
      simp only [List.getD_cons_succ]
      have e1 : fl.getD (k + 1) true = fl2.getD k true := by cases hfl <;> simp
      rw [e1]; exact this
  | eqv hs h ih => exact fun hlen frx hx => ih hlen frx (fun t => (hx t).trans (hs t).symm)
  | ops hne h => exact fun hlen => absurd (List.eq_nil_of_length_eq_zero (by simpa using hlen.symm)) hne
def calmB (ops : Array Oper) (r : List Nat) (isW : Nat → Bool) : Bool :=
  (List.range (ops.size + 1)).all fun c => (List.range c).all fun k => !(decide (c = ops.size) || isW c) || isW k || !floatsB ops r isW k c
theorem W.regionD {lo : Nat} {id : Nat} {l : List Oper} {fr : Fr} {n : Nat} {H : Heap} {Q : Post} (r : List Nat) (fl : List Bool) (hlen : fl.length = l.length) (hrl : r.length = l.length) (hchk : regOK l.toArray r (fun k => fl.getD k true) = true) (hcalm : calmB l.toArray r (fun k => fl.getD k true) = true)
    {pl : List Oper} (hpl : r.map (fun i => l.getD i default) = pl) (h : WL P Δ lo fl l.toArray pl fr n H Q) : W P Δ lo (.region id l.toArray true) fr n H Q := by
  obtain ⟨e, fr', n', H', tr, q⟩ := h
  have hpll : pl.length = l.length := by rw [← hpl]; simp [hrl]
  obtain ⟨rfl, F, N, HH, V, K, rfl, rfl, rfl, f1, rfl, rfl, hk⟩ := tr.fns (by rw [hlen, hpll]) fr (Fr.same_refl fr)
  have hget : ∀ k, k < l.length → pl.getD k default = l.toArray.getD (r.getD k 0) default := fun k hk' => by
    rw [← hpl]
    have hkr : k < r.length := by omega
    simp [List.getD, List.getElem?_map, List.getElem?_eq_getElem hkr, Array.getD_eq_getD_getElem?]
  have hsz : l.toArray.size = l.length := by simp
  refine ⟨.norm, fr', _, _, D.drop (D.regionD (id := id) r (fun k => fl.getD k true) K F N HH V hchk (fun k hk' => ?_) (fun k hk' => ?_) (fun k hk' hf => ?_) (fun k hk' ht => ?_) (fun k c hkc hc hcw hw hfl hwk => ?_)) (fun t v hv => ?_), ?_⟩
  · rw [hsz] at hk'; rw [← hget k hk']; exact (hk k (by omega)).1
  · rw [hsz] at hk'; rw [← hget k hk']; exact (hk k (by omega)).2.1
  · rw [hsz] at hk'; exact (hk k (by omega)).2.2.1 hf
  · rw [hsz] at hk'; rw [← hget k hk']; exact (hk k (by omega)).2.2.2 ht
  · exfalso
    simp only [calmB, List.all_eq_true, List.mem_range] at hcalm
    have := hcalm c (by omega) k hkc
    rw [hfl, hw] at this
    have h2 : (decide (c = l.toArray.size) || fl.getD c true) = true := by
      rcases hcw with h | h
      · simp [h]
      · rw [h]; simp
    rw [h2] at this
    cases this
  · rw [hsz, ← hpll, f1 t]; exact hv
  · rw [hsz, ← hpll]; exact q
end
end Go.Proofs.YtmodhnkjimpkbaaAb
