import Derived.Test.YtmodhnkjimpkbaaAbCore
import Derived.Laws.AppendOwn
import Derived.Laws.Append
import Derived.Laws.MakeOwn
import Derived.Laws.IdiomCopy
import Derived.Laws.NewFold
import Derived.Laws.BytesString
set_option linter.all false
namespace Go.Proofs.YtmodhnkjimpkbaaAb
open Go
def Rho.set (ρ : Rho) (n : Nat) (s : Spot) : Rho := fun i => if i = n then some s else ρ i
theorem Rho.le_set {ρ : Rho} {n : Nat} {s : Spot} (h : ρ n = none) : ρ.le (ρ.set n s) := by
  intro i t ht
  unfold Rho.set
  split
  · rename_i e; subst e; rw [h] at ht; cases ht
  · exact ht
theorem Rho.set_same (ρ : Rho) (n : Nat) (s : Spot) : (ρ.set n s) n = some s := by simp [Rho.set]
theorem Rho.set_ne (ρ : Rho) {n i : Nat} (s : Spot) (h : i ≠ n) : (ρ.set n s) i = ρ i := by simp [Rho.set, h]
theorem Heap.set_same (H : Heap) (n : Nat) (o : Ob) : (H.set n o) n = some o := by simp [Heap.set]
theorem Heap.set_ne (H : Heap) {n i : Nat} (o : Ob) (h : i ≠ n) : (H.set n o) i = H i := by simp [Heap.set, h]
theorem Heap.del_same (H : Heap) (n : Nat) : (H.del n) n = none := by simp [Heap.del]
theorem Heap.del_ne (H : Heap) {n i : Nat} (h : i ≠ n) : (H.del n) i = H i := by simp [Heap.del, h]
section
variable {β : Nat} {ρ : Rho} {H : Heap} {w : World}
theorem Sim.lt (h : Sim β ρ H w) {i : Nat} {s : Spot} (hl : (H i).isSome) (hr : ρ i = some s) : s.blk < w.heap.size := by
  obtain ⟨o, ho⟩ := Option.isSome_iff_exists.1 hl
  cases o with
  | row e c =>
    obtain ⟨cc, T, fz, h1, _⟩ := h.row i e c s ho hr
    exact (Array.getElem?_eq_some_iff.1 h1).1
  | mp es =>
    obtain ⟨en, cl, h1, _⟩ := h.mp i es s ho hr
    exact (Array.getElem?_eq_some_iff.1 h1).1
theorem Sim.cell (h : Sim β ρ H w) {i e : Nat} {c : List Value} {s : Spot} (ho : H i = some (.row e c)) (hr : ρ i = some s) {k : Nat} {v : Value} (hk : c[k]? = some v) :
    ∃ v', w.cell? ⟨s.blk, s.off + k, none⟩ = some v' ∧ VR ρ v v' := by
  obtain ⟨cc, T, fz, h1, _, _, _, h5, _⟩ := h.row i e c s ho hr
  obtain ⟨v', hv, hR⟩ := h5 k v hk
  exact ⟨v', by simp [World.cell?, h1, hv], hR⟩
theorem Sim.same_heap (h : Sim β ρ H w) {w' : World} (hw : w'.heap = w.heap) : Sim β ρ H w' :=
  ⟨fun i e c s a b => by rw [hw]; exact h.row i e c s a b, fun i es s a b => by rw [hw]; exact h.mp i es s a b, h.inj⟩
theorem Sim.alloc (h : Sim β ρ H w) {n : Nat} (hn : ρ n = none) {w' : World} (hsz : w.heap.size < w'.heap.size)
    (hw : ∀ B, B < w.heap.size → w'.heap[B]? = w.heap[B]?) {o : Ob} {s : Spot} (hs : s.blk = w.heap.size)
    (hrow : ∀ e c, o = .row e c → ∃ cc T fz, w'.heap[s.blk]? = some (.cells cc T fz) ∧ s.esz = e ∧ c.length ≤ s.room ∧ s.off + s.room ≤ cc.size ∧
      (∀ (k : Nat) v, c[k]? = some v → ∃ v', cc[s.off + k]? = some v' ∧ VR (ρ.set n s) v v') ∧ (∀ k, k < s.room → ¬ (fz.1 ≤ s.off + k ∧ s.off + k < fz.2)) ∧ (∀ v ∈ c, v.oneCell' = true))
    (hmp : ∀ es, o = .mp es → ∃ en cl, w'.heap[s.blk]? = some (.map en cl) ∧ en.size = es.length ∧
      (∀ (k : Nat) p, es[k]? = some p → ∃ x, en[k]? = some x ∧ x.key = p.1 ∧ Gr p.1 ∧ VR (ρ.set n s) p.2 x.val)) :
    Sim β (ρ.set n s) (H.set n o) w' := by
  have hle : ρ.le (ρ.set n s) := Rho.le_set hn
  refine ⟨fun i e c t ho hr => ?_, fun i es t ho hr => ?_, fun i j t t' hi hj hr hr' hb hβ => ?_⟩
  · by_cases hi : i = n
    · subst hi
      rw [Heap.set_same] at ho; rw [Rho.set_same] at hr
      obtain rfl := Option.some.inj hr
      obtain ⟨cc, T, fz, h1, h2, h3, h4, h5, h6, h7⟩ := hrow e c (Option.some.inj ho)
      exact ⟨cc, T, fz, h1, h2, h3, h4, h5, fun _ => h6, fun _ => h7⟩
    · rw [Heap.set_ne _ _ hi] at ho; rw [Rho.set_ne _ _ hi] at hr
      obtain ⟨cc, T, fz, h1, h2, h3, h4, h5, h6, h7⟩ := h.row i e c t ho hr
      refine ⟨cc, T, fz, ?_, h2, h3, h4, fun k v hk => ?_, h6, h7⟩
      · rw [hw _ (Array.getElem?_eq_some_iff.1 h1).1]; exact h1
      · obtain ⟨v', a, b⟩ := h5 k v hk; exact ⟨v', a, b.mono hle⟩
  · by_cases hi : i = n
    · subst hi
      rw [Heap.set_same] at ho; rw [Rho.set_same] at hr
      obtain rfl := Option.some.inj hr
      exact hmp es (Option.some.inj ho)
    · rw [Heap.set_ne _ _ hi] at ho; rw [Rho.set_ne _ _ hi] at hr
      obtain ⟨en, cl, h1, h2, h3⟩ := h.mp i es t ho hr
      refine ⟨en, cl, ?_, h2, fun k p hk => ?_⟩
      · rw [hw _ (Array.getElem?_eq_some_iff.1 h1).1]; exact h1
      · obtain ⟨x, a, b, c, d⟩ := h3 k p hk; exact ⟨x, a, b, c, d.mono hle⟩
  · by_cases hin : i = n
    · by_cases hjn : j = n
      · rw [hin, hjn]
      · exfalso
        subst hin
        rw [Rho.set_same] at hr; rw [Rho.set_ne _ _ hjn] at hr'; rw [Heap.set_ne _ _ hjn] at hj
        obtain rfl := Option.some.inj hr
        have := h.lt hj hr'
        omega
    · by_cases hjn : j = n
      · exfalso
        subst hjn
        rw [Rho.set_same] at hr'; rw [Rho.set_ne _ _ hin] at hr; rw [Heap.set_ne _ _ hin] at hi
        obtain rfl := Option.some.inj hr'
        have := h.lt hi hr
        omega
      · rw [Rho.set_ne _ _ hin] at hr; rw [Rho.set_ne _ _ hjn] at hr'; rw [Heap.set_ne _ _ hin] at hi; rw [Heap.set_ne _ _ hjn] at hj
        exact h.inj i j t t' hi hj hr hr' hb hβ
theorem Ok.same {lo n : Nat} (h : Sim β ρ H w) {w' : World} (hw : w'.heap = w.heap) (ho : SameOut w w') : Ok β lo ρ n H w ρ n H w' :=
  ⟨h.same_heap hw, Nat.le_refl _, fun _ _ => rfl, fun _ _ => rfl, fun _ _ => rfl, by rw [hw]; exact Nat.le_refl _, fun B _ _ => by rw [hw], fun i _ h1 h2 => by omega, fun _ _ h => h, ho⟩
theorem Ok.refl {lo n : Nat} (h : Sim β ρ H w) : Ok β lo ρ n H w ρ n H w := Ok.same h rfl (.refl _)
theorem Ok.rho {lo n n' : Nat} {ρ' : Rho} {H' : Heap} {w' : World} (h : Ok β lo ρ n H w ρ' n' H' w') (hf : ∀ i, n ≤ i → i < n' → ρ i = none) : ρ.le ρ' := by
  intro i s hs
  by_cases h1 : i < n
  · rw [h.old i h1]; exact hs
  · by_cases h2 : i < n'
    · rw [hf i (by omega) h2] at hs; cases hs
    · rw [h.far i (by omega)]; exact hs
theorem Ok.row {lo n : Nat} (h : Sim β ρ H w) (hlo : lo ≤ n) (hn : ρ n = none) {w' : World} (cc : Array Value) (T : TypeId) (fz : Nat × Nat)
    (hw : w'.heap = w.heap.push (.cells cc T fz)) (e : Nat) (c : List Value) (room : Nat) (hroom : c.length ≤ room) (hcc : room ≤ cc.size)
    (hval : ∀ (k : Nat) v, c[k]? = some v → ∃ v', cc[k]? = some v' ∧ VR ρ v v') (hfz : ∀ k, k < room → ¬ (fz.1 ≤ k ∧ k < fz.2)) (hone : ∀ v ∈ c, v.oneCell' = true) (hout : SameOut w w' := by exact ⟨rfl, rfl, rfl⟩) :
    Ok β lo ρ n H w (ρ.set n ⟨w.heap.size, 0, room, e⟩) (n + 1) (H.set n (.row e c)) w' := by
  have hlt : ∀ B, B < w.heap.size → w'.heap[B]? = w.heap[B]? := fun B hB => by
    rw [hw, Array.getElem?_push, if_neg (by omega)]
  refine ⟨?_, by omega, fun i hi => Rho.set_ne _ _ (by omega), fun i hi => Rho.set_ne _ _ (by omega), fun i hi => Heap.set_ne _ _ (by omega), by rw [hw]; simp, fun B hB _ => hlt B hB, fun i s h1 h2 hr => ?_, fun i hi h => by rw [Heap.set_ne _ _ (by omega)]; exact h, hout⟩
  rotate_left
  · obtain rfl : i = n := by omega
    rw [Rho.set_same] at hr
    obtain rfl := Option.some.inj hr
    exact .inl (Nat.le_refl _)
  refine h.alloc hn (by rw [hw]; simp) hlt rfl (fun e' c' ho => ?_) (fun es ho => by cases ho)
  obtain ⟨rfl, rfl⟩ := Ob.row.inj ho
  refine ⟨cc, T, fz, by rw [hw]; simp, rfl, hroom, by simpa using hcc, fun k v hk => ?_, fun k hk => by simpa using hfz k hk, hone⟩
  obtain ⟨v', a, b⟩ := hval k v hk
  exact ⟨v', by simpa using a, b.mono (Rho.le_set hn)⟩
end
end Go.Proofs.YtmodhnkjimpkbaaAb
