import Derived.Test.YtmodhnkjimpkbaaPuA
set_option linter.all false
namespace Go.Proofs.YtmodhnkjimpkbaaAb
open Go
theorem BIG_eq : BIG = 18446744073709551616 := rfl
theorem slc_tail {α : Type} {xs : List α} {l : Int} (h0 : 0 ≤ l) (h1 : l ≤ xs.length) : slc xs l xs.length = some (xs.drop l.toNat) := by
  rw [slc_pos h0 h1 (Int.le_refl _), Int.toNat_natCast, List.take_length]
theorem slc_head {α : Type} {xs : List α} {h : Int} (h0 : 0 ≤ h) (h1 : h ≤ xs.length) : slc xs 0 h = some (xs.take h.toNat) := by
  rw [slc_pos (Int.le_refl _) h0 h1]; rfl
theorem idx_nat {α : Type} {xs : List α} {j : Nat} (hj : j < xs.length) : idx xs (j : Int) = some xs[j] := by
  rw [idx_pos (by omega) (by omega)]; rfl
theorem idx_zero {α : Type} {x : α} {xs : List α} : idx (x :: xs) 0 = some x := by unfold idx; simp
@[simp] theorem obind_some {α β : Type} (a : α) (f : α → Option β) : (some a).bind f = f a := Eq.trans rfl rfl
end Go.Proofs.YtmodhnkjimpkbaaAb
