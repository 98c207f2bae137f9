import Derived.Test.YtmodhnkjimpkbaaAbP1
set_option linter.all false
namespace Go.Proofs.YtmodhnkjimpkbaaAb
open Go
class Bd (α : Type) where
  bd : Nat → α → Prop
instance : Bd Int := ⟨fun _ _ => True⟩
instance : Bd Bool := ⟨fun _ _ => True⟩
instance : Bd UInt8 := ⟨fun _ _ => True⟩
instance : Bd Str := ⟨fun B s => s.length ≤ B⟩
instance {α : Type} [Bd α] : Bd (List α) := ⟨fun B xs => xs.length ≤ B ∧ ∀ x ∈ xs, Bd.bd B x⟩
theorem bd_list {α : Type} [Bd α] {B : Nat} {xs : List α} (h : Bd.bd B xs) : xs.length ≤ B ∧ ∀ x ∈ xs, Bd.bd B x := h
theorem bd_triv {α : Type} [Bd α] (ht : ∀ (B : Nat) (x : α), Bd.bd B x) {B : Nat} {xs : List α} (h : xs.length ≤ B) : Bd.bd B xs := ⟨h, fun x _ => ht B x⟩
abbrev BU : Nat := 4611686018427387903
abbrev BS20 : Nat := 1048576
theorem ra_mem {α : Type} [Rp α] {F : Heap} {cs : List Value} {xs : List α} (h : RA F cs xs) : ∀ x ∈ xs, ∃ cs', Rp.R F cs' x := by
  induction h with
  | nil => intro x hx; cases hx
  | cons h t ih =>
    intro x hx
    rcases List.mem_cons.1 hx with rfl | hx
    · exact ⟨_, h⟩
    · exact ih x hx
theorem sr_bd {α : Type} [Rp α] [Bd α] (hel : ∀ {F : Heap} {cs : List Value} {x : α}, Rp.R F cs x → Bd.bd BU x) {F : Heap} {v : Value} {xs : List α} (h : SR F v xs) : Bd.bd BU xs := by
  obtain ⟨h0, cs, _, h2⟩ := h
  refine ⟨by unfold UNK at h0; unfold BU; omega, fun x hx => ?_⟩
  obtain ⟨cs', h3⟩ := ra_mem h2 x hx
  exact hel h3
theorem i_bd {F : Heap} {cs : List Value} {x : Int} (_ : Rp.R F cs x) : Bd.bd BU x := trivial
theorem b_bd {F : Heap} {cs : List Value} {x : Bool} (_ : Rp.R F cs x) : Bd.bd BU x := trivial
theorem u_bd {F : Heap} {cs : List Value} {x : UInt8} (_ : Rp.R F cs x) : Bd.bd BU x := trivial
end Go.Proofs.YtmodhnkjimpkbaaAb
