import Derived.Test.YtmodhnkjimpkbaaPuB
import Derived.Test.YtmodhnkjimpkbaaAbBd
set_option linter.all false
namespace Go.Proofs.YtmodhnkjimpkbaaAb
open Go
def SzOk {α : Type} [Bd α] (f : α → Int → Option Int) : Prop := ∀ (x : α) (left : Int), Bd.bd BU x → 0 ≤ left → left ≤ 1048576 → ∃ r, f x left = some r ∧ r ≤ left ∧ (0 ≤ r → Bd.bd BS20 x)
def ToOk {α : Type} [Bd α] (f : α → Option α) : Prop := ∀ (x : α), Bd.bd BS20 x → f x = some x
def EqOk {α : Type} [Bd α] (f : α → α → Option Bool) : Prop := ∀ (x : α), Bd.bd BS20 x → f x x = some true
theorem sz_flat {α : Type} [Bd α] (ht : ∀ (B : Nat) (x : α), Bd.bd B x) {f : List α → Int → Option Int}
    (hf : ∀ xs left, f xs left = chk (-9223372036854775808 ≤ left - (xs.length : Int) ∧ left - (xs.length : Int) < 9223372036854775808) (if (left - (xs.length : Int)) < 0 then some (-1) else some (left - (xs.length : Int)))) : SzOk f := by
  intro xs left hb h0 h1
  have hl := hb.1
  unfold BU at hl
  rw [hf, chk_pos (by omega)]
  by_cases h : left - (xs.length : Int) < 0
  · rw [if_pos h]; exact ⟨_, rfl, by omega, fun h => by omega⟩
  · rw [if_neg h]; exact ⟨_, rfl, by omega, fun _ => bd_triv ht (by unfold BS20; omega)⟩
theorem sz_rows {α : Type} [Bd α] {g : α → Int → Option Int} (hg : SzOk g) {f : List α → Int → Option Int} {L : List α → Nat → Int → Int → Option Int}
    (hf : ∀ xs left, f xs left = chk (-9223372036854775808 ≤ left - (xs.length : Int) ∧ left - (xs.length : Int) < 9223372036854775808) (if (left - (xs.length : Int)) < 0 then some (-1) else L xs BIG (left - (xs.length : Int)) 0))
    (hL : ∀ xs k left i, L xs (k + 1) left i = if i < (xs.length : Int) then (idx xs i).bind fun x => (g x left).bind fun r => if r < 0 then some (-1) else chk (-9223372036854775808 ≤ i + 1 ∧ i + 1 < 9223372036854775808) (L xs k r (i + 1)) else some left) : SzOk f := by
  intro xs left hb h0 h1
  have hl := hb.1
  unfold BU at hl
  rw [hf, chk_pos (by omega)]
  by_cases h : left - (xs.length : Int) < 0
  · rw [if_pos h]; exact ⟨_, rfl, by omega, fun h => by omega⟩
  rw [if_neg h]
  have key : ∀ (m k i : Nat) (l : Int), xs.length - i = m → m + 1 ≤ k → i ≤ xs.length → 0 ≤ l → l ≤ 1048576 → ∃ r, L xs k l (i : Int) = some r ∧ r ≤ l ∧ (0 ≤ r → ∀ x ∈ xs.drop i, Bd.bd BS20 x) := by
    intro m
    induction m with
    | zero =>
      intro k i l hm hk hi hl0 hl1
      obtain ⟨k, rfl⟩ : ∃ j, k = j + 1 := ⟨k - 1, by omega⟩
      rw [hL, if_neg (by omega)]
      exact ⟨_, rfl, by omega, fun _ x hx => by rw [List.drop_of_length_le (by omega)] at hx; cases hx⟩
    | succ m ih =>
      intro k i l hm hk hi hl0 hl1
      obtain ⟨k, rfl⟩ : ∃ j, k = j + 1 := ⟨k - 1, by omega⟩
      have hlt : i < xs.length := by omega
      obtain ⟨r, e1, e2, e3⟩ := hg xs[i] l (hb.2 _ (List.getElem_mem hlt)) hl0 hl1
      have e : ((i : Int) + 1) = ((i + 1 : Nat) : Int) := by omega
      rw [hL, if_pos (by omega), idx_nat hlt, obind_some, e1, obind_some]
      by_cases hr : r < 0
      · rw [if_pos hr]; exact ⟨_, rfl, by omega, fun h => by omega⟩
      · rw [if_neg hr, chk_pos (by omega), e]
        obtain ⟨r', f1, f2, f3⟩ := ih k (i + 1) r (by omega) (by omega) (by omega) (by omega) (by omega)
        refine ⟨r', f1, by omega, fun h x hx => ?_⟩
        rw [List.drop_eq_getElem_cons hlt] at hx
        rcases List.mem_cons.1 hx with rfl | hx
        · exact e3 (by omega)
        · exact f3 h x hx
  obtain ⟨r, e1, e2, e3⟩ := key xs.length BIG 0 (left - (xs.length : Int)) (by omega) (by rw [BIG_eq]; omega) (by omega) (by omega) (by omega)
  exact ⟨r, e1, by omega, fun h => ⟨by unfold BS20; omega, fun x hx => e3 h x (by rw [List.drop_zero]; exact hx)⟩⟩
theorem setI_nat {α : Type} {xs : List α} {i : Nat} {y : α} : setI xs (i : Int) y = xs.set i y := rfl
theorem to_rows {α : Type} [Bd α] {g : α → Option α} (hg : ToOk g) (z : α) {f : List α → Option (List α)} {L : List α → Nat → List α → Int → Option (List α)}
    (hf : ∀ xs, f xs = chk ((0 : Int) ≤ (xs.length : Int) ∧ (xs.length : Int) ≤ 68719476736) (L xs BIG (List.replicate (xs.length : Int).toNat z) 0))
    (hL : ∀ xs k ys i, L xs (k + 1) ys i = if i < (xs.length : Int) then (idx xs i).bind fun x => (g x).bind fun y => (idx ys i).bind fun _ => chk (-9223372036854775808 ≤ i + 1 ∧ i + 1 < 9223372036854775808) (L xs k (setI ys i y) (i + 1)) else some ys) : ToOk f := by
  intro xs hb
  have hl := hb.1
  unfold BS20 at hl
  rw [hf, chk_pos (by omega)]
  have key : ∀ (m k i : Nat) (ys : List α), xs.length - i = m → m + 1 ≤ k → i ≤ xs.length → ys.length = xs.length → ys.take i = xs.take i → L xs k ys (i : Int) = some xs := by
    intro m
    induction m with
    | zero =>
      intro k i ys hm hk hi hy ht
      obtain ⟨k, rfl⟩ : ∃ j, k = j + 1 := ⟨k - 1, by omega⟩
      rw [hL, if_neg (by omega)]
      rw [List.take_of_length_le (by omega), List.take_of_length_le (by omega)] at ht
      rw [ht]
    | succ m ih =>
      intro k i ys hm hk hi hy ht
      obtain ⟨k, rfl⟩ : ∃ j, k = j + 1 := ⟨k - 1, by omega⟩
      have hlt : i < xs.length := by omega
      have hlt2 : i < ys.length := by omega
      have e : ((i : Int) + 1) = ((i + 1 : Nat) : Int) := by omega
      rw [hL, if_pos (by omega), idx_nat hlt, obind_some, hg _ (hb.2 _ (List.getElem_mem hlt)), obind_some, idx_nat hlt2, obind_some, chk_pos (by omega), e, setI_nat]
      refine ih k (i + 1) _ (by omega) (by omega) (by omega) (by rw [List.length_set]; exact hy) ?_
      rw [List.take_succ_eq_append_getElem (by rw [List.length_set]; omega), List.take_succ_eq_append_getElem hlt, List.getElem_set_self, List.take_set_of_le (by omega), ht]
  have := key xs.length BIG 0 (List.replicate xs.length z) (by omega) (by rw [BIG_eq]; omega) (by omega) (by rw [List.length_replicate]) (by simp)
  simpa using this
theorem eq_rows {α : Type} [Bd α] {g : α → α → Option Bool} (hg : EqOk g) {f : List α → List α → Option Bool} {L : List α → List α → Nat → Int → Option Bool}
    (hf : ∀ xs, f xs xs = L xs xs BIG 0)
    (hL : ∀ xs k i, L xs xs (k + 1) i = if i < (xs.length : Int) then (idx xs i).bind fun x => (idx xs i).bind fun y => (g x y).bind fun r => if (!r) = true then some false else chk (-9223372036854775808 ≤ i + 1 ∧ i + 1 < 9223372036854775808) (L xs xs k (i + 1)) else some true) : EqOk f := by
  intro xs hb
  have hl := hb.1
  unfold BS20 at hl
  rw [hf]
  have key : ∀ (m k i : Nat), xs.length - i = m → m + 1 ≤ k → i ≤ xs.length → L xs xs k (i : Int) = some true := by
    intro m
    induction m with
    | zero =>
      intro k i hm hk hi
      obtain ⟨k, rfl⟩ : ∃ j, k = j + 1 := ⟨k - 1, by omega⟩
      rw [hL, if_neg (by omega)]
    | succ m ih =>
      intro k i hm hk hi
      obtain ⟨k, rfl⟩ : ∃ j, k = j + 1 := ⟨k - 1, by omega⟩
      have hlt : i < xs.length := by omega
      have e : ((i : Int) + 1) = ((i + 1 : Nat) : Int) := by omega
      rw [hL, if_pos (by omega), idx_nat hlt, obind_some, obind_some, hg _ (hb.2 _ (List.getElem_mem hlt)), obind_some, if_neg (by simp), chk_pos (by omega), e]
      exact ih k (i + 1) (by omega) (by omega) (by omega)
  exact key xs.length BIG 0 (by omega) (by rw [BIG_eq]; omega) (by omega)
theorem eq_flat {α : Type} [Bd α] {G : α → α → Option Bool → Option Bool} (hG : ∀ x K, G x x K = K) {f : List α → List α → Option Bool} {L : List α → List α → Nat → Int → Option Bool}
    (hf : ∀ xs, f xs xs = L xs xs BIG 0)
    (hL : ∀ xs k i, L xs xs (k + 1) i = if i < (xs.length : Int) then (idx xs i).bind fun x => (idx xs i).bind fun y => G x y (chk (-9223372036854775808 ≤ i + 1 ∧ i + 1 < 9223372036854775808) (L xs xs k (i + 1))) else some true) : EqOk f := by
  intro xs hb
  have hl := hb.1
  unfold BS20 at hl
  rw [hf]
  have key : ∀ (m k i : Nat), xs.length - i = m → m + 1 ≤ k → i ≤ xs.length → L xs xs k (i : Int) = some true := by
    intro m
    induction m with
    | zero =>
      intro k i hm hk hi
      obtain ⟨k, rfl⟩ : ∃ j, k = j + 1 := ⟨k - 1, by omega⟩
      rw [hL, if_neg (by omega)]
    | succ m ih =>
      intro k i hm hk hi
      obtain ⟨k, rfl⟩ : ∃ j, k = j + 1 := ⟨k - 1, by omega⟩
      have hlt : i < xs.length := by omega
      have e : ((i : Int) + 1) = ((i + 1 : Nat) : Int) := by omega
      rw [hL, if_pos (by omega), idx_nat hlt, obind_some, obind_some, hG, chk_pos (by omega), e]
      exact ih k (i + 1) (by omega) (by omega) (by omega)
  exact key xs.length BIG 0 (by omega) (by rw [BIG_eq]; omega) (by omega)
end Go.Proofs.YtmodhnkjimpkbaaAb
