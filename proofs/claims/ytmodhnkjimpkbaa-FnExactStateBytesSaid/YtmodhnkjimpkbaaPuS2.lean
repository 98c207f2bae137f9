import Derived.Test.YtmodhnkjimpkbaaPuB
import Derived.Test.YtmodhnkjimpkbaaPxSbD
set_option linter.all false
namespace Go.Proofs.YtmodhnkjimpkbaaAb
open Go
theorem bnd_t {p : Prop} [Decidable p] (h : ¬ p) : (!decide p) = true := by simp [h]
theorem bnd_f {p : Prop} [Decidable p] (h : p) : ¬ ((!decide p) = true) := by simp [h]
theorem bd_f {p : Prop} [Decidable p] (h : ¬ p) : ¬ (decide p = true) := by simp [h]
theorem within_m (x l h : Int) : f_impl_within x l h = some (decide (l ≤ x ∧ x ≤ h)) := by
  unfold f_impl_within
  by_cases h1 : l ≤ x
  · rw [if_pos h1]; simp [h1]
  · rw [if_neg h1]; simp [h1]
theorem isCount_m (x : Int) : f_impl_isCount x = some (decide (1 ≤ x ∧ x ≤ 1000000)) := by
  unfold f_impl_isCount; rw [within_m]; rfl
theorem in_m (x l h : Int) : f_spec_l02In x l h = some (decide (l ≤ x ∧ x ≤ h)) := by
  unfold f_spec_l02In
  by_cases h1 : l ≤ x
  · rw [if_pos h1]; simp [h1]
  · rw [if_neg h1]; simp [h1]
abbrev isLet (c : UInt8) : Prop := (97 ≤ c.toNat ∧ c.toNat ≤ 122) ∨ (65 ≤ c.toNat ∧ c.toNat ≤ 90) ∨ c.toNat = 95
abbrev isDig (c : UInt8) : Prop := 48 ≤ c.toNat ∧ c.toNat ≤ 57
theorem letter_m (c : UInt8) : f_spec_l00Letter c = some (decide (isLet c)) := by
  unfold f_spec_l00Letter isLet
  by_cases h1 : (97 : Int) ≤ c.toNat
  · rw [if_pos h1]
    by_cases h2 : (c.toNat : Int) ≤ 122
    · rw [if_pos h2]; congr 1; exact (decide_eq_true (by omega)).symm
    · rw [if_neg h2]
      by_cases h3 : (65 : Int) ≤ c.toNat
      · rw [if_pos h3]
        by_cases h4 : (c.toNat : Int) ≤ 90
        · rw [if_pos h4]; congr 1; exact (decide_eq_true (by omega)).symm
        · rw [if_neg h4]; congr 1; rw [decide_eq_decide]; omega
      · rw [if_neg h3]; congr 1; rw [decide_eq_decide]; omega
  · rw [if_neg h1]
    by_cases h3 : (65 : Int) ≤ c.toNat
    · rw [if_pos h3]
      by_cases h4 : (c.toNat : Int) ≤ 90
      · rw [if_pos h4]; congr 1; exact (decide_eq_true (by omega)).symm
      · rw [if_neg h4]; congr 1; rw [decide_eq_decide]; omega
    · rw [if_neg h3]; congr 1; rw [decide_eq_decide]; omega
theorem digit_m (c : UInt8) : f_spec_l00Digit c = some (decide (isDig c)) := by
  unfold f_spec_l00Digit isDig
  by_cases h1 : (48 : Int) ≤ c.toNat
  · rw [if_pos h1]; congr 1; rw [decide_eq_decide]; omega
  · rw [if_neg h1]; congr 1; exact (decide_eq_false (by omega)).symm
def wordFrom (s : List UInt8) (i : Nat) : Prop := ∀ c ∈ s.drop i, isLet c ∨ isDig c
instance (s : List UInt8) (i : Nat) : Decidable (wordFrom s i) := by unfold wordFrom; infer_instance
theorem wordFrom_step {s : List UInt8} {i : Nat} (h : i < s.length) : wordFrom s i ↔ (isLet s[i] ∨ isDig s[i]) ∧ wordFrom s (i + 1) := by
  unfold wordFrom
  rw [List.drop_eq_getElem_cons h]
  exact List.forall_mem_cons
theorem wordFrom_end {s : List UInt8} {i : Nat} (h : s.length ≤ i) : wordFrom s i := by
  unfold wordFrom; rw [List.drop_of_length_le h]; simp
def nameP (s : List UInt8) : Prop := (1 ≤ s.length ∧ s.length ≤ 40) ∧ (∀ h : 0 < s.length, isLet s[0]) ∧ wordFrom s 1
noncomputable def pB (p : Prop) : Bool := @decide p (Classical.propDecidable p)
theorem pB_t {p : Prop} (h : p) : pB p = true := @decide_eq_true p (Classical.propDecidable p) h
theorem pB_f {p : Prop} (h : ¬ p) : pB p = false := @decide_eq_false p (Classical.propDecidable p) h
theorem pB_iff {p q : Prop} (h : p ↔ q) : pB p = pB q := by rw [propext h]
theorem pB_dec {p : Prop} [Decidable p] : decide p = pB p := by
  by_cases h : p
  · rw [decide_eq_true h, pB_t h]
  · rw [decide_eq_false h, pB_f h]
theorem word_L (s : Str) (hl : s.length ≤ 1000000000) : ∀ (m k i : Nat), s.length - i = m → m + 1 ≤ k → i ≤ s.length → f_spec_l00Word_L1 s k (i : Int) = some (pB (wordFrom s i)) := by
  intro m
  induction m with
  | zero =>
    intro k i hm hk hi
    obtain ⟨k, rfl⟩ : ∃ j, k = j + 1 := ⟨k - 1, by omega⟩
    rw [f_spec_l00Word_L1, if_neg (by omega)]
    exact congrArg some (pB_t (p := wordFrom s i) (wordFrom_end (s := s) (by omega))).symm
  | succ m ih =>
    intro k i hm hk hi
    obtain ⟨k, rfl⟩ : ∃ j, k = j + 1 := ⟨k - 1, by omega⟩
    have hlt : i < s.length := by omega
    have e : ((i : Int) + 1) = ((i + 1 : Nat) : Int) := by omega
    have hw := wordFrom_step (s := s) hlt
    obtain ⟨c, hc, hcs⟩ : ∃ c, idx (lst s) (i : Int) = some c ∧ (lst s)[i]'hlt = c := ⟨_, idx_nat hlt, rfl⟩
    have hcs2 : @getElem (List UInt8) Nat UInt8 _ _ s i hlt = c := hcs
    rw [hcs2] at hw
    rw [f_spec_l00Word_L1, if_pos (by omega), show idx s (i : Int) = some c from hc, obind_some, letter_m, obind_some, obind_some, digit_m, obind_some]
    unfold f_spec_l00Word_J2
    by_cases h1 : isLet c
    · rw [if_neg (bnd_f h1), if_neg (by simp), chk_pos (by omega), e, ih k (i + 1) (by omega) (by omega) (by omega)]
      congr 1; apply pB_iff; rw [hw]; exact ⟨fun h => ⟨.inl h1, h⟩, fun h => h.2⟩
    · rw [if_pos (bnd_t h1)]
      by_cases h2 : isDig c
      · rw [if_neg (bnd_f h2), chk_pos (by omega), e, ih k (i + 1) (by omega) (by omega) (by omega)]
        congr 1; apply pB_iff; rw [hw]; exact ⟨fun h => ⟨.inr h2, h⟩, fun h => h.2⟩
      · rw [if_pos (bnd_t h2)]
        congr 1; symm; apply pB_f; rw [hw]; rintro ⟨h | h, _⟩
        · exact h1 h
        · exact h2 h
theorem name_s (s : Str) (hl : s.length ≤ 1000000000) : f_spec_NameOK s = some (pB (nameP s)) := by
  unfold f_spec_NameOK f_spec_l00Word
  by_cases h1 : (s.length : Int) < 1
  · rw [if_pos h1, pB_f (show ¬ nameP s from fun h => by have := h.1.1; omega)]; rfl
  rw [if_neg h1]
  by_cases h2 : 40 < (s.length : Int)
  · rw [if_pos h2, pB_f (show ¬ nameP s from fun h => by have := h.1.2; omega)]; rfl
  have h0 : 0 < s.length := by omega
  obtain ⟨c, hc, hcs⟩ : ∃ c, idx (lst s) ((0 : Nat) : Int) = some c ∧ (lst s)[0]'h0 = c := ⟨_, idx_nat h0, rfl⟩
  have hcs2 : @getElem (List UInt8) Nat UInt8 _ _ s 0 h0 = c := hcs
  rw [if_neg h2, show idx s 0 = some c from hc, obind_some, letter_m, obind_some]
  unfold f_spec_l00Word_J0
  by_cases h3 : isLet c
  · rw [if_neg (bnd_f h3), show f_spec_l00Word_L1 s BIG 1 = some (pB (wordFrom s 1)) from word_L s hl (s.length - 1) BIG 1 rfl (by rw [BIG_eq]; omega) h0, obind_some]
    congr 1; apply pB_iff
    exact ⟨fun h => ⟨⟨by omega, by omega⟩, fun _ => by rw [hcs2]; exact h3, h⟩, fun h => h.2.2⟩
  · rw [if_pos (bnd_t h3), pB_f (show ¬ nameP s from fun h => h3 (by have := h.2.1 h0; rw [hcs2] at this; exact this))]; rfl
theorem name_J2 (i : Nat) (rc : Int → Option Bool) (c : UInt8) (hi : i < 1000000000) (b : Bool) (hb : b = decide (isLet c)) : f_impl_NameOK_J2 (i : Int) rc c b = if isLet c ∨ (0 < i ∧ isDig c) then rc ((i + 1 : Nat) : Int) else some false := by
  subst hb
  unfold f_impl_NameOK_J2
  have hj : ∀ b : Bool, f_impl_NameOK_J3 (i : Int) rc b = if b = true then some false else rc ((i + 1 : Nat) : Int) := by
    intro b; unfold f_impl_NameOK_J3
    cases b
    · rw [if_neg (by simp), if_neg (by simp), chk_pos (by omega)]; rfl
    · rw [if_pos rfl, if_pos rfl]
  by_cases h1 : isLet c
  · rw [if_neg (bnd_f h1), hj, if_neg (by simp), if_pos (.inl h1)]
  · rw [if_pos (bnd_t h1)]
    by_cases h2 : (i : Int) = 0
    · rw [if_pos h2, hj, if_pos rfl, if_neg (by rintro (h | h); exact h1 h; omega)]
    · rw [if_neg h2]
      by_cases h3 : (c.toNat : Int) < 48
      · rw [if_pos h3, hj, if_pos rfl, if_neg (by rintro (h | h); exact h1 h; have := h.2.1; omega)]
      · rw [if_neg h3, hj]
        by_cases h4 : (57 : Int) < c.toNat
        · rw [if_pos (decide_eq_true h4), if_neg (by rintro (h | h); exact h1 h; have := h.2.2; omega)]
        · rw [if_neg (bd_f h4), if_pos (.inr ⟨by omega, by unfold isDig; omega⟩)]
theorem name_J1 (s : Str) (i : Nat) (rc : Int → Option Bool) (hi : i < 1000000000) {c : UInt8} (h : idx (lst s) (i : Int) = some c) : f_impl_NameOK_J1 s (i : Int) rc true = if isLet c ∨ (0 < i ∧ isDig c) then rc ((i + 1 : Nat) : Int) else some false := by
  unfold f_impl_NameOK_J1
  rw [if_pos rfl, show idx s (i : Int) = some c from h, obind_some]
  have hj := fun b hb => name_J2 i rc c hi b hb
  by_cases h1 : (97 : Int) ≤ c.toNat
  · rw [if_pos h1]
    by_cases h2 : (c.toNat : Int) ≤ 122
    · rw [if_pos h2]; exact hj _ (decide_eq_true (by unfold isLet; omega)).symm
    · rw [if_neg h2]
      by_cases h3 : (65 : Int) ≤ c.toNat
      · rw [if_pos h3]
        by_cases h4 : (c.toNat : Int) ≤ 90
        · rw [if_pos h4]; exact hj _ (decide_eq_true (by unfold isLet; omega)).symm
        · rw [if_neg h4]; exact hj _ (by rw [decide_eq_decide]; unfold isLet; omega)
      · rw [if_neg h3]; exact hj _ (by rw [decide_eq_decide]; unfold isLet; omega)
  · rw [if_neg h1]
    by_cases h3 : (65 : Int) ≤ c.toNat
    · rw [if_pos h3]
      by_cases h4 : (c.toNat : Int) ≤ 90
      · rw [if_pos h4]; exact hj _ (decide_eq_true (by unfold isLet; omega)).symm
      · rw [if_neg h4]; exact hj _ (by rw [decide_eq_decide]; unfold isLet; omega)
    · rw [if_neg h3]; exact hj _ (by rw [decide_eq_decide]; unfold isLet; omega)
def nameFrom (s : List UInt8) (i : Nat) : Prop := (∀ h : 0 < s.length, i = 0 → isLet s[0]) ∧ wordFrom s (max i 1) ∧ 1 ≤ s.length ∧ s.length ≤ 40
theorem name_L (s : Str) : ∀ (m k i : Nat), min s.length 100 - i = m → m + 1 ≤ k → i ≤ s.length → i ≤ 100 → f_impl_NameOK_L0 s k (i : Int) = some (pB (nameFrom s i)) := by
  have hend : ∀ i : Nat, i = s.length ∨ i = 100 → i ≤ s.length → ∀ rc, f_impl_NameOK_J1 s (i : Int) rc false = some (pB (nameFrom s i)) := by
    intro i hi hle rc
    unfold f_impl_NameOK_J1
    rw [if_neg (by simp), within_m, obind_some]
    congr 1
    rw [pB_dec]
    apply pB_iff
    unfold nameFrom
    constructor
    · intro h
      have hil : i = s.length := by omega
      exact ⟨fun h0 hz => by omega, wordFrom_end (by omega), by omega, by omega⟩
    · intro h; have := h.2.2; omega
  intro m
  induction m with
  | zero =>
    intro k i hm hk hi hi2
    obtain ⟨k, rfl⟩ : ∃ j, k = j + 1 := ⟨k - 1, by omega⟩
    rw [f_impl_NameOK_L0]
    by_cases h : (i : Int) < s.length
    · rw [if_pos h, decide_eq_false (by omega)]
      exact hend i (by omega) hi _
    · rw [if_neg h]; exact hend i (by omega) hi _
  | succ m ih =>
    intro k i hm hk hi hi2
    obtain ⟨k, rfl⟩ : ∃ j, k = j + 1 := ⟨k - 1, by omega⟩
    have hlt : i < s.length := by omega
    obtain ⟨c, hidx, hcs⟩ : ∃ c, idx (lst s) (i : Int) = some c ∧ (lst s)[i]'hlt = c := ⟨_, idx_nat hlt, rfl⟩
    have hw := wordFrom_step (s := s) hlt
    have hcs2 : @getElem (List UInt8) Nat UInt8 _ _ s i hlt = c := hcs
    rw [hcs2] at hw
    rw [f_impl_NameOK_L0, if_pos (by omega), decide_eq_true (by omega), name_J1 s i _ (by omega) hidx]
    by_cases hc : isLet c ∨ (0 < i ∧ isDig c)
    · rw [if_pos hc, ih k (i + 1) (by omega) (by omega) (by omega) (by omega)]
      congr 1
      apply pB_iff
      unfold nameFrom
      have hm1 : max (i + 1) 1 = i + 1 := by omega
      rw [hm1]
      constructor
      · rintro ⟨_, h2, h3⟩
        refine ⟨fun h0 hz => ?_, ?_, h3⟩
        · subst hz
          rcases hc with h | h
          · rw [hcs2]; exact h
          · omega
        · by_cases hz : i = 0
          · subst hz; exact h2
          · have hm2 : max i 1 = i := by omega
            rw [hm2, hw]
            exact ⟨hc.imp id (fun h => h.2), h2⟩
      · rintro ⟨h1, h2, h3⟩
        refine ⟨fun h0 hz => by omega, ?_, h3⟩
        by_cases hz : i = 0
        · subst hz; exact h2
        · have hm2 : max i 1 = i := by omega
          rw [hm2, hw] at h2
          exact h2.2
    · rw [if_neg hc]
      congr 1; symm; apply pB_f
      rintro ⟨h1, h2, h3⟩
      apply hc
      by_cases hz : i = 0
      · subst hz; have := h1 (by omega) rfl; rw [hcs2] at this; exact .inl this
      · have hm2 : max i 1 = i := by omega
        rw [hm2, hw] at h2
        exact h2.1.imp id (fun h => ⟨by omega, h⟩)
theorem name_i (s : Str) : f_impl_NameOK s = some (pB (nameP s)) := by
  unfold f_impl_NameOK
  rw [show f_impl_NameOK_L0 s BIG 0 = some (pB (nameFrom s 0)) from name_L s (min s.length 100) BIG 0 (by omega) (by rw [BIG_eq]; omega) (by omega) (by omega)]
  congr 1
  apply pB_iff
  unfold nameFrom nameP
  exact ⟨fun h => ⟨h.2.2, fun h0 => h.1 h0 rfl, h.2.1⟩, fun h => ⟨fun h0 _ => h.2.1 h0, h.2.2, h.1⟩⟩
end Go.Proofs.YtmodhnkjimpkbaaAb
