import Derived.Test.YtmodhnkjimpkbaaPuS2
set_option linter.all false
namespace Go.Proofs.YtmodhnkjimpkbaaAb
open Go
theorem contains_L (s : Str) (c : UInt8) (hl : s.length ≤ 1000000000) : ∀ (m k i : Nat), s.length - i = m → m + 1 ≤ k → i ≤ s.length → f_impl_contains_L0 s c k (i : Int) = some (decide (c ∈ (lst s).drop i)) := by
  intro m
  induction m with
  | zero =>
    intro k i hm hk hi
    obtain ⟨k, rfl⟩ : ∃ j, k = j + 1 := ⟨k - 1, by omega⟩
    have hd : (lst s).drop i = [] := List.drop_of_length_le (by show s.length ≤ i; omega)
    rw [f_impl_contains_L0, if_neg (by omega), hd]; simp
  | succ m ih =>
    intro k i hm hk hi
    obtain ⟨k, rfl⟩ : ∃ j, k = j + 1 := ⟨k - 1, by omega⟩
    have hlt : i < (lst s).length := by show i < s.length; omega
    have e : ((i : Int) + 1) = ((i + 1 : Nat) : Int) := by omega
    obtain ⟨x, hx, hxs⟩ : ∃ x, idx (lst s) (i : Int) = some x ∧ (lst s)[i]'hlt = x := ⟨_, idx_nat hlt, rfl⟩
    have hd : (lst s).drop i = x :: (lst s).drop (i + 1) := by rw [List.drop_eq_getElem_cons hlt, hxs]
    rw [f_impl_contains_L0, if_pos (by omega), show idx s (i : Int) = some x from hx, obind_some, hd]
    by_cases h : x = c
    · rw [if_pos (by rw [h])]; subst h; simp
    · rw [if_neg (fun hh => h (u8_inj hh)), chk_pos (by omega), e, ih k (i + 1) (by omega) (by omega) (by omega)]
      have : ¬ c = x := fun hh => h hh.symm
      simp [this]
abbrev isHex (c : UInt8) : Prop := (48 ≤ c.toNat ∧ c.toNat ≤ 57) ∨ (97 ≤ c.toNat ∧ c.toNat ≤ 102)
theorem hex_mem (c : UInt8) : c ∈ ([48, 49, 50, 51, 52, 53, 54, 55, 56, 57, 97, 98, 99, 100, 101, 102] : List UInt8) ↔ isHex c := by
  have h : ∀ x : Fin 256, (UInt8.ofNat x.val ∈ ([48, 49, 50, 51, 52, 53, 54, 55, 56, 57, 97, 98, 99, 100, 101, 102] : List UInt8)) ↔ isHex (UInt8.ofNat x.val) := by decide +kernel
  have := h ⟨c.toNat, c.toNat_lt⟩
  simpa using this
theorem contains_m (c : UInt8) : f_impl_contains ([48, 49, 50, 51, 52, 53, 54, 55, 56, 57, 97, 98, 99, 100, 101, 102] : List UInt8) c = some (decide (isHex c)) := by
  unfold f_impl_contains
  have := contains_L ([48, 49, 50, 51, 52, 53, 54, 55, 56, 57, 97, 98, 99, 100, 101, 102] : List UInt8) c (by decide) 16 BIG 0 rfl (by rw [BIG_eq]; omega) (by omega)
  refine this.trans ?_
  congr 1
  rw [decide_eq_decide]
  exact hex_mem c
def hexFrom (s : List UInt8) (i : Nat) : Prop := ∀ c ∈ s.drop i, isHex c
theorem hexFrom_end {s : List UInt8} {i : Nat} (h : s.length ≤ i) : hexFrom s i := by unfold hexFrom; rw [List.drop_of_length_le h]; simp
theorem hexFrom_step {s : List UInt8} {i : Nat} {c : UInt8} (hd : s.drop i = c :: s.drop (i + 1)) : hexFrom s i ↔ isHex c ∧ hexFrom s (i + 1) := by
  unfold hexFrom; rw [hd]; exact List.forall_mem_cons
theorem sha_iL (s : Str) (hl : s.length ≤ 1000000000) : ∀ (m k i : Nat), s.length - i = m → m + 1 ≤ k → i ≤ s.length → f_impl_shaOK_L0 s k (i : Int) = some (pB (hexFrom (lst s) i ∧ (lst s).length = 64)) := by
  intro m
  induction m with
  | zero =>
    intro k i hm hk hi
    obtain ⟨k, rfl⟩ : ∃ j, k = j + 1 := ⟨k - 1, by omega⟩
    rw [f_impl_shaOK_L0, if_neg (by omega), pB_dec]
    congr 1; apply pB_iff
    exact ⟨fun h => ⟨hexFrom_end (s := lst s) (by show s.length ≤ i; omega), by show s.length = 64; omega⟩, fun h => by have h2 : s.length = 64 := h.2; omega⟩
  | succ m ih =>
    intro k i hm hk hi
    obtain ⟨k, rfl⟩ : ∃ j, k = j + 1 := ⟨k - 1, by omega⟩
    have hlt : i < (lst s).length := by show i < s.length; omega
    have e : ((i : Int) + 1) = ((i + 1 : Nat) : Int) := by omega
    obtain ⟨x, hx, hxs⟩ : ∃ x, idx (lst s) (i : Int) = some x ∧ (lst s)[i]'hlt = x := ⟨_, idx_nat hlt, rfl⟩
    have hd : (lst s).drop i = x :: (lst s).drop (i + 1) := by rw [List.drop_eq_getElem_cons hlt, hxs]
    rw [f_impl_shaOK_L0, if_pos (by omega), show idx s (i : Int) = some x from hx, obind_some, contains_m, obind_some]
    by_cases h : isHex x
    · rw [if_neg (bnd_f h), chk_pos (by omega), e, ih k (i + 1) (by omega) (by omega) (by omega)]
      congr 1; apply pB_iff; rw [hexFrom_step hd]
      exact ⟨fun hh => ⟨⟨h, hh.1⟩, hh.2⟩, fun hh => ⟨hh.1.2, hh.2⟩⟩
    · rw [if_pos (bnd_t h)]
      congr 1; symm; apply pB_f; rw [hexFrom_step hd]
      exact fun hh => h hh.1.1
theorem sha_i {s : Str} (hl : s.length ≤ 1000000000) : f_impl_shaOK s = some (pB (hexFrom (lst s) 0 ∧ (lst s).length = 64)) := by
  unfold f_impl_shaOK
  exact sha_iL s hl s.length BIG 0 rfl (by rw [BIG_eq]; omega) (by omega)
theorem sha_sL (s : Str) (hl : s.length ≤ 1000000000) : ∀ (m k i : Nat), s.length - i = m → m + 1 ≤ k → i ≤ s.length → f_spec_l09Sha_L0 s k (i : Int) = some (pB (hexFrom (lst s) i ∧ ((lst s).length = 64 ∨ (lst s).length = 0))) := by
  intro m
  induction m with
  | zero =>
    intro k i hm hk hi
    obtain ⟨k, rfl⟩ : ∃ j, k = j + 1 := ⟨k - 1, by omega⟩
    have hh := hexFrom_end (s := lst s) (i := i) (by show s.length ≤ i; omega)
    rw [f_spec_l09Sha_L0, if_neg (by omega)]
    by_cases h : (s.length : Int) = 64
    · rw [if_pos h, pB_t ⟨hh, .inl (by show s.length = 64; omega)⟩]
    · rw [if_neg h, pB_dec]
      congr 1; apply pB_iff
      exact ⟨fun h => ⟨hh, .inr (by show s.length = 0; omega)⟩, fun h' => by
        have h2 : s.length = 64 ∨ s.length = 0 := h'.2
        omega⟩
  | succ m ih =>
    intro k i hm hk hi
    obtain ⟨k, rfl⟩ : ∃ j, k = j + 1 := ⟨k - 1, by omega⟩
    have hlt : i < (lst s).length := by show i < s.length; omega
    have e : ((i : Int) + 1) = ((i + 1 : Nat) : Int) := by omega
    obtain ⟨x, hx, hxs⟩ : ∃ x, idx (lst s) (i : Int) = some x ∧ (lst s)[i]'hlt = x := ⟨_, idx_nat hlt, rfl⟩
    have hd : (lst s).drop i = x :: (lst s).drop (i + 1) := by rw [List.drop_eq_getElem_cons hlt, hxs]
    have hj : ∀ b : Bool, b = !decide (isHex x) → f_spec_l09Sha_J1 (i : Int) (f_spec_l09Sha_L0 s k) b = some (pB (hexFrom (lst s) i ∧ ((lst s).length = 64 ∨ (lst s).length = 0))) := by
      intro b hb
      subst hb
      unfold f_spec_l09Sha_J1
      by_cases h : isHex x
      · rw [if_neg (bnd_f h), chk_pos (by omega), e, ih k (i + 1) (by omega) (by omega) (by omega)]
        congr 1; apply pB_iff; rw [hexFrom_step hd]
        exact ⟨fun hh => ⟨⟨h, hh.1⟩, hh.2⟩, fun hh => ⟨hh.1.2, hh.2⟩⟩
      · rw [if_pos (bnd_t h)]
        congr 1; symm; apply pB_f; rw [hexFrom_step hd]
        exact fun hh => h hh.1.1
    have hxi : idx s (i : Int) = some x := hx
    rw [f_spec_l09Sha_L0, if_pos (by omega), hxi]
    simp only [obind_some, digit_m]
    by_cases h1 : isDig x
    · rw [if_neg (bnd_f h1)]; exact hj _ (by rw [decide_eq_true (show isHex x from .inl h1)]; rfl)
    · rw [if_pos (bnd_t h1)]
      by_cases h2 : (x.toNat : Int) < 97
      · rw [if_pos h2]; exact hj _ (by rw [decide_eq_false (show ¬ isHex x by omega)]; rfl)
      · rw [if_neg h2]
        refine hj _ ?_
        by_cases h3 : (102 : Int) < x.toNat
        · rw [decide_eq_true h3, decide_eq_false (show ¬ isHex x by omega)]; rfl
        · rw [decide_eq_false h3, decide_eq_true (show isHex x by omega)]; rfl
theorem sha_s {s : Str} (hl : s.length ≤ 1000000000) : f_spec_l09Sha s = some (pB (hexFrom (lst s) 0 ∧ ((lst s).length = 64 ∨ (lst s).length = 0))) := by
  unfold f_spec_l09Sha
  exact sha_sL s hl s.length BIG 0 rfl (by rw [BIG_eq]; omega) (by omega)
theorem lst_nil {s : Str} : lst s = lst ([] : List UInt8) ↔ (lst s).length = 0 := ⟨fun h => by rw [h]; rfl, fun h => List.eq_nil_of_length_eq_zero h⟩
theorem reply_eq {r : GReply} (hl : r.Sha.length ≤ 1000000000) : f_impl_replyOK r = f_spec_l09Reply r := by
  unfold f_impl_replyOK f_spec_l09Reply
  rw [isCount_m, obind_some, sha_i hl, sha_s hl, within_m, in_m, in_m]
  simp only [obind_some]
  have hnil := lst_nil (s := r.Sha)
  have hx0 : (lst r.Sha).length = 0 → pB (hexFrom (lst r.Sha) 0) = true := fun h => by rw [hnil.2 h]; exact pB_t (fun c hc => by simp at hc)
  generalize (lst r.Sha).length = n at *
  have hA : decide (1 ≤ r.Version ∧ r.Version ≤ 1000000) = (decide (0 < r.Version) && decide (0 ≤ r.Version ∧ r.Version ≤ 1000000)) := by
    rw [← Bool.decide_and, decide_eq_decide]; omega
  have hS1 : pB (hexFrom (lst r.Sha) 0 ∧ n = 64) = (pB (hexFrom (lst r.Sha) 0) && decide (n = 64)) := by
    by_cases h1 : hexFrom (lst r.Sha) 0 <;> by_cases h2 : n = 64
    · rw [pB_t ⟨h1, h2⟩, pB_t h1, decide_eq_true h2]; rfl
    · rw [pB_f (fun h => h2 h.2), pB_t h1, decide_eq_false h2]; rfl
    · rw [pB_f (fun h => h1 h.1), pB_f h1]; rfl
    · rw [pB_f (fun h => h1 h.1), pB_f h1]; rfl
  have hS2 : pB (hexFrom (lst r.Sha) 0 ∧ (n = 64 ∨ n = 0)) = (pB (hexFrom (lst r.Sha) 0) && (decide (n = 64) || decide (n = 0))) := by
    by_cases h1 : hexFrom (lst r.Sha) 0
    · by_cases h2 : n = 64 ∨ n = 0
      · rw [pB_t ⟨h1, h2⟩, pB_t h1, ← Bool.decide_or, decide_eq_true h2]; rfl
      · rw [pB_f (fun h => h2 h.2), pB_t h1, ← Bool.decide_or, decide_eq_false h2]; rfl
    · rw [pB_f (fun h => h1 h.1), pB_f h1]; rfl
  have hN : decide (lst r.Sha = lst ([] : List UInt8)) = decide (n = 0) := by rw [decide_eq_decide]; exact hnil
  rw [hA, hS1, hS2, hN]
  have h64 : decide (n = 64) = true → decide (n = 0) = false := fun h => by have := of_decide_eq_true h; exact decide_eq_false (by omega)
  have hx1 : decide (n = 0) = true → pB (hexFrom (lst r.Sha) 0) = true := fun h => hx0 (of_decide_eq_true h)
  by_cases hc : r.Code = 0
  · have hi : decide (0 ≤ r.Code ∧ r.Code ≤ 15) = true := decide_eq_true (by omega)
    rw [if_pos hc, hi, decide_eq_true hc]
    generalize pB (hexFrom (lst r.Sha) 0) = x at *
    generalize decide (n = 64) = a at *
    generalize decide (n = 0) = z at *
    generalize decide (0 < r.Version) = p at *
    generalize decide (0 ≤ r.Version ∧ r.Version ≤ 1000000) = q at *
    revert h64 hx1
    cases x <;> cases a <;> cases z <;> cases p <;> cases q <;> simp
  · rw [if_neg hc, decide_eq_false hc]
    by_cases hv : r.Version = 0
    · have hp : decide (0 < r.Version) = false := decide_eq_false (by omega)
      have hq : decide (0 ≤ r.Version ∧ r.Version ≤ 1000000) = true := decide_eq_true (by omega)
      rw [if_pos hv, hp, hq]
      generalize pB (hexFrom (lst r.Sha) 0) = x at *
      generalize decide (n = 64) = a at *
      generalize decide (n = 0) = z at *
      generalize decide (0 ≤ r.Code ∧ r.Code ≤ 15) = i at *
      revert h64 hx1
      cases x <;> cases a <;> cases z <;> cases i <;> simp
    · rw [if_neg hv]
      by_cases hq : 0 ≤ r.Version ∧ r.Version ≤ 1000000
      · have hp : decide (0 < r.Version) = true := decide_eq_true (by omega)
        rw [hp, decide_eq_true hq]
        generalize pB (hexFrom (lst r.Sha) 0) = x at *
        generalize decide (n = 64) = a at *
        generalize decide (n = 0) = z at *
        generalize decide (0 ≤ r.Code ∧ r.Code ≤ 15) = i at *
        cases x <;> cases a <;> cases z <;> cases i <;> simp
      · rw [decide_eq_false hq]
        generalize decide (0 ≤ r.Code ∧ r.Code ≤ 15) = i at *
        cases i <;> simp
end Go.Proofs.YtmodhnkjimpkbaaAb
