import Derived.Test.YtmodhnkjimpkbaaPuS4
set_option linter.all false
namespace Go.Proofs.YtmodhnkjimpkbaaAb
open Go
theorem numBytes_le {n : Nat} (h : n ≤ 127) : numBytes n = [byteOf n] := by unfold numBytes; rw [if_pos h]
theorem numBytes_gt {n : Nat} (h : 127 < n) : numBytes n = byteOf ((n : Int) % 128 + 128) :: numBytes (n / 128) := by
  conv => lhs; unfold numBytes
  rw [if_neg (by omega)]
theorem number_L : ∀ (m k : Nat) (xs : List UInt8), m + 1 ≤ k → xs.length + m ≤ 68719476000 → f_impl_number_L0 k (m : Int) xs = some (xs ++ numBytes m) := by
  intro m
  induction m using Nat.strongRecOn with
  | _ m ih =>
    intro k xs hk hl
    obtain ⟨k, rfl⟩ : ∃ j, k = j + 1 := ⟨k - 1, by omega⟩
    rw [f_impl_number_L0]
    by_cases h : 127 < m
    · rw [if_pos (by omega)]
      have e : ((m : Int) / 128) = ((m / 128 : Nat) : Int) := by omega
      rw [chk_pos (by omega), chk_pos (by omega), chk_pos (by simp; omega), chk_pos (by omega), e, ih (m / 128) (by omega) k _ (by omega) (by simp; omega), numBytes_gt h]
      simp
    · rw [if_neg (by omega), chk_pos (by simp; omega), numBytes_le (by omega)]
theorem number_m {m : Nat} (h : m ≤ 68000000000) : f_impl_number (m : Int) = some (numBytes m) := by
  unfold f_impl_number
  rw [number_L m BIG _ (by rw [BIG_eq]; omega) (by simp; omega)]; rfl
theorem number_i {x : Int} (h0 : 0 ≤ x) (h : x ≤ 68000000000) : f_impl_number x = some (numBytes x.toNat) := by
  obtain ⟨m, rfl⟩ := Int.eq_ofNat_of_zero_le h0
  exact number_m (by omega)
theorem put_or {m : Nat} : (byteOf ((m : Int) % 128) ||| 128) = byteOf ((m : Int) % 128 + 128) := by
  have h : m % 128 < 128 := Nat.mod_lt _ (by omega)
  have e : ((m : Int) % 128) = ((m % 128 : Nat) : Int) := by omega
  rw [e]
  apply UInt8.toNat_inj.1
  rw [UInt8.toNat_or]
  exact or128 h
theorem put_L : ∀ (m k : Nat) (xs : List UInt8), m + 1 ≤ k → xs.length + m ≤ 68719476000 → f_spec_l01Put_L0 k (m : Int) xs = some (xs ++ numBytes m) := by
  intro m
  induction m using Nat.strongRecOn with
  | _ m ih =>
    intro k xs hk hl
    obtain ⟨k, rfl⟩ : ∃ j, k = j + 1 := ⟨k - 1, by omega⟩
    rw [f_spec_l01Put_L0]
    by_cases h : 127 < m
    · rw [if_pos (by omega)]
      have e : ((m : Int) / 128) = ((m / 128 : Nat) : Int) := by omega
      simp (disch := first | omega | (simp; omega)) only [chk_pos]
      rw [e, ih (m / 128) (by omega) k _ (by omega) (by simp; omega), numBytes_gt h, put_or]
      simp
    · rw [if_neg (by omega), chk_pos (by simp; omega), numBytes_le (by omega)]
theorem put_i {x : Int} (h0 : 0 ≤ x) (h : x ≤ 68000000000) : f_spec_l01Put x = some (numBytes x.toNat) := by
  obtain ⟨m, rfl⟩ := Int.eq_ofNat_of_zero_le h0
  unfold f_spec_l01Put
  rw [put_L m BIG _ (by rw [BIG_eq]; omega) (by simp; omega)]; rfl
theorem concat_L1 (xs : List (List UInt8)) (hx : xs.length ≤ 1000000) : ∀ (m k i : Nat) (acc : List UInt8), xs.length - i = m → m + 1 ≤ k → i ≤ xs.length → acc.length + ((xs.drop i).flatten).length ≤ 68719476000 → f_slices_Concat_byte_L1 xs k acc (i : Int) = some (acc ++ (xs.drop i).flatten) := by
  intro m
  induction m with
  | zero =>
    intro k i acc hm hk hi hl
    obtain ⟨k, rfl⟩ : ∃ j, k = j + 1 := ⟨k - 1, by omega⟩
    rw [f_slices_Concat_byte_L1, if_neg (by omega), List.drop_of_length_le (by omega)]
    simp
  | succ m ih =>
    intro k i acc hm hk hi hl
    obtain ⟨k, rfl⟩ : ∃ j, k = j + 1 := ⟨k - 1, by omega⟩
    have hlt : i < xs.length := by omega
    rw [List.drop_eq_getElem_cons hlt, List.flatten_cons, List.length_append] at hl
    rw [f_slices_Concat_byte_L1, if_pos (by omega), idx_nat hlt, obind_some, chk_pos (by omega), chk_pos (by omega)]
    have e : ((i : Int) + 1) = ((i + 1 : Nat) : Int) := by omega
    rw [e, ih k (i + 1) _ (by omega) (by omega) (by omega) (by rw [List.length_append]; omega), List.drop_eq_getElem_cons hlt, List.flatten_cons, List.append_assoc]
theorem grow_m {x : Int} (h0 : 0 ≤ x) (h : x ≤ 68719476736) : f_slices_Grow_byte_nil0 x = some [] := by
  unfold f_slices_Grow_byte_nil0
  rw [if_neg (by omega), chk_pos (by omega), chk_pos (by omega)]
  split
  · rw [chk_pos (by omega), chk_pos (by omega), slc_head (by omega) (by omega)]
    rfl
  · rfl
theorem concat_L0 (xs : List (List UInt8)) (ht : xs.flatten.length ≤ 68719476000) : ∀ (m k i : Nat) (s : Nat), xs.length - i = m → m + 1 ≤ k → i ≤ xs.length → s + ((xs.drop i).flatten).length = xs.flatten.length → xs.length ≤ 1000000 → f_slices_Concat_byte_L0 xs k (s : Int) (i : Int) = some xs.flatten := by
  intro m
  induction m with
  | zero =>
    intro k i s hm hk hi hl hx
    obtain ⟨k, rfl⟩ : ∃ j, k = j + 1 := ⟨k - 1, by omega⟩
    rw [f_slices_Concat_byte_L0, if_neg (by omega), grow_m (by omega) (by omega), obind_some]
    have := concat_L1 xs hx (xs.length - 0) BIG 0 [] rfl (by rw [BIG_eq]; omega) (by omega) (by simp at ht ⊢; omega)
    simpa using this
  | succ m ih =>
    intro k i s hm hk hi hl hx
    obtain ⟨k, rfl⟩ : ∃ j, k = j + 1 := ⟨k - 1, by omega⟩
    have hlt : i < xs.length := by omega
    rw [List.drop_eq_getElem_cons hlt, List.flatten_cons, List.length_append] at hl
    rw [f_slices_Concat_byte_L0, if_pos (by omega), idx_nat hlt, obind_some, chk_pos (by omega), if_neg (by omega), chk_pos (by omega)]
    have e : ((i : Int) + 1) = ((i + 1 : Nat) : Int) := by omega
    have e2 : ((s : Int) + (xs[i].length : Int)) = ((s + xs[i].length : Nat) : Int) := by omega
    rw [e, e2, ih k (i + 1) _ (by omega) (by omega) (by omega) (by omega) hx]
theorem concat_m {xs : List (List UInt8)} (ht : xs.flatten.length ≤ 68719476000) (hx : xs.length ≤ 1000000) : f_slices_Concat_byte xs = some xs.flatten := by
  unfold f_slices_Concat_byte
  have := concat_L0 xs ht xs.length BIG 0 0 (by omega) (by rw [BIG_eq]; omega) (by omega) (by simp) hx
  simpa using this
end Go.Proofs.YtmodhnkjimpkbaaAb
