import Derived.Test.YtbdebjoagckcpaaPuB
import Derived.Test.YtbdebjoagckcpaaPxWalD
set_option linter.all false
namespace Go.Proofs.YtbdebjoagckcpaaAb
open Go
theorem numBytes_le {n : Nat} (h : n ≤ 127) : numBytes n = [byteOf n] := by unfold numBytes; rw [if_pos h]
theorem numBytes_gt {n : Nat} (h : 127 < n) : numBytes n = byteOf ((n : Int) % 128 + 128) :: numBytes (n / 128) := by
  conv => lhs; unfold numBytes
  rw [if_neg (by omega)]
theorem number_L : ∀ (m k : Nat) (xs : List UInt8), m + 1 ≤ k → xs.length + m ≤ 68719476000 → f_impl_number_L0 k (m : Int) xs = some (xs ++ numBytes m) := by
  intro m
  induction m using Nat.strongRecOn with
  | _ m ih =>
    intro k xs hk hl
    obtain ⟨k, rfl⟩ : ∃ j, k = j + 1 := ⟨k - 1, by omega⟩
    rw [f_impl_number_L0]
    by_cases h : 127 < m
    · rw [if_pos (by omega)]
      have e : ((m : Int) / 128) = ((m / 128 : Nat) : Int) := by omega
      rw [chk_pos (by omega), chk_pos (by omega), chk_pos (by simp; omega), chk_pos (by omega), e, ih (m / 128) (by omega) k _ (by omega) (by simp; omega), numBytes_gt h]
      simp
    · rw [if_neg (by omega), chk_pos (by simp; omega), numBytes_le (by omega)]
theorem number_m {m : Nat} (h : m ≤ 68000000000) : f_impl_number (m : Int) = some (numBytes m) := by
  unfold f_impl_number
  rw [number_L m BIG _ (by rw [BIG_eq]; omega) (by simp; omega)]; rfl
theorem number_i {x : Int} (h0 : 0 ≤ x) (h : x ≤ 68000000000) : f_impl_number x = some (numBytes x.toNat) := by
  obtain ⟨m, rfl⟩ := Int.eq_ofNat_of_zero_le h0
  exact number_m (by omega)
theorem put_or {m : Nat} : (byteOf ((m : Int) % 128) ||| 128) = byteOf ((m : Int) % 128 + 128) := by
  have h : m % 128 < 128 := Nat.mod_lt _ (by omega)
  have e : ((m : Int) % 128) = ((m % 128 : Nat) : Int) := by omega
  rw [e]
  apply UInt8.toNat_inj.1
  rw [UInt8.toNat_or]
  exact or128 h
theorem put_L : ∀ (m k : Nat) (xs : List UInt8), m + 1 ≤ k → xs.length + m ≤ 68719476000 → f_spec_l01Put_L0 k (m : Int) xs = some (xs ++ numBytes m) := by
  intro m
  induction m using Nat.strongRecOn with
  | _ m ih =>
    intro k xs hk hl
    obtain ⟨k, rfl⟩ : ∃ j, k = j + 1 := ⟨k - 1, by omega⟩
    rw [f_spec_l01Put_L0]
    by_cases h : 127 < m
    · rw [if_pos (by omega)]
      have e : ((m : Int) / 128) = ((m / 128 : Nat) : Int) := by omega
      simp (disch := first | omega | (simp; omega)) only [chk_pos]
      rw [e, ih (m / 128) (by omega) k _ (by omega) (by simp; omega), numBytes_gt h, put_or]
      simp
    · rw [if_neg (by omega), chk_pos (by simp; omega), numBytes_le (by omega)]
theorem put_i {x : Int} (h0 : 0 ≤ x) (h : x ≤ 68000000000) : f_spec_l01Put x = some (numBytes x.toNat) := by
  obtain ⟨m, rfl⟩ := Int.eq_ofNat_of_zero_le h0
  unfold f_spec_l01Put
  rw [put_L m BIG _ (by rw [BIG_eq]; omega) (by simp; omega)]; rfl
theorem concat_L1 (xs : List (List UInt8)) (hx : xs.length ≤ 1000000) : ∀ (m k i : Nat) (acc : List UInt8), xs.length - i = m → m + 1 ≤ k → i ≤ xs.length → acc.length + ((xs.drop i).flatten).length ≤ 68719476000 → f_slices_Concat_byte_L1 xs k acc (i : Int) = some (acc ++ (xs.drop i).flatten) := by
  intro m
  induction m with
  | zero =>
    intro k i acc hm hk hi hl
    obtain ⟨k, rfl⟩ : ∃ j, k = j + 1 := ⟨k - 1, by omega⟩
    rw [f_slices_Concat_byte_L1, if_neg (by omega), List.drop_of_length_le (by omega)]
    simp
  | succ m ih =>
    intro k i acc hm hk hi hl
    obtain ⟨k, rfl⟩ : ∃ j, k = j + 1 := ⟨k - 1, by omega⟩
    have hlt : i < xs.length := by omega
    rw [List.drop_eq_getElem_cons hlt, List.flatten_cons, List.length_append] at hl
    rw [f_slices_Concat_byte_L1, if_pos (by omega), idx_nat hlt, obind_some, chk_pos (by omega), chk_pos (by omega)]
    have e : ((i : Int) + 1) = ((i + 1 : Nat) : Int) := by omega
    rw [e, ih k (i + 1) _ (by omega) (by omega) (by omega) (by rw [List.length_append]; omega), List.drop_eq_getElem_cons hlt, List.flatten_cons, List.append_assoc]
theorem grow_m {x : Int} (h0 : 0 ≤ x) (h : x ≤ 68719476736) : f_slices_Grow_byte_nil0 x = some [] := by
  unfold f_slices_Grow_byte_nil0
  rw [if_neg (by omega), chk_pos (by omega), chk_pos (by omega)]
  split
  · rw [chk_pos (by omega), chk_pos (by omega), slc_head (by omega) (by omega)]
    rfl
  · rfl
theorem concat_L0 (xs : List (List UInt8)) (ht : xs.flatten.length ≤ 68719476000) : ∀ (m k i : Nat) (s : Nat), xs.length - i = m → m + 1 ≤ k → i ≤ xs.length → s + ((xs.drop i).flatten).length = xs.flatten.length → xs.length ≤ 1000000 → f_slices_Concat_byte_L0 xs k (s : Int) (i : Int) = some xs.flatten := by
  intro m
  induction m with
  | zero =>
    intro k i s hm hk hi hl hx
    obtain ⟨k, rfl⟩ : ∃ j, k = j + 1 := ⟨k - 1, by omega⟩
    rw [f_slices_Concat_byte_L0, if_neg (by omega), grow_m (by omega) (by omega), obind_some]
    have := concat_L1 xs hx (xs.length - 0) BIG 0 [] rfl (by rw [BIG_eq]; omega) (by omega) (by simp at ht ⊢; omega)
    simpa using this
  | succ m ih =>
    intro k i s hm hk hi hl hx
    obtain ⟨k, rfl⟩ : ∃ j, k = j + 1 := ⟨k - 1, by omega⟩
    have hlt : i < xs.length := by omega
    rw [List.drop_eq_getElem_cons hlt, List.flatten_cons, List.length_append] at hl
    rw [f_slices_Concat_byte_L0, if_pos (by omega), idx_nat hlt, obind_some, chk_pos (by omega), if_neg (by omega), chk_pos (by omega)]
    have e : ((i : Int) + 1) = ((i + 1 : Nat) : Int) := by omega
    have e2 : ((s : Int) + (xs[i].length : Int)) = ((s + xs[i].length : Nat) : Int) := by omega
    rw [e, e2, ih k (i + 1) _ (by omega) (by omega) (by omega) (by omega) hx]
theorem concat_m {xs : List (List UInt8)} (ht : xs.flatten.length ≤ 68719476000) (hx : xs.length ≤ 1000000) : f_slices_Concat_byte xs = some xs.flatten := by
  unfold f_slices_Concat_byte
  have := concat_L0 xs ht xs.length BIG 0 0 (by omega) (by rw [BIG_eq]; omega) (by omega) (by simp) hx
  simpa using this
theorem u32_step (x : UInt32) : (if ((x &&& (1 : UInt32)).toNat : Int) = (1 : Int) then ((x >>> (UInt32.ofNat 1)) ^^^ (3988292384 : UInt32)) else (x >>> (UInt32.ofNat 1))).toNat = crcStep x.toNat := by
  have h1 : (x &&& 1).toNat = x.toNat % 2 := by
    rw [UInt32.toNat_and]; exact Nat.and_one_is_mod _
  have h2 : (x >>> UInt32.ofNat 1).toNat = x.toNat / 2 := by have := u32_div x 1 (by omega); simpa using this
  unfold crcStep
  by_cases h : x.toNat % 2 = 1
  · rw [if_pos (by rw [h1, h]; rfl), if_pos h, UInt32.toNat_xor, h2]; rfl
  · rw [if_neg (by rw [h1]; omega), if_neg h, h2]
theorem impl_crc_L1 (i : Nat) (rc : UInt32 → Int → Option UInt32) (hi : i < 4000000000000) : ∀ (m k j : Nat) (x : UInt32), 8 - j = m → m + 1 ≤ k → j ≤ 8 → ∃ y : UInt32, y.toNat = crcIter m x.toNat ∧ f_impl_crc_L1 (i : Int) rc k x (j : Int) = rc y ((i + 1 : Nat) : Int) := by
  intro m
  induction m with
  | zero =>
    intro k j x hm hk hj
    obtain ⟨k, rfl⟩ : ∃ j, k = j + 1 := ⟨k - 1, by omega⟩
    refine ⟨x, rfl, ?_⟩
    rw [f_impl_crc_L1, if_neg (by omega), chk_pos (by omega)]; rfl
  | succ m ih =>
    intro k j x hm hk hj
    obtain ⟨k, rfl⟩ : ∃ j, k = j + 1 := ⟨k - 1, by omega⟩
    obtain ⟨y, h1, h2⟩ := ih k (j + 1) (if ((x &&& (1 : UInt32)).toNat : Int) = (1 : Int) then ((x >>> (UInt32.ofNat 1)) ^^^ (3988292384 : UInt32)) else (x >>> (UInt32.ofNat 1))) (by omega) (by omega) (by omega)
    refine ⟨y, by rw [h1, u32_step]; rfl, ?_⟩
    rw [← h2, f_impl_crc_L1, if_pos (by omega)]
    unfold f_impl_crc_J2
    have e : ((j : Int) + 1) = ((j + 1 : Nat) : Int) := by omega
    split <;> rw [chk_pos (by omega), e]
theorem impl_crc_L0 (xs : List UInt8) (hx : xs.length < 4000000000) : ∀ (m k i : Nat) (x : UInt32), xs.length - i = m → m + 1 ≤ k → i ≤ xs.length → ∃ y : UInt32, y.toNat = 4294967295 ^^^ crcAll x.toNat (xs.drop i) ∧ f_impl_crc_L0 xs k x (i : Int) = some y := by
  intro m
  induction m with
  | zero =>
    intro k i x hm hk hi
    obtain ⟨k, rfl⟩ : ∃ j, k = j + 1 := ⟨k - 1, by omega⟩
    refine ⟨4294967295 ^^^ x, ?_, ?_⟩
    · rw [UInt32.toNat_xor, List.drop_of_length_le (by omega)]; rfl
    · rw [f_impl_crc_L0, if_neg (by omega)]
  | succ m ih =>
    intro k i x hm hk hi
    obtain ⟨k, rfl⟩ : ∃ j, k = j + 1 := ⟨k - 1, by omega⟩
    have hlt : i < xs.length := by omega
    obtain ⟨y, h1, h2⟩ := impl_crc_L1 i (f_impl_crc_L0 xs k) (by omega) 8 BIG 0 (x ^^^ xs[i].toUInt32) rfl (by rw [BIG_eq]; omega) (by omega)
    obtain ⟨z, h3, h4⟩ := ih k (i + 1) y (by omega) (by omega) (by omega)
    refine ⟨z, ?_, ?_⟩
    · rw [h3, h1, List.drop_eq_getElem_cons hlt]
      show _ = _ ^^^ crcAll (crcIter 8 (x.toNat ^^^ xs[i].toNat)) _
      rw [UInt32.toNat_xor]; simp
    · rw [f_impl_crc_L0, if_pos (by omega), idx_nat hlt, obind_some]
      exact h2.trans h4
theorem impl_crc_m {xs : List UInt8} (hx : xs.length < 4000000000) : ∃ y : UInt32, y.toNat = crcOf xs ∧ f_impl_crc xs = some y := by
  obtain ⟨y, h1, h2⟩ := impl_crc_L0 xs hx xs.length BIG 0 4294967295 (by omega) (by rw [BIG_eq]; omega) (by omega)
  exact ⟨y, h1, h2⟩
theorem sumBytes_m {xs : List UInt8} (hx : xs.length < 4000000000) : f_impl_sumBytes xs = some (fourOf (crcOf xs)) := by
  obtain ⟨y, h1, h2⟩ := impl_crc_m hx
  unfold f_impl_sumBytes fourOf
  rw [h2, obind_some, u32_div y 8 (by omega), u32_div y 16 (by omega), u32_div y 24 (by omega), h1]
theorem frame_m {p : List UInt8} (hp : p.length ≤ 1000000000) : f_impl_frame p = some (frameOf p) := by
  unfold f_impl_frame
  have := frameOf_len hp
  rw [number_m (by omega), obind_some, sumBytes_m (by omega), obind_some, concat_m]
  · simp [frameOf]
  · simp only [List.flatten_cons, List.flatten_nil, List.append_nil, ← List.append_assoc]; show (frameOf p).length ≤ _; omega
  · simp
theorem spec_crc_L1 (i : Nat) (rc : Int → Int → Option Int) (hi : i < 4000000000000) : ∀ (m k j : Nat) (x : Nat), x < 4294967296 → 8 - j = m → m + 1 ≤ k → j ≤ 8 → f_spec_l01Crc_L1 (i : Int) rc k (x : Int) (j : Int) = rc (crcIter m x : Nat) ((i + 1 : Nat) : Int) := by
  intro m
  induction m with
  | zero =>
    intro k j x hx hm hk hj
    obtain ⟨k, rfl⟩ : ∃ j, k = j + 1 := ⟨k - 1, by omega⟩
    rw [f_spec_l01Crc_L1, if_neg (by omega), chk_pos (by omega)]; rfl
  | succ m ih =>
    intro k j x hx hm hk hj
    obtain ⟨k, rfl⟩ : ∃ j, k = j + 1 := ⟨k - 1, by omega⟩
    have := ih k (j + 1) (crcStep x) (crcStep_lt hx) (by omega) (by omega) (by omega)
    show _ = rc (crcIter m (crcStep x) : Nat) _
    rw [← this, f_spec_l01Crc_L1, if_pos (by omega), chk_pos (by omega)]
    unfold f_spec_l01Crc_J2
    have e : ((j : Int) + 1) = ((j + 1 : Nat) : Int) := by omega
    have e2 : ((x : Int) / 2).toNat = x / 2 := by omega
    by_cases h : x % 2 = 1
    · rw [if_pos (by omega), chk_pos (by omega), chk_pos (by omega), chk_pos (by omega), e, e2]
      unfold crcStep; rw [if_pos h]; rfl
    · rw [if_neg (by omega), chk_pos (by omega), chk_pos (by omega), e]
      unfold crcStep; rw [if_neg h]; rfl
theorem spec_crc_L0 (xs : List UInt8) (hx : xs.length < 4000000000) : ∀ (m k i : Nat) (x : Nat), x < 4294967296 → xs.length - i = m → m + 1 ≤ k → i ≤ xs.length → f_spec_l01Crc_L0 xs k (x : Int) (i : Int) = some ((4294967295 ^^^ crcAll x (xs.drop i) : Nat) : Int) := by
  intro m
  induction m with
  | zero =>
    intro k i x hxx hm hk hi
    obtain ⟨k, rfl⟩ : ∃ j, k = j + 1 := ⟨k - 1, by omega⟩
    rw [f_spec_l01Crc_L0, if_neg (by omega), chk_pos (by omega), List.drop_of_length_le (by omega)]
    show some ((x ^^^ 4294967295 : Nat) : Int) = some ((4294967295 ^^^ x : Nat) : Int)
    rw [Nat.xor_comm]
  | succ m ih =>
    intro k i x hxx hm hk hi
    obtain ⟨k, rfl⟩ : ∃ j, k = j + 1 := ⟨k - 1, by omega⟩
    have hlt : i < xs.length := by omega
    have hb := u8_bnd xs[i]
    have hc : crcIter 8 (x ^^^ xs[i].toNat) < 4294967296 := crcIter_lt 8 (xor_byte_lt hxx _)
    rw [f_spec_l01Crc_L0, if_pos (by omega), idx_nat hlt, obind_some, chk_pos (by omega)]
    have e1 : (x : Int).toNat = x := rfl
    have e2 : ((xs[i].toNat : Nat) : Int).toNat = xs[i].toNat := rfl
    rw [e1, e2]
    have := spec_crc_L1 i (f_spec_l01Crc_L0 xs k) (by omega) 8 BIG 0 (x ^^^ xs[i].toNat) (xor_byte_lt hxx _) rfl (by rw [BIG_eq]; omega) (by omega)
    rw [List.drop_eq_getElem_cons hlt]
    exact this.trans (ih k (i + 1) _ hc (by omega) (by omega) (by omega))
theorem spec_crc_m {xs : List UInt8} (hx : xs.length < 4000000000) : f_spec_l01Crc xs = some ((crcOf xs : Nat) : Int) :=
  spec_crc_L0 xs hx xs.length BIG 0 4294967295 (by omega) (by omega) (by rw [BIG_eq]; omega) (by omega)
theorem four_m {x : Nat} (hx : x < 4294967296) : f_spec_l01Four (x : Int) = some (fourOf x) := by
  unfold f_spec_l01Four fourOf
  rw [chk_pos (by omega), chk_pos (by omega), chk_pos (by omega), chk_pos (by omega), chk_pos (by omega), chk_pos (by omega), chk_pos (by omega)]
  simp only [byteOf_mod]; rfl
theorem specFrame_m {p : List UInt8} (hp : p.length ≤ 1000000000) : f_spec_l01Frame p = some (frameOf p) := by
  unfold f_spec_l01Frame
  have := frameOf_len hp
  have h9 := numBytes_len9 hp
  rw [put_i (by omega) (by omega), obind_some, chk_pos (by rw [Int.toNat_natCast]; omega), spec_crc_m (by omega), obind_some, four_m (crcOf_lt p), obind_some, chk_pos (by rw [Int.toNat_natCast]; simp [fourOf]; omega)]
  simp [frameOf]
end Go.Proofs.YtbdebjoagckcpaaAb
