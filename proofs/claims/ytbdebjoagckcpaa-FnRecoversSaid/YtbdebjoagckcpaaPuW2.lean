import Derived.Test.YtbdebjoagckcpaaPuW1
set_option linter.all false
namespace Go.Proofs.YtbdebjoagckcpaaAb
open Go
theorem and127 (c : UInt8) : (c &&& 127).toNat = c.toNat % 128 := by
  rw [UInt8.toNat_and]; exact Nat.and_two_pow_sub_one_eq_mod c.toNat 7
theorem shl_num {i x : Nat} (hi : i ≤ 8) (hx : x < 128) : shl64 (x : Int) ((7 : Int) * (i : Int)) = ((x * 128 ^ i : Nat) : Int) := by
  have e7 : (7 * (i : Int)).toNat = 7 * i := by omega
  have emin : min (7 * i) 64 = 7 * i := by omega
  have ep : (2 : Nat) ^ (7 * i) = 128 ^ i := by rw [Nat.pow_mul]
  have hp : 128 ^ i ≤ 128 ^ 8 := Nat.pow_le_pow_right (by omega) hi
  have hprod : x * 128 ^ i ≤ 127 * 128 ^ 8 := Nat.mul_le_mul (by omega) hp
  have h128 : (128 : Nat) ^ 8 = 72057594037927936 := by decide
  unfold shl64
  rw [e7, emin]
  have e2 : ((x : Int) * 2 ^ (7 * i)) = ((x * 128 ^ i : Nat) : Int) := by rw [← ep]; simp
  rw [e2]
  exact wrap_i64 (x := ((x * 128 ^ i : Nat) : Int)) ⟨by omega, by omega⟩
theorem or_num {acc i x : Nat} (ha : acc < 128 ^ i) : (acc ||| x * 128 ^ i) = acc + x * 128 ^ i := by
  have ep : (2 : Nat) ^ (7 * i) = 128 ^ i := by rw [Nat.pow_mul]
  rw [← ep] at ha ⊢
  rw [Nat.mul_comm, Nat.or_comm, ← Nat.two_pow_add_eq_or_of_lt ha]
  omega
theorem acc_lt {acc i x : Nat} (hi : i ≤ 8) (ha : acc < 128 ^ i) (hx : x < 128) : acc + x * 128 ^ i < 128 ^ (i + 1) ∧ acc + x * 128 ^ i < 9223372036854775808 ∧ x * 128 ^ i < 9223372036854775808 ∧ acc < 9223372036854775808 := by
  have h1 : x * 128 ^ i ≤ 127 * 128 ^ i := Nat.mul_le_mul_right _ (by omega)
  have hp : 128 ^ (i + 1) ≤ 128 ^ 9 := Nat.pow_le_pow_right (by omega) (by omega)
  have h128 : (128 : Nat) ^ 9 = 9223372036854775808 := by decide
  rw [Nat.pow_succ] at hp ⊢
  omega
theorem readNumber_J {i acc : Nat} (c : UInt8) (hi : i ≤ 8) (ha : acc < 128 ^ i) (b : Bool) : f_impl_readNumber_J1 (i : Int) (acc : Int) c b = some (if b = true then (0, 0) else (((acc + c.toNat % 128 * 128 ^ i : Nat) : Int), (i : Int) + 1)) := by
  have hx : c.toNat % 128 < 128 := Nat.mod_lt _ (by omega)
  unfold f_impl_readNumber_J1
  cases b
  · rw [if_neg (by simp), if_neg (by simp), chk_pos (by omega), and127, shl_num hi hx, Int.toNat_natCast, Int.toNat_natCast, or_num ha]
  · rw [if_pos rfl, if_pos rfl]
theorem readNumber_S {xs : List UInt8} {k i acc : Nat} (hi : i ≤ 8) (hlt : i < xs.length) (ha : acc < 128 ^ i) : f_impl_readNumber_L0 xs (k + 1) (acc : Int) (i : Int) =
    if xs[i] < 128 then some (if 0 < i ∧ xs[i] = 0 then (0, 0) else (((acc + xs[i].toNat % 128 * 128 ^ i : Nat) : Int), (i : Int) + 1)) else f_impl_readNumber_L0 xs k ((acc + xs[i].toNat % 128 * 128 ^ i : Nat) : Int) ((i + 1 : Nat) : Int) := by
  have hx : xs[i].toNat % 128 < 128 := Nat.mod_lt _ (by omega)
  have hacc := acc_lt hi ha hx
  rw [f_impl_readNumber_L0, if_pos (by omega), if_neg (by omega), idx_nat hlt, obind_some, obind_some, obind_some, and127, shl_num hi hx, chk_pos (by omega), chk_pos (by omega), chk_pos (by omega), Int.toNat_natCast, Int.toNat_natCast, or_num ha]
  by_cases hc : xs[i] < 128
  · rw [if_pos (u8_lt_iff.2 hc), if_pos hc, readNumber_J _ hi ha, readNumber_J _ hi ha]
    by_cases h0 : 0 < i
    · rw [if_pos (by omega)]
      by_cases hz : xs[i] = 0
      · rw [if_pos (decide_eq_true (u8_eq_iff.2 hz)), if_pos ⟨h0, hz⟩]
      · rw [if_neg (fun h => hz (u8_eq_iff.1 (of_decide_eq_true h))), if_neg (fun h => hz h.2)]
    · rw [if_neg (by omega), if_neg (by simp), if_neg (fun h => h0 h.1)]
  · rw [if_neg (fun h => hc (u8_lt_iff.1 h)), if_neg hc, chk_pos (by omega)]
    rfl
theorem readNumber_L (xs : List UInt8) : ∀ (m k i acc : Nat), 9 - i = m → m + 1 ≤ k → i ≤ 9 → i ≤ xs.length → acc < 128 ^ i → f_impl_readNumber_L0 xs k (acc : Int) (i : Int) = some (rdNum (xs.drop i) (9 - i) i acc) := by
  intro m
  induction m with
  | zero =>
    intro k i acc hm hk hi hl ha
    obtain ⟨k, rfl⟩ : ∃ j, k = j + 1 := ⟨k - 1, by omega⟩
    rw [f_impl_readNumber_L0, if_neg (by omega), hm, rdNum_zero]
  | succ m ih =>
    intro k i acc hm hk hi hl ha
    obtain ⟨k, rfl⟩ : ∃ j, k = j + 1 := ⟨k - 1, by omega⟩
    by_cases he : i = xs.length
    · rw [f_impl_readNumber_L0, if_pos (by omega), if_pos (by omega), rdNum_end he (by omega)]
    have hlt : i < xs.length := by omega
    have hx : xs[i].toNat % 128 < 128 := Nat.mod_lt _ (by omega)
    rw [readNumber_S (by omega) hlt ha, rdNum_at hlt (by omega)]
    by_cases hc : xs[i] < 128
    · rw [if_pos hc, if_pos hc]
    · rw [if_neg hc, if_neg hc, ih k (i + 1) _ (by omega) (by omega) (by omega) (by omega) (acc_lt (by omega) ha hx).1]
theorem readNumber_m (xs : List UInt8) : f_impl_readNumber xs = some (readNum xs) := by
  unfold f_impl_readNumber
  exact readNumber_L xs 9 BIG 0 0 rfl (by rw [BIG_eq]; omega) (by omega) (by omega) (by simp)
def getOf (p : Nat) (r : Int × Int) : Int × Int × Int := if r.2 < 0 then (0, 0, 1) else if r.2 = 0 then (0, 0, 2) else (r.1, (p : Int) + r.2, 0)
theorem getNum_of (b : List UInt8) (p : Nat) : getNum b p = getOf p (readNum (b.drop p)) := rfl
theorem get_L (xs : List UInt8) (p : Nat) (hl : xs.length ≤ 1000000000) (hp : p ≤ xs.length) : ∀ (m k i acc : Nat) (w : Int), 9 - i = m → m + 1 ≤ k → i ≤ 9 → acc < 128 ^ i → (i ≤ 8 → w = ((128 ^ i : Nat) : Int)) → f_spec_l01Get_L0 (p : Int) xs k (acc : Int) w (i : Int) = some (getOf p (rdNum ((xs.drop p).drop i) (9 - i) i acc)) := by
  intro m
  induction m with
  | zero =>
    intro k i acc w hm hk hi ha hw
    obtain ⟨k, rfl⟩ : ∃ j, k = j + 1 := ⟨k - 1, by omega⟩
    rw [f_spec_l01Get_L0, if_neg (by omega), hm, rdNum_zero]; rfl
  | succ m ih =>
    intro k i acc w hm hk hi ha hw
    obtain ⟨k, rfl⟩ : ∃ j, k = j + 1 := ⟨k - 1, by omega⟩
    have hi8 : i ≤ 8 := by omega
    rw [f_spec_l01Get_L0, if_pos (by omega), chk_pos (by omega)]
    by_cases he : xs.length ≤ p + i
    · rw [if_pos (by omega), List.drop_of_length_le (l := xs.drop p) (by rw [List.length_drop]; omega), show 9 - i = (9 - (i + 1)) + 1 by omega]; rfl
    have hlt : i < (xs.drop p).length := by rw [List.length_drop]; omega
    have hlt2 : p + i < xs.length := by omega
    have hg : (xs.drop p)[i] = xs[p + i] := by rw [List.getElem_drop]
    have hx : xs[p + i].toNat % 128 < 128 := Nat.mod_lt _ (by omega)
    have hacc := acc_lt (i := i) hi8 ha hx
    have e0 : ((p : Int) + (i : Int)) = ((p + i : Nat) : Int) := by omega
    have e1 : ((xs[p + i].toNat : Int) % 128 * w) = ((xs[p + i].toNat % 128 * 128 ^ i : Nat) : Int) := by rw [hw hi8, Int.natCast_mul]; congr 1
    rw [if_neg (by omega), chk_pos (by omega), e0, idx_nat hlt2]
    simp only [obind_some]
    rw [e1, chk_pos (by omega), chk_pos (by omega), chk_pos (by omega), rdNum_at hlt (by omega), hg]
    have e2 : ((acc : Int) + ((xs[p + i].toNat % 128 * 128 ^ i : Nat) : Int)) = ((acc + xs[p + i].toNat % 128 * 128 ^ i : Nat) : Int) := by omega
    by_cases hc : xs[p + i] < 128
    · rw [if_pos (u8_lt_iff.2 hc), if_pos hc]
      have hj : ∀ b : Bool, f_spec_l01Get_J2 (p : Int) (i : Int) (acc : Int) xs[p + i] w b = some (getOf p (if b = true then (0, 0) else (((acc + xs[p + i].toNat % 128 * 128 ^ i : Nat) : Int), (i : Int) + 1))) := by
        intro b
        unfold f_spec_l01Get_J2
        cases b
        · rw [if_neg (by simp), if_neg (by simp), chk_pos (by omega), chk_pos (by omega), e1, e2]
          unfold getOf
          simp only
          rw [if_neg (by omega), if_neg (by omega), Int.add_assoc]
        · rw [if_pos rfl, if_pos rfl]; rfl
      by_cases h0 : 0 < i
      · rw [if_pos (by omega), hj]
        by_cases hz : xs[p + i] = 0
        · rw [if_pos (by simpa using u8_eq_iff.2 hz), if_pos ⟨h0, hz⟩]
        · rw [if_neg (by simpa using fun h => hz (u8_eq_iff.1 h)), if_neg (fun h => hz h.2)]
      · rw [if_neg (by omega), hj, if_neg (by simp), if_neg (fun h => h0 h.1)]
    · rw [if_neg (fun h => hc (u8_lt_iff.1 h)), if_neg hc]
      have e : ((i : Int) + 1) = ((i + 1 : Nat) : Int) := by omega
      unfold f_spec_l01Get_J1
      by_cases h8 : i < 8
      · have hp8 : 128 ^ i ≤ 128 ^ 7 := Nat.pow_le_pow_right (by omega) (by omega)
        have h128 : (128 : Nat) ^ 7 = 562949953421312 := by decide
        have hw' := hw hi8
        rw [if_pos (by omega), chk_pos (by omega), chk_pos (by omega), e, e2, ih k (i + 1) _ _ (by omega) (by omega) (by omega) hacc.1 (fun _ => by rw [hw', Nat.pow_succ]; omega)]
      · rw [if_neg (by omega), chk_pos (by omega), e, e2, ih k (i + 1) _ _ (by omega) (by omega) (by omega) hacc.1 (fun _ => by omega)]
theorem get_m {xs : List UInt8} {p : Nat} (hl : xs.length ≤ 1000000000) (hp : p ≤ xs.length) : f_spec_l01Get xs (p : Int) = some (getNum xs p) := by
  unfold f_spec_l01Get
  exact get_L xs p hl hp 9 BIG 0 0 1 rfl (by rw [BIG_eq]; omega) (by omega) (by simp) (by simp)
theorem u8_ieq {a b : UInt8} : ((a.toNat : Int) = (b.toNat : Int)) ↔ a = b := ⟨u8_inj, fun h => by rw [h]⟩
theorem equal_L (xs ys : List UInt8) (h : xs.length = ys.length) (hl : xs.length ≤ 1000000000) : ∀ (m k i : Nat), xs.length - i = m → m + 1 ≤ k → i ≤ xs.length → f_slices_Equal_byte_L0 xs ys k (i : Int) = some (decide (xs.drop i = ys.drop i)) := by
  intro m
  induction m with
  | zero =>
    intro k i hm hk hi
    obtain ⟨k, rfl⟩ : ∃ j, k = j + 1 := ⟨k - 1, by omega⟩
    rw [f_slices_Equal_byte_L0, if_neg (by omega), List.drop_of_length_le (by omega), List.drop_of_length_le (by omega)]
    simp
  | succ m ih =>
    intro k i hm hk hi
    obtain ⟨k, rfl⟩ : ∃ j, k = j + 1 := ⟨k - 1, by omega⟩
    have h1 : i < xs.length := by omega
    have h2 : i < ys.length := by omega
    have e : ((i : Int) + 1) = ((i + 1 : Nat) : Int) := by omega
    rw [f_slices_Equal_byte_L0, if_pos (by omega), idx_nat h1, obind_some, idx_nat h2, obind_some, List.drop_eq_getElem_cons h1, List.drop_eq_getElem_cons h2]
    by_cases hc : xs[i] = ys[i]
    · rw [if_pos (u8_ieq.2 hc), chk_pos (by omega), e, ih k (i + 1) (by omega) (by omega) (by omega)]
      congr 1
      simp only [hc, List.cons.injEq, true_and]
    · rw [if_neg (fun h => hc (u8_ieq.1 h))]
      simp only [List.cons.injEq, hc, false_and, decide_false]
theorem equal_m {xs ys : List UInt8} (hl : xs.length ≤ 1000000000) : f_slices_Equal_byte xs ys = some (decide (xs = ys)) := by
  unfold f_slices_Equal_byte
  by_cases h : xs.length = ys.length
  · rw [if_pos (by omega)]
    exact equal_L xs ys h hl xs.length BIG 0 (by omega) (by rw [BIG_eq]; omega) (by omega)
  · rw [if_neg (by omega)]
    have : xs ≠ ys := fun e => h (by rw [e])
    simp [this]
theorem clone_m {xs : List UInt8} (hl : xs.length ≤ 1000000000) : f_slices_Clone_byte xs = some xs := by
  unfold f_slices_Clone_byte; rw [chk_pos (by omega)]
theorem cloneR_m {xs : List GRec} (hl : xs.length ≤ 1000000000) : f_slices_Clone_implRec xs = some xs := by
  unfold f_slices_Clone_implRec; rw [chk_pos (by omega)]
theorem readFrame_m {b : List UInt8} (hl : b.length ≤ 1000000000) : f_impl_readFrame b = some (readFr b) := by
  unfold f_impl_readFrame readFr
  rw [readNumber_m]
  simp only [obind_some]
  by_cases h1 : (readNum b).2 < 0
  · rw [if_pos h1, if_pos h1]
  rw [if_neg h1, if_neg h1]
  by_cases h2 : (readNum b).2 = 0
  · rw [if_pos h2, if_pos h2]
  rw [if_neg h2, if_neg h2]
  by_cases h3 : 4096 < (readNum b).1
  · rw [if_pos h3, if_pos h3]
  rw [if_neg h3, if_neg h3]
  obtain ⟨m, s, e, hs, hsl, hs9, hm⟩ := readNum_spec (bs := b) (by omega)
  rw [e] at h3 ⊢
  simp only at h3 ⊢
  have ea : ((s : Int) + (m : Int)) = ((s + m : Nat) : Int) := by omega
  have eb : (((s + m : Nat) : Int) + 4) = ((s + m + 4 : Nat) : Int) := by omega
  simp (disch := omega) only [chk_pos]
  rw [ea, eb]
  by_cases h4 : b.length < s + m + 4
  · rw [if_pos (by omega), if_pos (by omega)]
  rw [if_neg (by omega), if_neg (by omega), slc_pos (by omega) (by omega) (by omega), slc_pos (by omega) (by omega) (by omega)]
  simp only [obind_some, Int.toNat_natCast]
  rw [sumBytes_m (by simp; omega), obind_some, equal_m (by simp; omega), obind_some]
  by_cases h5 : (b.take (s + m + 4)).drop (s + m) = fourOf (crcOf ((b.take (s + m)).drop s))
  · rw [if_neg (by simp [h5]), if_pos h5, clone_m (by simp; omega), obind_some]
  · rw [if_pos (by simp [h5]), if_neg h5]
theorem next_L (x6 : Int × Int × Int) (xs q : List UInt8) (f m : Nat) (hf : x6.2.1 = (f : Int)) (hm : x6.1 = (m : Int)) (hb : f + m + 4 ≤ xs.length) (hl : xs.length ≤ 1000000000) (g : List UInt8) (hg : g.length = 4) : ∀ (k j i : Nat), 4 - i = j → j + 1 ≤ k → i ≤ 4 → ((xs.drop (f + m)).take i = g.take i) → f_spec_l01Next_L0 x6 xs g q k (i : Int) = some (if (xs.take (f + m + 4)).drop (f + m) = g then (q, ((f + m + 4 : Nat) : Int), 0) else ([], 0, 8)) := by
  have hd : (xs.take (f + m + 4)).drop (f + m) = (xs.drop (f + m)).take 4 := by rw [List.drop_take]; congr 1; omega
  have hdl : 4 ≤ (xs.drop (f + m)).length := by rw [List.length_drop]; omega
  intro k
  induction k with
  | zero => intro j i hj hk; omega
  | succ k ih =>
    intro j i hj hk hi ht
    rw [f_spec_l01Next_L0, hf, hm, hd]
    by_cases h4 : i = 4
    · subst h4
      rw [if_neg (by omega), chk_pos (by omega), chk_pos (by omega), if_pos (by rw [ht, ← hg, List.take_length])]
      simp only [List.nil_append]
      congr 3
    · have h1 : f + m + i < xs.length := by omega
      have h1' : i < (xs.drop (f + m)).length := by omega
      have h2 : i < g.length := by omega
      have hxe : (xs.drop (f + m))[i] = xs[f + m + i] := by rw [List.getElem_drop]
      have e0 : ((f : Int) + (m : Int) + (i : Int)) = ((f + m + i : Nat) : Int) := by omega
      have e : ((i : Int) + 1) = ((i + 1 : Nat) : Int) := by omega
      rw [if_pos (by omega), chk_pos (by omega), chk_pos (by omega), e0, idx_nat h1, obind_some, idx_nat h2, obind_some]
      by_cases hc : xs[f + m + i] = g[i]
      · rw [if_pos (u8_ieq.2 hc), chk_pos (by omega), e, ih (4 - (i + 1)) (i + 1) rfl (by omega) (by omega) (take_step h1' h2 ht (by rw [hxe, hc])), hd]
      · rw [if_neg (fun h => hc (u8_ieq.1 h)), if_neg]
        intro h
        apply hc
        have h3 : ((xs.drop (f + m)).take 4)[i]? = g[i]? := by rw [h]
        rw [List.getElem?_take, if_pos (by omega), List.getElem?_eq_getElem h1', List.getElem?_eq_getElem h2, hxe] at h3
        exact Option.some.inj h3
theorem next_m {b : List UInt8} {p : Nat} (hl : b.length ≤ 1000000000) (hp : p ≤ b.length) : f_spec_l01Next b (p : Int) = some (nextFr b p) := by
  unfold f_spec_l01Next nextFr
  rw [get_m hl hp, getNum_of, obind_some]
  by_cases h1 : (readNum (b.drop p)).2 < 0
  · simp [getOf, h1]
  by_cases h2 : (readNum (b.drop p)).2 = 0
  · simp [getOf, h2]
  obtain ⟨m, s, e, hs, hsl, hs9, hm⟩ := readNum_spec (bs := b.drop p) (by omega)
  rw [List.length_drop] at hsl
  have hgo : getOf p (readNum (b.drop p)) = ((m : Int), ((p + s : Nat) : Int), 0) := by
    unfold getOf; rw [if_neg h1, if_neg h2, e]; simp
  rw [hgo]
  rw [e] at h1 h2 ⊢
  simp only
  rw [if_neg (by omega), if_neg (by omega), if_neg h1, if_neg h2]
  by_cases h3 : 4096 < (m : Int)
  · rw [if_pos h3, if_pos h3]
  rw [if_neg h3, if_neg h3]
  have ea : (((p + s : Nat) : Int) + (m : Int)) = ((p + s + m : Nat) : Int) := by omega
  have eb : (((p + s + m : Nat) : Int) + 4) = ((p + s + m + 4 : Nat) : Int) := by omega
  simp (disch := omega) only [chk_pos]
  rw [ea, eb]
  by_cases h4 : b.length < p + s + m + 4
  · rw [if_pos (by omega), if_pos (by omega)]
  rw [if_neg (by omega), if_neg (by omega), slc_pos (by omega) (by omega) (by omega)]
  simp only [obind_some, Int.toNat_natCast, List.nil_append]
  rw [chk_pos (by simp; omega), spec_crc_m (by simp; omega), obind_some, four_m (crcOf_lt _), obind_some]
  have := next_L ((m : Int), ((p + s : Nat) : Int), 0) b ((b.take (p + s + m)).drop (p + s)) (p + s) m rfl rfl (by omega) hl (fourOf (crcOf ((b.take (p + s + m)).drop (p + s)))) rfl BIG 4 0 rfl (by rw [BIG_eq]; omega) (by omega) (by simp)
  refine this.trans ?_
  congr 2
end Go.Proofs.YtbdebjoagckcpaaAb
