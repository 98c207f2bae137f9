import Derived.Test.YtmodhnkjimpkbaaPuB
import Derived.Test.YtmodhnkjimpkbaaPxRsD
set_option linter.all false
namespace Go.Proofs.YtmodhnkjimpkbaaAb
open Go
theorem and127 (c : UInt8) : (c &&& 127).toNat = c.toNat % 128 := by
  rw [UInt8.toNat_and]; exact Nat.and_two_pow_sub_one_eq_mod c.toNat 7
theorem shl_num {i x : Nat} (hi : i ≤ 8) (hx : x < 128) : shl64 (x : Int) ((7 : Int) * (i : Int)) = ((x * 128 ^ i : Nat) : Int) := by
  have e7 : (7 * (i : Int)).toNat = 7 * i := by omega
  have emin : min (7 * i) 64 = 7 * i := by omega
  have ep : (2 : Nat) ^ (7 * i) = 128 ^ i := by rw [Nat.pow_mul]
  have hp : 128 ^ i ≤ 128 ^ 8 := Nat.pow_le_pow_right (by omega) hi
  have hprod : x * 128 ^ i ≤ 127 * 128 ^ 8 := Nat.mul_le_mul (by omega) hp
  have h128 : (128 : Nat) ^ 8 = 72057594037927936 := by decide
  unfold shl64
  rw [e7, emin]
  have e2 : ((x : Int) * 2 ^ (7 * i)) = ((x * 128 ^ i : Nat) : Int) := by rw [← ep]; simp
  rw [e2]
  exact wrap_i64 (x := ((x * 128 ^ i : Nat) : Int)) ⟨by omega, by omega⟩
theorem or_num {acc i x : Nat} (ha : acc < 128 ^ i) : (acc ||| x * 128 ^ i) = acc + x * 128 ^ i := by
  have ep : (2 : Nat) ^ (7 * i) = 128 ^ i := by rw [Nat.pow_mul]
  rw [← ep] at ha ⊢
  rw [Nat.mul_comm, Nat.or_comm, ← Nat.two_pow_add_eq_or_of_lt ha]
  omega
theorem acc_lt {acc i x : Nat} (hi : i ≤ 8) (ha : acc < 128 ^ i) (hx : x < 128) : acc + x * 128 ^ i < 128 ^ (i + 1) ∧ acc + x * 128 ^ i < 9223372036854775808 ∧ x * 128 ^ i < 9223372036854775808 ∧ acc < 9223372036854775808 := by
  have h1 : x * 128 ^ i ≤ 127 * 128 ^ i := Nat.mul_le_mul_right _ (by omega)
  have hp : 128 ^ (i + 1) ≤ 128 ^ 9 := Nat.pow_le_pow_right (by omega) (by omega)
  have h128 : (128 : Nat) ^ 9 = 9223372036854775808 := by decide
  rw [Nat.pow_succ] at hp ⊢
  omega
theorem readNumber_J {i acc : Nat} (c : UInt8) (hi : i ≤ 8) (ha : acc < 128 ^ i) (b : Bool) : f_impl_readNumber_J1 (i : Int) (acc : Int) c b = some (if b = true then (0, 0) else (((acc + c.toNat % 128 * 128 ^ i : Nat) : Int), (i : Int) + 1)) := by
  have hx : c.toNat % 128 < 128 := Nat.mod_lt _ (by omega)
  unfold f_impl_readNumber_J1
  cases b
  · rw [if_neg (by simp), if_neg (by simp), chk_pos (by omega), and127, shl_num hi hx, Int.toNat_natCast, Int.toNat_natCast, or_num ha]
  · rw [if_pos rfl, if_pos rfl]
theorem readNumber_S {xs : List UInt8} {k i acc : Nat} (hi : i ≤ 8) (hlt : i < xs.length) (ha : acc < 128 ^ i) : f_impl_readNumber_L0 xs (k + 1) (acc : Int) (i : Int) =
    if xs[i] < 128 then some (if 0 < i ∧ xs[i] = 0 then (0, 0) else (((acc + xs[i].toNat % 128 * 128 ^ i : Nat) : Int), (i : Int) + 1)) else f_impl_readNumber_L0 xs k ((acc + xs[i].toNat % 128 * 128 ^ i : Nat) : Int) ((i + 1 : Nat) : Int) := by
  have hx : xs[i].toNat % 128 < 128 := Nat.mod_lt _ (by omega)
  have hacc := acc_lt hi ha hx
  rw [f_impl_readNumber_L0, if_pos (by omega), if_neg (by omega), idx_nat hlt, obind_some, obind_some, obind_some, and127, shl_num hi hx, chk_pos (by omega), chk_pos (by omega), chk_pos (by omega), Int.toNat_natCast, Int.toNat_natCast, or_num ha]
  by_cases hc : xs[i] < 128
  · rw [if_pos (u8_lt_iff.2 hc), if_pos hc, readNumber_J _ hi ha, readNumber_J _ hi ha]
    by_cases h0 : 0 < i
    · rw [if_pos (by omega)]
      by_cases hz : xs[i] = 0
      · rw [if_pos (decide_eq_true (u8_eq_iff.2 hz)), if_pos ⟨h0, hz⟩]
      · rw [if_neg (fun h => hz (u8_eq_iff.1 (of_decide_eq_true h))), if_neg (fun h => hz h.2)]
    · rw [if_neg (by omega), if_neg (by simp), if_neg (fun h => h0 h.1)]
  · rw [if_neg (fun h => hc (u8_lt_iff.1 h)), if_neg hc, chk_pos (by omega)]
    rfl
theorem readNumber_L (xs : List UInt8) : ∀ (m k i acc : Nat), 9 - i = m → m + 1 ≤ k → i ≤ 9 → i ≤ xs.length → acc < 128 ^ i → f_impl_readNumber_L0 xs k (acc : Int) (i : Int) = some (rdNum (xs.drop i) (9 - i) i acc) := by
  intro m
  induction m with
  | zero =>
    intro k i acc hm hk hi hl ha
    obtain ⟨k, rfl⟩ : ∃ j, k = j + 1 := ⟨k - 1, by omega⟩
    rw [f_impl_readNumber_L0, if_neg (by omega), hm, rdNum_zero]
  | succ m ih =>
    intro k i acc hm hk hi hl ha
    obtain ⟨k, rfl⟩ : ∃ j, k = j + 1 := ⟨k - 1, by omega⟩
    by_cases he : i = xs.length
    · rw [f_impl_readNumber_L0, if_pos (by omega), if_pos (by omega), rdNum_end he (by omega)]
    have hlt : i < xs.length := by omega
    have hx : xs[i].toNat % 128 < 128 := Nat.mod_lt _ (by omega)
    rw [readNumber_S (by omega) hlt ha, rdNum_at hlt (by omega)]
    by_cases hc : xs[i] < 128
    · rw [if_pos hc, if_pos hc]
    · rw [if_neg hc, if_neg hc, ih k (i + 1) _ (by omega) (by omega) (by omega) (by omega) (acc_lt (by omega) ha hx).1]
theorem readNumber_m (xs : List UInt8) : f_impl_readNumber xs = some (readNum xs) := by
  unfold f_impl_readNumber
  exact readNumber_L xs 9 BIG 0 0 rfl (by rw [BIG_eq]; omega) (by omega) (by omega) (by simp)
def getOf (p : Nat) (r : Int × Int) : Int × Int × Int := if r.2 < 0 then (0, 0, 1) else if r.2 = 0 then (0, 0, 2) else (r.1, (p : Int) + r.2, 0)
theorem getNum_of (b : List UInt8) (p : Nat) : getNum b p = getOf p (readNum (b.drop p)) := rfl
theorem get_L (xs : List UInt8) (p : Nat) (hl : xs.length ≤ 1000000000) (hp : p ≤ xs.length) : ∀ (m k i acc : Nat) (w : Int), 9 - i = m → m + 1 ≤ k → i ≤ 9 → acc < 128 ^ i → (i ≤ 8 → w = ((128 ^ i : Nat) : Int)) → f_spec_l01Get_L0 (p : Int) xs k (acc : Int) w (i : Int) = some (getOf p (rdNum ((xs.drop p).drop i) (9 - i) i acc)) := by
  intro m
  induction m with
  | zero =>
    intro k i acc w hm hk hi ha hw
    obtain ⟨k, rfl⟩ : ∃ j, k = j + 1 := ⟨k - 1, by omega⟩
    rw [f_spec_l01Get_L0, if_neg (by omega), hm, rdNum_zero]; rfl
  | succ m ih =>
    intro k i acc w hm hk hi ha hw
    obtain ⟨k, rfl⟩ : ∃ j, k = j + 1 := ⟨k - 1, by omega⟩
    have hi8 : i ≤ 8 := by omega
    rw [f_spec_l01Get_L0, if_pos (by omega), chk_pos (by omega)]
    by_cases he : xs.length ≤ p + i
    · rw [if_pos (by omega), List.drop_of_length_le (l := xs.drop p) (by rw [List.length_drop]; omega), show 9 - i = (9 - (i + 1)) + 1 by omega]; rfl
    have hlt : i < (xs.drop p).length := by rw [List.length_drop]; omega
    have hlt2 : p + i < xs.length := by omega
    have hg : (xs.drop p)[i] = xs[p + i] := by rw [List.getElem_drop]
    have hx : xs[p + i].toNat % 128 < 128 := Nat.mod_lt _ (by omega)
    have hacc := acc_lt (i := i) hi8 ha hx
    have e0 : ((p : Int) + (i : Int)) = ((p + i : Nat) : Int) := by omega
    have e1 : ((xs[p + i].toNat : Int) % 128 * w) = ((xs[p + i].toNat % 128 * 128 ^ i : Nat) : Int) := by rw [hw hi8, Int.natCast_mul]; congr 1
    rw [if_neg (by omega), chk_pos (by omega), e0, idx_nat hlt2]
    simp only [obind_some]
    rw [e1, chk_pos (by omega), chk_pos (by omega), chk_pos (by omega), rdNum_at hlt (by omega), hg]
    have e2 : ((acc : Int) + ((xs[p + i].toNat % 128 * 128 ^ i : Nat) : Int)) = ((acc + xs[p + i].toNat % 128 * 128 ^ i : Nat) : Int) := by omega
    by_cases hc : xs[p + i] < 128
    · rw [if_pos (u8_lt_iff.2 hc), if_pos hc]
      have hj : ∀ b : Bool, f_spec_l01Get_J2 (p : Int) (i : Int) (acc : Int) xs[p + i] w b = some (getOf p (if b = true then (0, 0) else (((acc + xs[p + i].toNat % 128 * 128 ^ i : Nat) : Int), (i : Int) + 1))) := by
        intro b
        unfold f_spec_l01Get_J2
        cases b
        · rw [if_neg (by simp), if_neg (by simp), chk_pos (by omega), chk_pos (by omega), e1, e2]
          unfold getOf
          simp only
          rw [if_neg (by omega), if_neg (by omega), Int.add_assoc]
        · rw [if_pos rfl, if_pos rfl]; rfl
      by_cases h0 : 0 < i
      · rw [if_pos (by omega), hj]
        by_cases hz : xs[p + i] = 0
        · rw [if_pos (by simpa using u8_eq_iff.2 hz), if_pos ⟨h0, hz⟩]
        · rw [if_neg (by simpa using fun h => hz (u8_eq_iff.1 h)), if_neg (fun h => hz h.2)]
      · rw [if_neg (by omega), hj, if_neg (by simp), if_neg (fun h => h0 h.1)]
    · rw [if_neg (fun h => hc (u8_lt_iff.1 h)), if_neg hc]
      have e : ((i : Int) + 1) = ((i + 1 : Nat) : Int) := by omega
      unfold f_spec_l01Get_J1
      by_cases h8 : i < 8
      · have hp8 : 128 ^ i ≤ 128 ^ 7 := Nat.pow_le_pow_right (by omega) (by omega)
        have h128 : (128 : Nat) ^ 7 = 562949953421312 := by decide
        have hw' := hw hi8
        rw [if_pos (by omega), chk_pos (by omega), chk_pos (by omega), e, e2, ih k (i + 1) _ _ (by omega) (by omega) (by omega) hacc.1 (fun _ => by rw [hw', Nat.pow_succ]; omega)]
      · rw [if_neg (by omega), chk_pos (by omega), e, e2, ih k (i + 1) _ _ (by omega) (by omega) (by omega) hacc.1 (fun _ => by omega)]
theorem get_m {xs : List UInt8} {p : Nat} (hl : xs.length ≤ 1000000000) (hp : p ≤ xs.length) : f_spec_l01Get xs (p : Int) = some (getNum xs p) := by
  unfold f_spec_l01Get
  exact get_L xs p hl hp 9 BIG 0 0 1 rfl (by rw [BIG_eq]; omega) (by omega) (by simp) (by simp)
structure RdEq (r : GbyteReader) (s : Gl09Reader) : Prop where
  bad : r.bad = s.bad
  pos : s.bad = false → 0 ≤ s.at_ ∧ s.at_ ≤ s.b.length ∧ r.b = s.b.drop s.at_.toNat
  len : s.b.length ≤ 65536
  rlen : r.b.length ≤ 65536
theorem number_eq {r : GbyteReader} {s : Gl09Reader} (h : RdEq r s) : ∃ r' s' x, f_impl_byteReader_number r = some (r', x) ∧ f_spec_l09Reader_number s = some (s', x) ∧ RdEq r' s' ∧ s'.b = s.b ∧ 0 ≤ x ∧ x < 9223372036854775808 ∧ (s'.bad = false → s.bad = false ∧ s.at_ < s'.at_) ∧ (s.bad = true → s'.bad = true) := by
  obtain ⟨rb, rbad⟩ := r
  obtain ⟨sb, sat, sbad⟩ := s
  obtain ⟨h1, h2, h3, h4⟩ := h
  simp only at h1 h2 h3 h4
  subst h1
  unfold f_impl_byteReader_number f_spec_l09Reader_number
  simp only [readNumber_m, obind_some]
  cases rbad with
  | true =>
    simp only [f_impl_byteReader_number_J0]
    exact ⟨_, _, 0, rfl, rfl, ⟨rfl, fun h => by simp at h, h3, h4⟩, rfl, by omega, by omega, fun h => by simp at h, fun _ => rfl⟩
  | false =>
    obtain ⟨g1, g2, g3⟩ := h2 rfl
    obtain ⟨p, rfl⟩ := Int.eq_ofNat_of_zero_le g1
    have hp : p ≤ sb.length := by omega
    simp only [Int.toNat_natCast] at g3
    subst g3
    rw [if_neg (by simp), if_neg (by simp), get_m (by omega) hp, obind_some]
    by_cases hz : (readNum (sb.drop p)).2 ≤ 0
    · rw [decide_eq_true hz]
      have hg : (getNum sb p).2.2 ≠ 0 := by
        rw [getNum_of]; unfold getOf
        by_cases h : (readNum (sb.drop p)).2 < 0
        · rw [if_pos h]; decide
        · rw [if_neg h, if_pos (by omega)]; decide
      rw [if_neg hg]
      exact ⟨_, _, 0, rfl, rfl, ⟨rfl, fun h => by simp at h, h3, by simpa using h4⟩, rfl, by omega, by omega, fun h => by simp at h, fun h => by simp at h⟩
    · rw [decide_eq_false hz]
      obtain ⟨m, k, e, hk, hkl, hk9, hm⟩ := readNum_spec (bs := sb.drop p) (by omega)
      have h128 : (128 : Nat) ^ 9 = 9223372036854775808 := by decide
      have hg : getNum sb p = ((m : Int), ((p + k : Nat) : Int), 0) := by
        rw [getNum_of, e]; unfold getOf; rw [if_neg (by simp), if_neg (by simp; omega)]; simp
      rw [hg, e]
      simp only
      rw [if_pos trivial]
      unfold f_impl_byteReader_number_J0
      simp only
      rw [if_neg (by simp), slc_tail (by omega) (by omega), obind_some]
      rw [List.length_drop] at hkl
      refine ⟨_, _, (m : Int), rfl, rfl, ⟨rfl, fun _ => ⟨by simp only; omega, by simp only; omega, by simp only [Int.toNat_natCast, List.drop_drop]⟩, h3, by simp only [List.length_drop, Int.toNat_natCast]; omega⟩, rfl, by omega, by omega, fun _ => ⟨by trivial, by simp only; omega⟩, fun h => by simp at h⟩
theorem text_eq {r : GbyteReader} {s : Gl09Reader} (h : RdEq r s) : ∃ r' s' x, f_impl_byteReader_text r = some (r', x) ∧ f_spec_l09Reader_text s = some (s', x) ∧ RdEq r' s' ∧ s'.b = s.b ∧ (s'.bad = false → s.bad = false ∧ s.at_ < s'.at_) ∧ (s.bad = true → s'.bad = true) ∧ x.length ≤ 65536 := by
  obtain ⟨r1, s1, x, e1, e2, he, hb, hx0, hx1, hm, hbd⟩ := number_eq h
  unfold f_impl_byteReader_text f_spec_l09Reader_text
  have er : ({ b := r.b, bad := r.bad } : GbyteReader) = r := rfl
  have es : ({ b := s.b, at_ := s.at_, bad := s.bad } : Gl09Reader) = s := rfl
  rw [er, es, e1, e2, obind_some, obind_some]
  obtain ⟨rb, rbad⟩ := r1
  obtain ⟨sb, sat, sbad⟩ := s1
  obtain ⟨h1, h2, h3, h4⟩ := he
  simp only at h1 h2 h3 h4 hb hm hbd ⊢
  subst h1
  cases rbad with
  | true =>
    simp only [f_impl_byteReader_text_J0, f_spec_l09Reader_text_J0]
    exact ⟨_, _, [], rfl, rfl, ⟨rfl, fun h => by simp at h, h3, h4⟩, hb, fun h => by simp at h, fun _ => rfl, by simp⟩
  | false =>
    obtain ⟨g1, g2, g3⟩ := h2 rfl
    obtain ⟨q1, q2⟩ := hm rfl
    have hrl : rb.length = sb.length - sat.toNat := by rw [g3, List.length_drop]
    rw [if_neg (by simp), if_neg (by simp), chk_pos (by omega)]
    have hd : decide ((rb.length : Int) < x) = decide ((sb.length : Int) - sat < x) := by rw [decide_eq_decide]; omega
    rw [hd]
    by_cases hl : (sb.length : Int) - sat < x
    · rw [decide_eq_true hl]
      simp only [f_impl_byteReader_text_J0, f_spec_l09Reader_text_J0]
      exact ⟨_, _, [], rfl, rfl, ⟨rfl, fun h => by simp at h, h3, h4⟩, hb, fun h => by simp at h, fun _ => rfl, by simp⟩
    · rw [decide_eq_false hl]
      unfold f_impl_byteReader_text_J0 f_spec_l09Reader_text_J0
      simp only
      rw [if_neg (by simp), if_neg (by simp), chk_pos (by omega), slc_head hx0 (by omega), slc_tail hx0 (by omega), slc_pos (by omega) (by omega) (by omega), obind_some, obind_some, obind_some, chk_pos (by omega)]
      have ex : (sb.take (sat + x).toNat).drop sat.toNat = rb.take x.toNat := by
        rw [List.drop_take, g3]; congr 1; omega
      rw [ex]
      refine ⟨_, _, rb.take x.toNat, rfl, rfl, ⟨rfl, fun _ => ⟨by simp only; omega, by simp only; omega, ?_⟩, h3, by simp only [List.length_drop]; omega⟩, hb, fun _ => ⟨q1, by simp only; omega⟩, fun h => by have := hbd h; simp at this, by rw [List.length_take]; omega⟩
      simp only
      rw [g3, List.drop_drop]
      congr 1
      omega
end Go.Proofs.YtmodhnkjimpkbaaAb
