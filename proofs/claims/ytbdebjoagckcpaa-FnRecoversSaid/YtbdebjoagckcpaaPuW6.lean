import Derived.Test.YtbdebjoagckcpaaPuW5
set_option linter.all false
namespace Go.Proofs.YtbdebjoagckcpaaAb
open Go
theorem byte_small {n : Nat} (h : n < 256) : (byteOf (n : Int)).toNat = n := by
  unfold byteOf
  rw [UInt8.toNat_ofNat']
  omega
theorem byte_hi {n : Nat} : (byteOf ((n : Int) % 128 + 128)).toNat = n % 128 + 128 := by
  have e : ((n : Int) % 128 + 128) = ((n % 128 + 128 : Nat) : Int) := by omega
  rw [e, byte_small (by omega)]
theorem rdNum_num : ∀ (k n i acc : Nat) (r : List UInt8), n < 128 ^ k → 0 < k → (0 < i → 0 < n) → rdNum (numBytes n ++ r) k i acc = (((acc + n * 128 ^ i : Nat) : Int), ((i + (numBytes n).length : Nat) : Int))
  | 0, n, i, acc, r, _, h, _ => by omega
  | k + 1, n, i, acc, r, hn, _, hi => by
    by_cases h : n ≤ 127
    · rw [numBytes_le h]
      show (if byteOf (n : Int) < 128 then _ else _) = _
      have hb := byte_small (n := n) (by omega)
      rw [if_pos (u8_lt_iff.1 (by rw [hb]; omega)), if_neg, hb, Nat.mod_eq_of_lt (by omega)]
      · rfl
      · rintro ⟨h1, h2⟩
        have := u8_eq_iff.2 h2
        rw [hb] at this
        have := hi h1
        omega
    · rw [numBytes_gt (by omega)]
      show (if byteOf ((n : Int) % 128 + 128) < 128 then _ else rdNum (numBytes (n / 128) ++ r) k (i + 1) _) = _
      have hb := byte_hi (n := n)
      have hk : 0 < k := by
        rcases Nat.eq_zero_or_pos k with rfl | h'
        · simp at hn; omega
        · exact h'
      rw [if_neg (fun h' => by have := u8_lt_iff.2 h'; rw [hb] at this; omega), hb, rdNum_num k (n / 128) (i + 1) _ r (Nat.div_lt_of_lt_mul (by rw [Nat.pow_succ] at hn; omega)) hk (fun _ => by omega)]
      have e1 : (n % 128 + 128) % 128 = n % 128 := by omega
      have e2 : acc + n % 128 * 128 ^ i + n / 128 * 128 ^ (i + 1) = acc + n * 128 ^ i := by
        rw [Nat.pow_succ, Nat.mul_comm (128 ^ i) 128, ← Nat.mul_assoc, Nat.add_assoc, ← Nat.add_mul]
        congr 2
        omega
      rw [e1, e2, List.length_cons]
      congr 2
      omega
theorem readNum_num {n : Nat} (h : n < 128 ^ 9) (r : List UInt8) : readNum (numBytes n ++ r) = ((n : Int), ((numBytes n).length : Int)) := by
  unfold readNum
  rw [rdNum_num 9 n 0 0 r h (by omega) (by omega)]
  simp
theorem rdNum_part : ∀ (k n i acc j : Nat), n < 128 ^ k → 0 < k → j < (numBytes n).length → rdNum ((numBytes n).take j) k i acc = (0, -1)
  | 0, n, i, acc, j, _, h, _ => by omega
  | k + 1, n, i, acc, 0, h, _, hj => by rw [List.take_zero]; rfl
  | k + 1, n, i, acc, j + 1, h, _, hj => by
    by_cases h' : n ≤ 127
    · rw [numBytes_le h'] at hj; simp at hj
    · rw [numBytes_gt (by omega)] at hj ⊢
      simp only [List.length_cons] at hj
      rw [List.take_succ_cons]
      show (if byteOf ((n : Int) % 128 + 128) < 128 then _ else rdNum ((numBytes (n / 128)).take j) k (i + 1) _) = _
      have hb := byte_hi (n := n)
      have hk : 0 < k := by
        rcases Nat.eq_zero_or_pos k with rfl | h'
        · simp at h; omega
        · exact h'
      rw [if_neg (fun h' => by have := u8_lt_iff.2 h'; rw [hb] at this; omega)]
      exact rdNum_part k (n / 128) (i + 1) _ j (Nat.div_lt_of_lt_mul (by rw [Nat.pow_succ] at h; omega)) hk (by omega)
theorem readNum_part {n j : Nat} (h : n < 128 ^ 9) (hj : j < (numBytes n).length) : readNum ((numBytes n).take j) = (0, -1) := rdNum_part 9 n 0 0 j h (by omega) hj
theorem readFr_frame {p : List UInt8} (hp : p.length ≤ 4096) (r : List UInt8) : readFr (frameOf p ++ r) = (p, ((frameOf p).length : Int), 0) := by
  have h128 : (128 : Nat) ^ 9 = 9223372036854775808 := by decide
  have hfl : (frameOf p).length = (numBytes p.length).length + p.length + 4 := by simp [frameOf, fourOf]; omega
  have hpos := numBytes_pos p.length
  have e : frameOf p ++ r = numBytes p.length ++ (p ++ (fourOf (crcOf p) ++ r)) := by simp [frameOf]
  unfold readFr
  rw [hfl, e, readNum_num (by omega)]
  simp only [Int.toNat_natCast]
  have hl : (numBytes p.length ++ (p ++ (fourOf (crcOf p) ++ r))).length = (numBytes p.length).length + p.length + 4 + r.length := by simp [fourOf]; omega
  rw [if_neg (by omega), if_neg (by omega), if_neg (by omega), if_neg (by rw [hl]; omega)]
  have e1 : ((numBytes p.length ++ (p ++ (fourOf (crcOf p) ++ r))).take ((numBytes p.length).length + p.length)).drop (numBytes p.length).length = p := by
    rw [List.drop_take, List.drop_left, Nat.add_sub_cancel_left, List.take_left]
  have e2 : ((numBytes p.length ++ (p ++ (fourOf (crcOf p) ++ r))).take ((numBytes p.length).length + p.length + 4)).drop ((numBytes p.length).length + p.length) = fourOf (crcOf p) := by
    rw [← List.append_assoc, List.drop_take, ← List.length_append, List.drop_left, List.length_append, Nat.add_sub_cancel_left]
    exact List.take_left (l₁ := fourOf (crcOf p)) (l₂ := r)
  rw [e1, e2, if_pos rfl]
  simp
theorem stop_part {p : List UInt8} (hp : p.length ≤ 4096) {j : Nat} (hj : j < (frameOf p).length) : stop ((frameOf p).take j) := by
  have h128 : (128 : Nat) ^ 9 = 9223372036854775808 := by decide
  have hfl : (frameOf p).length = (numBytes p.length).length + p.length + 4 := by simp [frameOf, fourOf]; omega
  have hpos := numBytes_pos p.length
  have e : frameOf p = numBytes p.length ++ (p ++ fourOf (crcOf p)) := by simp [frameOf]
  unfold stop readFr
  right
  by_cases h : j < (numBytes p.length).length
  · have : (frameOf p).take j = (numBytes p.length).take j := by rw [e, List.take_append_of_le_length (by omega)]
    rw [this, readNum_part (by omega) h]
    simp
  · have : (frameOf p).take j = numBytes p.length ++ (p ++ fourOf (crcOf p)).take (j - (numBytes p.length).length) := by
      rw [e, List.take_append]; congr 1; rw [List.take_of_length_le (by omega)]
    have hl : ((frameOf p).take j).length = j := by rw [List.length_take]; omega
    simp only
    rw [hl, this, readNum_num (by omega)]
    simp only
    rw [if_neg (by omega), if_neg (by omega), if_neg (by omega), if_pos (by omega)]
def recF : List (List UInt8) → GWal → GWal
  | [], w => w
  | p :: ps, w => match takeM w p with
    | none => w
    | some w' => recF ps { w' with Good := w'.Good + (frameOf p).length }
def framesOf (ps : List (List UInt8)) : List UInt8 := (ps.map frameOf).flatten
theorem framesOf_cons (p : List UInt8) (ps : List (List UInt8)) : framesOf (p :: ps) = frameOf p ++ framesOf ps := rfl
theorem frameOf_pos (p : List UInt8) : 4 ≤ (frameOf p).length := by simp [frameOf, fourOf]; omega
theorem rec_frames : ∀ (ps : List (List UInt8)) (k : Nat) (w : GWal) (part : List UInt8), (∀ p ∈ ps, p.length ≤ 4096) → stop part → (framesOf ps).length ≤ k → recM k w (framesOf ps ++ part) = recF ps w
  | [], 0, w, part, _, hs, _ => rfl
  | [], k + 1, w, part, _, hs, _ => by
    unfold recM
    rw [show framesOf [] ++ part = part from rfl, if_pos hs]; rfl
  | p :: ps, 0, w, part, _, hs, hk => by
    have := frameOf_pos p
    rw [framesOf_cons, List.length_append] at hk; omega
  | p :: ps, k + 1, w, part, hp, hs, hk => by
    have hpl := hp p (List.mem_cons_self ..)
    have hfp := frameOf_pos p
    rw [framesOf_cons, List.length_append] at hk
    rw [framesOf_cons, List.append_assoc]
    unfold recM recF
    have hr := readFr_frame hpl (framesOf ps ++ part)
    have hns : ¬ stop (frameOf p ++ (framesOf ps ++ part)) := by
      unfold stop
      rw [hr]
      simp only
      omega
    rw [if_neg hns, hr]
    simp only [Int.toNat_natCast]
    cases takeM w p with
    | none => rfl
    | some w' =>
      simp only
      rw [List.drop_left]
      exact rec_frames ps k _ part (fun q hq => hp q (List.mem_cons_of_mem _ hq)) hs (by omega)
theorem recF_good : ∀ (ps : List (List UInt8)) (w : GWal), WInv w → ∃ j, j ≤ ps.length ∧ recF (ps.take j) w = recF ps w ∧ (recF ps w).Good = w.Good + (framesOf (ps.take j)).length
  | [], w, _ => ⟨0, by simp, rfl, by simp [recF, framesOf]⟩
  | p :: ps, w, hw => by
    cases ht : takeM w p with
    | none =>
      have e : recF (p :: ps) w = w := by unfold recF; rw [ht]
      exact ⟨0, by simp, by rw [e]; rfl, by rw [e]; simp [framesOf]⟩
    | some w' =>
      obtain ⟨hw', hg⟩ := takeM_inv hw ht
      have e : ∀ qs, recF (p :: qs) w = recF qs { w' with Good := w'.Good + (frameOf p).length } := by intro qs; conv => lhs; unfold recF; rw [ht]
      obtain ⟨j, h1, h2, h3⟩ := recF_good ps { w' with Good := w'.Good + (frameOf p).length } ⟨hw'.term, hw'.base, hw'.bterm, hw'.log, hw'.terms⟩
      refine ⟨j + 1, by simp; omega, ?_, ?_⟩
      · rw [List.take_succ_cons, e, e, h2]
      · rw [e, h3, List.take_succ_cons, framesOf_cons, List.length_append, hg]
        simp only
        omega
end Go.Proofs.YtbdebjoagckcpaaAb
