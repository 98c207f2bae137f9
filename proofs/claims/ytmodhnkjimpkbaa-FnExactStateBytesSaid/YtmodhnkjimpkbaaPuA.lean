import Derived.Test.YtmodhnkjimpkbaaAbP5
set_option linter.all false
namespace Go.Proofs.YtmodhnkjimpkbaaAb
open Go
def numBytes (n : Nat) : List UInt8 := if n ≤ 127 then [byteOf n] else byteOf ((n : Int) % 128 + 128) :: numBytes (n / 128)
theorem numBytes_pos (n : Nat) : 0 < (numBytes n).length := by unfold numBytes; split <;> simp
theorem numBytes_len : ∀ (k n : Nat), n < 128 ^ k → 0 < k → (numBytes n).length ≤ k
  | 0, n, _, h => by omega
  | k + 1, n, h, _ => by
    unfold numBytes
    split
    · simp
    · have h2 : n / 128 < 128 ^ k := Nat.div_lt_of_lt_mul (by rw [Nat.pow_succ] at h; omega)
      have hk : 0 < k := by
        rcases Nat.eq_zero_or_pos k with rfl | h
        · simp at h; omega
        · exact h
      have := numBytes_len k (n / 128) h2 hk
      simp; omega
def rdNum : List UInt8 → Nat → Nat → Nat → Int × Int
  | _, 0, _, _ => (0, 0)
  | [], _ + 1, _, _ => (0, -1)
  | c :: bs, k + 1, i, acc => if c < 128 then (if 0 < i ∧ c = 0 then (0, 0) else (((acc + c.toNat % 128 * 128 ^ i : Nat) : Int), (i : Int) + 1)) else rdNum bs k (i + 1) (acc + c.toNat % 128 * 128 ^ i)
def readNum (bs : List UInt8) : Int × Int := rdNum bs 9 0 0
theorem rdNum_at {bs : List UInt8} {i acc : Nat} (h : i < bs.length) (hi : i < 9) :
    rdNum (bs.drop i) (9 - i) i acc = if bs[i] < 128 then (if 0 < i ∧ bs[i] = 0 then (0, 0) else (((acc + bs[i].toNat % 128 * 128 ^ i : Nat) : Int), (i : Int) + 1)) else rdNum (bs.drop (i + 1)) (9 - (i + 1)) (i + 1) (acc + bs[i].toNat % 128 * 128 ^ i) := by
  rw [List.drop_eq_getElem_cons h, show 9 - i = (9 - (i + 1)) + 1 by omega]
  rfl
theorem rdNum_zero (bs : List UInt8) (i acc : Nat) : rdNum bs 0 i acc = (0, 0) := by cases bs <;> rfl
theorem rdNum_end {i acc : Nat} {bs : List UInt8} (h : i = bs.length) (hi : i < 9) : rdNum (bs.drop i) (9 - i) i acc = (0, -1) := by
  rw [List.drop_of_length_le (by omega), show 9 - i = (9 - (i + 1)) + 1 by omega]
  rfl
theorem u8_lt_iff {c : UInt8} : ((c.toNat : Int) < 128) ↔ c < 128 := by
  rw [UInt8.lt_iff_toNat_lt]; show _ ↔ c.toNat < 128; omega
theorem u8_eq_iff {c : UInt8} : ((c.toNat : Int) = 0) ↔ c = 0 := by
  rw [← UInt8.toNat_inj]; show _ ↔ c.toNat = 0; omega
def crcStep (x : Nat) : Nat := if x % 2 = 1 then x / 2 ^^^ 3988292384 else x / 2
def crcIter : Nat → Nat → Nat
  | 0, x => x
  | k + 1, x => crcIter k (crcStep x)
def crcAll (x : Nat) : List UInt8 → Nat
  | [] => x
  | c :: bs => crcAll (crcIter 8 (x ^^^ c.toNat)) bs
def crcOf (bs : List UInt8) : Nat := 4294967295 ^^^ crcAll 4294967295 bs
theorem crcStep_lt {x : Nat} (h : x < 4294967296) : crcStep x < 4294967296 := by
  unfold crcStep
  split
  · exact Nat.xor_lt_two_pow (n := 32) (by omega) (by omega)
  · omega
theorem crcIter_lt : ∀ (k : Nat) {x : Nat}, x < 4294967296 → crcIter k x < 4294967296
  | 0, x, h => h
  | k + 1, x, h => crcIter_lt k (crcStep_lt h)
theorem xor_byte_lt {x : Nat} (h : x < 4294967296) (c : UInt8) : x ^^^ c.toNat < 4294967296 := Nat.xor_lt_two_pow (n := 32) (by omega) (by have := c.toNat_lt; omega)
theorem crcAll_lt : ∀ (bs : List UInt8) {x : Nat}, x < 4294967296 → crcAll x bs < 4294967296
  | [], x, h => h
  | c :: bs, x, h => crcAll_lt bs (crcIter_lt 8 (xor_byte_lt h c))
theorem crcOf_lt (bs : List UInt8) : crcOf bs < 4294967296 := Nat.xor_lt_two_pow (n := 32) (by omega) (crcAll_lt bs (by omega))
theorem or128 {y : Nat} (h : y < 128) : ((byteOf (y : Int)).toNat ||| 128) = (byteOf ((y : Int) + 128)).toNat := by
  have h1 : ∀ z : Fin 128, ((byteOf (z.val : Int)).toNat ||| 128) = (byteOf ((z.val : Int) + 128)).toNat := by decide +kernel
  exact h1 ⟨y, h⟩
def fourOf (x : Nat) : List UInt8 := [byteOf (x : Int), byteOf ((x / 256 : Nat) : Int), byteOf ((x / 65536 : Nat) : Int), byteOf ((x / 16777216 : Nat) : Int)]
theorem byteOf_mod (x : Int) : byteOf (x % 256) = byteOf x := by unfold byteOf; rw [Int.emod_emod_of_dvd _ (by decide)]
theorem u8_inj {a b : UInt8} (h : (a.toNat : Int) = (b.toNat : Int)) : a = b := UInt8.toNat_inj.1 (by omega)
def frameOf (p : List UInt8) : List UInt8 := numBytes p.length ++ p ++ fourOf (crcOf p)
theorem numBytes_len9 {p : List UInt8} (h : p.length ≤ 1000000000) : (numBytes p.length).length ≤ 9 := numBytes_len 9 _ (by omega) (by omega)
theorem frameOf_len {p : List UInt8} (h : p.length ≤ 1000000000) : (frameOf p).length ≤ p.length + 13 := by
  have := numBytes_len9 h
  simp [frameOf, fourOf]; omega
theorem rdNum_spec : ∀ (bs : List UInt8) (k i acc : Nat), k + i ≤ 9 → acc < 128 ^ i → 0 < (rdNum bs k i acc).2 →
    ∃ m : Nat, ∃ s : Nat, rdNum bs k i acc = ((m : Int), (s : Int)) ∧ i < s ∧ s ≤ i + bs.length ∧ s ≤ 9 ∧ m < 128 ^ 9
  | bs, 0, i, acc, _, _, h => by rw [rdNum_zero] at h; simp at h
  | [], k + 1, i, acc, _, _, h => by simp [rdNum] at h
  | c :: bs, k + 1, i, acc, hk, ha, h => by
    have hp : 128 ^ (i + 1) ≤ 128 ^ 9 := Nat.pow_le_pow_right (by omega) (by omega)
    have hm : c.toNat % 128 * 128 ^ i ≤ 127 * 128 ^ i := Nat.mul_le_mul_right _ (by omega)
    have hs : acc + c.toNat % 128 * 128 ^ i < 128 ^ (i + 1) := by rw [Nat.pow_succ]; omega
    unfold rdNum at h ⊢
    split at h
    · rename_i h1
      rw [if_pos h1]
      split at h
      · simp at h
      · rename_i h2
        rw [if_neg h2]
        exact ⟨_, i + 1, rfl, by omega, by simp only [List.length_cons]; omega, by omega, by omega⟩
    · rename_i h1
      rw [if_neg h1]
      obtain ⟨m, s, e, h2, h3, h4, h5⟩ := rdNum_spec bs k (i + 1) _ (by omega) hs h
      exact ⟨m, s, e, by omega, by simp only [List.length_cons]; omega, h4, h5⟩
theorem readNum_spec {bs : List UInt8} (h : 0 < (readNum bs).2) : ∃ m s : Nat, readNum bs = ((m : Int), (s : Int)) ∧ 0 < s ∧ s ≤ bs.length ∧ s ≤ 9 ∧ m < 128 ^ 9 := by
  obtain ⟨m, s, e, h1, h2, h3, h4⟩ := rdNum_spec bs 9 0 0 (by omega) (by simp) h
  exact ⟨m, s, e, h1, by omega, h3, h4⟩
def readFr (b : List UInt8) : List UInt8 × Int × Int :=
  let r := readNum b
  if r.2 < 0 then ([], 0, 0) else if r.2 = 0 then ([], 0, 3) else if 4096 < r.1 then ([], 0, 5) else if (b.length : Int) < r.2 + r.1 + 4 then ([], 0, 0)
  else
    let s := r.2.toNat
    let m := r.1.toNat
    let p := (b.take (s + m)).drop s
    if (b.take (s + m + 4)).drop (s + m) = fourOf (crcOf p) then (p, r.2 + r.1 + 4, 0) else ([], 0, 8)
def getNum (b : List UInt8) (p : Nat) : Int × Int × Int :=
  let r := readNum (b.drop p)
  if r.2 < 0 then (0, 0, 1) else if r.2 = 0 then (0, 0, 2) else (r.1, (p : Int) + r.2, 0)
theorem get_found {bs : List UInt8} {p i acc X : Nat} (h : ((((acc + X : Nat) : Int), (i : Int) + 1) : Int × Int) = readNum (bs.drop p)) (ha : acc < 128 ^ i) : getNum bs p = (((acc + X : Nat) : Int), (p : Int) + (i : Int) + 1, 0) := by
  unfold getNum
  rw [← h]
  simp only
  rw [if_neg (by omega), if_neg (by omega), Int.add_assoc]
def nextFr (b : List UInt8) (p : Nat) : List UInt8 × Int × Int :=
  let r := readNum (b.drop p)
  if r.2 < 0 then ([], 0, 1) else if r.2 = 0 then ([], 0, 3) else if 4096 < r.1 then ([], 0, 5) else if (b.length : Int) < (p : Int) + r.2 + r.1 + 4 then ([], 0, 1)
  else
    let f := p + r.2.toNat
    let m := r.1.toNat
    let q := (b.take (f + m)).drop f
    if (b.take (f + m + 4)).drop (f + m) = fourOf (crcOf q) then (q, (p : Int) + r.2 + r.1 + 4, 0) else ([], 0, 8)
theorem take_step {l l' : List UInt8} {i : Nat} (h1 : i < l.length) (h2 : i < l'.length) (ht : l.take i = l'.take i) (hg : l[i] = l'[i]) : l.take (i + 1) = l'.take (i + 1) := by
  rw [List.take_succ_eq_append_getElem h1, List.take_succ_eq_append_getElem h2, ht, hg]
theorem take_all {l l' : List UInt8} {i : Nat} (h1 : l.length = i) (h2 : l'.length = i) (ht : l.take i = l'.take i) : l = l' := by
  subst h1
  rw [List.take_length, ← h2, List.take_length] at ht
  exact ht
theorem getNum_spec {b : List UInt8} {p : Nat} (h : (getNum b p).2.2 = 0) : ∃ m q : Nat, getNum b p = ((m : Int), (q : Int), 0) ∧ p < q ∧ q ≤ b.length ∧ m < 128 ^ 9 ∧ readNum (b.drop p) = ((m : Int), (q : Int) - p) := by
  unfold getNum at h ⊢
  generalize hr : readNum (b.drop p) = r at h ⊢
  obtain ⟨r1, r2⟩ := r
  simp only at h ⊢
  by_cases h0 : r2 < 0
  · rw [if_pos h0] at h; simp at h
  by_cases h1 : r2 = 0
  · rw [if_neg h0, if_pos h1] at h; simp at h
  obtain ⟨m, s, e, hs0, hsl, hs9, hm⟩ := readNum_spec (bs := b.drop p) (by rw [hr]; simp; omega)
  rw [hr] at e
  obtain ⟨rfl, rfl⟩ := Prod.mk.inj e
  rw [List.length_drop] at hsl
  refine ⟨m, p + s, by rw [if_neg h0, if_neg h1]; simp, by omega, by omega, hm, ?_⟩
  congr 1
  omega
end Go.Proofs.YtmodhnkjimpkbaaAb
