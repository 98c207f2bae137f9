import Derived.Test.YtbdebjoagckcpaaPuW6
set_option linter.all false
namespace Go.Proofs.YtbdebjoagckcpaaAb
open Go
structure SInv (N : Nat) (s : Gl00Src) : Prop where
  at0 : 0 ≤ s.at_
  atN : s.at_ ≤ N
  seed0 : 0 ≤ s.seed
  seed1 : s.seed < 2147483648
  code : s.code.length ≤ 1000000000
theorem SInv.mono {N M : Nat} {s : Gl00Src} (h : SInv N s) (hle : N ≤ M) : SInv M s := ⟨h.at0, by have := h.atN; omega, h.seed0, h.seed1, h.code⟩
theorem u8_lt (c : UInt8) : (c.toNat : Int) < 256 ∧ 0 ≤ (c.toNat : Int) := by have := c.toNat_lt; omega
theorem source_m {xs : List UInt8} (h : xs.length ≤ 1000000000) : ∃ s, f_spec_l00Source xs = some s ∧ SInv 0 s := by
  unfold f_spec_l00Source
  rw [chk_pos (by omega)]
  exact ⟨_, rfl, by simp, by simp, by simp only; omega, by simp only; omega, h⟩
theorem src_byte_m {N : Nat} {s : Gl00Src} (hs : SInv N s) (hN : N ≤ 1000000000000) : ∃ s' x, f_spec_l00Src_byte s = some (s', x) ∧ SInv (N + 1) s' ∧ 0 ≤ x ∧ x < 256 := by
  obtain ⟨h1, h2, h3, h4, h5⟩ := hs
  unfold f_spec_l00Src_byte
  rw [chk_pos (by omega)]
  by_cases hc : s.at_ + 1 ≤ (s.code.length : Int)
  · obtain ⟨x, hx1, hx2⟩ := idx_opt (xs := s.code) (j := s.at_ + 1 - 1) (by omega) (by omega)
    have hb := u8_lt x
    rw [if_pos hc, hx2]
    simp only [obind_some]
    simp (disch := omega) only [chk_pos]
    exact ⟨_, _, rfl, ⟨by simp only; omega, by simp only; omega, by simp only; omega, by simp only; omega, h5⟩, by omega, by omega⟩
  · rw [if_neg hc]
    by_cases hc2 : 3000 < s.at_ + 1
    · rw [if_pos hc2]
      exact ⟨_, _, rfl, ⟨by simp only; omega, by simp only; omega, h3, h4, h5⟩, by omega, by omega⟩
    · rw [if_neg hc2]
      simp (disch := omega) only [chk_pos]
      exact ⟨_, _, rfl, ⟨by simp only; omega, by simp only; omega, by simp only; omega, by simp only; omega, h5⟩, by omega, by omega⟩
theorem src_next_m {N : Nat} {s : Gl00Src} (hs : SInv N s) (hN : N ≤ 100000000000) (n : Int) : ∃ s' x, f_spec_l00Src_next s n = some (s', x) ∧ SInv (N + 3) s' ∧ 0 ≤ x ∧ (1 ≤ n → x < n) ∧ (n ≤ 1 → x = 0) := by
  unfold f_spec_l00Src_next
  by_cases h1 : n ≤ 1
  · rw [if_pos h1]
    exact ⟨_, _, rfl, hs.mono (by omega), by omega, by omega, fun _ => rfl⟩
  rw [if_neg h1]
  by_cases h2 : n ≤ 256
  · rw [if_pos h2]
    obtain ⟨s1, x1, e1, hs1, hx1, hy1⟩ := src_byte_m hs (by omega)
    rw [e1, obind_some]
    simp (disch := omega) only [chk_pos]
    have hm : x1 % n < n := Int.emod_lt_of_pos _ (by omega)
    have hm0 : 0 ≤ x1 % n := Int.emod_nonneg _ (by omega)
    exact ⟨_, _, rfl, hs1.mono (by omega), hm0, fun _ => hm, by omega⟩
  · rw [if_neg h2]
    obtain ⟨s1, x1, e1, hs1, hx1, hy1⟩ := src_byte_m hs (by omega)
    rw [e1, obind_some]
    obtain ⟨s2, x2, e2, hs2, hx2, hy2⟩ := src_byte_m hs1 (by omega)
    simp only
    rw [e2, obind_some]
    obtain ⟨s3, x3, e3, hs3, hx3, hy3⟩ := src_byte_m hs2 (by omega)
    simp only
    rw [e3, obind_some]
    simp (disch := omega) only [chk_pos]
    have hm : (x1 * 65536 + x2 * 256 + x3) % n < n := Int.emod_lt_of_pos _ (by omega)
    have hm0 : 0 ≤ (x1 * 65536 + x2 * 256 + x3) % n := Int.emod_nonneg _ (by omega)
    exact ⟨_, _, rfl, hs3.mono (by omega), hm0, fun _ => hm, by omega⟩
theorem src_size_m {N : Nat} {s : Gl00Src} (hs : SInv N s) {n : Int} (hn : 1 ≤ n) : ∃ x, f_spec_l00Src_size s n = some x ∧ 1 ≤ x ∧ x ≤ n := by
  have h5 := hs.code
  unfold f_spec_l00Src_size
  rw [chk_pos (by omega), chk_pos (by omega)]
  refine ⟨_, rfl, ?_, ?_⟩ <;> split <;> omega
theorem src_bytes_L : ∀ (m k : Nat) (N : Nat) (xs : List UInt8) (s : Gl00Src), m + 1 ≤ k → SInv N s → N + 3 * m ≤ 100000000000 → xs.length + m ≤ 1000000000 → ∃ s' bs, f_spec_l00Src_bytes_L0 k xs (m : Int) s.code s.at_ s.seed = some (s', bs) ∧ SInv (N + 3 * m) s' ∧ bs.length ≤ xs.length + m := by
  intro m
  induction m with
  | zero =>
    intro k N xs s hk hs hN hx
    obtain ⟨k, rfl⟩ : ∃ j, k = j + 1 := ⟨k - 1, by omega⟩
    rw [f_spec_l00Src_bytes_L0, if_neg (by omega)]
    exact ⟨_, _, rfl, hs, by omega⟩
  | succ m ih =>
    intro k N xs s hk hs hN hx
    obtain ⟨k, rfl⟩ : ∃ j, k = j + 1 := ⟨k - 1, by omega⟩
    obtain ⟨s1, x1, e1, hs1, hx1, hy1, _⟩ := src_next_m hs (by omega) 256
    rw [f_spec_l00Src_bytes_L0, if_pos (by omega)]
    simp only [e1, obind_some]
    rw [chk_pos (by simp; omega), chk_pos (by omega)]
    have e : ((m + 1 : Nat) : Int) - 1 = (m : Int) := by omega
    rw [e]
    obtain ⟨s', bs, e2, hs2, hb⟩ := ih k (N + 3) (xs ++ [byteOf x1]) s1 (by omega) hs1 (by omega) (by simp; omega)
    exact ⟨s', bs, e2, hs2.mono (by omega), by simp at hb; omega⟩
theorem src_bytes_m {N : Nat} {s : Gl00Src} (hs : SInv N s) {n : Int} (hn0 : 0 ≤ n) (hn : n ≤ 1000) (hN : N ≤ 10000000000) : ∃ s' bs, f_spec_l00Src_bytes s n = some (s', bs) ∧ SInv (N + 3 + 3 * n.toNat) s' ∧ (bs.length : Int) ≤ n := by
  unfold f_spec_l00Src_bytes
  obtain ⟨s1, x1, e1, hs1, hx1, hy1, _⟩ := src_next_m hs (by omega) (n + 1)
  rw [chk_pos (by omega)]
  simp only [e1, obind_some]
  obtain ⟨m, rfl⟩ := Int.eq_ofNat_of_zero_le hx1
  have hm := hy1 (by omega)
  obtain ⟨s', bs, e2, hs2, hb⟩ := src_bytes_L m BIG (N + 3) [] s1 (by rw [BIG_eq]; omega) hs1 (by omega) (by simp; omega)
  exact ⟨s', bs, e2, hs2.mono (by omega), by simp at hb; omega⟩
structure WGen (w : GWal) : Prop where
  term0 : 0 ≤ w.Term
  term1 : w.Term < 9
  vote0 : 0 ≤ w.Vote
  vote1 : w.Vote < 4
  base : w.Base = 0
  bterm : w.BaseTerm = 0
  good : w.Good = 0
  len : w.Log.length ≤ 6
  recs : ∀ (i : Nat) (h : i < w.Log.length), (0 ≤ w.Log[i].Term ∧ w.Log[i].Term < 4) ∧ w.Log[i].Index = i + 1 ∧ w.Log[i].Data.length ≤ 5
theorem src_wal_L (x15 x40 : Gl00Src × Int) : ∀ (m k N : Nat) (xs : List GRec) (s : Gl00Src), m + 1 ≤ k → SInv N s → N + 30 * m ≤ 100000000 → xs.length + m ≤ 6 →
    (∀ (i : Nat) (h : i < xs.length), (0 ≤ xs[i].Term ∧ xs[i].Term < 4) ∧ xs[i].Index = i + 1 ∧ xs[i].Data.length ≤ 5) →
    ∃ s' log, f_spec_l00Src_wal_L0 x15 x40 k (m : Int) xs s.code s.at_ s.seed = some (s', { Term := x15.2, Vote := x40.2, Base := 0, BaseTerm := 0, Log := log, Good := 0 }) ∧ log.length ≤ 6 ∧
      (∀ (i : Nat) (h : i < log.length), (0 ≤ log[i].Term ∧ log[i].Term < 4) ∧ log[i].Index = i + 1 ∧ log[i].Data.length ≤ 5) := by
  intro m
  induction m with
  | zero =>
    intro k N xs s hk hs hN hx hr
    obtain ⟨k, rfl⟩ : ∃ j, k = j + 1 := ⟨k - 1, by omega⟩
    rw [f_spec_l00Src_wal_L0, if_neg (by omega)]
    exact ⟨_, _, rfl, by omega, hr⟩
  | succ m ih =>
    intro k N xs s hk hs hN hx hr
    obtain ⟨k, rfl⟩ : ∃ j, k = j + 1 := ⟨k - 1, by omega⟩
    obtain ⟨s1, x1, e1, hs1, hx1, hy1, _⟩ := src_next_m hs (by omega) 4
    obtain ⟨s2, bs, e2, hs2, hb2⟩ := src_bytes_m hs1 (n := 5) (by omega) (by omega) (by omega)
    rw [f_spec_l00Src_wal_L0, if_pos (by omega), chk_pos (by omega)]
    simp only [e1, e2, obind_some]
    rw [chk_pos (by simp; omega), chk_pos (by omega)]
    have e : ((m + 1 : Nat) : Int) - 1 = (m : Int) := by omega
    rw [e]
    refine ih k _ (xs ++ [{ Term := x1, Index := (xs.length : Int) + 1, Data := bs }]) s2 (by omega) (hs2.mono (M := N + 30) (by omega)) (by omega) (by simp; omega) fun i h => ?_
    by_cases hi : i < xs.length
    · rw [List.getElem_append_left hi]; exact hr i hi
    · have hi2 : i = xs.length := by have h' := h; rw [List.length_append, List.length_singleton] at h'; omega
      subst hi2
      rw [List.getElem_append_right (by omega)]
      simp only [Nat.sub_self, List.getElem_cons_zero]
      exact ⟨⟨hx1, hy1 (by omega)⟩, by first | rfl | trivial, by omega⟩
theorem walsOf_m {xs : List UInt8} (h : xs.length ≤ 1000000000) : ∃ w, f_spec_WalsOf xs = some w ∧ WGen w := by
  obtain ⟨s, e, hs⟩ := source_m h
  unfold f_spec_WalsOf f_spec_l00Src_wal
  rw [e]
  simp only [obind_some]
  obtain ⟨s1, x1, e1, hs1, hx1, hy1, _⟩ := src_next_m hs (by omega) 9
  obtain ⟨s2, x2, e2, hs2, hx2, hy2, _⟩ := src_next_m hs1 (by omega) 4
  obtain ⟨x3, e3, hx3, hy3⟩ := src_size_m hs2 (n := 6) (by omega)
  obtain ⟨s4, x4, e4, hs4, hx4, hy4, _⟩ := src_next_m hs2 (by omega) (x3 + 1)
  simp only [e1, e2, e3, e4, obind_some]
  rw [chk_pos (by omega)]
  obtain ⟨m, rfl⟩ := Int.eq_ofNat_of_zero_le hx4
  have hm := hy4 (by omega)
  obtain ⟨s', log, e5, hl, hr⟩ := src_wal_L (s1, x1) (s2, x2) m BIG _ [] s4 (by rw [BIG_eq]; omega) hs4 (by omega) (by simp; omega) (by simp)
  rw [e5]
  exact ⟨_, rfl, hx1, hy1 (by omega), hx2, hy2 (by omega), rfl, rfl, rfl, hl, hr⟩
end Go.Proofs.YtbdebjoagckcpaaAb
