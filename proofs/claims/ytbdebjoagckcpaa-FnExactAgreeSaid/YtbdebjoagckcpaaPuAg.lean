import Derived.Test.YtbdebjoagckcpaaStAg
set_option linter.all false
namespace Go.Proofs.YtbdebjoagckcpaaAb
open Go
def okPeer (c : GCluster) (p : GPeer) : Bool := decide (0 ≤ p.Commit ∧ p.Commit ≤ p.Log.length ∧ p.Commit ≤ c.Chosen.length ∧ p.Log.take p.Commit.toNat = c.Chosen.take p.Commit.toNat)
theorem u8_ieq {a b : UInt8} : ((a.toNat : Int) = (b.toNat : Int)) ↔ a = b := ⟨u8_inj, fun h => by rw [h]⟩
theorem equal_L (xs ys : List UInt8) (h : xs.length = ys.length) (hl : xs.length ≤ 1000000000) : ∀ (m k i : Nat), xs.length - i = m → m + 1 ≤ k → i ≤ xs.length → f_slices_Equal_byte_L0 xs ys k (i : Int) = some (decide (xs.drop i = ys.drop i)) := by
  intro m
  induction m with
  | zero =>
    intro k i hm hk hi
    obtain ⟨k, rfl⟩ : ∃ j, k = j + 1 := ⟨k - 1, by omega⟩
    rw [f_slices_Equal_byte_L0, if_neg (by omega), List.drop_of_length_le (by omega), List.drop_of_length_le (by omega)]
    simp
  | succ m ih =>
    intro k i hm hk hi
    obtain ⟨k, rfl⟩ : ∃ j, k = j + 1 := ⟨k - 1, by omega⟩
    have h1 : i < xs.length := by omega
    have h2 : i < ys.length := by omega
    have e : ((i : Int) + 1) = ((i + 1 : Nat) : Int) := by omega
    rw [f_slices_Equal_byte_L0, if_pos (by omega), idx_nat h1, obind_some, idx_nat h2, obind_some, List.drop_eq_getElem_cons h1, List.drop_eq_getElem_cons h2]
    by_cases hc : xs[i] = ys[i]
    · rw [if_pos (u8_ieq.2 hc), chk_pos (by omega), e, ih k (i + 1) (by omega) (by omega) (by omega)]
      congr 1
      simp only [hc, List.cons.injEq, true_and]
    · rw [if_neg (fun h => hc (u8_ieq.1 h))]
      simp only [List.cons.injEq, hc, false_and, decide_false]
theorem equal_m {xs ys : List UInt8} (hl : xs.length ≤ 1000000000) : f_slices_Equal_byte xs ys = some (decide (xs = ys)) := by
  unfold f_slices_Equal_byte
  by_cases h : xs.length = ys.length
  · rw [if_pos (by omega)]
    exact equal_L xs ys h hl xs.length BIG 0 (by omega) (by rw [BIG_eq]; omega) (by omega)
  · rw [if_neg (by omega)]
    have : xs ≠ ys := fun e => h (by rw [e])
    simp [this]
theorem sameRec_m {r s : GRec} (hl : r.Data.length ≤ 1000000000) : f_impl_sameRec r s = some (decide (r = s)) := by
  obtain ⟨t, i, d⟩ := r
  obtain ⟨t', i', d'⟩ := s
  simp only at hl
  unfold f_impl_sameRec
  simp only [equal_m hl, obind_some, GRec.mk.injEq]
  by_cases h1 : t = t' <;> by_cases h2 : i = i' <;> simp [h1, h2]
theorem same_m (r s : GRec) : f_spec_l10Same r s = some (decide (r = s)) := by
  obtain ⟨t, i, d⟩ := r
  obtain ⟨t', i', d'⟩ := s
  unfold f_spec_l10Same
  simp only [GRec.mk.injEq]
  by_cases h1 : t = t' <;> by_cases h2 : i = i' <;> simp [h1, h2]
theorem equalF_L (xs ys : List GRec) (h : xs.length = ys.length) (hl : xs.length ≤ 1000000000) (hd : ∀ r ∈ xs, r.Data.length ≤ 1000000000) : ∀ (m k i : Nat), xs.length - i = m → m + 1 ≤ k → i ≤ xs.length → f_slices_EqualFunc_implRec_f612_L0 xs ys k (i : Int) = some (decide (xs.drop i = ys.drop i)) := by
  intro m
  induction m with
  | zero =>
    intro k i hm hk hi
    obtain ⟨k, rfl⟩ : ∃ j, k = j + 1 := ⟨k - 1, by omega⟩
    rw [f_slices_EqualFunc_implRec_f612_L0, if_neg (by omega), List.drop_of_length_le (by omega), List.drop_of_length_le (by omega)]
    simp
  | succ m ih =>
    intro k i hm hk hi
    obtain ⟨k, rfl⟩ : ∃ j, k = j + 1 := ⟨k - 1, by omega⟩
    have h1 : i < xs.length := by omega
    have h2 : i < ys.length := by omega
    have e : ((i : Int) + 1) = ((i + 1 : Nat) : Int) := by omega
    rw [f_slices_EqualFunc_implRec_f612_L0, if_pos (by omega), idx_nat h1, obind_some, idx_nat h2, obind_some, List.drop_eq_getElem_cons h1, List.drop_eq_getElem_cons h2, sameRec_m (hd _ (List.getElem_mem h1)), obind_some]
    by_cases hc : xs[i] = ys[i]
    · rw [decide_eq_true hc, if_neg (by simp), chk_pos (by omega), e, ih k (i + 1) (by omega) (by omega) (by omega)]
      congr 1
      simp only [hc, List.cons.injEq, true_and]
    · rw [decide_eq_false hc, if_pos (by rfl)]
      simp only [List.cons.injEq, hc, false_and, decide_false]
theorem equalF_m {xs ys : List GRec} (hl : xs.length ≤ 1000000000) (hd : ∀ r ∈ xs, r.Data.length ≤ 1000000000) : f_slices_EqualFunc_implRec_f612 xs ys = some (decide (xs = ys)) := by
  unfold f_slices_EqualFunc_implRec_f612
  by_cases h : xs.length = ys.length
  · rw [if_pos (by omega)]
    exact equalF_L xs ys h hl hd xs.length BIG 0 (by omega) (by rw [BIG_eq]; omega) (by omega)
  · rw [if_neg (by omega)]
    have : xs ≠ ys := fun e => h (by rw [e])
    simp [this]
theorem within_m (x l h : Int) : f_impl_within x l h = some (decide (l ≤ x ∧ x ≤ h)) := by
  unfold f_impl_within
  by_cases h1 : l ≤ x
  · rw [if_pos h1]; simp [h1]
  · rw [if_neg h1]; simp [h1]
theorem agree_i (c : GCluster) (hb : Bd.bd BS20 c) : ∀ (m k i : Nat), c.Peers.length - i = m → m + 1 ≤ k → i ≤ c.Peers.length → f_impl_Agree_L0 c k (i : Int) = some ((c.Peers.drop i).all (okPeer c) && !c.Conflict) := by
  obtain ⟨hp, _, hch⟩ := hb
  have hpl := hp.1
  unfold BS20 at hpl
  intro m
  induction m with
  | zero =>
    intro k i hm hk hi
    obtain ⟨k, rfl⟩ : ∃ j, k = j + 1 := ⟨k - 1, by omega⟩
    rw [f_impl_Agree_L0, if_neg (by omega), List.drop_of_length_le (by omega)]
    simp
  | succ m ih =>
    intro k i hm hk hi
    obtain ⟨k, rfl⟩ : ∃ j, k = j + 1 := ⟨k - 1, by omega⟩
    have h1 : i < c.Peers.length := by omega
    have e : ((i : Int) + 1) = ((i + 1 : Nat) : Int) := by omega
    have hlog := (hp.2 _ (List.getElem_mem h1)).1
    have hll := hlog.1
    unfold BS20 at hll
    rw [f_impl_Agree_L0, if_pos (by omega), idx_nat h1, obind_some, within_m, obind_some, List.drop_eq_getElem_cons h1, List.all_cons]
    generalize c.Peers[i] = p at *
    by_cases hw : 0 ≤ p.Commit ∧ p.Commit ≤ (if (c.Chosen.length : Int) < (p.Log.length : Int) then (c.Chosen.length : Int) else (p.Log.length : Int))
    · have hw2 : p.Commit ≤ p.Log.length ∧ p.Commit ≤ c.Chosen.length := by have := hw.2; split at this <;> omega
      rw [decide_eq_true hw, if_neg (by simp), slc_head hw.1 hw2.1, obind_some, slc_head hw.1 hw2.2, obind_some, equalF_m (by rw [List.length_take]; omega) (fun r hr => by have := (hlog.2 r (List.mem_of_mem_take hr)).1; unfold BS20 at this; omega), obind_some]
      unfold f_impl_Agree_J1
      by_cases hq : p.Log.take p.Commit.toNat = c.Chosen.take p.Commit.toNat
      · have hok : okPeer c p = true := decide_eq_true ⟨hw.1, hw2.1, hw2.2, hq⟩
        rw [decide_eq_true hq, if_neg (by simp), chk_pos (by omega), e, ih k (i + 1) (by omega) (by omega) (by omega), hok]
        simp
      · have hok : okPeer c p = false := decide_eq_false fun h => hq h.2.2.2
        rw [decide_eq_false hq, if_pos (by rfl), hok]
        simp
    · have hok : okPeer c p = false := decide_eq_false fun h => hw ⟨h.1, by split <;> omega⟩
      rw [decide_eq_false hw, if_pos (by rfl), hok]
      unfold f_impl_Agree_J1
      rw [if_pos rfl]
      simp
theorem agree_impl {c : GCluster} (hb : Bd.bd BS20 c) : f_impl_Agree c = some (c.Peers.all (okPeer c) && !c.Conflict) := by
  have hpl := hb.1.1
  unfold BS20 at hpl
  have := agree_i c hb c.Peers.length BIG 0 (by omega) (by rw [BIG_eq]; omega) (by omega)
  rw [List.drop_zero] at this
  exact this
theorem agree_s2 (c : GCluster) (p : GPeer) (i : Nat) (rc : Int → Option Bool) (hi : i < 1000000000) (h1 : p.Commit ≤ p.Log.length) (h2 : p.Commit ≤ c.Chosen.length) (hl : p.Log.length ≤ 1000000000) : ∀ (m k j : Nat), p.Commit.toNat - j = m → m + 1 ≤ k → j ≤ p.Commit.toNat →
    f_spec_Agree_L2 p c (i : Int) rc k (j : Int) = if (p.Log.take p.Commit.toNat).drop j = (c.Chosen.take p.Commit.toNat).drop j then rc ((i + 1 : Nat) : Int) else some false := by
  intro m
  induction m with
  | zero =>
    intro k j hm hk hj
    obtain ⟨k, rfl⟩ : ∃ q, k = q + 1 := ⟨k - 1, by omega⟩
    rw [f_spec_Agree_L2, if_neg (by omega), chk_pos (by omega), List.drop_of_length_le (by rw [List.length_take]; omega), List.drop_of_length_le (by rw [List.length_take]; omega), if_pos rfl]
    rfl
  | succ m ih =>
    intro k j hm hk hj
    obtain ⟨k, rfl⟩ : ∃ q, k = q + 1 := ⟨k - 1, by omega⟩
    have g1 : j < p.Log.length := by omega
    have g2 : j < c.Chosen.length := by omega
    have e : ((j : Int) + 1) = ((j + 1 : Nat) : Int) := by omega
    have q1 : j < (p.Log.take p.Commit.toNat).length := by rw [List.length_take]; omega
    have q2 : j < (c.Chosen.take p.Commit.toNat).length := by rw [List.length_take]; omega
    rw [f_spec_Agree_L2, if_pos (by omega), idx_nat g1, obind_some, idx_nat g2, obind_some, same_m, obind_some, List.drop_eq_getElem_cons q1, List.drop_eq_getElem_cons q2, List.getElem_take, List.getElem_take]
    by_cases hc : p.Log[j] = c.Chosen[j]
    · rw [decide_eq_true hc, if_neg (by simp), chk_pos (by omega), e, ih k (j + 1) (by omega) (by omega) (by omega)]
      simp only [hc, List.cons.injEq, true_and]
    · rw [decide_eq_false hc, if_pos (by rfl), if_neg (fun h => hc (List.cons.inj h).1)]
theorem agree_s (c : GCluster) (hb : Bd.bd BS20 c) : ∀ (m k i : Nat), c.Peers.length - i = m → m + 1 ≤ k → i ≤ c.Peers.length → f_spec_Agree_L0 c k (i : Int) = some ((c.Peers.drop i).all (okPeer c)) := by
  obtain ⟨hp, _, hch⟩ := hb
  have hpl := hp.1
  unfold BS20 at hpl
  intro m
  induction m with
  | zero =>
    intro k i hm hk hi
    obtain ⟨k, rfl⟩ : ∃ j, k = j + 1 := ⟨k - 1, by omega⟩
    rw [f_spec_Agree_L0, if_neg (by omega), List.drop_of_length_le (by omega)]
    simp
  | succ m ih =>
    intro k i hm hk hi
    obtain ⟨k, rfl⟩ : ∃ j, k = j + 1 := ⟨k - 1, by omega⟩
    have h1 : i < c.Peers.length := by omega
    have hlog := (hp.2 _ (List.getElem_mem h1)).1
    have hll := hlog.1
    unfold BS20 at hll
    rw [f_spec_Agree_L0, if_pos (by omega), idx_nat h1, obind_some, List.drop_eq_getElem_cons h1, List.all_cons]
    generalize c.Peers[i] = p at *
    unfold f_spec_Agree_J1
    by_cases g1 : p.Commit < 0
    · have hok : okPeer c p = false := decide_eq_false fun h => by omega
      rw [if_pos g1, if_pos rfl, hok]; simp
    rw [if_neg g1]
    by_cases g2 : (p.Log.length : Int) < p.Commit
    · have hok : okPeer c p = false := decide_eq_false fun h => by omega
      rw [if_pos g2, if_pos rfl, hok]; simp
    rw [if_neg g2]
    by_cases g3 : (c.Chosen.length : Int) < p.Commit
    · have hok : okPeer c p = false := decide_eq_false fun h => by omega
      rw [if_pos (decide_eq_true g3), hok]; simp
    have hn : ¬ (decide ((c.Chosen.length : Int) < p.Commit) = true) := by simpa using g3
    rw [if_neg hn]
    have := agree_s2 c p i (f_spec_Agree_L0 c k) (by omega) (by omega) (by omega) (by omega) p.Commit.toNat BIG 0 (by omega) (by rw [BIG_eq]; omega) (by omega)
    refine this.trans ?_
    rw [List.drop_zero, List.drop_zero]
    by_cases hq : p.Log.take p.Commit.toNat = c.Chosen.take p.Commit.toNat
    · have hok : okPeer c p = true := decide_eq_true ⟨by omega, by omega, by omega, hq⟩
      rw [if_pos hq, ih k (i + 1) (by omega) (by omega) (by omega), hok]; simp
    · have hok : okPeer c p = false := decide_eq_false fun h => hq h.2.2.2
      rw [if_neg hq, hok]; simp
theorem agree_spec {c : GCluster} (hb : Bd.bd BS20 c) : f_spec_Agree c = some (c.Peers.all (okPeer c) && !c.Conflict) := by
  have hpl := hb.1.1
  unfold BS20 at hpl
  unfold f_spec_Agree
  have := agree_s c hb c.Peers.length BIG 0 (by omega) (by rw [BIG_eq]; omega) (by omega)
  rw [List.drop_zero] at this
  rw [show f_spec_Agree_L0 c BIG 0 = some (c.Peers.all (okPeer c)) from this]
  cases c.Conflict <;> simp
theorem FnExactAgree_m (c : GCluster) (hb : Bd.bd BU c) : f_laws_FnExactAgree c = some true := by
  unfold f_laws_FnExactAgree
  obtain ⟨r, e, hr, hsm⟩ := sz_Cluster c 1048576 hb (by omega) (by omega)
  have ec : ({ Peers := c.Peers, Net := c.Net, Chosen := c.Chosen, Conflict := c.Conflict } : GCluster) = c := rfl
  rw [ec, e, obind_some]
  by_cases h : r < 0
  · rw [if_pos h]
  rw [if_neg h]
  have hs := hsm (by omega)
  rw [to_Cluster c hs, obind_some, agree_spec hs, obind_some, obind_some, agree_impl hs, obind_some, if_neg (by simp), obind_some, eq_Cluster c hs, obind_some]
  rfl
end Go.Proofs.YtbdebjoagckcpaaAb
