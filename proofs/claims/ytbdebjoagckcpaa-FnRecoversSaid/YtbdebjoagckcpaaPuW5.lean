import Derived.Test.YtbdebjoagckcpaaPuW4
set_option linter.all false
namespace Go.Proofs.YtbdebjoagckcpaaAb
open Go
theorem takeN_good (w : GWal) (c a b : Int) (q : List UInt8) (g : Int) : takeN { w with Good := g } c a b q = (takeN w c a b q).map (fun w => { w with Good := g }) := by
  unfold takeN
  simp only [apply_ite (Option.map (fun w : GWal => { w with Good := g })), Option.map_none, Option.map_some]
theorem takeM_good (w : GWal) (p : List UInt8) (g : Int) : takeM { w with Good := g } p = (takeM w p).map (fun w => { w with Good := g }) := by
  cases p with
  | nil => rfl
  | cons c p =>
    unfold takeM
    simp only [apply_ite (Option.map (fun w : GWal => { w with Good := g })), Option.map_none, takeN_good]
theorem readFr_spec {b : List UInt8} (h0 : (readFr b).2.2 = 0) (h1 : (readFr b).2.1 ≠ 0) : ∃ (q : List UInt8) (n : Nat), readFr b = (q, (n : Int), 0) ∧ 0 < n ∧ n ≤ b.length ∧ q.length ≤ b.length := by
  unfold readFr at h0 h1 ⊢
  simp only at h0 h1 ⊢
  by_cases g1 : (readNum b).2 < 0
  · rw [if_pos g1] at h1; simp at h1
  rw [if_neg g1] at h0 h1 ⊢
  by_cases g2 : (readNum b).2 = 0
  · rw [if_pos g2] at h1; simp at h1
  rw [if_neg g2] at h0 h1 ⊢
  by_cases g3 : 4096 < (readNum b).1
  · rw [if_pos g3] at h1; simp at h1
  rw [if_neg g3] at h0 h1 ⊢
  by_cases g4 : (b.length : Int) < (readNum b).2 + (readNum b).1 + 4
  · rw [if_pos g4] at h1; simp at h1
  rw [if_neg g4] at h0 h1 ⊢
  obtain ⟨m, s, e, hs, hsl, hs9, hm⟩ := readNum_spec (bs := b) (by omega)
  rw [e] at h0 h1 g4 ⊢
  simp only [Int.toNat_natCast] at h0 h1 g4 ⊢
  split at h0
  · rename_i g5
    rw [if_pos g5]
    exact ⟨(b.take (s + m)).drop s, s + m + 4, Prod.ext rfl (Prod.ext (by simp) rfl), by omega, by omega, by simp only [List.length_drop, List.length_take]; omega⟩
  · simp at h0
def stop (b : List UInt8) : Prop := (readFr b).2.2 ≠ 0 ∨ (readFr b).2.1 = 0
instance (b : List UInt8) : Decidable (stop b) := by unfold stop; infer_instance
theorem readFr_go {b : List UInt8} (h : ¬ stop b) : ∃ (q : List UInt8) (n : Nat), readFr b = (q, (n : Int), 0) ∧ 0 < n ∧ n ≤ b.length ∧ q.length ≤ b.length := by
  unfold stop at h
  exact readFr_spec (by omega) (by omega)
theorem stop_nil : stop [] := by unfold stop; right; rfl
theorem part_eq (b : List UInt8) (p s m : Nat) : ((b.drop p).take (s + m)).drop s = (b.take (p + s + m)).drop (p + s) := by
  rw [List.drop_take, List.drop_take, List.drop_drop]
  congr 1
  omega
theorem next_read (b : List UInt8) (p : Nat) (hp : p ≤ b.length) : (¬ stop (b.drop p) → nextFr b p = ((readFr (b.drop p)).1, (p : Int) + (readFr (b.drop p)).2.1, 0)) ∧ (stop (b.drop p) → (nextFr b p).2.2 ≠ 0) := by
  unfold stop nextFr readFr
  simp only
  by_cases g1 : (readNum (b.drop p)).2 < 0
  · rw [if_pos g1, if_pos g1]; simp
  rw [if_neg g1, if_neg g1]
  by_cases g2 : (readNum (b.drop p)).2 = 0
  · rw [if_pos g2, if_pos g2]; simp
  rw [if_neg g2, if_neg g2]
  by_cases g3 : 4096 < (readNum (b.drop p)).1
  · rw [if_pos g3, if_pos g3]; simp
  rw [if_neg g3, if_neg g3]
  obtain ⟨m, s, e, hs, hsl, hs9, hm⟩ := readNum_spec (bs := b.drop p) (by omega)
  rw [List.length_drop] at hsl
  rw [e]
  simp only [Int.toNat_natCast, List.length_drop]
  by_cases g4 : ((b.length - p : Nat) : Int) < (s : Int) + m + 4
  · rw [if_pos g4, if_pos (by omega)]; simp
  rw [if_neg g4, if_neg (c := (b.length : Int) < (p : Int) + s + m + 4) (by omega), part_eq b p s m]
  have e4 : ((b.drop p).take (s + m + 4)).drop (s + m) = (b.take (p + s + m + 4)).drop (p + s + m) := by
    have := part_eq b p (s + m) 4
    rw [← Nat.add_assoc] at this
    exact this
  rw [e4]
  by_cases g5 : (b.take (p + s + m + 4)).drop (p + s + m) = fourOf (crcOf ((b.take (p + s + m)).drop (p + s)))
  · rw [if_pos g5, if_pos g5]
    refine ⟨fun _ => ?_, fun h => ?_⟩
    · simp only; congr 2; omega
    · simp only at h; omega
  · rw [if_neg g5, if_neg g5]; simp
def recM : Nat → GWal → List UInt8 → GWal
  | 0, w, _ => w
  | k + 1, w, b => if stop b then w else match takeM w (readFr b).1 with
    | none => w
    | some w' => recM k { w' with Good := w'.Good + (readFr b).2.1 } (b.drop (readFr b).2.1.toNat)
theorem rec_L (xs : List UInt8) (hl : xs.length ≤ 1000000) : ∀ (m k g : Nat) (w : GWal), xs.length - g ≤ m → m + 1 ≤ k → WInv w → w.Good = (g : Int) → g ≤ xs.length → f_impl_Recover_L0 xs k w.Term w.Vote w.Base w.BaseTerm w.Log w.Good = some (recM m w (xs.drop g), 0) := by
  intro m
  induction m with
  | zero =>
    intro k g w hm hk hw hg hgl
    obtain ⟨k, rfl⟩ : ∃ j, k = j + 1 := ⟨k - 1, by omega⟩
    have hn : xs.drop g = [] := List.drop_of_length_le (by omega)
    rw [f_impl_Recover_L0, slc_tail (by omega) (by omega), obind_some, hg, Int.toNat_natCast, hn, readFrame_m (by simp), obind_some]
    have e : readFr [] = ([], 0, 0) := rfl
    rw [e, if_pos rfl, if_pos rfl]
    unfold f_impl_Recover_J1
    rw [if_pos rfl, ← hg]; rfl
  | succ m ih =>
    intro k g w hm hk hw hg hgl
    obtain ⟨k, rfl⟩ : ∃ j, k = j + 1 := ⟨k - 1, by omega⟩
    have hdl : (xs.drop g).length = xs.length - g := List.length_drop
    rw [f_impl_Recover_L0, slc_tail (by omega) (by omega), obind_some, hg, Int.toNat_natCast, readFrame_m (by omega), obind_some]
    unfold recM
    by_cases hs : stop (xs.drop g)
    · rw [if_pos hs]
      have hst : ∀ rc, f_impl_Recover_J1 (readFr (xs.drop g)) rc true w.Term w.Vote w.Base w.BaseTerm w.Log (g : Int) = some (w, 0) := by
        intro rc
        unfold f_impl_Recover_J1
        rw [if_pos rfl, ← hg]
      rcases hs with h | h
      · rw [if_neg h, hst]
      · by_cases h' : (readFr (xs.drop g)).2.2 = 0
        · rw [if_pos h', if_pos h, hst]
        · rw [if_neg h', hst]
    · obtain ⟨q, n, e, hn0, hnl, hql⟩ := readFr_go hs
      rw [if_neg hs, e]
      simp only [Int.toNat_natCast]
      rw [if_pos trivial, if_neg (by omega)]
      have ew : ({ Term := w.Term, Vote := w.Vote, Base := w.Base, BaseTerm := w.BaseTerm, Log := w.Log, Good := (g : Int) } : GWal) = w := by rw [← hg]
      rw [ew, take_m hw (by omega), obind_some]
      cases ht : takeM w q with
      | none =>
        unfold f_impl_Recover_J1 tk
        simp only [Bool.not_false]
        rw [if_pos trivial]
      | some w' =>
        obtain ⟨hw', hg'⟩ := takeM_inv hw ht
        unfold f_impl_Recover_J1 tk
        simp only [Bool.not_true]
        rw [if_neg (by simp), chk_pos (by omega), hg', hg]
        have := ih k (g + n) { w' with Good := (g : Int) + n } (by omega) (by omega) ⟨hw'.term, hw'.base, hw'.bterm, hw'.log, hw'.terms⟩ (by simp) (by omega)
        rw [List.drop_drop]
        exact this
def w0 : GWal := { Term := 0, Vote := 0, Base := 0, BaseTerm := 0, Log := [], Good := 0 }
theorem w0_inv : WInv w0 := ⟨⟨by decide, by decide⟩, ⟨by decide, by decide⟩, ⟨by decide, by decide⟩, by decide, fun r hr => by simp [w0] at hr⟩
theorem recover_m {xs : List UInt8} (hl : xs.length ≤ 65536) : f_impl_Recover xs = some (recM xs.length w0 xs, 0) := by
  unfold f_impl_Recover f_impl_longBytes f_impl_unless
  rw [if_pos (decide_eq_true (by omega)), obind_some, obind_some, if_pos rfl]
  exact rec_L xs (by omega) xs.length BIG 0 w0 (by omega) (by rw [BIG_eq]; omega) w0_inv rfl (by omega)
theorem srec_L (xs : List UInt8) (hl : xs.length ≤ 1000000) : ∀ (m k g : Nat) (w : GWal), xs.length - g ≤ m → m + 1 ≤ k → WInv w → w.Good = (g : Int) → g ≤ xs.length → f_spec_l03Recover_L1 xs k (g : Int) w.Term w.Vote w.Base w.BaseTerm w.Log 0 = some (recM m w (xs.drop g)) := by
  intro m
  have hst : ∀ (w : GWal) (g : Nat), w.Good = (g : Int) → f_spec_l03Recover_J0 (g : Int) w.Term w.Vote w.Base w.BaseTerm w.Log 0 = some w := by
    intro w g hg
    unfold f_spec_l03Recover_J0
    rw [← hg]
  induction m with
  | zero =>
    intro k g w hm hk hw hg hgl
    obtain ⟨k, rfl⟩ : ∃ j, k = j + 1 := ⟨k - 1, by omega⟩
    rw [f_spec_l03Recover_L1, if_neg (by omega), hst w g hg]; rfl
  | succ m ih =>
    intro k g w hm hk hw hg hgl
    obtain ⟨k, rfl⟩ : ∃ j, k = j + 1 := ⟨k - 1, by omega⟩
    have hdl : (xs.drop g).length = xs.length - g := List.length_drop
    obtain ⟨hn1, hn2⟩ := next_read xs g hgl
    rw [f_spec_l03Recover_L1]
    unfold recM
    by_cases hlt : g < xs.length
    · rw [if_pos (by omega), next_m (by omega) hgl, obind_some]
      by_cases hs : stop (xs.drop g)
      · rw [if_pos hs, if_neg (hn2 hs), hst w g hg]
      · obtain ⟨q, n, e, hn0, hnl, hql⟩ := readFr_go hs
        rw [if_neg hs, hn1 hs, e]
        simp only [Int.toNat_natCast]
        have hw0 : WInv { w with Good := 0 } := ⟨hw.term, hw.base, hw.bterm, hw.log, hw.terms⟩
        rw [if_pos trivial, stake_m hw0 (by omega), obind_some, takeM_good]
        cases ht : takeM w q with
        | none =>
          simp only [Option.map_none, tk, Bool.not_false]
          rw [if_pos trivial, hst w g hg]
        | some w' =>
          obtain ⟨hw', hg'⟩ := takeM_inv hw ht
          simp only [Option.map_some, tk, Bool.not_true]
          rw [if_neg (by simp), hg', hg]
          have := ih k (g + n) { w' with Good := (g : Int) + n } (by omega) (by omega) ⟨hw'.term, hw'.base, hw'.bterm, hw'.log, hw'.terms⟩ (by simp) (by omega)
          rw [List.drop_drop]
          rw [← this]; simp
    · have hn : xs.drop g = [] := List.drop_of_length_le (by omega)
      rw [if_neg (by omega), hst w g hg, hn, if_pos stop_nil]
theorem srecover_m {xs : List UInt8} (hl : xs.length ≤ 65536) : f_spec_Recover xs = some (recM xs.length w0 xs, 0) := by
  unfold f_spec_Recover
  rw [if_neg (by omega)]
  have := srec_L xs (by omega) xs.length BIG 0 w0 (by omega) (by rw [BIG_eq]; omega) w0_inv rfl (by omega)
  rw [show f_spec_l03Recover xs = some (recM xs.length w0 xs) from this]; rfl
end Go.Proofs.YtbdebjoagckcpaaAb
