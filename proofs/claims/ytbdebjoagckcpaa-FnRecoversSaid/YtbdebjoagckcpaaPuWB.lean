import Derived.Test.YtbdebjoagckcpaaPuWA
set_option linter.all false
namespace Go.Proofs.YtbdebjoagckcpaaAb
open Go
theorem framesOf_append (a b : List (List UInt8)) : framesOf (a ++ b) = framesOf a ++ framesOf b := by simp [framesOf]
theorem framesOf_le : ∀ (ps : List (List UInt8)), (∀ p ∈ ps, p.length ≤ 100) → (framesOf ps).length ≤ 113 * ps.length
  | [], _ => by simp [framesOf]
  | p :: ps, h => by
    rw [framesOf_cons, List.length_append, List.length_cons]
    have h1 := framesOf_le ps fun q hq => h q (List.mem_cons_of_mem _ hq)
    have h2 := h p (List.mem_cons_self ..)
    have h3 := frameOf_len (p := p) (by omega)
    omega
theorem join_L (xs : List (List UInt8)) (hx : xs.length ≤ 1000000) : ∀ (m k i : Nat) (acc : List UInt8), xs.length - i = m → m + 1 ≤ k → i ≤ xs.length → acc.length + ((xs.drop i).flatten).length ≤ 68719476000 → f_laws_join_L0 xs k acc (i : Int) = some (acc ++ (xs.drop i).flatten) := by
  intro m
  induction m with
  | zero =>
    intro k i acc hm hk hi hl
    obtain ⟨k, rfl⟩ : ∃ j, k = j + 1 := ⟨k - 1, by omega⟩
    rw [f_laws_join_L0, if_neg (by omega), List.drop_of_length_le (by omega)]
    simp
  | succ m ih =>
    intro k i acc hm hk hi hl
    obtain ⟨k, rfl⟩ : ∃ j, k = j + 1 := ⟨k - 1, by omega⟩
    have hlt : i < xs.length := by omega
    rw [List.drop_eq_getElem_cons hlt, List.flatten_cons, List.length_append] at hl
    rw [f_laws_join_L0, if_pos (by omega), idx_nat hlt, obind_some, chk_pos (by omega), chk_pos (by omega)]
    have e : ((i : Int) + 1) = ((i + 1 : Nat) : Int) := by omega
    rw [e, ih k (i + 1) _ (by omega) (by omega) (by omega) (by rw [List.length_append]; omega), List.drop_eq_getElem_cons hlt, List.flatten_cons, List.append_assoc]
theorem join_m {ps : List (List UInt8)} (hl : ps.length ≤ 1000) (hq : ∀ p ∈ ps, p.length ≤ 100) : f_laws_join (ps.map frameOf) = some (framesOf ps) := by
  have hb := framesOf_le ps hq
  unfold f_laws_join
  have := join_L (ps.map frameOf) (by simp; omega) (ps.map frameOf).length BIG 0 [] (by omega) (by rw [BIG_eq]; simp; omega) (by omega) (by rw [List.drop_zero]; show _ + (framesOf ps).length ≤ _; simp; omega)
  rw [List.drop_zero, List.nil_append] at this
  exact this
theorem at_m {xs : List UInt8} (hx : xs.length ≤ 1000000000) {i n : Int} (hi0 : 0 ≤ i) (hi : i ≤ 1000000000) (hn : 1 ≤ n) : ∃ x, f_laws_at xs i n = some x ∧ 0 ≤ x ∧ x < n := by
  unfold f_laws_at
  by_cases h1 : n ≤ 1
  · rw [if_pos h1]; exact ⟨_, rfl, by omega, by omega⟩
  rw [if_neg h1]
  by_cases h2 : (xs.length : Int) = 0
  · rw [if_pos h2, chk_pos (by omega), chk_pos (by omega)]
    exact ⟨_, rfl, Int.emod_nonneg _ (by omega), Int.emod_lt_of_pos _ (by omega)⟩
  · have hl : (0 : Int) < xs.length := by omega
    have m1 := Int.emod_nonneg i (b := (xs.length : Int)) (by omega)
    have m2 := Int.emod_lt_of_pos i hl
    have m3 := Int.emod_nonneg (i + 1) (b := (xs.length : Int)) (by omega)
    have m4 := Int.emod_lt_of_pos (i + 1) hl
    have d1 : 0 ≤ i / (xs.length : Int) := Int.ediv_nonneg hi0 (by omega)
    have d2 : i / (xs.length : Int) ≤ i := Int.ediv_le_self _ hi0
    obtain ⟨a, _, ea⟩ := idx_opt (xs := xs) m1 m2
    obtain ⟨b, _, eb⟩ := idx_opt (xs := xs) m3 m4
    have ba := u8_lt a
    have bb := u8_lt b
    rw [if_neg h2, chk_pos (by omega), ea]
    simp only [obind_some]
    rw [chk_pos (by omega), chk_pos (by omega), chk_pos (by omega), eb]
    simp only [obind_some]
    rw [chk_pos (by omega), chk_pos (by omega), chk_pos (by omega), chk_pos (by omega)]
    exact ⟨_, rfl, Int.emod_nonneg _ (by omega), Int.emod_lt_of_pos _ (by omega)⟩
theorem recovers_end {ps : List (List UInt8)} (hl : ps.length ≤ 13) (hq : ∀ p ∈ ps, p.length ≤ 100) {p : Int} (hp0 : 0 ≤ p) (hp : p ≤ (framesOf ps).length) {i : Nat} (hi : i ≤ ps.length) (hw : ((framesOf (ps.take i)).length : Int) ≤ p)
    (he : ∀ h : i < ps.length, p < (framesOf (ps.take i)).length + (frameOf ps[i]).length) (rc : Int → List UInt8 → Option Bool) (j : Int) : f_laws_FnRecovers_J2 (ps.map frameOf) j (framesOf (ps.take i)) rc (framesOf ps) p false = some true := by
  have hb := framesOf_le ps hq
  have hq' : ∀ p ∈ ps.take i, p.length ≤ 4096 := fun q h => by have := hq q (List.mem_of_mem_take h); omega
  have hsplit : framesOf ps = framesOf (ps.take i) ++ framesOf (ps.drop i) := by rw [← framesOf_append, List.take_append_drop]
  obtain ⟨part, hpart, htake⟩ : ∃ part, stop part ∧ (framesOf ps).take p.toNat = framesOf (ps.take i) ++ part := by
    refine ⟨(framesOf (ps.drop i)).take (p.toNat - (framesOf (ps.take i)).length), ?_, ?_⟩
    · by_cases h : i < ps.length
      · have h2 := he h
        rw [List.drop_eq_getElem_cons h, framesOf_cons, List.take_append_of_le_length (by omega)]
        exact stop_part (by have := hq _ (List.getElem_mem h); omega) (by omega)
      · rw [List.drop_of_length_le (by omega)]
        show stop (List.take _ [])
        rw [List.take_nil]
        exact stop_nil
    · conv => lhs; rw [hsplit]
      rw [List.take_append, List.take_of_length_le (by omega)]
  have hlen : (framesOf (ps.take i) ++ part).length ≤ 65536 := by rw [← htake, List.length_take]; omega
  have r1 := recover_frames hq' hpart hlen
  have r2 := recover_frames (part := []) hq' stop_nil (by rw [List.append_nil]; rw [List.length_append] at hlen; omega)
  rw [List.append_nil] at r2
  have r3 : f_spec_Recover (framesOf (ps.take i) ++ part) = some (recF (ps.take i) w0, 0) := by
    rw [srecover_m hlen, rec_frames _ _ w0 part hq' hpart (by rw [List.length_append]; omega)]
  obtain ⟨n, hn, hg1, hg2⟩ := recF_good (ps.take i) w0 w0_inv
  have hinv : WInv (recF (ps.take i) w0) := by
    have := recM_inv (framesOf (ps.take i)).length w0 (framesOf (ps.take i) ++ part) w0_inv
    rw [rec_frames _ _ w0 part hq' hpart (by omega)] at this
    exact this
  have hlog := hinv.log
  unfold f_laws_FnRecovers_J2
  rw [if_neg (by simp), slc_head hp0 hp]
  simp only [obind_some]
  rw [htake, r1, r2, r3]
  simp only [obind_some]
  rw [if_pos trivial, if_pos trivial, sameWal_m (w := recF (ps.take i) w0) (v := recF (ps.take i) w0) rfl rfl rfl rfl rfl (by omega)]
  simp only [obind_some]
  rw [if_neg (by simp), if_pos trivial, if_neg (by simp), if_pos trivial]
  have hw0g : w0.Good = 0 := rfl
  have hsp2 : framesOf (ps.take i) = framesOf ((ps.take i).take n) ++ framesOf ((ps.take i).drop n) := by rw [← framesOf_append, List.take_append_drop]
  have hgl : (framesOf ((ps.take i).take n)).length ≤ (framesOf (ps.take i)).length := by rw [hsp2, List.length_append]; omega
  unfold f_laws_FnRecovers_J3
  rw [if_neg (bd_f (by omega))]
  simp only
  rw [slc_head (by omega) (by omega), obind_some]
  have htg : (framesOf ps).take (recF (ps.take i) w0).Good.toNat = framesOf ((ps.take i).take n) := by
    have e : (recF (ps.take i) w0).Good.toNat = (framesOf ((ps.take i).take n)).length := by omega
    rw [e, hsplit, hsp2, List.append_assoc, List.take_left]
  have r4 := recover_frames (ps := (ps.take i).take n) (part := []) (fun q h => hq' q (List.mem_of_mem_take h)) stop_nil (by rw [List.append_nil]; rw [List.length_append] at hlen; omega)
  rw [List.append_nil, hg1] at r4
  rw [htg, r4]
  simp only [obind_some]
  rw [if_pos trivial, sameWal_m (w := recF (ps.take i) w0) (v := recF (ps.take i) w0) rfl rfl rfl rfl rfl (by omega)]
  simp
theorem recovers_L {ps : List (List UInt8)} (hl : ps.length ≤ 13) (hq : ∀ p ∈ ps, p.length ≤ 100) {p : Int} (hp0 : 0 ≤ p) (hp : p ≤ (framesOf ps).length) : ∀ (m k i : Nat), ps.length - i = m → m + 1 ≤ k → i ≤ ps.length → ((framesOf (ps.take i)).length : Int) ≤ p →
    f_laws_FnRecovers_L1 (ps.map frameOf) (framesOf ps) p k (i : Int) (framesOf (ps.take i)) = some true := by
  have hb := framesOf_le ps hq
  intro m
  induction m with
  | zero =>
    intro k i hm hk hi hw
    obtain ⟨k, rfl⟩ : ∃ j, k = j + 1 := ⟨k - 1, by omega⟩
    rw [f_laws_FnRecovers_L1, if_neg (by rw [List.length_map]; omega)]
    exact recovers_end hl hq hp0 hp hi hw (fun h => by omega) _ _
  | succ m ih =>
    intro k i hm hk hi hw
    obtain ⟨k, rfl⟩ : ∃ j, k = j + 1 := ⟨k - 1, by omega⟩
    have hlt : i < ps.length := by omega
    have hq1 := hq _ (List.getElem_mem hlt)
    have hfl := frameOf_len (p := ps[i]) (by omega)
    have hg : (ps.map frameOf)[i]'(by rw [List.length_map]; omega) = frameOf ps[i] := by rw [List.getElem_map]
    rw [f_laws_FnRecovers_L1, if_pos (by rw [List.length_map]; omega), idx_nat (by rw [List.length_map]; omega), obind_some, hg, chk_pos (by omega)]
    by_cases hc : ((framesOf (ps.take i)).length : Int) + ((frameOf ps[i]).length : Int) ≤ p
    · rw [decide_eq_true hc]
      unfold f_laws_FnRecovers_J2
      have et : framesOf (ps.take (i + 1)) = framesOf (ps.take i) ++ frameOf ps[i] := by
        rw [List.take_succ_eq_append_getElem hlt, framesOf_append, framesOf_cons]
        show _ ++ (_ ++ []) = _
        rw [List.append_nil]
      have e : ((i : Int) + 1) = ((i + 1 : Nat) : Int) := by omega
      rw [if_pos rfl, idx_nat (by rw [List.length_map]; omega), obind_some, hg, chk_pos (by omega), chk_pos (by omega), e, ← et]
      exact ih k (i + 1) (by omega) (by omega) (by omega) (by rw [et, List.length_append]; omega)
    · rw [decide_eq_false hc]
      exact recovers_end hl hq hp0 hp hi hw (fun h => by omega) _ _
theorem FnRecovers_m (xs ys : List UInt8) : f_laws_FnRecovers xs ys = some true := by
  unfold f_laws_FnRecovers
  have hJ : ∀ b, (b = false → xs.length ≤ 1000000000 ∧ ys.length ≤ 1000000000) → f_laws_FnRecovers_J0 xs ys b = some true := by
    intro b hb0
    unfold f_laws_FnRecovers_J0
    cases b with
    | true => rfl
    | false =>
      obtain ⟨hx, hy⟩ := hb0 rfl
      obtain ⟨ps, e, hl, hq⟩ := recordsOf_m hx
      have hb := framesOf_le ps hq
      obtain ⟨p, e2, hp0, hp⟩ := at_m hy (i := 0) (n := ((framesOf ps).length : Int) + 1) (by omega) (by omega) (by omega)
      rw [if_neg (by simp), e]
      simp only [obind_some]
      rw [join_m (by omega) hq]
      simp only [obind_some]
      rw [chk_pos (by omega), e2]
      simp only [obind_some]
      exact recovers_L hl hq hp0 (by omega) ps.length BIG 0 (by omega) (by rw [BIG_eq]; omega) (by omega) (by simpa [framesOf] using hp0)
  split
  · exact hJ true (fun h => by cases h)
  · exact hJ _ (fun h => by have := of_decide_eq_false h; exact ⟨by omega, by omega⟩)
end Go.Proofs.YtbdebjoagckcpaaAb
