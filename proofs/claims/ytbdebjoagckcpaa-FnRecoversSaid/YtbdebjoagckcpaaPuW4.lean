import Derived.Test.YtbdebjoagckcpaaPuW3
set_option linter.all false
namespace Go.Proofs.YtbdebjoagckcpaaAb
open Go
theorem in_m (x l h : Int) : f_spec_l02In x l h = some (decide (l ≤ x ∧ x ≤ h)) := by
  unfold f_spec_l02In
  by_cases h1 : l ≤ x
  · rw [if_pos h1]; simp [h1]
  · rw [if_neg h1]; simp [h1]
theorem termAt_m {w : GWal} (hw : WInv w) {x : Int} (h0 : w.Base ≤ x) (h1 : x ≤ w.Base + w.Log.length) : ∃ t, okT t ∧ f_spec_l03TermAt w x = some t ∧ (x = w.Base → t = w.BaseTerm) ∧ (x ≠ w.Base → (w.Log[(x - w.Base - 1).toNat]?.map (·.Term)) = some t) := by
  have hB := hw.base
  have hL := hw.log
  unfold f_spec_l03TermAt
  by_cases he : x = w.Base
  · rw [if_pos he]; exact ⟨_, hw.bterm, rfl, fun _ => rfl, fun h => absurd he h⟩
  · obtain ⟨r, hr1, hr2⟩ := idx_opt (xs := w.Log) (j := x - w.Base - 1) (by omega) (by omega)
    rw [if_neg he, chk_pos (by omega), chk_pos (by omega), hr2, obind_some, hr1]
    exact ⟨_, hw.terms r (List.mem_of_getElem? hr1), rfl, fun h => absurd h he, fun _ => rfl⟩
theorem numbers_m {p : List UInt8} (hp : p.length ≤ 1000000000) : ∃ x : Int × Int × List UInt8 × Bool, f_spec_l03Numbers p = some x ∧
    (x.2.2.2 = true → 0 < (readNum p).2 ∧ 0 < (readNum (p.drop (readNum p).2.toNat)).2 ∧ okT x.1 ∧ okT x.2.1 ∧ x.1 = (readNum p).1 ∧ x.2.1 = (readNum (p.drop (readNum p).2.toNat)).1 ∧ x.2.2.1 = (p.drop (readNum p).2.toNat).drop (readNum (p.drop (readNum p).2.toNat)).2.toNat) ∧
    (x.2.2.2 = false → (readNum p).2 ≤ 0 ∨ (readNum (p.drop (readNum p).2.toNat)).2 ≤ 0 ∨ ¬ (okT (readNum p).1 ∧ okT (readNum (p.drop (readNum p).2.toNat)).1)) := by
  unfold f_spec_l03Numbers
  rw [show f_spec_l01Get p 0 = some (getNum p 0) from get_m (p := 0) hp (by omega), obind_some]
  have h0 : getNum p 0 = getOf 0 (readNum p) := by rw [getNum_of, List.drop_zero]
  by_cases h1 : (readNum p).2 ≤ 0
  · have hs : (getNum p 0).2.2 ≠ 0 := by
      rw [h0]; unfold getOf
      by_cases h : (readNum p).2 < 0
      · rw [if_pos h]; decide
      · rw [if_neg h, if_pos (by omega)]; decide
    rw [if_neg hs]
    exact ⟨_, rfl, fun h => by simp at h, fun _ => Or.inl h1⟩
  obtain ⟨m, s, e, hs, hsl, hs9, hm⟩ := readNum_spec (bs := p) (by omega)
  have hg : getNum p 0 = ((m : Int), (s : Int), 0) := by rw [h0]; unfold getOf; rw [if_neg (by omega), if_neg (by omega), e]; simp
  rw [hg, e]
  simp only [Int.toNat_natCast]
  rw [if_pos trivial, get_m hp hsl, obind_some]
  have h02 : getNum p s = getOf s (readNum (p.drop s)) := getNum_of p s
  generalize readNum (p.drop s) = r2 at *
  by_cases h2 : r2.2 ≤ 0
  · have hs : (getNum p s).2.2 ≠ 0 := by
      rw [h02]; unfold getOf
      by_cases h : r2.2 < 0
      · rw [if_pos h]; decide
      · rw [if_neg h, if_pos (by omega)]; decide
    rw [if_neg hs]
    exact ⟨_, rfl, fun h => by simp at h, fun _ => Or.inr (Or.inl h2)⟩
  have hg2 : getNum p s = (r2.1, (s : Int) + r2.2, 0) := by rw [h02]; unfold getOf; rw [if_neg (by omega), if_neg (by omega)]
  have hle : (s : Int) + r2.2 ≤ p.length := by
    obtain ⟨m', q', e', _, hq, _, _⟩ := getNum_spec (b := p) (p := s) (by rw [hg2])
    rw [hg2] at e'
    have := (Prod.mk.inj (Prod.mk.inj e').2).1
    omega
  rw [hg2]
  simp only
  rw [if_pos trivial, slc_tail (by omega) hle, obind_some, in_m, obind_some]
  have hdd : p.drop ((s : Int) + r2.2).toNat = (p.drop s).drop r2.2.toNat := by rw [List.drop_drop]; congr 1; omega
  by_cases ha : okT (m : Int)
  · rw [if_pos (decide_eq_true ha), in_m, obind_some]
    refine ⟨_, rfl, fun h => ?_, fun h => Or.inr (Or.inr fun hh => ?_)⟩
    · exact ⟨by omega, by omega, ha, of_decide_eq_true h, rfl, rfl, hdd⟩
    · exact absurd hh.2 (of_decide_eq_false h)
  · rw [if_neg (bd_f ha)]
    exact ⟨_, rfl, fun h => by simp at h, fun _ => Or.inr (Or.inr fun hh => ha hh.1)⟩
theorem stake_J1 {w : GWal} {c : UInt8} {p : List UInt8} {x : Int × Int × List UInt8 × Bool} (hc1 : 1 ≤ c.toNat) (hc3 : c.toNat ≤ 3) (hw : WInv w) (ha : okT x.1) (hb : okT x.2.1) (hq : x.2.2.1.length ≤ 1000000000) :
    f_spec_l03Take_J1 w (c :: p) x (decide (c.toNat ≠ 2 ∧ 0 < x.2.2.1.length)) = some (tk w (takeN w c.toNat x.1 x.2.1 x.2.2.1)) := by
  obtain ⟨a, b, q, ok⟩ := x
  simp only at ha hb hq ⊢
  have hB := hw.base
  have hL := hw.log
  unfold f_spec_l03Take_J1
  by_cases h0 : c.toNat ≠ 2 ∧ 0 < q.length
  · have hT : takeN w c.toNat a b q = none := by unfold takeN; rw [if_pos (by omega)]
    rw [hT, if_pos (decide_eq_true h0)]; rfl
  rw [if_neg (bd_f h0), idx_zero, obind_some, chk_pos (by omega)]
  simp only
  by_cases h1 : c.toNat = 1
  · have hT : takeN w c.toNat a b q = if a < w.Term then none else some { w with Term := a, Vote := b } := by unfold takeN; rw [if_neg (by omega), if_pos (by omega)]
    rw [hT, if_pos (by omega)]
    by_cases h : a < w.Term
    · rw [if_pos h, if_pos h]; rfl
    · rw [if_neg h, if_neg h]; rfl
  rw [if_neg (by omega)]
  by_cases h2 : c.toNat = 2
  · have hT : takeN w c.toNat a b q = (if b ≤ w.Base ∨ w.Base + w.Log.length + 1 < b ∨ 1000 < q.length ∨ 100 < b - w.Base then none else some { w with Log := w.Log.take (b - w.Base - 1).toNat ++ [⟨a, b, q⟩] }) := by
      unfold takeN; rw [if_neg (by omega), if_neg (by omega), if_pos (by omega)]
    rw [hT, if_pos (by omega)]
    clear hT
    by_cases hi1 : b ≤ w.Base
    · rw [if_pos hi1, if_pos (by omega)]; rfl
    rw [if_neg hi1, chk_pos (by omega)]
    by_cases hi2 : w.Base + w.Log.length + 1 < b
    · rw [if_pos hi2, if_pos (by omega)]; rfl
    rw [if_neg hi2]
    by_cases hi3 : (1000 : Int) < q.length
    · rw [if_pos hi3, if_pos (by omega)]; rfl
    rw [if_neg hi3, chk_pos (by omega)]
    unfold f_spec_l03Take_J3
    by_cases hi4 : 100 < b - w.Base
    · rw [if_pos (decide_eq_true hi4), if_pos (by omega)]; rfl
    rw [if_neg (bd_f hi4), if_neg (by omega)]
    simp only
    rw [chk_pos (by omega), chk_pos (by omega), slc_head (by omega) (by omega), obind_some]
    simp only [List.nil_append]
    rw [chk_pos (by simp; omega), chk_pos (by simp; omega), chk_pos (by simp; omega)]
    rfl
  rw [if_neg (by omega)]
  have hT : takeN w c.toNat a b q = (if a < w.Base ∨ w.Base + w.Log.length < a then none else if a = w.Base then (if b = w.BaseTerm then some w else none) else if (w.Log[(a - w.Base - 1).toNat]?.map (·.Term)) = some b then some { w with Base := a, BaseTerm := b, Log := w.Log.drop (a - w.Base).toNat } else none) := by
    unfold takeN; rw [if_neg (by omega), if_neg (by omega), if_neg (by omega), if_pos (by omega)]
  rw [hT]
  clear hT
  by_cases hi1 : a < w.Base
  · rw [if_pos hi1, if_pos (by omega)]; rfl
  rw [if_neg hi1]
  by_cases hi2 : w.Base + w.Log.length < a
  · rw [if_pos hi2, if_pos (by omega)]; rfl
  rw [if_neg hi2, if_neg (by omega)]
  obtain ⟨t, ht, hte, ht1, ht2⟩ := termAt_m hw (x := a) (by omega) (by omega)
  rw [hte, obind_some]
  unfold f_spec_l03Take_J4
  simp only [List.nil_append]
  by_cases htb : t = b
  · rw [if_neg (bnd_f htb), chk_pos (by omega), slc_tail (by omega) (by omega), obind_some, chk_pos (by simp; omega)]
    by_cases he : a = w.Base
    · rw [if_pos he, if_pos (by rw [← htb, ht1 he])]
      have hbt : b = w.BaseTerm := by rw [← htb, ht1 he]
      have hd : (a - w.Base).toNat = 0 := by omega
      rw [hd, List.drop_zero, he, hbt]; rfl
    · rw [if_neg he, if_pos (by rw [ht2 he, htb])]; rfl
  · rw [if_pos (bnd_t htb)]
    by_cases he : a = w.Base
    · rw [if_pos he, if_neg (by rw [← ht1 he]; exact fun h => htb h.symm)]; rfl
    · rw [if_neg he, if_neg (by rw [ht2 he]; exact fun h => htb (Option.some.inj h))]; rfl
theorem stake_m {w : GWal} {p : List UInt8} (hw : WInv w) (hp : p.length ≤ 1000000000) : f_spec_l03Take w p = some (tk w (takeM w p)) := by
  cases p with
  | nil => rfl
  | cons c p =>
    simp only [List.length_cons] at hp
    have hc : takeM w (c :: p) ≠ none → 1 ≤ c.toNat ∧ c.toNat ≤ 3 := by
      intro h
      unfold takeM at h
      simp only at h
      split at h
      · exact absurd rfl h
      split at h
      · exact absurd rfl h
      split at h
      · unfold takeN at h
        by_cases h1 : c.toNat = 1
        · omega
        by_cases h2 : c.toNat = 2
        · omega
        by_cases h3 : c.toNat = 3
        · omega
        rw [if_neg (c := ((c.toNat : Int) = 1)) (by omega), if_neg (c := ((c.toNat : Int) = 2)) (by omega), if_neg (c := ((c.toNat : Int) = 3)) (by omega), ite_self] at h
        exact absurd rfl h
      · exact absurd rfl h
    unfold f_spec_l03Take
    rw [if_neg (by simp; omega), idx_zero, obind_some, obind_some]
    by_cases h1 : (c.toNat : Int) < 1
    · rw [if_pos h1]
      have : takeM w (c :: p) = none := by
        by_cases h : takeM w (c :: p) = none
        · exact h
        · have := hc h; omega
      rw [this]; rfl
    rw [if_neg h1]
    by_cases h3 : (3 : Int) < c.toNat
    · rw [decide_eq_true h3]
      have : takeM w (c :: p) = none := by
        by_cases h : takeM w (c :: p) = none
        · exact h
        · have := hc h; omega
      rw [this]; rfl
    clear hc
    unfold f_spec_l03Take_J0
    rw [if_neg (bd_f h3), slc_tail (by omega) (by simp; omega), obind_some]
    have ed : (c :: p).drop (1 : Int).toNat = p := rfl
    rw [ed]
    obtain ⟨x, hx, hxt, hxf⟩ := numbers_m (p := p) (by omega)
    rw [hx, obind_some, idx_zero, obind_some]
    by_cases hok : x.2.2.2 = true
    · obtain ⟨g1, g2, g3, g4, g5, g6, g7⟩ := hxt hok
      have hT : takeM w (c :: p) = takeN w c.toNat x.1 x.2.1 x.2.2.1 := by
        unfold takeM
        simp only
        rw [if_neg (Int.not_le.2 g1), if_neg (Int.not_le.2 g2), ← g5, ← g6, if_pos ⟨g3, g4⟩, ← g7]
      rw [hT, if_neg (by simp [hok])]
      have hq : x.2.2.1.length ≤ 1000000000 := by rw [g7]; simp only [List.length_drop]; omega
      have := stake_J1 (c := c) (p := p) (x := x) (by omega) (by omega) hw g3 g4 hq
      by_cases hc2 : c.toNat = 2
      · rw [if_pos (by omega)]
        rw [decide_eq_false (by omega)] at this
        exact this
      · rw [if_neg (by omega)]
        have hd : decide (c.toNat ≠ 2 ∧ 0 < x.2.2.1.length) = decide ((0 : Int) < (x.2.2.1.length : Int)) := by rw [decide_eq_decide]; omega
        rw [hd] at this
        exact this
    · have hok' : x.2.2.2 = false := by simpa using hok
      rw [if_pos (by simp [hok'])]
      have hn : takeM w (c :: p) = none := by
        unfold takeM
        simp only
        rcases hxf hok' with h | h | h
        · rw [if_pos h]
        · by_cases h' : (readNum p).2 ≤ 0
          · rw [if_pos h']
          · rw [if_neg h', if_pos h]
        · by_cases h' : (readNum p).2 ≤ 0
          · rw [if_pos h']
          · rw [if_neg h']
            by_cases h'' : (readNum (p.drop (readNum p).2.toNat)).2 ≤ 0
            · rw [if_pos h'']
            · rw [if_neg h'', if_neg h]
      rw [hn]; rfl
end Go.Proofs.YtbdebjoagckcpaaAb
