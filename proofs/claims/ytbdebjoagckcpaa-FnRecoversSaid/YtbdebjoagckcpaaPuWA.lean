import Derived.Test.YtbdebjoagckcpaaPuW9
set_option linter.all false
namespace Go.Proofs.YtbdebjoagckcpaaAb
open Go
theorem specVote_m {t v : Int} (ht : 0 ≤ t ∧ t ≤ 68000000000) (hv : 0 ≤ v ∧ v ≤ 68000000000) : ∃ p : List UInt8, f_spec_l03Vote t v = some (frameOf p) ∧ p.length ≤ 100 := by
  have n1 := nb9 (n := t.toNat) (by omega)
  have n2 := nb9 (n := v.toNat) (by omega)
  unfold f_spec_l03Vote
  rw [put_i ht.1 ht.2, obind_some, chk_pos (by simp; omega), put_i hv.1 hv.2, obind_some, chk_pos (by simp; omega), specFrame_m (by simp; omega), obind_some]
  exact ⟨_, rfl, by simp; omega⟩
theorem specBase_m {t v : Int} (ht : 0 ≤ t ∧ t ≤ 68000000000) (hv : 0 ≤ v ∧ v ≤ 68000000000) : ∃ p : List UInt8, f_spec_l03Base t v = some (frameOf p) ∧ p.length ≤ 100 := by
  have n1 := nb9 (n := t.toNat) (by omega)
  have n2 := nb9 (n := v.toNat) (by omega)
  unfold f_spec_l03Base
  rw [put_i ht.1 ht.2, obind_some, chk_pos (by simp; omega), put_i hv.1 hv.2, obind_some, chk_pos (by simp; omega), specFrame_m (by simp; omega), obind_some]
  exact ⟨_, rfl, by simp; omega⟩
theorem specEntry_m {r : GRec} (ht : 0 ≤ r.Term ∧ r.Term ≤ 68000000000) (hv : 0 ≤ r.Index ∧ r.Index ≤ 68000000000) (hd : r.Data.length ≤ 50) : ∃ p : List UInt8, f_spec_l03Entry r = some (frameOf p) ∧ p.length ≤ 100 := by
  have n1 := nb9 (n := r.Term.toNat) (by omega)
  have n2 := nb9 (n := r.Index.toNat) (by omega)
  unfold f_spec_l03Entry
  rw [put_i ht.1 ht.2, obind_some, chk_pos (by simp; omega), put_i hv.1 hv.2, obind_some, chk_pos (by simp; omega), chk_pos (by simp; omega), specFrame_m (by simp; omega), obind_some]
  exact ⟨_, rfl, by simp; omega⟩
def RecK (m : Nat) (rc : List (List UInt8) → Int → Int → Int → Int → Int → List GRec → Int → List UInt8 → Int → Int → Option (Gl00Src × List (List UInt8))) (N : Nat) (ps : List (List UInt8)) (mm : Int) : Prop :=
  ∀ (p : List UInt8) (w : GWal) (s : Gl00Src), p.length ≤ 100 → WInv w → SInv N s → ∃ s' ps', rc ((ps ++ [p]).map frameOf) (mm - 1) w.Term w.Vote w.Base w.BaseTerm w.Log w.Good s.code s.at_ s.seed = some (s', ((ps ++ [p]) ++ ps').map frameOf) ∧ ps'.length ≤ m ∧ ∀ q ∈ ps', q.length ≤ 100
theorem records_J1 {m N : Nat} {rc} {ps : List (List UInt8)} {mm : Int} (hrc : RecK m rc N ps mm) (hps : ps.length ≤ 1000) (hmm : 0 ≤ mm ∧ mm ≤ 1000) {w : GWal} (hw : WInv w) {p : List UInt8} (hp : p.length ≤ 100) {s : Gl00Src} (hs : SInv N s) :
    ∃ s' ps', f_spec_l00Src_records_J1 w.Term w.Vote w.Base w.BaseTerm w.Log w.Good (ps.map frameOf) mm rc (frameOf p) s.code s.at_ s.seed = some (s', (ps ++ ps').map frameOf) ∧ ps'.length ≤ m + 1 ∧ ∀ q ∈ ps', q.length ≤ 100 := by
  have hfl := frameOf_len (p := p) (by omega)
  have hfp := frameOf_pos p
  have hr := readFr_frame (p := p) (by omega) []
  rw [List.append_nil] at hr
  have hns : ¬ stop (frameOf p) := by
    unfold stop
    rw [hr]
    simp only
    omega
  have hn := (next_read (frameOf p) 0 (by omega)).1 (by rw [List.drop_zero]; exact hns)
  rw [List.drop_zero, hr] at hn
  have hnm : f_spec_l01Next (frameOf p) 0 = some (nextFr (frameOf p) 0) := next_m (p := 0) (by omega) (by omega)
  have key : ∀ w' : GWal, WInv w' → ∃ s' ps', f_spec_l00Src_records_J2 (ps.map frameOf) (frameOf p) mm rc s.code s.at_ s.seed w'.Term w'.Vote w'.Base w'.BaseTerm w'.Log w'.Good = some (s', (ps ++ ps').map frameOf) ∧ ps'.length ≤ m + 1 ∧ ∀ q ∈ ps', q.length ≤ 100 := by
    intro w' hw'
    unfold f_spec_l00Src_records_J2
    rw [chk_pos (by simp; omega), chk_pos (by omega)]
    obtain ⟨s', ps', e, hl, hq⟩ := hrc p w' s hp hw' hs
    have em : ps.map frameOf ++ [frameOf p] = (ps ++ [p]).map frameOf := by simp
    rw [em, e]
    refine ⟨s', p :: ps', by simp, by simp; omega, fun q h => ?_⟩
    rcases List.mem_cons.1 h with rfl | h
    · exact hp
    · exact hq q h
  unfold f_spec_l00Src_records_J1
  rw [hnm, obind_some, hn]
  simp only
  have ew : ({ Term := w.Term, Vote := w.Vote, Base := w.Base, BaseTerm := w.BaseTerm, Log := w.Log, Good := w.Good } : GWal) = w := rfl
  rw [ew, stake_m hw (by omega), obind_some]
  cases ht : takeM w p with
  | none =>
    rw [if_neg (show ¬ ((tk w none).2 = true) by simp [tk])]
    exact key w hw
  | some w' =>
    rw [if_pos (show (tk w (some w')).2 = true from rfl)]
    exact key w' (takeM_inv hw ht).1
theorem records_J3 {m N : Nat} {rc} {ps : List (List UInt8)} {mm : Int} (hrc : RecK m rc (N + 50) ps mm) (hN : N ≤ 10000000) (hps : ps.length ≤ 1000) (hmm : 0 ≤ mm ∧ mm ≤ 1000) {w : GWal} (hw : WInv w) {x5435 : Gl00Src × Int} (hs : SInv N x5435.1) {vp : List UInt8} (hvp : vp.length ≤ 100) (b : Bool) :
    ∃ s' ps', f_spec_l00Src_records_J3 x5435 w.Base w.Log w.Term w.Vote w.BaseTerm w.Good (ps.map frameOf) mm rc (frameOf vp) b = some (s', (ps ++ ps').map frameOf) ∧ ps'.length ≤ m + 1 ∧ ∀ q ∈ ps', q.length ≤ 100 := by
  obtain ⟨s, x⟩ := x5435
  have hB := hw.base
  have hL := hw.log
  simp only at hs
  unfold f_spec_l00Src_records_J3
  simp only
  have ew : ({ Term := w.Term, Vote := w.Vote, Base := w.Base, BaseTerm := w.BaseTerm, Log := w.Log, Good := w.Good } : GWal) = w := rfl
  cases b with
  | true =>
    rw [if_pos rfl]
    obtain ⟨s1, x1, e1, hs1, hx1, hy1, _⟩ := src_next_m hs (by omega) 4
    have hy1 := hy1 (by omega)
    simp only [e1, obind_some]
    rw [chk_pos (by omega)]
    obtain ⟨s2, x2, e2, hs2, hx2, hy2, _⟩ := src_next_m hs1 (by omega) 4
    have hy2 := hy2 (by omega)
    simp only [e2, obind_some]
    rw [chk_pos (by omega)]
    obtain ⟨s3, x3, e3, hs3, hx3, hy3, _⟩ := src_next_m hs2 (by omega) 3
    have hy3 := hy3 (by omega)
    simp only [e3, obind_some]
    have hprod : 0 ≤ x2 / 3 * x3 ∧ x2 / 3 * x3 ≤ 2 := by
      have h01 : x2 / 3 = 0 ∨ x2 / 3 = 1 := by omega
      rcases h01 with h | h <;> rw [h] <;> omega
    rw [chk_pos (by omega), chk_pos (by omega)]
    obtain ⟨s4, bs, e4, hs4, hb4⟩ := src_bytes_m hs3 (n := 5) (by omega) (by omega) (by omega)
    simp only [e4, obind_some]
    generalize hidx : (if w.Base + (w.Log.length : Int) + 1 - x2 / 3 * x3 > 1 then w.Base + (w.Log.length : Int) + 1 - x2 / 3 * x3 else 1) = ix
    have hix : 0 ≤ ix ∧ ix ≤ 68000000000 := by rw [← hidx]; split <;> omega
    obtain ⟨p, e5, hp⟩ := specEntry_m (r := { Term := x1, Index := ix, Data := bs }) ⟨hx1, by simp only; omega⟩ hix (by simp only; omega)
    rw [e5, obind_some]
    exact records_J1 hrc hps hmm hw hp (hs4.mono (by omega))
  | false =>
    rw [if_neg (by simp)]
    by_cases h4 : x = 4
    · rw [if_pos h4, chk_pos (by omega)]
      obtain ⟨s1, x1, e1, hs1, hx1, hy1, _⟩ := src_next_m hs (by omega) ((w.Log.length : Int) + 1)
      have hy1 := hy1 (by omega)
      simp only [e1, obind_some]
      rw [chk_pos (by omega), ew]
      obtain ⟨t, ht, hte, _, _⟩ := termAt_m hw (x := w.Base + x1) (by omega) (by omega)
      rw [hte, obind_some]
      obtain ⟨p, e5, hp⟩ := specBase_m (t := w.Base + x1) (v := t) ⟨by omega, by omega⟩ ⟨ht.1, by omega⟩
      rw [e5, obind_some]
      exact records_J1 hrc hps hmm hw hp (hs1.mono (by omega))
    · rw [if_neg h4]
      by_cases h5 : x = 5
      · rw [if_pos h5]
        obtain ⟨s1, x1, e1, hs1, hx1, hy1, _⟩ := src_next_m hs (by omega) 4
        have hc : f_spec_l00Src_chance s 4 = some (s1, decide (x1 = 4 - 1)) := by
          unfold f_spec_l00Src_chance
          simp only [e1, obind_some]
          rw [chk_pos (by omega)]
        have hc' : f_spec_l00Src_chance { code := s.code, at_ := s.at_, seed := s.seed } 4 = some (s1, decide (x1 = 4 - 1)) := hc
        rw [hc', obind_some]
        simp only
        by_cases h3 : x1 = 4 - 1
        · rw [if_pos (decide_eq_true h3)]
          obtain ⟨s2, bs, e2, hs2, hb2⟩ := src_bytes_m hs1 (n := 6) (by omega) (by omega) (by omega)
          simp only [e2, obind_some]
          rw [specFrame_m (by omega), obind_some]
          exact records_J1 hrc hps hmm hw (by omega) (hs2.mono (by omega))
        · rw [if_neg (bd_f h3)]
          exact records_J1 hrc hps hmm hw hvp (hs1.mono (by omega))
      · rw [if_neg h5]
        exact records_J1 hrc hps hmm hw hvp (hs.mono (by omega))
theorem records_L : ∀ (m k N : Nat) (ps : List (List UInt8)) (w : GWal) (s : Gl00Src), m + 1 ≤ k → WInv w → SInv N s → N + 100 * m ≤ 1000000 → ps.length + m ≤ 100 →
    ∃ s' ps', f_spec_l00Src_records_L0 k (ps.map frameOf) (m : Int) w.Term w.Vote w.Base w.BaseTerm w.Log w.Good s.code s.at_ s.seed = some (s', (ps ++ ps').map frameOf) ∧ ps'.length ≤ m ∧ ∀ q ∈ ps', q.length ≤ 100 := by
  intro m
  induction m with
  | zero =>
    intro k N ps w s hk hw hs hN hl
    obtain ⟨k, rfl⟩ : ∃ j, k = j + 1 := ⟨k - 1, by omega⟩
    rw [f_spec_l00Src_records_L0, if_neg (by omega)]
    exact ⟨_, [], by rw [List.append_nil], by simp, fun q h => by simp at h⟩
  | succ m ih =>
    intro k N ps w s hk hw hs hN hl
    obtain ⟨k, rfl⟩ : ∃ j, k = j + 1 := ⟨k - 1, by omega⟩
    have hB := hw.base
    have hL := hw.log
    have hT := hw.term
    rw [f_spec_l00Src_records_L0, if_pos (by omega), chk_pos (by omega)]
    obtain ⟨s1, x1, e1, hs1, hx1, hy1, _⟩ := src_next_m hs (by omega) 2
    have hy1 := hy1 (by omega)
    simp only [e1, obind_some]
    rw [chk_pos (by omega)]
    obtain ⟨s2, x2, e2, hs2, hx2, hy2, _⟩ := src_next_m hs1 (by omega) 4
    have hy2 := hy2 (by omega)
    simp only [e2, obind_some]
    obtain ⟨vp, e3, hvp⟩ := specVote_m (t := w.Term + x1) (v := x2) ⟨by omega, by omega⟩ ⟨hx2, by omega⟩
    rw [e3, obind_some]
    obtain ⟨s4, x4, e4, hs4, hx4, hy4, _⟩ := src_next_m hs2 (by omega) 8
    simp only [e4, obind_some]
    have hrc : RecK m (f_spec_l00Src_records_L0 k) (N + 9 + 50) ps ((m + 1 : Nat) : Int) := by
      intro p w' s' hp hw' hs'
      have e : ((m + 1 : Nat) : Int) - 1 = (m : Int) := by omega
      rw [e]
      obtain ⟨s'', ps', e', hl', hq'⟩ := ih k (N + 9 + 50) (ps ++ [p]) w' s' (by omega) hw' hs' (by omega) (by simp; omega)
      exact ⟨s'', ps', e', hl', hq'⟩
    have hJ := fun b => records_J3 (m := m) (N := N + 9) (x5435 := (s4, x4)) hrc (by omega) (by omega) ⟨by omega, by omega⟩ hw hs4 hvp b
    split
    · exact hJ _
    split
    · exact hJ _
    split
    · exact hJ _
    · exact hJ _
theorem recordsOf_m {xs : List UInt8} (h : xs.length ≤ 1000000000) : ∃ ps : List (List UInt8), f_spec_RecordsOf xs = some (ps.map frameOf) ∧ ps.length ≤ 13 ∧ ∀ q ∈ ps, q.length ≤ 100 := by
  obtain ⟨s, e, hs⟩ := source_m h
  unfold f_spec_RecordsOf f_spec_l00Src_records
  rw [e]
  simp only [obind_some]
  obtain ⟨x1, e1, hx1, hy1⟩ := src_size_m hs (n := 12) (by omega)
  obtain ⟨s2, x2, e2, hs2, hx2, hy2, _⟩ := src_next_m hs (by omega) (x1 + 2)
  have hy2 := hy2 (by omega)
  simp only [e1, e2, obind_some]
  rw [chk_pos (by omega)]
  obtain ⟨m, rfl⟩ := Int.eq_ofNat_of_zero_le hx2
  obtain ⟨s', ps', e3, hl, hq⟩ := records_L m BIG _ [] w0 s2 (by rw [BIG_eq]; omega) w0_inv hs2 (by omega) (by simp; omega)
  rw [show f_spec_l00Src_records_L0 BIG [] (m : Int) 0 0 0 0 [] 0 s2.code s2.at_ s2.seed = some (s', ps'.map frameOf) from e3]
  exact ⟨ps', rfl, by omega, hq⟩
end Go.Proofs.YtbdebjoagckcpaaAb
