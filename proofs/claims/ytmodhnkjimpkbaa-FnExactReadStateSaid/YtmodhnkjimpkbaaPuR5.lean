import Derived.Test.YtmodhnkjimpkbaaPuR4
set_option linter.all false
namespace Go.Proofs.YtmodhnkjimpkbaaAb
open Go
theorem sOK_L3 {st : GState} (hb : SBd st) : ∀ (m k i : Nat), st.Sessions.length - i = m → m + 1 ≤ k → i ≤ st.Sessions.length → ∃ b, f_spec_StateOK_L3 st k (i : Int) = some b := by
  have hsl := hb.sess
  intro m
  induction m with
  | zero =>
    intro k i hm hk hi
    obtain ⟨k, rfl⟩ : ∃ j, k = j + 1 := ⟨k - 1, by omega⟩
    rw [f_spec_StateOK_L3, if_neg (by omega)]; exact ⟨_, rfl⟩
  | succ m ih =>
    intro k i hm hk hi
    obtain ⟨k, rfl⟩ : ∃ j, k = j + 1 := ⟨k - 1, by omega⟩
    have hlt : i < st.Sessions.length := by omega
    have e : ((i : Int) + 1) = ((i + 1 : Nat) : Int) := by omega
    have hsha := hb.shas _ (List.getElem_mem hlt)
    obtain ⟨b, hb⟩ := ih k (i + 1) (by omega) (by omega) (by omega)
    rw [f_spec_StateOK_L3, if_pos (by omega), idx_nat hlt, obind_some]
    generalize st.Sessions[i] = x at *
    have hrp : ({ Code := x.Reply.Code, Version := x.Reply.Version, Sha := x.Reply.Sha } : GReply) = x.Reply := rfl
    obtain ⟨b2, hr⟩ := reply_some hsha
    rw [hrp, hr, in_m, in_m, slc_head (by omega) (by omega)]
    simp only [obind_some]
    rw [session_s (by rw [List.length_take]; omega)]
    simp only [obind_some]
    have hJ : ∀ b', ∃ b, f_spec_StateOK_J4 (i : Int) (f_spec_StateOK_L3 st k) b' = some b := by
      intro b'
      unfold f_spec_StateOK_J4
      split
      · exact ⟨_, rfl⟩
      · rw [chk_pos (by omega), e, hb]; exact ⟨_, rfl⟩
    repeat' split
    all_goals exact hJ _
theorem sOK_L1 {st : GState} (hb : SBd st) : ∀ (m k i : Nat), st.Files.length - i = m → m + 1 ≤ k → i ≤ st.Files.length → ∃ b, f_spec_StateOK_L1 st k (i : Int) = some b := by
  have hsl := hb.files
  have hss := hb.sess
  intro m
  induction m with
  | zero =>
    intro k i hm hk hi
    obtain ⟨k, rfl⟩ : ∃ j, k = j + 1 := ⟨k - 1, by omega⟩
    rw [f_spec_StateOK_L1, if_neg (by omega)]
    exact sOK_L3 hb st.Sessions.length BIG 0 (by omega) (by rw [BIG_eq]; omega) (by omega)
  | succ m ih =>
    intro k i hm hk hi
    obtain ⟨k, rfl⟩ : ∃ j, k = j + 1 := ⟨k - 1, by omega⟩
    have hlt : i < st.Files.length := by omega
    have e : ((i : Int) + 1) = ((i + 1 : Nat) : Int) := by omega
    have hnm := hb.names _ (List.getElem_mem hlt)
    obtain ⟨b, hb⟩ := ih k (i + 1) (by omega) (by omega) (by omega)
    rw [f_spec_StateOK_L1, if_pos (by omega), idx_nat hlt, obind_some]
    generalize st.Files[i] = x at *
    rw [name_s _ hnm, in_m, slc_head (by omega) (by omega)]
    simp only [obind_some]
    rw [file_s (by rw [List.length_take]; omega)]
    simp only [obind_some]
    have hJ : ∀ b', ∃ b, f_spec_StateOK_J2 (i : Int) (f_spec_StateOK_L1 st k) b' = some b := by
      intro b'
      unfold f_spec_StateOK_J2
      split
      · exact ⟨_, rfl⟩
      · rw [chk_pos (by omega), e, hb]; exact ⟨_, rfl⟩
    repeat' split
    all_goals exact hJ _
theorem sOK_some {st : GState} (hb : SBd st) : ∃ b, f_spec_StateOK st = some b := by
  have hf := hb.files
  unfold f_spec_StateOK
  have hJ : ∀ b', ∃ b, f_spec_StateOK_J0 st b' = some b := by
    intro b'
    unfold f_spec_StateOK_J0
    split
    · exact ⟨_, rfl⟩
    · exact sOK_L1 hb st.Files.length BIG 0 (by omega) (by rw [BIG_eq]; omega) (by omega)
  split <;> exact hJ _
def Both (a b : Option (GState × Int)) : Prop := ∃ y, a = some y ∧ b = some y ∧ SBd y.1
theorem sbd_nil : SBd { Files := [], Sessions := [] } := ⟨by simp, by simp, by simp, by simp⟩
theorem J4_eq {fs : List GFile} {ss : List GSession} (hb : SBd { Files := fs, Sessions := ss }) (b : Bool) : Both (f_impl_ReadState_J4 fs ss b) (f_spec_ReadState_J4 fs ss b) := by
  unfold f_impl_ReadState_J4 f_spec_ReadState_J4
  cases b with
  | true => exact ⟨_, rfl, rfl, sbd_nil⟩
  | false =>
    rw [if_neg (by simp), if_neg (by simp), stateOK_eq hb]
    obtain ⟨c, hc⟩ := sOK_some hb
    rw [hc]
    simp only [obind_some]
    cases c with
    | true => exact ⟨_, rfl, rfl, hb⟩
    | false => exact ⟨_, rfl, rfl, sbd_nil⟩
theorem J3_end {fs : List GFile} {ss : List GSession} (hb : SBd { Files := fs, Sessions := ss }) {r : GbyteReader} {s : Gl09Reader} {xs : List UInt8} (he : RdEq r s) (hx : s.b = xs) (n : Int) (rc1 rc2) :
    Both (f_impl_ReadState_J3 r.b r.bad ss n rc1 fs false) (f_spec_ReadState_J3 s.b s.at_ s.bad ss n rc2 fs xs false) := by
  unfold f_impl_ReadState_J3 f_spec_ReadState_J3
  rw [if_neg Bool.false_ne_true, if_neg Bool.false_ne_true, he.bad]
  cases hbad : s.bad with
  | true => rw [if_pos rfl, if_pos rfl]; exact J4_eq hb true
  | false =>
    rw [if_neg (by simp), if_neg (by simp)]
    obtain ⟨h1, h2, h3⟩ := he.pos hbad
    have hl : r.b.length = s.b.length - s.at_.toNat := by rw [h3, List.length_drop]
    have hd : (!decide (s.at_ = (xs.length : Int))) = decide ((0 : Int) < (r.b.length : Int)) := by
      rw [← hx, ← decide_not, decide_eq_decide]; omega
    rw [hd]
    exact J4_eq hb _
theorem rs_L2 {fs : List GFile} {xs : List UInt8} (hfl : fs.length ≤ 1000000) (hnm : ∀ f ∈ fs, f.Name.length ≤ 1000000000) (hxs : xs.length ≤ 65536) : ∀ (m k k' : Nat) (n : Int) (ss : List GSession) (r : GbyteReader) (s : Gl09Reader), m + 1 ≤ k → m + 1 ≤ k' → RdEq r s → s.b = xs → (s.bad = false → (xs.length : Int) - s.at_ + 1 ≤ m) → 0 ≤ n → n < 9223372036854775808 → ss.length + m ≤ 1000000 → (∀ x ∈ ss, x.Reply.Sha.length ≤ 1000000000) →
    Both (f_impl_ReadState_L2 fs k n ss r.b r.bad) (f_spec_ReadState_L2 fs xs k' n ss s.b s.at_ s.bad) := by
  intro m
  induction m with
  | zero =>
    intro k k' n ss r s hk hk' he hx hm hn0 hn1 hsl hsh
    obtain ⟨k, rfl⟩ : ∃ j, k = j + 1 := ⟨k - 1, by omega⟩
    obtain ⟨k', rfl⟩ : ∃ j, k' = j + 1 := ⟨k' - 1, by omega⟩
    have hb : SBd { Files := fs, Sessions := ss } := ⟨by simp only; omega, by simp only; omega, hnm, hsh⟩
    have hbad : s.bad = true := by
      cases h : s.bad with
      | true => rfl
      | false => have := hm h; have := he.pos h; rw [hx] at this; omega
    rw [f_impl_ReadState_L2, f_spec_ReadState_L2]
    have h2 := J3_end hb he hx n (f_impl_ReadState_L2 fs k) (f_spec_ReadState_L2 fs xs k')
    by_cases hn : 0 < n
    · rw [if_pos hn, if_pos hn]
      have e1 : (!r.bad) = false := by rw [he.bad, hbad]; rfl
      have e2 : (!s.bad) = false := by rw [hbad]; rfl
      rw [e1, e2]; exact h2
    · rw [if_neg hn, if_neg hn]; exact h2
  | succ m ih =>
    intro k k' n ss r s hk hk' he hx hm hn0 hn1 hsl hsh
    obtain ⟨k, rfl⟩ : ∃ j, k = j + 1 := ⟨k - 1, by omega⟩
    obtain ⟨k', rfl⟩ : ∃ j, k' = j + 1 := ⟨k' - 1, by omega⟩
    have hb : SBd { Files := fs, Sessions := ss } := ⟨by simp only; omega, by simp only; omega, hnm, hsh⟩
    rw [f_impl_ReadState_L2, f_spec_ReadState_L2]
    have h2 := J3_end hb he hx n (f_impl_ReadState_L2 fs k) (f_spec_ReadState_L2 fs xs k')
    by_cases hn : 0 < n
    · rw [if_pos hn, if_pos hn]
      cases hbad : s.bad with
      | true =>
        rw [he.bad, hbad] at h2 ⊢
        exact h2
      | false =>
        rw [he.bad, hbad]
        unfold f_impl_ReadState_J3 f_spec_ReadState_J3
        rw [if_pos (by rfl), if_pos (by rfl)]
        have er : ({ b := r.b, bad := false } : GbyteReader) = r := by rw [← hbad, ← he.bad]
        have es : ({ b := s.b, at_ := s.at_, bad := false } : Gl09Reader) = s := by rw [← hbad]
        rw [er, es]
        obtain ⟨r1, s1, x1, a1, b1, he1, hb1, _, _, hm1, _⟩ := number_eq he
        obtain ⟨r2, s2, x2, a2, b2, he2, hb2, _, _, hm2, _⟩ := number_eq he1
        obtain ⟨r3, s3, x3, a3, b3, he3, hb3, _, _, hm3, _⟩ := number_eq he2
        obtain ⟨r4, s4, x4, a4, b4, he4, hb4, _, _, hm4, _⟩ := number_eq he3
        obtain ⟨r5, s5, x5, a5, b5, he5, hb5, hm5, _, hxl⟩ := text_eq he4
        have f1 : ({ b := r1.b, bad := r1.bad } : GbyteReader) = r1 := rfl
        have f2 : ({ b := r2.b, bad := r2.bad } : GbyteReader) = r2 := rfl
        have f3 : ({ b := r3.b, bad := r3.bad } : GbyteReader) = r3 := rfl
        have f4 : ({ b := r4.b, bad := r4.bad } : GbyteReader) = r4 := rfl
        have g1 : ({ b := s1.b, at_ := s1.at_, bad := s1.bad } : Gl09Reader) = s1 := rfl
        have g2 : ({ b := s2.b, at_ := s2.at_, bad := s2.bad } : Gl09Reader) = s2 := rfl
        have g3 : ({ b := s3.b, at_ := s3.at_, bad := s3.bad } : Gl09Reader) = s3 := rfl
        have g4 : ({ b := s4.b, at_ := s4.at_, bad := s4.bad } : Gl09Reader) = s4 := rfl
        rw [a1, b1, obind_some, obind_some]
        simp only [f1, g1]
        rw [a2, b2, obind_some, obind_some]
        simp only [f2, g2]
        rw [a3, b3, obind_some, obind_some]
        simp only [f3, g3]
        rw [a4, b4, obind_some, obind_some]
        simp only [f4, g4]
        rw [a5, b5, obind_some, obind_some, chk_pos (by simp; omega), chk_pos (by omega), chk_pos (by simp; omega), chk_pos (by omega)]
        refine ih k k' (n - 1) _ r5 s5 (by omega) (by omega) he5 (by rw [hb5, hb4, hb3, hb2, hb1, hx]) (fun h5 => ?_) (by omega) (by omega) (by simp; omega) (fun x hx => ?_)
        · obtain ⟨p4, q4⟩ := hm5 h5
          obtain ⟨p3, q3⟩ := hm4 p4
          obtain ⟨p2, q2⟩ := hm3 p3
          obtain ⟨p1, q1⟩ := hm2 p2
          obtain ⟨p0, q0⟩ := hm1 p1
          have := hm p0
          omega
        · rcases List.mem_append.1 hx with h | h
          · exact hsh x h
          · rcases List.mem_singleton.1 h with rfl
            simp only; omega
    · rw [if_neg hn, if_neg hn]; exact h2
theorem rs_L0 {xs : List UInt8} (hxs : xs.length ≤ 65536) : ∀ (m k k' : Nat) (n : Int) (fs : List GFile) (r : GbyteReader) (s : Gl09Reader), m + 1 ≤ k → m + 1 ≤ k' → RdEq r s → s.b = xs → (s.bad = false → (xs.length : Int) - s.at_ + 1 ≤ m) → 0 ≤ n → n < 9223372036854775808 → fs.length + m ≤ 1000000 → (∀ f ∈ fs, f.Name.length ≤ 1000000000) →
    Both (f_impl_ReadState_L0 k n fs r.b r.bad) (f_spec_ReadState_L0 xs k' n fs s.b s.at_ s.bad) := by
  have hend : ∀ (n : Int) (fs : List GFile) (r : GbyteReader) (s : Gl09Reader) (rc1 rc2), RdEq r s → s.b = xs → fs.length ≤ 1000000 → (∀ f ∈ fs, f.Name.length ≤ 1000000000) → Both (f_impl_ReadState_J1 r.b r.bad fs n rc1 false) (f_spec_ReadState_J1 s.b s.at_ s.bad fs n rc2 xs false) := by
    intro n fs r s rc1 rc2 he hx hfl hnm
    unfold f_impl_ReadState_J1 f_spec_ReadState_J1
    rw [if_neg Bool.false_ne_true, if_neg Bool.false_ne_true]
    obtain ⟨r1, s1, x1, a1, b1, he1, hb1, hx0, hx1, hm1, _⟩ := number_eq he
    have f0 : ({ b := r.b, bad := r.bad } : GbyteReader) = r := rfl
    have g0 : ({ b := s.b, at_ := s.at_, bad := s.bad } : Gl09Reader) = s := rfl
    rw [f0, g0, a1, b1, obind_some, obind_some]
    refine rs_L2 hfl hnm hxs (xs.length + 1) BIG BIG x1 [] r1 s1 (by rw [BIG_eq]; omega) (by rw [BIG_eq]; omega) he1 (by rw [hb1, hx]) (fun h => ?_) hx0 hx1 (by simp; omega) (by simp)
    have := (he1.pos h).1
    omega
  intro m
  induction m with
  | zero =>
    intro k k' n fs r s hk hk' he hx hm hn0 hn1 hfl hnm
    obtain ⟨k, rfl⟩ : ∃ j, k = j + 1 := ⟨k - 1, by omega⟩
    obtain ⟨k', rfl⟩ : ∃ j, k' = j + 1 := ⟨k' - 1, by omega⟩
    have hbad : s.bad = true := by
      cases h : s.bad with
      | true => rfl
      | false => have := hm h; have := he.pos h; rw [hx] at this; omega
    rw [f_impl_ReadState_L0, f_spec_ReadState_L0]
    have h2 := hend n fs r s (f_impl_ReadState_L0 k) (f_spec_ReadState_L0 xs k') he hx (by omega) hnm
    by_cases hn : 0 < n
    · rw [if_pos hn, if_pos hn]
      have e1 : (!r.bad) = false := by rw [he.bad, hbad]; rfl
      have e2 : (!s.bad) = false := by rw [hbad]; rfl
      rw [e1, e2]; exact h2
    · rw [if_neg hn, if_neg hn]; exact h2
  | succ m ih =>
    intro k k' n fs r s hk hk' he hx hm hn0 hn1 hfl hnm
    obtain ⟨k, rfl⟩ : ∃ j, k = j + 1 := ⟨k - 1, by omega⟩
    obtain ⟨k', rfl⟩ : ∃ j, k' = j + 1 := ⟨k' - 1, by omega⟩
    rw [f_impl_ReadState_L0, f_spec_ReadState_L0]
    have h2 := hend n fs r s (f_impl_ReadState_L0 k) (f_spec_ReadState_L0 xs k') he hx (by omega) hnm
    by_cases hn : 0 < n
    · rw [if_pos hn, if_pos hn]
      cases hbad : s.bad with
      | true =>
        rw [he.bad, hbad] at h2 ⊢
        exact h2
      | false =>
        rw [he.bad, hbad]
        unfold f_impl_ReadState_J1 f_spec_ReadState_J1
        rw [if_pos (by rfl), if_pos (by rfl)]
        have er : ({ b := r.b, bad := false } : GbyteReader) = r := by rw [← hbad, ← he.bad]
        have es : ({ b := s.b, at_ := s.at_, bad := false } : Gl09Reader) = s := by rw [← hbad]
        rw [er, es]
        obtain ⟨r1, s1, x1, a1, b1, he1, hb1, hm1, _, hxl1⟩ := text_eq he
        obtain ⟨r2, s2, x2, a2, b2, he2, hb2, _, _, hm2, _⟩ := number_eq he1
        obtain ⟨r3, s3, x3, a3, b3, he3, hb3, hm3, _, hxl3⟩ := text_eq he2
        have f1 : ({ b := r1.b, bad := r1.bad } : GbyteReader) = r1 := rfl
        have f2 : ({ b := r2.b, bad := r2.bad } : GbyteReader) = r2 := rfl
        have g1 : ({ b := s1.b, at_ := s1.at_, bad := s1.bad } : Gl09Reader) = s1 := rfl
        have g2 : ({ b := s2.b, at_ := s2.at_, bad := s2.bad } : Gl09Reader) = s2 := rfl
        rw [a1, b1, obind_some, obind_some]
        simp only [f1, g1]
        rw [a2, b2, obind_some, obind_some]
        simp only [f2, g2]
        rw [a3, b3, obind_some, obind_some, chk_pos (by simp; omega), chk_pos (by omega), chk_pos (by simp; omega), chk_pos (by omega)]
        refine ih k k' (n - 1) _ r3 s3 (by omega) (by omega) he3 (by rw [hb3, hb2, hb1, hx]) (fun h5 => ?_) (by omega) (by omega) (by simp; omega) (fun x hx => ?_)
        · obtain ⟨p2, q2⟩ := hm3 h5
          obtain ⟨p1, q1⟩ := hm2 p2
          obtain ⟨p0, q0⟩ := hm1 p1
          have := hm p0
          omega
        · rcases List.mem_append.1 hx with h | h
          · exact hnm x h
          · rcases List.mem_singleton.1 h with rfl
            simp only; omega
    · rw [if_neg hn, if_neg hn]; exact h2
theorem readState_eq (xs : List UInt8) : Both (f_impl_ReadState xs) (f_spec_ReadState xs) := by
  unfold f_impl_ReadState f_spec_ReadState f_impl_longBytes f_impl_unless
  by_cases h : (65536 : Int) < xs.length
  · rw [if_pos h, if_neg (bd_f (by omega)), obind_some, obind_some, if_neg (by decide)]
    exact ⟨_, rfl, rfl, sbd_nil⟩
  · rw [if_neg h, if_pos (decide_eq_true (by omega)), obind_some, obind_some, if_pos rfl]
    have he : RdEq { b := xs, bad := false } { b := xs, at_ := 0, bad := false } := ⟨rfl, fun _ => ⟨by simp, by simp, by simp⟩, by simp only; omega, by simp only; omega⟩
    obtain ⟨r1, s1, x1, a1, b1, he1, hb1, hx0, hx1, hm1, _⟩ := number_eq he
    rw [a1, b1, obind_some, obind_some]
    refine rs_L0 (by omega) (xs.length + 1) BIG BIG x1 [] r1 s1 (by rw [BIG_eq]; omega) (by rw [BIG_eq]; omega) he1 hb1 (fun h => ?_) hx0 hx1 (by simp; omega) (by simp)
    have := (he1.pos h).1
    omega
end Go.Proofs.YtmodhnkjimpkbaaAb
