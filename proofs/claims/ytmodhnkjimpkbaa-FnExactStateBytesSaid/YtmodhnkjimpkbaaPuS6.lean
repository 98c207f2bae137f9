import Derived.Test.YtmodhnkjimpkbaaPuS5
set_option linter.all false
namespace Go.Proofs.YtmodhnkjimpkbaaAb
open Go
theorem of_pB {p : Prop} (h : pB p = true) : p := by
  by_cases hp : p
  · exact hp
  · rw [pB_f hp] at h; cases h
structure FOk (f : GFile) : Prop where
  name : f.Name.length ≤ 40
  v0 : 0 ≤ f.Version
  v1 : f.Version ≤ 1000000
  text : f.Text.length ≤ 8000
structure SOk (x : GSession) : Prop where
  c0 : 0 ≤ x.Client
  c1 : x.Client ≤ 1000000
  s0 : 0 ≤ x.Seq
  s1 : x.Seq ≤ 1000000
  k0 : 0 ≤ x.Reply.Code
  k1 : x.Reply.Code ≤ 15
  v0 : 0 ≤ x.Reply.Version
  v1 : x.Reply.Version ≤ 1000000
  sha : x.Reply.Sha.length ≤ 64
theorem reply_true {r : GReply} (hl : r.Sha.length ≤ 1000000000) (h : f_spec_l09Reply r = some true) : 0 ≤ r.Code ∧ r.Code ≤ 15 ∧ 0 ≤ r.Version ∧ r.Version ≤ 1000000 ∧ r.Sha.length ≤ 64 := by
  unfold f_spec_l09Reply at h
  rw [in_m, obind_some] at h
  by_cases h1 : 0 ≤ r.Code ∧ r.Code ≤ 15
  · rw [if_pos (decide_eq_true h1), in_m, obind_some] at h
    by_cases h2 : 0 ≤ r.Version ∧ r.Version ≤ 1000000
    · rw [if_pos (decide_eq_true h2), sha_s hl, obind_some] at h
      by_cases h3 : pB (hexFrom (lst r.Sha) 0 ∧ ((lst r.Sha).length = 64 ∨ (lst r.Sha).length = 0)) = true
      · have h4 := (of_pB h3).2
        have h5 : r.Sha.length = 64 ∨ r.Sha.length = 0 := h4
        exact ⟨h1.1, h1.2, h2.1, h2.2, by omega⟩
      · rw [if_neg h3] at h; simp at h
    · rw [if_neg (bd_f h2)] at h; simp at h
  · rw [if_neg (bd_f h1)] at h; simp at h
theorem sess_true {st : GState} (hb : SBd st) : ∀ (m k i : Nat), st.Sessions.length - i = m → m + 1 ≤ k → i ≤ st.Sessions.length → f_spec_StateOK_L3 st k (i : Int) = some true → ∀ x ∈ st.Sessions.drop i, SOk x := by
  have hsl := hb.sess
  intro m
  induction m with
  | zero =>
    intro k i hm hk hi h x hx
    rw [List.drop_of_length_le (by omega)] at hx; cases hx
  | succ m ih =>
    intro k i hm hk hi h
    obtain ⟨k, rfl⟩ : ∃ j, k = j + 1 := ⟨k - 1, by omega⟩
    have hlt : i < st.Sessions.length := by omega
    have e : ((i : Int) + 1) = ((i + 1 : Nat) : Int) := by omega
    have hsha := hb.shas _ (List.getElem_mem hlt)
    rw [f_spec_StateOK_L3, if_pos (by omega), idx_nat hlt, obind_some] at h
    rw [List.drop_eq_getElem_cons hlt]
    generalize st.Sessions[i] = x at *
    have hrp : ({ Code := x.Reply.Code, Version := x.Reply.Version, Sha := x.Reply.Sha } : GReply) = x.Reply := rfl
    rw [hrp, in_m, in_m, slc_head (by omega) (by omega)] at h
    simp only [obind_some, Int.toNat_natCast] at h
    rw [session_s (by rw [List.length_take]; omega)] at h
    simp only [obind_some] at h
    unfold f_spec_StateOK_J4 at h
    rw [chk_pos (by omega), e] at h
    obtain ⟨b, hr⟩ := reply_some hsha
    rw [hr] at h
    simp only [obind_some] at h
    by_cases h1 : 1 ≤ x.Client ∧ x.Client ≤ 1000000
    · by_cases h2 : 1 ≤ x.Seq ∧ x.Seq ≤ 1000000
      · by_cases h3 : (0 : Int) ≤ firstIx (fun f : GSession => decide (f.Client = x.Client)) (st.Sessions.take i) 0
        · simp [h1, h2, h3] at h
        · cases b
          · simp [h1, h2, h3] at h
          · simp [h1, h2, h3] at h
            obtain ⟨a1, a2, a3, a4, a5⟩ := reply_true hsha hr
            intro y hy
            rcases List.mem_cons.1 hy with rfl | hy
            · exact ⟨by omega, by omega, by omega, by omega, a1, a2, a3, a4, a5⟩
            · exact ih k (i + 1) (by omega) (by omega) (by omega) (by simpa using h) y hy
      · simp [h1, h2] at h
    · simp [h1] at h
theorem files_true {st : GState} (hb : SBd st) : ∀ (m k i : Nat), st.Files.length - i = m → m + 1 ≤ k → i ≤ st.Files.length → f_spec_StateOK_L1 st k (i : Int) = some true → (∀ x ∈ st.Files.drop i, FOk x) ∧ ∀ x ∈ st.Sessions, SOk x := by
  have hsl := hb.files
  intro m
  induction m with
  | zero =>
    intro k i hm hk hi h
    obtain ⟨k, rfl⟩ : ∃ j, k = j + 1 := ⟨k - 1, by omega⟩
    rw [f_spec_StateOK_L1, if_neg (by omega)] at h
    have hs := hb.sess
    have := sess_true hb st.Sessions.length BIG 0 (by omega) (by rw [BIG_eq]; omega) (by omega) h
    rw [List.drop_zero] at this
    exact ⟨fun x hx => (by rw [List.drop_of_length_le (by omega)] at hx; cases hx), this⟩
  | succ m ih =>
    intro k i hm hk hi h
    obtain ⟨k, rfl⟩ : ∃ j, k = j + 1 := ⟨k - 1, by omega⟩
    have hlt : i < st.Files.length := by omega
    have e : ((i : Int) + 1) = ((i + 1 : Nat) : Int) := by omega
    have hnm := hb.names _ (List.getElem_mem hlt)
    rw [f_spec_StateOK_L1, if_pos (by omega), idx_nat hlt, obind_some] at h
    rw [List.drop_eq_getElem_cons hlt]
    generalize st.Files[i] = x at *
    rw [name_s _ hnm, in_m, slc_head (by omega) (by omega)] at h
    simp only [obind_some, Int.toNat_natCast] at h
    rw [file_s (by rw [List.length_take]; omega)] at h
    simp only [obind_some] at h
    unfold f_spec_StateOK_J2 at h
    rw [chk_pos (by omega), e] at h
    by_cases h0 : nameP x.Name
    · rw [pB_t h0] at h
      by_cases h2 : 1 ≤ x.Version ∧ x.Version ≤ 1000000
      · by_cases h3 : (0 : Int) ≤ firstIx (fun f : GFile => decide (lst f.Name = lst x.Name)) (st.Files.take i) 0
        · simp [h2, h3] at h
        · by_cases h5 : (8000 : Int) < (x.Text.length : Int)
          · simp [h2, h3, h5] at h
          · simp [h2, h3, h5] at h
            obtain ⟨r1, r2⟩ := ih k (i + 1) (by omega) (by omega) (by omega) (by simpa using h)
            have hn := h0.1.2
            have hn2 : x.Name.length ≤ 40 := hn
            refine ⟨fun y hy => ?_, r2⟩
            rcases List.mem_cons.1 hy with rfl | hy
            · exact ⟨hn2, by omega, by omega, by omega⟩
            · exact r1 y hy
      · simp [h2] at h
    · rw [pB_f h0] at h; simp at h
theorem stateOK_true {st : GState} (hb : SBd st) (h : f_spec_StateOK st = some true) : st.Files.length ≤ 20 ∧ st.Sessions.length ≤ 200 ∧ (∀ x ∈ st.Files, FOk x) ∧ ∀ x ∈ st.Sessions, SOk x := by
  have hf := hb.files
  unfold f_spec_StateOK f_spec_StateOK_J0 at h
  by_cases h1 : (20 : Int) < st.Files.length
  · rw [if_pos h1] at h; simp at h
  rw [if_neg h1] at h
  by_cases h2 : (200 : Int) < st.Sessions.length
  · rw [decide_eq_true h2] at h; simp at h
  rw [if_neg (bd_f h2)] at h
  have := files_true hb st.Files.length BIG 0 (by omega) (by rw [BIG_eq]; omega) (by omega) h
  rw [List.drop_zero] at this
  exact ⟨by omega, by omega, this.1, this.2⟩
theorem stateOK_some {st : GState} (hb : SBd st) : ∃ b, f_spec_StateOK st = some b := by
  have hf := hb.files
  have hs := hb.sess
  have k3 : ∀ (m k i : Nat), st.Sessions.length - i = m → m + 1 ≤ k → i ≤ st.Sessions.length → ∃ b, f_spec_StateOK_L3 st k (i : Int) = some b := by
    intro m
    induction m with
    | zero =>
      intro k i hm hk hi
      obtain ⟨k, rfl⟩ : ∃ j, k = j + 1 := ⟨k - 1, by omega⟩
      rw [f_spec_StateOK_L3, if_neg (by omega)]; exact ⟨_, rfl⟩
    | succ m ih =>
      intro k i hm hk hi
      obtain ⟨k, rfl⟩ : ∃ j, k = j + 1 := ⟨k - 1, by omega⟩
      have hlt : i < st.Sessions.length := by omega
      have e : ((i : Int) + 1) = ((i + 1 : Nat) : Int) := by omega
      have hsha := hb.shas _ (List.getElem_mem hlt)
      rw [f_spec_StateOK_L3, if_pos (by omega), idx_nat hlt, obind_some]
      generalize st.Sessions[i] = x at *
      have hrp : ({ Code := x.Reply.Code, Version := x.Reply.Version, Sha := x.Reply.Sha } : GReply) = x.Reply := rfl
      rw [hrp, in_m, in_m, slc_head (by omega) (by omega)]
      simp only [obind_some, Int.toNat_natCast]
      rw [session_s (by rw [List.length_take]; omega)]
      simp only [obind_some]
      unfold f_spec_StateOK_J4
      rw [chk_pos (by omega), e]
      obtain ⟨b, hr⟩ := reply_some hsha
      obtain ⟨c, hc⟩ := ih k (i + 1) (by omega) (by omega) (by omega)
      rw [hr, hc]
      simp only [obind_some]
      repeat' split
      all_goals exact ⟨_, rfl⟩
  have k1 : ∀ (m k i : Nat), st.Files.length - i = m → m + 1 ≤ k → i ≤ st.Files.length → ∃ b, f_spec_StateOK_L1 st k (i : Int) = some b := by
    intro m
    induction m with
    | zero =>
      intro k i hm hk hi
      obtain ⟨k, rfl⟩ : ∃ j, k = j + 1 := ⟨k - 1, by omega⟩
      rw [f_spec_StateOK_L1, if_neg (by omega)]
      exact k3 st.Sessions.length BIG 0 (by omega) (by rw [BIG_eq]; omega) (by omega)
    | succ m ih =>
      intro k i hm hk hi
      obtain ⟨k, rfl⟩ : ∃ j, k = j + 1 := ⟨k - 1, by omega⟩
      have hlt : i < st.Files.length := by omega
      have e : ((i : Int) + 1) = ((i + 1 : Nat) : Int) := by omega
      have hnm := hb.names _ (List.getElem_mem hlt)
      rw [f_spec_StateOK_L1, if_pos (by omega), idx_nat hlt, obind_some]
      generalize st.Files[i] = x at *
      rw [name_s _ hnm, in_m, slc_head (by omega) (by omega)]
      simp only [obind_some, Int.toNat_natCast]
      rw [file_s (by rw [List.length_take]; omega)]
      simp only [obind_some]
      unfold f_spec_StateOK_J2
      rw [chk_pos (by omega), e]
      obtain ⟨c, hc⟩ := ih k (i + 1) (by omega) (by omega) (by omega)
      rw [hc]
      repeat' split
      all_goals exact ⟨_, rfl⟩
  unfold f_spec_StateOK f_spec_StateOK_J0
  obtain ⟨c, hc⟩ := k1 st.Files.length BIG 0 (by omega) (by rw [BIG_eq]; omega) (by omega)
  have hc2 : f_spec_StateOK_L1 st BIG 0 = some c := hc
  rw [hc2]
  repeat' split
  all_goals exact ⟨_, rfl⟩
end Go.Proofs.YtmodhnkjimpkbaaAb
