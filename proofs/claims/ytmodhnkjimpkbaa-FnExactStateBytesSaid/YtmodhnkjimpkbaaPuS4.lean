import Derived.Test.YtmodhnkjimpkbaaPuS3
set_option linter.all false
namespace Go.Proofs.YtmodhnkjimpkbaaAb
open Go
def firstIx {α : Type} (p : α → Bool) : List α → Nat → Int
  | [], _ => -1
  | x :: xs, j => if p x = true then (j : Int) else firstIx p xs (j + 1)
theorem firstIx_lt {α : Type} {p : α → Bool} : ∀ (xs : List α) (j : Nat), 0 ≤ firstIx p xs j ↔ ∃ x ∈ xs, p x = true
  | [], j => by simp [firstIx]
  | x :: xs, j => by
    unfold firstIx
    by_cases h : p x = true
    · rw [if_pos h]; exact ⟨fun _ => ⟨x, List.mem_cons_self .., h⟩, fun _ => by omega⟩
    · rw [if_neg h, firstIx_lt xs (j + 1)]
      constructor
      · rintro ⟨y, hy, hp⟩; exact ⟨y, List.mem_cons_of_mem _ hy, hp⟩
      · rintro ⟨y, hy, hp⟩
        rcases List.mem_cons.1 hy with rfl | hy
        · exact absurd hp h
        · exact ⟨y, hy, hp⟩
theorem firstIx_at {α : Type} {p : α → Bool} : ∀ (xs : List α) (i j : Nat) (h : i < xs.length), p xs[i] = true → (firstIx p xs j = ((j + i : Nat) : Int) ↔ ¬ 0 ≤ firstIx p (xs.take i) 0)
  | x :: xs, 0, j, h, hp => by
    simp only [List.getElem_cons_zero] at hp
    unfold firstIx
    rw [if_pos hp]
    simp [firstIx]
  | x :: xs, i + 1, j, h, hp => by
    simp only [List.getElem_cons_succ] at hp
    have hi : i < xs.length := by simpa using h
    have ih := firstIx_at xs i (j + 1) hi hp
    rw [firstIx_lt] at ih ⊢
    rw [List.take_succ_cons]
    unfold firstIx
    by_cases hx : p x = true
    · rw [if_pos hx]
      constructor
      · intro h; omega
      · intro h; exact absurd ⟨x, List.mem_cons_self .., hx⟩ h
    · rw [if_neg hx]
      have e : ((j + (i + 1) : Nat) : Int) = ((j + 1 + i : Nat) : Int) := by omega
      rw [e, ih]
      constructor
      · rintro h ⟨y, hy, hpy⟩
        rcases List.mem_cons.1 hy with rfl | hy
        · exact hx hpy
        · exact h ⟨y, hy, hpy⟩
      · rintro h ⟨y, hy, hpy⟩
        exact h ⟨y, List.mem_cons_of_mem _ hy, hpy⟩
theorem ix_loop {α : Type} {P : α → Prop} [DecidablePred P] {xs : List α} (hl : xs.length ≤ 1000000000) {L : Nat → Int → Option Int}
    (hL : ∀ k i, L (k + 1) i = if i < (xs.length : Int) then (idx xs i).bind fun x => if P x then some i else chk (-9223372036854775808 ≤ i + 1 ∧ i + 1 < 9223372036854775808) (L k (i + 1)) else some (-1)) : L BIG 0 = some (firstIx (fun x => decide (P x)) xs 0) := by
  have key : ∀ (m k i : Nat), xs.length - i = m → m + 1 ≤ k → i ≤ xs.length → L k (i : Int) = some (firstIx (fun x => decide (P x)) (xs.drop i) i) := by
    intro m
    induction m with
    | zero =>
      intro k i hm hk hi
      obtain ⟨k, rfl⟩ : ∃ j, k = j + 1 := ⟨k - 1, by omega⟩
      rw [hL, if_neg (by omega), List.drop_of_length_le (by omega)]; rfl
    | succ m ih =>
      intro k i hm hk hi
      obtain ⟨k, rfl⟩ : ∃ j, k = j + 1 := ⟨k - 1, by omega⟩
      have hlt : i < xs.length := by omega
      have e : ((i : Int) + 1) = ((i + 1 : Nat) : Int) := by omega
      rw [hL, if_pos (by omega), idx_nat hlt, obind_some, List.drop_eq_getElem_cons hlt]
      unfold firstIx
      by_cases h : P xs[i]
      · rw [if_pos h, if_pos (decide_eq_true h)]
      · rw [if_neg h, if_neg (bd_f h), chk_pos (by omega), e, ih k (i + 1) (by omega) (by omega) (by omega)]
  exact key xs.length BIG 0 (by omega) (by rw [BIG_eq]; omega) (by omega)
theorem file_i {st : GState} (hl : st.Files.length ≤ 1000000000) (nm : Str) : f__impl_State_file st nm = some (firstIx (fun f : GFile => decide (lst f.Name = lst nm)) st.Files 0) := by
  unfold f__impl_State_file
  exact ix_loop (P := fun f : GFile => lst f.Name = lst nm) (L := f__impl_State_file_L0 st nm) hl fun k i => rfl
theorem file_s {xs : List GFile} (hl : xs.length ≤ 1000000000) (nm : Str) : f_spec_l09File xs nm = some (firstIx (fun f : GFile => decide (lst f.Name = lst nm)) xs 0) := by
  unfold f_spec_l09File
  exact ix_loop (P := fun f : GFile => lst f.Name = lst nm) (L := f_spec_l09File_L0 xs nm) hl fun k i => rfl
theorem session_i {st : GState} (hl : st.Sessions.length ≤ 1000000000) (c : Int) : f__impl_State_session st c = some (firstIx (fun f : GSession => decide (f.Client = c)) st.Sessions 0) := by
  unfold f__impl_State_session
  exact ix_loop (P := fun f : GSession => f.Client = c) (L := f__impl_State_session_L0 st c) hl fun k i => rfl
theorem session_s {xs : List GSession} (hl : xs.length ≤ 1000000000) (c : Int) : f_spec_l09Session xs c = some (firstIx (fun f : GSession => decide (f.Client = c)) xs 0) := by
  unfold f_spec_l09Session
  exact ix_loop (P := fun f : GSession => f.Client = c) (L := f_spec_l09Session_L0 xs c) hl fun k i => rfl
theorem reply_some {r : GReply} (hl : r.Sha.length ≤ 1000000000) : ∃ b, f_spec_l09Reply r = some b := by
  rw [← reply_eq hl]
  unfold f_impl_replyOK
  rw [isCount_m, obind_some, sha_i hl, within_m]
  simp only [obind_some]
  split
  · split
    · exact ⟨_, rfl⟩
    · exact ⟨_, rfl⟩
  · split
    · split
      · exact ⟨_, rfl⟩
      · exact ⟨_, rfl⟩
    · exact ⟨_, rfl⟩
structure SBd (st : GState) : Prop where
  files : st.Files.length ≤ 1048576
  sess : st.Sessions.length ≤ 1048576
  names : ∀ f ∈ st.Files, f.Name.length ≤ 1000000000
  shas : ∀ x ∈ st.Sessions, x.Reply.Sha.length ≤ 1000000000
theorem stateOK_L3 {st : GState} (hb : SBd st) : ∀ (m k k' i : Nat), st.Sessions.length - i = m → m + 1 ≤ k → m + 1 ≤ k' → i ≤ st.Sessions.length → f_impl_StateOK_L3 st k (i : Int) = f_spec_StateOK_L3 st k' (i : Int) := by
  have hsl := hb.sess
  intro m
  induction m with
  | zero =>
    intro k k' i hm hk hk' hi
    obtain ⟨k, rfl⟩ : ∃ j, k = j + 1 := ⟨k - 1, by omega⟩
    obtain ⟨k', rfl⟩ : ∃ j, k' = j + 1 := ⟨k' - 1, by omega⟩
    rw [f_impl_StateOK_L3, f_spec_StateOK_L3, if_neg (by omega), if_neg (by omega)]
  | succ m ih =>
    intro k k' i hm hk hk' hi
    obtain ⟨k, rfl⟩ : ∃ j, k = j + 1 := ⟨k - 1, by omega⟩
    obtain ⟨k', rfl⟩ : ∃ j, k' = j + 1 := ⟨k' - 1, by omega⟩
    have hlt : i < st.Sessions.length := by omega
    have e : ((i : Int) + 1) = ((i + 1 : Nat) : Int) := by omega
    have hat := firstIx_at (p := fun f : GSession => decide (f.Client = st.Sessions[i].Client)) st.Sessions i 0 hlt (by simp)
    rw [Nat.zero_add] at hat
    have hsha := hb.shas _ (List.getElem_mem hlt)
    rw [f_impl_StateOK_L3, f_spec_StateOK_L3, if_pos (by omega), if_pos (by omega), idx_nat hlt, obind_some, obind_some]
    have hst : ({ Files := st.Files, Sessions := st.Sessions } : GState) = st := rfl
    generalize st.Sessions[i] = x at *
    have hrp : ({ Code := x.Reply.Code, Version := x.Reply.Version, Sha := x.Reply.Sha } : GReply) = x.Reply := rfl
    rw [hst, hrp, reply_eq hsha, isCount_m, isCount_m, in_m, in_m, session_i (by omega), slc_head (by omega) (by omega)]
    simp only [obind_some, Int.toNat_natCast]
    rw [session_s (by rw [List.length_take]; omega)]
    simp only [obind_some]
    unfold f_impl_StateOK_J4 f_spec_StateOK_J4
    have hn := ih k k' (i + 1) (by omega) (by omega) (by omega) (by omega)
    rw [chk_pos (by omega), chk_pos (by omega), e, hn]
    obtain ⟨b, hr⟩ := reply_some hsha
    rw [hr]
    · simp only [obind_some]
      by_cases h1 : 1 ≤ x.Client ∧ x.Client ≤ 1000000
      · by_cases h2 : 1 ≤ x.Seq ∧ x.Seq ≤ 1000000
        · by_cases h3 : (0 : Int) ≤ firstIx (fun f : GSession => decide (f.Client = x.Client)) (st.Sessions.take i) 0
          · have h4 : ¬ firstIx (fun f : GSession => decide (f.Client = x.Client)) st.Sessions 0 = (i : Int) := fun h => (hat.1 h) h3
            simp [h1, h2, h3, h4]
          · have h4 : firstIx (fun f : GSession => decide (f.Client = x.Client)) st.Sessions 0 = (i : Int) := hat.2 h3
            cases b <;> simp [h1, h2, h3, h4]
        · simp [h1, h2]
      · simp [h1]
theorem stateOK_L1 {st : GState} (hb : SBd st) : ∀ (m k k' i : Nat), st.Files.length - i = m → m + 1 ≤ k → m + 1 ≤ k' → i ≤ st.Files.length → f_impl_StateOK_L1 st k (i : Int) = f_spec_StateOK_L1 st k' (i : Int) := by
  have hsl := hb.files
  intro m
  induction m with
  | zero =>
    intro k k' i hm hk hk' hi
    obtain ⟨k, rfl⟩ : ∃ j, k = j + 1 := ⟨k - 1, by omega⟩
    obtain ⟨k', rfl⟩ : ∃ j, k' = j + 1 := ⟨k' - 1, by omega⟩
    rw [f_impl_StateOK_L1, f_spec_StateOK_L1, if_neg (by omega), if_neg (by omega)]
    have hs := hb.sess
    exact stateOK_L3 hb st.Sessions.length BIG BIG 0 (by omega) (by rw [BIG_eq]; omega) (by rw [BIG_eq]; omega) (by omega)
  | succ m ih =>
    intro k k' i hm hk hk' hi
    obtain ⟨k, rfl⟩ : ∃ j, k = j + 1 := ⟨k - 1, by omega⟩
    obtain ⟨k', rfl⟩ : ∃ j, k' = j + 1 := ⟨k' - 1, by omega⟩
    have hlt : i < st.Files.length := by omega
    have e : ((i : Int) + 1) = ((i + 1 : Nat) : Int) := by omega
    have hat := firstIx_at (p := fun f : GFile => decide (lst f.Name = lst st.Files[i].Name)) st.Files i 0 hlt (by simp)
    rw [Nat.zero_add] at hat
    have hnm := hb.names _ (List.getElem_mem hlt)
    rw [f_impl_StateOK_L1, f_spec_StateOK_L1, if_pos (by omega), if_pos (by omega), idx_nat hlt, obind_some, obind_some]
    have hst : ({ Files := st.Files, Sessions := st.Sessions } : GState) = st := rfl
    generalize st.Files[i] = x at *
    rw [hst, name_i, name_s _ hnm, isCount_m, in_m, file_i (by omega), slc_head (by omega) (by omega)]
    simp only [obind_some, Int.toNat_natCast]
    rw [file_s (by rw [List.length_take]; omega)]
    simp only [obind_some]
    unfold f_impl_StateOK_J2 f_spec_StateOK_J2
    have hn := ih k k' (i + 1) (by omega) (by omega) (by omega) (by omega)
    rw [chk_pos (by omega), chk_pos (by omega), e, hn]
    generalize pB (nameP x.Name) = b1
    by_cases h2 : 1 ≤ x.Version ∧ x.Version ≤ 1000000
    · by_cases h3 : (0 : Int) ≤ firstIx (fun f : GFile => decide (lst f.Name = lst x.Name)) (st.Files.take i) 0
      · have h4 : ¬ firstIx (fun f : GFile => decide (lst f.Name = lst x.Name)) st.Files 0 = (i : Int) := fun h => (hat.1 h) h3
        cases b1 <;> simp [h2, h3, h4]
      · have h4 : firstIx (fun f : GFile => decide (lst f.Name = lst x.Name)) st.Files 0 = (i : Int) := hat.2 h3
        by_cases h5 : (8000 : Int) < (x.Text.length : Int)
        · cases b1 <;> simp [h2, h3, h4, h5]
        · cases b1 <;> simp [h2, h3, h4, h5]
    · cases b1 <;> simp [h2]
theorem stateOK_eq {st : GState} (hb : SBd st) : f_impl_StateOK st = f_spec_StateOK st := by
  unfold f_impl_StateOK f_spec_StateOK
  have hf := hb.files
  have hJ : ∀ b, f_impl_StateOK_J0 st b = f_spec_StateOK_J0 st b := by
    intro b
    unfold f_impl_StateOK_J0 f_spec_StateOK_J0
    split
    · rfl
    · exact stateOK_L1 hb st.Files.length BIG BIG 0 (by omega) (by rw [BIG_eq]; omega) (by rw [BIG_eq]; omega) (by omega)
  split <;> exact hJ _
end Go.Proofs.YtmodhnkjimpkbaaAb
