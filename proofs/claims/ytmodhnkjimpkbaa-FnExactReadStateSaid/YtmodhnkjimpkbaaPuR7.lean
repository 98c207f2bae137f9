import Derived.Test.YtmodhnkjimpkbaaPuR6
set_option linter.all false
namespace Go.Proofs.YtmodhnkjimpkbaaAb
open Go
theorem markSess_m {xs : List GSession} (hl : xs.length ≤ 1048576) {q : Int} (h0 : 0 ≤ q) (h1 : q ≤ 1000000000) : ∃ ys, f_laws_markSessionS xs q = some (ys, q + 5 * xs.length) ∧ ys.length = xs.length ∧ ∀ j, j < ys.length → ys[j]? = some (eS q j) := by
  unfold f_laws_markSessionS
  have key : ∀ (m k i : Nat) (ys : List GSession), xs.length - i = m → m + 1 ≤ k → i ≤ xs.length → ys.length = xs.length → (∀ j, j < i → ys[j]? = some (eS q j)) → ∃ zs, f_laws_markSessionS_L0 xs k ys (q + 5 * i) (i : Int) = some (zs, q + 5 * xs.length) ∧ zs.length = xs.length ∧ ∀ j, j < zs.length → zs[j]? = some (eS q j) := by
    intro m
    induction m with
    | zero =>
      intro k i ys hm hk hi hy he
      obtain ⟨k, rfl⟩ : ∃ j, k = j + 1 := ⟨k - 1, by omega⟩
      have hil : i = xs.length := by omega
      subst hil
      rw [f_laws_markSessionS_L0, if_neg (by omega)]
      exact ⟨ys, rfl, hy, fun j hj => he j (by omega)⟩
    | succ m ih =>
      intro k i ys hm hk hi hy he
      obtain ⟨k, rfl⟩ : ∃ j, k = j + 1 := ⟨k - 1, by omega⟩
      have hlt : i < ys.length := by omega
      have e : ((i : Int) + 1) = ((i + 1 : Nat) : Int) := by omega
      have e5 : q + 5 * (i : Int) + 1 + 1 + 1 + 1 + 1 = q + 5 * ((i + 1 : Nat) : Int) := by omega
      have e4 : q + 5 * (i : Int) + 1 + 1 + 1 + 1 = q + 5 * (i : Int) + 4 := by omega
      have e3 : q + 5 * (i : Int) + 1 + 1 + 1 = q + 5 * (i : Int) + 3 := by omega
      have e2 : q + 5 * (i : Int) + 1 + 1 = q + 5 * (i : Int) + 2 := by omega
      rw [f_laws_markSessionS_L0, if_pos (by omega), idx_nat hlt, obind_some, chk_pos (by omega), idx_setI hlt, obind_some, chk_pos (by omega), setI_setI, idx_setI hlt, obind_some, chk_pos (by omega), setI_setI, idx_setI hlt, obind_some, chk_pos (by omega), setI_setI, markText_m (by omega) (by omega), obind_some, idx_setI hlt, obind_some, chk_pos (by omega), chk_pos (by omega), setI_setI, e, e5]
      refine ih k (i + 1) _ (by omega) (by omega) (by omega) (by unfold setI; rw [List.length_set]; exact hy) fun j hj => ?_
      unfold setI
      rw [Int.toNat_natCast]
      by_cases hji : j = i
      · subst hji
        rw [List.getElem?_set_self hlt, e4, e3, e2]
        rfl
      · rw [List.getElem?_set_ne (by omega)]; exact he j (by omega)
  have := key xs.length BIG 0 xs (by omega) (by rw [BIG_eq]; omega) (by omega) rfl (fun j hj => by omega)
  simpa using this
theorem heldSess_m {ys : List GSession} (hl : ys.length ≤ 1048576) {q : Int} (h0 : 0 ≤ q) (h1 : q ≤ 1000000000) (he : ∀ j, j < ys.length → ys[j]? = some (eS q j)) : f_laws_heldSessionS ys q = some (q + 5 * ys.length) := by
  unfold f_laws_heldSessionS
  have key : ∀ (m k i : Nat), ys.length - i = m → m + 1 ≤ k → i ≤ ys.length → f_laws_heldSessionS_L0 ys k (q + 5 * i) (i : Int) = some (q + 5 * ys.length) := by
    intro m
    induction m with
    | zero =>
      intro k i hm hk hi
      obtain ⟨k, rfl⟩ : ∃ j, k = j + 1 := ⟨k - 1, by omega⟩
      have hil : i = ys.length := by omega
      subst hil
      rw [f_laws_heldSessionS_L0, if_neg (by omega)]
    | succ m ih =>
      intro k i hm hk hi
      obtain ⟨k, rfl⟩ : ∃ j, k = j + 1 := ⟨k - 1, by omega⟩
      have hlt : i < ys.length := by omega
      have e : ((i : Int) + 1) = ((i + 1 : Nat) : Int) := by omega
      have hx : idx ys (i : Int) = some (eS q i) := by
        rw [idx_nat hlt]
        have := he i hlt
        rwa [List.getElem?_eq_getElem hlt] at this
      have e5 : q + 5 * (i : Int) + 1 + 1 + 1 + 1 + 1 = q + 5 * ((i + 1 : Nat) : Int) := by omega
      have e4 : q + 5 * (i : Int) + 1 + 1 + 1 + 1 = q + 5 * (i : Int) + 4 := by omega
      have e3 : q + 5 * (i : Int) + 1 + 1 + 1 = q + 5 * (i : Int) + 3 := by omega
      have e2 : q + 5 * (i : Int) + 1 + 1 = q + 5 * (i : Int) + 2 := by omega
      rw [f_laws_heldSessionS_L0, if_pos (by omega), hx]
      simp only [obind_some]
      rw [if_pos (by rfl), chk_pos (by omega), if_pos (by rfl), chk_pos (by omega), if_pos (by rw [e2]; rfl), chk_pos (by omega), if_pos (by rw [e3]; rfl), chk_pos (by omega), markText_m (by omega) (by omega), obind_some, if_pos (by rw [e4]; rfl), chk_pos (by omega), chk_pos (by omega), e, e5]
      exact ih k (i + 1) (by omega) (by omega) (by omega)
  have := key ys.length BIG 0 (by omega) (by rw [BIG_eq]; omega) (by omega)
  simpa using this
theorem heldState_m {fs : List GFile} {ss : List GSession} (hf : fs.length ≤ 1048576) (hs : ss.length ≤ 1048576) (h1 : ∀ j, j < fs.length → fs[j]? = some (eF 1 j)) (h2 : ∀ j, j < ss.length → ss[j]? = some (eS (1 + 3 * fs.length) j)) : f_laws_heldState { Files := fs, Sessions := ss } 1 = some ((1 : Int) + 3 * (fs.length : Int) + 5 * (ss.length : Int)) := by
  unfold f_laws_heldState
  simp only
  rw [heldFile_m hf (by omega) (by omega) h1, obind_some, if_neg (by omega), heldSess_m hs (by omega) (by omega) h2, obind_some, if_neg (by omega)]
theorem bd_of {st : GState} (h : SBd st) : Bd.bd BS20 st := ⟨⟨h.files, fun _ _ => trivial⟩, ⟨h.sess, fun _ _ => trivial⟩⟩
theorem FnExactReadState_m (xs : List UInt8) : f_laws_FnExactReadState xs = some true := by
  unfold f_laws_FnExactReadState
  by_cases h : (1048576 : Int) < xs.length
  · rw [if_pos h]
  rw [if_neg h]
  have hbd : Bd.bd BS20 xs := ⟨by unfold BS20; omega, fun _ _ => trivial⟩
  obtain ⟨⟨st, code⟩, e1, e2, hst⟩ := readState_eq xs
  simp only at hst
  have hst2 : ({ Files := st.Files, Sessions := st.Sessions } : GState) = st := rfl
  have hf := hst.files
  have hs := hst.sess
  rw [to_ByteS xs hbd]
  simp only [obind_some]
  rw [e1, e2]
  simp only [obind_some, hst2]
  rw [eq_State st (bd_of hst)]
  simp only [obind_some]
  rw [if_neg (by simp)]
  have hJ2 : ∀ (a : List GFile × Int) (b : List GSession × Int), f_laws_heldState { Files := a.1, Sessions := b.1 } 1 = some b.2 → 0 ≤ b.2 → f_laws_FnExactReadState_J2 a b false = some true := by
    intro a b h1 h2
    unfold f_laws_FnExactReadState_J2
    rw [if_neg (by simp), h1, obind_some, if_neg (by omega), if_pos rfl]
  have hJ1 : f_laws_FnExactReadState_J1 (st, code) xs (st, code) false = some true := by
    unfold f_laws_FnExactReadState_J1
    simp only
    rw [if_neg (by simp)]
    obtain ⟨fs, m1, m2, m3⟩ := markFile_m hf (q := 1) (by omega) (by omega)
    rw [m1]
    simp only [obind_some]
    obtain ⟨ss, n1, n2, n3⟩ := markSess_m hs (q := 1 + 3 * st.Files.length) (by omega) (by omega)
    rw [n1]
    simp only [obind_some]
    have hh : f_laws_heldState { Files := fs, Sessions := ss } 1 = some ((1 : Int) + 3 * (st.Files.length : Int) + 5 * (st.Sessions.length : Int)) := by
      have := heldState_m (fs := fs) (ss := ss) (by omega) (by omega) m3 (by rw [m2]; exact n3)
      rw [m2, n2] at this
      exact this
    rw [hh]
    simp only [obind_some]
    rw [if_neg (by omega), if_pos trivial, to_ByteS xs hbd]
    simp only [obind_some]
    rw [e1]
    simp only [obind_some, hst2]
    rw [eq_State st (bd_of hst)]
    simp only [obind_some]
    rw [if_neg (by simp)]
    exact hJ2 (fs, _) (ss, _) hh (by simp only; omega)
  unfold f_laws_FnExactReadState_J0
  simp only
  rw [if_neg (by simp), to_ByteS xs hbd]
  simp only [obind_some]
  rw [eq_ByteS xs hbd]
  simp only [obind_some]
  rw [if_neg (by simp)]
  obtain ⟨ys, hm⟩ := markByte_m (xs := xs) (by omega) (q := 1) (by omega) (by omega)
  rw [hm]
  simp only [obind_some, hst2]
  rw [if_neg (by omega), eq_State st (bd_of hst)]
  simp only [obind_some]
  rw [if_neg (by simp)]
  exact hJ1
end Go.Proofs.YtmodhnkjimpkbaaAb
