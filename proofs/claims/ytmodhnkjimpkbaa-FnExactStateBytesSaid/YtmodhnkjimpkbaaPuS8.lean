import Derived.Test.YtmodhnkjimpkbaaPuS7
import Derived.Test.YtmodhnkjimpkbaaStSb
set_option linter.all false
namespace Go.Proofs.YtmodhnkjimpkbaaAb
open Go
theorem markByte_m {xs : List UInt8} (hl : xs.length ≤ 1000000000) {q : Int} (h0 : 0 ≤ q) (h1 : q ≤ 1000000000) : ∃ ys, f_laws_markByteS xs q = some (ys, q + xs.length) := by
  unfold f_laws_markByteS
  have key : ∀ (m k i : Nat) (ys : List UInt8) (z : Int), xs.length - i = m → m + 1 ≤ k → i ≤ xs.length → ys.length = xs.length → 0 ≤ z → z + m ≤ 2000000000 → ∃ zs, f_laws_markByteS_L0 xs k ys z (i : Int) = some (zs, z + m) := by
    intro m
    induction m with
    | zero =>
      intro k i ys z hm hk hi hy hz0 hz1
      obtain ⟨k, rfl⟩ : ∃ j, k = j + 1 := ⟨k - 1, by omega⟩
      rw [f_laws_markByteS_L0, if_neg (by omega)]
      exact ⟨ys, by simp⟩
    | succ m ih =>
      intro k i ys z hm hk hi hy hz0 hz1
      obtain ⟨k, rfl⟩ : ∃ j, k = j + 1 := ⟨k - 1, by omega⟩
      have hlt : i < ys.length := by omega
      have e : ((i : Int) + 1) = ((i + 1 : Nat) : Int) := by omega
      rw [f_laws_markByteS_L0, if_pos (by omega), idx_nat hlt, obind_some, chk_pos (by omega), chk_pos (by omega), e]
      obtain ⟨zs, hz⟩ := ih k (i + 1) (setI ys (i : Int) (byteOf z)) (z + 1) (by omega) (by omega) (by omega) (by unfold setI; rw [List.length_set]; exact hy) (by omega) (by omega)
      exact ⟨zs, by rw [hz]; congr 2; omega⟩
  obtain ⟨zs, hz⟩ := key xs.length BIG 0 xs q (by omega) (by rw [BIG_eq]; omega) (by omega) rfl h0 (by omega)
  exact ⟨zs, hz⟩
theorem markText_L : ∀ (m k : Nat) (acc : Str), 0 < m → m + 1 ≤ k → acc.length + m ≤ 60000000000 → ∃ t, f_laws_markText_L0 k (m : Int) acc = some t := by
  intro m
  induction m using Nat.strongRecOn with
  | _ m ih =>
    intro k acc h0 hk hl
    obtain ⟨k, rfl⟩ : ∃ j, k = j + 1 := ⟨k - 1, by omega⟩
    have e : ((m : Int) / 10) = ((m / 10 : Nat) : Int) := by omega
    have step : ∀ acc2 : Str, acc2.length = acc.length + 1 → ∃ t, f_laws_markText_L0 k ((m / 10 : Nat) : Int) acc2 = some t := by
      intro acc2 hl2
      by_cases hz : m / 10 = 0
      · obtain ⟨k, rfl⟩ : ∃ j, k = j + 1 := ⟨k - 1, by omega⟩
        rw [hz]
        refine ⟨lst ([109] : List UInt8) ++ lst acc2, ?_⟩
        have hlen : (([109] : List UInt8).length : Int) + acc2.length ≤ 68719476736 := by rw [hl2]; simp; omega
        rw [f_laws_markText_L0, if_neg (by decide)]
        exact chk_pos hlen
      · exact ih (m / 10) (by omega) k acc2 (by omega) (by omega) (by rw [hl2]; omega)
    rw [f_laws_markText_L0, if_pos (by omega), chk_pos (by omega), chk_pos (by omega), chk_pos (by simp; omega), chk_pos (by omega), e]
    exact step _ (by simp)
noncomputable def mT (q : Int) : Str := (f_laws_markText q).getD ([] : List UInt8)
theorem markText_m {q : Int} (h0 : 0 ≤ q) (h1 : q ≤ 5000000000) : f_laws_markText q = some (mT q) := by
  have h : ∃ t, f_laws_markText q = some t := by
    unfold f_laws_markText
    by_cases hz : q ≤ 0
    · rw [if_pos hz]; exact ⟨_, rfl⟩
    · rw [if_neg hz]
      obtain ⟨m, rfl⟩ := Int.eq_ofNat_of_zero_le h0
      exact markText_L m BIG _ (by omega) (by rw [BIG_eq]; omega) (by simp; omega)
  obtain ⟨t, ht⟩ := h
  unfold mT
  rw [ht]; rfl
theorem idx_setI {α : Type} {xs : List α} {i : Nat} {a : α} (h : i < xs.length) : idx (setI xs (i : Int) a) (i : Int) = some a := by
  unfold setI
  rw [Int.toNat_natCast, idx_nat (by rw [List.length_set]; exact h), List.getElem_set_self]
theorem setI_setI {α : Type} {xs : List α} {i : Int} {a b : α} : setI (setI xs i a) i b = setI xs i b := by unfold setI; rw [List.set_set]
noncomputable def eF (q : Int) (j : Nat) : GFile := { Name := mT (q + 3 * j), Version := q + 3 * j + 1, Text := mT (q + 3 * j + 2) }
noncomputable def eS (q : Int) (j : Nat) : GSession := { Client := q + 5 * j, Seq := q + 5 * j + 1, Reply := { Code := q + 5 * j + 2, Version := q + 5 * j + 3, Sha := mT (q + 5 * j + 4) } }
theorem markFile_m {xs : List GFile} (hl : xs.length ≤ 1048576) {q : Int} (h0 : 0 ≤ q) (h1 : q ≤ 1000000000) : ∃ ys, f_laws_markFileS xs q = some (ys, q + 3 * xs.length) ∧ ys.length = xs.length ∧ ∀ j, j < ys.length → ys[j]? = some (eF q j) := by
  unfold f_laws_markFileS
  have key : ∀ (m k i : Nat) (ys : List GFile), xs.length - i = m → m + 1 ≤ k → i ≤ xs.length → ys.length = xs.length → (∀ j, j < i → ys[j]? = some (eF q j)) → ∃ zs, f_laws_markFileS_L0 xs k ys (q + 3 * i) (i : Int) = some (zs, q + 3 * xs.length) ∧ zs.length = xs.length ∧ ∀ j, j < zs.length → zs[j]? = some (eF q j) := by
    intro m
    induction m with
    | zero =>
      intro k i ys hm hk hi hy he
      obtain ⟨k, rfl⟩ : ∃ j, k = j + 1 := ⟨k - 1, by omega⟩
      have hil : i = xs.length := by omega
      subst hil
      rw [f_laws_markFileS_L0, if_neg (by omega)]
      exact ⟨ys, rfl, hy, fun j hj => he j (by omega)⟩
    | succ m ih =>
      intro k i ys hm hk hi hy he
      obtain ⟨k, rfl⟩ : ∃ j, k = j + 1 := ⟨k - 1, by omega⟩
      have hlt : i < ys.length := by omega
      have e : ((i : Int) + 1) = ((i + 1 : Nat) : Int) := by omega
      rw [f_laws_markFileS_L0, if_pos (by omega), markText_m (by omega) (by omega), obind_some, idx_nat hlt, obind_some, chk_pos (by omega), idx_setI hlt, obind_some, chk_pos (by omega), markText_m (by omega) (by omega), obind_some, setI_setI, idx_setI hlt, obind_some, setI_setI, chk_pos (by omega), chk_pos (by omega), e]
      have e3 : q + 3 * (i : Int) + 1 + 1 + 1 = q + 3 * ((i + 1 : Nat) : Int) := by omega
      rw [e3]
      refine ih k (i + 1) _ (by omega) (by omega) (by omega) (by unfold setI; rw [List.length_set]; exact hy) fun j hj => ?_
      unfold setI
      rw [Int.toNat_natCast]
      by_cases hji : j = i
      · subst hji
        rw [List.getElem?_set_self hlt]
        unfold eF
        have e4 : q + 3 * (j : Int) + 1 + 1 = q + 3 * (j : Int) + 2 := by omega
        rw [e4]
      · rw [List.getElem?_set_ne (by omega)]; exact he j (by omega)
  have := key xs.length BIG 0 xs (by omega) (by rw [BIG_eq]; omega) (by omega) rfl (fun j hj => by omega)
  simpa using this
theorem markSess_m {xs : List GSession} (hl : xs.length ≤ 1048576) {q : Int} (h0 : 0 ≤ q) (h1 : q ≤ 1000000000) : ∃ ys, f_laws_markSessionS xs q = some (ys, q + 5 * xs.length) ∧ ys.length = xs.length ∧ ∀ j, j < ys.length → ys[j]? = some (eS q j) := by
  unfold f_laws_markSessionS
  have key : ∀ (m k i : Nat) (ys : List GSession), xs.length - i = m → m + 1 ≤ k → i ≤ xs.length → ys.length = xs.length → (∀ j, j < i → ys[j]? = some (eS q j)) → ∃ zs, f_laws_markSessionS_L0 xs k ys (q + 5 * i) (i : Int) = some (zs, q + 5 * xs.length) ∧ zs.length = xs.length ∧ ∀ j, j < zs.length → zs[j]? = some (eS q j) := by
    intro m
    induction m with
    | zero =>
      intro k i ys hm hk hi hy he
      obtain ⟨k, rfl⟩ : ∃ j, k = j + 1 := ⟨k - 1, by omega⟩
      have hil : i = xs.length := by omega
      subst hil
      rw [f_laws_markSessionS_L0, if_neg (by omega)]
      exact ⟨ys, rfl, hy, fun j hj => he j (by omega)⟩
    | succ m ih =>
      intro k i ys hm hk hi hy he
      obtain ⟨k, rfl⟩ : ∃ j, k = j + 1 := ⟨k - 1, by omega⟩
      have hlt : i < ys.length := by omega
      have e : ((i : Int) + 1) = ((i + 1 : Nat) : Int) := by omega
      have e5 : q + 5 * (i : Int) + 1 + 1 + 1 + 1 + 1 = q + 5 * ((i + 1 : Nat) : Int) := by omega
      have e4 : q + 5 * (i : Int) + 1 + 1 + 1 + 1 = q + 5 * (i : Int) + 4 := by omega
      have e3 : q + 5 * (i : Int) + 1 + 1 + 1 = q + 5 * (i : Int) + 3 := by omega
      have e2 : q + 5 * (i : Int) + 1 + 1 = q + 5 * (i : Int) + 2 := by omega
      rw [f_laws_markSessionS_L0, if_pos (by omega), idx_nat hlt, obind_some, chk_pos (by omega), idx_setI hlt, obind_some, chk_pos (by omega), setI_setI, idx_setI hlt, obind_some, chk_pos (by omega), setI_setI, idx_setI hlt, obind_some, chk_pos (by omega), setI_setI, markText_m (by omega) (by omega), obind_some, idx_setI hlt, obind_some, chk_pos (by omega), chk_pos (by omega), setI_setI, e, e5]
      refine ih k (i + 1) _ (by omega) (by omega) (by omega) (by unfold setI; rw [List.length_set]; exact hy) fun j hj => ?_
      unfold setI
      rw [Int.toNat_natCast]
      by_cases hji : j = i
      · subst hji
        rw [List.getElem?_set_self hlt, e4, e3, e2]
        rfl
      · rw [List.getElem?_set_ne (by omega)]; exact he j (by omega)
  have := key xs.length BIG 0 xs (by omega) (by rw [BIG_eq]; omega) (by omega) rfl (fun j hj => by omega)
  simpa using this
theorem markByte_h {xs : List UInt8} (hl : xs.length ≤ 1000000000) {q : Int} (h0 : 0 ≤ q) (h1 : q ≤ 1000000000) : ∃ ys, f_laws_markByteS xs q = some (ys, q + xs.length) ∧ ys.length = xs.length ∧ ∀ j : Nat, j < ys.length → ys[j]? = some (byteOf (q + j)) := by
  unfold f_laws_markByteS
  have key : ∀ (m k i : Nat) (ys : List UInt8), xs.length - i = m → m + 1 ≤ k → i ≤ xs.length → ys.length = xs.length → (∀ j : Nat, j < i → ys[j]? = some (byteOf (q + j))) → ∃ zs, f_laws_markByteS_L0 xs k ys (q + i) (i : Int) = some (zs, q + xs.length) ∧ zs.length = xs.length ∧ ∀ j : Nat, j < zs.length → zs[j]? = some (byteOf (q + j)) := by
    intro m
    induction m with
    | zero =>
      intro k i ys hm hk hi hy he
      obtain ⟨k, rfl⟩ : ∃ j, k = j + 1 := ⟨k - 1, by omega⟩
      have hil : i = xs.length := by omega
      subst hil
      rw [f_laws_markByteS_L0, if_neg (by omega)]
      exact ⟨ys, rfl, hy, fun j hj => he j (by omega)⟩
    | succ m ih =>
      intro k i ys hm hk hi hy he
      obtain ⟨k, rfl⟩ : ∃ j, k = j + 1 := ⟨k - 1, by omega⟩
      have hlt : i < ys.length := by omega
      have e : ((i : Int) + 1) = ((i + 1 : Nat) : Int) := by omega
      have e3 : q + (i : Int) + 1 = q + ((i + 1 : Nat) : Int) := by omega
      rw [f_laws_markByteS_L0, if_pos (by omega), idx_nat hlt, obind_some, chk_pos (by omega), chk_pos (by omega), e, e3]
      refine ih k (i + 1) _ (by omega) (by omega) (by omega) (by unfold setI; rw [List.length_set]; exact hy) fun j hj => ?_
      unfold setI
      rw [Int.toNat_natCast]
      by_cases hji : j = i
      · subst hji; rw [List.getElem?_set_self hlt]
      · rw [List.getElem?_set_ne (by omega)]; exact he j (by omega)
  have := key xs.length BIG 0 xs (by omega) (by rw [BIG_eq]; omega) (by omega) rfl (fun j hj => by omega)
  simpa using this
theorem heldByte_m {ys : List UInt8} (hl : ys.length ≤ 1000000000) {q : Int} (h0 : 0 ≤ q) (h1 : q ≤ 1000000000) (he : ∀ j : Nat, j < ys.length → ys[j]? = some (byteOf (q + j))) : f_laws_heldByteS ys q = some (q + ys.length) := by
  unfold f_laws_heldByteS
  have key : ∀ (m k i : Nat), ys.length - i = m → m + 1 ≤ k → i ≤ ys.length → f_laws_heldByteS_L0 ys k (q + i) (i : Int) = some (q + ys.length) := by
    intro m
    induction m with
    | zero =>
      intro k i hm hk hi
      obtain ⟨k, rfl⟩ : ∃ j, k = j + 1 := ⟨k - 1, by omega⟩
      have hil : i = ys.length := by omega
      subst hil
      rw [f_laws_heldByteS_L0, if_neg (by omega)]
    | succ m ih =>
      intro k i hm hk hi
      obtain ⟨k, rfl⟩ : ∃ j, k = j + 1 := ⟨k - 1, by omega⟩
      have hlt : i < ys.length := by omega
      have e : ((i : Int) + 1) = ((i + 1 : Nat) : Int) := by omega
      have e3 : q + (i : Int) + 1 = q + ((i + 1 : Nat) : Int) := by omega
      have hx : idx ys (i : Int) = some (byteOf (q + i)) := by
        rw [idx_nat hlt]
        have := he i hlt
        rwa [List.getElem?_eq_getElem hlt] at this
      rw [f_laws_heldByteS_L0, if_pos (by omega), hx, obind_some, if_pos rfl, chk_pos (by omega), chk_pos (by omega), e, e3]
      exact ih k (i + 1) (by omega) (by omega) (by omega)
  have := key ys.length BIG 0 (by omega) (by rw [BIG_eq]; omega) (by omega)
  simpa using this
theorem sbd_of {st : GState} (h : Bd.bd BS20 st) : SBd st := ⟨h.1.1, h.2.1, fun f hf => by have : f.Name.length ≤ BS20 := (h.1.2 f hf).1; unfold BS20 at this; omega, fun x hx => by have : x.Reply.Sha.length ≤ BS20 := h.2.2 x hx; unfold BS20 at this; omega⟩
theorem FnExactStateBytes_m (x : GState) (hbd : Bd.bd BU x) : f_laws_FnExactStateBytes x = some true := by
  unfold f_laws_FnExactStateBytes
  have hst : ({ Files := x.Files, Sessions := x.Sessions } : GState) = x := rfl
  rw [hst]
  obtain ⟨r, e1, e2, e3⟩ := sz_State x 1048576 hbd (by omega) (by omega)
  rw [e1]
  simp only [obind_some]
  by_cases hr : r < 0
  · rw [if_pos hr]
  rw [if_neg hr]
  have hb := e3 (by omega)
  have hsb := sbd_of hb
  obtain ⟨⟨o, c⟩, i1, i2, i3⟩ := stateBytes_eq hsb
  simp only at i3
  have hob : Bd.bd BS20 o := ⟨by unfold BS20; omega, fun _ _ => trivial⟩
  rw [to_State x hb]
  simp only [obind_some, hst]
  rw [i1, i2]
  simp only [obind_some]
  rw [eq_ByteS o hob]
  simp only [obind_some]
  rw [if_neg (by simp)]
  obtain ⟨ys, m1, m2, m3⟩ := markByte_h (xs := o) (by omega) (q := 1) (by omega) (by omega)
  have hh := heldByte_m (ys := ys) (by omega) (q := 1) (by omega) (by omega) m3
  have hJ2 : f_laws_FnExactStateBytes_J2 (ys, 1 + (o.length : Int)) false = some true := by
    unfold f_laws_FnExactStateBytes_J2
    simp only
    rw [if_neg (by simp), hh, obind_some, if_neg (by omega), if_pos (by omega)]
  have hJ1 : f_laws_FnExactStateBytes_J1 (o, c) x (o, c) false = some true := by
    unfold f_laws_FnExactStateBytes_J1
    simp only
    rw [if_neg (by simp), m1]
    simp only [obind_some]
    rw [hh]
    simp only [obind_some]
    rw [if_neg (by omega), if_pos (by omega), hst, to_State x hb]
    simp only [obind_some, hst]
    rw [i1]
    simp only [obind_some]
    rw [eq_ByteS o hob]
    simp only [obind_some]
    rw [if_neg (by simp)]
    simpa using hJ2
  unfold f_laws_FnExactStateBytes_J0
  simp only
  rw [if_neg (by simp), hst, to_State x hb]
  simp only [obind_some, hst]
  rw [eq_State x hb]
  simp only [obind_some]
  rw [if_neg (by simp)]
  obtain ⟨fs, f1, f2, f3⟩ := markFile_m hsb.files (q := 1) (by omega) (by omega)
  have hfn := hsb.files
  have hsn := hsb.sess
  obtain ⟨ss, s1, s2, s3⟩ := markSess_m hsn (q := 1 + 3 * x.Files.length) (by omega) (by omega)
  rw [f1]
  simp only [obind_some]
  rw [s1]
  simp only [obind_some]
  rw [if_neg (by omega), eq_ByteS o hob]
  simp only [obind_some]
  rw [if_neg (by simp)]
  simpa using hJ1
end Go.Proofs.YtmodhnkjimpkbaaAb
