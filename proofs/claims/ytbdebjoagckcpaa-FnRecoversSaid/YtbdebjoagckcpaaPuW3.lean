import Derived.Test.YtbdebjoagckcpaaPuW2
set_option linter.all false
namespace Go.Proofs.YtbdebjoagckcpaaAb
open Go
theorem bnd_t {p : Prop} [Decidable p] (h : ¬ p) : (!decide p) = true := by simp [h]
theorem bnd_f {p : Prop} [Decidable p] (h : p) : ¬ ((!decide p) = true) := by simp [h]
theorem bd_f {p : Prop} [Decidable p] (h : ¬ p) : ¬ (decide p = true) := by simp [h]
abbrev okT (x : Int) : Prop := 0 ≤ x ∧ x ≤ 1000000
structure WInv (w : GWal) : Prop where
  term : okT w.Term
  base : okT w.Base
  bterm : okT w.BaseTerm
  log : w.Log.length ≤ 100
  terms : ∀ r ∈ w.Log, okT r.Term
def takeN (w : GWal) (c : Int) (a b : Int) (rest : List UInt8) : Option GWal :=
  if c ≠ 2 ∧ 0 < rest.length then none
  else if c = 1 then (if a < w.Term then none else some { w with Term := a, Vote := b })
  else if c = 2 then (if b ≤ w.Base ∨ w.Base + w.Log.length + 1 < b ∨ 1000 < rest.length ∨ 100 < b - w.Base then none else some { w with Log := w.Log.take (b - w.Base - 1).toNat ++ [⟨a, b, rest⟩] })
  else if c = 3 then (if a < w.Base ∨ w.Base + w.Log.length < a then none else if a = w.Base then (if b = w.BaseTerm then some w else none) else if (w.Log[(a - w.Base - 1).toNat]?.map (·.Term)) = some b then some { w with Base := a, BaseTerm := b, Log := w.Log.drop (a - w.Base).toNat } else none)
  else none
def takeM (w : GWal) : List UInt8 → Option GWal
  | [] => none
  | c :: p =>
    let r1 := readNum p
    if r1.2 ≤ 0 then none else
    let r2 := readNum (p.drop r1.2.toNat)
    if r2.2 ≤ 0 then none else
    if okT r1.1 ∧ okT r2.1 then takeN w c.toNat r1.1 r2.1 ((p.drop r1.2.toNat).drop r2.2.toNat) else none
theorem takeN_inv {w w' : GWal} {c a b : Int} {rest : List UInt8} (hw : WInv w) (ha : okT a) (hb : okT b) (h : takeN w c a b rest = some w') : WInv w' ∧ w'.Good = w.Good := by
  unfold takeN at h
  split at h
  · cases h
  split at h
  · split at h
    · cases h
    · cases h; exact ⟨⟨ha, hw.base, hw.bterm, hw.log, hw.terms⟩, rfl⟩
  split at h
  · split at h
    · cases h
    · rename_i hc
      cases h
      refine ⟨⟨hw.term, hw.base, hw.bterm, ?_, ?_⟩, rfl⟩
      · simp only [List.length_append, List.length_take, List.length_cons, List.length_nil]
        have := hw.log
        omega
      · intro r hr
        rcases List.mem_append.1 hr with h | h
        · exact hw.terms r (List.mem_of_mem_take h)
        · rcases List.mem_singleton.1 h with rfl; exact ha
  split at h
  · split at h
    · cases h
    split at h
    · split at h
      · cases h; exact ⟨hw, rfl⟩
      · cases h
    split at h
    · cases h
      refine ⟨⟨hw.term, ha, hb, ?_, ?_⟩, rfl⟩
      · simp only [List.length_drop]; have := hw.log; omega
      · intro r hr; exact hw.terms r (List.mem_of_mem_drop hr)
    · cases h
  · cases h
theorem takeM_inv {w w' : GWal} {p : List UInt8} (hw : WInv w) (h : takeM w p = some w') : WInv w' ∧ w'.Good = w.Good := by
  cases p with
  | nil => cases h
  | cons c p =>
    unfold takeM at h
    simp only at h
    split at h
    · cases h
    split at h
    · cases h
    split at h
    · rename_i ho; exact takeN_inv hw ho.1 ho.2 h
    · cases h
def tk (w : GWal) : Option GWal → GWal × Bool
  | none => (w, false)
  | some w' => (w', true)
theorem within_m (x l h : Int) : f_impl_within x l h = some (decide (l ≤ x ∧ x ≤ h)) := by
  unfold f_impl_within
  by_cases h1 : l ≤ x
  · rw [if_pos h1]; simp [h1]
  · rw [if_neg h1]; simp [h1]
theorem isTerm_m (x : Int) : f_impl_isTerm x = some (decide (okT x)) := by
  unfold f_impl_isTerm; rw [within_m]; rfl
theorem recOK_m (r : GRec) : f_impl_recOK r = some (decide (okT r.Term ∧ (1 ≤ r.Index ∧ r.Index ≤ 1000000) ∧ r.Data.length ≤ 1000)) := by
  unfold f_impl_recOK
  rw [isTerm_m, obind_some, within_m, obind_some]
  by_cases h1 : okT r.Term
  · rw [if_pos (decide_eq_true h1)]
    by_cases h2 : 1 ≤ r.Index ∧ r.Index ≤ 1000000
    · rw [if_pos (decide_eq_true h2)]
      congr 1
      rw [decide_eq_decide]
      omega
    · rw [if_neg (by simpa using h2)]
      congr 1
      exact (decide_eq_false (fun h => h2 h.2.1)).symm
  · rw [if_neg (by simpa using h1)]
    congr 1
    exact (decide_eq_false (fun h => h1 h.1)).symm
theorem idx_opt {α : Type} {xs : List α} {j : Int} (h0 : 0 ≤ j) (hj : j < xs.length) : ∃ x, xs[j.toNat]? = some x ∧ idx xs j = some x := by
  rw [idx_pos h0 hj]
  exact ⟨_, List.getElem?_eq_getElem (by omega), rfl⟩
theorem take_J2f {w : GWal} {x40 x21 : Int × Int} {q : List UInt8} : f_impl_Wal_take_J2 w x40 x21 q true = some (w, false) := rfl
theorem take_J2t {w : GWal} {x40 x21 : Int × Int} {q : List UInt8} (hw : WInv w) (h1 : w.Base < x40.1) (h2 : x40.1 ≤ w.Base + w.Log.length + 1) : f_impl_Wal_take_J2 w x40 x21 q false = some ({ w with Log := w.Log.take (x40.1 - w.Base - 1).toNat ++ [⟨x21.1, x40.1, q⟩] }, true) := by
  have hb := hw.base
  have hl := hw.log
  unfold f_impl_Wal_take_J2
  rw [if_neg (by simp), chk_pos (by omega), chk_pos (by omega), slc_head (by omega) (by omega), obind_some, chk_pos (by simp; omega)]
theorem take_J1 {w : GWal} {c : UInt8} {p : List UInt8} {x21 x40 : Int × Int} {q : List UInt8} (hw : WInv w) (ha : okT x21.1) (hb : okT x40.1) (hq : q.length ≤ 1000000000) :
    f_impl_Wal_take_J1 w (c :: p) x21 x40 q (decide (c.toNat ≠ 2 ∧ 0 < q.length)) = some (tk w (takeN w c.toNat x21.1 x40.1 q)) := by
  have hB := hw.base
  have hL := hw.log
  unfold f_impl_Wal_take_J1
  by_cases h0 : c.toNat ≠ 2 ∧ 0 < q.length
  · have hT : takeN w c.toNat x21.1 x40.1 q = none := by unfold takeN; rw [if_pos (by omega)]
    rw [hT, if_pos (decide_eq_true h0)]; rfl
  rw [if_neg (by simpa using h0), idx_zero, obind_some]
  by_cases h1 : c.toNat = 1
  · have hT : takeN w c.toNat x21.1 x40.1 q = if x21.1 < w.Term then none else some { w with Term := x21.1, Vote := x40.1 } := by unfold takeN; rw [if_neg (by omega), if_pos (by omega)]
    rw [hT, if_pos (by omega)]
    by_cases h : x21.1 < w.Term
    · rw [if_pos h, if_pos h]; rfl
    · rw [if_neg h, if_neg h]; rfl
  rw [if_neg (by omega)]
  by_cases h2 : c.toNat = 2
  · have hT : takeN w c.toNat x21.1 x40.1 q = (if x40.1 ≤ w.Base ∨ w.Base + w.Log.length + 1 < x40.1 ∨ 1000 < q.length ∨ 100 < x40.1 - w.Base then none else some { w with Log := w.Log.take (x40.1 - w.Base - 1).toNat ++ [⟨x21.1, x40.1, q⟩] }) := by
      unfold takeN; rw [if_neg (by omega), if_neg (by omega), if_pos (by omega)]
    rw [hT, if_pos (by omega), clone_m hq, obind_some, recOK_m, obind_some]
    clear hT
    by_cases hr : okT x21.1 ∧ (1 ≤ x40.1 ∧ x40.1 ≤ 1000000) ∧ q.length ≤ 1000
    · rw [if_neg (bnd_f hr), chk_pos (by omega), chk_pos (by omega), chk_pos (by split <;> omega), within_m, obind_some]
      by_cases hi : w.Base + 1 ≤ x40.1 ∧ x40.1 ≤ w.Base + (if 100 < ((w.Log.length : Int) + 1) then 100 else ((w.Log.length : Int) + 1))
      · have hi2 : x40.1 ≤ w.Base + 100 ∧ x40.1 ≤ w.Base + w.Log.length + 1 := by have := hi.2; split at this <;> omega
        rw [decide_eq_true hi, if_neg (by omega)]
        exact take_J2t hw (by omega) (by omega)
      · rw [decide_eq_false hi, if_pos]
        · rfl
        · have : ¬ (w.Base + 1 ≤ x40.1 ∧ x40.1 ≤ w.Base + 100 ∧ x40.1 ≤ w.Base + w.Log.length + 1) := by
            intro h
            apply hi
            refine ⟨h.1, ?_⟩
            split <;> omega
          omega
    · rw [if_pos (bnd_t hr), if_pos (by omega)]; rfl
  rw [if_neg (by omega)]
  by_cases h3 : c.toNat = 3
  · have hT : takeN w c.toNat x21.1 x40.1 q = (if x21.1 < w.Base ∨ w.Base + w.Log.length < x21.1 then none else if x21.1 = w.Base then (if x40.1 = w.BaseTerm then some w else none) else if (w.Log[(x21.1 - w.Base - 1).toNat]?.map (·.Term)) = some x40.1 then some { w with Base := x21.1, BaseTerm := x40.1, Log := w.Log.drop (x21.1 - w.Base).toNat } else none) := by
      unfold takeN; rw [if_neg (by omega), if_neg (by omega), if_neg (by omega), if_pos (by omega)]
    rw [hT, if_pos (by omega)]
    clear hT
    by_cases he : x21.1 = w.Base
    · rw [if_pos he, if_neg (by omega), if_pos he]
      by_cases hbt : x40.1 = w.BaseTerm
      · rw [decide_eq_true hbt, if_pos hbt]; rfl
      · rw [decide_eq_false hbt, if_neg hbt]; rfl
    rw [if_neg he, chk_pos (by omega), within_m, obind_some]
    by_cases hi : 1 ≤ x21.1 - w.Base ∧ x21.1 - w.Base ≤ w.Log.length
    · obtain ⟨r, hr1, hr2⟩ := idx_opt (xs := w.Log) (j := x21.1 - w.Base - 1) (by omega) (by omega)
      rw [if_neg (bnd_f hi), chk_pos (by omega), hr2, obind_some, if_neg (by omega), if_neg he, hr1]
      unfold f_impl_Wal_take_J3
      simp only [Option.map_some, Option.some.injEq]
      by_cases ht : r.Term = x40.1
      · rw [if_neg (by simpa using ht), if_pos ht, slc_tail (by omega) (by omega), obind_some, cloneR_m (by simp; omega)]; rfl
      · rw [if_pos (by simpa using ht), if_neg ht]; rfl
    · rw [if_pos (bnd_t hi), if_pos (by omega)]; rfl
  · have hT : takeN w c.toNat x21.1 x40.1 q = none := by
      unfold takeN; rw [if_neg (by omega), if_neg (by omega), if_neg (by omega), if_neg (by omega)]
    rw [hT, if_neg (by omega)]; rfl
theorem take_m {w : GWal} {p : List UInt8} (hw : WInv w) (hp : p.length ≤ 1000000000) : f_impl_Wal_take w p = some (tk w (takeM w p)) := by
  cases p with
  | nil => rfl
  | cons c p =>
    simp only [List.length_cons] at hp
    unfold f_impl_Wal_take takeM
    rw [if_neg (by simp; omega), slc_tail (by omega) (by simp; omega), obind_some, readNumber_m, obind_some]
    simp only [List.drop_succ_cons, List.drop_zero, Int.toNat_one]
    by_cases h1 : (readNum p).2 ≤ 0
    · rw [if_pos h1, if_pos h1]; rfl
    obtain ⟨m, s, e, hs, hsl, hs9, hm⟩ := readNum_spec (bs := p) (by omega)
    rw [if_neg h1, if_neg h1, e]
    simp only [Int.toNat_natCast]
    have e1 : ((1 : Int) + (s : Int)) = ((s + 1 : Nat) : Int) := by omega
    rw [chk_pos (by omega), slc_tail (by omega) (by simp; omega), obind_some, readNumber_m, obind_some, e1, Int.toNat_natCast, List.drop_succ_cons]
    generalize hr2 : readNum (p.drop s) = r2
    by_cases h2 : r2.2 ≤ 0
    · rw [if_pos h2, if_pos h2]; rfl
    obtain ⟨m2, s2, e2, hs2, hsl2, hs92, hm2⟩ := readNum_spec (bs := p.drop s) (by rw [hr2]; omega)
    rw [hr2] at e2
    subst e2
    rw [List.length_drop] at hsl2
    rw [if_neg h2, if_neg h2, isTerm_m, obind_some, isTerm_m, obind_some]
    simp only
    by_cases ha : okT (m : Int)
    · rw [if_neg (bnd_f ha)]
      by_cases hb : okT (m2 : Int)
      · rw [if_pos ⟨ha, hb⟩]
        unfold f_impl_Wal_take_J0
        have e3 : ((1 : Int) + (s : Int) + (s2 : Int)) = ((s + s2 + 1 : Nat) : Int) := by omega
        have e4 : (((s + s2 + 1 : Nat) : Int)).toNat = (s + s2) + 1 := Int.toNat_natCast _
        simp only [e3]
        rw [if_neg (bnd_f hb), chk_pos (by omega), chk_pos (by omega), slc_tail (by omega) (by simp; omega), obind_some, idx_zero, obind_some, e4, List.drop_succ_cons, Int.toNat_natCast, List.drop_drop]
        have hq : (p.drop (s + s2)).length ≤ 1000000000 := by rw [List.length_drop]; omega
        have := take_J1 (c := c) (p := p) (x21 := ((m : Int), (s : Int))) (x40 := ((m2 : Int), (s2 : Int))) hw ha hb hq
        by_cases hc : c.toNat = 2
        · rw [if_pos (by omega)]
          rw [decide_eq_false (by omega)] at this
          exact this
        · rw [if_neg (by omega)]
          have hd : decide (c.toNat ≠ 2 ∧ 0 < (p.drop (s + s2)).length) = decide ((0 : Int) < ((p.drop (s + s2)).length : Int)) := by rw [decide_eq_decide]; omega
          rw [hd] at this
          exact this
      · rw [if_neg (fun h => hb h.2)]
        unfold f_impl_Wal_take_J0
        rw [if_pos (bnd_t hb)]; rfl
    · rw [if_pos (bnd_t ha), if_neg (fun h => ha h.1)]; rfl
end Go.Proofs.YtbdebjoagckcpaaAb
