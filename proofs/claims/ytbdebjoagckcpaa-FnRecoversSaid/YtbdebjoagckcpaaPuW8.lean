import Derived.Test.YtbdebjoagckcpaaPuW7
set_option linter.all false
namespace Go.Proofs.YtbdebjoagckcpaaAb
open Go
def voteP (t v : Nat) : List UInt8 := 1 :: (numBytes t ++ numBytes v)
def entryP (t i : Nat) (d : List UInt8) : List UInt8 := 2 :: (numBytes t ++ (numBytes i ++ d))
def baseP (b t : Nat) : List UInt8 := 3 :: (numBytes b ++ numBytes t)
theorem nb9 {n : Nat} (h : n ≤ 68000000000) : (numBytes n).length ≤ 9 := by
  have h128 : (128 : Nat) ^ 9 = 9223372036854775808 := by decide
  exact numBytes_len 9 n (by omega) (by omega)
theorem record_m {c : UInt8} {x y : Int} {d : List UInt8} (hx : 0 ≤ x ∧ x ≤ 68000000000) (hy : 0 ≤ y ∧ y ≤ 68000000000) (hd : d.length ≤ 1000) :
    f_impl_record c x y d = some (frameOf (c :: (numBytes x.toNat ++ (numBytes y.toNat ++ d)))) := by
  have h1 := nb9 (n := x.toNat) (by omega)
  have h2 := nb9 (n := y.toNat) (by omega)
  unfold f_impl_record
  rw [number_i hx.1 hx.2, obind_some, number_i hy.1 hy.2, obind_some, concat_m (by simp; omega) (by simp), obind_some, frame_m (by simp; omega), obind_some]
  simp
theorem walOf_L3 {w : GWal} (hw : WGen w) : ∀ (m k i : Nat) (xs : List UInt8), w.Log.length - i = m → m + 1 ≤ k → i ≤ w.Log.length → xs.length + 40 * m ≤ 65536 →
    f_impl_WalOf_L3 w k xs (i : Int) = some (xs ++ framesOf ((w.Log.drop i).map fun r => entryP r.Term.toNat r.Index.toNat r.Data), 0) := by
  intro m
  induction m with
  | zero =>
    intro k i xs hm hk hi hx
    obtain ⟨k, rfl⟩ : ∃ j, k = j + 1 := ⟨k - 1, by omega⟩
    rw [f_impl_WalOf_L3, if_neg (by omega), if_neg (by omega), List.drop_of_length_le (by omega)]
    simp [framesOf]
  | succ m ih =>
    intro k i xs hm hk hi hx
    obtain ⟨k, rfl⟩ : ∃ j, k = j + 1 := ⟨k - 1, by omega⟩
    have hlt : i < w.Log.length := by omega
    have hlen := hw.len
    obtain ⟨⟨h1, h2⟩, h3, h4⟩ := hw.recs i hlt
    rw [f_impl_WalOf_L3, if_pos (by omega), idx_nat hlt, obind_some, record_m ⟨h1, by omega⟩ ⟨by omega, by omega⟩ (by omega), obind_some]
    have n1 := nb9 (n := (w.Log[i].Term).toNat) (by omega)
    have n2 := nb9 (n := (w.Log[i].Index).toNat) (by omega)
    generalize hp : ((2 : UInt8) :: (numBytes w.Log[i].Term.toNat ++ (numBytes w.Log[i].Index.toNat ++ w.Log[i].Data))) = p
    have hpl : p.length ≤ 24 := by rw [← hp]; simp; omega
    have hfl := frameOf_len (p := p) (by omega)
    have e : ((i : Int) + 1) = ((i + 1 : Nat) : Int) := by omega
    rw [chk_pos (by omega), chk_pos (by omega), e, ih k (i + 1) (xs ++ frameOf p) (by omega) (by omega) (by omega) (by rw [List.length_append]; omega), List.drop_eq_getElem_cons hlt, List.map_cons, framesOf_cons, List.append_assoc]
    rw [show entryP w.Log[i].Term.toNat w.Log[i].Index.toNat w.Log[i].Data = p from hp]
theorem walOf_L1 {w : GWal} (hw : WGen w) : ∀ (m k i : Nat), w.Log.length - i = m → m + 1 ≤ k → i ≤ w.Log.length →
    f_impl_WalOf_L1 w k true (i : Int) = f_impl_WalOf_L1 w 1 true (w.Log.length : Int) := by
  intro m
  induction m with
  | zero =>
    intro k i hm hk hi
    obtain ⟨k, rfl⟩ : ∃ j, k = j + 1 := ⟨k - 1, by omega⟩
    have : i = w.Log.length := by omega
    subst this
    rw [f_impl_WalOf_L1, if_neg (Int.lt_irrefl _), f_impl_WalOf_L1, if_neg (Int.lt_irrefl _)]
  | succ m ih =>
    intro k i hm hk hi
    obtain ⟨k, rfl⟩ : ∃ j, k = j + 1 := ⟨k - 1, by omega⟩
    have hlt : i < w.Log.length := by omega
    have hlen := hw.len
    obtain ⟨⟨h1, h2⟩, h3, h4⟩ := hw.recs i hlt
    have e : ((i : Int) + 1) = ((i + 1 : Nat) : Int) := by omega
    have hr : okT w.Log[i].Term ∧ (1 ≤ w.Log[i].Index ∧ w.Log[i].Index ≤ 1000000) ∧ w.Log[i].Data.length ≤ 1000 := ⟨⟨h1, by omega⟩, ⟨by omega, by omega⟩, by omega⟩
    rw [f_impl_WalOf_L1, if_pos (by omega), idx_nat hlt, obind_some, if_pos rfl, recOK_m, obind_some, if_pos (decide_eq_true hr), chk_pos (by omega)]
    unfold f_impl_WalOf_J2
    rw [chk_pos (by omega), decide_eq_true h3, e]
    exact ih k (i + 1) (by omega) (by omega) (by omega)
def walP (w : GWal) : List (List UInt8) := voteP w.Term.toNat w.Vote.toNat :: w.Log.map fun r => entryP r.Term.toNat r.Index.toNat r.Data
theorem walOf_m {w : GWal} (hw : WGen w) : f_impl_WalOf w = some (framesOf (walP w), 0) := by
  have hlen := hw.len
  have a1 := hw.term0
  have a2 := hw.term1
  have a3 := hw.vote0
  have a4 := hw.vote1
  unfold f_impl_WalOf
  rw [isTerm_m, obind_some, if_pos (decide_eq_true ⟨a1, by omega⟩), isTerm_m, obind_some, if_pos (decide_eq_true ⟨a3, by omega⟩), if_pos hw.base, if_pos hw.bterm]
  unfold f_impl_WalOf_J0
  rw [decide_eq_true (by omega)]
  have := walOf_L1 hw w.Log.length BIG 0 (by omega) (by rw [BIG_eq]; omega) (by omega)
  refine this.trans ?_
  rw [f_impl_WalOf_L1, if_neg (by omega), if_neg (by simp), record_m ⟨a1, by omega⟩ ⟨a3, by omega⟩ (by simp), obind_some]
  have n1 := nb9 (n := (w.Term).toNat) (by omega)
  have n2 := nb9 (n := (w.Vote).toNat) (by omega)
  generalize hp : ((1 : UInt8) :: (numBytes w.Term.toNat ++ (numBytes w.Vote.toNat ++ []))) = p
  have hpl : p.length ≤ 24 := by rw [← hp]; simp; omega
  have hfl := frameOf_len (p := p) (by omega)
  have := walOf_L3 hw w.Log.length BIG 0 (frameOf p) (by omega) (by rw [BIG_eq]; omega) (by omega) (by omega)
  refine this.trans ?_
  rw [List.drop_zero]
  unfold walP
  rw [framesOf_cons]
  have : p = voteP w.Term.toNat w.Vote.toNat := by rw [← hp]; unfold voteP; rw [List.append_nil]
  rw [this]
theorem n9 {n : Nat} (h : n ≤ 1000000) : n < 128 ^ 9 := by
  have : (128 : Nat) ^ 9 = 9223372036854775808 := by decide
  omega
theorem takeM_of {c : UInt8} {a b : Nat} {q : List UInt8} (ha : a ≤ 1000000) (hb : b ≤ 1000000) (w : GWal) : takeM w (c :: (numBytes a ++ (numBytes b ++ q))) = takeN w c.toNat a b q := by
  have p1 := numBytes_pos a
  have p2 := numBytes_pos b
  unfold takeM
  simp only
  rw [readNum_num (n9 ha)]
  simp only [Int.toNat_natCast, List.drop_left]
  rw [readNum_num (n9 hb)]
  simp only [Int.toNat_natCast, List.drop_left]
  rw [if_neg (by omega), if_neg (by omega), if_pos ⟨⟨by omega, by omega⟩, ⟨by omega, by omega⟩⟩]
theorem takeM_vote {a b : Nat} (ha : a ≤ 1000000) (hb : b ≤ 1000000) (w : GWal) : takeM w (voteP a b) = takeN w 1 a b [] := by
  have := takeM_of (c := 1) (q := []) ha hb w
  rw [List.append_nil] at this
  exact this
theorem takeM_entry {a b : Nat} {q : List UInt8} (ha : a ≤ 1000000) (hb : b ≤ 1000000) (w : GWal) : takeM w (entryP a b q) = takeN w 2 a b q := takeM_of (c := 2) ha hb w
theorem recF_log {log : List GRec} (hlen : log.length ≤ 6) (hr : ∀ (i : Nat) (h : i < log.length), (0 ≤ log[i].Term ∧ log[i].Term < 4) ∧ log[i].Index = i + 1 ∧ log[i].Data.length ≤ 5) (t v : Int) : ∀ (m i : Nat) (g : Int), log.length - i = m → i ≤ log.length →
    recF ((log.drop i).map fun r => entryP r.Term.toNat r.Index.toNat r.Data) { Term := t, Vote := v, Base := 0, BaseTerm := 0, Log := log.take i, Good := g } = { Term := t, Vote := v, Base := 0, BaseTerm := 0, Log := log, Good := g + (framesOf ((log.drop i).map fun r => entryP r.Term.toNat r.Index.toNat r.Data)).length } := by
  intro m
  induction m with
  | zero =>
    intro i g hm hi
    have : i = log.length := by omega
    subst this
    rw [List.drop_of_length_le (by omega), List.take_length]
    simp [recF, framesOf]
  | succ m ih =>
    intro i g hm hi
    have hlt : i < log.length := by omega
    obtain ⟨⟨h1, h2⟩, h3, h4⟩ := hr i hlt
    have et : ((log[i].Term.toNat : Nat) : Int) = log[i].Term := by omega
    have ei : ((log[i].Index.toNat : Nat) : Int) = log[i].Index := by omega
    rw [List.drop_eq_getElem_cons hlt, List.map_cons]
    unfold recF
    rw [takeM_entry (by omega) (by omega), et, ei]
    have hT : takeN { Term := t, Vote := v, Base := 0, BaseTerm := 0, Log := log.take i, Good := g } 2 log[i].Term log[i].Index log[i].Data = some { Term := t, Vote := v, Base := 0, BaseTerm := 0, Log := log.take (i + 1), Good := g } := by
      unfold takeN
      rw [if_neg (by simp), if_neg (by omega), if_pos rfl, if_neg]
      · congr 1
        simp only [GWal.mk.injEq, true_and, and_true]
        have e : (log[i].Index - 0 - 1).toNat = i := by omega
        rw [e, List.take_take, Nat.min_self, List.take_succ_eq_append_getElem hlt]
      · simp only [List.length_take]
        omega
    rw [hT]
    simp only
    rw [ih (i + 1) _ (by omega) (by omega), framesOf_cons, List.length_append]
    simp only [GWal.mk.injEq, true_and]
    omega
theorem recF_wal {w : GWal} (hw : WGen w) : recF (walP w) w0 = { w with Good := (framesOf (walP w)).length } := by
  have hlen := hw.len
  have a1 := hw.term0
  have a2 := hw.term1
  have a3 := hw.vote0
  have a4 := hw.vote1
  unfold walP recF
  have et : ((w.Term.toNat : Nat) : Int) = w.Term := by omega
  have ev : ((w.Vote.toNat : Nat) : Int) = w.Vote := by omega
  rw [takeM_vote (by omega) (by omega), et, ev]
  have hT : takeN w0 1 w.Term w.Vote [] = some { Term := w.Term, Vote := w.Vote, Base := 0, BaseTerm := 0, Log := [], Good := 0 } := by
    unfold takeN
    rw [if_neg (by simp), if_pos rfl, if_neg (by unfold w0; simp only; omega)]
    rfl
  rw [hT]
  simp only
  have := recF_log hlen hw.recs w.Term w.Vote w.Log.length 0 (0 + ((frameOf (voteP w.Term.toNat w.Vote.toNat)).length : Int)) (by omega) (by omega)
  rw [List.drop_zero, List.take_zero] at this
  rw [this, framesOf_cons, List.length_append]
  have hb := hw.base
  have ht := hw.bterm
  obtain ⟨wt, wv, wb, wbt, wl, wg⟩ := w
  simp only at hb ht
  subst hb ht
  simp
theorem walP_le {w : GWal} (hw : WGen w) : (∀ p ∈ walP w, p.length ≤ 4096) ∧ (framesOf (walP w)).length ≤ 65536 := by
  have hlen := hw.len
  have a1 := hw.term0
  have a2 := hw.term1
  have a3 := hw.vote0
  have a4 := hw.vote1
  have hp : ∀ p ∈ walP w, p.length ≤ 24 := by
    intro p hp
    rcases List.mem_cons.1 hp with rfl | hp
    · have n1 := nb9 (n := (w.Term).toNat) (by omega)
      have n2 := nb9 (n := (w.Vote).toNat) (by omega)
      unfold voteP; simp only [List.length_cons, List.length_append]; omega
    · obtain ⟨r, hr, rfl⟩ := List.mem_map.1 hp
      obtain ⟨i, hi, rfl⟩ := List.mem_iff_getElem.1 hr
      obtain ⟨⟨h1, h2⟩, h3, h4⟩ := hw.recs i hi
      have n1 := nb9 (n := (w.Log[i].Term).toNat) (by omega)
      have n2 := nb9 (n := (w.Log[i].Index).toNat) (by omega)
      unfold entryP; simp only [List.length_cons, List.length_append]; omega
  have hf : ∀ ps : List (List UInt8), (∀ p ∈ ps, p.length ≤ 24) → (framesOf ps).length ≤ 37 * ps.length := by
    intro ps
    induction ps with
    | nil => intro _; simp [framesOf]
    | cons p ps ih =>
      intro h
      rw [framesOf_cons, List.length_append, List.length_cons]
      have h1 := ih fun q hq => h q (List.mem_cons_of_mem _ hq)
      have h2 := h p (List.mem_cons_self ..)
      have h3 := frameOf_len (p := p) (by omega)
      omega
  refine ⟨fun p h => by have := hp p h; omega, ?_⟩
  have h1 := hf _ hp
  have h2 : (walP w).length = w.Log.length + 1 := by unfold walP; simp
  omega
end Go.Proofs.YtbdebjoagckcpaaAb
