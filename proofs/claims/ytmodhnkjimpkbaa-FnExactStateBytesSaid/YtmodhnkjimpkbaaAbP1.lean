import Derived.Test.YtmodhnkjimpkbaaAbW6
set_option linter.all false
namespace Go.Proofs.YtmodhnkjimpkbaaAb
open Go
def Heap.Le (F H : Heap) : Prop := ∀ i o, F i = some o → H i = some o
theorem Heap.Le.refl (H : Heap) : H.Le H := fun _ _ h => h
theorem Heap.Le.none {A B : Heap} (a : A.Le B) {i : Nat} (h : B i = none) : A i = none := by
  cases e : A i with
  | none => rfl
  | some o => rw [a i o e] at h; cases h
theorem Heap.Le.trans {A B C : Heap} (a : A.Le B) (b : B.Le C) : A.Le C := fun i o h => b i o (a i o h)
structure St (lo n : Nat) (H F : Heap) : Prop where
  lo : lo ≤ n
  hb : ∀ i, n ≤ i → H i = none
  fh : F.Le H
theorem St.fnone {lo n : Nat} {H F : Heap} (h : St lo n H F) {i : Nat} (hi : n ≤ i) : F i = none := by
  cases e : F i with
  | none => rfl
  | some o => have := h.fh i o e; rw [h.hb i hi] at this; cases this
theorem St.lt {lo n : Nat} {H F : Heap} (h : St lo n H F) {i : Nat} {o : Ob} (hi : H i = some o) : i < n := by
  rcases Nat.lt_or_ge i n with h1 | h1
  · exact h1
  · rw [h.hb i h1] at hi; cases hi
structure Ext (n0 : Nat) (F0 : Heap) (n : Nat) (F : Heap) : Prop where
  le : n0 ≤ n
  sub : F0.Le F
  eq : ∀ i, i < n0 → F i = F0 i
theorem Ext.refl (n : Nat) (F : Heap) : Ext n F n F := ⟨Nat.le_refl _, .refl _, fun _ _ => rfl⟩
theorem Ext.up {n0 n n' : Nat} {F0 F : Heap} (a : Ext n0 F0 n F) (h : n ≤ n') : Ext n0 F0 n' F := ⟨Nat.le_trans a.le h, a.sub, a.eq⟩
theorem Ext.trans {n0 n1 n2 : Nat} {F0 F1 F2 : Heap} (a : Ext n0 F0 n1 F1) (b : Ext n1 F1 n2 F2) : Ext n0 F0 n2 F2 :=
  ⟨Nat.le_trans a.le b.le, a.sub.trans b.sub, fun i hi => (b.eq i (by have := a.le; omega)).trans (a.eq i hi)⟩
class Rp (α : Type) where
  sz : Nat
  R : Heap → List Value → α → Prop
  len : ∀ {F : Heap} {cs : List Value} {a : α}, R F cs a → cs.length = sz
  one : ∀ {F : Heap} {cs : List Value} {a : α}, R F cs a → ∀ v ∈ cs, v.oneCell' = true
  mono : ∀ {F F' : Heap} {cs : List Value} {a : α}, R F cs a → F.Le F' → R F' cs a
class Sc (α : Type) where
  val : α → Value
  one : ∀ a, (val a).oneCell' = true
  gr : ∀ a, Gr (val a)
instance (priority := 900) scRp {α : Type} [Sc α] : Rp α where
  sz := 1
  R _ cs a := cs = [Sc.val a]
  len h := by rw [h]; rfl
  one h v hv := by rw [h] at hv; rcases List.mem_singleton.1 hv with rfl; exact Sc.one _
  mono h _ := h
def Str : Type := List UInt8
instance : DecidableEq Str := inferInstanceAs (DecidableEq (List UInt8))
instance : Inhabited Str := ⟨([] : List UInt8)⟩
theorem gr_u8 (b : UInt8) : Gr (u8 b) := gr_int _ _
theorem gr_str (l : List UInt8) : Gr (str l) := gr_string _
instance : Sc Int := ⟨fun x => .int .i64 x, fun _ => rfl, fun _ => gr_int _ _⟩
instance : Sc Bool := ⟨fun x => .bool x, fun _ => rfl, fun _ => gr_bool _⟩
instance : Sc UInt8 := ⟨u8, fun _ => rfl, fun _ => gr_u8 _⟩
instance : Sc Str := ⟨fun s => str s, fun _ => rfl, fun _ => gr_str _⟩
inductive RA {α : Type} [Rp α] (F : Heap) : List Value → List α → Prop
  | nil : RA F [] []
  | cons {cs cs2 : List Value} {a : α} {as : List α} (h : Rp.R F cs a) (t : RA F cs2 as) : RA F (cs ++ cs2) (a :: as)
section
variable {α : Type} [Rp α] {F F' : Heap} {cs cs2 : List Value} {xs ys : List α}
theorem RA.length (h : RA F cs xs) : cs.length = xs.length * Rp.sz α := by
  induction h with
  | nil => simp
  | cons h t ih => rw [List.length_append, ih, Rp.len h, List.length_cons, Nat.add_mul, Nat.one_mul, Nat.add_comm]
theorem RA.one (h : RA F cs xs) : ∀ v ∈ cs, v.oneCell' = true := by
  induction h with
  | nil => intro v hv; cases hv
  | cons h t ih => intro v hv; rcases List.mem_append.1 hv with hv | hv; exact Rp.one h v hv; exact ih v hv
theorem RA.mono (h : RA F cs xs) (hle : F.Le F') : RA F' cs xs := by
  induction h with
  | nil => exact .nil
  | cons h t ih => exact .cons (Rp.mono h hle) ih
theorem RA.append (h : RA F cs xs) (h2 : RA F cs2 ys) : RA F (cs ++ cs2) (xs ++ ys) := by
  induction h with
  | nil => exact h2
  | cons h t ih => rw [List.append_assoc]; exact .cons h ih
theorem RA.single {a : α} (h : Rp.R F cs a) : RA F cs [a] := by have := RA.cons h (RA.nil (F := F) (α := α)); simpa using this
theorem RA.take (h : RA F cs xs) (k : Nat) : RA F (cs.take (k * Rp.sz α)) (xs.take k) := by
  induction h generalizing k with
  | nil => simp only [List.take_nil]; exact .nil
  | cons h t ih =>
    cases k with
    | zero => simp only [Nat.zero_mul, List.take_zero]; exact .nil
    | succ k =>
      rw [Nat.succ_mul, Nat.add_comm, ← Rp.len h, List.take_length_add_append, List.take_succ_cons, Rp.len h]
      exact .cons h (ih k)
theorem RA.drop (h : RA F cs xs) (k : Nat) : RA F (cs.drop (k * Rp.sz α)) (xs.drop k) := by
  induction h generalizing k with
  | nil => simp only [List.drop_nil]; exact .nil
  | cons h t ih =>
    cases k with
    | zero => simp only [Nat.zero_mul, List.drop_zero]; exact .cons h t
    | succ k =>
      rw [Nat.succ_mul, Nat.add_comm, ← Rp.len h, List.drop_length_add_append, List.drop_succ_cons, Rp.len h]
      exact ih k
theorem RA.head {a : α} (h : RA F cs (a :: xs)) : Rp.R F (cs.take (Rp.sz α)) a := by
  cases h with
  | cons h t => rw [List.take_left' (Rp.len h)]; exact h
theorem RA.get (h : RA F cs xs) {j : Nat} (hj : j < xs.length) : Rp.R F ((cs.drop (j * Rp.sz α)).take (Rp.sz α)) xs[j] := by
  have := h.drop j
  rw [List.drop_eq_getElem_cons hj] at this
  exact this.head
theorem RA.set (h : RA F cs xs) {j : Nat} (hj : j < xs.length) {ncs : List Value} {y : α} (hy : Rp.R F ncs y) : RA F (splice cs (j * Rp.sz α) ncs) (xs.set j y) := by
  have e : xs.set j y = xs.take j ++ y :: xs.drop (j + 1) := by rw [List.set_eq_take_append_cons_drop, if_pos hj]
  rw [e, splice, Rp.len hy, List.append_assoc]
  refine (h.take j).append (.cons hy ?_)
  have := h.drop (j + 1)
  rwa [Nat.succ_mul] at this
theorem RA.replicate {z : α} (h : Rp.R F cs z) (m : Nat) : RA F (List.replicate m cs).flatten (List.replicate m z) := by
  induction m with
  | zero => exact .nil
  | succ m ih => rw [List.replicate_succ, List.flatten_cons, List.replicate_succ]; exact .cons h ih
end
theorem RA.sc {α : Type} [Sc α] {F : Heap} {cs : List Value} {xs : List α} (h : RA F cs xs) : cs = xs.map Sc.val := by
  induction h with
  | nil => rfl
  | cons h t ih => rw [ih, show _ = _ from h]; rfl
theorem RA.ofSc {α : Type} [Sc α] (F : Heap) (xs : List α) : RA F (xs.map Sc.val) xs := by
  induction xs with
  | nil => exact .nil
  | cons x xs ih => exact .cons (cs := [Sc.val x]) rfl ih
def SR {α : Type} [Rp α] (F : Heap) (v : Value) (xs : List α) : Prop := xs.length < UNK ∧ ∃ cs, SL F (Rp.sz α) v xs.length cs ∧ RA F cs xs
instance listRp {α : Type} [Rp α] : Rp (List α) where
  sz := 1
  R F cs xs := ∃ v, cs = [v] ∧ SR F v xs
  len h := by obtain ⟨v, rfl, _⟩ := h; rfl
  one h u hu := by
    obtain ⟨v, rfl, _, cs, h, _⟩ := h
    rcases List.mem_singleton.1 hu with rfl
    obtain ⟨a, cap, rfl⟩ := h.form
    rfl
  mono h hle := by
    obtain ⟨v, rfl, h0, cs, h1, h2⟩ := h
    refine ⟨v, rfl, h0, cs, ?_, h2.mono hle⟩
    rcases h1 with h1 | ⟨b, k, cap, c, e1, e2, e3⟩
    · exact .inl h1
    · exact .inr ⟨b, k, cap, c, e1, hle b _ e2, e3⟩
section
variable {α : Type} [Rp α] {F F' H H' : Heap} {v : Value} {xs ys : List α} {lo n n' : Nat}
theorem SR.mono (h : SR F v xs) (hle : F.Le F') : SR F' v xs := by
  obtain ⟨_, e, h⟩ := (listRp (α := α)).mono (a := xs) ⟨v, rfl, h⟩ hle
  cases e; exact h
theorem SR.nil : SR F (.slice none 0 0) ([] : List α) := ⟨by simp [UNK], [], .inl ⟨rfl, rfl, rfl⟩, .nil⟩
theorem SR.lt (h : SR F v xs) : xs.length < UNK := h.1
theorem SR.form (h : SR F v xs) : ∃ a cap, v = .slice a xs.length cap := by
  obtain ⟨h0, cs, h1, h2⟩ := h
  rcases h1 with ⟨rfl, h, _⟩ | ⟨b, k, cap, c, rfl, _⟩
  · exact ⟨none, 0, by rw [h]⟩
  · exact ⟨_, _, rfl⟩
theorem SR.some {b k len cap : Nat} (h : SR F (.slice (some ⟨b, k, none⟩) len cap) xs) : ∃ o, F b = some o := by
  obtain ⟨h0, cs, h1, h2⟩ := h
  rcases h1 with ⟨e, _⟩ | ⟨b', k', cap', c, e, e2, _⟩
  · cases e
  · cases e; exact ⟨_, e2⟩
def OW {α : Type} [Rp α] (lo n : Nat) (H F : Heap) (v : Value) (xs : List α) : Prop :=
  xs.length < UNK ∧ (∀ i, idOf v = some i → F i = none) ∧ ∃ cs, OwnS lo n H (Rp.sz α) v xs.length cs ∧ RA F cs xs
theorem OW.nil : OW lo n H F (.slice none 0 0) ([] : List α) := ⟨by simp [UNK], fun i h => (by cases h), [], .inl ⟨rfl, rfl, rfl⟩, .nil⟩
theorem OW.len_lt (h : OW lo n H F v xs) : xs.length < UNK := h.1
theorem OW.id_lt (h : OW lo n H F v xs) {i : Nat} (hi : idOf v = some i) : lo ≤ i ∧ i < n := by
  obtain ⟨_, _, cs, h, _⟩ := h; exact h.id_lt hi
theorem OW.fnone (h : OW lo n H F v xs) {i : Nat} (hi : idOf v = some i) : F i = none := h.2.1 i hi
theorem OW.keep (h : OW lo n H F v xs) (hn : n ≤ n') (hk : ∀ i, idOf v = some i → H' i = H i) : OW lo n' H' F v xs := by
  obtain ⟨h0, h1, cs, h2, h3⟩ := h
  exact ⟨h0, h1, cs, h2.mono (Nat.le_refl _) hn (fun i _ hi => hk i hi), h3⟩
theorem OW.keepF (h : OW lo n H F v xs) (hle : F.Le F') (hf : ∀ i, idOf v = some i → F' i = none) : OW lo n H F' v xs := by
  obtain ⟨h0, h1, cs, h2, h3⟩ := h
  exact ⟨h0, hf, cs, h2, h3.mono hle⟩
theorem OW.lower {lo' : Nat} (h : OW lo n H F v xs) (hl : lo' ≤ lo) : OW lo' n H F v xs := by
  obtain ⟨h0, h1, cs, h2, h3⟩ := h
  exact ⟨h0, h1, cs, h2.mono hl (Nat.le_refl _) (fun i _ hi => rfl), h3⟩
theorem OW.le (h : OW lo n H F v xs) (hle : H.Le H') : OW lo n H' F v xs := by
  obtain ⟨h0, h1, cs, h2, h3⟩ := h
  refine ⟨h0, h1, cs, ?_, h3⟩
  rcases h2 with h | ⟨b, k, cap, c, rfl, hb, h2⟩
  · exact .inl h
  · exact .inr ⟨b, k, cap, c, rfl, hle b _ hb, h2⟩
theorem OW.form (h : OW lo n H F v xs) : ∃ a cap, v = .slice a xs.length cap := by
  obtain ⟨h0, h1, cs, h2, h3⟩ := h
  rcases h2 with ⟨rfl, h, _⟩ | ⟨b, k, cap, c, rfl, _⟩
  · exact ⟨none, 0, by rw [h]⟩
  · exact ⟨_, _, rfl⟩
theorem OW.alive (h : OW lo n H F v xs) {i : Nat} (hi : idOf v = some i) : ∃ o, H i = some o := by
  obtain ⟨h0, h1, cs, h2, h3⟩ := h
  rcases h2 with ⟨rfl, _⟩ | ⟨b, k, cap, c, rfl, hb, h2⟩
  · cases hi
  · cases hi; exact ⟨_, hb⟩
theorem OW.freeze {lo0 : Nat} (h : OW lo n H F v xs) (hS : St lo0 n H F) : ∃ F', St lo0 n H F' ∧ F.Le F' ∧ SR F' v xs ∧ ∀ i, idOf v ≠ some i → F' i = F i := by
  obtain ⟨h0, h1, cs, h2, h3⟩ := h
  rcases h2 with ⟨rfl, e1, e2⟩ | ⟨b, k, cap, c, rfl, hb, e1, e2, e3⟩
  · exact ⟨F, hS, .refl _, ⟨h0, cs, .inl ⟨rfl, e1, e2⟩, h3⟩, fun _ _ => rfl⟩
  · have hfb := h1 b rfl
    have hle : F.Le (F.set b (.row (Rp.sz α) c)) := fun i o hi => by
      by_cases hib : i = b
      · subst hib; rw [hfb] at hi; cases hi
      · rw [Heap.set_ne _ _ hib]; exact hi
    refine ⟨F.set b (.row (Rp.sz α) c), ⟨hS.lo, hS.hb, fun i o hi => ?_⟩, hle, ⟨h0, cs, .inr ⟨b, k, cap, c, rfl, Heap.set_same _ _ _, e1, e2⟩, h3.mono hle⟩, fun i hi => Heap.set_ne _ _ (fun e => hi (by simp [idOf, e]))⟩
    by_cases hib : i = b
    · subst hib; rw [Heap.set_same] at hi; rw [hb]; exact hi
    · rw [Heap.set_ne _ _ hib] at hi; exact hS.fh i o hi
theorem OW.sr (h : OW lo n H F v xs) (hS : F.Le H) : SR H v xs := by
  obtain ⟨h0, h1, cs, h2, h3⟩ := h
  exact ⟨h0, cs, h2.sl, h3.mono hS⟩
end
end Go.Proofs.YtmodhnkjimpkbaaAb
