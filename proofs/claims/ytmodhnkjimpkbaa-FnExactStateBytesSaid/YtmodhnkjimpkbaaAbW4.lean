import Derived.Test.YtmodhnkjimpkbaaAbW3
set_option linter.all false
namespace Go.Proofs.YtmodhnkjimpkbaaAb
open Go
theorem foldl_splice (off : Nat) : ∀ (xs : List Value) (s : Nat) (a : Array Value), off + s + xs.length ≤ a.size →
    ((xs.zipIdx s).foldl (fun cs p => cs.setIfInBounds (off + p.2) p.1) a).toList = splice a.toList (off + s) xs := by
  intro xs
  induction xs with
  | nil => intro s a _; simp [splice]
  | cons x xs ih =>
    intro s a h
    simp only [List.zipIdx_cons, List.foldl_cons]
    simp only [List.length_cons] at h
    rw [ih (s + 1) _ (by simp; omega)]
    apply List.ext_getElem?
    intro k
    rw [getElem?_splice (by simp; omega), getElem?_splice (by simp; omega)]
    simp only [Array.toList_setIfInBounds, List.getElem?_set, List.length_cons, Array.length_toList]
    by_cases h1 : k < off + s
    · rw [if_pos (by omega), if_pos h1, if_neg (by omega)]
    · by_cases h2 : k = off + s
      · subst h2
        rw [if_pos (by omega), if_pos rfl, if_pos (by omega), if_neg (by omega), if_pos (by omega)]
        simp
      · by_cases h3 : k < off + s + (xs.length + 1)
        · rw [if_neg (by omega), if_pos (by omega), if_neg h1, if_pos h3]
          rw [show k - (off + s) = (k - (off + (s + 1))) + 1 by omega]
          simp
        · rw [if_neg (by omega), if_neg (by omega), if_neg h1, if_neg h3, if_neg (by omega)]
def fillL (place : Nat → Option (Nat × Nat)) (c : List Value) : List (Nat × Value) → Option (List Value)
  | [] => some c
  | (i, v) :: rest =>
    match place i with
    | none => none
    | some (off, size) => if (Cells v).length = size ∧ off + size ≤ c.length then fillL place (splice c off (Cells v)) rest else none
theorem fill_of_fillL (place : Nat → Option (Nat × Nat)) : ∀ (ps : List (Nat × Value)) (a : Array Value) (out : List Value), fillL place a.toList ps = some out → Instr.fill place a ps = some out.toArray
  | [], a, out, h => by simp only [fillL, Option.some.injEq] at h; subst h; simp [Instr.fill]
  | (i, v) :: rest, a, out, h => by
    simp only [fillL] at h
    simp only [Instr.fill]
    cases hp : place i with
    | none => rw [hp] at h; cases h
    | some q =>
      obtain ⟨off, size⟩ := q
      rw [hp] at h
      simp only at h ⊢
      split at h
      · rename_i hc
        obtain ⟨h1, h2⟩ := hc
        have hs : v.cells.size = size := by simpa [Cells] using h1
        have h3 : off + size ≤ a.size := by simpa using h2
        rw [if_neg (by simp [hs]; omega)]
        refine fill_of_fillL place rest _ out ?_
        rw [← h]
        congr 1
        have := foldl_splice off v.cells.toList 0 a (by simp only [Array.length_toList]; omega)
        simp only [Nat.add_zero] at this
        rw [← Array.foldl_toList, Array.toList_zipIdx]
        exact this
      · cases h
theorem fillL_seq (sz : Nat) : ∀ (vs : List Value) (j0 : Nat) (pre rest : List Value), pre.length = j0 * sz → rest.length = vs.length * sz → (∀ v ∈ vs, (Cells v).length = sz) →
    fillL (fun j => some (j * sz, sz)) (pre ++ rest) ((vs.zipIdx j0).map fun p => (p.2, p.1)) = some (pre ++ vs.flatMap Cells)
  | [], j0, pre, rest, h1, h2, _ => by
    have : rest = [] := List.eq_nil_of_length_eq_zero (by simpa using h2)
    simp [fillL, this]
  | v :: vs, j0, pre, rest, h1, h2, h3 => by
    have hv := h3 v (by simp)
    simp only [List.length_cons, Nat.add_mul, Nat.one_mul] at h2
    simp only [List.zipIdx_cons, List.map_cons, fillL]
    rw [if_pos ⟨hv, by simp; omega⟩]
    have e : splice (pre ++ rest) (j0 * sz) (Cells v) = (pre ++ Cells v) ++ rest.drop sz := by
      unfold splice
      rw [← h1, List.take_left', hv]
      · rw [show pre.length + sz = pre.length + sz from rfl, List.drop_append]
        simp
      · rfl
    rw [e, fillL_seq sz vs (j0 + 1) (pre ++ Cells v) (rest.drop sz) (by simp [h1, hv, Nat.add_mul]) (by simp; omega) (fun u hu => h3 u (by simp [hu]))]
    simp
theorem flat_len (sz : Nat) : ∀ (vs : List Value), (∀ v ∈ vs, (Cells v).length = sz) → (vs.flatMap Cells).length = vs.length * sz
  | [], _ => by simp
  | v :: vs, h => by
    simp only [List.flatMap_cons, List.length_append, List.length_cons, Nat.add_mul, Nat.one_mul]
    rw [h v (by simp), flat_len sz vs (fun u hu => h u (by simp [hu]))]; omega
theorem mapM_pairs {ev : Operand → Option Value} : ∀ (ps : List (Nat × Operand)) (j0 : Nat) (vs : List Value), ps.mapM (fun p => ev p.2) = some vs → ps.map (·.1) = List.range' j0 ps.length →
    ps.mapM (fun p => (ev p.2).map fun v => (p.1, v)) = some ((vs.zipIdx j0).map fun p => (p.2, p.1))
  | [], j0, vs, h, _ => by simp at h; subst h; simp
  | p :: ps, j0, vs, h, hx => by
    simp only [List.mapM_cons, bind, pure, Option.bind_eq_some_iff] at h ⊢
    obtain ⟨v, hv, r, hr, hc⟩ := h
    obtain rfl := Option.some.inj hc
    simp only [List.map_cons, List.length_cons, List.range'_succ, List.cons.injEq] at hx
    have ih := mapM_pairs ps (j0 + 1) r hr hx.2
    exact ⟨(p.1, v), by simp [hv], _, ih, by simp [hx.1]⟩
section
variable {P : Program} {Δ : Prims} {lo : Nat} {fr : Fr} {n : Nat} {H : Heap} {Q : Post} {all : Array Oper} {l : List Oper} {o : Oper} {d : Nat}
theorem WL.lit {fl fl2 : List Bool} {lw : Nat} (hfl : IsFl fl lo n lw fl2) {t el : TypeId} {len : Nat} {ps : Array (Nat × Operand)} {vs cs : List Value} {z : Value} {i : TypeInfo} (ho : o.op = .buildSlice t len ps) (hd : o.dst = some d) (hw : wantedA all o fr = some true) (ht : P.underlying t = some (.slice el)) (hi : P.info? el = some i) (hz : i.zero = some z)
    (hg : (Cells z).all grZ = true) (hzc : (Cells z).length = i.size) (hsz : len * i.size ≤ 16777216) (hlen : len < 1000000) (hp : ps.toList.mapM (fun p => fr.eval p.2) = some vs) (hix : ps.toList.map (·.1) = List.range' 0 len) (hvs : vs.map (fun v => (Cells v).length) = List.replicate len i.size)
    (hcs : vs.flatMap Cells = cs) (h1 : ∀ v ∈ cs, v.oneCell' = true)
    (kk : WL P Δ lo fl2 all l ((d, .slice (some ⟨n, 0, none⟩) len len) :: fr) (n + 1) (H.set n (.row i.size cs)) Q) : WL P Δ lo fl all (o :: l) fr n H Q := by
  have hvl : vs.length = len := by have := congrArg List.length hvs; simpa using this
  have hpl : ps.toList.length = len := by have := congrArg List.length hix; simpa using this
  have hall : ∀ v ∈ vs, (Cells v).length = i.size := fun v hv => by
    have : (Cells v).length ∈ vs.map (fun v => (Cells v).length) := List.mem_map.2 ⟨v, hv, rfl⟩
    rw [hvs] at this; exact (List.mem_replicate.1 this).2
  have hpp := mapM_pairs (ev := fr.eval) ps.toList 0 vs hp (by rw [hix, hpl])
  have hml : (madeCells z.cells (len * i.size)).toList.length = vs.length * i.size := by rw [Array.length_toList, size_madeCells, hvl]
  have hfill := fillL_seq i.size vs 0 [] (madeCells z.cells (len * i.size)).toList (by simp) hml hall
  rw [List.nil_append, List.nil_append, hcs] at hfill
  have hf := fill_of_fillL _ _ _ _ hfill
  have hcl : cs.length = len * i.size := by
    rw [← hcs, ← hvl]; exact flat_len i.size vs hall
  refine WL.buildSlice hfl (parts := (vs.zipIdx 0).map fun p => (p.2, p.1)) (cells := cs.toArray) ho hd hw ht hi hz hg hsz (by unfold UNK; omega) hpp hzc hf (by simpa using h1) (by simpa using hcl) ?_
  simpa using kk
theorem WL.buildL {fl fl2 : List Bool} {lw : Nat} (hfl : IsFl fl lo n lw fl2) {t : TypeId} {ps : Array (Nat × Operand)} {fs : Array Field} {parts : List (Nat × Value)} {places : List (Nat × Nat)} {z : Value} {iz : TypeInfo} {zc cells : List Value} (ho : o.op = .build t ps) (hd : o.dst = some d) (hw : wantedA all o fr = some true) (ht : P.underlying t = some (.struct fs))
    (hi : P.info? t = some iz) (hz : iz.zero = some z) (hzc : Cells z = zc) (hg : zc.all grZ = true) (hpl : fs.toList.mapM (fun f => (P.info? f.type).map fun i => (f.offset, i.size)) = some places) (hp : ps.toList.mapM (fun p => (fr.eval p.2).map fun v => (p.1, v)) = some parts)
    (hf : fillL (fun j => places[j]?) zc parts = some cells) (kk : WL P Δ lo fl2 all l ((d, .agg cells.toArray) :: fr) n H Q) : WL P Δ lo fl all (o :: l) fr n H Q := by
  subst hzc
  refine WL.build hfl ho hd hw ht hi hz hg hpl hp ?_ kk
  have hf2 := fill_of_fillL _ parts z.cells cells hf
  rw [← hf2]
  exact fill_places _ _ (fun j => by simp) _ _
theorem WL.storeL {fl fl2 : List Bool} {lw : Nat} (hfl : IsFl fl lo n lw fl2) {t : TypeId} {x y : Operand} {i : TypeInfo} {b k e : Nat} {c vc c' : List Value} {v : Value} (ho : o.op = .store t x y) (hd : o.dst = none) (hw : wantedA all o fr = some true) (hi : P.info? t = some i)
    (hx : fr.eval x = some (.pointer (some ⟨b, k, none⟩))) (hy : fr.eval y = some v) (hv : Cells v = vc) (hs : vc.length = i.size) (hb : H b = some (.row e c)) (hk : k + i.size ≤ c.length) (hlo : lw ≤ b) (hbn : b < n) (h1 : ∀ u ∈ vc, u.oneCell' = true) (hc : splice c k vc = c')
    (kk : WL P Δ lo fl2 all l fr n (H.set b (.row e c')) Q) : WL P Δ lo fl all (o :: l) fr n H Q := by
  subst hv; subst hc
  exact WL.store hfl ho hd hw hi hx hy hs hb hk hlo hbn h1 kk
theorem WL.allocL {fl fl2 : List Bool} {lw : Nat} (hfl : IsFl fl lo n lw fl2) {t : TypeId} {i : TypeInfo} {z : Value} {zc : List Value} (e : Nat) (ho : o.op = .alloc t) (hd : o.dst = some d) (hw : wantedA all o fr = some true) (hi : P.info? t = some i) (hz : i.zero = some z) (hzc : Cells z = zc) (hg : zc.all grZ = true)
    (k : WL P Δ lo fl2 all l ((d, .pointer (some ⟨n, 0, none⟩)) :: fr) (n + 1) (H.set n (.row e zc)) Q) : WL P Δ lo fl all (o :: l) fr n H Q := by
  subst hzc
  exact WL.alloc hfl e ho hd hw hi hz hg k
theorem WL.boxL {fl fl2 : List Bool} {lw : Nat} (hfl : IsFl fl lo n lw fl2) {t : TypeId} {x : Operand} {v : Value} {vc : List Value} (e : Nat) (ho : o.op = .box t x) (hd : o.dst = some d) (hw : wantedA all o fr = some true) (hx : fr.eval x = some v) (hv : Cells v = vc) (hg : ∀ u ∈ vc, u.oneCell' = true)
    (k : WL P Δ lo fl2 all l ((d, .pointer (some ⟨n, 0, none⟩)) :: fr) (n + 1) (H.set n (.row e vc)) Q) : WL P Δ lo fl all (o :: l) fr n H Q := by
  subst hv
  exact WL.box hfl e ho hd hw hx hg k
end
end Go.Proofs.YtmodhnkjimpkbaaAb
