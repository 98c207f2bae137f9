import Derived.Test.YtlpcdcpcfeaecaaG00
set_option linter.all false
section
namespace Go.Proofs.YtlpcdcpcfeaecaaAb
open Go
theorem foldl_splice (off : Nat) : ∀ (xs : List Value) (s : Nat) (a : Array Value), off + s + xs.length ≤ a.size →
    ((xs.zipIdx s).foldl (fun cs p => cs.setIfInBounds (off + p.2) p.1) a).toList = splice a.toList (off + s) xs := by
  intro xs
  induction xs with
  | nil => intro s a _; simp [splice]
  | cons x xs ih =>
    intro s a h
    simp only [List.zipIdx_cons, List.foldl_cons]
    simp only [List.length_cons] at h
    rw [ih (s + 1) _ (by simp; omega)]
    apply List.ext_getElem?
    intro k
    rw [getElem?_splice (by simp; omega), getElem?_splice (by simp; omega)]
    simp only [Array.toList_setIfInBounds, List.getElem?_set, List.length_cons, Array.length_toList]
    by_cases h1 : k < off + s
    · rw [if_pos (by omega), if_pos h1, if_neg (by omega)]
    · by_cases h2 : k = off + s
      · subst h2
        rw [if_pos (by omega), if_pos rfl, if_pos (by omega), if_neg (by omega), if_pos (by omega)]
        simp
      · by_cases h3 : k < off + s + (xs.length + 1)
        · rw [if_neg (by omega), if_pos (by omega), if_neg h1, if_pos h3]
          rw [show k - (off + s) = (k - (off + (s + 1))) + 1 by omega]
          simp
        · rw [if_neg (by omega), if_neg (by omega), if_neg h1, if_neg h3, if_neg (by omega)]
def fillL (place : Nat → Option (Nat × Nat)) (c : List Value) : List (Nat × Value) → Option (List Value)
  | [] => some c
  | (i, v) :: rest =>
    match place i with
    | none => none
    | some (off, size) => if (Cells v).length = size ∧ off + size ≤ c.length then fillL place (splice c off (Cells v)) rest else none
theorem fill_of_fillL (place : Nat → Option (Nat × Nat)) : ∀ (ps : List (Nat × Value)) (a : Array Value) (out : List Value), fillL place a.toList ps = some out → Instr.fill place a ps = some out.toArray
  | [], a, out, h => by simp only [fillL, Option.some.injEq] at h; subst h; simp [Instr.fill]
  | (i, v) :: rest, a, out, h => by
    simp only [fillL] at h
    simp only [Instr.fill]
    cases hp : place i with
    | none => rw [hp] at h; cases h
    | some q =>
      obtain ⟨off, size⟩ := q
      rw [hp] at h
      simp only at h ⊢
      split at h
      · rename_i hc
        obtain ⟨h1, h2⟩ := hc
        have hs : v.cells.size = size := by simpa [Cells] using h1
        have h3 : off + size ≤ a.size := by simpa using h2
        rw [if_neg (by simp [hs]; omega)]
        refine fill_of_fillL place rest _ out ?_
        rw [← h]
        congr 1
        have := foldl_splice off v.cells.toList 0 a (by simp only [Array.length_toList]; omega)
        simp only [Nat.add_zero] at this
        rw [← Array.foldl_toList, Array.toList_zipIdx]
        exact this
      · cases h
theorem fillL_seq (sz : Nat) : ∀ (vs : List Value) (j0 : Nat) (pre rest : List Value), pre.length = j0 * sz → rest.length = vs.length * sz → (∀ v ∈ vs, (Cells v).length = sz) →
    fillL (fun j => some (j * sz, sz)) (pre ++ rest) ((vs.zipIdx j0).map fun p => (p.2, p.1)) = some (pre ++ vs.flatMap Cells)
  | [], j0, pre, rest, h1, h2, _ => by
    have : rest = [] := List.eq_nil_of_length_eq_zero (by simpa using h2)
    simp [fillL, this]
  | v :: vs, j0, pre, rest, h1, h2, h3 => by
    have hv := h3 v (by simp)
    simp only [List.length_cons, Nat.add_mul, Nat.one_mul] at h2
    simp only [List.zipIdx_cons, List.map_cons, fillL]
    rw [if_pos ⟨hv, by simp; omega⟩]
    have e : splice (pre ++ rest) (j0 * sz) (Cells v) = (pre ++ Cells v) ++ rest.drop sz := by
      unfold splice
      rw [← h1, List.take_left', hv]
      · rw [show pre.length + sz = pre.length + sz from rfl, List.drop_append]
        simp
      · rfl
    rw [e, fillL_seq sz vs (j0 + 1) (pre ++ Cells v) (rest.drop sz) (by simp [h1, hv, Nat.add_mul]) (by simp; omega) (fun u hu => h3 u (by simp [hu]))]
    simp
theorem flat_len (sz : Nat) : ∀ (vs : List Value), (∀ v ∈ vs, (Cells v).length = sz) → (vs.flatMap Cells).length = vs.length * sz
  | [], _ => by simp
  | v :: vs, h => by
    simp only [List.flatMap_cons, List.length_append, List.length_cons, Nat.add_mul, Nat.one_mul]
    rw [h v (by simp), flat_len sz vs (fun u hu => h u (by simp [hu]))]; omega
theorem mapM_pairs {ev : Operand → Option Value} : ∀ (ps : List (Nat × Operand)) (j0 : Nat) (vs : List Value), ps.mapM (fun p => ev p.2) = some vs → ps.map (·.1) = List.range' j0 ps.length →
    ps.mapM (fun p => (ev p.2).map fun v => (p.1, v)) = some ((vs.zipIdx j0).map fun p => (p.2, p.1))
  | [], j0, vs, h, _ => by simp at h; subst h; simp
  | p :: ps, j0, vs, h, hx => by
    simp only [List.mapM_cons, bind, pure, Option.bind_eq_some_iff] at h ⊢
    obtain ⟨v, hv, r, hr, hc⟩ := h
    obtain rfl := Option.some.inj hc
    simp only [List.map_cons, List.length_cons, List.range'_succ, List.cons.injEq] at hx
    have ih := mapM_pairs ps (j0 + 1) r hr hx.2
    exact ⟨(p.1, v), by simp [hv], _, ih, by simp [hx.1]⟩
section
variable {P : Program} {Δ : Prims} {lo : Nat} {fr : Fr} {n : Nat} {H : Heap} {Q : Post} {all : Array Oper} {l : List Oper} {o : Oper} {d : Nat}
theorem WL.lit {fl fl2 : List Bool} {lw : Nat} (hfl : IsFl fl lo n lw fl2) {t el : TypeId} {len : Nat} {ps : Array (Nat × Operand)} {vs cs : List Value} {z : Value} {i : TypeInfo} (ho : o.op = .buildSlice t len ps) (hd : o.dst = some d) (hw : wA all o fr = some true) (ht : P.underlying t = some (.slice el)) (hi : P.info? el = some i) (hz : i.zero = some z)
    (hg : (Cells z).all grZ = true) (hzc : (Cells z).length = i.size) (hsz : len * i.size ≤ 16777216) (hlen : len < 1000000) (hp : ps.toList.mapM (fun p => fr.eval p.2) = some vs) (hix : ps.toList.map (·.1) = List.range' 0 len) (hvs : vs.map (fun v => (Cells v).length) = List.replicate len i.size)
    (hcs : vs.flatMap Cells = cs) (h1 : ∀ v ∈ cs, v.oneCell' = true)
    (kk : WL P Δ lo fl2 all l ((d, .slice (some ⟨n, 0, none⟩) len len) :: fr) (n + 1) (H.set n (.row i.size cs)) Q) : WL P Δ lo fl all (o :: l) fr n H Q := by
  have hvl : vs.length = len := by have := congrArg List.length hvs; simpa using this
  have hpl : ps.toList.length = len := by have := congrArg List.length hix; simpa using this
  have hall : ∀ v ∈ vs, (Cells v).length = i.size := fun v hv => by
    have : (Cells v).length ∈ vs.map (fun v => (Cells v).length) := List.mem_map.2 ⟨v, hv, rfl⟩
    rw [hvs] at this; exact (List.mem_replicate.1 this).2
  have hpp := mapM_pairs (ev := fr.eval) ps.toList 0 vs hp (by rw [hix, hpl])
  have hml : (madeCells z.cells (len * i.size)).toList.length = vs.length * i.size := by rw [Array.length_toList, size_madeCells, hvl]
  have hfill := fillL_seq i.size vs 0 [] (madeCells z.cells (len * i.size)).toList (by simp) hml hall
  rw [List.nil_append, List.nil_append, hcs] at hfill
  have hf := fill_of_fillL _ _ _ _ hfill
  have hcl : cs.length = len * i.size := by
    rw [← hcs, ← hvl]; exact flat_len i.size vs hall
  refine WL.buildSlice hfl (parts := (vs.zipIdx 0).map fun p => (p.2, p.1)) (cells := cs.toArray) ho hd hw ht hi hz hg hsz (by unfold UNK; omega) hpp hzc hf (by simpa using h1) (by simpa using hcl) ?_
  simpa using kk
theorem WL.buildL {fl fl2 : List Bool} {lw : Nat} (hfl : IsFl fl lo n lw fl2) {t : TypeId} {ps : Array (Nat × Operand)} {fs : Array Field} {parts : List (Nat × Value)} {places : List (Nat × Nat)} {z : Value} {iz : TypeInfo} {zc cells : List Value} (ho : o.op = .build t ps) (hd : o.dst = some d) (hw : wA all o fr = some true) (ht : P.underlying t = some (.struct fs))
    (hi : P.info? t = some iz) (hz : iz.zero = some z) (hzc : Cells z = zc) (hg : zc.all grZ = true) (hpl : fs.toList.mapM (fun f => (P.info? f.type).map fun i => (f.offset, i.size)) = some places) (hp : ps.toList.mapM (fun p => (fr.eval p.2).map fun v => (p.1, v)) = some parts)
    (hf : fillL (fun j => places[j]?) zc parts = some cells) (kk : WL P Δ lo fl2 all l ((d, .agg cells.toArray) :: fr) n H Q) : WL P Δ lo fl all (o :: l) fr n H Q := by
  subst hzc
  refine WL.build hfl ho hd hw ht hi hz hg hpl hp ?_ kk
  have hf2 := fill_of_fillL _ parts z.cells cells hf
  rw [← hf2]
  exact fill_places _ _ (fun j => by simp) _ _
theorem WL.storeL {fl fl2 : List Bool} {lw : Nat} (hfl : IsFl fl lo n lw fl2) {t : TypeId} {x y : Operand} {i : TypeInfo} {b k e : Nat} {c vc c' : List Value} {v : Value} (ho : o.op = .store t x y) (hd : o.dst = none) (hw : wA all o fr = some true) (hi : P.info? t = some i)
    (hx : fr.eval x = some (.pointer (some ⟨b, k, none⟩))) (hy : fr.eval y = some v) (hv : Cells v = vc) (hs : vc.length = i.size) (hb : H b = some (.row e c)) (hk : k + i.size ≤ c.length) (hlo : lw ≤ b) (hbn : b < n) (h1 : ∀ u ∈ vc, u.oneCell' = true) (hc : splice c k vc = c')
    (kk : WL P Δ lo fl2 all l fr n (H.set b (.row e c')) Q) : WL P Δ lo fl all (o :: l) fr n H Q := by
  subst hv; subst hc
  exact WL.store hfl ho hd hw hi hx hy hs hb hk hlo hbn h1 kk
theorem WL.allocL {fl fl2 : List Bool} {lw : Nat} (hfl : IsFl fl lo n lw fl2) {t : TypeId} {i : TypeInfo} {z : Value} {zc : List Value} (e : Nat) (ho : o.op = .alloc t) (hd : o.dst = some d) (hw : wA all o fr = some true) (hi : P.info? t = some i) (hz : i.zero = some z) (hzc : Cells z = zc) (hg : zc.all grZ = true)
    (k : WL P Δ lo fl2 all l ((d, .pointer (some ⟨n, 0, none⟩)) :: fr) (n + 1) (H.set n (.row e zc)) Q) : WL P Δ lo fl all (o :: l) fr n H Q := by
  subst hzc
  exact WL.alloc hfl e ho hd hw hi hz hg k
theorem WL.boxL {fl fl2 : List Bool} {lw : Nat} (hfl : IsFl fl lo n lw fl2) {t : TypeId} {x : Operand} {v : Value} {vc : List Value} (e : Nat) (ho : o.op = .box t x) (hd : o.dst = some d) (hw : wA all o fr = some true) (hx : fr.eval x = some v) (hv : Cells v = vc) (hg : ∀ u ∈ vc, u.oneCell' = true)
    (k : WL P Δ lo fl2 all l ((d, .pointer (some ⟨n, 0, none⟩)) :: fr) (n + 1) (H.set n (.row e vc)) Q) : WL P Δ lo fl all (o :: l) fr n H Q := by
  subst hv
  exact WL.box hfl e ho hd hw hx hg k
end
end Go.Proofs.YtlpcdcpcfeaecaaAb
end
section
namespace Go.Proofs.YtlpcdcpcfeaecaaAb
open Go
theorem OwnS.mono {lo lo' n n' : Nat} {H H' : Heap} {sz : Nat} {v : Value} {len : Nat} {cs : List Value} (h : OwnS lo n H sz v len cs) (hlo : lo' ≤ lo) (hn : n ≤ n') (hH : ∀ i, i < n → idOf v = some i → H' i = H i) : OwnS lo' n' H' sz v len cs := by
  rcases h with h | ⟨b, k, cap, c, rfl, hb, h2, h3, h4, h5, h6, h7⟩
  · exact .inl h
  · exact .inr ⟨b, k, cap, c, rfl, by rw [hH b h5 rfl]; exact hb, h2, h3, by omega, by omega, h6, h7⟩
theorem OwnS.id_lt {lo n : Nat} {H : Heap} {sz : Nat} {v : Value} {len : Nat} {cs : List Value} (h : OwnS lo n H sz v len cs) {i : Nat} (hi : idOf v = some i) : lo ≤ i ∧ i < n := by
  rcases h with ⟨rfl, _⟩ | ⟨b, k, cap, c, rfl, hb, h2, h3, h4, h5, h6, h7⟩
  · cases hi
  · simp only [idOf, Option.some.injEq] at hi; omega
def byteOf (x : Int) : UInt8 := (x % 256).toNat.toUInt8
theorem u8_byteOf (x : Int) : Value.int .u8 (IntKind.wrap .u8 x) = u8 (byteOf x) := by
  rw [wrap_u8_mod]
  simp only [u8, byteOf]
  congr 1
  have h1 : 0 ≤ x % 256 := Int.emod_nonneg _ (by decide)
  have h2 : x % 256 < 256 := Int.emod_lt_of_pos _ (by decide)
  have h3 : (x % 256).toNat < 256 := by omega
  rw [Nat.toUInt8, UInt8.toNat_ofNat_of_lt' h3]
  omega
section
variable {P : Program} {Δ : Prims} {lo : Nat} {fr : Fr} {n : Nat} {H : Heap} {Q : Post}
section ops
variable {all : Array Oper} {l : List Oper} {o : Oper} {d : Nat}
theorem WL.convB {fl fl2 : List Bool} {lw : Nat} (hfl : IsFl fl lo n lw fl2) {s t : TypeId} {ds : TypeDesc} {x : Operand} {q : IntKind} {a : Int} (ho : o.op = .convert s t x) (hd : o.dst = some d) (hw : wA all o fr = some true) (hs : P.underlying s = some ds) (ht : P.underlying t = some (.int .u8)) (hx : fr.eval x = some (.int q a)) (kk : WL P Δ lo fl2 all l ((d, u8 (byteOf a)) :: fr) n H Q) : WL P Δ lo fl all (o :: l) fr n H Q :=
  WL.convI hfl ho hd hw hs ht hx (by rw [u8_byteOf]; exact kk)
end ops
end
theorem resl1 {P : Program} {H : Heap} {fr : Fr} {t : Nat} {v : Value} (h : fr.get t = some v) : ResL P H fr [.tmp t] [v] := .cons (.tmp h) .nil
end Go.Proofs.YtlpcdcpcfeaecaaAb
end
section
namespace Go.Proofs.YtlpcdcpcfeaecaaAb
open Go
def Keeps (m : Nat) (H H' : Heap) : Prop := ∀ j, j < m → H' j = H j
theorem Keeps.eq {m : Nat} {H H' : Heap} (h : Keeps m H H') {i : Nat} (hi : i < m) : H' i = H i := h i hi
theorem Keeps.refl (m : Nat) (H : Heap) : Keeps m H H := fun _ _ => rfl
theorem Keeps.trans {m : Nat} {H H1 H2 : Heap} (a : Keeps m H H1) (b : Keeps m H1 H2) : Keeps m H H2 := fun j hj => (b j hj).trans (a j hj)
theorem Keeps.mono {m m' : Nat} {H H1 : Heap} (a : Keeps m H H1) (h : m' ≤ m) : Keeps m' H H1 := fun j hj => a j (by omega)
def SL (H : Heap) (sz : Nat) (v : Value) (len : Nat) (cs : List Value) : Prop :=
  (v = .slice none 0 0 ∧ len = 0 ∧ cs = []) ∨
  ∃ b k cap c, v = .slice (some ⟨b, k, none⟩) len cap ∧ H b = some (.row sz c) ∧ (c.drop k).take (len * sz) = cs ∧ cs.length = len * sz
theorem OwnS.sl {lo n : Nat} {H : Heap} {sz : Nat} {v : Value} {len : Nat} {cs : List Value} (h : OwnS lo n H sz v len cs) : SL H sz v len cs := by
  rcases h with h | ⟨b, k, cap, c, h1, h2, h3, h4, _⟩
  · exact .inl h
  · exact .inr ⟨b, k, cap, c, h1, h2, h3, h4⟩
theorem SL.form {H : Heap} {sz : Nat} {v : Value} {len : Nat} {cs : List Value} (h : SL H sz v len cs) : ∃ a cap, v = .slice a len cap := by
  rcases h with ⟨rfl, rfl, rfl⟩ | ⟨b, k, cap, c, rfl, _⟩
  · exact ⟨_, _, rfl⟩
  · exact ⟨_, _, rfl⟩
theorem OwnS.form {lo n : Nat} {H : Heap} {sz : Nat} {v : Value} {len : Nat} {cs : List Value} (h : OwnS lo n H sz v len cs) : ∃ a cap, v = .slice a len cap := h.sl.form
theorem SL.length {H : Heap} {sz : Nat} {v : Value} {len : Nat} {cs : List Value} (h : SL H sz v len cs) : cs.length = len * sz := by
  rcases h with ⟨rfl, rfl, rfl⟩ | ⟨b, k, cap, c, rfl, _, _, h⟩
  · simp
  · exact h
theorem SL.mono {H H' : Heap} {sz : Nat} {v : Value} {len : Nat} {cs : List Value} (h : SL H sz v len cs) (hH : ∀ i, idOf v = some i → H' i = H i) : SL H' sz v len cs := by
  rcases h with h | ⟨b, k, cap, c, rfl, h2, h3⟩
  · exact .inl h
  · exact .inr ⟨b, k, cap, c, rfl, by rw [hH b rfl]; exact h2, h3⟩
def Below (m : Nat) (v : Value) : Prop := ∀ i, idOf v = some i → i < m
theorem SL.abs {H H' : Heap} {sz : Nat} {v : Value} {len : Nat} {cs : List Value} {m n n' : Nat} (h : SL H sz v len cs) (hb : Below m v) (ha : AbsOk m n H n' H') : SL H' sz v len cs := h.mono fun i hi => ha.eq (hb i hi)
theorem OwnS.abs {lo n : Nat} {H H' : Heap} {sz : Nat} {v : Value} {len : Nat} {cs : List Value} {n' : Nat} (h : OwnS lo n H sz v len cs) (ha : AbsOk n n H n' H') : OwnS lo n' H' sz v len cs := h.mono (Nat.le_refl _) ha.le fun i hi _ => ha.eq hi
section
variable {P : Program} {Δ : Prims} {lo : Nat} {fr : Fr} {n : Nat} {H : Heap} {Q : Post} {all : Array Oper} {l : List Oper} {o : Oper} {d : Nat}
theorem Src.ofSL {ev : Operand → Option Value} {size m : Nat} {u : TypeId} {y : Operand} {dd : TypeDesc} {v : Value} {cs : List Value} (hu : P.underlying u = some dd) (hd : isInt dd = false) (hy : ev y = some v) (h : SL H size v m cs) : Src P ev H size u y m cs := by
  rcases h with ⟨rfl, rfl, rfl⟩ | ⟨b, k, cap, c, rfl, hb, hc, hcl⟩
  · exact .nil hu hd hy
  · exact .slice hu hd hy hb hc hcl
end
def SLI (m : Nat) (H : Heap) (sz : Nat) (v : Value) (len : Nat) (cs : List Value) : Prop := SL H sz v len cs ∧ Below m v
theorem SLI.keep {m m' : Nat} {H H' : Heap} {sz : Nat} {v : Value} {len : Nat} {cs : List Value} (h : SLI m H sz v len cs) (hm : m ≤ m') (hk : ∀ i, i < m → H' i = H i) : SLI m' H' sz v len cs :=
  ⟨h.1.mono fun i hi => hk i (h.2 i hi), fun i hi => Nat.lt_of_lt_of_le (h.2 i hi) hm⟩
theorem OwnS.keep {lo lo' n n' : Nat} {H H' : Heap} {sz : Nat} {v : Value} {len : Nat} {cs : List Value} (h : OwnS lo n H sz v len cs) (hlo : lo' ≤ lo) (hn : n ≤ n') (hk : ∀ i, i < n → H' i = H i) : OwnS lo' n' H' sz v len cs := h.mono hlo hn fun i hi _ => hk i hi
abbrev BSI (m : Nat) (H : Heap) (v : Value) (bs : List UInt8) : Prop := SLI m H 1 v bs.length (bs.map u8)
section
variable {P : Program} {Δ : Prims} {lo : Nat} {fr : Fr} {n : Nat} {H : Heap} {Q : Post} {all : Array Oper} {l : List Oper} {o : Oper} {d : Nat}
end
end Go.Proofs.YtlpcdcpcfeaecaaAb
end
section
namespace Go.Proofs.YtlpcdcpcfeaecaaAb
open Go
section
variable {P : Program} {Δ : Prims}
theorem D.op_congr {lo : Nat} {o : Oper} {fr fr2 : Fr} {n n' : Nat} {H H' : Heap} {v : Value} (hs : Fr.same fr2 fr) (h : D P Δ (.op lo o fr n H v n' H')) : D P Δ (.op lo o fr2 n H v n' H') := by
  have he := Fr.same_eval hs
  generalize hj : J.op lo o fr n H v n' H' = j at h
  cases h with
  | step h => cases hj; exact .step (by rw [he]; exact h)
  | stepM h => cases hj; exact .stepM (by rw [he]; exact h)
  | callF ho hx ha hfn hname hbody h1 h2 h => cases hj; exact .callF ho (by rw [he]; exact hx) (by rw [he]; exact ha) hfn hname hbody h1 h2 h
  | _ => cases hj
theorem TR.fns {lo : Nat} {all : Array Oper} {fl : List Bool} {l : List Oper} {fr fr' : Fr} {n n' : Nat} {H H' : Heap} {e : Ex} (h : TR P Δ lo all fl l fr n H e fr' n' H') : fl.length = l.length → ∀ frx, Fr.same frx fr →
    e = .norm ∧ ∃ (F : Nat → Fr) (N : Nat → Nat) (HH : Nat → Heap) (V : Nat → Value) (K : Nat → Bool), F 0 = frx ∧ N 0 = n ∧ HH 0 = H ∧ Fr.same (F l.length) fr' ∧ N l.length = n' ∧ HH l.length = H' ∧
      ∀ k, k < l.length → wA all (l.getD k default) (F k) = some (K k) ∧ F (k + 1) = (F k).put (l.getD k default).dst (V k) ∧ (K k = false → V k = undef ∧ N (k + 1) = N k ∧ HH (k + 1) = HH k) ∧
        (K k = true → D P Δ (.op (if fl.getD k true then lo else N k) (l.getD k default) (F k) (N k) (HH k) (V k) (N (k + 1)) (HH (k + 1)))) := by
  induction h with
  | nil =>
    intro _ frx hx
    exact ⟨rfl, fun _ => frx, fun _ => _, fun _ => _, fun _ => undef, fun _ => false, rfl, rfl, rfl, hx, rfl, rfl, fun k hk => by simp at hk⟩
  | @skip fl fl2 lw o l fr fr' n n' H H' e hfl hw h ih =>
    intro hlen frx hx
    have hlen2 : fl2.length = l.length := by cases hfl <;> simp at hlen ⊢ <;> omega
    obtain ⟨he, F, N, HH, V, K, f0, n0, h0, f1, n1, h1, hk⟩ := ih hlen2 (frx.put o.dst undef) (Fr.same_put hx _ _)
    refine ⟨he, fun k => match k with | 0 => frx | k + 1 => F k, fun k => match k with | 0 => n | k + 1 => N k, fun k => match k with | 0 => H | k + 1 => HH k, fun k => match k with | 0 => undef | k + 1 => V k, fun k => match k with | 0 => false | k + 1 => K k,
      rfl, rfl, rfl, by simpa using f1, by simpa using n1, by simpa using h1, fun k hkl => ?_⟩
    cases k with
    | zero =>
      refine ⟨by rw [Fr.same_wanted hx]; exact hw, f0, fun _ => ⟨rfl, n0, h0⟩, fun h => by cases h⟩
    | succ k =>
      have := hk k (by simpa using hkl)
      simp only [List.getD_cons_succ]
      have e1 : fl.getD (k + 1) true = fl2.getD k true := by cases hfl <;> simp
      rw [e1]; exact this
  | @cons fl fl2 lw o l fr fr' n n1 n' H H1 H' v e hfl hw hd h ih =>
    intro hlen frx hx
    have hlen2 : fl2.length = l.length := by cases hfl <;> simp at hlen ⊢ <;> omega
    obtain ⟨he, F, N, HH, V, K, f0, n0, h0, f1, nn1, h1, hk⟩ := ih hlen2 (frx.put o.dst v) (Fr.same_put hx _ _)
    refine ⟨he, fun k => match k with | 0 => frx | k + 1 => F k, fun k => match k with | 0 => n | k + 1 => N k, fun k => match k with | 0 => H | k + 1 => HH k, fun k => match k with | 0 => v | k + 1 => V k, fun k => match k with | 0 => true | k + 1 => K k,
      rfl, rfl, rfl, by simpa using f1, by simpa using nn1, by simpa using h1, fun k hkl => ?_⟩
    cases k with
    | zero =>
      refine ⟨by rw [Fr.same_wanted hx]; exact hw, f0, fun h => (by cases h), fun _ => ?_⟩
      have e1 : (if fl.getD 0 true then lo else n) = lw := by cases hfl <;> simp
      show D P Δ (.op (if fl.getD 0 true then lo else n) o frx n H v (N 0) (HH 0))
      rw [n0, h0, e1]
      exact D.op_congr hx hd
    | succ k =>
      have := hk k (by simpa using hkl)
      simp only [List.getD_cons_succ]
      have e1 : fl.getD (k + 1) true = fl2.getD k true := by cases hfl <;> simp
      rw [e1]; exact this
  | eqv hs h ih => exact fun hlen frx hx => ih hlen frx (fun t => (hx t).trans (hs t).symm)
  | ops hne h => exact fun hlen => absurd (List.eq_nil_of_length_eq_zero (by simpa using hlen.symm)) hne
def calmB (ops : Array Oper) (r : List Nat) (isW : Nat → Bool) : Bool :=
  (List.range (ops.size + 1)).all fun c => (List.range c).all fun k => !(decide (c = ops.size) || isW c) || isW k || !floatsB ops r isW k c
theorem W.regionD {lo : Nat} {id : Nat} {l : List Oper} {fr : Fr} {n : Nat} {H : Heap} {Q : Post} (r : List Nat) (fl : List Bool) (hlen : fl.length = l.length) (hrl : r.length = l.length) (hchk : regOK l.toArray r (fun k => fl.getD k true) = true) (hcalm : calmB l.toArray r (fun k => fl.getD k true) = true)
    {pl : List Oper} (hpl : r.map (fun i => l.getD i default) = pl) (h : WL P Δ lo fl l.toArray pl fr n H Q) : W P Δ lo (.region id l.toArray true) fr n H Q := by
  obtain ⟨e, fr', n', H', tr, q⟩ := h
  have hpll : pl.length = l.length := by rw [← hpl]; simp [hrl]
  obtain ⟨rfl, F, N, HH, V, K, rfl, rfl, rfl, f1, rfl, rfl, hk⟩ := tr.fns (by rw [hlen, hpll]) fr (Fr.same_refl fr)
  have hget : ∀ k, k < l.length → pl.getD k default = l.toArray.getD (r.getD k 0) default := fun k hk' => by
    rw [← hpl]
    have hkr : k < r.length := by omega
    simp [List.getD, List.getElem?_map, List.getElem?_eq_getElem hkr, Array.getD_eq_getD_getElem?]
  have hsz : l.toArray.size = l.length := by simp
  refine ⟨.norm, fr', _, _, D.drop (D.regionD (id := id) r (fun k => fl.getD k true) K F N HH V hchk (fun k hk' => ?_) (fun k hk' => ?_) (fun k hk' hf => ?_) (fun k hk' ht => ?_) (fun k c hkc hc hcw hw hfl hwk => ?_)) (fun t v hv => ?_), ?_⟩
  · rw [hsz] at hk'; rw [← hget k hk']; exact (hk k (by omega)).1
  · rw [hsz] at hk'; rw [← hget k hk']; exact (hk k (by omega)).2.1
  · rw [hsz] at hk'; exact (hk k (by omega)).2.2.1 hf
  · rw [hsz] at hk'; rw [← hget k hk']; exact (hk k (by omega)).2.2.2 ht
  · exfalso
    simp only [calmB, List.all_eq_true, List.mem_range] at hcalm
    have := hcalm c (by omega) k hkc
    rw [hfl, hw] at this
    have h2 : (decide (c = l.toArray.size) || fl.getD c true) = true := by
      rcases hcw with h | h
      · simp [h]
      · rw [h]; simp
    rw [h2] at this
    cases this
  · rw [hsz, ← hpll, f1 t]; exact hv
  · rw [hsz, ← hpll]; exact q
end
end Go.Proofs.YtlpcdcpcfeaecaaAb
end
section
namespace Go.Proofs.YtlpcdcpcfeaecaaAb
open Go
def topOf : IntKind → Int
  | .u8 => 256 | .u16 => 65536 | .u32 => 4294967296 | .u64 => 18446744073709551616 | .i8 => 128 | .i16 => 32768 | .i32 => 2147483648 | .i64 => 9223372036854775808
theorem wrap_in {k : IntKind} {x : Int} (h0 : 0 ≤ x) (h1 : x < topOf k) : IntKind.wrap k x = x := by
  have p8 : (2 : Int) ^ 8 = 256 := by decide
  have p7 : (2 : Int) ^ (8 - 1) = 128 := by decide
  have p16 : (2 : Int) ^ 16 = 65536 := by decide
  have p15 : (2 : Int) ^ (16 - 1) = 32768 := by decide
  have p32 : (2 : Int) ^ 32 = 4294967296 := by decide
  have p31 : (2 : Int) ^ (32 - 1) = 2147483648 := by decide
  have p64 : (2 : Int) ^ 64 = 18446744073709551616 := by decide
  have p63 : (2 : Int) ^ (64 - 1) = 9223372036854775808 := by decide
  cases k <;> simp only [topOf] at h1 <;> simp only [IntKind.wrap, IntKind.bits, IntKind.signed, Bool.true_and, Bool.false_and, Bool.false_eq_true, if_false, p8, p7, p16, p15, p32, p31, p64, p63, decide_eq_true_eq] <;> first | omega | (split <;> omega)
theorem topOf_le (k : IntKind) : topOf k ≤ 2 ^ k.bits := by cases k <;> simp only [topOf, IntKind.bits] <;> decide
theorem toNat_ofInt {k : IntKind} {x : Int} (h0 : 0 ≤ x) (h1 : x < topOf k) : (BitVec.ofInt k.bits x).toNat = x.toNat := by
  have h2 := topOf_le k
  obtain ⟨m, rfl⟩ := Int.eq_ofNat_of_zero_le h0
  rw [BitVec.ofInt_natCast, BitVec.toNat_ofNat, Int.toNat_natCast]
  apply Nat.mod_eq_of_lt
  have h3 : (m : Int) < ((2 ^ k.bits : Nat) : Int) := by
    have : ((2 ^ k.bits : Nat) : Int) = 2 ^ k.bits := by simp
    omega
  exact_mod_cast h3
theorem topOf_pow (k : IntKind) (h : 0 < topOf k) : ∃ w, topOf k = ((2 ^ w : Nat) : Int) := by
  cases k <;> simp only [topOf] at h ⊢
  case i8 => exact ⟨7, by decide⟩
  case i16 => exact ⟨15, by decide⟩
  case i32 => exact ⟨31, by decide⟩
  case i64 => exact ⟨63, by decide⟩
  case u8 => exact ⟨8, by decide⟩
  case u16 => exact ⟨16, by decide⟩
  case u32 => exact ⟨32, by decide⟩
  case u64 => exact ⟨64, by decide⟩
theorem bits_and {k : IntKind} {a b : Int} (ha : 0 ≤ a) (ha' : a < topOf k) (hb : 0 ≤ b) (hb' : b < topOf k) : k.wrap ((BitVec.ofInt k.bits a &&& BitVec.ofInt k.bits b).toNat : Int) = ((a.toNat &&& b.toNat : Nat) : Int) ∧ ((a.toNat &&& b.toNat : Nat) : Int) < topOf k := by
  obtain ⟨w, hw⟩ := topOf_pow k (by omega)
  have h : a.toNat &&& b.toNat < 2 ^ w := Nat.and_lt_two_pow _ (by omega)
  have h' : ((a.toNat &&& b.toNat : Nat) : Int) < topOf k := by rw [hw]; exact_mod_cast h
  rw [BitVec.toNat_and, toNat_ofInt ha ha', toNat_ofInt hb hb', wrap_in (by omega) h']
  exact ⟨rfl, h'⟩
theorem bits_or {k : IntKind} {a b : Int} (ha : 0 ≤ a) (ha' : a < topOf k) (hb : 0 ≤ b) (hb' : b < topOf k) : k.wrap ((BitVec.ofInt k.bits a ||| BitVec.ofInt k.bits b).toNat : Int) = ((a.toNat ||| b.toNat : Nat) : Int) ∧ ((a.toNat ||| b.toNat : Nat) : Int) < topOf k := by
  obtain ⟨w, hw⟩ := topOf_pow k (by omega)
  have h : a.toNat ||| b.toNat < 2 ^ w := Nat.or_lt_two_pow (by omega) (by omega)
  have h' : ((a.toNat ||| b.toNat : Nat) : Int) < topOf k := by rw [hw]; exact_mod_cast h
  rw [BitVec.toNat_or, toNat_ofInt ha ha', toNat_ofInt hb hb', wrap_in (by omega) h']
  exact ⟨rfl, h'⟩
section
variable {P : Program} {Δ : Prims} {lo : Nat} {fr : Fr} {n : Nat} {H : Heap} {Q : Post} {all : Array Oper} {l : List Oper} {o : Oper} {d : Nat}
theorem WL.andN {fl fl2 : List Bool} {lw : Nat} (hfl : IsFl fl lo n lw fl2) {t t' : TypeId} {x y : Operand} {k : IntKind} {a b T : Int} {an bn : Nat} (ho : o.op = .binOp .and t x y t') (hd : o.dst = some d) (hw : wA all o fr = some true) (hx : fr.eval x = some (.int k a)) (hy : fr.eval y = some (.int k b))
    (hT : topOf k = T) (ea : a.toNat = an) (eb : b.toNat = bn) (ha : 0 ≤ a) (ha' : a < T) (hb : 0 ≤ b) (hb' : b < T) (kk : ((an &&& bn : Nat) : Int) < T → WL P Δ lo fl2 all l ((d, .int k ((an &&& bn : Nat) : Int)) :: fr) n H Q) : WL P Δ lo fl all (o :: l) fr n H Q := by
  subst hT; subst ea; subst eb
  obtain ⟨h1, h2⟩ := bits_and ha ha' hb hb'
  exact WL.bin hfl ho hd hw hx hy (by simp only [binI, if_true]; rw [h1]) (kk h2)
theorem WL.orN {fl fl2 : List Bool} {lw : Nat} (hfl : IsFl fl lo n lw fl2) {t t' : TypeId} {x y : Operand} {k : IntKind} {a b T : Int} {an bn : Nat} (ho : o.op = .binOp .or t x y t') (hd : o.dst = some d) (hw : wA all o fr = some true) (hx : fr.eval x = some (.int k a)) (hy : fr.eval y = some (.int k b))
    (hT : topOf k = T) (ea : a.toNat = an) (eb : b.toNat = bn) (ha : 0 ≤ a) (ha' : a < T) (hb : 0 ≤ b) (hb' : b < T) (kk : ((an ||| bn : Nat) : Int) < T → WL P Δ lo fl2 all l ((d, .int k ((an ||| bn : Nat) : Int)) :: fr) n H Q) : WL P Δ lo fl all (o :: l) fr n H Q := by
  subst hT; subst ea; subst eb
  obtain ⟨h1, h2⟩ := bits_or ha ha' hb hb'
  exact WL.bin hfl ho hd hw hx hy (by simp only [binI, if_true]; rw [h1]) (kk h2)
theorem WL.shrN {fl fl2 : List Bool} {lw : Nat} (hfl : IsFl fl lo n lw fl2) {t t' : TypeId} {x y : Operand} {k k' : IntKind} {a b : Int} {an bn : Nat} (ho : o.op = .binOp .shr t x y t') (hd : o.dst = some d) (hw : wA all o fr = some true) (hx : fr.eval x = some (.int k a)) (hy : fr.eval y = some (.int k' b))
    (ea : a.toNat = an) (eb : 2 ^ b.toNat = bn) (ha : 0 ≤ a) (hb : 0 ≤ b) (hb' : b.toNat ≤ k.bits) (kk : ((an / bn : Nat) : Int) ≤ a → WL P Δ lo fl2 all l ((d, .int k ((an / bn : Nat) : Int)) :: fr) n H Q) : WL P Δ lo fl all (o :: l) fr n H Q := by
  subst ea; subst eb
  have e : a.fdiv (2 ^ (min b.toNat k.bits)) = ((a.toNat / 2 ^ b.toNat : Nat) : Int) := by
    rw [Nat.min_eq_left hb']
    obtain ⟨m, rfl⟩ := Int.eq_ofNat_of_zero_le ha
    rw [Int.toNat_natCast, Int.natCast_ediv]
    have e2 : ((2 ^ b.toNat : Nat) : Int) = 2 ^ b.toNat := by simp
    rw [e2, Int.fdiv_eq_ediv_of_nonneg _ (by rw [← e2]; exact Int.natCast_nonneg _)]
  have h : ((a.toNat / 2 ^ b.toNat : Nat) : Int) ≤ a := by
    have : a.toNat / 2 ^ b.toNat ≤ a.toNat := Nat.div_le_self _ _
    omega
  exact WL.shrI hfl ho hd hw hx hy hb (by rw [e]; exact kk h)
theorem WL.convN {fl fl2 : List Bool} {lw : Nat} (hfl : IsFl fl lo n lw fl2) {s t : TypeId} {ds : TypeDesc} {x : Operand} {q k : IntKind} {a T : Int} (ho : o.op = .convert s t x) (hd : o.dst = some d) (hw : wA all o fr = some true) (hs : P.underlying s = some ds) (ht : P.underlying t = some (.int k)) (hx : fr.eval x = some (.int q a)) (hT : topOf k = T) (h0 : 0 ≤ a) (h1 : a < T) (kk : WL P Δ lo fl2 all l ((d, .int k a) :: fr) n H Q) : WL P Δ lo fl all (o :: l) fr n H Q :=
  WL.convI hfl ho hd hw hs ht hx (by rw [wrap_in h0 (by rw [hT]; exact h1)]; exact kk)
theorem topU64 : topOf .u64 = 18446744073709551616 := rfl
theorem topI64 : topOf .i64 = 9223372036854775808 := rfl
theorem u8_lt8 (c : UInt8) : (c.toNat : Int) < 256 := by have := c.toNat_lt; omega
theorem u8_lt63 (c : UInt8) : (c.toNat : Int) < 9223372036854775808 := by have := c.toNat_lt; omega
theorem u8_bnd (c : UInt8) : 0 ≤ (c.toNat : Int) ∧ (c.toNat : Int) < 256 := by have := c.toNat_lt; omega
end
end Go.Proofs.YtlpcdcpcfeaecaaAb
namespace Go.Proofs.YtlpcdcpcfeaecaaAb
open Go
end Go.Proofs.YtlpcdcpcfeaecaaAb
end
section
namespace Go.Proofs.YtlpcdcpcfeaecaaAb
open Go
def Heap.Le (F H : Heap) : Prop := ∀ i o, F i = some o → H i = some o
theorem Heap.Le.refl (H : Heap) : H.Le H := fun _ _ h => h
theorem Heap.Le.none {A B : Heap} (a : A.Le B) {i : Nat} (h : B i = none) : A i = none := by
  cases e : A i with
  | none => rfl
  | some o => rw [a i o e] at h; cases h
theorem Heap.Le.trans {A B C : Heap} (a : A.Le B) (b : B.Le C) : A.Le C := fun i o h => b i o (a i o h)
structure St (lo n : Nat) (H F : Heap) : Prop where
  lo : lo ≤ n
  hb : ∀ i, n ≤ i → H i = none
  fh : F.Le H
theorem St.fnone {lo n : Nat} {H F : Heap} (h : St lo n H F) {i : Nat} (hi : n ≤ i) : F i = none := by
  cases e : F i with
  | none => rfl
  | some o => have := h.fh i o e; rw [h.hb i hi] at this; cases this
theorem St.lt {lo n : Nat} {H F : Heap} (h : St lo n H F) {i : Nat} {o : Ob} (hi : H i = some o) : i < n := by
  rcases Nat.lt_or_ge i n with h1 | h1
  · exact h1
  · rw [h.hb i h1] at hi; cases hi
structure Ext (n0 : Nat) (F0 : Heap) (n : Nat) (F : Heap) : Prop where
  le : n0 ≤ n
  sub : F0.Le F
  eq : ∀ i, i < n0 → F i = F0 i
theorem Ext.refl (n : Nat) (F : Heap) : Ext n F n F := ⟨Nat.le_refl _, .refl _, fun _ _ => rfl⟩
theorem Ext.trans {n0 n1 n2 : Nat} {F0 F1 F2 : Heap} (a : Ext n0 F0 n1 F1) (b : Ext n1 F1 n2 F2) : Ext n0 F0 n2 F2 :=
  ⟨Nat.le_trans a.le b.le, a.sub.trans b.sub, fun i hi => (b.eq i (by have := a.le; omega)).trans (a.eq i hi)⟩
class Rp (α : Type) where
  sz : Nat
  R : Heap → List Value → α → Prop
  len : ∀ {F : Heap} {cs : List Value} {a : α}, R F cs a → cs.length = sz
  one : ∀ {F : Heap} {cs : List Value} {a : α}, R F cs a → ∀ v ∈ cs, v.oneCell' = true
  mono : ∀ {F F' : Heap} {cs : List Value} {a : α}, R F cs a → F.Le F' → R F' cs a
class Sc (α : Type) where
  val : α → Value
  one : ∀ a, (val a).oneCell' = true
  gr : ∀ a, Gr (val a)
instance (priority := 900) scRp {α : Type} [Sc α] : Rp α where
  sz := 1
  R _ cs a := cs = [Sc.val a]
  len h := by rw [h]; rfl
  one h v hv := by rw [h] at hv; rcases List.mem_singleton.1 hv with rfl; exact Sc.one _
  mono h _ := h
def Str : Type := List UInt8
instance : DecidableEq Str := inferInstanceAs (DecidableEq (List UInt8))
instance : Inhabited Str := ⟨([] : List UInt8)⟩
theorem gr_u8 (b : UInt8) : Gr (u8 b) := gr_int _ _
theorem gr_str (l : List UInt8) : Gr (str l) := gr_string _
instance : Sc Int := ⟨fun x => .int .i64 x, fun _ => rfl, fun _ => gr_int _ _⟩
instance : Sc Bool := ⟨fun x => .bool x, fun _ => rfl, fun _ => gr_bool _⟩
instance : Sc UInt8 := ⟨u8, fun _ => rfl, fun _ => gr_u8 _⟩
instance : Sc Str := ⟨fun s => str s, fun _ => rfl, fun _ => gr_str _⟩
inductive RA {α : Type} [Rp α] (F : Heap) : List Value → List α → Prop
  | nil : RA F [] []
  | cons {cs cs2 : List Value} {a : α} {asx : List α} (h : Rp.R F cs a) (t : RA F cs2 asx) : RA F (cs ++ cs2) (a :: asx)
section
variable {α : Type} [Rp α] {F F' : Heap} {cs cs2 : List Value} {xs ys : List α}
theorem RA.length (h : RA F cs xs) : cs.length = xs.length * Rp.sz α := by
  induction h with
  | nil => simp
  | cons h t ih => rw [List.length_append, ih, Rp.len h, List.length_cons, Nat.add_mul, Nat.one_mul, Nat.add_comm]
theorem RA.one (h : RA F cs xs) : ∀ v ∈ cs, v.oneCell' = true := by
  induction h with
  | nil => intro v hv; cases hv
  | cons h t ih => intro v hv; rcases List.mem_append.1 hv with hv | hv; exact Rp.one h v hv; exact ih v hv
theorem RA.mono (h : RA F cs xs) (hle : F.Le F') : RA F' cs xs := by
  induction h with
  | nil => exact .nil
  | cons h t ih => exact .cons (Rp.mono h hle) ih
theorem RA.append (h : RA F cs xs) (h2 : RA F cs2 ys) : RA F (cs ++ cs2) (xs ++ ys) := by
  induction h with
  | nil => exact h2
  | cons h t ih => rw [List.append_assoc]; exact .cons h ih
theorem RA.take (h : RA F cs xs) (k : Nat) : RA F (cs.take (k * Rp.sz α)) (xs.take k) := by
  induction h generalizing k with
  | nil => simp only [List.take_nil]; exact .nil
  | cons h t ih =>
    cases k with
    | zero => simp only [Nat.zero_mul, List.take_zero]; exact .nil
    | succ k =>
      rw [Nat.succ_mul, Nat.add_comm, ← Rp.len h, List.take_length_add_append, List.take_succ_cons, Rp.len h]
      exact .cons h (ih k)
theorem RA.drop (h : RA F cs xs) (k : Nat) : RA F (cs.drop (k * Rp.sz α)) (xs.drop k) := by
  induction h generalizing k with
  | nil => simp only [List.drop_nil]; exact .nil
  | cons h t ih =>
    cases k with
    | zero => simp only [Nat.zero_mul, List.drop_zero]; exact .cons h t
    | succ k =>
      rw [Nat.succ_mul, Nat.add_comm, ← Rp.len h, List.drop_length_add_append, List.drop_succ_cons, Rp.len h]
      exact ih k
theorem RA.head {a : α} (h : RA F cs (a :: xs)) : Rp.R F (cs.take (Rp.sz α)) a := by
  cases h with
  | cons h t => rw [List.take_left' (Rp.len h)]; exact h
theorem RA.get (h : RA F cs xs) {j : Nat} (hj : j < xs.length) : Rp.R F ((cs.drop (j * Rp.sz α)).take (Rp.sz α)) xs[j] := by
  have := h.drop j
  rw [List.drop_eq_getElem_cons hj] at this
  exact this.head
theorem RA.set (h : RA F cs xs) {j : Nat} (hj : j < xs.length) {ncs : List Value} {y : α} (hy : Rp.R F ncs y) : RA F (splice cs (j * Rp.sz α) ncs) (xs.set j y) := by
  have e : xs.set j y = xs.take j ++ y :: xs.drop (j + 1) := by rw [List.set_eq_take_append_cons_drop, if_pos hj]
  rw [e, splice, Rp.len hy, List.append_assoc]
  refine (h.take j).append (.cons hy ?_)
  have := h.drop (j + 1)
  rwa [Nat.succ_mul] at this
theorem RA.replicate {z : α} (h : Rp.R F cs z) (m : Nat) : RA F (List.replicate m cs).flatten (List.replicate m z) := by
  induction m with
  | zero => exact .nil
  | succ m ih => rw [List.replicate_succ, List.flatten_cons, List.replicate_succ]; exact .cons h ih
end
theorem RA.sc {α : Type} [Sc α] {F : Heap} {cs : List Value} {xs : List α} (h : RA F cs xs) : cs = xs.map Sc.val := by
  induction h with
  | nil => rfl
  | cons h t ih => rw [ih, show _ = _ from h]; rfl
theorem RA.ofSc {α : Type} [Sc α] (F : Heap) (xs : List α) : RA F (xs.map Sc.val) xs := by
  induction xs with
  | nil => exact .nil
  | cons x xs ih => exact .cons (cs := [Sc.val x]) rfl ih
def SR {α : Type} [Rp α] (F : Heap) (v : Value) (xs : List α) : Prop := xs.length < UNK ∧ ∃ cs, SL F (Rp.sz α) v xs.length cs ∧ RA F cs xs
instance listRp {α : Type} [Rp α] : Rp (List α) where
  sz := 1
  R F cs xs := ∃ v, cs = [v] ∧ SR F v xs
  len h := by obtain ⟨v, rfl, _⟩ := h; rfl
  one h u hu := by
    obtain ⟨v, rfl, _, cs, h, _⟩ := h
    rcases List.mem_singleton.1 hu with rfl
    obtain ⟨a, cap, rfl⟩ := h.form
    rfl
  mono h hle := by
    obtain ⟨v, rfl, h0, cs, h1, h2⟩ := h
    refine ⟨v, rfl, h0, cs, ?_, h2.mono hle⟩
    rcases h1 with h1 | ⟨b, k, cap, c, e1, e2, e3⟩
    · exact .inl h1
    · exact .inr ⟨b, k, cap, c, e1, hle b _ e2, e3⟩
section
variable {α : Type} [Rp α] {F F' H H' : Heap} {v : Value} {xs ys : List α} {lo n n' : Nat}
theorem SR.mono (h : SR F v xs) (hle : F.Le F') : SR F' v xs := by
  obtain ⟨_, e, h⟩ := (listRp (α := α)).mono (a := xs) ⟨v, rfl, h⟩ hle
  cases e; exact h
theorem SR.nil : SR F (.slice none 0 0) ([] : List α) := ⟨by simp [UNK], [], .inl ⟨rfl, rfl, rfl⟩, .nil⟩
theorem SR.lt (h : SR F v xs) : xs.length < UNK := h.1
theorem SR.some {b k len cap : Nat} (h : SR F (.slice (some ⟨b, k, none⟩) len cap) xs) : ∃ o, F b = some o := by
  obtain ⟨h0, cs, h1, h2⟩ := h
  rcases h1 with ⟨e, _⟩ | ⟨b', k', cap', c, e, e2, _⟩
  · cases e
  · cases e; exact ⟨_, e2⟩
def OW {α : Type} [Rp α] (lo n : Nat) (H F : Heap) (v : Value) (xs : List α) : Prop :=
  xs.length < UNK ∧ (∀ i, idOf v = some i → F i = none) ∧ ∃ cs, OwnS lo n H (Rp.sz α) v xs.length cs ∧ RA F cs xs
theorem OW.nil : OW lo n H F (.slice none 0 0) ([] : List α) := ⟨by simp [UNK], fun i h => (by cases h), [], .inl ⟨rfl, rfl, rfl⟩, .nil⟩
theorem OW.id_lt (h : OW lo n H F v xs) {i : Nat} (hi : idOf v = some i) : lo ≤ i ∧ i < n := by
  obtain ⟨_, _, cs, h, _⟩ := h; exact h.id_lt hi
theorem OW.fnone (h : OW lo n H F v xs) {i : Nat} (hi : idOf v = some i) : F i = none := h.2.1 i hi
theorem OW.keep (h : OW lo n H F v xs) (hn : n ≤ n') (hk : ∀ i, idOf v = some i → H' i = H i) : OW lo n' H' F v xs := by
  obtain ⟨h0, h1, cs, h2, h3⟩ := h
  exact ⟨h0, h1, cs, h2.mono (Nat.le_refl _) hn (fun i _ hi => hk i hi), h3⟩
theorem OW.le (h : OW lo n H F v xs) (hle : H.Le H') : OW lo n H' F v xs := by
  obtain ⟨h0, h1, cs, h2, h3⟩ := h
  refine ⟨h0, h1, cs, ?_, h3⟩
  rcases h2 with h | ⟨b, k, cap, c, rfl, hb, h2⟩
  · exact .inl h
  · exact .inr ⟨b, k, cap, c, rfl, hle b _ hb, h2⟩
theorem OW.alive (h : OW lo n H F v xs) {i : Nat} (hi : idOf v = some i) : ∃ o, H i = some o := by
  obtain ⟨h0, h1, cs, h2, h3⟩ := h
  rcases h2 with ⟨rfl, _⟩ | ⟨b, k, cap, c, rfl, hb, h2⟩
  · cases hi
  · cases hi; exact ⟨_, hb⟩
theorem OW.sr (h : OW lo n H F v xs) (hS : F.Le H) : SR H v xs := by
  obtain ⟨h0, h1, cs, h2, h3⟩ := h
  exact ⟨h0, cs, h2.sl, h3.mono hS⟩
end
end Go.Proofs.YtlpcdcpcfeaecaaAb
end
section
namespace Go.Proofs.YtlpcdcpcfeaecaaAb
open Go
def chk {α : Type} (p : Prop) [Decidable p] (k : Option α) : Option α := if p then k else none
theorem cS {α : Type} {p : Prop} [Decidable p] {k : Option α} {r : α} (h : chk p k = some r) : p ∧ k = some r := by
  unfold chk at h; split at h
  · exact ⟨by assumption, h⟩
  · cases h
theorem cP {α : Type} {p : Prop} [Decidable p] {k : Option α} (h : p) : chk p k = k := if_pos h
theorem bS {α β : Type} {o : Option α} {k : α → Option β} {r : β} (h : o.bind k = some r) : ∃ a, o = some a ∧ k a = some r := Option.bind_eq_some_iff.1 h
theorem iP {α : Type} {p : Prop} [Decidable p] {a b : Option α} {r : α} (h : (if p then a else b) = some r) (hp : p) : a = some r := by rwa [if_pos hp] at h
theorem iN {α : Type} {p : Prop} [Decidable p] {a b : Option α} {r : α} (h : (if p then a else b) = some r) (hp : ¬ p) : b = some r := by rwa [if_neg hp] at h
theorem iBP {α : Type} {p : Bool} {a b : Option α} {r : α} (h : (if p = true then a else b) = some r) (hp : p = true) : a = some r := by rwa [if_pos hp] at h
theorem iBN {α : Type} {p : Bool} {a b : Option α} {r : α} (h : (if p = true then a else b) = some r) (hp : p = false) : b = some r := by rwa [if_neg (by simp [hp])] at h
def idx {α : Type} (xs : List α) (j : Int) : Option α := if 0 ≤ j then xs[j.toNat]? else none
theorem idx_inv {α : Type} {xs : List α} {j : Int} {x : α} (h : idx xs j = some x) : 0 ≤ j ∧ j < xs.length ∧ ∃ hj : j.toNat < xs.length, xs[j.toNat] = x := by
  unfold idx at h; split at h
  · obtain ⟨h1, h2⟩ := List.getElem?_eq_some_iff.1 h; exact ⟨by assumption, by omega, h1, h2⟩
  · cases h
theorem idx_pos {α : Type} {xs : List α} {j : Int} (h0 : 0 ≤ j) (hj : j < xs.length) : idx xs j = some (xs[j.toNat]'(by omega)) := by
  unfold idx; rw [if_pos h0, List.getElem?_eq_getElem (by omega)]
def slc {α : Type} (xs : List α) (l h : Int) : Option (List α) := if 0 ≤ l ∧ l ≤ h ∧ h ≤ xs.length then some ((xs.take h.toNat).drop l.toNat) else none
theorem slc_inv {α : Type} {xs ys : List α} {l h : Int} (e : slc xs l h = some ys) : 0 ≤ l ∧ l ≤ h ∧ h ≤ xs.length ∧ (xs.take h.toNat).drop l.toNat = ys := by
  unfold slc at e; split at e
  · rename_i hc; exact ⟨hc.1, hc.2.1, hc.2.2, Option.some.inj e⟩
  · cases e
theorem slc_pos {α : Type} {xs : List α} {l h : Int} (h0 : 0 ≤ l) (h1 : l ≤ h) (h2 : h ≤ xs.length) : slc xs l h = some ((xs.take h.toNat).drop l.toNat) := by unfold slc; rw [if_pos ⟨h0, h1, h2⟩]
def setI {α : Type} (xs : List α) (j : Int) (y : α) : List α := xs.set j.toNat y
def BIG : Nat := 18446744073709551616
section
variable {P : Program} {Δ : Prims} {lo : Nat} {fr : Fr} {n : Nat} {H : Heap} {Q : Post}
theorem W.loopF {c : Code} (I : Nat → Fr → Nat → Heap → Prop) (k0 : Nat) {fr0 : Fr} (hle : Fr.le fr0 fr) (h0 : I k0 fr0 n H) (hz : ∀ fr n H, ¬ I 0 fr n H)
    (step : ∀ k fr n H, I (k + 1) fr n H → W P Δ lo c fr n H (Ex.thn (fun fr1 n1 H1 => ∃ fr2, Fr.le fr2 fr1 ∧ I k fr2 n1 H1) Q)) : W P Δ lo (.loop c) fr n H Q := by
  refine W.weak hle ?_
  clear hle
  induction k0 generalizing fr0 n H with
  | zero => exact absurd h0 (hz _ _ _)
  | succ k ih =>
    refine W.loop (W.mono (step k fr0 n H h0) fun e fr' n' H' q => ?_)
    cases e with
    | norm => obtain ⟨fr2, h2, h3⟩ := q; exact W.weak h2 (ih h3)
    | ret => exact q
    | ex id => exact q
    | pan v => exact q
theorem W.cut {a b : Code} {Q2 : Post} (I : Fr → Nat → Heap → Prop) (hA : W P Δ lo a fr n H (Ex.thn (fun fr1 n1 H1 => ∃ fr2, Fr.le fr2 fr1 ∧ I fr2 n1 H1) Q)) (hB : ∀ fr n H, I fr n H → W P Δ lo b fr n H Q2) : W P Δ lo a fr n H (Ex.thn (fun fr1 n1 H1 => W P Δ lo b fr1 n1 H1 Q2) Q) := by
  refine W.mono hA fun e fr' n' H' q => ?_
  cases e with
  | norm => obtain ⟨fr2, h2, h3⟩ := q; exact W.weak h2 (hB _ _ _ h3)
  | ret => exact q
  | ex id => exact q
  | pan v => exact q
section ops
variable {all : Array Oper} {l : List Oper} {o : Oper} {d : Nat} {fl fl2 : List Bool} {lw lo0 : Nat} {F : Heap}
theorem St.set (hS : St lo0 n H F) {b : Nat} (hb : b < n) (hf : F b = none) (ob : Ob) : St lo0 n (H.set b ob) F :=
  ⟨hS.lo, fun i hi => by rw [Heap.set_ne _ _ (by omega)]; exact hS.hb i hi, fun i o h => by
    rw [Heap.set_ne _ _ (fun e => by subst e; rw [hf] at h; cases h)]; exact hS.fh i o h⟩
theorem St.new (hS : St lo0 n H F) (ob : Ob) : St lo0 (n + 1) (H.set n ob) F :=
  ⟨by have := hS.lo; omega, fun i hi => by rw [Heap.set_ne _ _ (by omega)]; exact hS.hb i (by omega), fun i o h => by
    rw [Heap.set_ne _ _ (fun e => by subst e; rw [hS.fnone (Nat.le_refl _)] at h; cases h)]; exact hS.fh i o h⟩
theorem St.low {lo1 : Nat} (hS : St lo0 n H F) (h : lo1 ≤ n) : St lo1 n H F := ⟨h, hS.hb, hS.fh⟩
theorem GL.alloc (hS : St lo0 n H F) (hfl : IsFl fl lo n lw fl2) {t : TypeId} {i : TypeInfo} {z : Value} {zc : List Value} (ho : o.op = .alloc t) (hd : o.dst = some d) (hw : wA all o fr = some true) (hi : P.info? t = some i) (hz : i.zero = some z) (hzc : Cells z = zc) (hg : zc.all grZ = true)
    (k : ∀ H', St lo0 (n + 1) H' F → H' n = some (.row 1 zc) → (∀ i, i < n → H' i = H i) → WL P Δ lo fl2 all l ((d, .pointer (some ⟨n, 0, none⟩)) :: fr) (n + 1) H' Q) : WL P Δ lo fl all (o :: l) fr n H Q :=
  WL.allocL hfl 1 ho hd hw hi hz hzc hg (k _ (hS.new _) (Heap.set_same _ _ _) fun i hi => Heap.set_ne _ _ (by omega))
theorem GL.box (hS : St lo0 n H F) (hfl : IsFl fl lo n lw fl2) {t : TypeId} {x : Operand} {v : Value} {vc : List Value} (ho : o.op = .box t x) (hd : o.dst = some d) (hw : wA all o fr = some true) (hx : fr.eval x = some v) (hv : Cells v = vc) (hg : ∀ u ∈ vc, u.oneCell' = true)
    (k : ∀ H', St lo0 (n + 1) H' F → H' n = some (.row 1 vc) → (∀ i, i < n → H' i = H i) → WL P Δ lo fl2 all l ((d, .pointer (some ⟨n, 0, none⟩)) :: fr) (n + 1) H' Q) : WL P Δ lo fl all (o :: l) fr n H Q :=
  WL.boxL hfl 1 ho hd hw hx hv hg (k _ (hS.new _) (Heap.set_same _ _ _) fun i hi => Heap.set_ne _ _ (by omega))
theorem win_get {c ecs : List Value} {k s m : Nat} (h : (c.drop k).take s = ecs) (hm : m < s) : c[k + m]? = ecs[m]? := by
  rw [← h, List.getElem?_take_of_lt hm, List.getElem?_drop]
theorem GL.index {α : Type} [Rp α] {G : Heap} (hfl : IsFl fl lo n lw fl2) {t : TypeId} {x y : Operand} {el : TypeId} {i : TypeInfo} {v : Value} {xs : List α} {u : α} {q : IntKind} {j : Int} (ho : o.op = .indexAddr t x y) (hd : o.dst = some d) (hw : wA all o fr = some true) (ht : P.underlying t = some (.slice el)) (hi : P.info? el = some i) (hsz : i.size = Rp.sz α)
    (hx : fr.eval x = some v) (hR : SR G v xs) (hG : G.Le H) (hy : fr.eval y = some (.int q j)) (hu : idx xs j = some u)
    (kk : ∀ b k c ecs, H b = some (.row (Rp.sz α) c) → (c.drop k).take (Rp.sz α) = ecs → Rp.R G ecs u → WL P Δ lo fl2 all l ((d, .pointer (some ⟨b, k, none⟩)) :: fr) n H Q) : WL P Δ lo fl all (o :: l) fr n H Q := by
  obtain ⟨h0, h1, h2, h3⟩ := idx_inv hu
  obtain ⟨_, cs, hs, hra⟩ := hR
  rcases hs with ⟨_, hlen, _⟩ | ⟨b, k, cap, c, rfl, hb, hc, hcl⟩
  · omega
  · refine WL.indexS hfl ho hd hw ht hi hx hy h0 (by exact_mod_cast h1) (kk b (k + j.toNat * i.size) c _ (hG _ _ hb) rfl ?_)
    have hg := hra.get h2
    rw [h3, ← hc, List.drop_take, List.take_take] at hg
    have e : min (Rp.sz α) (xs.length * Rp.sz α - j.toNat * Rp.sz α) = Rp.sz α := by
      have := Nat.mul_le_mul_right (Rp.sz α) h2
      rw [Nat.succ_mul] at this
      omega
    rw [e, List.drop_drop] at hg
    rw [hsz]; exact hg
theorem SL.part {G : Heap} {sz len : Nat} {v : Value} {cs : List Value} {b k cap : Nat} {l h : Nat} {c : List Value} (hb : G b = some (.row sz c)) (hc : (c.drop k).take (len * sz) = cs) (hcl : cs.length = len * sz) (hlh : l ≤ h) (hhl : h ≤ len) (cap' : Nat) :
    SL G sz (.slice (some ⟨b, k + l * sz, none⟩) (h - l) cap') (h - l) ((cs.take (h * sz)).drop (l * sz)) := by
  refine .inr ⟨b, _, _, c, rfl, hb, ?_, ?_⟩
  · rw [← hc, List.take_take, List.drop_take]
    have h1 : h * sz ≤ len * sz := Nat.mul_le_mul_right _ hhl
    rw [Nat.min_eq_left h1, ← List.drop_drop, Nat.sub_mul]
  · have h1 : h * sz ≤ len * sz := Nat.mul_le_mul_right _ hhl
    rw [List.length_drop, List.length_take, hcl, Nat.min_eq_left h1, Nat.sub_mul]
def BndI (ev : Operand → Option Value) (o : Option Operand) (dflt r : Int) : Prop :=
  match o with
  | none => r = dflt
  | some y => ∃ q, ev y = some (.int q r)
theorem BndI.nat {ev : Operand → Option Value} {o : Option Operand} {d : Nat} {r : Int} (h : BndI ev o d r) (h0 : 0 ≤ r) : Bnd ev o d r.toNat := by
  cases o with
  | none => show r.toNat = d; have : r = (d : Int) := h; omega
  | some y => obtain ⟨q, hq⟩ := h; exact ⟨q, by rw [Int.toNat_of_nonneg h0]; exact hq⟩
theorem GL.slice {α : Type} [Rp α] {G : Heap} (hfl : IsFl fl lo n lw fl2) {t el : TypeId} {i : TypeInfo} {x : Operand} {low high : Option Operand} {v : Value} {xs ys : List α} {l' h : Int} (ho : o.op = .slice t x low high none) (hd : o.dst = some d) (hw : wA all o fr = some true) (ht : P.underlying t = some (.slice el)) (hi : P.info? el = some i) (hsz : i.size = Rp.sz α)
    (hx : fr.eval x = some v) (hR : SR G v xs) (hG : G.Le H) (hl : BndI fr.eval low 0 l') (hh : BndI fr.eval high xs.length h) (hy : slc xs l' h = some ys)
    (kk : ∀ a cap, idOf (.slice a ys.length cap) = idOf v → SR G (.slice a ys.length cap) ys → WL P Δ lo fl2 all l ((d, .slice a ys.length cap) :: fr) n H Q) : WL P Δ lo fl all (o :: l) fr n H Q := by
  obtain ⟨h0, h1, h2, rfl⟩ := slc_inv hy
  obtain ⟨hlt, cs, hs, hra⟩ := hR
  have hl' := hl.nat h0
  have hh' := hh.nat (by omega)
  have elen : ((xs.take h.toNat).drop l'.toNat).length = h.toNat - l'.toNat := by simp; omega
  have hra' := (hra.take h.toNat).drop l'.toNat
  rcases hs with ⟨rfl, e1, e2⟩ | ⟨b, k, cap, c, rfl, hb, hc, hcl⟩
  · have e3 : h.toNat = 0 := by omega
    have e4 : l'.toNat = 0 := by omega
    have e5 : ((xs.take h.toNat).drop l'.toNat) = [] := by rw [e3]; simp
    rw [e3, e1] at hh'; rw [e4] at hl'
    refine WL.sliceNil hfl ho hd hw ht hi hx hl' hh' ?_
    have := kk none 0
    rw [e5] at this
    exact this rfl SR.nil
  · have hk := kk (some ⟨b, k + l'.toNat * i.size, none⟩) (UNK + (lb xs.length cap - l'.toNat))
    rw [elen] at hk
    refine WL.slice hfl ho hd hw ht hi hx (hG _ _ hb) hsz.symm rfl hl' hh' (Nat.le_refl _) (by intro h; cases h) (by omega) (by unfold lb; omega) (hk rfl ⟨by simp; omega, _, ?_, hra'⟩)
    rw [elen, hsz]
    exact SL.part (v := .slice none 0 0) (cap := 0) hb hc hcl (by omega) (by omega) _
theorem WL.app' {t u el : TypeId} {i : TypeInfo} {z : Value} {x y : Operand} {v : Value} {len m : Nat} {olds news : List Value} (hfl : IsFl fl lo n lw fl2) (ho : o.op = .call { callee := .builtin .append, args := #[x, y], argTypes := #[t, u] }) (hd : o.dst = some d) (hw : wA all o fr = some true) (ht : P.underlying t = some (.slice el)) (hi : P.info? el = some i) (hz : i.zero = some z) (hzs : (Cells z).length = i.size)
    (hx : fr.eval x = some v) (hown : OwnS lw n H i.size v len olds) (hsrc : Src P fr.eval H i.size u y m news) (hm0 : 0 < m) (h1 : ∀ v ∈ news, v.oneCell' = true) (h0 : ∀ v ∈ olds, v.oneCell' = true) (hby : (len + m) * i.bytes ≤ 140737488355328) (h63 : len + m < UNK)
    (kk : ∀ H', H' n = some (.row i.size (olds ++ news)) → (∀ j, j < n → idOf v ≠ some j → H' j = H j) → (∀ j, n < j → H' j = H j) → (∀ lo', lo' ≤ n → OwnS lo' (n + 1) H' i.size (.slice (some ⟨n, 0, none⟩) (len + m) (UNK + (len + m))) (len + m) (olds ++ news)) →
      WL P Δ lo fl2 all l ((d, .slice (some ⟨n, 0, none⟩) (len + m) (UNK + (len + m))) :: fr) (n + 1) H' Q) (hnl : news.length = m * i.size) : WL P Δ lo fl all (o :: l) fr n H Q := by
  have hin : ∀ (H' : Heap) (cs : List Value), H' n = some (.row i.size cs) → cs.length = (len + m) * i.size → ∀ lo', lo' ≤ n → OwnS lo' (n + 1) H' i.size (.slice (some ⟨n, 0, none⟩) (len + m) (UNK + (len + m))) (len + m) cs := fun H' cs h hl lo' hlo =>
    .inr ⟨n, 0, _, cs, rfl, h, by rw [List.drop_zero, List.take_of_length_le (by omega)], hl, hlo, Nat.lt_succ_self _, Nat.zero_le _, .inr (by omega)⟩
  rcases hown with ⟨rfl, rfl, rfl⟩ | ⟨b, k, cap, c, rfl, hb, hc, hcl, hlb, hbn, hk, hcap⟩
  · refine WL.appendN hfl ho hd hw ht hi hz hzs hx hsrc h1 hm0 (by simpa using hby) (by omega) ?_
    have := kk (H.set n (.row i.size news)) (by rw [Heap.set_same]; rfl) (fun j hj _ => Heap.set_ne _ _ (by omega)) (fun j hj => Heap.set_ne _ _ (by omega)) (hin _ _ (by rw [Heap.set_same]; rfl) (by simpa using hnl))
    simpa using this
  · have hl2 : (olds ++ news).length = (len + m) * i.size := by rw [List.length_append, hcl, hnl, Nat.add_mul]
    rcases hcap with ⟨rfl, hcu⟩ | hcu
    · refine WL.appendG hfl ho hd hw ht hi hz hzs hx hsrc hb hc hcl hcu (by omega) (fun v hv => (List.mem_append.1 hv).elim (h0 v) (h1 v)) hby h63 ?_
      exact kk _ (Heap.set_same _ _ _) (fun j hj _ => Heap.set_ne _ _ (by omega)) (fun j hj => Heap.set_ne _ _ (by omega)) (hin _ _ (Heap.set_same _ _ _) hl2)
    · refine WL.appendU hfl ho hd hw ht hi hz hzs hx hsrc hb rfl hc hcl hcu hlb hbn hm0 h1 hby h63 hk ?_
      refine kk _ (Heap.set_same _ _ _) (fun j hj hne => ?_) (fun j hj => ?_) (hin _ _ (Heap.set_same _ _ _) hl2)
      · rw [Heap.set_ne _ _ (by omega), Heap.del_ne _ (fun e => hne (by simp [idOf, e]))]
      · rw [Heap.set_ne _ _ (by omega), Heap.del_ne _ (by omega)]
def SrcX {α : Type} [Rp α] (H F : Heap) (v : Value) (ys : List α) : Prop := ∃ cs, SL H (Rp.sz α) v ys.length cs ∧ RA F cs ys
end ops
end
end Go.Proofs.YtlpcdcpcfeaecaaAb
end
section
namespace Go.Proofs.YtlpcdcpcfeaecaaAb
open Go
theorem ba_toList_loop (a : ByteArray) : ∀ (m i : Nat) (r : List UInt8), a.size - i = m → ByteArray.toList.loop a i r = r.reverse ++ a.data.toList.drop i := by
  intro m
  induction m with
  | zero =>
    intro i r h
    unfold ByteArray.toList.loop
    rw [if_neg (by omega), List.drop_of_length_le (by rw [Array.length_toList]; show a.size ≤ i; omega), List.append_nil]
  | succ m ih =>
    intro i r h
    have hi : i < a.data.toList.length := by rw [Array.length_toList]; show i < a.size; omega
    unfold ByteArray.toList.loop
    rw [if_pos (by omega), ih (i + 1) _ (by omega), List.drop_eq_getElem_cons hi, List.reverse_cons, List.append_assoc]
    congr 2
    simp [ByteArray.get!, getElem!_pos a.data i (by simpa using hi)]
theorem ba_toList (l : List UInt8) : (⟨l.toArray⟩ : ByteArray).toList = l := by
  unfold ByteArray.toList
  rw [ba_toList_loop _ _ 0 [] rfl]
  simp
def ltS (a b : List UInt8) : Bool := Op.bytesLess a b
section
variable {P : Program} {Δ : Prims} {lo : Nat} {fr : Fr} {n : Nat} {H : Heap} {Q : Post}
section ops
variable {all : Array Oper} {l : List Oper} {o : Oper} {d : Nat} {fl fl2 : List Bool} {lw lo0 : Nat} {F : Heap}
theorem GL.lenStr (hfl : IsFl fl lo n lw fl2) {t : TypeId} {x : Operand} {s : List UInt8} (ho : o.op = .call { callee := .builtin .len, args := #[x], argTypes := #[t] }) (hd : o.dst = some d) (hw : wA all o fr = some true) (ht : P.underlying t = some .string) (hx : fr.eval x = some (str s)) (kk : WL P Δ lo fl2 all l ((d, .int .i64 s.length) :: fr) n H Q) : WL P Δ lo fl all (o :: l) fr n H Q :=
  WL.lenStr hfl ho hd hw ht hx kk
def cmpS (op : BinOp) (a b : List UInt8) : Bool :=
  match op with
  | .eql => decide (a = b)
  | .neq => !decide (a = b)
  | .lss => ltS a b
  | .leq => ltS a b || decide (a = b)
  | .gtr => !(ltS a b || decide (a = b))
  | .geq => !ltS a b
  | _ => false
theorem GL.strCmp (hfl : IsFl fl lo n lw fl2) {op : BinOp} {t t' : TypeId} {x y : Operand} {a b : List UInt8} {r : Bool} (ho : o.op = .binOp op t x y t') (hd : o.dst = some d) (hw : wA all o fr = some true) (hx : fr.eval x = some (str a)) (hy : fr.eval y = some (str b)) (hop : op = .eql ∨ op = .neq ∨ op = .lss ∨ op = .leq ∨ op = .gtr ∨ op = .geq) (hr : cmpS op a b = r)
    (kk : WL P Δ lo fl2 all l ((d, .bool r) :: fr) n H Q) : WL P Δ lo fl all (o :: l) fr n H Q := by
  subst hr
  have hbeq : ∀ (p q : List UInt8), (p == q) = decide (p = q) := fun p q => by by_cases h : p = q <;> simp [h]
  exact WL.ground2 hfl hd hw (by rw [ho]; intro _ _ h; cases h) (by rw [ho]; rfl) hx hy (gr_str _) (gr_str _) (gr_bool _) (fun ev w h h' => by
    obtain ⟨dst, op', ty, pos, after, guard⟩ := o
    simp only at ho; subst ho
    rcases hop with rfl | rfl | rfl | rfl | rfl | rfl <;> simp [execOp, eqGuard, binOp, Op.stringOp, h, h', str, ba_toList, cmpS, ltS, hbeq] <;> rfl) kk
theorem GL.toStr {G : Heap} (hfl : IsFl fl lo n lw fl2) {s t el : TypeId} {x : Operand} {v : Value} {y : List UInt8} (ho : o.op = .convert s t x) (hd : o.dst = some d) (hw : wA all o fr = some true) (hs : P.underlying s = some (.slice el)) (ht : P.underlying t = some .string) (hel : P.underlying el = some (.int .u8)) (hx : fr.eval x = some v) (hR : SR G v y) (hG : G.Le H)
    (kk : WL P Δ lo fl2 all l ((d, str y) :: fr) n H Q) : WL P Δ lo fl all (o :: l) fr n H Q := by
  obtain ⟨_, cs, h1, h2⟩ := hR
  have hcs : cs = y.map u8 := h2.sc
  subst hcs
  rcases h1 with ⟨rfl, e, _⟩ | ⟨b, k, cap, c, rfl, hb, hc, hcl⟩
  · have e2 : y = [] := List.eq_nil_of_length_eq_zero e
    subst e2
    exact WL.toStrNil hfl ho hd hw hs ht hel hx kk
  · refine WL.toStr hfl ho hd hw hs ht hel hx (hG _ _ hb) ?_ rfl kk
    simpa [Rp.sz] using hc
theorem u8_or (a b : UInt8) : Value.int .u8 (((a.toNat ||| b.toNat : Nat) : Int)) = u8 (a ||| b) := by simp [u8]
theorem GL.u8or (hfl : IsFl fl lo n lw fl2) {t t' : TypeId} {x y : Operand} (a b : UInt8) (ho : o.op = .binOp .or t x y t') (hd : o.dst = some d) (hw : wA all o fr = some true) (hx : fr.eval x = some (u8 a)) (hy : fr.eval y = some (u8 b))
    (kk : WL P Δ lo fl2 all l ((d, u8 (a ||| b)) :: fr) n H Q) : WL P Δ lo fl all (o :: l) fr n H Q :=
  WL.orN hfl ho hd hw hx hy rfl rfl rfl (u8_bnd a).1 (u8_lt8 a) (u8_bnd b).1 (u8_lt8 b) (fun _ => by rw [show ((a.toNat : Int).toNat) = a.toNat from rfl, show ((b.toNat : Int).toNat) = b.toNat from rfl, u8_or]; exact kk)
end ops
end
end Go.Proofs.YtlpcdcpcfeaecaaAb
end
section
namespace Go.Proofs.YtlpcdcpcfeaecaaAb
open Go
def Heap.plus (H K : Heap) : Heap := fun i => match K i with | some o => some o | none => H i
def Off (K : Heap) (n : Nat) (H : Heap) : Prop := ∀ i o, K i = some o → i < n ∧ H i = none
section
variable {K H H' : Heap} {n n' lo : Nat}
theorem Off.none (hK : Off K n H) {b : Nat} {o : Ob} (h : H b = some o) : K b = none := by
  cases e : K b with
  | none => rfl
  | some x => rw [(hK b x e).2] at h; cases h
theorem Off.new (hK : Off K n H) {b : Nat} (h : n ≤ b) : K b = Option.none := by
  cases e : K b with
  | none => rfl
  | some x => have := (hK b x e).1; omega
theorem plus_none {b : Nat} (h : K b = none) : (H.plus K) b = H b := by simp [Heap.plus, h]
theorem Off.get (hK : Off K n H) {b : Nat} {o : Ob} (h : H b = some o) : (H.plus K) b = some o := by rw [plus_none (hK.none h)]; exact h
theorem plus_set {b : Nat} (h : K b = none) (o : Ob) : (H.set b o).plus K = (H.plus K).set b o := by
  funext i
  by_cases hi : i = b
  · subst hi; rw [plus_none h, Heap.set_same, Heap.set_same]
  · rw [Heap.set_ne _ _ hi]; simp only [Heap.plus]; split
    · rfl
    · rw [Heap.set_ne _ _ hi]
theorem plus_del {b : Nat} (h : K b = none) : (H.del b).plus K = (H.plus K).del b := by
  funext i
  by_cases hi : i = b
  · subst hi; rw [plus_none h, Heap.del_same, Heap.del_same]
  · rw [Heap.del_ne _ hi]; simp only [Heap.plus]; split
    · rfl
    · rw [Heap.del_ne _ hi]
theorem rm_in {H : Heap} {a b i : Nat} (h : a ≤ i ∧ i < b) : H.rm a b i = none := by unfold Heap.rm; exact if_pos h
theorem rm_out {H : Heap} {a b i : Nat} (h : ¬ (a ≤ i ∧ i < b)) : H.rm a b i = H i := by unfold Heap.rm; exact if_neg h
theorem plus_rm {a b : Nat} (h : ∀ i, a ≤ i → K i = none) : (H.rm a b).plus K = (H.plus K).rm a b := by
  funext i
  by_cases hi : a ≤ i ∧ i < b
  · rw [plus_none (h i hi.1), rm_in hi, rm_in hi]
  · rw [rm_out hi]; simp only [Heap.plus]; rw [rm_out hi]
theorem Off.step (hK : Off K n H) (ha : AbsOk lo n H n' H') : Off K n' H' := fun i o h => ⟨Nat.lt_of_lt_of_le (hK i o h).1 ha.1, ha.2.2.2 i (hK i o h).1 (hK i o h).2⟩
variable {P : Program} {ev : Operand → Option Value} {o : Oper} {v : Value}
theorem Step.frame (hK : Off K n H) (h : Step P lo ev n H o v n' H') : Step P lo ev n (H.plus K) o v n' (H'.plus K) := by
  cases h with
  | ground hsel hv hg hr => exact .ground hsel hv hg hr
  | move ho hx => exact .move ho hx
  | pick ho hc hv => exact .pick ho hc hv
  | alloc e ho hi hz hg => rw [plus_set (hK.new (Nat.le_refl _))]; exact .alloc e ho hi hz hg
  | box e ho hx hg => rw [plus_set (hK.new (Nat.le_refl _))]; exact .box e ho hx hg
  | load1 ho ht hd hx hb hk => exact .load1 ho ht hd hx (hK.get hb) hk
  | loadN ho ht hd hi hx hb hk hl => exact .loadN ho ht hd hi hx (hK.get hb) hk hl
  | store ho hi hx hy hsz hb hk hlo hbn h1 => rw [plus_set (hK.none hb)]; exact .store ho hi hx hy hsz (hK.get hb) hk hlo hbn h1
  | nilCheck ho hx => exact .nilCheck ho hx
  | nilCheckF ho hx => exact .nilCheckF ho hx
  | fieldAddr ho hs hf hi h0 hx => exact .fieldAddr ho hs hf hi h0 hx
  | field1 ho hs hf ht hd hx hv => exact .field1 ho hs hf ht hd hx hv
  | fieldN ho hs hf ht hd hi hx => exact .fieldN ho hs hf ht hd hi hx
  | indexAddrS ho ht hi hx hy h0 hj => exact .indexAddrS ho ht hi hx hy h0 hj
  | indexAddrA ho ht hi hx hy h0 hj => exact .indexAddrA ho ht hi hx hy h0 hj
  | indexA1 ho ht hi hd hd1 hx hy h0 hj hv => exact .indexA1 ho ht hi hd hd1 hx hy h0 hj hv
  | extract ho hx hv => exact .extract ho hx hv
  | mkIface ho ht hd hx => exact .mkIface ho ht hd hx
  | mkFunc ho hx hy => exact .mkFunc ho hx hy
  | len ho ht hx => exact .len ho ht hx
  | assert ho ht hd hx => exact .assert ho ht hd hx
theorem Src.frame (hK : Off K n H) {size : Nat} {u : TypeId} {y : Operand} {m : Nat} {l : List Value} (h : Src P ev H size u y m l) : Src P ev (H.plus K) size u y m l := by
  cases h with
  | slice hu hd hy hb hl hn => exact .slice hu hd hy (hK.get hb) hl hn
  | nil hu hd hy => exact .nil hu hd hy
  | str hu hd hs hy => exact .str hu hd hs hy
theorem StepM.frame (hK : Off K n H) (h : StepM P lo ev n H o v n' H') : StepM P lo ev n (H.plus K) o v n' (H'.plus K) := by
  have hnn := hK.new (Nat.le_refl _)
  cases h with
  | slice ho ht hi hx hb he' hm hmm hl hh hmx hlh hhm => exact .slice ho ht hi hx (hK.get hb) he' hm hmm hl hh hmx hlh hhm
  | sliceNil ho ht hi hx hl hh => exact .sliceNil ho ht hi hx hl hh
  | eqNil ho hop ht hx hy => exact .eqNil ho hop ht hx hy
  | capE ho ht hx hc => exact .capE ho ht hx hc
  | make ho ht hi hz hzs h0 hg hx hy hlc hb h63 => rw [plus_set hnn]; exact .make ho ht hi hz hzs h0 hg hx hy hlc hb h63
  | build ho ht hi hz hg hp hpl hfl => exact .build ho ht hi hz hg hp hpl hfl
  | buildA ho ht hi hz hie hg hp hfl => exact .buildA ho ht hi hz hie hg hp hfl
  | buildSlice ho ht hi hz hg hsz hlen hp h1 hzc hfl hcs => rw [plus_set hnn]; exact .buildSlice ho ht hi hz hg hsz hlen hp h1 hzc hfl hcs
  | append0 ho ht hi hx hsrc => exact .append0 ho ht hi hx (hsrc.frame hK)
  | appendI ho ht hi hx hsrc hb hlb hfit hlo hbn h1 hm0 => rw [plus_set (hK.none hb)]; exact .appendI ho ht hi hx (hsrc.frame hK) (hK.get hb) hlb hfit hlo hbn h1 hm0
  | appendZ ho ht hu hi hz hzs h0 hg hx hy hm0 hby h63 => rw [plus_set hnn]; exact .appendZ ho ht hu hi hz hzs h0 hg hx hy hm0 hby h63
  | appendN ho ht hi hz hzs hx hsrc h1 hm0 hby h63 => rw [plus_set hnn]; exact .appendN ho ht hi hz hzs hx (hsrc.frame hK) h1 hm0 hby h63
  | appendG ho ht hi hz hzs hx hsrc hb hol holn hcap hgr h1 hby h63 => rw [plus_set hnn]; exact .appendG ho ht hi hz hzs hx (hsrc.frame hK) (hK.get hb) hol holn hcap hgr h1 hby h63
  | appendU ho ht hi hz hzs hx hsrc hb he' hol holn hcap hlo hbn hm0 h1 hby h63 hk => rw [plus_set hnn, plus_del (hK.none hb)]; exact .appendU ho ht hi hz hzs hx (hsrc.frame hK) (hK.get hb) he' hol holn hcap hlo hbn hm0 h1 hby h63 hk
  | copy ho ht hi hx hsrc hb hfit hlo hbn h1 => rw [plus_set (hK.none hb)]; exact .copy ho ht hi hx (hsrc.frame hK) (hK.get hb) hfit hlo hbn h1
  | clear ho ht hi hz hzs hx hb hfit hlo hbn hg hl0 => rw [plus_set (hK.none hb)]; exact .clear ho ht hi hz hzs hx (hK.get hb) hfit hlo hbn hg hl0
  | toBytes ho hs ht hel hx h63 => rw [plus_set hnn]; exact .toBytes ho hs ht hel hx h63
  | toStr ho hs ht hel hx hb hl hn => exact .toStr ho hs ht hel hx (hK.get hb) hl hn
  | toStrNil ho hs ht hel hx => exact .toStrNil ho hs ht hel hx
theorem ResV.frame {fr : Fr} {r : ResultVar} (hK : Off K n H) (h : ResV P H fr r v) : ResV P (H.plus K) fr r v := by
  cases h with
  | tmp h => exact .tmp h
  | cell1 ha ht hd hb hk => exact .cell1 ha ht hd (hK.get hb) hk
  | cellN ha ht hd hi hb hk hl => exact .cellN ha ht hd hi (hK.get hb) hk hl
theorem ResL.frame {fr : Fr} {rs : List ResultVar} {vs : List Value} (hK : Off K n H) (h : ResL P H fr rs vs) : ResL P (H.plus K) fr rs vs := by
  induction h with
  | nil => exact .nil
  | cons h hs ih => exact .cons (h.frame hK) ih
end
def J.frame (P : Program) (Δ : Prims) (K : Heap) : J → Prop
  | .op lo o fr n H v n' H' => lo ≤ n → Off K n H → D P Δ (.op lo o fr n (H.plus K) v n' (H'.plus K))
  | .ops lo all l fr n H e fr' n' H' => lo ≤ n → Off K n H → D P Δ (.ops lo all l fr n (H.plus K) e fr' n' (H'.plus K))
  | .code lo c fr n H e fr' n' H' => lo ≤ n → Off K n H → D P Δ (.code lo c fr n (H.plus K) e fr' n' (H'.plus K))
  | .call lo f args n H e n' H' => lo ≤ n → Off K n H → D P Δ (.call lo f args n (H.plus K) e n' (H'.plus K))
def Framed (Δ : Prims) : Prop := ∀ K lo f args n H e n' H', Δ lo f args n H e n' H' → lo ≤ n → Off K n H → Δ lo f args n (H.plus K) e n' (H'.plus K)
theorem noPrims_framed : Framed (fun _ _ _ _ _ _ _ _ => False) := fun _ _ _ _ _ _ _ _ _ h => h.elim
theorem D.frame {P : Program} {Δ : Prims} {K : Heap} (hΔ : ∀ lo f args n H e n' H', Δ lo f args n H e n' H' → lo ≤ n → AbsOk lo n H n' H') (hF : Framed Δ) {j : J} (h : D P Δ j) : j.frame P Δ K := by
  induction h with
  | step h => exact fun hl hK => .step (h.frame hK)
  | stepM h => exact fun hl hK => .stepM (h.frame hK)
  | callF ho hx ha hfn hname hbody h1 h2 h ih => exact fun hl hK => .callF ho hx ha hfn hname hbody h1 h2 (ih h2 hK)
  | nil => exact fun _ _ => .nil
  | skip hw h ih => exact fun hl hK => .skip hw (ih hl hK)
  | cons hw h1 h ih1 ih => exact fun hl hK => have a := h1.abs hΔ hl; .cons hw (ih1 hl hK) (ih (Nat.le_trans hl a.1) (hK.step a))
  | pan hw ho hx => exact fun _ _ => .pan hw ho hx
  | panCall hw ho hx ha hfn hname hbody h1 h2 h ih => exact fun hl hK => .panCall hw ho hx ha hfn hname hbody h1 h2 (ih h2 hK)
  | cskip => exact fun _ _ => .cskip
  | ret => exact fun _ _ => .ret
  | exit => exact fun _ _ => .exit
  | seqN h1 h2 i1 i2 => exact fun hl hK => have a := h1.abs hΔ hl; .seqN (i1 hl hK) (i2 (Nat.le_trans hl a.1) (hK.step a))
  | seqE h1 he ih => exact fun hl hK => .seqE (ih hl hK) he
  | cond hc h ih => exact fun hl hK => .cond hc (ih hl hK)
  | block h ih => exact fun hl hK => .block (ih hl hK)
  | loopN h1 h2 i1 i2 => exact fun hl hK => have a := h1.abs hΔ hl; .loopN (i1 hl hK) (i2 (Nat.le_trans hl a.1) (hK.step a))
  | loopE h1 he ih => exact fun hl hK => .loopE (ih hl hK) he
  | region h ih => exact fun hl hK => .region (ih hl hK)
  | regionD r isW wk fr n H v hchk hw hfr hskip hrun hlate ih =>
    rename_i lo id ops
    intro hl hK
    have key : ∀ k, k ≤ ops.size → n 0 ≤ n k ∧ Off K (n k) (H k) := by
      intro k
      induction k with
      | zero => exact fun _ => ⟨Nat.le_refl _, hK⟩
      | succ k ihk =>
        intro hk
        obtain ⟨h0, h1⟩ := ihk (by omega)
        cases hwk : wk k with
        | false =>
          obtain ⟨_, a, b⟩ := hskip k (by omega) hwk
          rw [a, b]; exact ⟨h0, h1⟩
        | true =>
          have a := (hrun k (by omega) hwk).abs hΔ
          simp only [J.abs] at a
          have a' := a (by split <;> omega)
          exact ⟨Nat.le_trans h0 a'.1, h1.step a'⟩
    have := D.regionD (P := P) (Δ := Δ) (lo := lo) (id := id) (ops := ops) r isW wk fr n (fun k => (H k).plus K) v hchk hw hfr (fun k hk hwk => ?_) (fun k hk hwk => ?_) (fun k c hkc hc hcw hiw hfl hwk => ?_)
    · exact this
    · obtain ⟨a, b, c⟩ := hskip k hk hwk
      exact ⟨a, b, by rw [c]⟩
    · obtain ⟨h0, h1⟩ := key k (by omega)
      have := ih k hk hwk
      simp only [J.frame] at this
      exact this (by split <;> omega) h1
    · obtain ⟨h0, h1⟩ := key k (by omega)
      obtain ⟨h0c, h1c⟩ := key c hc
      have hoff : Off K (n k) ((H c).rm (n k) (n (k + 1))) := fun i o hi => ⟨(h1 i o hi).1, by simp only [Heap.rm]; rw [if_neg (by have := (h1 i o hi).1; omega)]; exact (h1c i o hi).2⟩
      rw [← plus_rm (fun i hi => h1.new hi)]
      exact (hlate k c hkc hc hcw hiw hfl hwk).imp (fun h => h.frame hoff) (fun h => h.frame hoff)
  | weak hle h ih => exact fun hl hK => .weak hle (ih hl hK)
  | drop h hle ih => exact fun hl hK => .drop (ih hl hK) hle
  | weakL hle h ih => exact fun hl hK => .weakL hle (ih hl hK)
  | body hfn hb hd h he hr ih => exact fun hl hK => .body hfn hb hd (ih hl hK) he (hr.frame (hK.step (h.abs hΔ hl)))
  | bodyPan hfn hb hd h ih => exact fun hl hK => .bodyPan hfn hb hd (ih hl hK)
  | prim h => exact fun hl hK => .prim (hF _ _ _ _ _ _ _ _ _ h hl hK)
noncomputable def Heap.vis (H : Heap) (n : Nat) (S : Nat → Prop) : Heap := fun i => open Classical in if i < n ∧ ¬ S i then none else H i
noncomputable def Heap.hid (H : Heap) (n : Nat) (S : Nat → Prop) : Heap := fun i => open Classical in if i < n ∧ ¬ S i then H i else none
theorem vis_in {H : Heap} {n : Nat} {S : Nat → Prop} {i : Nat} (h : S i) : H.vis n S i = H i := by simp [Heap.vis, h]
theorem vis_out {H : Heap} {n : Nat} {S : Nat → Prop} {i : Nat} (h : i < n) (hs : ¬ S i) : H.vis n S i = none := by simp [Heap.vis, h, hs]
theorem vis_new {H : Heap} {n : Nat} {S : Nat → Prop} {i : Nat} (h : n ≤ i) : H.vis n S i = H i := by simp only [Heap.vis]; rw [if_neg (by omega)]
theorem hid_out {H : Heap} {n : Nat} {S : Nat → Prop} {i : Nat} (h : i < n) (hs : ¬ S i) : H.hid n S i = H i := by simp [Heap.hid, h, hs]
theorem hid_some {H : Heap} {n : Nat} {S : Nat → Prop} {i : Nat} {o : Ob} (h : H.hid n S i = some o) : i < n ∧ ¬ S i ∧ H i = some o := by
  simp only [Heap.hid] at h; split at h
  · rename_i hc; exact ⟨hc.1, hc.2, h⟩
  · cases h
theorem off_hid {H : Heap} {n : Nat} {S : Nat → Prop} : Off (H.hid n S) n (H.vis n S) := fun i o h => by
  obtain ⟨h1, h2, h3⟩ := hid_some h
  exact ⟨h1, vis_out h1 h2⟩
theorem plus_vis (H : Heap) (n : Nat) (S : Nat → Prop) : (H.vis n S).plus (H.hid n S) = H := by
  funext i
  simp only [Heap.plus, Heap.vis, Heap.hid]
  by_cases h : i < n ∧ ¬ S i
  · simp only [if_pos h]; cases H i <;> rfl
  · simp only [if_neg h]
theorem C.frame {P : Program} {Δ : Prims} (g : Good P Δ) (hF : Framed Δ) {lo n : Nat} {f : FuncId} {args : List Value} {H : Heap} {R : Value → Nat → Heap → Prop} (S : Nat → Prop) (hlo : lo ≤ n) (h : C P Δ lo f args n (H.vis n S) R) :
    C P Δ lo f args n H fun v n' H' => ∃ H1, R v n' H1 ∧ n ≤ n' ∧ H1.Le H' ∧ (∀ i, i < n → ¬ S i → H' i = H i) ∧ (∀ i, n ≤ i → H' i = H1 i) ∧ (∀ i, i < n → ¬ S i → H1 i = none) ∧ (∀ i, i < lo → H' i = H i) := by
  obtain ⟨v, n', H1, d, r⟩ := h
  have a := d.abs g.abs hlo
  have d2 := d.frame (K := H.hid n S) g.abs hF hlo off_hid
  rw [plus_vis] at d2
  refine ⟨v, n', _, d2, H1, r, a.1, fun i o hi => ?_, fun i hi hs => ?_, fun i hi => ?_, fun i hi hs => a.2.2.2 i hi (vis_out hi hs), (d2.abs g.abs hlo).2.1⟩
  · have hoff := (off_hid (H := H) (S := S) (n := n)).step a
    exact hoff.get hi
  · cases e : H i with
    | some o => simp [Heap.plus, hid_out hi hs, e]
    | none =>
      have hh : H.hid n S i = none := by rw [hid_out hi hs]; exact e
      rw [plus_none hh]
      exact a.2.2.2 i hi (vis_out hi hs)
  · have hh : H.hid n S i = none := by
      cases e : H.hid n S i with
      | none => rfl
      | some o => have := (hid_some e).1; omega
    rw [plus_none hh]
end Go.Proofs.YtlpcdcpcfeaecaaAb
end
section
namespace Go.Proofs.YtlpcdcpcfeaecaaAb
open Go
structure Env (P : Program) (Δ : Prims) : Prop where
  good : Good P Δ
  framed : Framed Δ
theorem sIL {α : Type} (xs : List α) (j : Int) (y : α) : (setI xs j y).length = xs.length := by simp [setI]
section
variable {α : Type} [Rp α] {F F' H H' : Heap} {v : Value} {xs ys : List α} {lo n n' : Nat}
end
section
variable {P : Program} {Δ : Prims} {lo : Nat} {fr : Fr} {n : Nat} {H : Heap} {Q : Post}
section ops
variable {all : Array Oper} {l : List Oper} {o : Oper} {d : Nat} {fl fl2 : List Bool} {lw lo0 : Nat} {F : Heap}
theorem take_drop_splice {c vc : List Value} {k0 len o : Nat} (hk : k0 + len ≤ c.length) (ho : o + vc.length ≤ len) : ((splice c (k0 + o) vc).drop k0).take len = splice ((c.drop k0).take len) o vc := by
  apply List.ext_getElem?
  intro i
  have hl1 : k0 + o + vc.length ≤ c.length := by omega
  have hl2 : o + vc.length ≤ ((c.drop k0).take len).length := by rw [List.length_take, List.length_drop]; omega
  rw [getElem?_splice hl2]
  by_cases hi : i < len
  · rw [List.getElem?_take_of_lt hi, List.getElem?_drop, getElem?_splice hl1, List.getElem?_take_of_lt hi, List.getElem?_drop]
    by_cases h1 : i < o
    · rw [if_pos (by omega), if_pos h1]
    · rw [if_neg (by omega), if_neg h1]
      by_cases h2 : i < o + vc.length
      · rw [if_pos (by omega), if_pos h2]; congr 1; omega
      · rw [if_neg (by omega), if_neg h2]
  · rw [List.getElem?_eq_none (by rw [List.length_take]; omega), if_neg (by omega), if_neg (by omega), List.getElem?_eq_none (by rw [List.length_take]; omega)]
theorem St.vis {S : Nat → Prop} (hS : St lo0 n H F) (hF : ∀ i, (F i).isSome = true → S i) : St lo0 n (H.vis n S) F :=
  ⟨hS.lo, fun i hi => by rw [vis_new hi]; exact hS.hb i hi, fun i ob h => by rw [vis_in (hF i (by rw [h]; rfl))]; exact hS.fh i ob h⟩
theorem OW.vis {α : Type} [Rp α] {S : Nat → Prop} {v : Value} {xs : List α} (h : OW lo0 n H F v xs) (hs : ∀ i, idOf v = some i → S i) : OW lo0 n (H.vis n S) F v xs :=
  h.keep (Nat.le_refl _) fun i hi => vis_in (hs i hi)
end ops
end
end Go.Proofs.YtlpcdcpcfeaecaaAb
end
section
namespace Go.Proofs.YtlpcdcpcfeaecaaAb
open Go
def StepO (P : Program) (lo : Nat) (ev : Operand → Option Value) (n : Nat) (H : Heap) (o : Oper) (v : Value) (n' : Nat) (H' : Heap) : Prop := Step P lo ev n H o v n' H' ∨ StepM P lo ev n H o v n' H'
section
variable (P : Program) (Δ : Prims) (lo : Nat) (all : Array Oper) (I : Heap → Prop)
inductive TRI : List (Bool × Bool × Bool) → List Oper → Bool → Fr → Nat → Heap → Fr → Nat → Heap → Prop
  | nil {nd : Bool} {fr : Fr} {n : Nat} {H : Heap} (hI : nd = true → I H) : TRI [] [] nd fr n H fr n H
  | cons {b ft nd nde : Bool} {fl : List (Bool × Bool × Bool)} {o : Oper} {l : List Oper} {fr fr1 fr' : Fr} {n n1 n' : Nat} {H H1 H' : Heap} (hI : nd = true → I H) (h1 : TR P Δ lo all [b] [o] fr n H .norm fr1 n1 H1) (hf : ft = false) (h : TRI fl l nde fr1 n1 H1 fr' n' H') : TRI ((b, ft, nd) :: fl) (o :: l) nde fr n H fr' n' H'
  | late {nd nde : Bool} {fl : List (Bool × Bool × Bool)} {o : Oper} {l : List Oper} {fr fr' : Fr} {n n' : Nat} {H H' : Heap} {v : Value} (hI : nd = true → I H) (hw : wA all o fr = some true) (hs : ∀ H2, (H2 = H ∨ I H2) → Step P n fr.eval n H2 o v n H2) (h : TRI fl l nde (fr.put o.dst v) n H fr' n' H') : TRI ((false, true, nd) :: fl) (o :: l) nde fr n H fr' n' H'
  | lateX {nd nde : Bool} {fl : List (Bool × Bool × Bool)} {o : Oper} {l : List Oper} {fr fr' : Fr} {n n1 n' : Nat} {H H1 H' : Heap} {v : Value} (hI : nd = true → I H) (hw : wA all o fr = some true) (h1 : StepO P n fr.eval n H o v n1 H1) (hs : ∀ H2, I H2 → StepO P n fr.eval n (H2.rm n n1) o v n1 H2) (h : TRI fl l nde (fr.put o.dst v) n1 H1 fr' n' H') : TRI ((false, true, nd) :: fl) (o :: l) nde fr n H fr' n' H'
  | lateSkip {ft nd nde : Bool} {fl : List (Bool × Bool × Bool)} {o : Oper} {l : List Oper} {fr fr' : Fr} {n n' : Nat} {H H' : Heap} (hI : nd = true → I H) (hw : wA all o fr = some false) (h : TRI fl l nde (fr.put o.dst undef) n H fr' n' H') : TRI ((false, ft, nd) :: fl) (o :: l) nde fr n H fr' n' H'
structure WLI (fl : List (Bool × Bool × Bool)) (nde : Bool) (l : List Oper) (fr : Fr) (n : Nat) (H : Heap) (Q : Fr → Nat → Heap → Prop) : Prop where
  out : ∃ fr' n' H', TRI P Δ lo all I fl l nde fr n H fr' n' H' ∧ Q fr' n' H'
end
section
variable {P : Program} {Δ : Prims} {lo : Nat} {all : Array Oper} {I : Heap → Prop}
theorem rm_nil (H : Heap) (n : Nat) : H.rm n n = H := by funext i; simp only [Heap.rm]; rw [if_neg (by omega)]
theorem TR.one {fl : List Bool} {b : Bool} {o : Oper} {fr fr' : Fr} {n n' : Nat} {H H' : Heap} {e : Ex} (h : TR P Δ lo all [b] [o] fr n H e fr' n' H') : ∀ frx, Fr.same frx fr →
    e = .norm ∧ ∃ v K, Fr.same (frx.put o.dst v) fr' ∧ wA all o frx = some K ∧ (K = false → v = undef ∧ n' = n ∧ H' = H) ∧ (K = true → D P Δ (.op (if b then lo else n) o frx n H v n' H')) := by
  intro frx hx
  obtain ⟨he, F, N, HH, V, K, f0, n0, h0, f1, n1, h1, hk⟩ := h.fns rfl frx hx
  have := hk 0 (by simp)
  simp only [List.getD_cons_zero] at this
  obtain ⟨a, b', c, d⟩ := this
  simp only [List.length_singleton] at f1 n1 h1
  refine ⟨he, V 0, K 0, ?_, by rw [← f0]; exact a, fun hK => ?_, fun hK => ?_⟩
  · rw [← f0, ← b']; exact f1
  · obtain ⟨x, y, z⟩ := c hK
    exact ⟨x, by rw [← n1, y, n0], by rw [← h1, z, h0]⟩
  · have := d hK
    rw [f0, n0, h0, n1, h1] at this
    exact this
theorem TRI.fns {fl : List (Bool × Bool × Bool)} {l : List Oper} {nde : Bool} {fr fr' : Fr} {n n' : Nat} {H H' : Heap} (h : TRI P Δ lo all I fl l nde fr n H fr' n' H') : ∀ frx, Fr.same frx fr →
    fl.length = l.length ∧ ∃ (F : Nat → Fr) (N : Nat → Nat) (HH : Nat → Heap) (V : Nat → Value) (K : Nat → Bool), F 0 = frx ∧ N 0 = n ∧ HH 0 = H ∧ Fr.same (F l.length) fr' ∧ N l.length = n' ∧ HH l.length = H' ∧ (nde = true → I (HH l.length)) ∧
      ∀ k, k < l.length → wA all (l.getD k default) (F k) = some (K k) ∧ F (k + 1) = (F k).put (l.getD k default).dst (V k) ∧ (K k = false → V k = undef ∧ N (k + 1) = N k ∧ HH (k + 1) = HH k) ∧
        (K k = true → D P Δ (.op (if (fl.getD k (true, false, false)).1 then lo else N k) (l.getD k default) (F k) (N k) (HH k) (V k) (N (k + 1)) (HH (k + 1)))) ∧
        ((fl.getD k (true, false, false)).2.2 = true → I (HH k)) ∧
        ((fl.getD k (true, false, false)).2.1 = true → K k = true → ∀ H2, I H2 → StepO P (N k) (F k).eval (N k) (H2.rm (N k) (N (k + 1))) (l.getD k default) (V k) (N (k + 1)) H2) := by
  induction h with
  | @nil nd fr n H hI =>
    intro frx hx
    exact ⟨rfl, fun _ => frx, fun _ => n, fun _ => H, fun _ => undef, fun _ => false, rfl, rfl, rfl, hx, rfl, rfl, hI, fun k hk => by simp at hk⟩
  | @cons b ft nd nde fl o l fr fr1 fr' n n1 n' H H1 H' hI h1 hf h ih =>
    intro frx hx
    obtain ⟨_, v, K0, hs, hw, hk0, hk1⟩ := TR.one (fl := [b]) h1 frx hx
    obtain ⟨hlen, F, N, HH, V, K, f0, n0, h0, f1, nn1, hh1, hend, hk⟩ := ih (frx.put o.dst v) hs
    refine ⟨by simp [hlen], fun k => match k with | 0 => frx | k + 1 => F k, fun k => match k with | 0 => n | k + 1 => N k, fun k => match k with | 0 => H | k + 1 => HH k, fun k => match k with | 0 => v | k + 1 => V k, fun k => match k with | 0 => K0 | k + 1 => K k,
      rfl, rfl, rfl, by simpa using f1, by simpa using nn1, by simpa using hh1, by simpa using hend, fun k hkl => ?_⟩
    cases k with
    | zero =>
      refine ⟨hw, f0, fun hh => ?_, fun hh => ?_, hI, fun hh => by simp only [List.getD_cons_zero] at hh; rw [hf] at hh; cases hh⟩
      · obtain ⟨a, c, d⟩ := hk0 hh; exact ⟨a, by rw [← c]; exact n0, by rw [← d]; exact h0⟩
      · have := hk1 hh
        simp only [List.getD_cons_zero, n0, h0]; exact this
    | succ k => simpa using hk k (by simpa using hkl)
  | @late nd nde fl o l fr fr' n n' H H' v hI hw hs h ih =>
    intro frx hx
    obtain ⟨hlen, F, N, HH, V, K, f0, n0, h0, f1, nn1, hh1, hend, hk⟩ := ih (frx.put o.dst v) (Fr.same_put hx _ _)
    have he := Fr.same_eval hx
    refine ⟨by simp [hlen], fun k => match k with | 0 => frx | k + 1 => F k, fun k => match k with | 0 => n | k + 1 => N k, fun k => match k with | 0 => H | k + 1 => HH k, fun k => match k with | 0 => v | k + 1 => V k, fun k => match k with | 0 => true | k + 1 => K k,
      rfl, rfl, rfl, by simpa using f1, by simpa using nn1, by simpa using hh1, by simpa using hend, fun k hkl => ?_⟩
    cases k with
    | zero =>
      refine ⟨by rw [Fr.same_wanted hx]; exact hw, f0, fun hh => (by cases hh), fun hh => ?_, hI, fun _ _ H2 h2 => ?_⟩
      · simp only [List.getD_cons_zero, n0, h0]
        exact .step (by rw [he]; exact hs H (.inl rfl))
      · simp only [List.getD_cons_zero, n0, rm_nil]
        rw [he]; exact .inl (hs H2 (.inr h2))
    | succ k => simpa using hk k (by simpa using hkl)
  | @lateX nd nde fl o l fr fr' n n1 n' H H1 H' v hI hw h1 hs h ih =>
    intro frx hx
    obtain ⟨hlen, F, N, HH, V, K, f0, n0, h0, f1, nn1, hh1, hend, hk⟩ := ih (frx.put o.dst v) (Fr.same_put hx _ _)
    have he := Fr.same_eval hx
    refine ⟨by simp [hlen], fun k => match k with | 0 => frx | k + 1 => F k, fun k => match k with | 0 => n | k + 1 => N k, fun k => match k with | 0 => H | k + 1 => HH k, fun k => match k with | 0 => v | k + 1 => V k, fun k => match k with | 0 => true | k + 1 => K k,
      rfl, rfl, rfl, by simpa using f1, by simpa using nn1, by simpa using hh1, by simpa using hend, fun k hkl => ?_⟩
    cases k with
    | zero =>
      refine ⟨by rw [Fr.same_wanted hx]; exact hw, f0, fun hh => (by cases hh), fun hh => ?_, hI, fun _ _ H2 h2 => ?_⟩
      · simp only [List.getD_cons_zero, n0, h0]
        rcases h1 with h1 | h1
        · exact .step (by rw [he]; exact h1)
        · exact .stepM (by rw [he]; exact h1)
      · simp only [List.getD_cons_zero, n0]
        rw [he]; exact hs H2 h2
    | succ k => simpa using hk k (by simpa using hkl)
  | @lateSkip ft nd nde fl o l fr fr' n n' H H' hI hw h ih =>
    intro frx hx
    obtain ⟨hlen, F, N, HH, V, K, f0, n0, h0, f1, nn1, hh1, hend, hk⟩ := ih (frx.put o.dst undef) (Fr.same_put hx _ _)
    refine ⟨by simp [hlen], fun k => match k with | 0 => frx | k + 1 => F k, fun k => match k with | 0 => n | k + 1 => N k, fun k => match k with | 0 => H | k + 1 => HH k, fun k => match k with | 0 => undef | k + 1 => V k, fun k => match k with | 0 => false | k + 1 => K k,
      rfl, rfl, rfl, by simpa using f1, by simpa using nn1, by simpa using hh1, by simpa using hend, fun k hkl => ?_⟩
    cases k with
    | zero => exact ⟨by rw [Fr.same_wanted hx]; exact hw, f0, fun _ => ⟨rfl, n0, h0⟩, fun hh => (by cases hh), hI, fun _ hh => (by cases hh)⟩
    | succ k => simpa using hk k (by simpa using hkl)
def lateB (ops : Array Oper) (r : List Nat) (fl : List (Bool × Bool × Bool)) (nde : Bool) : Bool :=
  (List.range (ops.size + 1)).all fun c => (List.range c).all fun k =>
    !(decide (c = ops.size) || (fl.getD c (true, false, false)).1) || (fl.getD k (true, false, false)).1 || !floatsB ops r (fun k => (fl.getD k (true, false, false)).1) k c ||
      ((fl.getD k (true, false, false)).2.1 && (if c = ops.size then nde else (fl.getD c (true, false, false)).2.2))
theorem W.regionI {id : Nat} {l : List Oper} {fr : Fr} {n : Nat} {H : Heap} {Q : Post} (I : Heap → Prop) (r : List Nat) (fl : List (Bool × Bool × Bool)) (nde : Bool) (hrl : r.length = l.length) (hchk : regOK l.toArray r (fun k => (fl.getD k (true, false, false)).1) = true) (hlate : lateB l.toArray r fl nde = true)
    {pl : List Oper} (hpl : r.map (fun i => l.getD i default) = pl) (h : WLI P Δ lo l.toArray I fl nde pl fr n H (Q .norm)) : W P Δ lo (.region id l.toArray true) fr n H Q := by
  obtain ⟨fr', n', H', tr, q⟩ := h
  have hpll : pl.length = l.length := by rw [← hpl]; simp [hrl]
  obtain ⟨hlen, F, N, HH, V, K, rfl, rfl, rfl, f1, rfl, rfl, hend, hk⟩ := tr.fns fr (Fr.same_refl fr)
  have hget : ∀ k, k < l.length → pl.getD k default = l.toArray.getD (r.getD k 0) default := fun k hk' => by
    rw [← hpl]
    have hkr : k < r.length := by omega
    simp [List.getD, List.getElem?_map, List.getElem?_eq_getElem hkr, Array.getD_eq_getD_getElem?]
  have hsz : l.toArray.size = l.length := by simp
  refine ⟨.norm, fr', _, _, D.drop (D.regionD (id := id) r (fun k => (fl.getD k (true, false, false)).1) K F N HH V hchk (fun k hk' => ?_) (fun k hk' => ?_) (fun k hk' hf => ?_) (fun k hk' ht => ?_) (fun k c hkc hc hcw hw hfl hwk => ?_)) (fun t v hv => ?_), ?_⟩
  · rw [hsz] at hk'; rw [← hget k hk']; exact (hk k (by omega)).1
  · rw [hsz] at hk'; rw [← hget k hk']; exact (hk k (by omega)).2.1
  · rw [hsz] at hk'; exact (hk k (by omega)).2.2.1 hf
  · rw [hsz] at hk'; rw [← hget k hk']; exact (hk k (by omega)).2.2.2.1 ht
  · simp only [lateB, List.all_eq_true, List.mem_range] at hlate
    have := hlate c (by omega) k hkc
    have h2 : (decide (c = l.toArray.size) || (fl.getD c (true, false, false)).1) = true := by
      rcases hcw with h | h
      · simp [h]
      · rw [h]; simp
    rw [h2, hw, hfl] at this
    simp only [Bool.not_true, Bool.false_or, Bool.and_eq_true] at this
    obtain ⟨h3, h4⟩ := this
    have hkl : k < l.length := by omega
    rw [← hget k hkl]
    refine (hk k (by omega)).2.2.2.2.2 h3 hwk (HH c) ?_
    by_cases hce : c = l.toArray.size
    · rw [if_pos hce] at h4
      rw [hce, hsz, ← hpll]; exact hend h4
    · rw [if_neg hce] at h4
      exact (hk c (by omega)).2.2.2.2.1 h4
  · rw [hsz, ← hpll, f1 t]; exact hv
  · rw [hsz, ← hpll]; exact q
section rules
variable {fr : Fr} {n : Nat} {H : Heap} {Q : Fr → Nat → Heap → Prop} {fl : List (Bool × Bool × Bool)} {nde b nd : Bool} {l : List Oper} {o : Oper} {d : Nat}
theorem WLI.nil (hI : nde = true → I H) (h : Q fr n H) : WLI P Δ lo all I [] nde [] fr n H Q := ⟨_, _, _, .nil hI, h⟩
theorem WLI.op (hI : nd = true → I H) (h : WL P Δ lo [b] all [o] fr n H (fun e fr1 n1 H1 => e = .norm ∧ WLI P Δ lo all I fl nde l fr1 n1 H1 Q)) : WLI P Δ lo all I ((b, false, nd) :: fl) nde (o :: l) fr n H Q := by
  obtain ⟨e, fr1, n1, H1, tr, rfl, fr', n', H', t2, q⟩ := h
  exact ⟨fr', n', H', .cons hI tr rfl t2, q⟩
theorem WLI.late {v : Value} (hI : nd = true → I H) (hd : o.dst = some d) (hw : wA all o fr = some true) (hs : ∀ H2, (H2 = H ∨ I H2) → Step P n fr.eval n H2 o v n H2) (h : WLI P Δ lo all I fl nde l ((d, v) :: fr) n H Q) : WLI P Δ lo all I ((false, true, nd) :: fl) nde (o :: l) fr n H Q := by
  obtain ⟨fr', n', H', t2, q⟩ := h
  exact ⟨fr', n', H', .late hI hw hs (by rw [hd]; exact t2), q⟩
theorem WLI.lateX {v : Value} {n1 : Nat} {H1 : Heap} (hI : nd = true → I H) (hd : o.dst = some d) (hw : wA all o fr = some true) (h1 : StepO P n fr.eval n H o v n1 H1) (hs : ∀ H2, I H2 → StepO P n fr.eval n (H2.rm n n1) o v n1 H2) (h : WLI P Δ lo all I fl nde l ((d, v) :: fr) n1 H1 Q) : WLI P Δ lo all I ((false, true, nd) :: fl) nde (o :: l) fr n H Q := by
  obtain ⟨fr', n', H', t2, q⟩ := h
  exact ⟨fr', n', H', .lateX hI hw h1 hs (by rw [hd]; exact t2), q⟩
theorem Step.bin {op : BinOp} {t t' : TypeId} {x y : Operand} {k k' : IntKind} {a c : Int} {v : Value} {lw : Nat} (ho : o.op = .binOp op t x y t') (hx : fr.eval x = some (.int k a)) (hy : fr.eval y = some (.int k' c)) (hv : binI op k a k' c = some v) : Step P lw fr.eval n H o v n H := by
  refine .ground (fun cs b h => by rw [ho] at h; cases h) (fun z hz => ?_) (gr_binI hv) (fun w => binI_run hv ho (by rw [hx]; rfl) (by rw [hy]; rfl) w)
  rw [ho] at hz
  simp only [Op.operands] at hz
  have : z = x ∨ z = y := by simpa using hz
  rcases this with rfl | rfl
  · exact ⟨_, hx, gr_int _ _⟩
  · exact ⟨_, hy, gr_int _ _⟩
theorem Step.addI {t t' : TypeId} {x y : Operand} {a c : Int} {lw : Nat} (ho : o.op = .binOp .add t x y t') (hx : fr.eval x = some (.int .i64 a)) (hy : fr.eval y = some (.int .i64 c)) (h1 : -9223372036854775808 ≤ a + c) (h2 : a + c < 9223372036854775808) : Step P lw fr.eval n H o (.int .i64 (a + c)) n H :=
  Step.bin ho hx hy (by simp only [binI, if_true]; rw [wrap_i64 ⟨h1, h2⟩])
end rules
end
end Go.Proofs.YtlpcdcpcfeaecaaAb
end
section
namespace Go.Proofs.YtlpcdcpcfeaecaaAb
open Go
def u32 (b : UInt32) : Value := .int .u32 b.toNat
instance : Sc UInt32 := ⟨u32, fun _ => rfl, fun _ => gr_int _ _⟩
section
variable {P : Program} {Δ : Prims} {lo : Nat} {fr : Fr} {n : Nat} {H : Heap} {Q : Post}
section ops
variable {all : Array Oper} {l : List Oper} {o : Oper} {d : Nat} {fl fl2 : List Bool} {lw lo0 : Nat} {F : Heap}
theorem GL.sliceNil (hfl : IsFl fl lo n lw fl2) {t el : TypeId} {i : TypeInfo} {x : Operand} {low high : Option Operand} {l' h : Int} (ho : o.op = .slice t x low high none) (hd : o.dst = some d) (hw : wA all o fr = some true) (ht : P.underlying t = some (.slice el)) (hi : P.info? el = some i)
    (hx : fr.eval x = some (.slice none 0 0)) (hl : BndI fr.eval low 0 l') (hh : BndI fr.eval high 0 h) (hl0 : l' = 0) (hh0 : h = 0)
    (kk : WL P Δ lo fl2 all l ((d, .slice none 0 0) :: fr) n H Q) : WL P Δ lo fl all (o :: l) fr n H Q := by
  subst hl0; subst hh0
  exact WL.sliceNil hfl ho hd hw ht hi hx (hl.nat (by omega)) (hh.nat (by omega)) kk
end ops
end
end Go.Proofs.YtlpcdcpcfeaecaaAb
end
section
namespace Go.Proofs.YtlpcdcpcfeaecaaAb
open Go
class Bd (α : Type) where
  bd : Nat → α → Prop
instance : Bd Int := ⟨fun _ _ => True⟩
instance : Bd Bool := ⟨fun _ _ => True⟩
instance : Bd UInt8 := ⟨fun _ _ => True⟩
instance : Bd Str := ⟨fun B s => s.length ≤ B⟩
instance {α : Type} [Bd α] : Bd (List α) := ⟨fun B xs => xs.length ≤ B ∧ ∀ x ∈ xs, Bd.bd B x⟩
end Go.Proofs.YtlpcdcpcfeaecaaAb
end
section
namespace Go.Proofs.YtlpcdcpcfeaecaaAb
open Go
section
variable {P : Program} {Δ : Prims} {lo : Nat} {fr : Fr} {n : Nat} {H : Heap} {Q : Post}
section ops
variable {all : Array Oper} {l : List Oper} {o : Oper} {d : Nat} {fl fl2 : List Bool} {lw : Nat}
theorem GL.callIn (hfl : IsFl fl lo n lw fl2) (lo' : Nat) {x : Operand} {xs : Array Operand} {ts : Array TypeId} {f : FuncId} {first cap : Array Value} {asx args : List Value} {fn : Func} (ho : o.op = .call { callee := .value x, args := xs, argTypes := ts }) (hd : o.dst = some d) (hw : wA all o fr = some true)
    (hx : fr.eval x = some (.func (.func f) first cap)) (ha : xs.toList.mapM fr.eval = some asx) (hargs : first.toList ++ asx ++ cap.toList = args) (hfn : P.funcs[f]? = some fn) (hname : (fn.name == "runtime.NumGoroutine") = false) (hbody : fn.body.isNone = false) (h1 : lw ≤ lo') (h2 : lo' ≤ n)
    (h : C P Δ lo' f args n H (fun v n' H' => WL P Δ lo fl2 all l ((d, v) :: fr) n' H' Q)) : WL P Δ lo fl all (o :: l) fr n H Q := by
  subst hargs
  exact WL.call hfl lo' ho hd hw hx ha hfn hname hbody h1 h2 h
end ops
end
abbrev lst (s : List UInt8) : List UInt8 := s
class Fl (α : Type) [Rp α] : Prop where
  flat : ∀ {F F' : Heap} {cs : List Value} {a : α}, Rp.R F cs a → Rp.R F' cs a
instance (priority := 900) scFl {α : Type} [Sc α] : Fl α := ⟨fun h => h⟩
theorem RA.flat {β : Type} [Rp β] [Fl β] {F F' : Heap} {cs : List Value} {xs : List β} (h : RA F cs xs) : RA F' cs xs := by
  induction h with
  | nil => exact .nil
  | cons h t ih => exact .cons (Fl.flat h) ih
end Go.Proofs.YtlpcdcpcfeaecaaAb
end
section
namespace Go.Proofs.YtlpcdcpcfeaecaaAb
open Go
def OX {β : Type} [Rp β] (G F : Heap) (v : Value) (xs : List β) : Prop := xs.length < UNK ∧ ∃ cs, (∃ lo n, OwnS lo n G (Rp.sz β) v xs.length cs) ∧ RA F cs xs
section
variable {β : Type} [Rp β] {G G' F F' H : Heap} {v : Value} {xs : List β} {lo n : Nat}
theorem OX.mono (h : OX G F v xs) (hle : F.Le F') : OX G F' v xs := by
  obtain ⟨h0, cs, h1, h2⟩ := h; exact ⟨h0, cs, h1, h2.mono hle⟩
theorem OX.congr (h : OX G F v xs) (hk : ∀ i, idOf v = some i → G' i = G i) : OX G' F v xs := by
  obtain ⟨h0, cs, ⟨l, m, h1⟩, h2⟩ := h
  exact ⟨h0, cs, ⟨l, m, h1.mono (Nat.le_refl _) (Nat.le_refl _) fun i _ hi => hk i hi⟩, h2⟩
theorem OX.nil : OX G F (.slice none 0 0) ([] : List β) := ⟨by simp [UNK], [], ⟨0, 0, .inl ⟨rfl, rfl, rfl⟩⟩, .nil⟩
theorem OX.lt (h : OX G F v xs) : xs.length < UNK := h.1
theorem OX.sr (h : OX G F v xs) (hle : F.Le F') (hk : ∀ i, idOf v = some i → F' i = G i) : SR F' v xs := by
  obtain ⟨h0, cs, ⟨l, m, h1⟩, h2⟩ := h
  exact ⟨h0, cs, h1.sl.mono hk, h2.mono hle⟩
end
class Dp (α : Type) [Rp α] where
  offs : List Nat
  base : Heap → List Value → α → Prop
  own : Nat → Heap → Heap → Value → α → Prop
  blen : ∀ {F : Heap} {cs : List Value} {a : α}, base F cs a → cs.length = Rp.sz α
  bone : ∀ {F : Heap} {cs : List Value} {a : α}, base F cs a → ∀ v ∈ cs, v.oneCell' = true
  bmono : ∀ {F F' : Heap} {cs : List Value} {a : α}, base F cs a → F.Le F' → base F' cs a
  omono : ∀ {f : Nat} {G F F' : Heap} {v : Value} {a : α}, own f G F v a → F.Le F' → own f G F' v a
  ocongr : ∀ {f : Nat} {G G' F : Heap} {v : Value} {a : α}, own f G F v a → (∀ i, idOf v = some i → G' i = G i) → own f G' F v a
  toR : ∀ {F F' : Heap} {cs : List Value} {a : α}, base F cs a → F.Le F' → (∀ f, f ∈ offs → ∀ hv, cs[f]? = some hv → own f F' F' hv a) → (∀ f, f ∈ offs → ∀ hv i, cs[f]? = some hv → idOf hv = some i → ∃ o, F' i = some o) → Rp.R F' cs a
def ecut (cs : List Value) (sz j : Nat) : List Value := (cs.drop (j * sz)).take sz
abbrev Hole := Nat × Nat × Value
structure ODc {α : Type} [Rp α] [Dp α] (lo n : Nat) (H F : Heap) (S : Nat → Prop) (Z : List Hole) (v : Value) (xs : List α) (cs : List Value) (G : Heap) (T : Nat → Option (Nat × Nat)) : Prop where
  lt : xs.length < UNK
  row : OwnS lo n H (Rp.sz α) v xs.length cs
  rowid : ∀ i, idOf v = some i → S i ∧ T i = none
  base : ∀ (j : Nat) (h : j < xs.length), Dp.base F (ecut cs (Rp.sz α) j) xs[j]
  own : ∀ (j : Nat) (h : j < xs.length) (f : Nat), f ∈ Dp.offs α → ∀ hv, (ecut cs (Rp.sz α) j)[f]? = some hv → Dp.own f G F hv xs[j]
  s : ∀ i, S i → lo ≤ i ∧ i < n ∧ F i = none ∧ ∃ o, H i = some o
  t : ∀ i p, T i = some p → (S i ∧ H i = G i) ∨ ∃ q, q ∈ Z ∧ idOf q.2.2 = some i
  hd : ∀ (j f : Nat) hv i, j < xs.length → f ∈ Dp.offs α → (ecut cs (Rp.sz α) j)[f]? = some hv → idOf hv = some i → T i = some (j, f)
  z : ∀ q, q ∈ Z → q.1 < xs.length ∧ q.2.1 ∈ Dp.offs α ∧ (ecut cs (Rp.sz α) q.1)[q.2.1]? = some q.2.2
def OD {α : Type} [Rp α] [Dp α] (lo n : Nat) (H F : Heap) (S : Nat → Prop) (Z : List Hole) (v : Value) (xs : List α) : Prop := ∃ cs G T, ODc lo n H F S Z v xs cs G T
def DPt (a : Option Addr) (j : Int) (sz b e : Nat) : Prop := 0 ≤ j ∧ ∃ k, a = some ⟨b, k, none⟩ ∧ e = k + j.toNat * sz
section
variable {α : Type} [Rp α] [Dp α] {F F' H H' : Heap} {v : Value} {xs ys : List α} {lo n n' : Nat} {S : Nat → Prop} {Z : List Hole}
theorem OD.nil : OD lo n H F (fun _ => False) [] (.slice none 0 0) ([] : List α) :=
  ⟨[], fun _ => none, fun _ => none, by simp [UNK], .inl ⟨rfl, rfl, rfl⟩, fun i h => (by cases h), fun j h => (by simp at h), fun j h => (by simp at h), fun i h => h.elim, fun i p h => (by cases h), fun j f hv i h => (by simp at h), fun q h => (by cases h)⟩
theorem OD.lt (h : OD lo n H F S Z v xs) : xs.length < UNK := by obtain ⟨_, _, _, h⟩ := h; exact h.lt
theorem OD.id_lt (h : OD lo n H F S Z v xs) {i : Nat} (hi : S i) : lo ≤ i ∧ i < n := by obtain ⟨_, _, _, h⟩ := h; exact ⟨(h.s i hi).1, (h.s i hi).2.1⟩
theorem OD.fnone (h : OD lo n H F S Z v xs) {i : Nat} (hi : S i) : F i = none := by obtain ⟨_, _, _, h⟩ := h; exact (h.s i hi).2.2.1
theorem OD.alive (h : OD lo n H F S Z v xs) {i : Nat} (hi : S i) : ∃ o, H i = some o := by obtain ⟨_, _, _, h⟩ := h; exact (h.s i hi).2.2.2
theorem OD.row (h : OD lo n H F S Z v xs) {i : Nat} (hi : idOf v = some i) : S i := by obtain ⟨_, _, _, h⟩ := h; exact (h.rowid i hi).1
theorem OD.keep (h : OD lo n H F S Z v xs) (hn : n ≤ n') (hk : ∀ i, S i → H' i = H i) : OD lo n' H' F S Z v xs := by
  obtain ⟨cs, G, T, h⟩ := h
  refine ⟨cs, G, T, h.lt, h.row.mono (Nat.le_refl _) hn (fun i _ hi => hk i (h.rowid i hi).1), h.rowid, h.base, h.own, fun i hi => ?_, fun i p hp => ?_, h.hd, h.z⟩
  · obtain ⟨a, b, c, d⟩ := h.s i hi; exact ⟨a, by omega, c, by rw [hk i hi]; exact d⟩
  · rcases h.t i p hp with ⟨a, b⟩ | a
    · exact .inl ⟨a, (hk i a).trans b⟩
    · exact .inr a
theorem OD.le (h : OD lo n H F S Z v xs) (hle : H.Le H') : OD lo n H' F S Z v xs :=
  h.keep (Nat.le_refl _) fun i hi => by obtain ⟨o, ho⟩ := h.alive hi; rw [hle i o ho, ho]
theorem OD.vis {S0 : Nat → Prop} (h : OD lo n H F S Z v xs) (hs : ∀ i, S i → S0 i) : OD lo n (H.vis n S0) F S Z v xs := h.keep (Nat.le_refl _) fun i hi => vis_in (hs i hi)
theorem OD.swap {z1 z2 : Hole} (h : OD lo n H F S (z1 :: z2 :: Z) v xs) : OD lo n H F S (z2 :: z1 :: Z) v xs := by
  obtain ⟨cs, G, T, h⟩ := h
  have e : ∀ q : Hole, q ∈ z2 :: z1 :: Z → q ∈ z1 :: z2 :: Z := fun q hq => by
    rcases List.mem_cons.1 hq with rfl | hq
    · exact List.mem_cons_of_mem _ (List.mem_cons_self ..)
    · rcases List.mem_cons.1 hq with rfl | hq
      · exact List.mem_cons_self ..
      · exact List.mem_cons_of_mem _ (List.mem_cons_of_mem _ hq)
  have e' : ∀ q : Hole, q ∈ z1 :: z2 :: Z → q ∈ z2 :: z1 :: Z := fun q hq => by
    rcases List.mem_cons.1 hq with rfl | hq
    · exact List.mem_cons_of_mem _ (List.mem_cons_self ..)
    · rcases List.mem_cons.1 hq with rfl | hq
      · exact List.mem_cons_self ..
      · exact List.mem_cons_of_mem _ (List.mem_cons_of_mem _ hq)
  exact ⟨cs, G, T, h.lt, h.row, h.rowid, h.base, h.own, h.s, fun i p hp => (h.t i p hp).imp id (fun ⟨q, a, b⟩ => ⟨q, e' q a, b⟩), h.hd, fun q hq => h.z q (e q hq)⟩
theorem ecut_row {c cs : List Value} {k L sz j : Nat} (hc : (c.drop k).take (L * sz) = cs) (hj : j < L) : ecut cs sz j = (c.drop (k + j * sz)).take sz := by
  unfold ecut
  have h1 : (j + 1) * sz ≤ L * sz := Nat.mul_le_mul_right _ hj
  rw [Nat.succ_mul] at h1
  rw [← hc, List.drop_take, List.take_take, List.drop_drop]
  congr 1
  omega
theorem row_fit {c cs : List Value} {k L sz : Nat} (hc : (c.drop k).take (L * sz) = cs) (hcl : cs.length = L * sz) (h0 : 0 < L * sz) : k + L * sz ≤ c.length := by
  have := congrArg List.length hc
  rw [hcl, List.length_take, List.length_drop] at this
  omega
theorem ODc.at {cs : List Value} {G : Heap} {T : Nat → Option (Nat × Nat)} {a : Option Addr} {m cap b e : Nat} {j : Int} {x : α} (h : ODc lo n H F S Z (.slice a m cap) xs cs G T) (hp : DPt a j (Rp.sz α) b e) (hi : idx xs j = some x) :
    ∃ k c, a = some ⟨b, k, none⟩ ∧ e = k + j.toNat * Rp.sz α ∧ H b = some (.row (Rp.sz α) c) ∧ (c.drop k).take (xs.length * Rp.sz α) = cs ∧ cs.length = xs.length * Rp.sz α ∧ ecut cs (Rp.sz α) j.toNat = (c.drop e).take (Rp.sz α) ∧ m = xs.length := by
  obtain ⟨h0, k, rfl, rfl⟩ := hp
  obtain ⟨_, h1, h2, h3⟩ := idx_inv hi
  rcases h.row with ⟨e1, _⟩ | ⟨b', k', cap', c, e1, hb, hc, hcl, _⟩
  · cases e1
  · cases e1
    exact ⟨k, c, rfl, rfl, hb, hc, hcl, ecut_row hc h2, rfl⟩
theorem OD.get {a : Option Addr} {m cap b e : Nat} {j : Int} {x : α} (h : OD lo n H F S Z (.slice a m cap) xs) (hp : DPt a j (Rp.sz α) b e) (hi : idx xs j = some x) :
    ∃ c ecs, H b = some (.row (Rp.sz α) c) ∧ (c.drop e).take (Rp.sz α) = ecs ∧ Dp.base F ecs x := by
  obtain ⟨cs, G, T, h⟩ := h
  obtain ⟨k, c, e1, e2, e3, e4, e5, e6, e7⟩ := h.at hp hi
  obtain ⟨h0, h1, h2, h3⟩ := idx_inv hi
  have := h.base _ h2
  rw [h3, e6] at this
  exact ⟨c, _, e3, rfl, this⟩
end
end Go.Proofs.YtlpcdcpcfeaecaaAb
end
section
namespace Go.Proofs.YtlpcdcpcfeaecaaAb
open Go
section
variable {P : Program} {Δ : Prims} {lo : Nat} {fr : Fr} {n : Nat} {H : Heap} {Q : Post}
section ops
variable {all : Array Oper} {l : List Oper} {o : Oper} {d : Nat} {fl fl2 : List Bool} {lw lo0 : Nat} {F : Heap}
end ops
end
end Go.Proofs.YtlpcdcpcfeaecaaAb
namespace Go.Proofs.YtlpcdcpcfeaecaaAb
open Go
theorem OD.S0 {α : Type} [Rp α] [Dp α] {lo n : Nat} {H F : Heap} {S : Nat → Prop} {Z : List Hole} {v : Value} {xs : List α} (h : OD lo n H F (fun i => S i ∨ idOf (.slice none 0 0) = some i) Z v xs) : OD lo n H F S Z v xs := by
  have e : (fun i => S i ∨ idOf (.slice none 0 0) = some i) = S := funext fun i => propext ⟨fun h => h.elim id (fun h => by cases h), .inl⟩
  rwa [e] at h
end Go.Proofs.YtlpcdcpcfeaecaaAb
namespace Go.Proofs.YtlpcdcpcfeaecaaAb
open Go
def RW (lo n : Nat) (H F : Heap) (b : Nat) (r : Ob) : Prop := lo ≤ b ∧ b < n ∧ F b = none ∧ H b = some r
section
variable {lo n n' : Nat} {H H' F F' : Heap} {b : Nat} {r : Ob}
theorem RW.keep (h : RW lo n H F b r) (hn : n ≤ n') (hk : ∀ i, i = b → H' i = H i) : RW lo n' H' F b r := ⟨h.1, by have := h.2.1; omega, h.2.2.1, (hk b rfl).trans h.2.2.2⟩
theorem RW.id_lt (h : RW lo n H F b r) {i : Nat} (hi : i = b) : lo ≤ i ∧ i < n := by subst hi; exact ⟨h.1, h.2.1⟩
theorem RW.fnone (h : RW lo n H F b r) {i : Nat} (hi : i = b) : F i = none := by subst hi; exact h.2.2.1
end
end Go.Proofs.YtlpcdcpcfeaecaaAb
namespace Go.Proofs.YtlpcdcpcfeaecaaAb
open Go
section
variable {P : Program} {Δ : Prims} {lo : Nat} {all : Array Oper} {I : Heap → Prop} {fr : Fr} {n : Nat} {H : Heap} {Q : Fr → Nat → Heap → Prop} {fl : List (Bool × Bool × Bool)} {nde nd : Bool} {l : List Oper} {o : Oper} {d : Nat} {lo0 : Nat} {F : Heap}
end
end Go.Proofs.YtlpcdcpcfeaecaaAb
namespace Go.Proofs.YtlpcdcpcfeaecaaAb
end Go.Proofs.YtlpcdcpcfeaecaaAb
namespace Go.Proofs.YtlpcdcpcfeaecaaAb
open Go
section
variable {P : Program} {Δ : Prims} {lo : Nat} {fr : Fr} {n : Nat} {H : Heap} {Q : Post} {all : Array Oper} {l : List Oper} {o : Oper} {d : Nat}
theorem WL.clear {fl fl2 : List Bool} {lw : Nat} (hfl : IsFl fl lo n lw fl2) {t el : TypeId} {i : TypeInfo} {z : Value} {x : Operand} {b k len cap e : Nat} {c : List Value} (ho : o.op = .call { callee := .builtin .clear, args := #[x], argTypes := #[t] }) (hd : o.dst = none) (hw : wA all o fr = some true) (ht : P.underlying t = some (.slice el)) (hi : P.info? el = some i) (hz : i.zero = some z) (hzs : (Cells z).length = i.size)
    (hg : (Cells z).all grZ = true) (hx : fr.eval x = some (.slice (some ⟨b, k, none⟩) len cap)) (hb : H b = some (.row e c)) (hfit : k + len * i.size ≤ c.length) (hlo : lw ≤ b) (hbn : b < n) (hl0 : 0 < len)
    (kk : WL P Δ lo fl2 all l fr n (H.set b (.row e (splice c k (List.replicate len (Cells z)).flatten))) Q) : WL P Δ lo fl all (o :: l) fr n H Q :=
  WL.step0 hfl (.stepM (.clear ho ht hi hz hzs hx hb hfit hlo hbn (fun v hv => grZ_spec (List.all_eq_true.1 hg v hv)) hl0)) hd hw kk
theorem WL.copy {fl fl2 : List Bool} {lw : Nat} (hfl : IsFl fl lo n lw fl2) {t u el : TypeId} {i : TypeInfo} {x y : Operand} {b k len cap m e : Nat} {c news : List Value} (ho : o.op = .call { callee := .builtin .copy, args := #[x, y], argTypes := #[t, u] }) (hd : o.dst = some d) (hw : wA all o fr = some true) (ht : P.underlying t = some (.slice el)) (hi : P.info? el = some i)
    (hx : fr.eval x = some (.slice (some ⟨b, k, none⟩) len cap)) (hsrc : Src P fr.eval H i.size u y m news) (hb : H b = some (.row e c)) (hfit : k + (min m len) * i.size ≤ c.length) (hlo : lw ≤ b) (hbn : b < n) (h1 : ∀ v ∈ news, v.oneCell' = true)
    (kk : WL P Δ lo fl2 all l ((d, .int .i64 ((min m len : Nat) : Int)) :: fr) n (H.set b (.row e (splice c k (news.take ((min m len) * i.size))))) Q) : WL P Δ lo fl all (o :: l) fr n H Q :=
  WL.step hfl (.stepM (.copy ho ht hi hx hsrc hb hfit hlo hbn h1)) hd hw kk
end
theorem win_behind {c vc : List Value} {k N : Nat} (h : k + N + vc.length ≤ c.length) : ((splice c (k + N) vc).drop k).take N = (c.drop k).take N := by
  apply List.ext_getElem?
  intro i
  by_cases hi : i < N
  · rw [List.getElem?_take_of_lt hi, List.getElem?_take_of_lt hi, List.getElem?_drop, List.getElem?_drop, getElem?_splice (by omega), if_pos (by omega)]
  · rw [List.getElem?_eq_none (by rw [List.length_take]; omega), List.getElem?_eq_none (by rw [List.length_take]; omega)]
end Go.Proofs.YtlpcdcpcfeaecaaAb
namespace Go.Proofs.YtlpcdcpcfeaecaaAb
open Go
theorem lb_unk {X n : Nat} : lb n (UNK + X) = max n X := by unfold lb; rw [if_pos (by omega)]; omega
theorem le_lb {L cap : Nat} : L ≤ lb L cap := by unfold lb; omega
end Go.Proofs.YtlpcdcpcfeaecaaAb
namespace Go.Proofs.YtlpcdcpcfeaecaaAb
open Go
section
variable {P : Program} {fr : Fr} {n : Nat} {H : Heap} {o : Oper}
theorem Step.ground2' {lw : Nat} {x y : Operand} {u u' v : Value} (hs : ∀ cs b, o.op ≠ .select cs b) (hops : o.op.operands = #[x, y]) (hx : fr.eval x = some u) (hy : fr.eval y = some u') (hgu : Gr u) (hgu' : Gr u') (hgv : Gr v)
    (hr : ∀ (ev : Operand → Value) w, ev x = u → ev y = u' → (execOp ev o).run P w = .ok (.value v) w) : Step P lw fr.eval n H o v n H := by
  refine .ground hs (fun z hz => ?_) hgv (fun w => hr _ w (by rw [hx]; rfl) (by rw [hy]; rfl))
  rw [hops] at hz
  have : z = x ∨ z = y := by simpa using hz
  rcases this with rfl | rfl
  · exact ⟨_, hx, hgu⟩
  · exact ⟨_, hy, hgu'⟩
theorem Step.max2' {lw : Nat} {t t' : TypeId} {x y : Operand} {q q' : IntKind} {a b : Int} (ho : o.op = .call { callee := .builtin .max, args := #[x, y], argTypes := #[t, t'] }) (hx : fr.eval x = some (.int q a)) (hy : fr.eval y = some (.int q' b)) : Step P lw fr.eval n H o (.int q (if b > a then b else a)) n H :=
  Step.ground2' (by rw [ho]; intro _ _ h; cases h) (by rw [ho]; rfl) hx hy (gr_int _ _) (gr_int _ _) (gr_int _ _) (fun ev w h h' => by
    obtain ⟨dst, op, ty, pos, after, guard⟩ := o
    simp only at ho; subst ho
    simp [execOp, resolve, invoke, builtin, Builtin.max_, Builtin.max2, h, h'])
end
end Go.Proofs.YtlpcdcpcfeaecaaAb
namespace Go.Proofs.YtlpcdcpcfeaecaaAb
open Go
theorem one1 {a : Value} (h : a.oneCell' = true) : ∀ u ∈ [a], u.oneCell' = true := fun u hu => by rcases List.mem_singleton.1 hu with rfl; exact h
end Go.Proofs.YtlpcdcpcfeaecaaAb
namespace Go.Proofs.YtlpcdcpcfeaecaaAb
open Go
section
variable {p q p' r : Nat → Prop} {o n : Nat}
theorem Ap.sub (hs : ∀ b, p' b → p b) (h : ∀ b, p b → ¬ q b) : ∀ b, p' b → ¬ q b := fun b k => h b (hs b k)
theorem Ap.or (hs : ∀ b, p' b → p b ∨ r b) (h : ∀ b, p b → ¬ q b) (h2 : ∀ b, r b → ¬ q b) : ∀ b, p' b → ¬ q b := fun b k => (hs b k).elim (h b) (h2 b)
theorem Ap.new (hid : ∀ b, p' b → n ≤ b ∨ p b) (hb : ∀ b, q b → b < n) (h : ∀ b, p b → ¬ q b) : ∀ b, p' b → ¬ q b := fun b k hq => (hid b k).elim (fun e => Nat.not_le_of_lt (hb b hq) e) (fun e => h b e hq)
theorem Ap.alloc (hb : ∀ b, p b → b < n) : ¬ p n := fun h => Nat.lt_irrefl _ (hb n h)
theorem Ap.nil : ∀ b, idOf (.slice none 0 0) = some b → ¬ q b := fun b h => by cases h
end
section
variable {lo n : Nat} {H F : Heap} {v : Value}
theorem OW.hb {α : Type} [Rp α] {xs : List α} (h : OW lo n H F v xs) : ∀ b, idOf v = some b → b < n := fun b hb => (h.id_lt hb).2
theorem OW.lb {α : Type} [Rp α] {xs : List α} (h : OW lo n H F v xs) : ∀ b, idOf v = some b → lo ≤ b := fun b hb => (h.id_lt hb).1
theorem OD.hb {α : Type} [Rp α] [Dp α] {S : Nat → Prop} {Z : List Hole} {xs : List α} (h : OD lo n H F S Z v xs) : ∀ b, S b → b < n := fun b hb => (h.id_lt hb).2
theorem OD.lb {α : Type} [Rp α] [Dp α] {S : Nat → Prop} {Z : List Hole} {xs : List α} (h : OD lo n H F S Z v xs) : ∀ b, S b → lo ≤ b := fun b hb => (h.id_lt hb).1
theorem RW.hb {b : Nat} {r : Ob} (h : RW lo n H F b r) : ∀ i, i = b → i < n := fun i hi => (h.id_lt hi).2
end
end Go.Proofs.YtlpcdcpcfeaecaaAb
end
section
namespace Go.Proofs.YtlpcdcpcfeaecaaAb
open Go
section
variable {P : Program} {Δ : Prims} {lo : Nat} {fr : Fr} {n : Nat} {H : Heap} {Q : Post}
section ops
variable {all : Array Oper} {l : List Oper} {o : Oper} {d : Nat} {fl fl2 : List Bool} {lw lo0 : Nat} {F : Heap}
end ops
end
theorem lit_cell {xs : List Int} {j : Int} {x : Int} (h : idx xs j = some x) : (xs.map (fun y => Value.int .i64 y))[0 + j.toNat * 1]? = some (.int .i64 x) := by
  obtain ⟨h0, h1, h2, h3⟩ := idx_inv h
  rw [Nat.zero_add, Nat.mul_one, List.getElem?_map, List.getElem?_eq_getElem h2, h3]; rfl
section
variable {P : Program} {fr : Fr} {n lw : Nat} {H : Heap} {o : Oper}
theorem Step.indexLit {α : Type} {t : TypeId} {x y : Operand} {el : TypeId} {i : TypeInfo} {b cap : Nat} {q : IntKind} {j : Int} {xs : List α} {u : α} (ho : o.op = .indexAddr t x y) (ht : P.underlying t = some (.slice el)) (hi : P.info? el = some i) (hs : i.size = 1)
    (hx : fr.eval x = some (.slice (some ⟨b, 0, none⟩) xs.length cap)) (hy : fr.eval y = some (.int q j)) (hu : idx xs j = some u) : Step P lw fr.eval n H o (.pointer (some ⟨b, 0 + j.toNat * 1, none⟩)) n H := by
  obtain ⟨h0, h1, h2, h3⟩ := idx_inv hu
  have := Step.indexAddrS (P := P) (lo := lw) (n := n) (H := H) ho ht hi hx hy h0 h1
  rw [hs] at this; exact this
end
section
variable {P : Program} {fr : Fr} {n : Nat} {H : Heap} {o : Oper}
theorem StepM.litL {t el : TypeId} {len : Nat} {ps : Array (Nat × Operand)} {vs cs : List Value} {z : Value} {i : TypeInfo} (ho : o.op = .buildSlice t len ps) (ht : P.underlying t = some (.slice el)) (hi : P.info? el = some i) (hz : i.zero = some z)
    (hg : (Cells z).all grZ = true) (hzc : (Cells z).length = i.size) (hsz : len * i.size ≤ 16777216) (hlen : len < 1000000) (hp : ps.toList.mapM (fun p => fr.eval p.2) = some vs) (hix : ps.toList.map (·.1) = List.range' 0 len) (hvs : vs.map (fun v => (Cells v).length) = List.replicate len i.size)
    (hcs : vs.flatMap Cells = cs) (h1 : ∀ v ∈ cs, v.oneCell' = true) : StepM P n fr.eval n H o (.slice (some ⟨n, 0, none⟩) len len) (n + 1) (H.set n (.row i.size cs)) := by
  have hvl : vs.length = len := by have := congrArg List.length hvs; simpa using this
  have hpl : ps.toList.length = len := by have := congrArg List.length hix; simpa using this
  have hall : ∀ v ∈ vs, (Cells v).length = i.size := fun v hv => by
    have : (Cells v).length ∈ vs.map (fun v => (Cells v).length) := List.mem_map.2 ⟨v, hv, rfl⟩
    rw [hvs] at this; exact (List.mem_replicate.1 this).2
  have hpp := mapM_pairs (ev := fr.eval) ps.toList 0 vs hp (by rw [hix, hpl])
  have hml : (madeCells z.cells (len * i.size)).toList.length = vs.length * i.size := by rw [Array.length_toList, size_madeCells, hvl]
  have hfill := fillL_seq i.size vs 0 [] (madeCells z.cells (len * i.size)).toList (by simp) hml hall
  rw [List.nil_append, List.nil_append, hcs] at hfill
  have hf := fill_of_fillL _ _ _ _ hfill
  have hcl : cs.length = len * i.size := by
    rw [← hcs, ← hvl]; exact flat_len i.size vs hall
  have := StepM.buildSlice (P := P) (lo := n) (n := n) (H := H) (parts := (vs.zipIdx 0).map fun p => (p.2, p.1)) (cells := cs.toArray) ho ht hi hz (fun v hv => grZ_spec (List.all_eq_true.1 hg v hv)) hsz (by unfold UNK; omega) hpp (by simpa using h1) hzc hf (by simpa using hcl)
  simpa using this
end
section
variable {P : Program} {Δ : Prims} {lo : Nat} {all : Array Oper} {I : Heap → Prop} {fr : Fr} {n : Nat} {H : Heap} {Q : Fr → Nat → Heap → Prop} {fl : List (Bool × Bool × Bool)} {nde nd : Bool} {l : List Oper} {o : Oper} {d : Nat} {lo0 : Nat} {F : Heap}
end
end Go.Proofs.YtlpcdcpcfeaecaaAb
end
section
set_option maxRecDepth 20000
namespace Go.Proofs.YtlpcdcpcfeaecaaAb
open Go
structure GE where
  Kind : Int
  N : Int
  Data : (List UInt8)
deriving DecidableEq, Inhabited
instance : Rp GE where
  sz := 3
  R F cs x := ∃ (a1 : Option Addr) (c1 : Nat), cs = [.int .i64 x.Kind, .int .i64 x.N, .slice a1 x.Data.length c1] ∧ SR F (.slice a1 x.Data.length c1) x.Data
  len h := by obtain ⟨a1, c1, rfl, _⟩ := h; rfl
  one h := by obtain ⟨a1, c1, rfl, _⟩ := h; repeat' (first | exact List.forall_mem_nil _ | refine List.forall_mem_cons.2 ⟨?_, ?_⟩ | rfl)
  mono h hle := by obtain ⟨a1, c1, rfl, h1⟩ := h; exact ⟨a1, c1, rfl, h1.mono hle⟩
instance : Bd GE := ⟨fun B x => Bd.bd B x.Data⟩
theorem GE.ofR {F : Heap} {cs : List Value} {x : GE} (h : Rp.R F cs x) : ∃ (a1 : Option Addr) (c1 : Nat), cs = [.int .i64 x.Kind, .int .i64 x.N, .slice a1 x.Data.length c1] ∧ SR F (.slice a1 x.Data.length c1) x.Data := h
theorem GE.toR {F : Heap} {x : GE} {a1 : Option Addr} {c1 : Nat} (h1 : SR F (.slice a1 x.Data.length c1) x.Data) : Rp.R F [.int .i64 x.Kind, .int .i64 x.N, .slice a1 x.Data.length c1] x := ⟨a1, c1, rfl, h1⟩
structure GS where
  code : (List UInt8)
  at_ : Int
  seed : Int
deriving DecidableEq, Inhabited
instance : Rp GS where
  sz := 3
  R F cs x := ∃ (a1 : Option Addr) (c1 : Nat), cs = [.slice a1 x.code.length c1, .int .i64 x.at_, .int .i64 x.seed] ∧ SR F (.slice a1 x.code.length c1) x.code
  len h := by obtain ⟨a1, c1, rfl, _⟩ := h; rfl
  one h := by obtain ⟨a1, c1, rfl, _⟩ := h; repeat' (first | exact List.forall_mem_nil _ | refine List.forall_mem_cons.2 ⟨?_, ?_⟩ | rfl)
  mono h hle := by obtain ⟨a1, c1, rfl, h1⟩ := h; exact ⟨a1, c1, rfl, h1.mono hle⟩
instance : Bd GS := ⟨fun B x => Bd.bd B x.code⟩
theorem GS.ofR {F : Heap} {cs : List Value} {x : GS} (h : Rp.R F cs x) : ∃ (a1 : Option Addr) (c1 : Nat), cs = [.slice a1 x.code.length c1, .int .i64 x.at_, .int .i64 x.seed] ∧ SR F (.slice a1 x.code.length c1) x.code := h
structure GJob where
  Client : Int
  Seq : Int
  File : Str
  Version : Int
  Script : Str
  Text : Str
  Ere : Bool
  Quiet : Bool
deriving DecidableEq, Inhabited
instance : Rp GJob where
  sz := 8
  R F cs x := cs = [.int .i64 x.Client, .int .i64 x.Seq, str x.File, .int .i64 x.Version, str x.Script, str x.Text, .bool x.Ere, .bool x.Quiet]
  len h := by obtain rfl := h; rfl
  one h := by obtain rfl := h; repeat' (first | exact List.forall_mem_nil _ | refine List.forall_mem_cons.2 ⟨?_, ?_⟩ | rfl)
  mono h hle := by obtain rfl := h; exact rfl
instance : Fl GJob := ⟨fun h => h⟩
instance : Bd GJob := ⟨fun B x => Bd.bd B x.File ∧ Bd.bd B x.Script ∧ Bd.bd B x.Text⟩
theorem GJob.ofR {F : Heap} {cs : List Value} {x : GJob} (h : Rp.R F cs x) : cs = [.int .i64 x.Client, .int .i64 x.Seq, str x.File, .int .i64 x.Version, str x.Script, str x.Text, .bool x.Ere, .bool x.Quiet] := h
structure GR where
  Term : Int
  Index : Int
  Data : (List UInt8)
deriving DecidableEq, Inhabited
instance : Rp GR where
  sz := 3
  R F cs x := ∃ (a1 : Option Addr) (c1 : Nat), cs = [.int .i64 x.Term, .int .i64 x.Index, .slice a1 x.Data.length c1] ∧ SR F (.slice a1 x.Data.length c1) x.Data
  len h := by obtain ⟨a1, c1, rfl, _⟩ := h; rfl
  one h := by obtain ⟨a1, c1, rfl, _⟩ := h; repeat' (first | exact List.forall_mem_nil _ | refine List.forall_mem_cons.2 ⟨?_, ?_⟩ | rfl)
  mono h hle := by obtain ⟨a1, c1, rfl, h1⟩ := h; exact ⟨a1, c1, rfl, h1.mono hle⟩
instance : Bd GR := ⟨fun B x => Bd.bd B x.Data⟩
theorem GR.ofR {F : Heap} {cs : List Value} {x : GR} (h : Rp.R F cs x) : ∃ (a1 : Option Addr) (c1 : Nat), cs = [.int .i64 x.Term, .int .i64 x.Index, .slice a1 x.Data.length c1] ∧ SR F (.slice a1 x.Data.length c1) x.Data := h
theorem GR.toR {F : Heap} {x : GR} {a1 : Option Addr} {c1 : Nat} (h1 : SR F (.slice a1 x.Data.length c1) x.Data) : Rp.R F [.int .i64 x.Term, .int .i64 x.Index, .slice a1 x.Data.length c1] x := ⟨a1, c1, rfl, h1⟩
structure GP where
  Up : Bool
  Term : Int
  Vote : Int
  Commit : Int
  Role : Int
  Log : (List GR)
  Votes : (List Bool)
  Next : (List Int)
  Match : (List Int)
deriving DecidableEq, Inhabited
instance : Rp GP where
  sz := 9
  R F cs x := ∃ (a1 : Option Addr) (c1 : Nat) (a2 : Option Addr) (c2 : Nat) (a3 : Option Addr) (c3 : Nat) (a4 : Option Addr) (c4 : Nat), cs = [.bool x.Up, .int .i64 x.Term, .int .i64 x.Vote, .int .i64 x.Commit, .int .i64 x.Role, .slice a1 x.Log.length c1, .slice a2 x.Votes.length c2, .slice a3 x.Next.length c3, .slice a4 x.Match.length c4] ∧ SR F (.slice a1 x.Log.length c1) x.Log ∧ SR F (.slice a2 x.Votes.length c2) x.Votes ∧ SR F (.slice a3 x.Next.length c3) x.Next ∧ SR F (.slice a4 x.Match.length c4) x.Match
  len h := by obtain ⟨a1, c1, a2, c2, a3, c3, a4, c4, rfl, _, _, _, _⟩ := h; rfl
  one h := by obtain ⟨a1, c1, a2, c2, a3, c3, a4, c4, rfl, _, _, _, _⟩ := h; repeat' (first | exact List.forall_mem_nil _ | refine List.forall_mem_cons.2 ⟨?_, ?_⟩ | rfl)
  mono h hle := by obtain ⟨a1, c1, a2, c2, a3, c3, a4, c4, rfl, h1, h2, h3, h4⟩ := h; exact ⟨a1, c1, a2, c2, a3, c3, a4, c4, rfl, h1.mono hle, h2.mono hle, h3.mono hle, h4.mono hle⟩
instance : Bd GP := ⟨fun B x => Bd.bd B x.Log ∧ Bd.bd B x.Votes ∧ Bd.bd B x.Next ∧ Bd.bd B x.Match⟩
theorem GP.ofR {F : Heap} {cs : List Value} {x : GP} (h : Rp.R F cs x) : ∃ (a1 : Option Addr) (c1 : Nat) (a2 : Option Addr) (c2 : Nat) (a3 : Option Addr) (c3 : Nat) (a4 : Option Addr) (c4 : Nat), cs = [.bool x.Up, .int .i64 x.Term, .int .i64 x.Vote, .int .i64 x.Commit, .int .i64 x.Role, .slice a1 x.Log.length c1, .slice a2 x.Votes.length c2, .slice a3 x.Next.length c3, .slice a4 x.Match.length c4] ∧ SR F (.slice a1 x.Log.length c1) x.Log ∧ SR F (.slice a2 x.Votes.length c2) x.Votes ∧ SR F (.slice a3 x.Next.length c3) x.Next ∧ SR F (.slice a4 x.Match.length c4) x.Match := h
theorem GP.toR {F : Heap} {x : GP} {a1 : Option Addr} {c1 : Nat} {a2 : Option Addr} {c2 : Nat} {a3 : Option Addr} {c3 : Nat} {a4 : Option Addr} {c4 : Nat} (h1 : SR F (.slice a1 x.Log.length c1) x.Log) (h2 : SR F (.slice a2 x.Votes.length c2) x.Votes) (h3 : SR F (.slice a3 x.Next.length c3) x.Next) (h4 : SR F (.slice a4 x.Match.length c4) x.Match) : Rp.R F [.bool x.Up, .int .i64 x.Term, .int .i64 x.Vote, .int .i64 x.Commit, .int .i64 x.Role, .slice a1 x.Log.length c1, .slice a2 x.Votes.length c2, .slice a3 x.Next.length c3, .slice a4 x.Match.length c4] x := ⟨a1, c1, a2, c2, a3, c3, a4, c4, rfl, h1, h2, h3, h4⟩
instance : Dp GP where
  offs := [5, 6, 7, 8]
  base F cs x := ∃ (a1 : Option Addr) (c1 : Nat) (a2 : Option Addr) (c2 : Nat) (a3 : Option Addr) (c3 : Nat) (a4 : Option Addr) (c4 : Nat), cs = [.bool x.Up, .int .i64 x.Term, .int .i64 x.Vote, .int .i64 x.Commit, .int .i64 x.Role, .slice a1 x.Log.length c1, .slice a2 x.Votes.length c2, .slice a3 x.Next.length c3, .slice a4 x.Match.length c4]
  own f G F hv x := (f = 5 → OX G F hv x.Log) ∧ (f = 6 → OX G F hv x.Votes) ∧ (f = 7 → OX G F hv x.Next) ∧ (f = 8 → OX G F hv x.Match)
  blen h := by obtain ⟨a1, c1, a2, c2, a3, c3, a4, c4, rfl⟩ := h; rfl
  bone h := by obtain ⟨a1, c1, a2, c2, a3, c3, a4, c4, rfl⟩ := h; repeat' (first | exact List.forall_mem_nil _ | refine List.forall_mem_cons.2 ⟨?_, ?_⟩ | rfl)
  bmono h _ := h
  omono h hle := ⟨fun e => (h.1 e).mono hle, fun e => (h.2.1 e).mono hle, fun e => (h.2.2.1 e).mono hle, fun e => (h.2.2.2 e).mono hle⟩
  ocongr h hk := ⟨fun e => (h.1 e).congr hk, fun e => (h.2.1 e).congr hk, fun e => (h.2.2.1 e).congr hk, fun e => (h.2.2.2 e).congr hk⟩
  toR h hle ho _ := by
    obtain ⟨a1, c1, a2, c2, a3, c3, a4, c4, rfl⟩ := h
    exact ⟨a1, c1, a2, c2, a3, c3, a4, c4, rfl, ((ho 5 (by decide) _ rfl).1 rfl).sr (Heap.Le.refl _) (fun _ _ => rfl), ((ho 6 (by decide) _ rfl).2.1 rfl).sr (Heap.Le.refl _) (fun _ _ => rfl), ((ho 7 (by decide) _ rfl).2.2.1 rfl).sr (Heap.Le.refl _) (fun _ _ => rfl), ((ho 8 (by decide) _ rfl).2.2.2 rfl).sr (Heap.Le.refl _) (fun _ _ => rfl)⟩
structure GM where
  Kind : Int
  From : Int
  To : Int
  Term : Int
  A : Int
  B : Int
  C : Int
  Ok : Bool
  Log : (List GR)
deriving DecidableEq, Inhabited
instance : Rp GM where
  sz := 9
  R F cs x := ∃ (a1 : Option Addr) (c1 : Nat), cs = [.int .i64 x.Kind, .int .i64 x.From, .int .i64 x.To, .int .i64 x.Term, .int .i64 x.A, .int .i64 x.B, .int .i64 x.C, .bool x.Ok, .slice a1 x.Log.length c1] ∧ SR F (.slice a1 x.Log.length c1) x.Log
  len h := by obtain ⟨a1, c1, rfl, _⟩ := h; rfl
  one h := by obtain ⟨a1, c1, rfl, _⟩ := h; repeat' (first | exact List.forall_mem_nil _ | refine List.forall_mem_cons.2 ⟨?_, ?_⟩ | rfl)
  mono h hle := by obtain ⟨a1, c1, rfl, h1⟩ := h; exact ⟨a1, c1, rfl, h1.mono hle⟩
instance : Bd GM := ⟨fun B x => Bd.bd B x.Log⟩
theorem GM.ofR {F : Heap} {cs : List Value} {x : GM} (h : Rp.R F cs x) : ∃ (a1 : Option Addr) (c1 : Nat), cs = [.int .i64 x.Kind, .int .i64 x.From, .int .i64 x.To, .int .i64 x.Term, .int .i64 x.A, .int .i64 x.B, .int .i64 x.C, .bool x.Ok, .slice a1 x.Log.length c1] ∧ SR F (.slice a1 x.Log.length c1) x.Log := h
theorem GM.toR {F : Heap} {x : GM} {a1 : Option Addr} {c1 : Nat} (h1 : SR F (.slice a1 x.Log.length c1) x.Log) : Rp.R F [.int .i64 x.Kind, .int .i64 x.From, .int .i64 x.To, .int .i64 x.Term, .int .i64 x.A, .int .i64 x.B, .int .i64 x.C, .bool x.Ok, .slice a1 x.Log.length c1] x := ⟨a1, c1, rfl, h1⟩
structure GC where
  Peers : (List GP)
  Net : (List GM)
  Chosen : (List GR)
  Conflict : Bool
deriving DecidableEq, Inhabited
instance : Rp GC where
  sz := 4
  R F cs x := ∃ (a1 : Option Addr) (c1 : Nat) (a2 : Option Addr) (c2 : Nat) (a3 : Option Addr) (c3 : Nat), cs = [.slice a1 x.Peers.length c1, .slice a2 x.Net.length c2, .slice a3 x.Chosen.length c3, .bool x.Conflict] ∧ SR F (.slice a1 x.Peers.length c1) x.Peers ∧ SR F (.slice a2 x.Net.length c2) x.Net ∧ SR F (.slice a3 x.Chosen.length c3) x.Chosen
  len h := by obtain ⟨a1, c1, a2, c2, a3, c3, rfl, _, _, _⟩ := h; rfl
  one h := by obtain ⟨a1, c1, a2, c2, a3, c3, rfl, _, _, _⟩ := h; repeat' (first | exact List.forall_mem_nil _ | refine List.forall_mem_cons.2 ⟨?_, ?_⟩ | rfl)
  mono h hle := by obtain ⟨a1, c1, a2, c2, a3, c3, rfl, h1, h2, h3⟩ := h; exact ⟨a1, c1, a2, c2, a3, c3, rfl, h1.mono hle, h2.mono hle, h3.mono hle⟩
instance : Bd GC := ⟨fun B x => Bd.bd B x.Peers ∧ Bd.bd B x.Net ∧ Bd.bd B x.Chosen⟩
theorem GC.ofR {F : Heap} {cs : List Value} {x : GC} (h : Rp.R F cs x) : ∃ (a1 : Option Addr) (c1 : Nat) (a2 : Option Addr) (c2 : Nat) (a3 : Option Addr) (c3 : Nat), cs = [.slice a1 x.Peers.length c1, .slice a2 x.Net.length c2, .slice a3 x.Chosen.length c3, .bool x.Conflict] ∧ SR F (.slice a1 x.Peers.length c1) x.Peers ∧ SR F (.slice a2 x.Net.length c2) x.Net ∧ SR F (.slice a3 x.Chosen.length c3) x.Chosen := h
structure GL where
  c : GC
deriving DecidableEq, Inhabited
instance : Rp GL where
  sz := 4
  R F cs x := ∃ (a1 : Option Addr) (c1 : Nat) (a2 : Option Addr) (c2 : Nat) (a3 : Option Addr) (c3 : Nat), cs = [.slice a1 x.c.Peers.length c1, .slice a2 x.c.Net.length c2, .slice a3 x.c.Chosen.length c3, .bool x.c.Conflict] ∧ SR F (.slice a1 x.c.Peers.length c1) x.c.Peers ∧ SR F (.slice a2 x.c.Net.length c2) x.c.Net ∧ SR F (.slice a3 x.c.Chosen.length c3) x.c.Chosen
  len h := by obtain ⟨a1, c1, a2, c2, a3, c3, rfl, _, _, _⟩ := h; rfl
  one h := by obtain ⟨a1, c1, a2, c2, a3, c3, rfl, _, _, _⟩ := h; repeat' (first | exact List.forall_mem_nil _ | refine List.forall_mem_cons.2 ⟨?_, ?_⟩ | rfl)
  mono h hle := by obtain ⟨a1, c1, a2, c2, a3, c3, rfl, h1, h2, h3⟩ := h; exact ⟨a1, c1, a2, c2, a3, c3, rfl, h1.mono hle, h2.mono hle, h3.mono hle⟩
instance : Bd GL := ⟨fun B x => Bd.bd B x.c⟩
theorem GL.ofR {F : Heap} {cs : List Value} {x : GL} (h : Rp.R F cs x) : ∃ (a1 : Option Addr) (c1 : Nat) (a2 : Option Addr) (c2 : Nat) (a3 : Option Addr) (c3 : Nat), cs = [.slice a1 x.c.Peers.length c1, .slice a2 x.c.Net.length c2, .slice a3 x.c.Chosen.length c3, .bool x.c.Conflict] ∧ SR F (.slice a1 x.c.Peers.length c1) x.c.Peers ∧ SR F (.slice a2 x.c.Net.length c2) x.c.Net ∧ SR F (.slice a3 x.c.Chosen.length c3) x.c.Chosen := h
def v1yz (xs1 : (List UInt8)) (x5 : Int) (x6 : Int) : Option (Int) :=
  if x6 ≤ 1 then
    some 0
  else
    if (xs1.length : Int) = 0 then
      chk (-9223372036854775808 ≤ x5 * 7 ∧ x5 * 7 < 9223372036854775808) <|
      chk ((0 : Int) ≤ (x5 * 7) ∧ (0 : Int) < x6) <|
      some ((x5 * 7) % x6)
    else
      chk ((0 : Int) ≤ x5 ∧ (0 : Int) < (xs1.length : Int)) <|
      (idx xs1 (x5 % (xs1.length : Int))).bind fun x17 =>
      chk (-9223372036854775808 ≤ (x17.toNat : Int) * 31 ∧ (x17.toNat : Int) * 31 < 9223372036854775808) <|
      chk (-9223372036854775808 ≤ x5 + 1 ∧ x5 + 1 < 9223372036854775808) <|
      chk ((0 : Int) ≤ (x5 + 1) ∧ (0 : Int) < (xs1.length : Int)) <|
      (idx xs1 ((x5 + 1) % (xs1.length : Int))).bind fun x31 =>
      chk (-9223372036854775808 ≤ ((x17.toNat : Int) * 31) + (x31.toNat : Int) ∧ ((x17.toNat : Int) * 31) + (x31.toNat : Int) < 9223372036854775808) <|
      chk ((0 : Int) ≤ x5 ∧ x5 < 9223372036854775808 ∧ (0 : Int) < (xs1.length : Int)) <|
      chk (-9223372036854775808 ≤ (((x17.toNat : Int) * 31) + (x31.toNat : Int)) + (x5 / (xs1.length : Int)) ∧ (((x17.toNat : Int) * 31) + (x31.toNat : Int)) + (x5 / (xs1.length : Int)) < 9223372036854775808) <|
      chk ((0 : Int) ≤ ((((x17.toNat : Int) * 31) + (x31.toNat : Int)) + (x5 / (xs1.length : Int))) ∧ (0 : Int) < x6) <|
      some (((((x17.toNat : Int) * 31) + (x31.toNat : Int)) + (x5 / (xs1.length : Int))) % x6)
def v1zz (xs1 : (List UInt8)) : Option (Int) :=
  (v1yz xs1 0 7).bind fun x13 =>
  (idx ([1, 3, 5, 3, 2, 4, 7] : List Int) x13).bind fun x22 =>
  some x22
def v2nz (xs1 : (List UInt8)) : Option (GS) :=
  chk ((0 : Int) ≤ (xs1.length : Int) ∧ (0 : Int) < 1000) <|
  some (⟨xs1, 0, ((xs1.length : Int) % 1000)⟩ : GS)
def v2qz (x1 : GS) : Option (GS × Int) :=
  chk (-9223372036854775808 ≤ x1.at_ + 1 ∧ x1.at_ + 1 < 9223372036854775808) <|
  if (x1.at_ + 1) ≤ (x1.code.length : Int) then
    chk (-9223372036854775808 ≤ x1.seed * 31 ∧ x1.seed * 31 < 9223372036854775808) <|
    chk (-9223372036854775808 ≤ (x1.at_ + 1) - 1 ∧ (x1.at_ + 1) - 1 < 9223372036854775808) <|
    (idx x1.code ((x1.at_ + 1) - 1)).bind fun x51 =>
    chk (-9223372036854775808 ≤ (x1.seed * 31) + (x51.toNat : Int) ∧ (x1.seed * 31) + (x51.toNat : Int) < 9223372036854775808) <|
    chk (-9223372036854775808 ≤ ((x1.seed * 31) + (x51.toNat : Int)) + 7 ∧ ((x1.seed * 31) + (x51.toNat : Int)) + 7 < 9223372036854775808) <|
    chk ((0 : Int) ≤ (((x1.seed * 31) + (x51.toNat : Int)) + 7) ∧ (0 : Int) < 2147483648) <|
    chk (-9223372036854775808 ≤ (x1.at_ + 1) - 1 ∧ (x1.at_ + 1) - 1 < 9223372036854775808) <|
    (idx x1.code ((x1.at_ + 1) - 1)).bind fun x70 =>
    some ((⟨x1.code, (x1.at_ + 1), ((((x1.seed * 31) + (x51.toNat : Int)) + 7) % 2147483648)⟩ : GS), (x70.toNat : Int))
  else
    if (3000 : Int) < (x1.at_ + 1) then
      some ((⟨x1.code, (x1.at_ + 1), x1.seed⟩ : GS), 0)
    else
      chk (-9223372036854775808 ≤ x1.seed * 1103515245 ∧ x1.seed * 1103515245 < 9223372036854775808) <|
      chk (-9223372036854775808 ≤ (x1.seed * 1103515245) + 12345 ∧ (x1.seed * 1103515245) + 12345 < 9223372036854775808) <|
      chk ((0 : Int) ≤ ((x1.seed * 1103515245) + 12345) ∧ (0 : Int) < 2147483648) <|
      chk ((0 : Int) ≤ (((x1.seed * 1103515245) + 12345) % 2147483648) ∧ (((x1.seed * 1103515245) + 12345) % 2147483648) < 9223372036854775808 ∧ (0 : Int) < 65536) <|
      chk ((0 : Int) ≤ ((((x1.seed * 1103515245) + 12345) % 2147483648) / 65536) ∧ (0 : Int) < 256) <|
      some ((⟨x1.code, (x1.at_ + 1), (((x1.seed * 1103515245) + 12345) % 2147483648)⟩ : GS), (((((x1.seed * 1103515245) + 12345) % 2147483648) / 65536) % 256))
def v36z (x1 : GS) (x8 : Int) : Option (GS × Int) :=
  if x8 ≤ 1 then
    some ((x1 : GS), 0)
  else
    if x8 ≤ 256 then
      (v2qz (x1 : GS)).bind fun x39 =>
      chk ((0 : Int) ≤ x39.2 ∧ (0 : Int) < x8) <|
      some ((x39.1 : GS), (x39.2 % x8))
    else
      (v2qz (x1 : GS)).bind fun x63 =>
      (v2qz (x63.1 : GS)).bind fun x86 =>
      (v2qz (x86.1 : GS)).bind fun x0 =>
      chk (-9223372036854775808 ≤ x63.2 * 65536 ∧ x63.2 * 65536 < 9223372036854775808) <|
      chk (-9223372036854775808 ≤ x86.2 * 256 ∧ x86.2 * 256 < 9223372036854775808) <|
      chk (-9223372036854775808 ≤ (x63.2 * 65536) + (x86.2 * 256) ∧ (x63.2 * 65536) + (x86.2 * 256) < 9223372036854775808) <|
      chk (-9223372036854775808 ≤ ((x63.2 * 65536) + (x86.2 * 256)) + x0.2 ∧ ((x63.2 * 65536) + (x86.2 * 256)) + x0.2 < 9223372036854775808) <|
      chk ((0 : Int) ≤ (((x63.2 * 65536) + (x86.2 * 256)) + x0.2) ∧ (0 : Int) < x8) <|
      some ((x0.1 : GS), ((((x63.2 * 65536) + (x86.2 * 256)) + x0.2) % x8))
def v2sz : Nat → (List UInt8) → Int → (List UInt8) → Int → Int → Option (GS × (List UInt8))
  | 0, _, _, _, _, _ => none
  | k + 1, xs0, x0, xs1, x1, x2 =>
    if (0 : Int) < x0 then
      (v36z (⟨xs1, x1, x2⟩ : GS) 256).bind fun x3 =>
      chk ((xs0.length : Int) + ([(byteOf x3.2)] : List UInt8).length ≤ 68719476736) <|
      chk (-9223372036854775808 ≤ x0 - 1 ∧ x0 - 1 < 9223372036854775808) <|
      (v2sz k) (xs0 ++ ([(byteOf x3.2)] : List UInt8)) (x0 - 1) x3.1.code x3.1.at_ x3.1.seed
    else
      some ((⟨xs1, x1, x2⟩ : GS), xs0)
def v2rz (x1 : GS) (x8 : Int) : Option (GS × (List UInt8)) :=
  chk (-9223372036854775808 ≤ x8 + 1 ∧ x8 + 1 < 9223372036854775808) <|
  (v36z (x1 : GS) (x8 + 1)).bind fun x21 =>
  v2sz BIG ([] : List UInt8) x21.2 x21.1.code x21.1.at_ x21.1.seed
def v2vz (xs0 : (List UInt8)) (x0 : Int) (x1 : Int) (x11 : (GS × Int)) (x2 : Int) (rc0 : (List GE) → Int → (List UInt8) → Int → Int → Option (GS × (List GE))) : Nat → (List GE) → Int → Option (GS × (List GE))
  | 0, _, _ => none
  | k + 1, xs1, x3 =>
    if (0 : Int) < x3 then
      chk ((xs1.length : Int) + ([(⟨2, 0, []⟩ : GE)] : List GE).length ≤ 68719476736) <|
      chk (-9223372036854775808 ≤ x3 - 1 ∧ x3 - 1 < 9223372036854775808) <|
      (v2vz xs0 x0 x1 x11 x2 rc0 k) (xs1 ++ ([(⟨2, 0, []⟩ : GE)] : List GE)) (x3 - 1)
    else
      (v2rz (⟨xs0, x0, x1⟩ : GS) 3).bind fun x4 =>
      chk ((xs1.length : Int) + ([(⟨7, x11.2, x4.2⟩ : GE), (⟨1, x11.2, []⟩ : GE)] : List GE).length ≤ 68719476736) <|
      chk (-9223372036854775808 ≤ x2 - 1 ∧ x2 - 1 < 9223372036854775808) <|
      rc0 (xs1 ++ ([(⟨7, x11.2, x4.2⟩ : GE), (⟨1, x11.2, []⟩ : GE)] : List GE)) (x2 - 1) x4.1.code x4.1.at_ x4.1.seed
def v2uz (x8 : Int) (x11 : (GS × Int)) : Nat → (List GE) → Int → (List UInt8) → Int → Int → Option (GS × (List GE))
  | 0, _, _, _, _, _ => none
  | k + 1, xs0, x0, xs1, x1, x2 =>
    if (0 : Int) < x0 then
      chk (-9223372036854775808 ≤ (3 : Int) * x8 ∧ (3 : Int) * x8 < 9223372036854775808) <|
      v2vz xs1 x1 x2 x11 x0 (v2uz x8 x11 k) BIG xs0 ((3 : Int) * x8)
    else
      some ((⟨xs1, x1, x2⟩ : GS), xs0)
def v2tz (x1 : GS) (x8 : Int) : Option (GS × (List GE)) :=
  (v36z (x1 : GS) x8).bind fun x11 =>
  (v36z (x11.1 : GS) 4).bind fun x43 =>
  chk (-9223372036854775808 ≤ (2 : Int) + x43.2 ∧ (2 : Int) + x43.2 < 9223372036854775808) <|
  v2uz x8 x11 BIG ([(⟨1, x11.2, []⟩ : GE)] : List GE) ((2 : Int) + x43.2) x43.1.code x43.1.at_ x43.1.seed
def v38z (x1 : GS) (x8 : Int) : Option (Int) :=
  chk ((0 : Int) ≤ (x1.code.length : Int) ∧ (x1.code.length : Int) < 9223372036854775808 ∧ (0 : Int) < 12) <|
  chk (-9223372036854775808 ≤ (1 : Int) + ((x1.code.length : Int) / 12) ∧ (1 : Int) + ((x1.code.length : Int) / 12) < 9223372036854775808) <|
  some (if x8 < ((1 : Int) + ((x1.code.length : Int) / 12)) then x8 else ((1 : Int) + ((x1.code.length : Int) / 12)))
def v2wz (x1 : GS) (x8 : Int) : Option (GS × Bool) :=
  (v36z (x1 : GS) x8).bind fun x11 =>
  chk (-9223372036854775808 ≤ x8 - 1 ∧ x8 - 1 < 9223372036854775808) <|
  some ((x11.1 : GS), (decide (x11.2 = (x8 - 1))))
def v2yz (x0 : Int) (rc0 : (List GE) → Int → (List UInt8) → Int → Int → Option (GS × (List GE))) (xs0 : (List GE)) (xs1 : (List UInt8)) (x1 : Int) (x2 : Int) : Option (GS × (List GE)) :=
  chk (-9223372036854775808 ≤ x0 - 1 ∧ x0 - 1 < 9223372036854775808) <|
  rc0 xs0 (x0 - 1) xs1 x1 x2
def v2zz (x8 : Int) : Nat → (List GE) → Int → (List UInt8) → Int → Int → Option (GS × (List GE))
  | 0, _, _, _, _, _ => none
  | k + 1, xs0, x0, xs1, x1, x2 =>
    if (0 : Int) < x0 then
      (v36z (⟨xs1, x1, x2⟩ : GS) 12).bind fun x3 =>
      if x3.2 = 0 then
        (v36z (x3.1 : GS) x8).bind fun x4 =>
        chk ((xs0.length : Int) + ([(⟨1, x4.2, []⟩ : GE)] : List GE).length ≤ 68719476736) <|
        v2yz x0 (v2zz x8 k) (xs0 ++ ([(⟨1, x4.2, []⟩ : GE)] : List GE)) x4.1.code x4.1.at_ x4.1.seed
      else
        if x3.2 = 1 then
          (v36z (x3.1 : GS) x8).bind fun x5 =>
          (v2rz (x5.1 : GS) 3).bind fun x6 =>
          chk ((xs0.length : Int) + ([(⟨7, x5.2, x6.2⟩ : GE)] : List GE).length ≤ 68719476736) <|
          v2yz x0 (v2zz x8 k) (xs0 ++ ([(⟨7, x5.2, x6.2⟩ : GE)] : List GE)) x6.1.code x6.1.at_ x6.1.seed
        else
          if x3.2 = 2 then
            (v36z (x3.1 : GS) 2).bind fun x7 =>
            (idx ([3, 4] : List Int) x7.2).bind fun x9 =>
            (v36z (x7.1 : GS) 5).bind fun x10 =>
            chk ((xs0.length : Int) + ([(⟨x9, x10.2, []⟩ : GE)] : List GE).length ≤ 68719476736) <|
            v2yz x0 (v2zz x8 k) (xs0 ++ ([(⟨x9, x10.2, []⟩ : GE)] : List GE)) x10.1.code x10.1.at_ x10.1.seed
          else
            if x3.2 = 3 then
              (v2wz (x3.1 : GS) 2).bind fun x11 =>
              if x11.2 = true then
                (v36z (x11.1 : GS) 2).bind fun x12 =>
                (idx ([5, 6] : List Int) x12.2).bind fun x13 =>
                (v36z (x12.1 : GS) x8).bind fun x14 =>
                chk ((xs0.length : Int) + ([(⟨x13, x14.2, []⟩ : GE)] : List GE).length ≤ 68719476736) <|
                v2yz x0 (v2zz x8 k) (xs0 ++ ([(⟨x13, x14.2, []⟩ : GE)] : List GE)) x14.1.code x14.1.at_ x14.1.seed
              else
                v2yz x0 (v2zz x8 k) xs0 x11.1.code x11.1.at_ x11.1.seed
            else
              (v36z (x3.1 : GS) 4).bind fun x15 =>
              chk ((xs0.length : Int) + ([(⟨2, x15.2, []⟩ : GE)] : List GE).length ≤ 68719476736) <|
              v2yz x0 (v2zz x8 k) (xs0 ++ ([(⟨2, x15.2, []⟩ : GE)] : List GE)) x15.1.code x15.1.at_ x15.1.seed
    else
      some ((⟨xs1, x1, x2⟩ : GS), xs0)
def v2xz (x1 : GS) (x8 : Int) : Option (GS × (List GE)) :=
  (v38z (x1 : GS) 60).bind fun x20 =>
  chk (-9223372036854775808 ≤ x20 + 10 ∧ x20 + 10 < 9223372036854775808) <|
  (v36z (x1 : GS) (x20 + 10)).bind fun x31 =>
  v2zz x8 BIG ([] : List GE) x31.2 x31.1.code x31.1.at_ x31.1.seed
def v2pz (xs0 : (List GE)) (xs1 : (List UInt8)) (x0 : Int) (x1 : Int) : Option (GS × (List GE)) :=
  (slc xs0 0 (if 300 < (xs0.length : Int) then 300 else (xs0.length : Int))).bind fun xs2 =>
  some ((⟨xs1, x0, x1⟩ : GS), xs2)
def v2oz (x1 : GS) (x8 : Int) : Option (GS × (List GE)) :=
  (v2tz (x1 : GS) x8).bind fun x11 =>
  (v2xz (x11.1 : GS) x8).bind fun x41 =>
  chk ((x11.2.length : Int) + x41.2.length ≤ 68719476736) <|
  (v2wz (x41.1 : GS) 2).bind fun x90 =>
  if x90.2 = true then
    (v2tz (x90.1 : GS) x8).bind fun x0 =>
    chk (((x11.2 ++ x41.2).length : Int) + x0.2.length ≤ 68719476736) <|
    v2pz ((x11.2 ++ x41.2) ++ x0.2) x0.1.code x0.1.at_ x0.1.seed
  else
    v2pz (x11.2 ++ x41.2) x90.1.code x90.1.at_ x90.1.seed
def v37z (x1 : GS) (xs8 : (List Str)) : Option (GS × Str) :=
  if (xs8.length : Int) = 0 then
    some ((x1 : GS), ([] : List UInt8))
  else
    (v36z (x1 : GS) (xs8.length : Int)).bind fun x17 =>
    (idx xs8 x17.2).bind fun x40 =>
    some ((x17.1 : GS), x40)
def v35z (x18 : (GS × Int)) (x45 : (GS × Int)) (x91 : (GS × Str)) (x0 : (GS × Int)) (x1 : (GS × Str)) (x2 : Str) (xs0 : (List UInt8)) (x3 : Int) (x4 : Int) : Option (GS × GJob) :=
  (v2wz (⟨xs0, x3, x4⟩ : GS) 5).bind fun x5 =>
  (v2wz (x5.1 : GS) 5).bind fun x6 =>
  some ((x6.1 : GS), (⟨((1 : Int) + x18.2), ((1 : Int) + x45.2), x91.2, x0.2, x1.2, x2, x5.2, x6.2⟩ : GJob))
def v30z (x1 : GS) : Option (GS × GJob) :=
  (v36z (x1 : GS) 3).bind fun x18 =>
  chk (-9223372036854775808 ≤ (1 : Int) + x18.2 ∧ (1 : Int) + x18.2 < 9223372036854775808) <|
  (v36z (x18.1 : GS) 4).bind fun x45 =>
  chk (-9223372036854775808 ≤ (1 : Int) + x45.2 ∧ (1 : Int) + x45.2 < 9223372036854775808) <|
  (v37z (x45.1 : GS) ([([97] : List UInt8), ([98] : List UInt8), ([100, 101, 115, 107] : List UInt8)] : List Str)).bind fun x91 =>
  (v36z (x91.1 : GS) 3).bind fun x0 =>
  (v37z (x0.1 : GS) ([([115, 47, 97, 47, 98, 47, 103] : List UInt8), ([112] : List UInt8), ([36, 100] : List UInt8), ([49, 33, 71, 59, 104, 59, 36, 33, 100] : List UInt8), ([115, 47] : List UInt8), ([119, 32, 120] : List UInt8), ([121, 47, 97, 98, 47, 98, 97, 47] : List UInt8), ([58, 97, 10, 98, 32, 97] : List UInt8), ([105, 32, 116, 111, 112] : List UInt8)] : List Str)).bind fun x2 =>
  if x0.2 = 0 then
    (v37z (x2.1 : GS) ([([] : List UInt8), ([97, 10, 98, 10] : List UInt8), ([97, 98, 97, 98, 10] : List UInt8)] : List Str)).bind fun x3 =>
    v35z x18 x45 x91 x0 x2 x3.2 x3.1.code x3.1.at_ x3.1.seed
  else
    v35z x18 x45 x91 x0 x2 ([] : List UInt8) x2.1.code x2.1.at_ x2.1.seed
def v3az : Nat → Int → (List UInt8) → Option ((List UInt8))
  | 0, _, _ => none
  | k + 1, x0, xs0 =>
    if (128 : Int) ≤ x0 then
      chk ((0 : Int) ≤ x0 ∧ (0 : Int) < 128) <|
      chk ((xs0.length : Int) + ([((byteOf (x0 % 128)) ||| (128 : UInt8))] : List UInt8).length ≤ 68719476736) <|
      chk ((0 : Int) ≤ x0 ∧ x0 < 9223372036854775808 ∧ (0 : Int) < 128) <|
      (v3az k) (x0 / 128) (xs0 ++ ([((byteOf (x0 % 128)) ||| (128 : UInt8))] : List UInt8))
    else
      chk ((xs0.length : Int) + ([(byteOf x0)] : List UInt8).length ≤ 68719476736) <|
      some (xs0 ++ ([(byteOf x0)] : List UInt8))
def v39z (x1 : Int) : Option ((List UInt8)) :=
  v3az BIG x1 ([] : List UInt8)
def v3dz (x1 : Str) : Option ((List UInt8)) :=
  (v39z (x1.length : Int)).bind fun x2 =>
  chk ((x2.length : Int) + (lst x1).length ≤ 68719476736) <|
  some (x2 ++ (lst x1))
def v3cz (x1 : Bool) : Option (Int) :=
  if x1 = true then
    some 1
  else
    some 0
def v3bz (x1 : GJob) : Option ((List UInt8)) :=
  (v39z x1.Client).bind fun x9 =>
  (v39z x1.Seq).bind fun x25 =>
  chk ((x9.length : Int) + x25.length ≤ 68719476736) <|
  (v3dz x1.File).bind fun x59 =>
  chk (((x9 ++ x25).length : Int) + x59.length ≤ 68719476736) <|
  (v39z x1.Version).bind fun x98 =>
  chk ((((x9 ++ x25) ++ x59).length : Int) + x98.length ≤ 68719476736) <|
  (v3dz x1.Script).bind fun x0 =>
  chk (((((x9 ++ x25) ++ x59) ++ x98).length : Int) + x0.length ≤ 68719476736) <|
  (v3dz x1.Text).bind fun x2 =>
  chk ((((((x9 ++ x25) ++ x59) ++ x98) ++ x0).length : Int) + x2.length ≤ 68719476736) <|
  (v3cz x1.Ere).bind fun x3 =>
  (v3cz x1.Quiet).bind fun x4 =>
  chk (-9223372036854775808 ≤ (2 : Int) * x4 ∧ (2 : Int) * x4 < 9223372036854775808) <|
  chk (-9223372036854775808 ≤ x3 + ((2 : Int) * x4) ∧ x3 + ((2 : Int) * x4) < 9223372036854775808) <|
  chk (((((((x9 ++ x25) ++ x59) ++ x98) ++ x0) ++ x2).length : Int) + ([(byteOf (x3 + ((2 : Int) * x4)))] : List UInt8).length ≤ 68719476736) <|
  some ((((((x9 ++ x25) ++ x59) ++ x98) ++ x0) ++ x2) ++ ([(byteOf (x3 + ((2 : Int) * x4)))] : List UInt8))
def v32z (x0 : Int) (rc0 : (List GE) → Int → (List UInt8) → Int → Int → Option (GS × (List GE))) (xs0 : (List GE)) (xs1 : (List UInt8)) (x1 : Int) (x2 : Int) : Option (GS × (List GE)) :=
  chk (-9223372036854775808 ≤ x0 + 1 ∧ x0 + 1 < 9223372036854775808) <|
  rc0 xs0 (x0 + 1) xs1 x1 x2
def v33z (xs0 : (List GE)) (x0 : Int) (rc0 : (List GE) → Int → (List UInt8) → Int → Int → Option (GS × (List GE))) (x1 : Bool) (xs1 : (List UInt8)) (x2 : Int) (x3 : Int) : Option (GS × (List GE)) :=
  if x1 = true then
    (v30z (⟨xs1, x2, x3⟩ : GS)).bind fun x4 =>
    (v3bz (x4.2 : GJob)).bind fun x5 =>
    (idx xs0 x0).bind fun x6 =>
    v32z x0 rc0 (setI xs0 x0 (⟨x6.Kind, x6.N, x5⟩ : GE)) x4.1.code x4.1.at_ x4.1.seed
  else
    v32z x0 rc0 xs0 xs1 x2 x3
def v34z (x11 : (GS × (List GE))) : Nat → (List GE) → Int → (List UInt8) → Int → Int → Option (GS × (List GE))
  | 0, _, _, _, _, _ => none
  | k + 1, xs0, x0, xs1, x1, x2 =>
    if x0 < (x11.2.length : Int) then
      (idx xs0 x0).bind fun x3 =>
      if x3.Kind = 7 then
        (v2wz (⟨xs1, x1, x2⟩ : GS) 6).bind fun x4 =>
        v33z xs0 x0 (v34z x11 k) (!x4.2) x4.1.code x4.1.at_ x4.1.seed
      else
        v33z xs0 x0 (v34z x11 k) false xs1 x1 x2
    else
      some ((⟨xs1, x1, x2⟩ : GS), xs0)
def v31z (x1 : GS) (x8 : Int) : Option (GS × (List GE)) :=
  (v2oz (x1 : GS) x8).bind fun x11 =>
  v34z x11 BIG x11.2 0 x11.1.code x11.1.at_ x11.1.seed
def v2kz (xs1 : (List UInt8)) (x5 : Int) : Option ((List GE)) :=
  (v2nz xs1).bind fun x7 =>
  (v31z (x7 : GS) x5).bind fun x28 =>
  some x28.2
def v1rz (x1 : Bool) (x2 : Int) : Option (Int) :=
  if x1 = true then
    some 0
  else
    some x2
def v1mz (x1 : Int) : Option (Int) :=
  (v1rz (decide (x1 ≤ 4096)) 2).bind fun x2 =>
  some x2
def v1sz (x1 : Int) (x2 : Int) (x3 : Int) : Option (Bool) :=
  if x2 ≤ x1 then
    some (decide (x1 ≤ x3))
  else
    some false
def v1lz (xs1 : (List Int)) : Nat → Int → Option (Int)
  | 0, _ => none
  | k + 1, x93 =>
    if x93 < (xs1.length : Int) then
      (idx xs1 x93).bind fun x0 =>
      if x0 = 0 then
        chk (-9223372036854775808 ≤ x93 + 1 ∧ x93 + 1 < 9223372036854775808) <|
        (v1lz xs1 k) (x93 + 1)
      else
        some x0
    else
      some 0
def v1kz (xs1 : (List Int)) : Option (Int) :=
  v1lz xs1 BIG 0
def v1pz (x1 : Int) : Nat → Int → (List GP) → Option (GC)
  | 0, _, _ => none
  | k + 1, x0, xs0 =>
    if x0 < x1 then
      chk ((xs0.length : Int) + ([(⟨true, 0, 0, 0, 0, [], [], [], []⟩ : GP)] : List GP).length ≤ 68719476736) <|
      chk (-9223372036854775808 ≤ x0 + 1 ∧ x0 + 1 < 9223372036854775808) <|
      (v1pz x1 k) (x0 + 1) (xs0 ++ [(⟨true, 0, 0, 0, 0, [], [], [], []⟩ : GP)])
    else
      some (⟨xs0, [], [], false⟩ : GC)
def v1oz (x1 : Int) : Option (GC) :=
  v1pz x1 BIG 0 ([])
def v26z (xs1 : List UInt8) : Option (List UInt8) := chk ((xs1.length : Int) ≤ 68719476736) (some xs1)
def v1hz (xs1 : (List GR)) : Nat → (List GR) → Int → Option ((List GR))
  | 0, _, _ => none
  | k + 1, xs0, x0 =>
    if x0 < (xs1.length : Int) then
      (idx xs1 x0).bind fun x1 =>
      (v26z x1.Data).bind fun x2 =>
      chk ((xs0.length : Int) + ([(⟨x1.Term, x1.Index, x2⟩ : GR)] : List GR).length ≤ 68719476736) <|
      chk (-9223372036854775808 ≤ x0 + 1 ∧ x0 + 1 < 9223372036854775808) <|
      (v1hz xs1 k) (xs0 ++ ([(⟨x1.Term, x1.Index, x2⟩ : GR)] : List GR)) (x0 + 1)
    else
      some xs0
def v1gz (xs1 : (List GR)) : Option ((List GR)) :=
  v1hz xs1 BIG ([] : List GR) 0
def v0z (x1 : GM) : Option (GM) :=
  (v1gz x1.Log).bind fun x21 =>
  some (⟨x1.Kind, x1.From, x1.To, x1.Term, x1.A, x1.B, x1.C, x1.Ok, x21⟩ : GM)
def vyz (x1 : GC) (x18 : GM) : Option (GC) :=
  if (x1.Net.length : Int) < 200 then
    (v0z (x18 : GM)).bind fun x52 =>
    chk ((x1.Net.length : Int) + ([(x52 : GM)] : List GM).length ≤ 68719476736) <|
    some (⟨x1.Peers, (x1.Net ++ ([(x52 : GM)] : List GM)), x1.Chosen, x1.Conflict⟩ : GC)
  else
    some (x1 : GC)
def v29z (xs1 : List GM) (x2 x3 : Int) : Option (List GM) := chk (0 ≤ x2 ∧ x3 = x2 + 1 ∧ x3 ≤ (xs1.length : Int)) (some (xs1.take x2.toNat ++ xs1.drop (x2.toNat + 1)))
def v1fz (x1 : GP) (x14 : Int) : Option (Int) :=
  if x14 = 0 then
    some 0
  else
    chk (-9223372036854775808 ≤ x14 - 1 ∧ x14 - 1 < 9223372036854775808) <|
    (idx x1.Log (x14 - 1)).bind fun x24 =>
    some x24.Term
def v1ez (x1 : GP) : Option (Int × Int) :=
  (v1fz x1 (x1.Log.length : Int)).bind fun x20 =>
  some ((x1.Log.length : Int), x20)
def v1nz (x1 : Int) : Option (Int) :=
  chk ((0 : Int) ≤ x1 ∧ x1 < 9223372036854775808 ∧ (0 : Int) < 2) <|
  chk (-9223372036854775808 ≤ (x1 / 2) + 1 ∧ (x1 / 2) + 1 < 9223372036854775808) <|
  some ((x1 / 2) + 1)
def v2fz (xs1 : List Int) (x2 : Int) : Option (List Int) := chk (xs1.length = 1 ∧ 1 ≤ x2 ∧ x2 < 100000) (some (List.replicate x2.toNat (xs1.headD 0)))
def v2ez (xs1 : (List UInt8)) (xs5 : (List UInt8)) : Nat → Int → Option (Bool)
  | 0, _ => none
  | k + 1, x0 =>
    if x0 < (xs1.length : Int) then
      (idx xs1 x0).bind fun x1 =>
      (idx xs5 x0).bind fun x2 =>
      if (x1.toNat : Int) = (x2.toNat : Int) then
        chk (-9223372036854775808 ≤ x0 + 1 ∧ x0 + 1 < 9223372036854775808) <|
        (v2ez xs1 xs5 k) (x0 + 1)
      else
        some false
    else
      some true
def v2dz (xs1 : (List UInt8)) (xs5 : (List UInt8)) : Option (Bool) :=
  if (xs1.length : Int) = (xs5.length : Int) then
    v2ez xs1 xs5 BIG 0
  else
    some false
def v1qz (x1 : GR) (x5 : GR) : Option (Bool) :=
  if x1.Term = x5.Term then
    if x1.Index = x5.Index then
      (v2dz x1.Data x5.Data).bind fun x28 =>
      some x28
    else
      some false
  else
    some false
def vfz (x0 : Int) (rc0 : Int → (List GR) → Bool → Option (GC)) (xs0 : (List GR)) (x1 : Bool) : Option (GC) :=
  chk (-9223372036854775808 ≤ x0 + 1 ∧ x0 + 1 < 9223372036854775808) <|
  rc0 (x0 + 1) xs0 x1
def vgz (xs46 : (List GR)) (x1 : GC) : Nat → Int → (List GR) → Bool → Option (GC)
  | 0, _, _, _ => none
  | k + 1, x0, xs0, x2 =>
    if x0 < (xs46.length : Int) then
      (idx xs46 x0).bind fun x3 =>
      if x0 = (xs0.length : Int) then
        chk ((xs0.length : Int) + ([(x3 : GR)] : List GR).length ≤ 68719476736) <|
        vfz x0 (vgz xs46 x1 k) (xs0 ++ ([(x3 : GR)] : List GR)) x2
      else
        (idx xs0 x0).bind fun x4 =>
        (v1qz (x3 : GR) (x4 : GR)).bind fun x5 =>
        if (!x5) = true then
          vfz x0 (vgz xs46 x1 k) xs0 true
        else
          vfz x0 (vgz xs46 x1 k) xs0 x2
    else
      some (⟨x1.Peers, x1.Net, xs0, x2⟩ : GC)
def vez (x1 : GC) (x18 : Int) : Option (GC) :=
  (idx x1.Peers x18).bind fun x29 =>
  (slc x29.Log 0 x29.Commit).bind fun xs46 =>
  vgz xs46 x1 BIG 0 x1.Chosen x1.Conflict
def viz (x1 : GC) (x18 : Int) (xs0 : (List GP)) : Option (GC) :=
  (vez (⟨xs0, x1.Net, x1.Chosen, x1.Conflict⟩ : GC) x18).bind fun x0 =>
  some (x0 : GC)
def vjz (x0 : Int) (rc2 : Int → Int → Option (GC)) (x1 : Int) : Option (GC) :=
  chk (-9223372036854775808 ≤ x0 + 1 ∧ x0 + 1 < 9223372036854775808) <|
  rc2 x1 (x0 + 1)
def vkz (x1 : GC) (x18 : Int) (x29 : GP) (x0 : Int) (rc1 : Int → Option (GC)) (x2 : Bool) : Option (GC) :=
  if x2 = true then
    viz x1 x18 (setI x1.Peers x18 (⟨x29.Up, x29.Term, x29.Vote, x0, x29.Role, x29.Log, x29.Votes, x29.Next, x29.Match⟩ : GP))
  else
    chk (-9223372036854775808 ≤ x0 - 1 ∧ x0 - 1 < 9223372036854775808) <|
    rc1 (x0 - 1)
def vmz (x29 : GP) (x0 : Int) (x1 : GC) (x18 : Int) (rc1 : Int → Option (GC)) : Nat → Int → Int → Option (GC)
  | 0, _, _ => none
  | k + 1, x2, x3 =>
    if x3 < (x29.Match.length : Int) then
      (idx x29.Match x3).bind fun x4 =>
      if x0 ≤ x4 then
        chk (-9223372036854775808 ≤ x2 + 1 ∧ x2 + 1 < 9223372036854775808) <|
        vjz x3 (vmz x29 x0 x1 x18 rc1 k) (x2 + 1)
      else
        vjz x3 (vmz x29 x0 x1 x18 rc1 k) x2
    else
      (v1nz (x1.Peers.length : Int)).bind fun x5 =>
      if x5 ≤ x2 then
        (v1fz x29 x0).bind fun x6 =>
        vkz x1 x18 x29 x0 rc1 (decide (x6 = x29.Term))
      else
        vkz x1 x18 x29 x0 rc1 false
def vlz (x29 : GP) (x1 : GC) (x18 : Int) : Nat → Int → Option (GC)
  | 0, _ => none
  | k + 1, x0 =>
    if x29.Commit < x0 then
      vmz x29 x0 x1 x18 (vlz x29 x1 x18 k) BIG 0 0
    else
      viz x1 x18 x1.Peers
def vhz (x1 : GC) (x18 : Int) : Option (GC) :=
  (idx x1.Peers x18).bind fun x29 =>
  vlz x29 x1 x18 BIG (x29.Log.length : Int)
def v1jz (xs1 : (List GR)) : Nat → (List GR) → Int → Option ((List GR))
  | 0, _, _ => none
  | k + 1, xs0, x0 =>
    if x0 < (xs1.length : Int) then
      (idx xs1 x0).bind fun x1 =>
      (v26z x1.Data).bind fun x2 =>
      chk ((xs0.length : Int) + ([(⟨x1.Term, x1.Index, x2⟩ : GR)] : List GR).length ≤ 68719476736) <|
      chk (-9223372036854775808 ≤ x0 + 1 ∧ x0 + 1 < 9223372036854775808) <|
      (v1jz xs1 k) (xs0 ++ ([(⟨x1.Term, x1.Index, x2⟩ : GR)] : List GR)) (x0 + 1)
    else
      some xs0
def v1iz (xs1 : (List GR)) : Option ((List GR)) :=
  v1jz xs1 BIG ([] : List GR) 0
def v1z (x1 : GM) : Option (GM) :=
  (v1iz x1.Log).bind fun x24 =>
  some (⟨x1.Kind, x1.From, x1.To, x1.Term, x1.A, x1.B, x1.C, x1.Ok, x24⟩ : GM)
def vxz (x1 : GC) (x18 : Int) (x19 : Int) : Option (GC) :=
  (idx x1.Peers x18).bind fun x30 =>
  (idx x30.Next x19).bind fun x47 =>
  chk (-9223372036854775808 ≤ x47 - 1 ∧ x47 - 1 < 9223372036854775808) <|
  (v1fz x30 (x47 - 1)).bind fun x62 =>
  (slc x30.Log (x47 - 1) x30.Log.length).bind fun xs76 =>
  if (x1.Net.length : Int) < 200 then
    (v1z (⟨3, x18, x19, x30.Term, (x47 - 1), x62, x30.Commit, false, xs76⟩ : GM)).bind fun x0 =>
    chk ((x1.Net.length : Int) + ([(x0 : GM)] : List GM).length ≤ 68719476736) <|
    some (⟨x1.Peers, (x1.Net ++ ([(x0 : GM)] : List GM)), x1.Chosen, x1.Conflict⟩ : GC)
  else
    some (x1 : GC)
def voz (x0 : Int) (rc0 : Int → Int → Option (GC)) (x1 : Int) : Option (GC) :=
  chk (-9223372036854775808 ≤ x0 + 1 ∧ x0 + 1 < 9223372036854775808) <|
  rc0 x1 (x0 + 1)
def vqz (x0 : Int) (rc3 : Int → (List GP) → (List GM) → (List GR) → Bool → Option (GC)) (xs0 : (List GP)) (xs1 : (List GM)) (xs2 : (List GR)) (x1 : Bool) : Option (GC) :=
  chk (-9223372036854775808 ≤ x0 + 1 ∧ x0 + 1 < 9223372036854775808) <|
  rc3 (x0 + 1) xs0 xs1 xs2 x1
def vsz (x1 : GC) (x18 : Int) : Nat → Int → (List GP) → (List GM) → (List GR) → Bool → Option (GC)
  | 0, _, _, _, _, _ => none
  | k + 1, x0, xs0, xs1, xs2, x2 =>
    if x0 < (x1.Peers.length : Int) then
      if x0 = x18 then
        vqz x0 (vsz x1 x18 k) xs0 xs1 xs2 x2
      else
        (vxz (⟨xs0, xs1, xs2, x2⟩ : GC) x18 x0).bind fun x3 =>
        vqz x0 (vsz x1 x18 k) x3.Peers x3.Net x3.Chosen x3.Conflict
    else
      some (⟨xs0, xs1, xs2, x2⟩ : GC)
def vpz (x1 : GC) (x52 : GP) (x18 : Int) (x0 : Bool) : Option (GC) :=
  if x0 = true then
    some (x1 : GC)
  else
    chk ((0 : Int) ≤ (x1.Peers.length : Int) ∧ (x1.Peers.length : Int) ≤ 68719476736) <|
    chk (-9223372036854775808 ≤ (x52.Log.length : Int) + 1 ∧ (x52.Log.length : Int) + 1 < 9223372036854775808) <|
    (v2fz ([((x52.Log.length : Int) + 1)] : List Int) (x1.Peers.length : Int)).bind fun x2 =>
    (idx (List.replicate (x1.Peers.length : Int).toNat (0 : Int)) x18).bind fun x3 =>
    (vhz (⟨(setI x1.Peers x18 (⟨x52.Up, x52.Term, x52.Vote, x52.Commit, 2, x52.Log, [], x2, (setI (List.replicate (x1.Peers.length : Int).toNat (0 : Int)) x18 (x52.Log.length : Int))⟩ : GP)), x1.Net, x1.Chosen, x1.Conflict⟩ : GC) x18).bind fun x4 =>
    vsz x1 x18 BIG 0 x4.Peers x4.Net x4.Chosen x4.Conflict
def vrz (x52 : GP) (x1 : GC) (x18 : Int) : Nat → Int → Int → Option (GC)
  | 0, _, _ => none
  | k + 1, x0, x2 =>
    if x2 < (x52.Votes.length : Int) then
      (idx x52.Votes x2).bind fun x3 =>
      if x3 = true then
        chk (-9223372036854775808 ≤ x0 + 1 ∧ x0 + 1 < 9223372036854775808) <|
        voz x2 (vrz x52 x1 x18 k) (x0 + 1)
      else
        voz x2 (vrz x52 x1 x18 k) x0
    else
      if x52.Role = 1 then
        (v1nz (x1.Peers.length : Int)).bind fun x4 =>
        vpz x1 x52 x18 (decide (x0 < x4))
      else
        vpz x1 x52 x18 true
def vnz (x1 : GC) (x18 : Int) : Option (GC) :=
  (idx x1.Peers x18).bind fun x52 =>
  vrz x52 x1 x18 BIG 0 0
def v27z (xs1 : List GR) : Option (List GR) := chk ((xs1.length : Int) ≤ 68719476736) (some xs1)
def v12z (x0 : Int) (rc2 : Int → Int → (List GP) → Option (GC)) (x1 : Int) (xs0 : (List GP)) : Option (GC) :=
  chk (-9223372036854775808 ≤ x0 + 1 ∧ x0 + 1 < 9223372036854775808) <|
  rc2 x1 (x0 + 1) xs0
def v14z (x18 : GM) (x0 : GR) (x1 : Int) (rc2 : Int → Int → (List GP) → Option (GC)) (xs0 : (List GP)) : Option (GC) :=
  (idx xs0 x18.To).bind fun x2 =>
  if (x2.Log.length : Int) < x0.Index then
    chk ((x2.Log.length : Int) + ([(x0 : GR)] : List GR).length ≤ 68719476736) <|
    v12z x1 rc2 x0.Index (setI xs0 x18.To (⟨x2.Up, x2.Term, x2.Vote, x2.Commit, x2.Role, (x2.Log ++ ([(x0 : GR)] : List GR)), x2.Votes, x2.Next, x2.Match⟩ : GP))
  else
    v12z x1 rc2 x0.Index xs0
def v13z (xs0 : (List GP)) (x18 : GM) (x0 : GR) (x1 : Int) (rc2 : Int → Int → (List GP) → Option (GC)) (x2 : Bool) : Option (GC) :=
  if x2 = true then
    (idx xs0 x18.To).bind fun x3 =>
    chk (-9223372036854775808 ≤ x0.Index - 1 ∧ x0.Index - 1 < 9223372036854775808) <|
    (slc x3.Log 0 (x0.Index - 1)).bind fun xs1 =>
    (v27z xs1).bind fun x4 =>
    v14z x18 x0 x1 rc2 (setI xs0 x18.To (⟨x3.Up, x3.Term, x3.Vote, x3.Commit, x3.Role, x4, x3.Votes, x3.Next, x3.Match⟩ : GP))
  else
    v14z x18 x0 x1 rc2 xs0
def v15z (x18 : GM) (x1 : GC) (x22 : GM) (x0 : GP) : Nat → Int → Int → (List GP) → Option (GC)
  | 0, _, _, _ => none
  | k + 1, x2, x3, xs0 =>
    if x3 < (x18.Log.length : Int) then
      (idx x18.Log x3).bind fun x4 =>
      (idx xs0 x18.To).bind fun x5 =>
      if x4.Index ≤ (x5.Log.length : Int) then
        (v1fz x5 x4.Index).bind fun x6 =>
        v13z xs0 x18 x4 x3 (v15z x18 x1 x22 x0 k) (!decide (x6 = x4.Term))
      else
        v13z xs0 x18 x4 x3 (v15z x18 x1 x22 x0 k) false
    else
      (idx xs0 x18.To).bind fun x7 =>
      (vez (⟨(setI xs0 x18.To (⟨x7.Up, x7.Term, x7.Vote, (if (if x2 < x18.C then x2 else x18.C) > x7.Commit then (if x2 < x18.C then x2 else x18.C) else x7.Commit), x7.Role, x7.Log, x7.Votes, x7.Next, x7.Match⟩ : GP)), x1.Net, x1.Chosen, x1.Conflict⟩ : GC) x18.To).bind fun x8 =>
      (vyz (x8 : GC) (⟨4, x22.From, x22.To, x0.Term, x2, x22.B, x22.C, true, x22.Log⟩ : GM)).bind fun x9 =>
      some (x9 : GC)
def v11z (x18 : GM) (xs0 : (List GP)) (x0 : GP) (x1 : GC) (x22 : GM) (x2 : Bool) : Option (GC) :=
  if x2 = true then
    chk (-9223372036854775808 ≤ x18.A - 1 ∧ x18.A - 1 < 9223372036854775808) <|
    (vyz (⟨(setI xs0 x18.To (⟨x0.Up, x0.Term, x0.Vote, x0.Commit, 0, x0.Log, [], [], []⟩ : GP)), x1.Net, x1.Chosen, x1.Conflict⟩ : GC) (⟨4, x22.From, x22.To, x0.Term, (if (x0.Log.length : Int) < (x18.A - 1) then (x0.Log.length : Int) else (x18.A - 1)), x22.B, x22.C, x22.Ok, x22.Log⟩ : GM)).bind fun x3 =>
    some (x3 : GC)
  else
    v15z x18 x1 x22 x0 BIG x18.A 0 (setI xs0 x18.To (⟨x0.Up, x0.Term, x0.Vote, x0.Commit, 0, x0.Log, [], [], []⟩ : GP))
def v10z (x18 : GM) (x1 : GC) (x22 : GM) (xs0 : (List GP)) : Option (GC) :=
  (idx xs0 x18.To).bind fun x0 =>
  if (x0.Log.length : Int) < x18.A then
    v11z x18 xs0 x0 x1 x22 true
  else
    (v1fz (⟨x0.Up, x0.Term, x0.Vote, x0.Commit, 0, x0.Log, [], [], []⟩ : GP) x18.A).bind fun x2 =>
    v11z x18 xs0 x0 x1 x22 (!decide (x2 = x18.B))
def vzz (x1 : GC) (x18 : GM) (x22 : GM) : Option (GC) :=
  (idx x1.Peers x18.To).bind fun x61 =>
  if x18.Term < x61.Term then
    (vyz (x1 : GC) (⟨4, x22.From, x22.To, x61.Term, x22.A, x22.B, x22.C, x22.Ok, x22.Log⟩ : GM)).bind fun x0 =>
    some (x0 : GC)
  else
    if x61.Term < x18.Term then
      v10z x18 x1 x22 (setI x1.Peers x18.To (⟨x61.Up, x18.Term, 0, x61.Commit, x61.Role, x61.Log, x61.Votes, x61.Next, x61.Match⟩ : GP))
    else
      v10z x18 x1 x22 x1.Peers
def vaz (x1 : GC) (x18 : GM) (x0 : GP) (x2 : Bool) (xs0 : (List GP)) : Option (GC) :=
  (vyz (⟨xs0, x1.Net, x1.Chosen, x1.Conflict⟩ : GC) (⟨2, x18.To, x18.From, x0.Term, 0, 0, 0, x2, []⟩ : GM)).bind fun x3 =>
  some (x3 : GC)
def v9z (x18 : GM) (x1 : GC) (x0 : GP) (xs0 : (List GP)) (x2 : Bool) : Option (GC) :=
  if x2 = true then
    chk (-9223372036854775808 ≤ x18.From + 1 ∧ x18.From + 1 < 9223372036854775808) <|
    vaz x1 x18 x0 true (setI xs0 x18.To (⟨x0.Up, x0.Term, (x18.From + 1), x0.Commit, x0.Role, x0.Log, x0.Votes, x0.Next, x0.Match⟩ : GP))
  else
    vaz x1 x18 x0 false xs0
def vbz (xs0 : (List GP)) (x18 : GM) (x1 : GC) (x0 : Bool) : Option (GC) :=
  if x0 = true then
    (idx xs0 x18.To).bind fun x2 =>
    (idx x2.Votes x18.From).bind fun x3 =>
    (vnz (⟨(setI xs0 x18.To (⟨x2.Up, x2.Term, x2.Vote, x2.Commit, x2.Role, x2.Log, (setI x2.Votes x18.From true), x2.Next, x2.Match⟩ : GP)), x1.Net, x1.Chosen, x1.Conflict⟩ : GC) x18.To).bind fun x4 =>
    some (x4 : GC)
  else
    some (⟨xs0, x1.Net, x1.Chosen, x1.Conflict⟩ : GC)
def vcz (xs0 : (List GP)) (x1 : GC) (x18 : GM) (x0 : Bool) : Option (GC) :=
  if x0 = true then
    some (⟨xs0, x1.Net, x1.Chosen, x1.Conflict⟩ : GC)
  else
    if x18.Ok = true then
      (idx xs0 x18.To).bind fun x2 =>
      (idx x2.Match x18.From).bind fun x3 =>
      (idx x2.Next x18.From).bind fun x4 =>
      chk (-9223372036854775808 ≤ x18.A + 1 ∧ x18.A + 1 < 9223372036854775808) <|
      (idx x2.Match x18.From).bind fun x5 =>
      (idx x2.Next x18.From).bind fun x6 =>
      (vhz (⟨(setI xs0 x18.To (⟨x2.Up, x2.Term, x2.Vote, x2.Commit, x2.Role, x2.Log, x2.Votes, (setI x2.Next x18.From (if (x18.A + 1) > x4 then (x18.A + 1) else x4)), (setI x2.Match x18.From (if x18.A > x3 then x18.A else x3))⟩ : GP)), x1.Net, x1.Chosen, x1.Conflict⟩ : GC) x18.To).bind fun x7 =>
      some (x7 : GC)
    else
      chk (-9223372036854775808 ≤ x18.A + 1 ∧ x18.A + 1 < 9223372036854775808) <|
      (idx xs0 x18.To).bind fun x8 =>
      (idx x8.Next x18.From).bind fun x9 =>
      if (x18.A + 1) < x9 then
        (idx x8.Match x18.From).bind fun x10 =>
        chk (-9223372036854775808 ≤ x10 + 1 ∧ x10 + 1 < 9223372036854775808) <|
        chk (-9223372036854775808 ≤ x18.A + 1 ∧ x18.A + 1 < 9223372036854775808) <|
        (idx x8.Next x18.From).bind fun x11 =>
        (vxz (⟨(setI xs0 x18.To (⟨x8.Up, x8.Term, x8.Vote, x8.Commit, x8.Role, x8.Log, x8.Votes, (setI x8.Next x18.From (if (x18.A + 1) > (x10 + 1) then (x18.A + 1) else (x10 + 1))), x8.Match⟩ : GP)), x1.Net, x1.Chosen, x1.Conflict⟩ : GC) x18.To x18.From).bind fun x12 =>
        some (x12 : GC)
      else
        some (⟨xs0, x1.Net, x1.Chosen, x1.Conflict⟩ : GC)
def v8z (x18 : GM) (x1 : GC) (xs0 : (List GP)) : Option (GC) :=
  if x18.Kind = 1 then
    (idx xs0 x18.To).bind fun x0 =>
    (v1ez x0).bind fun x2 =>
    if x18.Term = x0.Term then
      if x0.Vote = 0 then
        if x2.2 < x18.B then
          v9z x18 x1 x0 xs0 true
        else
          if x18.B = x2.2 then
            v9z x18 x1 x0 xs0 (decide (x2.1 ≤ x18.A))
          else
            v9z x18 x1 x0 xs0 false
      else
        chk (-9223372036854775808 ≤ x18.From + 1 ∧ x18.From + 1 < 9223372036854775808) <|
        if x0.Vote = (x18.From + 1) then
          if x2.2 < x18.B then
            v9z x18 x1 x0 xs0 true
          else
            if x18.B = x2.2 then
              v9z x18 x1 x0 xs0 (decide (x2.1 ≤ x18.A))
            else
              v9z x18 x1 x0 xs0 false
        else
          v9z x18 x1 x0 xs0 false
    else
      v9z x18 x1 x0 xs0 false
  else
    if x18.Kind = 2 then
      (idx xs0 x18.To).bind fun x3 =>
      if x18.Term = x3.Term then
        if x3.Role = 1 then
          vbz xs0 x18 x1 x18.Ok
        else
          vbz xs0 x18 x1 false
      else
        vbz xs0 x18 x1 false
    else
      if x18.Kind = 3 then
        (vzz (⟨xs0, x1.Net, x1.Chosen, x1.Conflict⟩ : GC) (x18 : GM) (⟨0, x18.To, x18.From, 0, 0, 0, 0, false, []⟩ : GM)).bind fun x4 =>
        some (x4 : GC)
      else
        if x18.Kind = 4 then
          (idx xs0 x18.To).bind fun x5 =>
          if x18.Term = x5.Term then
            vcz xs0 x1 x18 (!decide (x5.Role = 2))
          else
            vcz xs0 x1 x18 true
        else
          some (⟨xs0, x1.Net, x1.Chosen, x1.Conflict⟩ : GC)
def vdz (x18 : GM) (x1 : GC) (xs0 : (List GP)) : Option (GC) :=
  (idx xs0 x18.To).bind fun x0 =>
  v8z x18 x1 (setI xs0 x18.To (⟨x0.Up, x0.Term, x0.Vote, x0.Commit, 0, x0.Log, [], [], []⟩ : GP))
def v7z (x1 : GC) (x18 : GM) : Option (GC) :=
  (idx x1.Peers x18.To).bind fun x44 =>
  if (!x44.Up) = true then
    some (x1 : GC)
  else
    if x44.Term < x18.Term then
      if x44.Term < x18.Term then
        vdz x18 x1 (setI x1.Peers x18.To (⟨x44.Up, x18.Term, 0, x44.Commit, x44.Role, x44.Log, x44.Votes, x44.Next, x44.Match⟩ : GP))
      else
        vdz x18 x1 x1.Peers
    else
      v8z x18 x1 x1.Peers
def v17z (x0 : Int) (rc0 : Int → (List GP) → (List GM) → (List GR) → Bool → Option (GC)) (xs0 : (List GP)) (xs1 : (List GM)) (xs2 : (List GR)) (x1 : Bool) : Option (GC) :=
  chk (-9223372036854775808 ≤ x0 + 1 ∧ x0 + 1 < 9223372036854775808) <|
  rc0 (x0 + 1) xs0 xs1 xs2 x1
def v19z (x1 : GC) (x18 : Int) : Nat → Int → (List GP) → (List GM) → (List GR) → Bool → Option (GC)
  | 0, _, _, _, _, _ => none
  | k + 1, x0, xs0, xs1, xs2, x2 =>
    if x0 < (x1.Peers.length : Int) then
      if x0 = x18 then
        v17z x0 (v19z x1 x18 k) xs0 xs1 xs2 x2
      else
        (vxz (⟨xs0, xs1, xs2, x2⟩ : GC) x18 x0).bind fun x3 =>
        v17z x0 (v19z x1 x18 k) x3.Peers x3.Net x3.Chosen x3.Conflict
    else
      some (⟨xs0, xs1, xs2, x2⟩ : GC)
def v18z (x0 : Int) (rc2 : Int → (List GP) → (List GM) → (List GR) → Bool → Option (GC)) (xs0 : (List GP)) (xs1 : (List GM)) (xs2 : (List GR)) (x1 : Bool) : Option (GC) :=
  chk (-9223372036854775808 ≤ x0 + 1 ∧ x0 + 1 < 9223372036854775808) <|
  rc2 (x0 + 1) xs0 xs1 xs2 x1
def v1az (x1 : GC) (x18 : Int) (x0 : (Int × Int)) : Nat → Int → (List GP) → (List GM) → (List GR) → Bool → Option (GC)
  | 0, _, _, _, _, _ => none
  | k + 1, x2, xs0, xs1, xs2, x3 =>
    if x2 < (x1.Peers.length : Int) then
      if x2 = x18 then
        v18z x2 (v1az x1 x18 x0 k) xs0 xs1 xs2 x3
      else
        (idx xs0 x18).bind fun x4 =>
        (vyz (⟨xs0, xs1, xs2, x3⟩ : GC) (⟨1, x18, x2, x4.Term, x0.1, x0.2, 0, false, []⟩ : GM)).bind fun x5 =>
        v18z x2 (v1az x1 x18 x0 k) x5.Peers x5.Net x5.Chosen x5.Conflict
    else
      (vnz (⟨xs0, xs1, xs2, x3⟩ : GC) x18).bind fun x6 =>
      some (x6 : GC)
def v16z (x1 : GC) (x18 : Int) : Option (GC) :=
  (idx x1.Peers x18).bind fun x52 =>
  if x52.Role = 2 then
    v19z x1 x18 BIG 0 x1.Peers x1.Net x1.Chosen x1.Conflict
  else
    if x52.Term < 1000000 then
      chk (-9223372036854775808 ≤ x52.Term + 1 ∧ x52.Term + 1 < 9223372036854775808) <|
      chk ((0 : Int) ≤ (x1.Peers.length : Int) ∧ (x1.Peers.length : Int) ≤ 68719476736) <|
      chk (-9223372036854775808 ≤ x18 + 1 ∧ x18 + 1 < 9223372036854775808) <|
      (idx (List.replicate (x1.Peers.length : Int).toNat (false : Bool)) x18).bind fun x0 =>
      (v1ez (⟨x52.Up, (x52.Term + 1), (x18 + 1), x52.Commit, 1, x52.Log, (List.replicate (x1.Peers.length : Int).toNat (false : Bool)), [], []⟩ : GP)).bind fun x2 =>
      v1az x1 x18 x2 BIG 0 (setI x1.Peers x18 (⟨x52.Up, (x52.Term + 1), (x18 + 1), x52.Commit, 1, x52.Log, (setI (List.replicate (x1.Peers.length : Int).toNat (false : Bool)) x18 true), [], []⟩ : GP)) x1.Net x1.Chosen x1.Conflict
    else
      some (x1 : GC)
def vwz (x1 : GC) (x0 : GP) (x18 : GE) (x2 : Bool) : Option (GC × Int) :=
  if x2 = true then
    some ((x1 : GC), 14)
  else
    chk (-9223372036854775808 ≤ (x0.Log.length : Int) + 1 ∧ (x0.Log.length : Int) + 1 < 9223372036854775808) <|
    (v26z x18.Data).bind fun x3 =>
    chk ((x0.Log.length : Int) + ([(⟨x0.Term, ((x0.Log.length : Int) + 1), x3⟩ : GR)] : List GR).length ≤ 68719476736) <|
    (idx x0.Match x18.N).bind fun x4 =>
    (vhz (⟨(setI x1.Peers x18.N (⟨x0.Up, x0.Term, x0.Vote, x0.Commit, x0.Role, (x0.Log ++ ([(⟨x0.Term, ((x0.Log.length : Int) + 1), x3⟩ : GR)] : List GR)), x0.Votes, x0.Next, (setI x0.Match x18.N ((x0.Log ++ ([(⟨x0.Term, ((x0.Log.length : Int) + 1), x3⟩ : GR)] : List GR)).length : Int))⟩ : GP)), x1.Net, x1.Chosen, x1.Conflict⟩ : GC) x18.N).bind fun x5 =>
    some ((x5 : GC), 0)
def vvz (x1 : GC) (x18 : GE) (x0 : Bool) : Option (GC × Int) :=
  if x0 = true then
    chk (-9223372036854775808 ≤ (x1.Peers.length : Int) - 1 ∧ (x1.Peers.length : Int) - 1 < 9223372036854775808) <|
    (v1sz x18.N 0 ((x1.Peers.length : Int) - 1)).bind fun x2 =>
    if (!x2) = true then
      some ((x1 : GC), 6)
    else
      (idx x1.Peers x18.N).bind fun x3 =>
      if (x3.Up == (decide (x18.Kind = 6))) = true then
        some ((x1 : GC), 15)
      else
        if x18.Kind = 1 then
          (v16z (x1 : GC) x18.N).bind fun x4 =>
          some ((x4 : GC), 0)
        else
          if x18.Kind = 5 then
            some ((⟨(setI x1.Peers x18.N (⟨false, x3.Term, x3.Vote, 0, 0, x3.Log, [], [], []⟩ : GP)), x1.Net, x1.Chosen, x1.Conflict⟩ : GC), 0)
          else
            if x18.Kind = 6 then
              some ((⟨(setI x1.Peers x18.N (⟨true, x3.Term, x3.Vote, x3.Commit, x3.Role, x3.Log, x3.Votes, x3.Next, x3.Match⟩ : GP)), x1.Net, x1.Chosen, x1.Conflict⟩ : GC), 0)
            else
              if x18.Kind = 7 then
                if x3.Role = 2 then
                  if (1000 : Int) < (x18.Data.length : Int) then
                    vwz x1 x3 x18 true
                  else
                    vwz x1 x3 x18 (decide ((100 : Int) ≤ (x3.Log.length : Int)))
                else
                  some ((x1 : GC), 15)
              else
                some ((x1 : GC), 0)
  else
    some ((x1 : GC), 3)
def vuz (x1 : GC) (x18 : GE) (x0 : Bool) : Option (GC × Int) :=
  if x0 = true then
    chk (-9223372036854775808 ≤ (x1.Net.length : Int) - 1 ∧ (x1.Net.length : Int) - 1 < 9223372036854775808) <|
    (v1sz x18.N 0 ((x1.Net.length : Int) - 1)).bind fun x2 =>
    if (!x2) = true then
      some ((x1 : GC), 6)
    else
      (idx x1.Net x18.N).bind fun x3 =>
      if x18.Kind = 4 then
        (vyz (x1 : GC) (x3 : GM)).bind fun x4 =>
        some ((x4 : GC), 0)
      else
        chk (-9223372036854775808 ≤ x18.N + 1 ∧ x18.N + 1 < 9223372036854775808) <|
        (v29z x1.Net x18.N (x18.N + 1)).bind fun xs0 =>
        if x18.Kind = 2 then
          (v7z (⟨x1.Peers, xs0, x1.Chosen, x1.Conflict⟩ : GC) (x3 : GM)).bind fun x5 =>
          some ((x5 : GC), 0)
        else
          some ((⟨x1.Peers, xs0, x1.Chosen, x1.Conflict⟩ : GC), 0)
  else
    if x18.Kind = 1 then
      vvz x1 x18 (decide (x18.Kind = 1))
    else
      if x18.Kind = 5 then
        vvz x1 x18 (decide (x18.Kind = 5))
      else
        if x18.Kind = 6 then
          vvz x1 x18 (decide (x18.Kind = 6))
        else
          vvz x1 x18 (decide (x18.Kind = 7))
def vtz (x1 : GC) (x18 : GE) : Option (GC × Int) :=
  if x18.Kind = 2 then
    vuz x1 x18 (decide (x18.Kind = 2))
  else
    if x18.Kind = 3 then
      vuz x1 x18 (decide (x18.Kind = 3))
    else
      vuz x1 x18 (decide (x18.Kind = 4))
def v25z (xs1 : List Bool) : Option (List Bool) := chk ((xs1.length : Int) ≤ 68719476736) (some xs1)
def v28z (xs1 : List Int) : Option (List Int) := chk ((xs1.length : Int) ≤ 68719476736) (some xs1)
def v1dz (x1 : GC) (xs0 : (List GP)) (x56 : ((List GR))) : Nat → Int → (List GM) → Option (GC)
  | 0, _, _ => none
  | k + 1, x0, xs1 =>
    if x0 < (x1.Net.length : Int) then
      (idx x1.Net x0).bind fun x2 =>
      (v0z (x2 : GM)).bind fun x3 =>
      chk ((xs1.length : Int) + ([(x3 : GM)] : List GM).length ≤ 68719476736) <|
      chk (-9223372036854775808 ≤ x0 + 1 ∧ x0 + 1 < 9223372036854775808) <|
      (v1dz x1 xs0 x56 k) (x0 + 1) (xs1 ++ ([(x3 : GM)] : List GM))
    else
      some (⟨xs0, xs1, x56, x1.Conflict⟩ : GC)
def v1cz (x1 : GC) (x56 : ((List GR))) : Nat → Int → (List GP) → Option (GC)
  | 0, _, _ => none
  | k + 1, x0, xs0 =>
    if x0 < (x1.Peers.length : Int) then
      (idx x1.Peers x0).bind fun x2 =>
      (v1iz x2.Log).bind fun x3 =>
      (v25z x2.Votes).bind fun x4 =>
      (v28z x2.Next).bind fun x5 =>
      (v28z x2.Match).bind fun x6 =>
      chk ((xs0.length : Int) + ([(⟨x2.Up, x2.Term, x2.Vote, x2.Commit, x2.Role, x3, x4, x5, x6⟩ : GP)] : List GP).length ≤ 68719476736) <|
      chk (-9223372036854775808 ≤ x0 + 1 ∧ x0 + 1 < 9223372036854775808) <|
      (v1cz x1 x56 k) (x0 + 1) (xs0 ++ ([(⟨x2.Up, x2.Term, x2.Vote, x2.Commit, x2.Role, x3, x4, x5, x6⟩ : GP)] : List GP))
    else
      v1dz x1 xs0 x56 BIG 0 ([])
def v1bz (x1 : GC) : Option (GC) :=
  (v1iz x1.Chosen).bind fun x56 =>
  v1cz x1 x56 BIG 0 ([])
def v6z (xs2 : (List GE)) : Nat → (List Int) → Int → (List GP) → (List GM) → (List GR) → Bool → Option (GC × (List Int) × Int)
  | 0, _, _, _, _, _, _ => none
  | k + 1, xs0, x0, xs1, xs3, xs4, x1 =>
    if x0 < (xs2.length : Int) then
      (idx xs2 x0).bind fun x2 =>
      (vtz (⟨xs1, xs3, xs4, x1⟩ : GC) (x2 : GE)).bind fun x3 =>
      chk ((xs0.length : Int) + ([x3.2] : List Int).length ≤ 68719476736) <|
      chk (-9223372036854775808 ≤ x0 + 1 ∧ x0 + 1 < 9223372036854775808) <|
      (v6z xs2 k) (xs0 ++ ([x3.2] : List Int)) (x0 + 1) x3.1.Peers x3.1.Net x3.1.Chosen x3.1.Conflict
    else
      (v1bz (⟨xs1, xs3, xs4, x1⟩ : GC)).bind fun x4 =>
      some ((x4 : GC), xs0, 0)
def v5z (x1 : Int) (xs2 : (List GE)) : Option (GC × (List Int) × Int) :=
  (v1mz (xs2.length : Int)).bind fun x14 =>
  (v1sz x1 1 7).bind fun x23 =>
  (v1rz x23 5).bind fun x32 =>
  (v1rz (decide ((xs2.length : Int) ≤ 300)) 7).bind fun x41 =>
  (v1kz ([x14, x32, x41] : List Int)).bind fun x66 =>
  if x66 = 0 then
    (v1oz x1).bind fun x88 =>
    v6z xs2 BIG ([] : List Int) 0 x88.Peers x88.Net x88.Chosen x88.Conflict
  else
    some ((⟨[], [], [], false⟩ : GC), [], x66)
def v3fz (x1 : Int) : Nat → Int → (List GP) → Option (GL)
  | 0, _, _ => none
  | k + 1, x0, xs0 =>
    if x0 < x1 then
      chk ((xs0.length : Int) + ([(⟨true, 0, 0, 0, 0, [], [], [], []⟩ : GP)] : List GP).length ≤ 68719476736) <|
      chk (-9223372036854775808 ≤ x0 + 1 ∧ x0 + 1 < 9223372036854775808) <|
      (v3fz x1 k) (x0 + 1) (xs0 ++ [(⟨true, 0, 0, 0, 0, [], [], [], []⟩ : GP)])
    else
      some ({ c := (⟨xs0, [], [], false⟩ : GC) } : GL)
def v3ez (x1 : Int) : Option (GL) :=
  v3fz x1 BIG 0 ([])
def v4rz (x1 : GL) (x18 : Int) : Option (GL × GM) :=
  (idx x1.c.Net x18).bind fun x40 =>
  (slc x1.c.Net 0 x18).bind fun xs0 =>
  chk ((([] : List GM).length : Int) + xs0.length ≤ 68719476736) <|
  chk (-9223372036854775808 ≤ x18 + 1 ∧ x18 + 1 < 9223372036854775808) <|
  (slc x1.c.Net (x18 + 1) x1.c.Net.length).bind fun xs1 =>
  chk (((([] : List GM) ++ xs0).length : Int) + xs1.length ≤ 68719476736) <|
  some (({ c := (⟨x1.c.Peers, ((([] : List GM) ++ xs0) ++ xs1), x1.c.Chosen, x1.c.Conflict⟩ : GC) } : GL), (x40 : GM))
def v4cz (x18 : Int) (x1 : GL) (xs64 : (List GP)) : Option (GL) :=
  (idx xs64 x18).bind fun x79 =>
  some ({ c := (⟨(setI xs64 x18 (⟨x79.Up, x79.Term, x79.Vote, x79.Commit, 0, x79.Log, [], [], []⟩ : GP)), x1.c.Net, x1.c.Chosen, x1.c.Conflict⟩ : GC) } : GL)
def v4bz (x1 : GL) (x18 : Int) (x19 : Int) : Option (GL) :=
  (idx x1.c.Peers x18).bind fun x30 =>
  if x30.Term < x19 then
    v4cz x18 x1 (setI x1.c.Peers x18 (⟨x30.Up, x19, 0, x30.Commit, x30.Role, x30.Log, x30.Votes, x30.Next, x30.Match⟩ : GP))
  else
    v4cz x18 x1 x1.c.Peers
def v3hz (x1 : GP) : Option (Int × Int) :=
  if (x1.Log.length : Int) = 0 then
    some (0, 0)
  else
    chk (-9223372036854775808 ≤ (x1.Log.length : Int) - 1 ∧ (x1.Log.length : Int) - 1 < 9223372036854775808) <|
    (idx x1.Log ((x1.Log.length : Int) - 1)).bind fun x28 =>
    some ((x1.Log.length : Int), x28.Term)
def v4qz (x1 : GL) (x18 : GM) : Option (GL) :=
  if (x1.c.Net.length : Int) < 200 then
    chk ((([] : List GM).length : Int) + x1.c.Net.length ≤ 68719476736) <|
    chk (((([] : List GM) ++ x1.c.Net).length : Int) + ([(x18 : GM)] : List GM).length ≤ 68719476736) <|
    some ({ c := (⟨x1.c.Peers, ((([] : List GM) ++ x1.c.Net) ++ ([(x18 : GM)] : List GM)), x1.c.Chosen, x1.c.Conflict⟩ : GC) } : GL)
  else
    some ({ c := (x1.c : GC) } : GL)
def v2mz (x1 : Int) (x8 : Bool) : Option (Int) :=
  if x8 = true then
    some 0
  else
    chk ((0 : Int) ≤ x1 ∧ x1 < 9223372036854775808 ∧ (0 : Int) < 2) <|
    chk (-9223372036854775808 ≤ (x1 / 2) + 1 ∧ (x1 / 2) + 1 < 9223372036854775808) <|
    some ((x1 / 2) + 1)
def v2lz (x1 : Int) : Option (Int) :=
  if x1 < 1 then
    v2mz x1 true
  else
    v2mz x1 (decide ((7 : Int) < x1))
def v3gz (x1 : GR) : Option (GR) :=
  chk ((([] : List UInt8).length : Int) + x1.Data.length ≤ 68719476736) <|
  some (⟨x1.Term, x1.Index, (([] : List UInt8) ++ x1.Data)⟩ : GR)
def v4xz (x1 : GR) (x5 : GR) : Option (Bool) :=
  if x1.Term = x5.Term then
    if x1.Index = x5.Index then
      some (decide (lst x1.Data = lst x5.Data))
    else
      some false
  else
    some false
def v3wz (x0 : Int) (rc0 : Int → (List GR) → Bool → Option (GL)) (xs0 : (List GR)) (x1 : Bool) : Option (GL) :=
  chk (-9223372036854775808 ≤ x0 + 1 ∧ x0 + 1 < 9223372036854775808) <|
  rc0 (x0 + 1) xs0 x1
def v3xz (x0 : Int) (x29 : GP) (rc0 : Int → (List GR) → Bool → Option (GL)) (x1 : Bool) (xs0 : (List GR)) : Option (GL) :=
  (idx xs0 x0).bind fun x2 =>
  (idx x29.Log x0).bind fun x3 =>
  (v4xz (x2 : GR) (x3 : GR)).bind fun x4 =>
  if (!x4) = true then
    v3wz x0 rc0 xs0 true
  else
    v3wz x0 rc0 xs0 x1
def v3yz (x29 : GP) (x1 : GL) : Nat → Int → (List GR) → Bool → Option (GL)
  | 0, _, _, _ => none
  | k + 1, x0, xs0, x2 =>
    if x0 < x29.Commit then
      if x0 = (xs0.length : Int) then
        (idx x29.Log x0).bind fun x3 =>
        (v3gz (x3 : GR)).bind fun x4 =>
        chk ((xs0.length : Int) + ([(x4 : GR)] : List GR).length ≤ 68719476736) <|
        v3xz x0 x29 (v3yz x29 x1 k) x2 (xs0 ++ ([(x4 : GR)] : List GR))
      else
        v3xz x0 x29 (v3yz x29 x1 k) x2 xs0
    else
      some ({ c := (⟨x1.c.Peers, x1.c.Net, xs0, x2⟩ : GC) } : GL)
def v3vz (x1 : GL) (x18 : Int) : Option (GL) :=
  (idx x1.c.Peers x18).bind fun x29 =>
  v3yz x29 x1 BIG 0 x1.c.Chosen x1.c.Conflict
def v40z (x1 : GL) (x18 : Int) (xs0 : (List GP)) : Option (GL) :=
  (v3vz ({ c := (⟨xs0, x1.c.Net, x1.c.Chosen, x1.c.Conflict⟩ : GC) } : GL) x18).bind fun x0 =>
  some ({ c := (x0.c : GC) } : GL)
def v41z (x0 : Int) (rc2 : Int → Int → Option (GL)) (x1 : Int) : Option (GL) :=
  chk (-9223372036854775808 ≤ x0 + 1 ∧ x0 + 1 < 9223372036854775808) <|
  rc2 x1 (x0 + 1)
def v42z (x1 : GL) (x18 : Int) (x29 : GP) (x0 : Int) (rc1 : Int → Option (GL)) (x2 : Bool) : Option (GL) :=
  if x2 = true then
    v40z x1 x18 (setI x1.c.Peers x18 (⟨x29.Up, x29.Term, x29.Vote, x0, x29.Role, x29.Log, x29.Votes, x29.Next, x29.Match⟩ : GP))
  else
    chk (-9223372036854775808 ≤ x0 - 1 ∧ x0 - 1 < 9223372036854775808) <|
    rc1 (x0 - 1)
def v44z (x29 : GP) (x0 : Int) (x1 : GL) (x18 : Int) (rc1 : Int → Option (GL)) : Nat → Int → Int → Option (GL)
  | 0, _, _ => none
  | k + 1, x2, x3 =>
    if x3 < (x29.Match.length : Int) then
      (idx x29.Match x3).bind fun x4 =>
      if x0 ≤ x4 then
        chk (-9223372036854775808 ≤ x2 + 1 ∧ x2 + 1 < 9223372036854775808) <|
        v41z x3 (v44z x29 x0 x1 x18 rc1 k) (x2 + 1)
      else
        v41z x3 (v44z x29 x0 x1 x18 rc1 k) x2
    else
      (v2lz (x1.c.Peers.length : Int)).bind fun x5 =>
      if x5 ≤ x2 then
        chk (-9223372036854775808 ≤ x0 - 1 ∧ x0 - 1 < 9223372036854775808) <|
        (idx x29.Log (x0 - 1)).bind fun x6 =>
        v42z x1 x18 x29 x0 rc1 (decide (x6.Term = x29.Term))
      else
        v42z x1 x18 x29 x0 rc1 false
def v43z (x29 : GP) (x1 : GL) (x18 : Int) : Nat → Int → Option (GL)
  | 0, _ => none
  | k + 1, x0 =>
    if x29.Commit < x0 then
      v44z x29 x0 x1 x18 (v43z x29 x1 x18 k) BIG 0 0
    else
      v40z x1 x18 x1.c.Peers
def v3zz (x1 : GL) (x18 : Int) : Option (GL) :=
  (idx x1.c.Peers x18).bind fun x29 =>
  v43z x29 x1 x18 BIG (x29.Log.length : Int)
def v4yz (x1 : GP) (x14 : Int) : Option (Int) :=
  if x14 = 0 then
    some 0
  else
    chk (-9223372036854775808 ≤ x14 - 1 ∧ x14 - 1 < 9223372036854775808) <|
    (idx x1.Log (x14 - 1)).bind fun x29 =>
    some x29.Term
def v3oz (x30 : GP) (x77 : Int) (x1 : GL) (x18 : Int) (x19 : Int) : Nat → (List GR) → Int → Option (GL)
  | 0, _, _ => none
  | k + 1, xs0, x0 =>
    if x0 ≤ (x30.Log.length : Int) then
      chk (-9223372036854775808 ≤ x0 - 1 ∧ x0 - 1 < 9223372036854775808) <|
      (idx x30.Log (x0 - 1)).bind fun x2 =>
      (v3gz (x2 : GR)).bind fun x3 =>
      chk ((xs0.length : Int) + ([(x3 : GR)] : List GR).length ≤ 68719476736) <|
      chk (-9223372036854775808 ≤ x0 + 1 ∧ x0 + 1 < 9223372036854775808) <|
      (v3oz x30 x77 x1 x18 x19 k) (xs0 ++ ([(x3 : GR)] : List GR)) (x0 + 1)
    else
      chk (-9223372036854775808 ≤ x77 - 1 ∧ x77 - 1 < 9223372036854775808) <|
      chk (-9223372036854775808 ≤ x77 - 1 ∧ x77 - 1 < 9223372036854775808) <|
      (v4yz (x30 : GP) (x77 - 1)).bind fun x4 =>
      (v4qz ({ c := (x1.c : GC) } : GL) (⟨3, x18, x19, x30.Term, (x77 - 1), x4, x30.Commit, false, xs0⟩ : GM)).bind fun x5 =>
      some ({ c := (x5.c : GC) } : GL)
def v3nz (x1 : GL) (x18 : Int) (x19 : Int) : Option (GL) :=
  (idx x1.c.Peers x18).bind fun x30 =>
  (idx x30.Next x19).bind fun x77 =>
  v3oz x30 x77 x1 x18 x19 BIG ([] : List GR) x77
def v4ez (x0 : Int) (rc0 : Int → Int → Option (GL)) (x1 : Int) : Option (GL) :=
  chk (-9223372036854775808 ≤ x0 + 1 ∧ x0 + 1 < 9223372036854775808) <|
  rc0 x1 (x0 + 1)
def v4gz (x0 : Int) (rc4 : Int → (List GP) → (List GM) → (List GR) → Bool → Option (GL)) (xs0 : (List GP)) (xs1 : (List GM)) (xs2 : (List GR)) (x1 : Bool) : Option (GL) :=
  chk (-9223372036854775808 ≤ x0 + 1 ∧ x0 + 1 < 9223372036854775808) <|
  rc4 (x0 + 1) xs0 xs1 xs2 x1
def v4jz (x1 : GL) (x18 : Int) : Nat → Int → (List GP) → (List GM) → (List GR) → Bool → Option (GL)
  | 0, _, _, _, _, _ => none
  | k + 1, x0, xs0, xs1, xs2, x2 =>
    if x0 < (x1.c.Peers.length : Int) then
      if x0 = x18 then
        v4gz x0 (v4jz x1 x18 k) xs0 xs1 xs2 x2
      else
        (v3nz ({ c := (⟨xs0, xs1, xs2, x2⟩ : GC) } : GL) x18 x0).bind fun x3 =>
        v4gz x0 (v4jz x1 x18 k) x3.c.Peers x3.c.Net x3.c.Chosen x3.c.Conflict
    else
      some ({ c := (⟨xs0, xs1, xs2, x2⟩ : GC) } : GL)
def v4iz (x1 : GL) (x18 : Int) : Nat → Int → (List GP) → Option (GL)
  | 0, _, _ => none
  | k + 1, x0, xs0 =>
    if x0 < (x1.c.Peers.length : Int) then
      (idx xs0 x18).bind fun x2 =>
      chk (-9223372036854775808 ≤ (x2.Log.length : Int) + 1 ∧ (x2.Log.length : Int) + 1 < 9223372036854775808) <|
      chk ((x2.Next.length : Int) + ([((x2.Log.length : Int) + 1)] : List Int).length ≤ 68719476736) <|
      chk ((x2.Match.length : Int) + ([0] : List Int).length ≤ 68719476736) <|
      chk (-9223372036854775808 ≤ x0 + 1 ∧ x0 + 1 < 9223372036854775808) <|
      (v4iz x1 x18 k) (x0 + 1) (setI xs0 x18 (⟨x2.Up, x2.Term, x2.Vote, x2.Commit, x2.Role, x2.Log, x2.Votes, (x2.Next ++ ([((x2.Log.length : Int) + 1)] : List Int)), (x2.Match ++ ([0] : List Int))⟩ : GP))
    else
      (idx xs0 x18).bind fun x3 =>
      (idx x3.Match x18).bind fun x4 =>
      (v3zz ({ c := (⟨(setI xs0 x18 (⟨x3.Up, x3.Term, x3.Vote, x3.Commit, x3.Role, x3.Log, x3.Votes, x3.Next, (setI x3.Match x18 (x3.Log.length : Int))⟩ : GP)), x1.c.Net, x1.c.Chosen, x1.c.Conflict⟩ : GC) } : GL) x18).bind fun x5 =>
      v4jz x1 x18 BIG 0 x5.c.Peers x5.c.Net x5.c.Chosen x5.c.Conflict
def v4fz (x1 : GL) (x18 : Int) (x29 : GP) (x0 : Bool) : Option (GL) :=
  if x0 = true then
    some ({ c := (x1.c : GC) } : GL)
  else
    v4iz x1 x18 BIG 0 (setI x1.c.Peers x18 (⟨x29.Up, x29.Term, x29.Vote, x29.Commit, 2, x29.Log, [], [], []⟩ : GP))
def v4hz (x29 : GP) (x1 : GL) (x18 : Int) : Nat → Int → Int → Option (GL)
  | 0, _, _ => none
  | k + 1, x0, x2 =>
    if x2 < (x29.Votes.length : Int) then
      (idx x29.Votes x2).bind fun x3 =>
      if x3 = true then
        chk (-9223372036854775808 ≤ x0 + 1 ∧ x0 + 1 < 9223372036854775808) <|
        v4ez x2 (v4hz x29 x1 x18 k) (x0 + 1)
      else
        v4ez x2 (v4hz x29 x1 x18 k) x0
    else
      if x29.Role = 1 then
        (v2lz (x1.c.Peers.length : Int)).bind fun x4 =>
        v4fz x1 x18 x29 (decide (x0 < x4))
      else
        v4fz x1 x18 x29 true
def v4dz (x1 : GL) (x18 : Int) : Option (GL) :=
  (idx x1.c.Peers x18).bind fun x29 =>
  v4hz x29 x1 x18 BIG 0 0
def v3rz (x0 : Int) (rc1 : (List GR) → Int → Option (GL)) (xs0 : (List GR)) : Option (GL) :=
  chk (-9223372036854775808 ≤ x0 + 1 ∧ x0 + 1 < 9223372036854775808) <|
  rc1 xs0 (x0 + 1)
def v3tz (x18 : GM) (x0 : Int) (rc1 : (List GR) → Int → Option (GL)) (xs0 : (List GR)) : Option (GL) :=
  if (x18.A + x0) = (xs0.length : Int) then
    (idx x18.Log x0).bind fun x1 =>
    (v3gz (x1 : GR)).bind fun x2 =>
    chk ((xs0.length : Int) + ([(x2 : GR)] : List GR).length ≤ 68719476736) <|
    v3rz x0 rc1 (xs0 ++ ([(x2 : GR)] : List GR))
  else
    v3rz x0 rc1 xs0
def v3sz (xs0 : (List GR)) (x18 : GM) (x0 : Int) (rc1 : (List GR) → Int → Option (GL)) (x1 : Bool) : Option (GL) :=
  if x1 = true then
    (slc xs0 0 (x18.A + x0)).bind fun xs1 =>
    v3tz x18 x0 rc1 xs1
  else
    v3tz x18 x0 rc1 xs0
def v3uz (x18 : GM) (x0 : (GL)) (x1 : GP) (x44 : GP) : Nat → (List GR) → Int → Option (GL)
  | 0, _, _ => none
  | k + 1, xs0, x2 =>
    if x2 < (x18.Log.length : Int) then
      chk (-9223372036854775808 ≤ x18.A + x2 ∧ x18.A + x2 < 9223372036854775808) <|
      if (x18.A + x2) < (xs0.length : Int) then
        (idx xs0 (x18.A + x2)).bind fun x3 =>
        (idx x18.Log x2).bind fun x4 =>
        v3sz xs0 x18 x2 (v3uz x18 x0 x1 x44 k) (!decide (x3.Term = x4.Term))
      else
        v3sz xs0 x18 x2 (v3uz x18 x0 x1 x44 k) false
    else
      chk (-9223372036854775808 ≤ x18.A + (x18.Log.length : Int) ∧ x18.A + (x18.Log.length : Int) < 9223372036854775808) <|
      (v3vz ({ c := (⟨(setI x0.c.Peers x18.To (⟨x1.Up, x1.Term, x1.Vote, (if (if (x18.A + (x18.Log.length : Int)) < x18.C then (x18.A + (x18.Log.length : Int)) else x18.C) > x1.Commit then (if (x18.A + (x18.Log.length : Int)) < x18.C then (x18.A + (x18.Log.length : Int)) else x18.C) else x1.Commit), x1.Role, xs0, x1.Votes, x1.Next, x1.Match⟩ : GP)), x0.c.Net, x0.c.Chosen, x0.c.Conflict⟩ : GC) } : GL) x18.To).bind fun x5 =>
      (v4qz ({ c := (x5.c : GC) } : GL) (⟨4, x18.To, x18.From, x44.Term, (x18.A + (x18.Log.length : Int)), 0, 0, true, []⟩ : GM)).bind fun x6 =>
      some ({ c := (x6.c : GC) } : GL)
def v3qz (x18 : GM) (x0 : (GL)) (x44 : GP) (x1 : Bool) : Option (GL) :=
  if x1 = true then
    chk (-9223372036854775808 ≤ x18.A - 1 ∧ x18.A - 1 < 9223372036854775808) <|
    (idx x0.c.Peers x18.To).bind fun x2 =>
    (v4qz ({ c := (x0.c : GC) } : GL) (⟨4, x18.To, x18.From, x44.Term, (if (x2.Log.length : Int) < (x18.A - 1) then (x2.Log.length : Int) else (x18.A - 1)), 0, 0, false, []⟩ : GM)).bind fun x3 =>
    some ({ c := (x3.c : GC) } : GL)
  else
    (idx x0.c.Peers x18.To).bind fun x4 =>
    chk ((([] : List GR).length : Int) + x4.Log.length ≤ 68719476736) <|
    v3uz x18 x0 x4 x44 BIG (([] : List GR) ++ x4.Log) 0
def v3pz (x1 : GL) (x18 : GM) : Option (GL) :=
  (idx x1.c.Peers x18.To).bind fun x44 =>
  if x18.Term < x44.Term then
    (v4qz ({ c := (x1.c : GC) } : GL) (⟨4, x18.To, x18.From, x44.Term, 0, 0, 0, false, []⟩ : GM)).bind fun x0 =>
    some ({ c := (x0.c : GC) } : GL)
  else
    (v4bz ({ c := (x1.c : GC) } : GL) x18.To x18.Term).bind fun x2 =>
    (idx x2.c.Peers x18.To).bind fun x3 =>
    if (x3.Log.length : Int) < x18.A then
      v3qz x18 x2 x44 true
    else
      (v4yz (x3 : GP) x18.A).bind fun x4 =>
      v3qz x18 x2 x44 (!decide (x4 = x18.B))
def v48z (x18 : GM) (xs0 : (List GM)) (xs1 : (List GR)) (x0 : Bool) (x1 : Bool) (xs2 : (List GP)) : Option (GL) :=
  (idx xs2 x18.To).bind fun x2 =>
  (v4qz ({ c := (⟨xs2, xs0, xs1, x0⟩ : GC) } : GL) (⟨2, x18.To, x18.From, x2.Term, 0, 0, 0, x1, []⟩ : GM)).bind fun x3 =>
  some ({ c := (x3.c : GC) } : GL)
def v47z (x18 : GM) (xs0 : (List GM)) (xs1 : (List GR)) (x0 : Bool) (xs2 : (List GP)) (x1 : GP) (x2 : Bool) : Option (GL) :=
  if x2 = true then
    chk (-9223372036854775808 ≤ x18.From + 1 ∧ x18.From + 1 < 9223372036854775808) <|
    v48z x18 xs0 xs1 x0 x2 (setI xs2 x18.To (⟨x1.Up, x1.Term, (x18.From + 1), x1.Commit, x1.Role, x1.Log, x1.Votes, x1.Next, x1.Match⟩ : GP))
  else
    v48z x18 xs0 xs1 x0 x2 xs2
def v49z (xs0 : (List GP)) (x18 : GM) (xs1 : (List GM)) (xs2 : (List GR)) (x0 : Bool) (x1 : Bool) : Option (GL) :=
  if x1 = true then
    (idx xs0 x18.To).bind fun x2 =>
    (idx x2.Votes x18.From).bind fun x3 =>
    (v4dz ({ c := (⟨(setI xs0 x18.To (⟨x2.Up, x2.Term, x2.Vote, x2.Commit, x2.Role, x2.Log, (setI x2.Votes x18.From true), x2.Next, x2.Match⟩ : GP)), xs1, xs2, x0⟩ : GC) } : GL) x18.To).bind fun x4 =>
    some ({ c := (x4.c : GC) } : GL)
  else
    some ({ c := (⟨xs0, xs1, xs2, x0⟩ : GC) } : GL)
def v4az (xs0 : (List GP)) (xs1 : (List GM)) (xs2 : (List GR)) (x0 : Bool) (x18 : GM) (x1 : Bool) : Option (GL) :=
  if x1 = true then
    some ({ c := (⟨xs0, xs1, xs2, x0⟩ : GC) } : GL)
  else
    if x18.Ok = true then
      (idx xs0 x18.To).bind fun x2 =>
      (idx x2.Match x18.From).bind fun x3 =>
      (idx x2.Match x18.From).bind fun x4 =>
      (idx x2.Next x18.From).bind fun x5 =>
      chk (-9223372036854775808 ≤ x18.A + 1 ∧ x18.A + 1 < 9223372036854775808) <|
      (idx x2.Next x18.From).bind fun x6 =>
      (v3zz ({ c := (⟨(setI xs0 x18.To (⟨x2.Up, x2.Term, x2.Vote, x2.Commit, x2.Role, x2.Log, x2.Votes, (setI x2.Next x18.From (if (x18.A + 1) > x5 then (x18.A + 1) else x5)), (setI x2.Match x18.From (if x18.A > x3 then x18.A else x3))⟩ : GP)), xs1, xs2, x0⟩ : GC) } : GL) x18.To).bind fun x7 =>
      some ({ c := (x7.c : GC) } : GL)
    else
      chk (-9223372036854775808 ≤ x18.A + 1 ∧ x18.A + 1 < 9223372036854775808) <|
      (idx xs0 x18.To).bind fun x8 =>
      (idx x8.Next x18.From).bind fun x9 =>
      if (x18.A + 1) < x9 then
        (idx x8.Match x18.From).bind fun x10 =>
        chk (-9223372036854775808 ≤ x10 + 1 ∧ x10 + 1 < 9223372036854775808) <|
        chk (-9223372036854775808 ≤ x18.A + 1 ∧ x18.A + 1 < 9223372036854775808) <|
        (idx x8.Next x18.From).bind fun x11 =>
        (v3nz ({ c := (⟨(setI xs0 x18.To (⟨x8.Up, x8.Term, x8.Vote, x8.Commit, x8.Role, x8.Log, x8.Votes, (setI x8.Next x18.From (if (x18.A + 1) > (x10 + 1) then (x18.A + 1) else (x10 + 1))), x8.Match⟩ : GP)), xs1, xs2, x0⟩ : GC) } : GL) x18.To x18.From).bind fun x12 =>
        some ({ c := (x12.c : GC) } : GL)
      else
        some ({ c := (⟨xs0, xs1, xs2, x0⟩ : GC) } : GL)
def v46z (x18 : GM) (xs0 : (List GP)) (xs1 : (List GM)) (xs2 : (List GR)) (x0 : Bool) : Option (GL) :=
  if x18.Kind = 1 then
    (idx xs0 x18.To).bind fun x1 =>
    (v3hz (x1 : GP)).bind fun x2 =>
    if x18.Term = x1.Term then
      if x1.Vote = 0 then
        if x2.2 < x18.B then
          v47z x18 xs1 xs2 x0 xs0 x1 true
        else
          if x18.B = x2.2 then
            v47z x18 xs1 xs2 x0 xs0 x1 (decide (x2.1 ≤ x18.A))
          else
            v47z x18 xs1 xs2 x0 xs0 x1 false
      else
        chk (-9223372036854775808 ≤ x18.From + 1 ∧ x18.From + 1 < 9223372036854775808) <|
        if x1.Vote = (x18.From + 1) then
          if x2.2 < x18.B then
            v47z x18 xs1 xs2 x0 xs0 x1 true
          else
            if x18.B = x2.2 then
              v47z x18 xs1 xs2 x0 xs0 x1 (decide (x2.1 ≤ x18.A))
            else
              v47z x18 xs1 xs2 x0 xs0 x1 false
        else
          v47z x18 xs1 xs2 x0 xs0 x1 false
    else
      v47z x18 xs1 xs2 x0 xs0 x1 false
  else
    if x18.Kind = 2 then
      (idx xs0 x18.To).bind fun x3 =>
      if x18.Term = x3.Term then
        if x3.Role = 1 then
          v49z xs0 x18 xs1 xs2 x0 x18.Ok
        else
          v49z xs0 x18 xs1 xs2 x0 false
      else
        v49z xs0 x18 xs1 xs2 x0 false
    else
      if x18.Kind = 3 then
        (v3pz ({ c := (⟨xs0, xs1, xs2, x0⟩ : GC) } : GL) (x18 : GM)).bind fun x4 =>
        some ({ c := (x4.c : GC) } : GL)
      else
        if x18.Kind = 4 then
          (idx xs0 x18.To).bind fun x5 =>
          if x18.Term = x5.Term then
            v4az xs0 xs1 xs2 x0 x18 (!decide (x5.Role = 2))
          else
            v4az xs0 xs1 xs2 x0 x18 true
        else
          some ({ c := (⟨xs0, xs1, xs2, x0⟩ : GC) } : GL)
def v45z (x1 : GL) (x18 : GM) : Option (GL) :=
  (idx x1.c.Peers x18.To).bind fun x44 =>
  if (!x44.Up) = true then
    some ({ c := (x1.c : GC) } : GL)
  else
    if x44.Term < x18.Term then
      (v4bz ({ c := (x1.c : GC) } : GL) x18.To x18.Term).bind fun x0 =>
      v46z x18 x0.c.Peers x0.c.Net x0.c.Chosen x0.c.Conflict
    else
      v46z x18 x1.c.Peers x1.c.Net x1.c.Chosen x1.c.Conflict
def v4tz (x0 : Int) (rc0 : Int → (List GP) → (List GM) → (List GR) → Bool → Option (GL)) (xs0 : (List GP)) (xs1 : (List GM)) (xs2 : (List GR)) (x1 : Bool) : Option (GL) :=
  chk (-9223372036854775808 ≤ x0 + 1 ∧ x0 + 1 < 9223372036854775808) <|
  rc0 (x0 + 1) xs0 xs1 xs2 x1
def v4vz (x1 : GL) (x18 : Int) : Nat → Int → (List GP) → (List GM) → (List GR) → Bool → Option (GL)
  | 0, _, _, _, _, _ => none
  | k + 1, x0, xs0, xs1, xs2, x2 =>
    if x0 < (x1.c.Peers.length : Int) then
      if x0 = x18 then
        v4tz x0 (v4vz x1 x18 k) xs0 xs1 xs2 x2
      else
        (v3nz ({ c := (⟨xs0, xs1, xs2, x2⟩ : GC) } : GL) x18 x0).bind fun x3 =>
        v4tz x0 (v4vz x1 x18 k) x3.c.Peers x3.c.Net x3.c.Chosen x3.c.Conflict
    else
      some ({ c := (⟨xs0, xs1, xs2, x2⟩ : GC) } : GL)
def v4uz (x0 : Int) (rc2 : Int → (List GP) → (List GM) → (List GR) → Bool → Option (GL)) (xs0 : (List GP)) (xs1 : (List GM)) (xs2 : (List GR)) (x1 : Bool) : Option (GL) :=
  chk (-9223372036854775808 ≤ x0 + 1 ∧ x0 + 1 < 9223372036854775808) <|
  rc2 (x0 + 1) xs0 xs1 xs2 x1
def v4wz (x1 : GL) (x18 : Int) (x0 : (Int × Int)) : Nat → Int → (List GP) → (List GM) → (List GR) → Bool → Option (GL)
  | 0, _, _, _, _, _ => none
  | k + 1, x2, xs0, xs1, xs2, x3 =>
    if x2 < (x1.c.Peers.length : Int) then
      if x2 = x18 then
        v4uz x2 (v4wz x1 x18 x0 k) xs0 xs1 xs2 x3
      else
        (idx xs0 x18).bind fun x4 =>
        (v4qz ({ c := (⟨xs0, xs1, xs2, x3⟩ : GC) } : GL) (⟨1, x18, x2, x4.Term, x0.1, x0.2, 0, false, []⟩ : GM)).bind fun x5 =>
        v4uz x2 (v4wz x1 x18 x0 k) x5.c.Peers x5.c.Net x5.c.Chosen x5.c.Conflict
    else
      (v4dz ({ c := (⟨xs0, xs1, xs2, x3⟩ : GC) } : GL) x18).bind fun x6 =>
      some ({ c := (x6.c : GC) } : GL)
def v4sz (x1 : GL) (x18 : Int) : Option (GL) :=
  (idx x1.c.Peers x18).bind fun x29 =>
  if x29.Role = 2 then
    v4vz x1 x18 BIG 0 x1.c.Peers x1.c.Net x1.c.Chosen x1.c.Conflict
  else
    if x29.Term = 1000000 then
      some ({ c := (x1.c : GC) } : GL)
    else
      chk (-9223372036854775808 ≤ x29.Term + 1 ∧ x29.Term + 1 < 9223372036854775808) <|
      chk (-9223372036854775808 ≤ x18 + 1 ∧ x18 + 1 < 9223372036854775808) <|
      chk ((0 : Int) ≤ (x1.c.Peers.length : Int) ∧ (x1.c.Peers.length : Int) ≤ 68719476736) <|
      (idx (List.replicate (x1.c.Peers.length : Int).toNat (false : Bool)) x18).bind fun x0 =>
      (v3hz (⟨x29.Up, (x29.Term + 1), (x18 + 1), x29.Commit, 1, x29.Log, (setI (List.replicate (x1.c.Peers.length : Int).toNat (false : Bool)) x18 true), x29.Next, x29.Match⟩ : GP)).bind fun x2 =>
      v4wz x1 x18 x2 BIG 0 (setI x1.c.Peers x18 (⟨x29.Up, (x29.Term + 1), (x18 + 1), x29.Commit, 1, x29.Log, (setI (List.replicate (x1.c.Peers.length : Int).toNat (false : Bool)) x18 true), x29.Next, x29.Match⟩ : GP)) x1.c.Net x1.c.Chosen x1.c.Conflict
def v4mz (x1 : GL) (x18 : GE) (x0 : Bool) : Option (GL × Int) :=
  if x0 = true then
    some (({ c := (x1.c : GC) } : GL), 6)
  else
    if x18.Kind = 2 then
      (v4rz ({ c := (x1.c : GC) } : GL) x18.N).bind fun x2 =>
      (v45z ({ c := (x2.1.c : GC) } : GL) (x2.2 : GM)).bind fun x3 =>
      some (({ c := (x3.c : GC) } : GL), 0)
    else
      if x18.Kind = 3 then
        (v4rz ({ c := (x1.c : GC) } : GL) x18.N).bind fun x4 =>
        some (({ c := (x4.1.c : GC) } : GL), 0)
      else
        (idx x1.c.Net x18.N).bind fun x5 =>
        (v4qz ({ c := (x1.c : GC) } : GL) (x5 : GM)).bind fun x6 =>
        some (({ c := (x6.c : GC) } : GL), 0)
def v4pz (x1 : GL) (x0 : GP) (x18 : GE) (x2 : Bool) : Option (GL × Int) :=
  if x2 = true then
    some (({ c := (x1.c : GC) } : GL), 14)
  else
    chk ((([] : List GR).length : Int) + x0.Log.length ≤ 68719476736) <|
    chk (-9223372036854775808 ≤ (x0.Log.length : Int) + 1 ∧ (x0.Log.length : Int) + 1 < 9223372036854775808) <|
    chk ((([] : List UInt8).length : Int) + x18.Data.length ≤ 68719476736) <|
    chk (((([] : List GR) ++ x0.Log).length : Int) + ([(⟨x0.Term, ((x0.Log.length : Int) + 1), (([] : List UInt8) ++ x18.Data)⟩ : GR)] : List GR).length ≤ 68719476736) <|
    (idx x0.Match x18.N).bind fun x3 =>
    (v3zz ({ c := (⟨(setI x1.c.Peers x18.N (⟨x0.Up, x0.Term, x0.Vote, x0.Commit, x0.Role, ((([] : List GR) ++ x0.Log) ++ ([(⟨x0.Term, ((x0.Log.length : Int) + 1), (([] : List UInt8) ++ x18.Data)⟩ : GR)] : List GR)), x0.Votes, x0.Next, (setI x0.Match x18.N (((([] : List GR) ++ x0.Log) ++ ([(⟨x0.Term, ((x0.Log.length : Int) + 1), (([] : List UInt8) ++ x18.Data)⟩ : GR)] : List GR)).length : Int))⟩ : GP)), x1.c.Net, x1.c.Chosen, x1.c.Conflict⟩ : GC) } : GL) x18.N).bind fun x4 =>
    some (({ c := (x4.c : GC) } : GL), 0)
def v4oz (x1 : GL) (x18 : GE) (x0 : Bool) : Option (GL × Int) :=
  if x0 = true then
    some (({ c := (x1.c : GC) } : GL), 6)
  else
    (idx x1.c.Peers x18.N).bind fun x2 =>
    if (x2.Up == (decide (x18.Kind = 6))) = true then
      some (({ c := (x1.c : GC) } : GL), 15)
    else
      if x18.Kind = 1 then
        (v4sz ({ c := (x1.c : GC) } : GL) x18.N).bind fun x3 =>
        some (({ c := (x3.c : GC) } : GL), 0)
      else
        if x18.Kind = 5 then
          some (({ c := (⟨(setI x1.c.Peers x18.N (⟨false, x2.Term, x2.Vote, 0, 0, x2.Log, [], [], []⟩ : GP)), x1.c.Net, x1.c.Chosen, x1.c.Conflict⟩ : GC) } : GL), 0)
        else
          if x18.Kind = 6 then
            some (({ c := (⟨(setI x1.c.Peers x18.N (⟨true, x2.Term, x2.Vote, x2.Commit, x2.Role, x2.Log, x2.Votes, x2.Next, x2.Match⟩ : GP)), x1.c.Net, x1.c.Chosen, x1.c.Conflict⟩ : GC) } : GL), 0)
          else
            if x18.Kind = 7 then
              if x2.Role = 2 then
                if (1000 : Int) < (x18.Data.length : Int) then
                  v4pz x1 x2 x18 true
                else
                  v4pz x1 x2 x18 (decide ((x2.Log.length : Int) = 100))
              else
                some (({ c := (x1.c : GC) } : GL), 15)
            else
              some (({ c := (x1.c : GC) } : GL), 0)
def v4nz (x18 : GE) (x1 : GL) (x0 : Bool) : Option (GL × Int) :=
  if x0 = true then
    if x18.N < 0 then
      v4oz x1 x18 true
    else
      v4oz x1 x18 (decide ((x1.c.Peers.length : Int) ≤ x18.N))
  else
    some (({ c := (x1.c : GC) } : GL), 3)
def v4lz (x18 : GE) (x1 : GL) (x0 : Bool) : Option (GL × Int) :=
  if x0 = true then
    if x18.N < 0 then
      v4mz x1 x18 true
    else
      v4mz x1 x18 (decide ((x1.c.Net.length : Int) ≤ x18.N))
  else
    if x18.Kind = 1 then
      v4nz x18 x1 (decide (x18.Kind = 1))
    else
      if x18.Kind = 5 then
        v4nz x18 x1 (decide (x18.Kind = 5))
      else
        if x18.Kind = 6 then
          v4nz x18 x1 (decide (x18.Kind = 6))
        else
          v4nz x18 x1 (decide (x18.Kind = 7))
def v4kz (x1 : GL) (x18 : GE) : Option (GL × Int) :=
  if x18.Kind = 2 then
    v4lz x18 x1 (decide (x18.Kind = 2))
  else
    if x18.Kind = 3 then
      v4lz x18 x1 (decide (x18.Kind = 3))
    else
      v4lz x18 x1 (decide (x18.Kind = 4))
def v3jz (xs1 : (List GR)) : Nat → (List GR) → Int → Option ((List GR))
  | 0, _, _ => none
  | k + 1, xs0, x0 =>
    if x0 < (xs1.length : Int) then
      (idx xs1 x0).bind fun x1 =>
      (v3gz (x1 : GR)).bind fun x2 =>
      chk ((xs0.length : Int) + ([(x2 : GR)] : List GR).length ≤ 68719476736) <|
      chk (-9223372036854775808 ≤ x0 + 1 ∧ x0 + 1 < 9223372036854775808) <|
      (v3jz xs1 k) (xs0 ++ ([(x2 : GR)] : List GR)) (x0 + 1)
    else
      some xs0
def v3iz (xs1 : (List GR)) : Option ((List GR)) :=
  v3jz xs1 BIG ([] : List GR) 0
def v3mz (x1 : GC) (xs0 : (List GP)) (x29 : ((List GR))) : Nat → Int → (List GM) → Option (GC)
  | 0, _, _ => none
  | k + 1, x0, xs1 =>
    if x0 < (x1.Net.length : Int) then
      (idx x1.Net x0).bind fun x2 =>
      (v3iz x2.Log).bind fun x3 =>
      chk ((xs1.length : Int) + ([(⟨x2.Kind, x2.From, x2.To, x2.Term, x2.A, x2.B, x2.C, x2.Ok, x3⟩ : GM)] : List GM).length ≤ 68719476736) <|
      chk (-9223372036854775808 ≤ x0 + 1 ∧ x0 + 1 < 9223372036854775808) <|
      (v3mz x1 xs0 x29 k) (x0 + 1) (xs1 ++ ([(⟨x2.Kind, x2.From, x2.To, x2.Term, x2.A, x2.B, x2.C, x2.Ok, x3⟩ : GM)] : List GM))
    else
      some (⟨xs0, xs1, x29, x1.Conflict⟩ : GC)
def v3lz (x1 : GC) (x29 : ((List GR))) : Nat → Int → (List GP) → Option (GC)
  | 0, _, _ => none
  | k + 1, x0, xs0 =>
    if x0 < (x1.Peers.length : Int) then
      (idx x1.Peers x0).bind fun x2 =>
      (v3iz x2.Log).bind fun x3 =>
      chk ((([] : List Bool).length : Int) + x2.Votes.length ≤ 68719476736) <|
      chk ((([] : List Int).length : Int) + x2.Next.length ≤ 68719476736) <|
      chk ((([] : List Int).length : Int) + x2.Match.length ≤ 68719476736) <|
      chk ((xs0.length : Int) + ([(⟨x2.Up, x2.Term, x2.Vote, x2.Commit, x2.Role, x3, (([] : List Bool) ++ x2.Votes), (([] : List Int) ++ x2.Next), (([] : List Int) ++ x2.Match)⟩ : GP)] : List GP).length ≤ 68719476736) <|
      chk (-9223372036854775808 ≤ x0 + 1 ∧ x0 + 1 < 9223372036854775808) <|
      (v3lz x1 x29 k) (x0 + 1) (xs0 ++ ([(⟨x2.Up, x2.Term, x2.Vote, x2.Commit, x2.Role, x3, (([] : List Bool) ++ x2.Votes), (([] : List Int) ++ x2.Next), (([] : List Int) ++ x2.Match)⟩ : GP)] : List GP))
    else
      v3mz x1 xs0 x29 BIG 0 ([])
def v3kz (x1 : GC) : Option (GC) :=
  (v3iz x1.Chosen).bind fun x29 =>
  v3lz x1 x29 BIG 0 ([])
def v2jz (xs2 : (List GE)) : Nat → (List Int) → Int → (List GP) → (List GM) → (List GR) → Bool → Option (GC × (List Int) × Int)
  | 0, _, _, _, _, _, _ => none
  | k + 1, xs0, x0, xs1, xs3, xs4, x1 =>
    if x0 < (xs2.length : Int) then
      (idx xs2 x0).bind fun x2 =>
      (v4kz ({ c := (⟨xs1, xs3, xs4, x1⟩ : GC) } : GL) (x2 : GE)).bind fun x3 =>
      chk ((xs0.length : Int) + ([x3.2] : List Int).length ≤ 68719476736) <|
      chk (-9223372036854775808 ≤ x0 + 1 ∧ x0 + 1 < 9223372036854775808) <|
      (v2jz xs2 k) (xs0 ++ ([x3.2] : List Int)) (x0 + 1) x3.1.c.Peers x3.1.c.Net x3.1.c.Chosen x3.1.c.Conflict
    else
      (v3kz (⟨xs1, xs3, xs4, x1⟩ : GC)).bind fun x4 =>
      some ((x4 : GC), xs0, 0)
def v2iz (xs2 : (List GE)) (x1 : Int) (x51 : Bool) : Option (GC × (List Int) × Int) :=
  if x51 = true then
    some ((⟨[], [], [], false⟩ : GC), ([] : List Int), 5)
  else
    if (300 : Int) < (xs2.length : Int) then
      some ((⟨[], [], [], false⟩ : GC), ([] : List Int), 7)
    else
      (v3ez x1).bind fun x0 =>
      v2jz xs2 BIG ([] : List Int) 0 x0.c.Peers x0.c.Net x0.c.Chosen x0.c.Conflict
def v2hz (x1 : Int) (xs2 : (List GE)) : Option (GC × (List Int) × Int) :=
  if (4096 : Int) < (xs2.length : Int) then
    some ((⟨[], [], [], false⟩ : GC), ([] : List Int), 2)
  else
    if x1 < 1 then
      v2iz xs2 x1 true
    else
      v2iz xs2 x1 (decide ((7 : Int) < x1))
def v21z (xs1 : (List Int)) (xs5 : (List Int)) : Nat → Int → Option (Bool)
  | 0, _ => none
  | k + 1, x0 =>
    if x0 < (xs1.length : Int) then
      (idx xs1 x0).bind fun x1 =>
      (idx xs5 x0).bind fun x2 =>
      if x1 = x2 then
        chk (-9223372036854775808 ≤ x0 + 1 ∧ x0 + 1 < 9223372036854775808) <|
        (v21z xs1 xs5 k) (x0 + 1)
      else
        some false
    else
      some true
def v20z (xs1 : (List Int)) (xs5 : (List Int)) : Option (Bool) :=
  if (xs1.length : Int) = (xs5.length : Int) then
    v21z xs1 xs5 BIG 0
  else
    some false
def v2cz (xs1 : (List GR)) (xs5 : (List GR)) : Nat → Int → Option (Bool)
  | 0, _ => none
  | k + 1, x0 =>
    if x0 < (xs1.length : Int) then
      (idx xs1 x0).bind fun x1 =>
      (idx xs5 x0).bind fun x2 =>
      (v1qz (x1 : GR) (x2 : GR)).bind fun x3 =>
      if (!x3) = true then
        some false
      else
        chk (-9223372036854775808 ≤ x0 + 1 ∧ x0 + 1 < 9223372036854775808) <|
        (v2cz xs1 xs5 k) (x0 + 1)
    else
      some true
def v2bz (xs1 : (List GR)) (xs5 : (List GR)) : Option (Bool) :=
  if (xs1.length : Int) = (xs5.length : Int) then
    v2cz xs1 xs5 BIG 0
  else
    some false
def v3z (x0 : Int) (rc0 : Int → Option (Bool)) (x1 : Bool) : Option (Bool) :=
  if x1 = true then
    some false
  else
    chk (-9223372036854775808 ≤ x0 + 1 ∧ x0 + 1 < 9223372036854775808) <|
    rc0 (x0 + 1)
def v4z (x1 : GC) : Nat → Int → Option (Bool)
  | 0, _ => none
  | k + 1, x0 =>
    if x0 < (x1.Peers.length : Int) then
      (idx x1.Peers x0).bind fun x2 =>
      (v1sz x2.Commit 0 (if (x1.Chosen.length : Int) < (x2.Log.length : Int) then (x1.Chosen.length : Int) else (x2.Log.length : Int))).bind fun x3 =>
      if (!x3) = true then
        v3z x0 (v4z x1 k) true
      else
        (slc x2.Log 0 x2.Commit).bind fun xs0 =>
        (slc x1.Chosen 0 x2.Commit).bind fun xs1 =>
        (v2bz xs0 xs1).bind fun x4 =>
        v3z x0 (v4z x1 k) (!x4)
    else
      some (!x1.Conflict)
def v2z (x1 : GC) : Option (Bool) :=
  v4z x1 BIG 0
def v23z (x0 : Int) (rc0 : Int → Option (Bool)) (x1 : Bool) : Option (Bool) :=
  if x1 = true then
    some false
  else
    chk (-9223372036854775808 ≤ x0 + 1 ∧ x0 + 1 < 9223372036854775808) <|
    rc0 (x0 + 1)
def v24z (xs1 : (List GR)) (xs5 : (List GR)) : Nat → Int → Option (Bool)
  | 0, _ => none
  | k + 1, x0 =>
    if x0 < (xs1.length : Int) then
      (idx xs1 x0).bind fun x1 =>
      (idx xs5 x0).bind fun x2 =>
      if x1.Term = x2.Term then
        (idx xs1 x0).bind fun x3 =>
        (idx xs5 x0).bind fun x4 =>
        if x3.Index = x4.Index then
          (idx xs1 x0).bind fun x5 =>
          (idx xs5 x0).bind fun x6 =>
          v23z x0 (v24z xs1 xs5 k) (!decide (lst x5.Data = lst x6.Data))
        else
          v23z x0 (v24z xs1 xs5 k) true
      else
        v23z x0 (v24z xs1 xs5 k) true
    else
      some true
def v22z (xs1 : (List GR)) (xs5 : (List GR)) : Option (Bool) :=
  if (xs1.length : Int) = (xs5.length : Int) then
    v24z xs1 xs5 BIG 0
  else
    some false
def v1wz (x0 : Int) (rc2 : Int → Option (Bool)) (x1 : Bool) : Option (Bool) :=
  if x1 = true then
    some false
  else
    chk (-9223372036854775808 ≤ x0 + 1 ∧ x0 + 1 < 9223372036854775808) <|
    rc2 (x0 + 1)
def v1xz (x22 : (Int)) (x53 : (GC × (List Int) × Int)) (x95 : (GC × (List Int) × Int)) : Nat → Int → Option (Bool)
  | 0, _ => none
  | k + 1, x0 =>
    if x0 < x22 then
      (idx x53.1.Peers x0).bind fun x1 =>
      (idx x95.1.Peers x0).bind fun x2 =>
      if x1.Term = x2.Term then
        (idx x95.1.Peers x0).bind fun x3 =>
        if x1.Vote = x3.Vote then
          (idx x95.1.Peers x0).bind fun x4 =>
          if x1.Commit = x4.Commit then
            (idx x95.1.Peers x0).bind fun x5 =>
            (v22z x1.Log x5.Log).bind fun x6 =>
            v1wz x0 (v1xz x22 x53 x95 k) (!x6)
          else
            v1wz x0 (v1xz x22 x53 x95 k) true
        else
          v1wz x0 (v1xz x22 x53 x95 k) true
      else
        v1wz x0 (v1xz x22 x53 x95 k) true
    else
      some true
def v1vz (x22 : (Int)) (x53 : (GC × (List Int) × Int)) (x95 : (GC × (List Int) × Int)) (x0 : Bool) : Option (Bool) :=
  if x0 = true then
    some false
  else
    v1xz x22 x53 x95 BIG 0
def v1uz (xs5 : (List UInt8)) (xs1 : (List UInt8)) (x19 : Bool) : Option (Bool) :=
  if x19 = true then
    some true
  else
    (v1zz xs5).bind fun x22 =>
    (v2kz xs1 x22).bind fun x30 =>
    (v5z x22 x30).bind fun x53 =>
    (v2hz x22 x30).bind fun x95 =>
    if x53.2.2 = 0 then
      (v20z x53.2.1 x95.2.1).bind fun x0 =>
      if (!x0) = true then
        v1vz x22 x53 x95 true
      else
        if x53.1.Conflict = true then
          v1vz x22 x53 x95 true
        else
          (v2z (x53.1 : GC)).bind fun x1 =>
          if (!x1) = true then
            v1vz x22 x53 x95 true
          else
            if (x53.1.Peers.length : Int) = x22 then
              (v22z x53.1.Chosen x95.1.Chosen).bind fun x2 =>
              v1vz x22 x53 x95 (!x2)
            else
              v1vz x22 x53 x95 true
    else
      v1vz x22 x53 x95 true
def v1tz (xs1 : (List UInt8)) (xs5 : (List UInt8)) : Option (Bool) :=
  if (1048576 : Int) < (xs1.length : Int) then
    v1uz xs5 xs1 true
  else
    v1uz xs5 xs1 (decide ((1048576 : Int) < (xs5.length : Int)))
end Go.Proofs.YtlpcdcpcfeaecaaAb
end
section
namespace Go.Proofs.YtlpcdcpcfeaecaaAb
open Go
def Dj (a b : Heap) : Prop := ∀ i, a i = none ∨ b i = none
def nilH : Heap := fun _ => none
def oneH (p : Nat) (o : Ob) : Heap := fun i => if i = p then some o else none
def Heap.or (a b : Heap) : Heap := fun i => match a i with | some o => some o | none => b i
theorem Dj.symm {a b : Heap} (h : Dj a b) : Dj b a := fun i => (h i).symm
theorem Dj.mono {a b a' b' : Heap} (h : Dj a b) (h1 : a'.Le a) (h2 : b'.Le b) : Dj a' b' := fun i => (h i).imp h1.none h2.none
theorem Dj.nil {a : Heap} : Dj nilH a := fun _ => .inl rfl
theorem Heap.nil_le {a : Heap} : nilH.Le a := fun i o h => by cases h
theorem oneH_same {p : Nat} {o : Ob} : oneH p o p = some o := by simp [oneH]
theorem oneH_le {p : Nat} {o : Ob} {h : Heap} (e : h p = some o) : (oneH p o).Le h := fun i x hx => by
  unfold oneH at hx; split at hx
  · rename_i e'; subst e'; cases hx; exact e
  · cases hx
theorem Dj.one {p : Nat} {o : Ob} {h : Heap} : Dj (oneH p o) h ↔ h p = none := by
  constructor
  · intro d; rcases d p with h1 | h1
    · rw [oneH_same] at h1; cases h1
    · exact h1
  · intro e i; unfold oneH; split
    · rename_i e'; subst e'; exact .inr e
    · exact .inl rfl
theorem Heap.le_orl {a b : Heap} : a.Le (a.or b) := fun i o h => by simp [Heap.or, h]
theorem Heap.le_orr {a b : Heap} (d : Dj a b) : b.Le (a.or b) := fun i o h => by
  rcases d i with h1 | h1
  · simp [Heap.or, h1, h]
  · rw [h1] at h; cases h
theorem Heap.or_le {a b h : Heap} (h1 : a.Le h) (h2 : b.Le h) : (a.or b).Le h := fun i o e => by
  unfold Heap.or at e; split at e
  · rename_i x hx; cases e; exact h1 _ _ hx
  · exact h2 _ _ e
theorem Heap.or_none {a b : Heap} {i : Nat} : a.or b i = none ↔ a i = none ∧ b i = none := by
  unfold Heap.or; split
  · rename_i x hx; simp [hx]
  · rename_i hx; simp [hx]
theorem Dj.or {a b c : Heap} (h1 : Dj a c) (h2 : Dj b c) : Dj (a.or b) c := fun i => by
  rcases h1 i with e | e
  · rcases h2 i with e2 | e2
    · exact .inl (Heap.or_none.2 ⟨e, e2⟩)
    · exact .inr e2
  · exact .inr e
theorem Dj.orr {a b c : Heap} (h1 : Dj c a) (h2 : Dj c b) : Dj c (a.or b) := (Dj.or h1.symm h2.symm).symm
structure Item where
  P : Heap → Heap → Prop
  mono : ∀ {F F' h : Heap}, F.Le F' → P F h → P F' h
  up : ∀ {F h h' : Heap}, h.Le h' → P F h → P F h'
def Sat (F : Heap) : List Item → Heap → Prop
  | [], _ => True
  | i :: r, h => ∃ a b, Dj a b ∧ a.Le h ∧ b.Le h ∧ i.P F a ∧ Sat F r b
theorem Sat.mono {F F' : Heap} (hle : F.Le F') : ∀ {A : List Item} {h : Heap}, Sat F A h → Sat F' A h
  | [], _, _ => trivial
  | i :: r, h, ⟨a, b, d, h1, h2, hi, hr⟩ => ⟨a, b, d, h1, h2, i.mono hle hi, Sat.mono hle hr⟩
theorem Sat.up {F : Heap} : ∀ {A : List Item} {h h' : Heap}, h.Le h' → Sat F A h → Sat F A h'
  | [], _, _, _, _ => trivial
  | i :: r, h, h', hle, ⟨a, b, d, h1, h2, hi, hr⟩ => ⟨a, b, d, h1.trans hle, h2.trans hle, hi, hr⟩
structure Wf (lo n : Nat) (F : Heap) (A : List Item) (H : Heap) : Prop where
  low : lo ≤ n
  hb : ∀ i, n ≤ i → H i = none
  fh : F.Le H
  sat : ∃ h, h.Le H ∧ Dj F h ∧ (∀ i, i < lo → h i = none) ∧ Sat F A h
abbrev HT (A : List Item) (B : Nat → Nat → Heap → Heap → Prop) : Prop := ∀ lo n H F, Wf lo n F A H → B lo n H F
abbrev TPost := Ex → Fr → List Item → Prop
def Fin (lo : Nat) (F : Heap) (Q : TPost) : Post := fun e fr n H => ∃ F' A, F.Le F' ∧ Wf lo n F' A H ∧ Q e fr A
theorem Fin.le {lo : Nat} {F F' : Heap} {Q : TPost} {e : Ex} {fr : Fr} {n : Nat} {H : Heap} (hle : F.Le F') (h : Fin lo F' Q e fr n H) : Fin lo F Q e fr n H :=
  let ⟨G, A, h1, h2, h3⟩ := h; ⟨G, A, hle.trans h1, h2, h3⟩
theorem Fin.imp {lo : Nat} {F : Heap} {Q Q' : TPost} {e : Ex} {fr : Fr} {n : Nat} {H : Heap} (hq : ∀ A, Q e fr A → Q' e fr A) (h : Fin lo F Q e fr n H) : Fin lo F Q' e fr n H :=
  let ⟨G, A, h1, h2, h3⟩ := h; ⟨G, A, h1, h2, hq _ h3⟩
abbrev T (P : Program) (Δ : Prims) (c : Code) (fr : Fr) (A : List Item) (Q : TPost) : Prop := HT A (fun lo n H F => W P Δ lo c fr n H (Fin lo F Q))
abbrev TL (P : Program) (Δ : Prims) (fl : List Bool) (all : Array Oper) (l : List Oper) (fr : Fr) (A : List Item) (Q : TPost) : Prop := HT A (fun lo n H F => WL P Δ lo fl all l fr n H (Fin lo F Q))
def thn (K : Fr → List Item → Prop) (Q : TPost) : TPost
  | .norm, fr, A => K fr A
  | e, fr, A => Q e fr A
def blk (id : Nat) (Q : TPost) : TPost := fun e fr A => Q (e.out id) fr A
section
variable {P : Program} {Δ : Prims} {fr : Fr} {A : List Item} {Q : TPost}
theorem T.m {K : Fr → List Item → Prop} (h : K fr A) : thn K Q .norm fr A := h
theorem T.thenRet {K : Fr → List Item → Prop} (h : Q .ret fr A) : thn K Q .ret fr A := h
theorem T.tE {K : Fr → List Item → Prop} {id : Nat} (h : Q (.ex id) fr A) : thn K Q (.ex id) fr A := h
theorem T.bN {id : Nat} (h : Q .norm fr A) : blk id Q .norm fr A := h
theorem T.blkRet {id : Nat} (h : Q .ret fr A) : blk id Q .ret fr A := h
theorem T.bH {id : Nat} (h : Q .norm fr A) : blk id Q (.ex id) fr A := by simp only [blk, Ex.out, if_true]; exact h
theorem T.blkOut {id id' : Nat} (hne : id' ≠ id) (h : Q (.ex id') fr A) : blk id Q (.ex id') fr A := by simp only [blk, Ex.out, hne, if_false]; exact h
theorem Fin.mk0 {lo n : Nat} {F H : Heap} {e : Ex} (w : Wf lo n F A H) (h : Q e fr A) : Fin lo F Q e fr n H := ⟨F, A, .refl _, w, h⟩
theorem T.k (h : Q .norm fr A) : T P Δ .skip fr A Q := fun lo n H F w => W.skip (Fin.mk0 w h)
theorem T.ret (h : Q .ret fr A) : T P Δ .ret fr A Q := fun lo n H F w => W.ret (Fin.mk0 w h)
theorem T.exit {id : Nat} (h : Q (.ex id) fr A) : T P Δ (.exit id) fr A Q := fun lo n H F w => W.exit (Fin.mk0 w h)
theorem T.nil {fl : List Bool} {all : Array Oper} (h : Q .norm fr A) : TL P Δ fl all [] fr A Q := fun lo n H F w => WL.nil (Fin.mk0 w h)
theorem T.q {a b : Code} (h : T P Δ a fr A (thn (fun fr1 A1 => T P Δ b fr1 A1 Q) Q)) : T P Δ (.seq a b) fr A Q := fun lo n H F w =>
  W.seq (W.mono (h lo n H F w) fun e fr' n' H' q => by
    obtain ⟨G, A1, h1, h2, h3⟩ := q
    cases e with
    | norm => exact W.mono (h3 lo n' H' G h2) fun _ _ _ _ q => Fin.le h1 q
    | ret => exact ⟨G, A1, h1, h2, h3⟩
    | ex id => exact ⟨G, A1, h1, h2, h3⟩
    | pan v => exact ⟨G, A1, h1, h2, h3⟩)
theorem T.cond {c : Operand} {a b : Code} {t : Bool} (hc : fr.eval c = some (.bool t)) (ha : t = true → T P Δ a fr A Q) (hb : t = false → T P Δ b fr A Q) : T P Δ (.cond c a b) fr A Q := fun lo n H F w =>
  W.cond hc (fun e => ha e lo n H F w) (fun e => hb e lo n H F w)
theorem T.cD {c : Operand} {a b : Code} {p : Prop} [Decidable p] (hc : fr.eval c = some (.bool (decide p))) (ha : p → T P Δ a fr A Q) (hb : ¬ p → T P Δ b fr A Q) : T P Δ (.cond c a b) fr A Q := fun lo n H F w =>
  W.condD hc (fun e => ha e lo n H F w) (fun e => hb e lo n H F w)
theorem T.condN {c : Operand} {a b : Code} {p : Prop} [Decidable p] (hc : fr.eval c = some (.bool (!decide p))) (ha : ¬ p → T P Δ a fr A Q) (hb : p → T P Δ b fr A Q) : T P Δ (.cond c a b) fr A Q := fun lo n H F w =>
  W.condN hc (fun e => ha e lo n H F w) (fun e => hb e lo n H F w)
theorem T.b {id : Nat} {c : Code} (h : T P Δ c fr A (blk id Q)) : T P Δ (.block id c) fr A Q := fun lo n H F w =>
  W.block (W.mono (h lo n H F w) fun e fr' n' H' q => q)
theorem T.weak {c : Code} {fr2 : Fr} (hle : Fr.le fr2 fr) (h : T P Δ c fr2 A Q) : T P Δ c fr A Q := fun lo n H F w => W.weak hle (h lo n H F w)
theorem T.mono {c : Code} {Q' : TPost} (h : T P Δ c fr A Q') (hq : ∀ e fr A, Q' e fr A → Q e fr A) : T P Δ c fr A Q := fun lo n H F w =>
  W.mono (h lo n H F w) fun e fr' n' H' q => Fin.imp (hq e fr') q
theorem T.r {id : Nat} {l : List Oper} (h : TL P Δ [] l.toArray l fr A Q) : T P Δ (.region id l.toArray false) fr A Q := fun lo n H F w => W.region (h lo n H F w)
theorem T.rD {id : Nat} {l : List Oper} (r : List Nat) (fl : List Bool) (hlen : fl.length = l.length) (hrl : r.length = l.length) (hchk : regOK l.toArray r (fun k => fl.getD k true) = true) (hcalm : calmB l.toArray r (fun k => fl.getD k true) = true)
    {pl : List Oper} (hpl : r.map (fun i => l.getD i default) = pl) (h : TL P Δ fl l.toArray pl fr A Q) : T P Δ (.region id l.toArray true) fr A Q := fun lo n H F w => W.regionD r fl hlen hrl hchk hcalm hpl (h lo n H F w)
theorem T.loop {c : Code} (I : Nat → Fr → List Item → Prop) (k0 : Nat) {fr0 : Fr} (hle : Fr.le fr0 fr) (h0 : I k0 fr0 A) (hz : ∀ fr A, ¬ I 0 fr A)
    (step : ∀ k fr A, I (k + 1) fr A → T P Δ c fr A (thn (fun fr1 A1 => ∃ fr2, Fr.le fr2 fr1 ∧ I k fr2 A1) Q)) : T P Δ (.loop c) fr A Q := fun lo n H F w => by
  refine W.loopF (fun k fr n H => ∃ F' A', F.Le F' ∧ Wf lo n F' A' H ∧ I k fr A') k0 hle ⟨F, A, .refl _, w, h0⟩ (fun fr n H ⟨_, _, _, _, h⟩ => hz _ _ h) (fun k fr n H ⟨F', A', hF, hw, hI⟩ => ?_)
  refine W.mono (step k fr A' hI lo n H F' hw) fun e fr' n' H' q => ?_
  obtain ⟨G, A1, h1, h2, h3⟩ := q
  cases e with
  | norm => obtain ⟨fr2, h4, h5⟩ := h3; exact ⟨fr2, h4, G, A1, hF.trans h1, h2, h5⟩
  | ret => exact ⟨G, A1, hF.trans h1, h2, h3⟩
  | ex id => exact ⟨G, A1, hF.trans h1, h2, h3⟩
  | pan v => exact ⟨G, A1, hF.trans h1, h2, h3⟩
theorem T.cut {a b : Code} {Q2 : TPost} (I : Fr → List Item → Prop) (hA : T P Δ a fr A (thn (fun fr1 A1 => ∃ fr2, Fr.le fr2 fr1 ∧ I fr2 A1) Q)) (hB : ∀ fr A, I fr A → T P Δ b fr A Q2) : T P Δ a fr A (thn (fun fr1 A1 => T P Δ b fr1 A1 Q2) Q) :=
  T.mono hA fun e fr' A' q => by
    cases e with
    | norm => obtain ⟨fr2, h2, h3⟩ := q; exact T.weak h2 (hB _ _ h3)
    | ret => exact q
    | ex id => exact q
    | pan v => exact q
abbrev Sp (P : Program) (Δ : Prims) (f : FuncId) (args : List Value) (A : List Item) (R : Value → List Item → Prop) : Prop :=
  HT A (fun lo n H F => C P Δ lo f args n H (fun v n' H' => ∃ F' A', F.Le F' ∧ Wf lo n' F' A' H' ∧ R v A'))
def Res (P : Program) (rs : List ResultVar) (fr : Fr) (A : List Item) (vs : List Value) : Prop := ∀ lo n H F, Wf lo n F A H → ResL P H fr rs vs
def fin (P : Program) (rs : List ResultVar) (R : Value → List Item → Prop) : TPost := fun e fr A => (e = .norm ∨ e = .ret) ∧ ∃ vs, Res P rs fr A vs ∧ R (retV vs) A
theorem Sp.mono {f : FuncId} {args : List Value} {R R' : Value → List Item → Prop} (h : Sp P Δ f args A R) (hr : ∀ v A, R v A → R' v A) : Sp P Δ f args A R' := fun lo n H F w =>
  C.mono (h lo n H F w) fun v n' H' ⟨G, A1, h1, h2, h3⟩ => ⟨G, A1, h1, h2, hr _ _ h3⟩
theorem Res.nil : Res P [] fr A [] := fun _ _ _ _ _ => .nil
theorem Res.tmp {t : Nat} {v : Value} {rs : List ResultVar} {vs : List Value} (h : fr.get t = some v) (hs : Res P rs fr A vs) : Res P (.tmp t :: rs) fr A (v :: vs) := fun lo n H F w => .cons (.tmp h) (hs lo n H F w)
end
def Ent (A A' : List Item) : Prop := ∀ F h, Sat F A h → Sat F A' h
theorem Ent.refl (A : List Item) : Ent A A := fun _ _ h => h
theorem Ent.trans {A B C : List Item} (a : Ent A B) (b : Ent B C) : Ent A C := fun F h s => b F h (a F h s)
theorem Ent.wf {A A' : List Item} (h : Ent A A') {lo n : Nat} {F H : Heap} (w : Wf lo n F A H) : Wf lo n F A' H :=
  let ⟨g, h1, h2, h3, h4⟩ := w.sat; ⟨w.low, w.hb, w.fh, g, h1, h2, h3, h _ _ h4⟩
theorem Ent.cons {A A' : List Item} (i : Item) (h : Ent A A') : Ent (i :: A) (i :: A') := fun F g ⟨a, b, d, h1, h2, h3, h4⟩ => ⟨a, b, d, h1, h2, h3, h _ _ h4⟩
theorem HT.ent {A A' : List Item} {B : Nat → Nat → Heap → Heap → Prop} (h : Ent A A') (k : HT A' B) : HT A B := fun lo n H F w => k lo n H F (h.wf w)
inductive Pk : List Item → Item → List Item → Prop
  | z {i : Item} {r : List Item} : Pk (i :: r) i r
  | s {x i : Item} {r r' : List Item} (h : Pk r i r') : Pk (x :: r) i (x :: r')
theorem Sat.swap {F : Heap} {x i : Item} {r : List Item} {h : Heap} (s : Sat F (x :: i :: r) h) : Sat F (i :: x :: r) h := by
  obtain ⟨a, b, d, h1, h2, hx, a2, b2, d2, h3, h4, hi, hr⟩ := s
  have d3 : Dj a a2 := d.mono (.refl _) h3
  have d4 : Dj a b2 := d.mono (.refl _) h4
  exact ⟨a2, a.or b2, Dj.orr d3.symm d2, h3.trans h2, Heap.or_le h1 (h4.trans h2), hi, a, b2, d4, Heap.le_orl, Heap.le_orr d4, hx, hr⟩
theorem Pk.ent {A A' : List Item} {i : Item} (h : Pk A i A') : Ent A (i :: A') := by
  induction h with
  | z => exact Ent.refl _
  | s h ih => exact (Ent.cons _ ih).trans fun _ _ s => s.swap
theorem Pk.back {A A' : List Item} {i : Item} (h : Pk A i A') : Ent (i :: A') A := by
  induction h with
  | z => exact Ent.refl _
  | s h ih => exact Ent.trans (fun _ _ s => s.swap) (Ent.cons _ ih)
theorem Ent.drop {A : List Item} {i : Item} : Ent (i :: A) A := fun F h ⟨a, b, d, h1, h2, h3, h4⟩ => h4.up h2
def Pers (i : Item) : Prop := ∀ F h, i.P F h → i.P F nilH
theorem Ent.dup {A : List Item} {i : Item} (hp : Pers i) : Ent (i :: A) (i :: i :: A) := fun F h ⟨a, b, d, h1, h2, h3, h4⟩ =>
  ⟨nilH, h, .nil, Heap.nil_le, .refl _, hp _ _ h3, a, b, d, h1, h2, h3, h4⟩
theorem Ent.rep {A : List Item} {i j : Item} (h : ∀ F a, i.P F a → j.P F a) : Ent (i :: A) (j :: A) := fun F g ⟨a, b, d, h1, h2, h3, h4⟩ => ⟨a, b, d, h1, h2, h _ _ h3, h4⟩
end Go.Proofs.YtlpcdcpcfeaecaaAb
end
section
namespace Go.Proofs.YtlpcdcpcfeaecaaAb
open Go
structure Rep (α : Type) where
  sz : Nat
  R : Heap → List Value → α → Heap → Prop
  len : ∀ {F : Heap} {cs : List Value} {a : α} {h : Heap}, R F cs a h → cs.length = sz
  one : ∀ {F : Heap} {cs : List Value} {a : α} {h : Heap}, R F cs a h → ∀ v ∈ cs, v.oneCell' = true
  mono : ∀ {F F' : Heap} {cs : List Value} {a : α} {h : Heap}, F.Le F' → R F cs a h → R F' cs a h
  up : ∀ {F : Heap} {cs : List Value} {a : α} {h h' : Heap}, h.Le h' → R F cs a h → R F cs a h'
def rC (α : Type) [Rp α] : Rep α := ⟨Rp.sz α, fun F cs a _ => Rp.R F cs a, fun h => Rp.len h, fun h => Rp.one h, fun hle h => Rp.mono h hle, fun _ h => h⟩
inductive RL {α : Type} (r : Rep α) (F : Heap) : List Value → List α → Heap → Prop
  | nil {h : Heap} : RL r F [] [] h
  | cons {cs cs2 : List Value} {a : α} {asx : List α} {h h1 h2 : Heap} (d : Dj h1 h2) (l1 : h1.Le h) (l2 : h2.Le h) (e : r.R F cs a h1) (t : RL r F cs2 asx h2) : RL r F (cs ++ cs2) (a :: asx) h
section
variable {α : Type} {r : Rep α} {F F' h h' g : Heap} {cs cs2 : List Value} {xs ys : List α}
theorem RL.up (s : RL r F cs xs h) (hle : h.Le h') : RL r F cs xs h' := by
  cases s with
  | nil => exact .nil
  | cons d l1 l2 e t => exact .cons d (l1.trans hle) (l2.trans hle) e t
theorem RL.mono (hle : F.Le F') (s : RL r F cs xs h) : RL r F' cs xs h := by
  induction s with
  | nil => exact .nil
  | cons d l1 l2 e t ih => exact .cons d l1 l2 (r.mono hle e) ih
theorem RL.length (s : RL r F cs xs h) : cs.length = xs.length * r.sz := by
  induction s with
  | nil => simp
  | cons d l1 l2 e t ih => rw [List.length_append, ih, r.len e, List.length_cons, Nat.add_mul, Nat.one_mul, Nat.add_comm]
theorem RL.one (s : RL r F cs xs h) : ∀ v ∈ cs, v.oneCell' = true := by
  induction s with
  | nil => intro v hv; cases hv
  | cons d l1 l2 e t ih => intro v hv; rcases List.mem_append.1 hv with hv | hv; exact r.one e v hv; exact ih v hv
theorem RL.append (s : RL r F cs xs h) : ∀ {h2 h3 : Heap}, RL r F cs2 ys h2 → Dj h h2 → h.Le h3 → h2.Le h3 → RL r F (cs ++ cs2) (xs ++ ys) h3 := by
  induction s with
  | nil => intro h2 h3 s2 d l1 l2; exact s2.up l2
  | @cons cs1 cs3 a asx h g1 g2 d0 m1 m2 e t ih =>
    intro h2 h3 s2 d l1 l2
    rw [List.append_assoc]
    have d1 : Dj g2 h2 := d.mono m2 (.refl _)
    have d2 : Dj g1 h2 := d.mono m1 (.refl _)
    exact .cons (Dj.orr d0 d2) (m1.trans l1) (Heap.or_le (m2.trans l1) l2) e (ih s2 d1 Heap.le_orl (Heap.le_orr d1))
theorem RL.single {a : α} (e : r.R F cs a h) : RL r F cs [a] h := by
  have := RL.cons (h := h) (h1 := h) (h2 := nilH) Dj.nil.symm (.refl _) Heap.nil_le e (RL.nil (r := r) (F := F) (h := nilH))
  simpa using this
theorem RL.split (s : RL r F cs xs h) : ∀ {j : Nat} (hj : j < xs.length), ∃ h1 h2 h3, Dj h1 h2 ∧ Dj h1 h3 ∧ Dj h2 h3 ∧ h1.Le h ∧ h2.Le h ∧ h3.Le h ∧
    RL r F (cs.take (j * r.sz)) (xs.take j) h1 ∧ r.R F ((cs.drop (j * r.sz)).take r.sz) xs[j] h2 ∧ RL r F (cs.drop ((j + 1) * r.sz)) (xs.drop (j + 1)) h3 := by
  induction s with
  | nil => intro j hj; simp at hj
  | @cons cs1 cs3 a asx h g1 g2 d0 m1 m2 e t ih =>
    intro j hj
    cases j with
    | zero =>
      refine ⟨nilH, g1, g2, .nil, .nil, d0, Heap.nil_le, m1, m2, ?_, ?_, ?_⟩
      · simp only [Nat.zero_mul, List.take_zero]; exact .nil
      · simp only [Nat.zero_mul, List.drop_zero, List.getElem_cons_zero]; rw [List.take_left' (r.len e)]; exact e
      · simp only [Nat.zero_add, Nat.one_mul, List.drop_succ_cons, List.drop_zero]; rw [List.drop_left' (r.len e)]; exact t
    | succ j =>
      obtain ⟨h1, h2, h3, d1, d2, d3, l1, l2, l3, s1, s2, s3⟩ := ih (by simpa using hj)
      have e1 : (j + 1) * r.sz = cs1.length + j * r.sz := by rw [r.len e, Nat.succ_mul, Nat.add_comm]
      have e2 : (j + 1 + 1) * r.sz = cs1.length + (j + 1) * r.sz := by rw [r.len e, Nat.succ_mul (j + 1), Nat.add_comm]
      have dd : Dj g1 h1 := d0.mono (.refl _) l1
      refine ⟨g1.or h1, h2, h3, Dj.or (d0.mono (.refl _) l2) d1, Dj.or (d0.mono (.refl _) l3) d2, d3, Heap.or_le m1 (l1.trans m2), l2.trans m2, l3.trans m2, ?_, ?_, ?_⟩
      · rw [e1, List.take_length_add_append, List.take_succ_cons]
        exact .cons dd Heap.le_orl (Heap.le_orr dd) e s1
      · rw [e1, List.drop_length_add_append]; simpa using s2
      · rw [e2, List.drop_length_add_append]; simpa using s3
theorem RL.ofRA [Rp α] (s : RA F cs xs) : RL (rC α) F cs xs h := by
  induction s with
  | nil => exact .nil
  | cons e t ih => exact RL.cons (h1 := nilH) (h2 := h) .nil Heap.nil_le (.refl _) e ih
theorem RL.toRA [Rp α] (s : RL (rC α) F cs xs h) : RA F cs xs := by
  induction s with
  | nil => exact .nil
  | cons d l1 l2 e t ih => exact .cons e ih
end
structure OSc {α : Type} (r : Rep α) (F : Heap) (v : Value) (xs : List α) (h : Heap) (b k cap : Nat) (c : List Value) (g : Heap) : Prop where
  hv : v = .slice (some ⟨b, k, none⟩) xs.length cap
  hb : h b = some (.row r.sz c)
  hk : k ≤ c.length
  hcap : cap = xs.length ∧ cap < UNK ∨ UNK ≤ cap
  hg : g.Le h
  gb : g b = none
  el : RL r F ((c.drop k).take (xs.length * r.sz)) xs g
def OS {α : Type} (r : Rep α) (F : Heap) (v : Value) (xs : List α) (h : Heap) : Prop :=
  xs.length < UNK ∧ ((v = .slice none 0 0 ∧ xs = []) ∨ ∃ b k cap c g, OSc r F v xs h b k cap c g)
section
variable {α : Type} {r : Rep α} {F F' h h' g : Heap} {v : Value} {xs : List α}
theorem OS.mono (hle : F.Le F') (s : OS r F v xs h) : OS r F' v xs h := by
  obtain ⟨h0, h1 | ⟨b, k, cap, c, g, o⟩⟩ := s
  · exact ⟨h0, .inl h1⟩
  · exact ⟨h0, .inr ⟨b, k, cap, c, g, o.hv, o.hb, o.hk, o.hcap, o.hg, o.gb, o.el.mono hle⟩⟩
theorem OS.up (hle : h.Le h') (s : OS r F v xs h) : OS r F v xs h' := by
  obtain ⟨h0, h1 | ⟨b, k, cap, c, g, o⟩⟩ := s
  · exact ⟨h0, .inl h1⟩
  · exact ⟨h0, .inr ⟨b, k, cap, c, g, o.hv, hle _ _ o.hb, o.hk, o.hcap, o.hg.trans hle, o.gb, o.el⟩⟩
theorem OS.form (s : OS r F v xs h) : ∃ a cap, v = .slice a xs.length cap := by
  obtain ⟨h0, ⟨rfl, rfl⟩ | ⟨b, k, cap, c, g, o⟩⟩ := s
  · exact ⟨none, 0, rfl⟩
  · exact ⟨_, cap, o.hv⟩
theorem OS.one1 (s : OS r F v xs h) : v.oneCell' = true := by obtain ⟨a, cap, rfl⟩ := s.form; rfl
theorem OS.nil : OS r F (.slice none 0 0) ([] : List α) h := ⟨by simp [UNK], .inl ⟨rfl, rfl⟩⟩
end
def rS {α : Type} (r : Rep α) : Rep (List α) := ⟨1, fun F cs xs h => ∃ v, cs = [v] ∧ OS r F v xs h, fun ⟨v, e, _⟩ => by rw [e]; rfl, fun ⟨v, e, s⟩ u hu => by
  rw [e] at hu; rcases List.mem_singleton.1 hu with rfl; exact s.one1, fun hle ⟨v, e, s⟩ => ⟨v, e, s.mono hle⟩, fun hle ⟨v, e, s⟩ => ⟨v, e, s.up hle⟩⟩
def box (p : Nat) (c : List Value) : Item := ⟨fun F h => ∃ e, h p = some (.row e c), fun _ h => h, fun hle ⟨e, h⟩ => ⟨e, hle _ _ h⟩⟩
def vl {α : Type} (r : Rep α) (cs : List Value) (x : α) : Item := ⟨fun F h => r.R F cs x h, r.mono, r.up⟩
abbrev ow {α : Type} (r : Rep α) (v : Value) (xs : List α) : Item := vl (rS r) [v] xs
abbrev fz {α : Type} [Rp α] (v : Value) (xs : List α) : Item := vl (rC (List α)) [v] xs
def ob {α : Type} (r : Rep α) (p : Nat) (x : α) : Item := ⟨fun F h => ∃ (e : Nat) (cs : List Value) (g : Heap), h p = some (.row e cs) ∧ g.Le h ∧ g p = none ∧ r.R F cs x g,
  fun hle ⟨e, cs, g, h1, h2, h3, h4⟩ => ⟨e, cs, g, h1, h2, h3, r.mono hle h4⟩, fun {F h h'} hle ⟨e, cs, g, h1, h2, h3, h4⟩ => ⟨e, cs, g, hle _ _ h1, h2.trans hle, h3, h4⟩⟩
def El (sz : Nat) (v : Value) (j : Int) (b e : Nat) : Prop := 0 ≤ j ∧ ∃ k len cap, v = .slice (some ⟨b, k, none⟩) len cap ∧ e = k + j.toNat * sz
structure Focc {α : Type} (r : Rep α) (F : Heap) (v : Value) (xs : List α) (j : Int) (b e : Nat) (cs : List Value) (h : Heap) (k cap : Nat) (c : List Value) (g1 g2 : Heap) : Prop where
  lt : xs.length < UNK
  j0 : 0 ≤ j
  hj : j.toNat < xs.length
  hv : v = .slice (some ⟨b, k, none⟩) xs.length cap
  he : e = k + j.toNat * r.sz
  hb : h b = some (.row r.sz c)
  hk : k + xs.length * r.sz ≤ c.length
  hcap : cap = xs.length ∧ cap < UNK ∨ UNK ≤ cap
  hcs : (c.drop e).take r.sz = cs
  d : Dj g1 g2
  l1 : g1.Le h
  l2 : g2.Le h
  b1 : g1 b = none
  b2 : g2 b = none
  ah : RL r F ((c.drop k).take (j.toNat * r.sz)) (xs.take j.toNat) g1
  be : RL r F ((c.drop (k + (j.toNat + 1) * r.sz)).take ((xs.length - (j.toNat + 1)) * r.sz)) (xs.drop (j.toNat + 1)) g2
def foc {α : Type} (r : Rep α) (v : Value) (xs : List α) (j : Int) (b e : Nat) (cs : List Value) : Item :=
  ⟨fun F h => ∃ k cap c g1 g2, Focc r F v xs j b e cs h k cap c g1 g2,
   fun hle ⟨k, cap, c, g1, g2, o⟩ => ⟨k, cap, c, g1, g2, { o with ah := o.ah.mono hle, be := o.be.mono hle }⟩,
   fun hle ⟨k, cap, c, g1, g2, o⟩ => ⟨k, cap, c, g1, g2, { o with hb := hle _ _ o.hb, l1 := o.l1.trans hle, l2 := o.l2.trans hle }⟩⟩
inductive Mm : List Item → Item → Prop
  | z {i : Item} {r : List Item} : Mm (i :: r) i
  | s {x i : Item} {r : List Item} (h : Mm r i) : Mm (x :: r) i
theorem Mm.get {A : List Item} {i : Item} (m : Mm A i) : ∀ {F h : Heap}, Sat F A h → ∃ a, a.Le h ∧ i.P F a := by
  induction m with
  | z => intro F h ⟨a, b, d, h1, h2, h3, h4⟩; exact ⟨a, h1, h3⟩
  | s m ih => intro F h ⟨a, b, d, h1, h2, h3, h4⟩; obtain ⟨g, l, e⟩ := ih h4; exact ⟨g, l.trans h2, e⟩
inductive Rk : List Item → Item → Item → List Item → Prop
  | z {i j : Item} {r : List Item} : Rk (i :: r) i j (j :: r)
  | s {x i j : Item} {r r' : List Item} (h : Rk r i j r') : Rk (x :: r) i j (x :: r')
theorem Rk.take {A A' : List Item} {i j : Item} (m : Rk A i j A') : ∃ B, Pk A i B ∧ Ent (j :: B) A' := by
  induction m with
  | z => exact ⟨_, .z, .refl _⟩
  | s m ih => obtain ⟨B, h1, h2⟩ := ih; exact ⟨_, .s h1, Ent.trans (fun _ _ s => s.swap) (Ent.cons _ h2)⟩
section
variable {A : List Item} {B : Nat → Nat → Heap → Heap → Prop} {α : Type} {r : Rep α} {p : Nat} {x : α} {cs : List Value}
theorem HT.opn (k : ∀ cs, HT (box p cs :: vl r cs x :: A) B) : HT (ob r p x :: A) B := fun lo n H F w => by
  obtain ⟨h, h1, h2, h3, a, b, d, l1, l2, ⟨e, cs, g, q1, q2, q3, q4⟩, hr⟩ := w.sat
  have d1 : Dj (oneH p (.row e cs)) g := Dj.one.2 q3
  have d2 : Dj (oneH p (.row e cs)) b := d.mono (oneH_le q1) (.refl _)
  have d3 : Dj g b := d.mono q2 (.refl _)
  exact k cs lo n H F ⟨w.low, w.hb, w.fh, h, h1, h2, h3, oneH p (.row e cs), g.or b, Dj.orr d1 d2, (oneH_le q1).trans l1, Heap.or_le (q2.trans l1) l2, ⟨e, oneH_same⟩, g, b, d3, Heap.le_orl, Heap.le_orr d3, q4, hr⟩
end
end Go.Proofs.YtlpcdcpcfeaecaaAb
end
section
namespace Go.Proofs.YtlpcdcpcfeaecaaAb
open Go
class Sg (P : Program) (t : TypeId) : Prop where
  out : ∃ dd, P.underlying t = some dd ∧ isRow dd = false
class SlT (P : Program) (t : TypeId) (sz : outParam Nat) : Prop where
  out : ∃ el i, P.underlying t = some (.slice el) ∧ P.info? el = some i ∧ i.size = sz
class StT (P : Program) (t : TypeId) (sz : outParam Nat) : Prop where
  out : ∃ dd i, P.underlying t = some dd ∧ isRow dd = true ∧ P.info? t = some i ∧ i.size = sz
class SzT (P : Program) (t : TypeId) (sz : outParam Nat) : Prop where
  out : ∃ i, P.info? t = some i ∧ i.size = sz
class FdT (P : Program) (s : TypeId) (j : Nat) (off : outParam Nat) : Prop where
  out : ∃ fs f i, P.underlying s = some (.struct fs) ∧ fs[j]? = some f ∧ P.info? f.type = some i ∧ (i.size == 0) = false ∧ f.offset = off
class FnT (P : Program) (f : FuncId) : Prop where
  out : ∃ fn, P.funcs[f]? = some fn ∧ (fn.name == "runtime.NumGoroutine") = false ∧ fn.body.isNone = false
class Hdr (X : Item) (v : Value) (n : outParam Nat) : Prop where
  out : ∀ {F h : Heap}, X.P F h → (v = .slice none 0 0 ∧ n = 0) ∨ ∃ b k cap, v = .slice (some ⟨b, k, none⟩) n cap
class Rdb {α : Type} [Rp α] (X : Item) (v : Value) (xs : outParam (List α)) : Prop where
  out : ∀ {F h H : Heap}, X.P F h → F.Le H → h.Le H → xs.length < UNK ∧ ∃ cs, SL H (Rp.sz α) v xs.length cs ∧ RA F cs xs
instance hdrOw {α : Type} {r : Rep α} {v : Value} {xs : List α} : Hdr (vl (rS r) [v] xs) v xs.length := ⟨fun {F h} ⟨u, e, s⟩ => by
  obtain rfl : v = u := by simpa using e
  obtain ⟨h0, ⟨rfl, rfl⟩ | ⟨b, k, cap, c, g, o⟩⟩ := s
  · exact .inl ⟨rfl, rfl⟩
  · exact .inr ⟨b, k, cap, o.hv⟩⟩
theorem SR.hdr {α : Type} [Rp α] {F : Heap} {v : Value} {xs : List α} (h : SR F v xs) : (v = .slice Option.none 0 0 ∧ xs.length = 0) ∨ ∃ b k cap, v = .slice (Option.some ⟨b, k, Option.none⟩) xs.length cap := by
  obtain ⟨_, cs, hs, _⟩ := h
  rcases hs with ⟨a, b, c⟩ | ⟨b, k, cap, c, e, _, _, _⟩
  · exact .inl ⟨a, b⟩
  · exact .inr ⟨b, k, cap, e⟩
instance hdrFz {α : Type} [Rp α] {v : Value} {xs : List α} : Hdr (vl (rC (List α)) [v] xs) v xs.length := ⟨fun {F h} ⟨u, e, s⟩ => by
  obtain rfl : v = u := by simpa using e
  exact SR.hdr s⟩
theorem SR.sl {α : Type} [Rp α] {F H : Heap} {v : Value} {xs : List α} (h : SR F v xs) (hle : F.Le H) : xs.length < UNK ∧ ∃ cs, SL H (Rp.sz α) v xs.length cs ∧ RA F cs xs := by
  obtain ⟨h0, cs, h1, h2⟩ := h
  refine ⟨h0, cs, ?_, h2⟩
  rcases h1 with h1 | ⟨b, k, cap, c, e1, e2, e3⟩
  · exact .inl h1
  · exact .inr ⟨b, k, cap, c, e1, hle b _ e2, e3⟩
instance rdbFz {α : Type} [Rp α] {v : Value} {xs : List α} : Rdb (vl (rC (List α)) [v] xs) v xs := ⟨fun {F h H} ⟨u, e, s⟩ hF hh => by
  obtain rfl : v = u := by simpa using e
  exact SR.sl s hF⟩
instance rdbOw {α : Type} [Rp α] {v : Value} {xs : List α} : Rdb (vl (rS (rC α)) [v] xs) v xs := ⟨fun {F h H} ⟨u, e, s⟩ hF hh => by
  obtain rfl : v = u := by simpa using e
  obtain ⟨h0, ⟨rfl, rfl⟩ | ⟨b, k, cap, c, g, o⟩⟩ := s
  · exact ⟨h0, [], .inl ⟨rfl, rfl, rfl⟩, .nil⟩
  · refine ⟨h0, _, .inr ⟨b, k, cap, c, o.hv, hh _ _ o.hb, rfl, o.el.length⟩, o.el.toRA⟩⟩
section
variable {P : Program} {Δ : Prims} {fr : Fr} {A A' : List Item} {Q : TPost} {fl : List Bool} {all : Array Oper} {l : List Oper} {o : Oper} {d : Nat}
theorem IsFl.tl (fl : List Bool) {lo n : Nat} (h : lo ≤ n) : ∃ lw, IsFl fl lo n lw fl.tail ∧ lo ≤ lw ∧ lw ≤ n := by
  match fl with
  | [] => exact ⟨lo, .nil, Nat.le_refl _, h⟩
  | true :: fl => exact ⟨lo, .w, Nat.le_refl _, h⟩
  | false :: fl => exact ⟨n, .r, h, Nat.le_refl _⟩
def wOK : List Bool → Bool
  | [] => true
  | b :: _ => b
theorem IsFl.wr {fl : List Bool} (h : wOK fl = true) {lo n : Nat} : IsFl fl lo n lo fl.tail := by
  match fl with
  | [] => exact .nil
  | true :: fl => exact .w
  | false :: fl => cases h
theorem TL.of {v : Value} (f : ∀ {lo n lw : Nat} {H : Heap} {Q' : Post}, IsFl fl lo n lw fl.tail → WL P Δ lo fl.tail all l ((d, v) :: fr) n H Q' → WL P Δ lo fl all (o :: l) fr n H Q') (k : TL P Δ fl.tail all l ((d, v) :: fr) A Q) : TL P Δ fl all (o :: l) fr A Q := fun lo n H F w =>
  let ⟨lw, hfl, _, _⟩ := IsFl.tl fl w.low; f hfl (k lo n H F w)
theorem TL.mv {x : Operand} {v : Value} (h : (o.op, o.dst, wA all o fr, fr.eval x) = (.move x, some d, some true, some v)) (k : TL P Δ fl.tail all l ((d, v) :: fr) A Q) : TL P Δ fl all (o :: l) fr A Q := by
  simp only [Prod.mk.injEq] at h; exact TL.of (fun f k => WL.move f h.1 h.2.1 h.2.2.1 h.2.2.2 k) k
theorem TL.a {x : Operand} {v : Value} (h : (o.op, o.dst, wA all o fr, fr.eval x) = (.assign x, some d, some true, some v)) (k : TL P Δ fl.tail all l ((d, v) :: fr) A Q) : TL P Δ fl all (o :: l) fr A Q := by
  simp only [Prod.mk.injEq] at h; exact TL.of (fun f k => WL.assign f h.1 h.2.1 h.2.2.1 h.2.2.2 k) k
theorem TL.nc {x : Operand} {a : Addr} (h : (o.op, o.dst, wA all o fr, fr.eval x) = (.nilCheck x, some d, some true, some (.pointer (some a)))) (k : TL P Δ fl.tail all l ((d, .pointer (some a)) :: fr) A Q) : TL P Δ fl all (o :: l) fr A Q := by
  simp only [Prod.mk.injEq] at h; exact TL.of (fun f k => WL.nilCheck f h.1 h.2.1 h.2.2.1 h.2.2.2 k) k
theorem TL.bin {op : BinOp} {t t' : TypeId} {x y : Operand} {k k' : IntKind} {a b : Int} {v : Value} (h : (o.op, o.dst, wA all o fr, fr.eval x, fr.eval y) = (.binOp op t x y t', some d, some true, some (.int k a), some (.int k' b))) (hv : binI op k a k' b = some v) (kk : TL P Δ fl.tail all l ((d, v) :: fr) A Q) : TL P Δ fl all (o :: l) fr A Q := by
  simp only [Prod.mk.injEq] at h; exact TL.of (fun f k => WL.bin f h.1 h.2.1 h.2.2.1 h.2.2.2.1 h.2.2.2.2 hv k) kk
theorem TL.fa {s : TypeId} {x : Operand} {j b k off : Nat} (h : (o.op, o.dst, wA all o fr, fr.eval x) = (.fieldAddr s x j, some d, some true, some (.pointer (some ⟨b, k, none⟩)))) [c : FdT P s j off] (kk : TL P Δ fl.tail all l ((d, .pointer (some ⟨b, k + off, none⟩)) :: fr) A Q) : TL P Δ fl all (o :: l) fr A Q := by
  simp only [Prod.mk.injEq] at h
  obtain ⟨fs, f, i, h1, h2, h3, h4, rfl⟩ := c.out
  exact TL.of (fun g k => WL.fieldAddr g h.1 h.2.1 h.2.2.1 h1 h2 h3 h4 h.2.2.2 k) kk
theorem TL.sk (h : (o.dst, wA all o fr) = (some d, some false)) (k : TL P Δ fl.tail all l ((d, undef) :: fr) A Q) : TL P Δ fl all (o :: l) fr A Q := by
  simp only [Prod.mk.injEq] at h; exact TL.of (fun f k => WL.skip f h.1 h.2 k) k
theorem TL.guardD {j : Nat} {p : Prop} [Decidable p] {want : Bool} {t : Nat} (hg : o.guard = some (j, want)) (hj : (all[j]?).bind (·.dst) = some t) (hv : fr.get t = some (.bool (decide p)))
    (h1 : p → TL P Δ fl all (o :: l) ((t, .bool true) :: fr) A Q) (h0 : ¬ p → TL P Δ fl all (o :: l) ((t, .bool false) :: fr) A Q) : TL P Δ fl all (o :: l) fr A Q := fun lo n H F w =>
  WL.guardD hg hj hv (fun e => h1 e lo n H F w) (fun e => h0 e lo n H F w)
theorem TL.guardN {j : Nat} {p : Prop} [Decidable p] {want : Bool} {t : Nat} (hg : o.guard = some (j, want)) (hj : (all[j]?).bind (·.dst) = some t) (hv : fr.get t = some (.bool (!decide p)))
    (h1 : ¬ p → TL P Δ fl all (o :: l) ((t, .bool true) :: fr) A Q) (h0 : p → TL P Δ fl all (o :: l) ((t, .bool false) :: fr) A Q) : TL P Δ fl all (o :: l) fr A Q := fun lo n H F w =>
  WL.guardN hg hj hv (fun e => h1 e lo n H F w) (fun e => h0 e lo n H F w)
theorem Wf.get {lo n : Nat} {F H : Heap} (w : Wf lo n F A H) {i : Item} (m : Mm A i) : ∃ h, h.Le H ∧ i.P F h := by
  obtain ⟨h, h1, h2, h3, h4⟩ := w.sat
  obtain ⟨a, l, e⟩ := m.get h4
  exact ⟨a, l.trans h1, e⟩
theorem TL.ld {t : TypeId} {x : Operand} {p k : Nat} {c : List Value} {v : Value} (h : (o.op, o.dst, wA all o fr, fr.eval x) = (.load t x, some d, some true, some (.pointer (some ⟨p, k, none⟩)))) [s : Sg P t] (m : Mm A (box p c)) (hc : c[k]? = some v)
    (kk : TL P Δ fl.tail all l ((d, v) :: fr) A Q) : TL P Δ fl all (o :: l) fr A Q := fun lo n H F w => by
  simp only [Prod.mk.injEq] at h
  obtain ⟨lw, hfl, _, _⟩ := IsFl.tl fl w.low
  obtain ⟨dd, h1, h2⟩ := s.out
  obtain ⟨g, l, e, hb⟩ := w.get m
  exact WL.load1 hfl h.1 h.2.1 h.2.2.1 h1 h2 h.2.2.2 (l _ _ hb) hc (kk lo n H F w)
theorem TL.ldN {t : TypeId} {x : Operand} {p k sz : Nat} {c l' : List Value} (h : (o.op, o.dst, wA all o fr, fr.eval x) = (.load t x, some d, some true, some (.pointer (some ⟨p, k, none⟩)))) [s : StT P t sz] (m : Mm A (box p c)) (hc : (c.drop k).take sz = l') (hl : l'.length = sz)
    (kk : TL P Δ fl.tail all l ((d, .agg l'.toArray) :: fr) A Q) : TL P Δ fl all (o :: l) fr A Q := fun lo n H F w => by
  simp only [Prod.mk.injEq] at h
  obtain ⟨lw, hfl, _, _⟩ := IsFl.tl fl w.low
  obtain ⟨dd, i, h1, h2, h3, rfl⟩ := s.out
  obtain ⟨g, l, e, hb⟩ := w.get m
  exact WL.loadN hfl h.1 h.2.1 h.2.2.1 h1 h2 h3 h.2.2.2 (l _ _ hb) hc hl (kk lo n H F w)
theorem TL.len {t : TypeId} {x : Operand} {v : Value} {m sz : Nat} {X : Item} (h : (o.op, o.dst, wA all o fr, fr.eval x) = (.call { callee := .builtin .len, args := #[x], argTypes := #[t] }, some d, some true, some v)) [s : SlT P t sz] (mm : Mm A X) [hd : Hdr X v m]
    (kk : TL P Δ fl.tail all l ((d, .int .i64 m) :: fr) A Q) : TL P Δ fl all (o :: l) fr A Q := fun lo n H F w => by
  simp only [Prod.mk.injEq] at h
  obtain ⟨lw, hfl, _, _⟩ := IsFl.tl fl w.low
  obtain ⟨el, i, h1, _, _⟩ := s.out
  obtain ⟨g, l, hX⟩ := w.get mm
  rcases hd.out hX with ⟨rfl, rfl⟩ | ⟨b, k, cap, rfl⟩
  · exact WL.len hfl h.1 h.2.1 h.2.2.1 h1 h.2.2.2 (kk lo n H F w)
  · exact WL.len hfl h.1 h.2.1 h.2.2.1 h1 h.2.2.2 (kk lo n H F w)
theorem TL.ix {t : TypeId} {x y : Operand} {v : Value} {m sz : Nat} {q : IntKind} {j : Int} {X : Item} (h : (o.op, o.dst, wA all o fr, fr.eval x, fr.eval y) = (.indexAddr t x y, some d, some true, some v, some (.int q j))) [s : SlT P t sz] (mm : Mm A X) [hd : Hdr X v m] (h0 : 0 ≤ j) (hj : j < m)
    (kk : ∀ b e, El sz v j b e → TL P Δ fl.tail all l ((d, .pointer (some ⟨b, e, none⟩)) :: fr) A Q) : TL P Δ fl all (o :: l) fr A Q := fun lo n H F w => by
  simp only [Prod.mk.injEq] at h
  obtain ⟨lw, hfl, _, _⟩ := IsFl.tl fl w.low
  obtain ⟨el, i, h1, h2, rfl⟩ := s.out
  obtain ⟨g, l, hX⟩ := w.get mm
  rcases hd.out hX with ⟨_, rfl⟩ | ⟨b, k, cap, rfl⟩
  · omega
  · exact WL.indexS hfl h.1 h.2.1 h.2.2.1 h1 h2 h.2.2.2.1 h.2.2.2.2 h0 hj (kk b _ ⟨h0, k, m, cap, rfl, rfl⟩ lo n H F w)
theorem TL.ixu {α : Type} {xs : List α} {u : α} {t : TypeId} {x y : Operand} {v : Value} {sz : Nat} {q : IntKind} {j : Int} {X : Item} (h : (o.op, o.dst, wA all o fr, fr.eval x, fr.eval y) = (.indexAddr t x y, some d, some true, some v, some (.int q j))) [s : SlT P t sz] (mm : Mm A X) [hd : Hdr X v xs.length] (hu : idx xs j = some u)
    (kk : ∀ b e, El sz v j b e → TL P Δ fl.tail all l ((d, .pointer (some ⟨b, e, none⟩)) :: fr) A Q) : TL P Δ fl all (o :: l) fr A Q :=
  let ⟨h0, h1, _⟩ := idx_inv hu; TL.ix h mm h0 h1 kk
theorem Rdb.cell {α : Type} [Rp α] {X : Item} {v : Value} {xs : List α} (c : Rdb X v xs) {F h H : Heap} (hX : X.P F h) (hF : F.Le H) (hh : h.Le H) {j : Int} {u : α} {b e : Nat} (he : El (Rp.sz α) v j b e) (hu : idx xs j = some u) :
    ∃ cs cc, H b = some (.row (Rp.sz α) cc) ∧ (cc.drop e).take (Rp.sz α) = cs ∧ Rp.R F cs u := by
  obtain ⟨h0, h1, h2, h3⟩ := idx_inv hu
  obtain ⟨_, cs, hs, hra⟩ := c.out hX hF hh
  obtain ⟨_, k, len, cap, rfl, rfl⟩ := he
  rcases hs with ⟨e1, _, _⟩ | ⟨b2, k2, cap2, cc, e1, hb, hc, hcl⟩
  · cases e1
  · cases e1
    refine ⟨_, cc, hb, rfl, ?_⟩
    have hg := hra.get h2
    rw [h3, ← hc, List.drop_take, List.take_take] at hg
    have e : min (Rp.sz α) (xs.length * Rp.sz α - j.toNat * Rp.sz α) = Rp.sz α := by
      have := Nat.mul_le_mul_right (Rp.sz α) h2
      rw [Nat.succ_mul] at this
      omega
    rw [e, List.drop_drop] at hg
    exact hg
theorem Rp.sc {α : Type} [Sc α] {F : Heap} {cs : List Value} {u : α} (h : Rp.R F cs u) : cs[0]? = some (Sc.val u) := by rw [show cs = [Sc.val u] from h]; rfl
theorem TL.lde {α : Type} [Rp α] {X : Item} {xs : List α} {u : α} {t : TypeId} {x : Operand} {v vv : Value} {b e m : Nat} {j : Int} (h : (o.op, o.dst, wA all o fr, fr.eval x) = (.load t x, some d, some true, some (.pointer (some ⟨b, e + m, none⟩)))) [s : Sg P t] (mm : Mm A X) [c : Rdb X v xs] (he : El (Rp.sz α) v j b e) (hu : idx xs j = some u)
    (hm : m < Rp.sz α) (hf : ∀ {F : Heap} {cs : List Value}, Rp.R F cs u → cs[m]? = some vv) (kk : TL P Δ fl.tail all l ((d, vv) :: fr) A Q) : TL P Δ fl all (o :: l) fr A Q := fun lo n H F w => by
  simp only [Prod.mk.injEq] at h
  obtain ⟨lw, hfl, _, _⟩ := IsFl.tl fl w.low
  obtain ⟨dd, h1, h2⟩ := s.out
  obtain ⟨g, l, hX⟩ := w.get mm
  obtain ⟨cs, cc, hb, hcs, hR⟩ := c.cell hX w.fh l he hu
  exact WL.load1 hfl h.1 h.2.1 h.2.2.1 h1 h2 h.2.2.2 hb ((win_get hcs hm).trans (hf hR)) (kk lo n H F w)
theorem TL.ldE {α : Type} [Rp α] {X : Item} {xs : List α} {u : α} {t : TypeId} {x : Operand} {v : Value} {b e sz : Nat} {j : Int} (h : (o.op, o.dst, wA all o fr, fr.eval x) = (.load t x, some d, some true, some (.pointer (some ⟨b, e, none⟩)))) [s : StT P t sz] (mm : Mm A X) [c : Rdb X v xs] (he : El (Rp.sz α) v j b e) (hu : idx xs j = some u)
    (hm : sz = Rp.sz α) (kk : ∀ cs, TL P Δ fl.tail all l ((d, .agg cs.toArray) :: fr) (vl (rC α) cs u :: A) Q) : TL P Δ fl all (o :: l) fr A Q := fun lo n H F w => by
  simp only [Prod.mk.injEq] at h
  obtain ⟨lw, hfl, _, _⟩ := IsFl.tl fl w.low
  obtain ⟨dd, i, h1, h2, h3, rfl⟩ := s.out
  obtain ⟨g, l, hX⟩ := w.get mm
  obtain ⟨cs, cc, hb, hcs, hR⟩ := c.cell hX w.fh l he hu
  obtain ⟨gg, q1, q2, q3, q4⟩ := w.sat
  exact WL.loadN hfl h.1 h.2.1 h.2.2.1 h1 h2 h3 h.2.2.2 hb (by rw [hm]; exact hcs) (by rw [hm]; exact Rp.len hR) (kk cs lo n H F ⟨w.low, w.hb, w.fh, gg, q1, q2, q3, nilH, gg, .nil, Heap.nil_le, .refl _, hR, q4⟩)
theorem TL.ldf {α : Type} {r : Rep α} {xs : List α} {t : TypeId} {x : Operand} {v vv : Value} {b e m : Nat} {j : Int} {cs : List Value} (h : (o.op, o.dst, wA all o fr, fr.eval x) = (.load t x, some d, some true, some (.pointer (some ⟨b, e + m, none⟩)))) [s : Sg P t] (mm : Mm A (foc r v xs j b e cs)) (hm : m < r.sz) (hc : cs[m]? = some vv)
    (kk : TL P Δ fl.tail all l ((d, vv) :: fr) A Q) : TL P Δ fl all (o :: l) fr A Q := fun lo n H F w => by
  simp only [Prod.mk.injEq] at h
  obtain ⟨lw, hfl, _, _⟩ := IsFl.tl fl w.low
  obtain ⟨dd, h1, h2⟩ := s.out
  obtain ⟨g, l, k, cap, c, g1, g2, f⟩ := w.get mm
  exact WL.load1 hfl h.1 h.2.1 h.2.2.1 h1 h2 h.2.2.2 (l _ _ f.hb) ((win_get f.hcs hm).trans hc) (kk lo n H F w)
theorem TL.ldfN {α : Type} {r : Rep α} {xs : List α} {t : TypeId} {x : Operand} {v : Value} {b e sz : Nat} {j : Int} {cs : List Value} (h : (o.op, o.dst, wA all o fr, fr.eval x) = (.load t x, some d, some true, some (.pointer (some ⟨b, e, none⟩)))) [s : StT P t sz] (mm : Mm A (foc r v xs j b e cs)) (hm : sz = r.sz) (hl : cs.length = sz)
    (kk : TL P Δ fl.tail all l ((d, .agg cs.toArray) :: fr) A Q) : TL P Δ fl all (o :: l) fr A Q := fun lo n H F w => by
  simp only [Prod.mk.injEq] at h
  obtain ⟨lw, hfl, _, _⟩ := IsFl.tl fl w.low
  obtain ⟨dd, i, h1, h2, h3, rfl⟩ := s.out
  obtain ⟨g, l, k, cap, c, g1, g2, f⟩ := w.get mm
  exact WL.loadN hfl h.1 h.2.1 h.2.2.1 h1 h2 h3 h.2.2.2 (l _ _ f.hb) (by rw [hm]; exact f.hcs) hl (kk lo n H F w)
end
end Go.Proofs.YtlpcdcpcfeaecaaAb
end
section
namespace Go.Proofs.YtlpcdcpcfeaecaaAb
open Go
section
variable {P : Program} {Δ : Prims} {fr : Fr} {A A' : List Item} {B : List Item} {Q : TPost} {fl : List Bool} {all : Array Oper} {l : List Oper} {o : Oper} {d : Nat}
structure Part (lo n : Nat) (F : Heap) (i : Item) (B : List Item) (H : Heap) (a b : Heap) : Prop where
  d : Dj a b
  la : a.Le H
  lb : b.Le H
  fa : Dj F a
  fb : Dj F b
  na : ∀ k, k < lo → a k = none
  nb : ∀ k, k < lo → b k = none
  hi : i.P F a
  hr : Sat F B b
theorem Wf.part {lo n : Nat} {F H : Heap} (w : Wf lo n F A H) {i : Item} (pk : Pk A i B) : ∃ a b, Part lo n F i B H a b := by
  obtain ⟨h, h1, h2, h3, h4⟩ := (pk.ent.wf w).sat
  obtain ⟨a, b, d, l1, l2, hi, hr⟩ := h4
  exact ⟨a, b, d, l1.trans h1, l2.trans h1, h2.mono (.refl _) l1, h2.mono (.refl _) l2, fun k hk => l1.none (h3 k hk), fun k hk => l2.none (h3 k hk), hi, hr⟩
theorem Part.wf {lo n : Nat} {F H a b : Heap} {i : Item} (low : lo ≤ n) (hb : ∀ k, n ≤ k → H k = none) (fh : F.Le H) (p : Part lo n F i B H a b) : Wf lo n F (i :: B) H :=
  ⟨low, hb, fh, a.or b, Heap.or_le p.la p.lb, Dj.orr p.fa p.fb, fun k hk => Heap.or_none.2 ⟨p.na k hk, p.nb k hk⟩, a, b, p.d, Heap.le_orl, Heap.le_orr p.d, p.hi, p.hr⟩
theorem Heap.leLt {a H : Heap} (h : a.Le H) {n : Nat} (hb : ∀ k, n ≤ k → H k = none) {k : Nat} {x : Ob} (e : a k = some x) : k < n := by
  rcases Nat.lt_or_ge k n with h1 | h1
  · exact h1
  · have := h _ _ e; rw [hb k h1] at this; cases this
theorem Dj.none {a b : Heap} (d : Dj a b) {k : Nat} {x : Ob} (e : a k = some x) : b k = Option.none := by
  rcases d k with h | h
  · rw [h] at e; cases e
  · exact h
theorem Heap.leSet {a H : Heap} (h : a.Le H) {k : Nat} (e : a k = none) (x : Ob) : a.Le (H.set k x) := fun i o hi => by
  rw [Heap.set_ne _ _ (fun e' => by subst e'; rw [e] at hi; cases hi)]; exact h i o hi
theorem Heap.set_le {a H : Heap} (h : a.Le H) (k : Nat) (x : Ob) : (a.set k x).Le (H.set k x) := fun i o hi => by
  by_cases e : i = k
  · subst e; rw [Heap.set_same] at hi ⊢; exact hi
  · rw [Heap.set_ne _ _ e] at hi ⊢; exact h i o hi
theorem Dj.set {a b : Heap} (d : Dj a b) {k : Nat} {y : Ob} (e : a k = some y) (x : Ob) : Dj (a.set k x) b := fun i => by
  by_cases h : i = k
  · subst h; exact .inr (d.none e)
  · rw [Heap.set_ne _ _ h]; exact d i
theorem Part.put {lo n : Nat} {F H a b : Heap} {i j : Item} (p : Part lo n F i B H a b) {k : Nat} {y : Ob} (e : a k = some y) (x : Ob) (hj : j.P F (a.set k x)) : Part lo n F j B (H.set k x) (a.set k x) b :=
  ⟨p.d.set e x, Heap.set_le p.la k x, Heap.leSet p.lb (p.d.none e) x, (p.fa.symm.set e x).symm, p.fb, fun q hq => by
    rw [Heap.set_ne _ _ (fun h => by subst h; rw [p.na _ hq] at e; cases e)]; exact p.na q hq, p.nb, hj, p.hr⟩
theorem Wf.put {lo n : Nat} {F H a b : Heap} (w : Wf lo n F A H) {i j : Item} (p : Part lo n F i B H a b) {k : Nat} {y : Ob} (e : a k = some y) (x : Ob) (hj : j.P F (a.set k x)) : Wf lo n F (j :: B) (H.set k x) :=
  (p.put e x hj).wf w.low (fun q hq => by rw [Heap.set_ne _ _ (fun h => by subst h; have := Heap.leLt p.la w.hb e; omega)]; exact w.hb q hq) (Heap.leSet w.fh (p.fa.symm.none e) x)
theorem Part.pos {lo n : Nat} {F H a b : Heap} {i : Item} (p : Part lo n F i B H a b) {k : Nat} {y : Ob} (e : a k = some y) : lo ≤ k := by
  rcases Nat.lt_or_ge k lo with h | h
  · rw [p.na k h] at e; cases e
  · exact h
theorem Rk.wf {i j : Item} (m : Rk A i j A') : ∃ B, Pk A i B ∧ ∀ {lo n : Nat} {F H : Heap}, Wf lo n F (j :: B) H → Wf lo n F A' H :=
  let ⟨B, h1, h2⟩ := m.take; ⟨B, h1, fun w => h2.wf w⟩
theorem Wf.new {lo n : Nat} {F H : Heap} (w : Wf lo n F A H) {i : Item} {c : Ob} (hi : i.P F (oneH n c)) : Wf lo (n + 1) F (i :: A) (H.set n c) := by
  obtain ⟨h, h1, h2, h3, h4⟩ := w.sat
  have hn : h n = none := h1.none (w.hb n (Nat.le_refl _))
  have fn : F n = none := w.fh.none (w.hb n (Nat.le_refl _))
  have d : Dj (oneH n c) h := Dj.one.2 hn
  refine ⟨by have := w.low; omega, fun k hk => by rw [Heap.set_ne _ _ (by omega)]; exact w.hb k (by omega), Heap.leSet w.fh fn c, (oneH n c).or h, Heap.or_le (oneH_le (Heap.set_same _ _ _)) (Heap.leSet h1 hn c), Dj.orr (Dj.one.2 fn).symm h2, fun k hk => Heap.or_none.2 ⟨?_, h3 k hk⟩, _, _, d, Heap.le_orl, Heap.le_orr d, hi, h4⟩
  have := w.low
  unfold oneH; rw [if_neg (by omega)]
theorem Wf.move {lo n : Nat} {F H H' a b g : Heap} (w : Wf lo n F A H) {i j : Item} (p : Part lo n F i B H a b) {c : Ob} (hg : g.Le a) (hn : H' n = some c) (hk : ∀ k, k < n → (g k ≠ none ∨ a k = none) → H' k = H k) (hup : ∀ k, n < k → H' k = none) (hj : j.P F ((oneH n c).or g)) : Wf lo (n + 1) F (j :: B) H' := by
  have an : a n = none := p.la.none (w.hb n (Nat.le_refl _))
  have bn : b n = none := p.lb.none (w.hb n (Nat.le_refl _))
  have fn : F n = none := w.fh.none (w.hb n (Nat.le_refl _))
  have gn : g n = none := hg.none an
  have keep : ∀ {K : Heap}, K.Le H → (∀ k x, K k = some x → g k ≠ none ∨ a k = none) → K.Le H' := fun {K} l e k x hx => by
    rw [hk k (Heap.leLt l w.hb hx) (e k x hx)]; exact l k x hx
  have d : Dj (oneH n c) g := Dj.one.2 gn
  refine Part.wf (a := (oneH n c).or g) (b := b) (by have := w.low; omega) (fun k hk' => hup k (by omega)) (keep w.fh fun k x hx => .inr (p.fa.none hx)) ⟨Dj.or (Dj.one.2 bn) (p.d.mono hg (.refl _)), Heap.or_le (oneH_le hn) (keep (hg.trans p.la) fun k x hx => .inl (by rw [hx]; intro h; cases h)), keep p.lb fun k x hx => .inr (p.d.symm.none hx), Dj.orr (Dj.one.2 fn).symm (p.fa.mono (.refl _) hg), p.fb, fun k hk' => Heap.or_none.2 ⟨?_, hg.none (p.na k hk')⟩, p.nb, hj, p.hr⟩
  have := w.low
  unfold oneH; rw [if_neg (by omega)]
theorem TL.bx {t : TypeId} {x : Operand} {v : Value} {vc : List Value} (h : (o.op, o.dst, wA all o fr, fr.eval x) = (.box t x, some d, some true, some v)) (hv : Cells v = vc) (hg : ∀ u ∈ vc, u.oneCell' = true)
    (kk : ∀ p, TL P Δ fl.tail all l ((d, .pointer (some ⟨p, 0, none⟩)) :: fr) (box p vc :: A) Q) : TL P Δ fl all (o :: l) fr A Q := fun lo n H F w => by
  simp only [Prod.mk.injEq] at h
  obtain ⟨lw, hfl, _, _⟩ := IsFl.tl fl w.low
  exact WL.boxL hfl 1 h.1 h.2.1 h.2.2.1 h.2.2.2 hv hg (kk n lo (n + 1) _ F (w.new ⟨1, oneH_same⟩))
class AlT (P : Program) (t : TypeId) (zc : outParam (List Value)) : Prop where
  out : ∃ i z, P.info? t = some i ∧ i.zero = some z ∧ Cells z = zc ∧ zc.all grZ = true
theorem TL.al {t : TypeId} {zc : List Value} (h : (o.op, o.dst, wA all o fr) = (.alloc t, some d, some true)) [s : AlT P t zc]
    (kk : ∀ p, TL P Δ fl.tail all l ((d, .pointer (some ⟨p, 0, none⟩)) :: fr) (box p zc :: A) Q) : TL P Δ fl all (o :: l) fr A Q := fun lo n H F w => by
  simp only [Prod.mk.injEq] at h
  obtain ⟨lw, hfl, _, _⟩ := IsFl.tl fl w.low
  obtain ⟨i, z, h1, h2, h3, h4⟩ := s.out
  exact WL.allocL hfl 1 h.1 h.2.1 h.2.2 h1 h2 h3 h4 (kk n lo (n + 1) _ F (w.new ⟨1, oneH_same⟩))
inductive St1 : List Value → Nat → Value → List Value → Prop
  | z {a v : Value} {r : List Value} : St1 (a :: r) 0 v (v :: r)
  | s {a v : Value} {r r' : List Value} {k : Nat} (h : St1 r k v r') : St1 (a :: r) (k + 1) v (a :: r')
theorem St1.splice {c c' : List Value} {k : Nat} {v : Value} (h : St1 c k v c') : k < c.length ∧ splice c k [v] = c' := by
  induction h with
  | z => simp [Go.Proofs.YtlpcdcpcfeaecaaAb.splice]
  | s h ih => obtain ⟨h1, h2⟩ := ih; subst h2; exact ⟨by simpa using h1, by simp [Go.Proofs.YtlpcdcpcfeaecaaAb.splice]⟩
theorem Cells.one {v : Value} (h : v.oneCell' = true) : Cells v = [v] := by cases v <;> first | rfl | cases h
theorem TL.stc {t : TypeId} {x y : Operand} {p k sz : Nat} {c vc c' : List Value} {v : Value} (h : (o.op, o.dst, wA all o fr, fr.eval x, fr.eval y) = (.store t x y, none, some true, some (.pointer (some ⟨p, k, none⟩)), some v)) [s : SzT P t sz] (hv : Cells v = vc) (hs : vc.length = sz) (h1 : ∀ u ∈ vc, u.oneCell' = true) (m : Rk A (box p c) (box p c') A') (hk : k + sz ≤ c.length) (hc : splice c k vc = c')
    (hw : wOK fl = true) (kk : TL P Δ fl.tail all l fr A' Q) : TL P Δ fl all (o :: l) fr A Q := fun lo n H F w => by
  simp only [Prod.mk.injEq] at h
  obtain ⟨i, q1, rfl⟩ := s.out
  obtain ⟨B, pk, back⟩ := m.wf
  obtain ⟨a, b, pt⟩ := w.part pk
  obtain ⟨e, he⟩ := pt.hi
  exact WL.storeL (IsFl.wr hw) h.1 h.2.1 h.2.2.1 q1 h.2.2.2.1 h.2.2.2.2 hv hs (pt.la _ _ he) hk (pt.pos he) (Heap.leLt pt.la w.hb he) h1 hc (kk lo n _ F (back (w.put pt he _ ⟨e, Heap.set_same _ _ _⟩)))
theorem TL.st {t : TypeId} {x y : Operand} {p k : Nat} {c c' : List Value} {v : Value} (h : (o.op, o.dst, wA all o fr, fr.eval x, fr.eval y) = (.store t x y, none, some true, some (.pointer (some ⟨p, k, none⟩)), some v)) [s : SzT P t 1] (h1 : v.oneCell' = true) (m : Rk A (box p c) (box p c') A') (hc : St1 c k v c')
    (kk : TL P Δ fl.tail all l fr A' Q) (hw : wOK fl = true := by rfl) : TL P Δ fl all (o :: l) fr A Q :=
  TL.stc h (Cells.one h1) rfl (fun u hu => by rcases List.mem_singleton.1 hu with rfl; exact h1) m hc.splice.1 hc.splice.2 hw kk
theorem TL.sts {t : TypeId} {x y : Operand} {p k : Nat} {c c' : List Value} {v : Value} {X : Item} {q : Nat} (h : (o.op, o.dst, wA all o fr, fr.eval x, fr.eval y) = (.store t x y, none, some true, some (.pointer (some ⟨p, k, none⟩)), some v)) [s : SzT P t 1] (mm : Mm A X) [hd : Hdr X v q] (m : Rk A (box p c) (box p c') A') (hc : St1 c k v c')
    (kk : TL P Δ fl.tail all l fr A' Q) (hw : wOK fl = true := by rfl) : TL P Δ fl all (o :: l) fr A Q := fun lo n H F w => by
  obtain ⟨g, l, hX⟩ := w.get mm
  have h1 : v.oneCell' = true := by rcases hd.out hX with ⟨rfl, _⟩ | ⟨b, k, cap, rfl⟩ <;> rfl
  exact TL.st h h1 m hc kk hw lo n H F w
end
end Go.Proofs.YtlpcdcpcfeaecaaAb
end
section
namespace Go.Proofs.YtlpcdcpcfeaecaaAb
open Go
theorem drop_take_splice_lt {c vc : List Value} {s k m : Nat} (h : k + m ≤ s) (hs : s + vc.length ≤ c.length) : ((splice c s vc).drop k).take m = (c.drop k).take m := by
  apply List.ext_getElem?
  intro i
  by_cases hi : i < m
  · rw [List.getElem?_take_of_lt hi, List.getElem?_take_of_lt hi, List.getElem?_drop, List.getElem?_drop, getElem?_splice hs, if_pos (by omega)]
  · rw [List.getElem?_eq_none (by rw [List.length_take]; omega), List.getElem?_eq_none (by rw [List.length_take]; omega)]
theorem drop_splice_ge {c vc : List Value} {s k : Nat} (h : s + vc.length ≤ k) (hs : s + vc.length ≤ c.length) : (splice c s vc).drop k = c.drop k := by
  apply List.ext_getElem?
  intro i
  rw [List.getElem?_drop, List.getElem?_drop, getElem?_splice hs, if_neg (by omega), if_neg (by omega)]
section
variable {P : Program} {Δ : Prims} {fr : Fr} {A A' : List Item} {B : List Item} {Q : TPost} {fl : List Bool} {all : Array Oper} {l : List Oper} {o : Oper} {d : Nat}
variable {α : Type} {r : Rep α} {xs : List α}
theorem Focc.put {F h : Heap} {v : Value} {j : Int} {b e : Nat} {cs cs' vc : List Value} {k cap m : Nat} {c : List Value} {g1 g2 : Heap} (f : Focc r F v xs j b e cs h k cap c g1 g2) (hm : m + vc.length ≤ r.sz) (hc : splice cs m vc = cs') :
    e + m + vc.length ≤ c.length ∧ Focc r F v xs j b e cs' (h.set b (.row r.sz (splice c (e + m) vc))) k cap (splice c (e + m) vc) g1 g2 := by
  have hj := f.hj
  have he := f.he
  have h1 : (j.toNat + 1) * r.sz ≤ xs.length * r.sz := Nat.mul_le_mul_right _ hj
  have h2 : (j.toNat + 1) * r.sz = j.toNat * r.sz + r.sz := Nat.succ_mul _ _
  have hk := f.hk
  have hle : e + m + vc.length ≤ c.length := by omega
  refine ⟨hle, { f with hb := Heap.set_same _ _ _, hk := by rw [length_splice hle]; exact hk, hcs := ?_, ah := ?_, be := ?_, l1 := Heap.leSet f.l1 f.b1 _, l2 := Heap.leSet f.l2 f.b2 _ }⟩
  · rw [take_drop_splice (by omega) hm, f.hcs]; exact hc
  · rw [drop_take_splice_lt (by omega) hle]; exact f.ah
  · rw [drop_splice_ge (by omega) hle]; exact f.be
theorem TL.stfc {t : TypeId} {x y : Operand} {v vv : Value} {b e m sz : Nat} {j : Int} {cs vc cs' : List Value} (h : (o.op, o.dst, wA all o fr, fr.eval x, fr.eval y) = (.store t x y, none, some true, some (.pointer (some ⟨b, e + m, none⟩)), some vv)) [s : SzT P t sz] (hv : Cells vv = vc) (hs : vc.length = sz) (h1 : ∀ u ∈ vc, u.oneCell' = true)
    (mm : Rk A (foc r v xs j b e cs) (foc r v xs j b e cs') A') (hm : m + sz ≤ r.sz) (hc : splice cs m vc = cs') (hw : wOK fl = true) (kk : TL P Δ fl.tail all l fr A' Q) : TL P Δ fl all (o :: l) fr A Q := fun lo n H F w => by
  simp only [Prod.mk.injEq] at h
  obtain ⟨i, q1, rfl⟩ := s.out
  obtain ⟨B, pk, back⟩ := mm.wf
  obtain ⟨a, b', pt⟩ := w.part pk
  obtain ⟨k, cap, c, g1, g2, f⟩ := pt.hi
  obtain ⟨hle, f2⟩ := f.put (by rw [hs]; exact hm) hc
  exact WL.storeL (IsFl.wr hw) h.1 h.2.1 h.2.2.1 q1 h.2.2.2.1 h.2.2.2.2 hv hs (pt.la _ _ f.hb) (by rw [← hs]; exact hle) (pt.pos f.hb) (Heap.leLt pt.la w.hb f.hb) h1 rfl (kk lo n _ F (back (w.put pt f.hb _ ⟨k, cap, _, g1, g2, f2⟩)))
theorem TL.stf {t : TypeId} {x y : Operand} {v vv : Value} {b e m : Nat} {j : Int} {cs cs' : List Value} (h : (o.op, o.dst, wA all o fr, fr.eval x, fr.eval y) = (.store t x y, none, some true, some (.pointer (some ⟨b, e + m, none⟩)), some vv)) [s : SzT P t 1] (h1 : vv.oneCell' = true)
    (mm : Rk A (foc r v xs j b e cs) (foc r v xs j b e cs') A') (hc : St1 cs m vv cs') (kk : TL P Δ fl.tail all l fr A' Q) (hm : m + 1 ≤ r.sz := by decide) (hw : wOK fl = true := by rfl) : TL P Δ fl all (o :: l) fr A Q :=
  TL.stfc h (Cells.one h1) rfl (fun u hu => by rcases List.mem_singleton.1 hu with rfl; exact h1) mm hm hc.splice.2 hw kk
theorem TL.stfs {t : TypeId} {x y : Operand} {v vv : Value} {b e m : Nat} {j : Int} {cs cs' : List Value} {X : Item} {q : Nat} (h : (o.op, o.dst, wA all o fr, fr.eval x, fr.eval y) = (.store t x y, none, some true, some (.pointer (some ⟨b, e + m, none⟩)), some vv)) [s : SzT P t 1] (m2 : Mm A X) [hd : Hdr X vv q]
    (mm : Rk A (foc r v xs j b e cs) (foc r v xs j b e cs') A') (hc : St1 cs m vv cs') (kk : TL P Δ fl.tail all l fr A' Q) (hm : m + 1 ≤ r.sz := by decide) (hw : wOK fl = true := by rfl) : TL P Δ fl all (o :: l) fr A Q := fun lo n H F w => by
  obtain ⟨g, l, hX⟩ := w.get m2
  have h1 : vv.oneCell' = true := by rcases hd.out hX with ⟨rfl, _⟩ | ⟨b, k, cap, rfl⟩ <;> rfl
  exact TL.stf h h1 mm hc kk hm hw lo n H F w
theorem HT.focus {B : Nat → Nat → Heap → Heap → Prop} {v : Value} {j : Int} {b e : Nat} {x : α} (he : El r.sz v j b e) (hx : idx xs j = some x) (k : ∀ cs, HT (foc r v xs j b e cs :: vl r cs x :: A) B) : HT (ow r v xs :: A) B := fun lo n H F w => by
  obtain ⟨h0, h1, hj, hxj⟩ := idx_inv hx
  obtain ⟨h, q1, q2, q3, a, a', d, l1, l2, ⟨u, eu, hlt, hs⟩, hr⟩ := w.sat
  obtain rfl : v = u := by simpa using eu
  obtain ⟨_, k0, len, cap, rfl, rfl⟩ := he
  rcases hs with ⟨e1, _⟩ | ⟨b2, k2, cap2, c, g, os⟩
  · cases e1
  · have hv := os.hv
    cases hv
    have hel := os.el.length
    have hkl : k0 + xs.length * r.sz ≤ c.length := by
      rw [List.length_take, List.length_drop] at hel
      have := os.hk
      have : xs.length * r.sz ≤ c.length - k0 := by omega
      by_cases hz : xs.length * r.sz = 0
      · omega
      · omega
    obtain ⟨g1, g2, g3, d1, d2, d3, m1, m2, m3, s1, s2, s3⟩ := os.el.split hj
    have hsz1 : (j.toNat + 1) * r.sz ≤ xs.length * r.sz := Nat.mul_le_mul_right _ hj
    have hsz2 : (j.toNat + 1) * r.sz = j.toNat * r.sz + r.sz := Nat.succ_mul _ _
    have gb := os.gb
    have ab : a b = some (.row r.sz c) := os.hb
    rw [hxj] at s2
    refine k ((c.drop (k0 + j.toNat * r.sz)).take r.sz) lo n H F ⟨w.low, w.hb, w.fh, h, q1, q2, q3, (oneH b (.row r.sz c)).or (g1.or g3), g2.or a', ?_, ?_, ?_, ⟨k0, cap, c, g1, g3, ?_⟩, g2, a', ?_, Heap.le_orl, Heap.le_orr ?_, ?_, hr⟩
    · have db : Dj (oneH b (.row r.sz c)) (g2.or a') := Dj.one.2 (Heap.or_none.2 ⟨m2.none gb, d.none ab⟩)
      exact Dj.or db (Dj.or (Dj.orr d1 (d.mono (m1.trans os.hg) (.refl _))) (Dj.orr d3.symm (d.mono (m3.trans os.hg) (.refl _))))
    · exact Heap.or_le ((oneH_le ab).trans l1) (Heap.or_le (m1.trans (os.hg.trans l1)) (m3.trans (os.hg.trans l1)))
    · exact Heap.or_le (m2.trans (os.hg.trans l1)) l2
    · have dd : Dj (oneH b (.row r.sz c)) (g1.or g3) := Dj.one.2 (Heap.or_none.2 ⟨m1.none gb, m3.none gb⟩)
      refine ⟨hlt, h0, hj, rfl, rfl, Heap.le_orl _ _ oneH_same, hkl, os.hcap, rfl, d2, (Heap.le_orl).trans (Heap.le_orr dd), (Heap.le_orr d2).trans (Heap.le_orr dd), m1.none gb, m3.none gb, ?_, ?_⟩
      · rw [List.take_take, Nat.min_eq_left (by omega)] at s1; exact s1
      · rw [List.drop_take, List.drop_drop] at s3
        have : xs.length * r.sz - (j.toNat + 1) * r.sz = (xs.length - (j.toNat + 1)) * r.sz := (Nat.sub_mul _ _ _).symm
        rw [this] at s3; exact s3
    · exact (d.mono (m2.trans os.hg) (.refl _))
    · exact (d.mono (m2.trans os.hg) (.refl _))
    · rw [List.drop_take, List.take_take, List.drop_drop, Nat.min_eq_left (by omega)] at s2; exact s2
theorem Ent.unfoc {v : Value} {j : Int} {b e : Nat} {cs : List Value} {y : α} : Ent (foc r v xs j b e cs :: vl r cs y :: A) (ow r v (setI xs j y) :: A) := fun F h ⟨a, a', d, l1, l2, ⟨k, cap, c, g1, g2, f⟩, g, b2, d2, l3, l4, hy, hr⟩ => by
  have hj := f.hj
  have hsz1 : (j.toNat + 1) * r.sz ≤ xs.length * r.sz := Nat.mul_le_mul_right _ hj
  have hsz2 : (j.toNat + 1) * r.sz = j.toNat * r.sz + r.sz := Nat.succ_mul _ _
  have hk := f.hk
  have dg : Dj a g := d.mono (.refl _) l3
  have gb : g b = none := dg.none f.hb
  have e0 : setI xs j y = xs.take j.toNat ++ y :: xs.drop (j.toNat + 1) := by unfold setI; rw [List.set_eq_take_append_cons_drop, if_pos hj]
  have d1 : Dj g1 g := dg.mono f.l1 (.refl _)
  have d3 : Dj g g2 := (dg.mono f.l2 (.refl _)).symm
  have d4 : Dj g1 (g.or g2) := Dj.orr d1 f.d
  have hel : RL r F ((c.drop k).take (xs.length * r.sz)) (setI xs j y) (g1.or (g.or g2)) := by
    have e1 : (c.drop k).take (xs.length * r.sz) = (c.drop k).take (j.toNat * r.sz) ++ (cs ++ (c.drop (k + (j.toNat + 1) * r.sz)).take ((xs.length - (j.toNat + 1)) * r.sz)) := by
      have e2 : xs.length * r.sz = j.toNat * r.sz + (r.sz + (xs.length - (j.toNat + 1)) * r.sz) := by rw [Nat.sub_mul]; omega
      rw [e2, List.take_add, List.take_add, List.drop_drop, List.drop_drop, ← f.hcs, f.he]
      have e3 : k + j.toNat * r.sz + r.sz = k + (j.toNat + 1) * r.sz := by omega
      rw [e3]
    rw [e0, e1]
    exact f.ah.append (.cons d3 Heap.le_orl (Heap.le_orr d3) hy f.be) d4 Heap.le_orl (Heap.le_orr d4)
  refine ⟨a.or g, b2, Dj.or (d.mono (.refl _) l4) d2, Heap.or_le l1 (l3.trans l2), l4.trans l2, ⟨v, rfl, by unfold setI; rw [List.length_set]; exact f.lt, .inr ⟨b, k, cap, c, g1.or (g.or g2), ?_⟩⟩, hr⟩
  have hl : (setI xs j y).length = xs.length := by unfold setI; rw [List.length_set]
  exact ⟨by rw [hl]; exact f.hv, Heap.le_orl _ _ f.hb, by omega, by rw [hl]; exact f.hcap, Heap.or_le (f.l1.trans Heap.le_orl) (Heap.or_le (Heap.le_orr dg) (f.l2.trans Heap.le_orl)), Heap.or_none.2 ⟨f.b1, Heap.or_none.2 ⟨gb, f.b2⟩⟩, by rw [hl]; exact hel⟩
end
end Go.Proofs.YtlpcdcpcfeaecaaAb
end
section
namespace Go.Proofs.YtlpcdcpcfeaecaaAb
open Go
def two (i j : Item) : Item := ⟨fun F h => ∃ a b, Dj a b ∧ a.Le h ∧ b.Le h ∧ i.P F a ∧ j.P F b,
  fun hle ⟨a, b, d, h1, h2, h3, h4⟩ => ⟨a, b, d, h1, h2, i.mono hle h3, j.mono hle h4⟩, fun hle ⟨a, b, d, h1, h2, h3, h4⟩ => ⟨a, b, d, h1.trans hle, h2.trans hle, h3, h4⟩⟩
theorem Ent.two {i j : Item} {A : List Item} : Ent (i :: j :: A) (two i j :: A) := fun F h ⟨a, b, d, l1, l2, hi, a2, b2, d2, l3, l4, hj, hr⟩ => by
  have d3 : Dj a a2 := d.mono (.refl _) l3
  have d4 : Dj a b2 := d.mono (.refl _) l4
  exact ⟨a.or a2, b2, Dj.or d4 d2, Heap.or_le l1 (l3.trans l2), l4.trans l2, ⟨a, a2, d3, Heap.le_orl, Heap.le_orr d3, hi, hj⟩, hr⟩
class ApT (P : Program) (t u : TypeId) (sz : outParam Nat) : Prop where
  out : ∃ el i z dd, P.underlying t = some (.slice el) ∧ P.underlying u = some dd ∧ isInt dd = false ∧ P.info? el = some i ∧ i.zero = some z ∧ (Cells z).length = i.size ∧ i.bytes ≤ 2048 ∧ i.size = sz
class LtT (P : Program) (t : TypeId) (sz : outParam Nat) : Prop where
  out : ∃ el i z, P.underlying t = some (.slice el) ∧ P.info? el = some i ∧ i.zero = some z ∧ (Cells z).all grZ = true ∧ (Cells z).length = i.size ∧ i.bytes ≤ 2048 ∧ 0 < i.size ∧ i.size = sz
class ZrT (P : Program) (t : TypeId) (zc : outParam (List Value)) : Prop where
  out : ∃ el i z, P.underlying t = some (.slice el) ∧ P.info? el = some i ∧ i.zero = some z ∧ Cells z = zc
section
variable {P : Program} {Δ : Prims} {fr : Fr} {A A1 A2 : List Item} {Q : TPost} {fl : List Bool} {all : Array Oper} {l : List Oper} {o : Oper} {d : Nat}
variable {α : Type} {r : Rep α} {xs ys : List α}
theorem OS.own {F a H : Heap} {v : Value} {lo n : Nat} (s : OS r F v xs a) (la : a.Le H) (hb : ∀ k, n ≤ k → H k = none) (na : ∀ k, k < lo → a k = none) :
    ∃ cs g, OwnS lo n H r.sz v xs.length cs ∧ RL r F cs xs g ∧ g.Le a ∧ (∀ b, idOf v = some b → g b = none ∧ a b ≠ none) := by
  obtain ⟨h0, ⟨rfl, rfl⟩ | ⟨b, k, cap, c, g, o⟩⟩ := s
  · exact ⟨[], nilH, .inl ⟨rfl, rfl, rfl⟩, .nil, Heap.nil_le, fun b h => by cases h⟩
  · refine ⟨_, g, .inr ⟨b, k, cap, c, o.hv, la _ _ o.hb, rfl, o.el.length, ?_, Heap.leLt la hb o.hb, o.hk, o.hcap⟩, o.el, o.hg, fun b' h => ?_⟩
    · rcases Nat.lt_or_ge b lo with h | h
      · have := o.hb; rw [na b h] at this; cases this
      · exact h
    · rw [o.hv] at h
      obtain rfl : b = b' := by simpa [idOf] using h
      exact ⟨o.gb, by rw [o.hb]; intro h; cases h⟩
theorem OS.new {F g : Heap} {n len cap : Nat} {cs : List Value} (hl : len = xs.length) (hlt : len < UNK) (hcap : cap = len ∧ cap < UNK ∨ UNK ≤ cap) (gn : g n = none) (s : RL r F cs xs g) : OS r F (.slice (some ⟨n, 0, none⟩) len cap) xs ((oneH n (.row r.sz cs)).or g) := by
  subst hl
  refine ⟨hlt, .inr ⟨n, 0, cap, cs, g, rfl, Heap.le_orl _ _ oneH_same, Nat.zero_le _, hcap, Heap.le_orr (Dj.one.2 gn), gn, ?_⟩⟩
  rw [List.drop_zero, List.take_of_length_le (Nat.le_of_eq s.length)]; exact s
theorem TL.app {t u : TypeId} {x y : Operand} {v v2 : Value} {sz : Nat} (h : (o.op, o.dst, wA all o fr, fr.eval x, fr.eval y) = (.call { callee := .builtin .append, args := #[x, y], argTypes := #[t, u] }, some d, some true, some v, some v2)) [s : ApT P t u sz] (p1 : Pk A (ow r v xs) A1) (p2 : Pk A1 (ow r v2 ys) A2) (hlen : (xs.length : Int) + ys.length ≤ 68719476736)
    (kk : ∀ v', TL P Δ fl.tail all l ((d, v') :: fr) (ow r v' (xs ++ ys) :: A2) Q) (hsz : sz = r.sz := by rfl) (hw : wOK fl = true := by rfl) : TL P Δ fl all (o :: l) fr A Q := fun lo n H F w => by
  simp only [Prod.mk.injEq] at h
  obtain ⟨el, i, z, dd, t1, t2, t3, t4, t5, t6, t7, rfl⟩ := s.out
  have w1 : Wf lo n F (ow r v xs :: ow r v2 ys :: A2) H := (p1.ent.trans (Ent.cons _ p2.ent)).wf w
  obtain ⟨a, b, pt⟩ := (Ent.two.wf w1).part .z
  obtain ⟨a1, a2, d12, la1, la2, ⟨u1, e1, s1⟩, ⟨u2, e2, s2⟩⟩ := pt.hi
  obtain rfl : v = u1 := by simpa using e1
  obtain rfl : v2 = u2 := by simpa using e2
  obtain ⟨cs1, g1, o1, l1, m1, b1⟩ := s1.own (la1.trans pt.la) w.hb (fun k hk => la1.none (pt.na k hk))
  obtain ⟨cs2, g2, o2, l2, m2, b2⟩ := s2.own (la2.trans pt.la) w.hb (fun k hk => la2.none (pt.na k hk))
  have hsrc := Src.ofSL (P := P) (ev := fr.eval) (u := u) (y := y) t2 t3 h.2.2.2.2 o2.sl
  have hlt := s1.1
  by_cases hm : ys.length = 0
  · have hn : ys = [] := List.eq_nil_of_length_eq_zero hm
    subst hn
    have hn2 : cs2 = [] := List.eq_nil_of_length_eq_zero (by have := l2.length; simpa using this)
    subst hn2
    obtain ⟨c, cap, hv⟩ := s1.form
    have := kk v lo n H F (by rw [List.append_nil]; exact (Ent.trans (Ent.cons _ Ent.drop) (.refl _)).wf w1)
    subst hv
    exact WL.append0 (IsFl.wr hw) h.1 h.2.1 h.2.2.1 t1 t4 h.2.2.2.1 (by rw [hsz]; exact hsrc) this
  · have hlx : (xs ++ ys).length = xs.length + ys.length := List.length_append
    refine WL.app' (IsFl.wr hw) h.1 h.2.1 h.2.2.1 t1 t4 t5 t6 h.2.2.2.1 (by rw [hsz]; exact o1) (by rw [hsz]; exact hsrc) (by omega) l2.one l1.one ?_ (by unfold UNK; omega) (fun H' q1 q2 q3 q4 => ?_) (by rw [hsz]; exact l2.length)
    · have h1 : (xs.length + ys.length) ≤ 68719476736 := by omega
      exact Nat.le_trans (Nat.mul_le_mul h1 t7) (by decide)
    · have dg : Dj g1 g2 := d12.mono m1 m2
      have gle : (g1.or g2).Le a := Heap.or_le (m1.trans la1) (m2.trans la2)
      refine kk _ lo (n + 1) H' F (w.move pt (g := g1.or g2) gle q1 (fun k hk hg => q2 k hk fun hid => ?_) (fun k hk => by rw [q3 k hk]; exact w.hb k (by omega)) ⟨_, rfl, ?_⟩)
      · obtain ⟨x1, x2⟩ := b1 k hid
        obtain ⟨ob, hob⟩ : ∃ ob, a1 k = some ob := by
          cases hh : a1 k with
          | none => exact absurd hh x2
          | some ob => exact ⟨ob, rfl⟩
        rcases hg with hg | hg
        · exact hg (Heap.or_none.2 ⟨x1, m2.none (d12.none hob)⟩)
        · rw [la1 _ _ hob] at hg; cases hg
      · rw [hsz]
        exact OS.new hlx.symm (by unfold UNK; omega) (.inr (by omega)) (gle.none (pt.la.none (w.hb n (Nat.le_refl _)))) (l1.append l2 dg Heap.le_orl (Heap.le_orr dg))
theorem TL.appR [Rp α] {t u : TypeId} {x y : Operand} {v v2 : Value} {sz : Nat} {X : Item} (h : (o.op, o.dst, wA all o fr, fr.eval x, fr.eval y) = (.call { callee := .builtin .append, args := #[x, y], argTypes := #[t, u] }, some d, some true, some v, some v2)) [s : ApT P t u sz] (p1 : Pk A (ow (rC α) v xs) A1) (mm : Mm A X) [c : Rdb X v2 ys] (hlen : (xs.length : Int) + ys.length ≤ 68719476736)
    (kk : ∀ v', TL P Δ fl.tail all l ((d, v') :: fr) (ow (rC α) v' (xs ++ ys) :: A1) Q) (hsz : sz = Rp.sz α := by rfl) (hw : wOK fl = true := by rfl) : TL P Δ fl all (o :: l) fr A Q := fun lo n H F w => by
  simp only [Prod.mk.injEq] at h
  obtain ⟨el, i, z, dd, t1, t2, t3, t4, t5, t6, t7, rfl⟩ := s.out
  obtain ⟨hX, lX, eX⟩ := w.get mm
  obtain ⟨_, cs2, o2, l2⟩ := c.out eX w.fh lX
  have w1 := p1.ent.wf w
  obtain ⟨a, b, pt⟩ := w1.part .z
  obtain ⟨u1, e1, s1⟩ := pt.hi
  obtain rfl : v = u1 := by simpa using e1
  obtain ⟨cs1, g1, o1, l1, m1, b1⟩ := s1.own pt.la w.hb pt.na
  have hsrc := Src.ofSL (P := P) (ev := fr.eval) (u := u) (y := y) t2 t3 h.2.2.2.2 o2
  have hlt := s1.1
  by_cases hm : ys.length = 0
  · have hn : ys = [] := List.eq_nil_of_length_eq_zero hm
    subst hn
    have hn2 : cs2 = [] := List.eq_nil_of_length_eq_zero (by have := l2.length; simpa using this)
    subst hn2
    obtain ⟨c, cap, hv⟩ := s1.form
    have := kk v lo n H F (by rw [List.append_nil]; exact w1)
    subst hv
    exact WL.append0 (IsFl.wr hw) h.1 h.2.1 h.2.2.1 t1 t4 h.2.2.2.1 (by rw [hsz]; exact hsrc) this
  · have hlx : (xs ++ ys).length = xs.length + ys.length := List.length_append
    refine WL.app' (IsFl.wr hw) h.1 h.2.1 h.2.2.1 t1 t4 t5 t6 h.2.2.2.1 (by rw [hsz]; exact o1) (by rw [hsz]; exact hsrc) (by omega) l2.one l1.one ?_ (by unfold UNK; omega) (fun H' q1 q2 q3 q4 => ?_) (by rw [hsz]; exact l2.length)
    · have h1 : (xs.length + ys.length) ≤ 68719476736 := by omega
      exact Nat.le_trans (Nat.mul_le_mul h1 t7) (by decide)
    · refine kk _ lo (n + 1) H' F (w.move pt (g := nilH) Heap.nil_le q1 (fun k hk hg => q2 k hk fun hid => ?_) (fun k hk => by rw [q3 k hk]; exact w.hb k (by omega)) ⟨_, rfl, ?_⟩)
      · obtain ⟨x1, x2⟩ := b1 k hid
        rcases hg with hg | hg
        · exact hg rfl
        · exact x2 hg
      · have hs' : i.size = (rC α).sz := hsz
        rw [hs']
        exact OS.new hlx.symm (by unfold UNK; omega) (.inr (by omega)) rfl (RL.ofRA (l1.toRA.append l2))
end
end Go.Proofs.YtlpcdcpcfeaecaaAb
end
