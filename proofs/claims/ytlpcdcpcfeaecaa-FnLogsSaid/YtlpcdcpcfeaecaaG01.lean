import Derived.Test.YtlpcdcpcfeaecaaG00
import Derived.KernelRfl
set_option linter.all false
section
namespace Go.Proofs.YtlpcdcpcfeaecaaAb
open Go
theorem foldl_splice (off : Nat) : ∀ (xs : List Value) (s : Nat) (a : Array Value), off + s + xs.length ≤ a.size →
    ((xs.zipIdx s).foldl (fun cs p => cs.setIfInBounds (off + p.2) p.1) a).toList = splice a.toList (off + s) xs := by
  intro xs
  induction xs with
  | nil => intro s a _; simp [splice]
  | cons x xs ih =>
    intro s a h
    simp only [List.zipIdx_cons, List.foldl_cons]
    simp only [List.length_cons] at h
    rw [ih (s + 1) _ (by simp; omega)]
    apply List.ext_getElem?
    intro k
    rw [getElem?_splice (by simp; omega), getElem?_splice (by simp; omega)]
    simp only [Array.toList_setIfInBounds, List.getElem?_set, List.length_cons, Array.length_toList]
    by_cases h1 : k < off + s
    · rw [if_pos (by omega), if_pos h1, if_neg (by omega)]
    · by_cases h2 : k = off + s
      · subst h2
        rw [if_pos (by omega), if_pos rfl, if_pos (by omega), if_neg (by omega), if_pos (by omega)]
        simp
      · by_cases h3 : k < off + s + (xs.length + 1)
        · rw [if_neg (by omega), if_pos (by omega), if_neg h1, if_pos h3]
          rw [show k - (off + s) = (k - (off + (s + 1))) + 1 by omega]
          simp
        · rw [if_neg (by omega), if_neg (by omega), if_neg h1, if_neg h3, if_neg (by omega)]
def fillL (place : Nat → Option (Nat × Nat)) (c : List Value) : List (Nat × Value) → Option (List Value)
  | [] => some c
  | (i, v) :: rest =>
    match place i with
    | none => none
    | some (off, size) => if (Cells v).length = size ∧ off + size ≤ c.length then fillL place (splice c off (Cells v)) rest else none
theorem fill_of_fillL (place : Nat → Option (Nat × Nat)) : ∀ (ps : List (Nat × Value)) (a : Array Value) (out : List Value), fillL place a.toList ps = some out → Instr.fill place a ps = some out.toArray
  | [], a, out, h => by simp only [fillL, Option.some.injEq] at h; subst h; simp [Instr.fill]
  | (i, v) :: rest, a, out, h => by
    simp only [fillL] at h
    simp only [Instr.fill]
    cases hp : place i with
    | none => rw [hp] at h; cases h
    | some q =>
      obtain ⟨off, size⟩ := q
      rw [hp] at h
      simp only at h ⊢
      split at h
      · rename_i hc
        obtain ⟨h1, h2⟩ := hc
        have hs : v.cells.size = size := by simpa [Cells] using h1
        have h3 : off + size ≤ a.size := by simpa using h2
        rw [if_neg (by simp [hs]; omega)]
        refine fill_of_fillL place rest _ out ?_
        rw [← h]
        congr 1
        have := foldl_splice off v.cells.toList 0 a (by simp only [Array.length_toList]; omega)
        simp only [Nat.add_zero] at this
        rw [← Array.foldl_toList, Array.toList_zipIdx]
        exact this
      · cases h
theorem fillL_seq (sz : Nat) : ∀ (vs : List Value) (j0 : Nat) (pre rest : List Value), pre.length = j0 * sz → rest.length = vs.length * sz → (∀ v ∈ vs, (Cells v).length = sz) →
    fillL (fun j => some (j * sz, sz)) (pre ++ rest) ((vs.zipIdx j0).map fun p => (p.2, p.1)) = some (pre ++ vs.flatMap Cells)
  | [], j0, pre, rest, h1, h2, _ => by
    have : rest = [] := List.eq_nil_of_length_eq_zero (by simpa using h2)
    simp [fillL, this]
  | v :: vs, j0, pre, rest, h1, h2, h3 => by
    have hv := h3 v (by simp)
    simp only [List.length_cons, Nat.add_mul, Nat.one_mul] at h2
    simp only [List.zipIdx_cons, List.map_cons, fillL]
    rw [if_pos ⟨hv, by simp; omega⟩]
    have e : splice (pre ++ rest) (j0 * sz) (Cells v) = (pre ++ Cells v) ++ rest.drop sz := by
      unfold splice
      rw [← h1, List.take_left', hv]
      · rw [show pre.length + sz = pre.length + sz from rfl, List.drop_append]
        simp
      · rfl
    rw [e, fillL_seq sz vs (j0 + 1) (pre ++ Cells v) (rest.drop sz) (by simp [h1, hv, Nat.add_mul]) (by simp; omega) (fun u hu => h3 u (by simp [hu]))]
    simp
theorem flat_len (sz : Nat) : ∀ (vs : List Value), (∀ v ∈ vs, (Cells v).length = sz) → (vs.flatMap Cells).length = vs.length * sz
  | [], _ => by simp
  | v :: vs, h => by
    simp only [List.flatMap_cons, List.length_append, List.length_cons, Nat.add_mul, Nat.one_mul]
    rw [h v (by simp), flat_len sz vs (fun u hu => h u (by simp [hu]))]; omega
theorem mapM_pairs {ev : Operand → Option Value} : ∀ (ps : List (Nat × Operand)) (j0 : Nat) (vs : List Value), ps.mapM (fun p => ev p.2) = some vs → ps.map (·.1) = List.range' j0 ps.length →
    ps.mapM (fun p => (ev p.2).map fun v => (p.1, v)) = some ((vs.zipIdx j0).map fun p => (p.2, p.1))
  | [], j0, vs, h, _ => by simp at h; subst h; simp
  | p :: ps, j0, vs, h, hx => by
    simp only [List.mapM_cons, bind, pure, Option.bind_eq_some_iff] at h ⊢
    obtain ⟨v, hv, r, hr, hc⟩ := h
    obtain rfl := Option.some.inj hc
    simp only [List.map_cons, List.length_cons, List.range'_succ, List.cons.injEq] at hx
    have ih := mapM_pairs ps (j0 + 1) r hr hx.2
    exact ⟨(p.1, v), by simp [hv], _, ih, by simp [hx.1]⟩
section
variable {P : Program} {Δ : Prims} {lo : Nat} {fr : Fr} {n : Nat} {H : Heap} {Q : Post} {all : Array Oper} {l : List Oper} {o : Oper} {d : Nat}
theorem WL.lit {fl fl2 : List Bool} {lw : Nat} (hfl : IsFl fl lo n lw fl2) {t el : TypeId} {len : Nat} {ps : Array (Nat × Operand)} {vs cs : List Value} {z : Value} {i : TypeInfo} (ho : o.op = .buildSlice t len ps) (hd : o.dst = some d) (hw : wantedA all o fr = some true) (ht : P.underlying t = some (.slice el)) (hi : P.info? el = some i) (hz : i.zero = some z)
    (hg : (Cells z).all grZ = true) (hzc : (Cells z).length = i.size) (hsz : len * i.size ≤ 16777216) (hlen : len < 1000000) (hp : ps.toList.mapM (fun p => fr.eval p.2) = some vs) (hix : ps.toList.map (·.1) = List.range' 0 len) (hvs : vs.map (fun v => (Cells v).length) = List.replicate len i.size)
    (hcs : vs.flatMap Cells = cs) (h1 : ∀ v ∈ cs, v.oneCell' = true)
    (kk : WL P Δ lo fl2 all l ((d, .slice (some ⟨n, 0, none⟩) len len) :: fr) (n + 1) (H.set n (.row i.size cs)) Q) : WL P Δ lo fl all (o :: l) fr n H Q := by
  have hvl : vs.length = len := by have := congrArg List.length hvs; simpa using this
  have hpl : ps.toList.length = len := by have := congrArg List.length hix; simpa using this
  have hall : ∀ v ∈ vs, (Cells v).length = i.size := fun v hv => by
    have : (Cells v).length ∈ vs.map (fun v => (Cells v).length) := List.mem_map.2 ⟨v, hv, rfl⟩
    rw [hvs] at this; exact (List.mem_replicate.1 this).2
  have hpp := mapM_pairs (ev := fr.eval) ps.toList 0 vs hp (by rw [hix, hpl])
  have hml : (madeCells z.cells (len * i.size)).toList.length = vs.length * i.size := by rw [Array.length_toList, size_madeCells, hvl]
  have hfill := fillL_seq i.size vs 0 [] (madeCells z.cells (len * i.size)).toList (by simp) hml hall
  rw [List.nil_append, List.nil_append, hcs] at hfill
  have hf := fill_of_fillL _ _ _ _ hfill
  have hcl : cs.length = len * i.size := by
    rw [← hcs, ← hvl]; exact flat_len i.size vs hall
  refine WL.buildSlice hfl (parts := (vs.zipIdx 0).map fun p => (p.2, p.1)) (cells := cs.toArray) ho hd hw ht hi hz hg hsz (by unfold UNK; omega) hpp hzc hf (by simpa using h1) (by simpa using hcl) ?_
  simpa using kk
theorem WL.buildL {fl fl2 : List Bool} {lw : Nat} (hfl : IsFl fl lo n lw fl2) {t : TypeId} {ps : Array (Nat × Operand)} {fs : Array Field} {parts : List (Nat × Value)} {places : List (Nat × Nat)} {z : Value} {iz : TypeInfo} {zc cells : List Value} (ho : o.op = .build t ps) (hd : o.dst = some d) (hw : wantedA all o fr = some true) (ht : P.underlying t = some (.struct fs))
    (hi : P.info? t = some iz) (hz : iz.zero = some z) (hzc : Cells z = zc) (hg : zc.all grZ = true) (hpl : fs.toList.mapM (fun f => (P.info? f.type).map fun i => (f.offset, i.size)) = some places) (hp : ps.toList.mapM (fun p => (fr.eval p.2).map fun v => (p.1, v)) = some parts)
    (hf : fillL (fun j => places[j]?) zc parts = some cells) (kk : WL P Δ lo fl2 all l ((d, .agg cells.toArray) :: fr) n H Q) : WL P Δ lo fl all (o :: l) fr n H Q := by
  subst hzc
  refine WL.build hfl ho hd hw ht hi hz hg hpl hp ?_ kk
  have hf2 := fill_of_fillL _ parts z.cells cells hf
  rw [← hf2]
  exact fill_places _ _ (fun j => by simp) _ _
theorem WL.storeL {fl fl2 : List Bool} {lw : Nat} (hfl : IsFl fl lo n lw fl2) {t : TypeId} {x y : Operand} {i : TypeInfo} {b k e : Nat} {c vc c' : List Value} {v : Value} (ho : o.op = .store t x y) (hd : o.dst = none) (hw : wantedA all o fr = some true) (hi : P.info? t = some i)
    (hx : fr.eval x = some (.pointer (some ⟨b, k, none⟩))) (hy : fr.eval y = some v) (hv : Cells v = vc) (hs : vc.length = i.size) (hb : H b = some (.row e c)) (hk : k + i.size ≤ c.length) (hlo : lw ≤ b) (hbn : b < n) (h1 : ∀ u ∈ vc, u.oneCell' = true) (hc : splice c k vc = c')
    (kk : WL P Δ lo fl2 all l fr n (H.set b (.row e c')) Q) : WL P Δ lo fl all (o :: l) fr n H Q := by
  subst hv; subst hc
  exact WL.store hfl ho hd hw hi hx hy hs hb hk hlo hbn h1 kk
theorem WL.allocL {fl fl2 : List Bool} {lw : Nat} (hfl : IsFl fl lo n lw fl2) {t : TypeId} {i : TypeInfo} {z : Value} {zc : List Value} (e : Nat) (ho : o.op = .alloc t) (hd : o.dst = some d) (hw : wantedA all o fr = some true) (hi : P.info? t = some i) (hz : i.zero = some z) (hzc : Cells z = zc) (hg : zc.all grZ = true)
    (k : WL P Δ lo fl2 all l ((d, .pointer (some ⟨n, 0, none⟩)) :: fr) (n + 1) (H.set n (.row e zc)) Q) : WL P Δ lo fl all (o :: l) fr n H Q := by
  subst hzc
  exact WL.alloc hfl e ho hd hw hi hz hg k
theorem WL.boxL {fl fl2 : List Bool} {lw : Nat} (hfl : IsFl fl lo n lw fl2) {t : TypeId} {x : Operand} {v : Value} {vc : List Value} (e : Nat) (ho : o.op = .box t x) (hd : o.dst = some d) (hw : wantedA all o fr = some true) (hx : fr.eval x = some v) (hv : Cells v = vc) (hg : ∀ u ∈ vc, u.oneCell' = true)
    (k : WL P Δ lo fl2 all l ((d, .pointer (some ⟨n, 0, none⟩)) :: fr) (n + 1) (H.set n (.row e vc)) Q) : WL P Δ lo fl all (o :: l) fr n H Q := by
  subst hv
  exact WL.box hfl e ho hd hw hx hg k
end
end Go.Proofs.YtlpcdcpcfeaecaaAb
end
section
namespace Go.Proofs.YtlpcdcpcfeaecaaAb
open Go
theorem OwnS.mono {lo lo' n n' : Nat} {H H' : Heap} {sz : Nat} {v : Value} {len : Nat} {cs : List Value} (h : OwnS lo n H sz v len cs) (hlo : lo' ≤ lo) (hn : n ≤ n') (hH : ∀ i, i < n → idOf v = some i → H' i = H i) : OwnS lo' n' H' sz v len cs := by
  rcases h with h | ⟨b, k, cap, c, rfl, hb, h2, h3, h4, h5, h6, h7⟩
  · exact .inl h
  · exact .inr ⟨b, k, cap, c, rfl, by rw [hH b h5 rfl]; exact hb, h2, h3, by omega, by omega, h6, h7⟩
theorem OwnS.id_lt {lo n : Nat} {H : Heap} {sz : Nat} {v : Value} {len : Nat} {cs : List Value} (h : OwnS lo n H sz v len cs) {i : Nat} (hi : idOf v = some i) : lo ≤ i ∧ i < n := by
  rcases h with ⟨rfl, _⟩ | ⟨b, k, cap, c, rfl, hb, h2, h3, h4, h5, h6, h7⟩
  · cases hi
  · simp only [idOf, Option.some.injEq] at hi; omega
theorem cells_int (k : IntKind) (n : Int) : Cells (.int k n) = [.int k n] := rfl
theorem cells_bool (b : Bool) : Cells (.bool b) = [.bool b] := rfl
theorem cells_string (b : ByteArray) : Cells (.string b) = [.string b] := rfl
theorem cells_str (b : List UInt8) : Cells (str b) = [str b] := rfl
theorem cells_slice (a : Option Addr) (n c : Nat) : Cells (.slice a n c) = [.slice a n c] := rfl
theorem cells_ptr (a : Option Addr) : Cells (.pointer a) = [.pointer a] := rfl
theorem cells_map (a : Option Nat) : Cells (.map a) = [.map a] := rfl
theorem cells_func (f : Fn) (a c : Array Value) : Cells (.func f a c) = [.func f a c] := rfl
theorem cells_nilFunc : Cells .nilFunc = [.nilFunc] := rfl
theorem cells_nilIface : Cells .nilIface = [.nilIface] := rfl
theorem cells_iface (t : TypeId) (v : Value) : Cells (.iface t v) = [.iface t v] := rfl
theorem cells_agg (c : Array Value) : Cells (.agg c) = c.toList := rfl
theorem cells_u8 (b : UInt8) : Cells (u8 b) = [u8 b] := rfl
def byteOf (x : Int) : UInt8 := (x % 256).toNat.toUInt8
theorem u8_byteOf (x : Int) : Value.int .u8 (IntKind.wrap .u8 x) = u8 (byteOf x) := by
  rw [wrap_u8_mod]
  simp only [u8, byteOf]
  congr 1
  have h1 : 0 ≤ x % 256 := Int.emod_nonneg _ (by decide)
  have h2 : x % 256 < 256 := Int.emod_lt_of_pos _ (by decide)
  have h3 : (x % 256).toNat < 256 := by omega
  rw [Nat.toUInt8, UInt8.toNat_ofNat_of_lt' h3]
  omega
section
variable {P : Program} {Δ : Prims} {lo : Nat} {fr : Fr} {n : Nat} {H : Heap} {Q : Post}
section ops
variable {all : Array Oper} {l : List Oper} {o : Oper} {d : Nat}
theorem WL.convB {fl fl2 : List Bool} {lw : Nat} (hfl : IsFl fl lo n lw fl2) {s t : TypeId} {ds : TypeDesc} {x : Operand} {q : IntKind} {a : Int} (ho : o.op = .convert s t x) (hd : o.dst = some d) (hw : wantedA all o fr = some true) (hs : P.underlying s = some ds) (ht : P.underlying t = some (.int .u8)) (hx : fr.eval x = some (.int q a)) (kk : WL P Δ lo fl2 all l ((d, u8 (byteOf a)) :: fr) n H Q) : WL P Δ lo fl all (o :: l) fr n H Q :=
  WL.convI hfl ho hd hw hs ht hx (by rw [u8_byteOf]; exact kk)
end ops
end
theorem resl1 {P : Program} {H : Heap} {fr : Fr} {t : Nat} {v : Value} (h : fr.get t = some v) : ResL P H fr [.tmp t] [v] := .cons (.tmp h) .nil
end Go.Proofs.YtlpcdcpcfeaecaaAb
end
section
namespace Go.Proofs.YtlpcdcpcfeaecaaAb
open Go
def Keeps (m : Nat) (H H' : Heap) : Prop := ∀ j, j < m → H' j = H j
theorem Keeps.eq {m : Nat} {H H' : Heap} (h : Keeps m H H') {i : Nat} (hi : i < m) : H' i = H i := h i hi
theorem Keeps.refl (m : Nat) (H : Heap) : Keeps m H H := fun _ _ => rfl
theorem Keeps.trans {m : Nat} {H H1 H2 : Heap} (a : Keeps m H H1) (b : Keeps m H1 H2) : Keeps m H H2 := fun j hj => (b j hj).trans (a j hj)
theorem Keeps.mono {m m' : Nat} {H H1 : Heap} (a : Keeps m H H1) (h : m' ≤ m) : Keeps m' H H1 := fun j hj => a j (by omega)
def SL (H : Heap) (sz : Nat) (v : Value) (len : Nat) (cs : List Value) : Prop :=
  (v = .slice none 0 0 ∧ len = 0 ∧ cs = []) ∨
  ∃ b k cap c, v = .slice (some ⟨b, k, none⟩) len cap ∧ H b = some (.row sz c) ∧ (c.drop k).take (len * sz) = cs ∧ cs.length = len * sz
theorem OwnS.sl {lo n : Nat} {H : Heap} {sz : Nat} {v : Value} {len : Nat} {cs : List Value} (h : OwnS lo n H sz v len cs) : SL H sz v len cs := by
  rcases h with h | ⟨b, k, cap, c, h1, h2, h3, h4, _⟩
  · exact .inl h
  · exact .inr ⟨b, k, cap, c, h1, h2, h3, h4⟩
theorem SL.form {H : Heap} {sz : Nat} {v : Value} {len : Nat} {cs : List Value} (h : SL H sz v len cs) : ∃ a cap, v = .slice a len cap := by
  rcases h with ⟨rfl, rfl, rfl⟩ | ⟨b, k, cap, c, rfl, _⟩
  · exact ⟨_, _, rfl⟩
  · exact ⟨_, _, rfl⟩
theorem OwnS.form {lo n : Nat} {H : Heap} {sz : Nat} {v : Value} {len : Nat} {cs : List Value} (h : OwnS lo n H sz v len cs) : ∃ a cap, v = .slice a len cap := h.sl.form
theorem SL.length {H : Heap} {sz : Nat} {v : Value} {len : Nat} {cs : List Value} (h : SL H sz v len cs) : cs.length = len * sz := by
  rcases h with ⟨rfl, rfl, rfl⟩ | ⟨b, k, cap, c, rfl, _, _, h⟩
  · simp
  · exact h
theorem SL.mono {H H' : Heap} {sz : Nat} {v : Value} {len : Nat} {cs : List Value} (h : SL H sz v len cs) (hH : ∀ i, idOf v = some i → H' i = H i) : SL H' sz v len cs := by
  rcases h with h | ⟨b, k, cap, c, rfl, h2, h3⟩
  · exact .inl h
  · exact .inr ⟨b, k, cap, c, rfl, by rw [hH b rfl]; exact h2, h3⟩
def Below (m : Nat) (v : Value) : Prop := ∀ i, idOf v = some i → i < m
theorem SL.abs {H H' : Heap} {sz : Nat} {v : Value} {len : Nat} {cs : List Value} {m n n' : Nat} (h : SL H sz v len cs) (hb : Below m v) (ha : AbsOk m n H n' H') : SL H' sz v len cs := h.mono fun i hi => ha.eq (hb i hi)
theorem OwnS.abs {lo n : Nat} {H H' : Heap} {sz : Nat} {v : Value} {len : Nat} {cs : List Value} {n' : Nat} (h : OwnS lo n H sz v len cs) (ha : AbsOk n n H n' H') : OwnS lo n' H' sz v len cs := h.mono (Nat.le_refl _) ha.le fun i hi _ => ha.eq hi
section
variable {P : Program} {Δ : Prims} {lo : Nat} {fr : Fr} {n : Nat} {H : Heap} {Q : Post} {all : Array Oper} {l : List Oper} {o : Oper} {d : Nat}
theorem Src.ofSL {ev : Operand → Option Value} {size m : Nat} {u : TypeId} {y : Operand} {dd : TypeDesc} {v : Value} {cs : List Value} (hu : P.underlying u = some dd) (hd : isInt dd = false) (hy : ev y = some v) (h : SL H size v m cs) : Src P ev H size u y m cs := by
  rcases h with ⟨rfl, rfl, rfl⟩ | ⟨b, k, cap, c, rfl, hb, hc, hcl⟩
  · exact .nil hu hd hy
  · exact .slice hu hd hy hb hc hcl
end
def SLI (m : Nat) (H : Heap) (sz : Nat) (v : Value) (len : Nat) (cs : List Value) : Prop := SL H sz v len cs ∧ Below m v
theorem SLI.keep {m m' : Nat} {H H' : Heap} {sz : Nat} {v : Value} {len : Nat} {cs : List Value} (h : SLI m H sz v len cs) (hm : m ≤ m') (hk : ∀ i, i < m → H' i = H i) : SLI m' H' sz v len cs :=
  ⟨h.1.mono fun i hi => hk i (h.2 i hi), fun i hi => Nat.lt_of_lt_of_le (h.2 i hi) hm⟩
theorem OwnS.keep {lo lo' n n' : Nat} {H H' : Heap} {sz : Nat} {v : Value} {len : Nat} {cs : List Value} (h : OwnS lo n H sz v len cs) (hlo : lo' ≤ lo) (hn : n ≤ n') (hk : ∀ i, i < n → H' i = H i) : OwnS lo' n' H' sz v len cs := h.mono hlo hn fun i hi _ => hk i hi
abbrev BSI (m : Nat) (H : Heap) (v : Value) (bs : List UInt8) : Prop := SLI m H 1 v bs.length (bs.map u8)
section
variable {P : Program} {Δ : Prims} {lo : Nat} {fr : Fr} {n : Nat} {H : Heap} {Q : Post} {all : Array Oper} {l : List Oper} {o : Oper} {d : Nat}
end
end Go.Proofs.YtlpcdcpcfeaecaaAb
end
section
namespace Go.Proofs.YtlpcdcpcfeaecaaAb
open Go
section
variable {P : Program} {Δ : Prims}
theorem D.op_congr {lo : Nat} {o : Oper} {fr fr2 : Fr} {n n' : Nat} {H H' : Heap} {v : Value} (hs : Fr.same fr2 fr) (h : D P Δ (.op lo o fr n H v n' H')) : D P Δ (.op lo o fr2 n H v n' H') := by
  have he := Fr.same_eval hs
  generalize hj : J.op lo o fr n H v n' H' = j at h
  cases h with
  | step h => cases hj; exact .step (by rw [he]; exact h)
  | stepM h => cases hj; exact .stepM (by rw [he]; exact h)
  | callF ho hx ha hfn hname hbody h1 h2 h => cases hj; exact .callF ho (by rw [he]; exact hx) (by rw [he]; exact ha) hfn hname hbody h1 h2 h
  | _ => cases hj
theorem TR.fns {lo : Nat} {all : Array Oper} {fl : List Bool} {l : List Oper} {fr fr' : Fr} {n n' : Nat} {H H' : Heap} {e : Ex} (h : TR P Δ lo all fl l fr n H e fr' n' H') : fl.length = l.length → ∀ frx, Fr.same frx fr →
    e = .norm ∧ ∃ (F : Nat → Fr) (N : Nat → Nat) (HH : Nat → Heap) (V : Nat → Value) (K : Nat → Bool), F 0 = frx ∧ N 0 = n ∧ HH 0 = H ∧ Fr.same (F l.length) fr' ∧ N l.length = n' ∧ HH l.length = H' ∧
      ∀ k, k < l.length → wantedA all (l.getD k default) (F k) = some (K k) ∧ F (k + 1) = (F k).put (l.getD k default).dst (V k) ∧ (K k = false → V k = undef ∧ N (k + 1) = N k ∧ HH (k + 1) = HH k) ∧
        (K k = true → D P Δ (.op (if fl.getD k true then lo else N k) (l.getD k default) (F k) (N k) (HH k) (V k) (N (k + 1)) (HH (k + 1)))) := by
  induction h with
  | nil =>
    intro _ frx hx
    exact ⟨rfl, fun _ => frx, fun _ => _, fun _ => _, fun _ => undef, fun _ => false, rfl, rfl, rfl, hx, rfl, rfl, fun k hk => by simp at hk⟩
  | @skip fl fl2 lw o l fr fr' n n' H H' e hfl hw h ih =>
    intro hlen frx hx
    have hlen2 : fl2.length = l.length := by cases hfl <;> simp at hlen ⊢ <;> omega
    obtain ⟨he, F, N, HH, V, K, f0, n0, h0, f1, n1, h1, hk⟩ := ih hlen2 (frx.put o.dst undef) (Fr.same_put hx _ _)
    refine ⟨he, fun k => match k with | 0 => frx | k + 1 => F k, fun k => match k with | 0 => n | k + 1 => N k, fun k => match k with | 0 => H | k + 1 => HH k, fun k => match k with | 0 => undef | k + 1 => V k, fun k => match k with | 0 => false | k + 1 => K k,
      rfl, rfl, rfl, by simpa using f1, by simpa using n1, by simpa using h1, fun k hkl => ?_⟩
    cases k with
    | zero =>
      refine ⟨by rw [Fr.same_wanted hx]; exact hw, f0, fun _ => ⟨rfl, n0, h0⟩, fun h => by cases h⟩
    | succ k =>
      have := hk k (by simpa using hkl)
      simp only [List.getD_cons_succ]
      have e1 : fl.getD (k + 1) true = fl2.getD k true := by cases hfl <;> simp
      rw [e1]; exact this
  | @cons fl fl2 lw o l fr fr' n n1 n' H H1 H' v e hfl hw hd h ih =>
    intro hlen frx hx
    have hlen2 : fl2.length = l.length := by cases hfl <;> simp at hlen ⊢ <;> omega
    obtain ⟨he, F, N, HH, V, K, f0, n0, h0, f1, nn1, h1, hk⟩ := ih hlen2 (frx.put o.dst v) (Fr.same_put hx _ _)
    refine ⟨he, fun k => match k with | 0 => frx | k + 1 => F k, fun k => match k with | 0 => n | k + 1 => N k, fun k => match k with | 0 => H | k + 1 => HH k, fun k => match k with | 0 => v | k + 1 => V k, fun k => match k with | 0 => true | k + 1 => K k,
      rfl, rfl, rfl, by simpa using f1, by simpa using nn1, by simpa using h1, fun k hkl => ?_⟩
    cases k with
    | zero =>
      refine ⟨by rw [Fr.same_wanted hx]; exact hw, f0, fun h => (by cases h), fun _ => ?_⟩
      have e1 : (if fl.getD 0 true then lo else n) = lw := by cases hfl <;> simp
      show D P Δ (.op (if fl.getD 0 true then lo else n) o frx n H v (N 0) (HH 0))
      rw [n0, h0, e1]
      exact D.op_congr hx hd
    | succ k =>
      have := hk k (by simpa using hkl)
      simp only [List.getD_cons_succ]
      have e1 : fl.getD (k + 1) true = fl2.getD k true := by cases hfl <;> simp
      rw [e1]; exact this
  | eqv hs h ih => exact fun hlen frx hx => ih hlen frx (fun t => (hx t).trans (hs t).symm)
  | ops hne h => exact fun hlen => absurd (List.eq_nil_of_length_eq_zero (by simpa using hlen.symm)) hne
def calmB (ops : Array Oper) (r : List Nat) (isW : Nat → Bool) : Bool :=
  (List.range (ops.size + 1)).all fun c => (List.range c).all fun k => !(decide (c = ops.size) || isW c) || isW k || !floatsB ops r isW k c
theorem W.regionD {lo : Nat} {id : Nat} {l : List Oper} {fr : Fr} {n : Nat} {H : Heap} {Q : Post} (r : List Nat) (fl : List Bool) (hlen : fl.length = l.length) (hrl : r.length = l.length) (hchk : regOK l.toArray r (fun k => fl.getD k true) = true) (hcalm : calmB l.toArray r (fun k => fl.getD k true) = true)
    {pl : List Oper} (hpl : r.map (fun i => l.getD i default) = pl) (h : WL P Δ lo fl l.toArray pl fr n H Q) : W P Δ lo (.region id l.toArray true) fr n H Q := by
  obtain ⟨e, fr', n', H', tr, q⟩ := h
  have hpll : pl.length = l.length := by rw [← hpl]; simp [hrl]
  obtain ⟨rfl, F, N, HH, V, K, rfl, rfl, rfl, f1, rfl, rfl, hk⟩ := tr.fns (by rw [hlen, hpll]) fr (Fr.same_refl fr)
  have hget : ∀ k, k < l.length → pl.getD k default = l.toArray.getD (r.getD k 0) default := fun k hk' => by
    rw [← hpl]
    have hkr : k < r.length := by omega
    simp [List.getD, List.getElem?_map, List.getElem?_eq_getElem hkr, Array.getD_eq_getD_getElem?]
  have hsz : l.toArray.size = l.length := by simp
  refine ⟨.norm, fr', _, _, D.drop (D.regionD (id := id) r (fun k => fl.getD k true) K F N HH V hchk (fun k hk' => ?_) (fun k hk' => ?_) (fun k hk' hf => ?_) (fun k hk' ht => ?_) (fun k c hkc hc hcw hw hfl hwk => ?_)) (fun t v hv => ?_), ?_⟩
  · rw [hsz] at hk'; rw [← hget k hk']; exact (hk k (by omega)).1
  · rw [hsz] at hk'; rw [← hget k hk']; exact (hk k (by omega)).2.1
  · rw [hsz] at hk'; exact (hk k (by omega)).2.2.1 hf
  · rw [hsz] at hk'; rw [← hget k hk']; exact (hk k (by omega)).2.2.2 ht
  · exfalso
    simp only [calmB, List.all_eq_true, List.mem_range] at hcalm
    have := hcalm c (by omega) k hkc
    rw [hfl, hw] at this
    have h2 : (decide (c = l.toArray.size) || fl.getD c true) = true := by
      rcases hcw with h | h
      · simp [h]
      · rw [h]; simp
    rw [h2] at this
    cases this
  · rw [hsz, ← hpll, f1 t]; exact hv
  · rw [hsz, ← hpll]; exact q
end
end Go.Proofs.YtlpcdcpcfeaecaaAb
end
section
namespace Go.Proofs.YtlpcdcpcfeaecaaAb
open Go
def topOf : IntKind → Int
  | .u8 => 256 | .u16 => 65536 | .u32 => 4294967296 | .u64 => 18446744073709551616 | .i8 => 128 | .i16 => 32768 | .i32 => 2147483648 | .i64 => 9223372036854775808
theorem wrap_in {k : IntKind} {x : Int} (h0 : 0 ≤ x) (h1 : x < topOf k) : IntKind.wrap k x = x := by
  have p8 : (2 : Int) ^ 8 = 256 := by decide
  have p7 : (2 : Int) ^ (8 - 1) = 128 := by decide
  have p16 : (2 : Int) ^ 16 = 65536 := by decide
  have p15 : (2 : Int) ^ (16 - 1) = 32768 := by decide
  have p32 : (2 : Int) ^ 32 = 4294967296 := by decide
  have p31 : (2 : Int) ^ (32 - 1) = 2147483648 := by decide
  have p64 : (2 : Int) ^ 64 = 18446744073709551616 := by decide
  have p63 : (2 : Int) ^ (64 - 1) = 9223372036854775808 := by decide
  cases k <;> simp only [topOf] at h1 <;> simp only [IntKind.wrap, IntKind.bits, IntKind.signed, Bool.true_and, Bool.false_and, Bool.false_eq_true, if_false, p8, p7, p16, p15, p32, p31, p64, p63, decide_eq_true_eq] <;> first | omega | (split <;> omega)
theorem topOf_le (k : IntKind) : topOf k ≤ 2 ^ k.bits := by cases k <;> simp only [topOf, IntKind.bits] <;> decide
theorem toNat_ofInt {k : IntKind} {x : Int} (h0 : 0 ≤ x) (h1 : x < topOf k) : (BitVec.ofInt k.bits x).toNat = x.toNat := by
  have h2 := topOf_le k
  obtain ⟨m, rfl⟩ := Int.eq_ofNat_of_zero_le h0
  rw [BitVec.ofInt_natCast, BitVec.toNat_ofNat, Int.toNat_natCast]
  apply Nat.mod_eq_of_lt
  have h3 : (m : Int) < ((2 ^ k.bits : Nat) : Int) := by
    have : ((2 ^ k.bits : Nat) : Int) = 2 ^ k.bits := by simp
    omega
  exact_mod_cast h3
theorem topOf_pow (k : IntKind) (h : 0 < topOf k) : ∃ w, topOf k = ((2 ^ w : Nat) : Int) := by
  cases k <;> simp only [topOf] at h ⊢
  case i8 => exact ⟨7, by decide⟩
  case i16 => exact ⟨15, by decide⟩
  case i32 => exact ⟨31, by decide⟩
  case i64 => exact ⟨63, by decide⟩
  case u8 => exact ⟨8, by decide⟩
  case u16 => exact ⟨16, by decide⟩
  case u32 => exact ⟨32, by decide⟩
  case u64 => exact ⟨64, by decide⟩
theorem bits_and {k : IntKind} {a b : Int} (ha : 0 ≤ a) (ha' : a < topOf k) (hb : 0 ≤ b) (hb' : b < topOf k) : k.wrap ((BitVec.ofInt k.bits a &&& BitVec.ofInt k.bits b).toNat : Int) = ((a.toNat &&& b.toNat : Nat) : Int) ∧ ((a.toNat &&& b.toNat : Nat) : Int) < topOf k := by
  obtain ⟨w, hw⟩ := topOf_pow k (by omega)
  have h : a.toNat &&& b.toNat < 2 ^ w := Nat.and_lt_two_pow _ (by omega)
  have h' : ((a.toNat &&& b.toNat : Nat) : Int) < topOf k := by rw [hw]; exact_mod_cast h
  rw [BitVec.toNat_and, toNat_ofInt ha ha', toNat_ofInt hb hb', wrap_in (by omega) h']
  exact ⟨rfl, h'⟩
theorem bits_or {k : IntKind} {a b : Int} (ha : 0 ≤ a) (ha' : a < topOf k) (hb : 0 ≤ b) (hb' : b < topOf k) : k.wrap ((BitVec.ofInt k.bits a ||| BitVec.ofInt k.bits b).toNat : Int) = ((a.toNat ||| b.toNat : Nat) : Int) ∧ ((a.toNat ||| b.toNat : Nat) : Int) < topOf k := by
  obtain ⟨w, hw⟩ := topOf_pow k (by omega)
  have h : a.toNat ||| b.toNat < 2 ^ w := Nat.or_lt_two_pow (by omega) (by omega)
  have h' : ((a.toNat ||| b.toNat : Nat) : Int) < topOf k := by rw [hw]; exact_mod_cast h
  rw [BitVec.toNat_or, toNat_ofInt ha ha', toNat_ofInt hb hb', wrap_in (by omega) h']
  exact ⟨rfl, h'⟩
section
variable {P : Program} {Δ : Prims} {lo : Nat} {fr : Fr} {n : Nat} {H : Heap} {Q : Post} {all : Array Oper} {l : List Oper} {o : Oper} {d : Nat}
theorem WL.andN {fl fl2 : List Bool} {lw : Nat} (hfl : IsFl fl lo n lw fl2) {t t' : TypeId} {x y : Operand} {k : IntKind} {a b T : Int} {an bn : Nat} (ho : o.op = .binOp .and t x y t') (hd : o.dst = some d) (hw : wantedA all o fr = some true) (hx : fr.eval x = some (.int k a)) (hy : fr.eval y = some (.int k b))
    (hT : topOf k = T) (ea : a.toNat = an) (eb : b.toNat = bn) (ha : 0 ≤ a) (ha' : a < T) (hb : 0 ≤ b) (hb' : b < T) (kk : ((an &&& bn : Nat) : Int) < T → WL P Δ lo fl2 all l ((d, .int k ((an &&& bn : Nat) : Int)) :: fr) n H Q) : WL P Δ lo fl all (o :: l) fr n H Q := by
  subst hT; subst ea; subst eb
  obtain ⟨h1, h2⟩ := bits_and ha ha' hb hb'
  exact WL.bin hfl ho hd hw hx hy (by simp only [binI, if_true]; rw [h1]) (kk h2)
theorem WL.orN {fl fl2 : List Bool} {lw : Nat} (hfl : IsFl fl lo n lw fl2) {t t' : TypeId} {x y : Operand} {k : IntKind} {a b T : Int} {an bn : Nat} (ho : o.op = .binOp .or t x y t') (hd : o.dst = some d) (hw : wantedA all o fr = some true) (hx : fr.eval x = some (.int k a)) (hy : fr.eval y = some (.int k b))
    (hT : topOf k = T) (ea : a.toNat = an) (eb : b.toNat = bn) (ha : 0 ≤ a) (ha' : a < T) (hb : 0 ≤ b) (hb' : b < T) (kk : ((an ||| bn : Nat) : Int) < T → WL P Δ lo fl2 all l ((d, .int k ((an ||| bn : Nat) : Int)) :: fr) n H Q) : WL P Δ lo fl all (o :: l) fr n H Q := by
  subst hT; subst ea; subst eb
  obtain ⟨h1, h2⟩ := bits_or ha ha' hb hb'
  exact WL.bin hfl ho hd hw hx hy (by simp only [binI, if_true]; rw [h1]) (kk h2)
theorem WL.shrN {fl fl2 : List Bool} {lw : Nat} (hfl : IsFl fl lo n lw fl2) {t t' : TypeId} {x y : Operand} {k k' : IntKind} {a b : Int} {an bn : Nat} (ho : o.op = .binOp .shr t x y t') (hd : o.dst = some d) (hw : wantedA all o fr = some true) (hx : fr.eval x = some (.int k a)) (hy : fr.eval y = some (.int k' b))
    (ea : a.toNat = an) (eb : 2 ^ b.toNat = bn) (ha : 0 ≤ a) (hb : 0 ≤ b) (hb' : b.toNat ≤ k.bits) (kk : ((an / bn : Nat) : Int) ≤ a → WL P Δ lo fl2 all l ((d, .int k ((an / bn : Nat) : Int)) :: fr) n H Q) : WL P Δ lo fl all (o :: l) fr n H Q := by
  subst ea; subst eb
  have e : a.fdiv (2 ^ (min b.toNat k.bits)) = ((a.toNat / 2 ^ b.toNat : Nat) : Int) := by
    rw [Nat.min_eq_left hb']
    obtain ⟨m, rfl⟩ := Int.eq_ofNat_of_zero_le ha
    rw [Int.toNat_natCast, Int.natCast_ediv]
    have e2 : ((2 ^ b.toNat : Nat) : Int) = 2 ^ b.toNat := by simp
    rw [e2, Int.fdiv_eq_ediv_of_nonneg _ (by rw [← e2]; exact Int.natCast_nonneg _)]
  have h : ((a.toNat / 2 ^ b.toNat : Nat) : Int) ≤ a := by
    have : a.toNat / 2 ^ b.toNat ≤ a.toNat := Nat.div_le_self _ _
    omega
  exact WL.shrI hfl ho hd hw hx hy hb (by rw [e]; exact kk h)
theorem WL.convN {fl fl2 : List Bool} {lw : Nat} (hfl : IsFl fl lo n lw fl2) {s t : TypeId} {ds : TypeDesc} {x : Operand} {q k : IntKind} {a T : Int} (ho : o.op = .convert s t x) (hd : o.dst = some d) (hw : wantedA all o fr = some true) (hs : P.underlying s = some ds) (ht : P.underlying t = some (.int k)) (hx : fr.eval x = some (.int q a)) (hT : topOf k = T) (h0 : 0 ≤ a) (h1 : a < T) (kk : WL P Δ lo fl2 all l ((d, .int k a) :: fr) n H Q) : WL P Δ lo fl all (o :: l) fr n H Q :=
  WL.convI hfl ho hd hw hs ht hx (by rw [wrap_in h0 (by rw [hT]; exact h1)]; exact kk)
theorem topU64 : topOf .u64 = 18446744073709551616 := rfl
theorem topI64 : topOf .i64 = 9223372036854775808 := rfl
theorem u8_lt8 (c : UInt8) : (c.toNat : Int) < 256 := by have := c.toNat_lt; omega
theorem u8_lt63 (c : UInt8) : (c.toNat : Int) < 9223372036854775808 := by have := c.toNat_lt; omega
theorem u8_bnd (c : UInt8) : 0 ≤ (c.toNat : Int) ∧ (c.toNat : Int) < 256 := by have := c.toNat_lt; omega
end
end Go.Proofs.YtlpcdcpcfeaecaaAb
namespace Go.Proofs.YtlpcdcpcfeaecaaAb
open Go
end Go.Proofs.YtlpcdcpcfeaecaaAb
end
section
namespace Go.Proofs.YtlpcdcpcfeaecaaAb
open Go
def Heap.Le (F H : Heap) : Prop := ∀ i o, F i = some o → H i = some o
theorem Heap.Le.refl (H : Heap) : H.Le H := fun _ _ h => h
theorem Heap.Le.none {A B : Heap} (a : A.Le B) {i : Nat} (h : B i = none) : A i = none := by
  cases e : A i with
  | none => rfl
  | some o => rw [a i o e] at h; cases h
theorem Heap.Le.trans {A B C : Heap} (a : A.Le B) (b : B.Le C) : A.Le C := fun i o h => b i o (a i o h)
structure St (lo n : Nat) (H F : Heap) : Prop where
  lo : lo ≤ n
  hb : ∀ i, n ≤ i → H i = none
  fh : F.Le H
theorem St.fnone {lo n : Nat} {H F : Heap} (h : St lo n H F) {i : Nat} (hi : n ≤ i) : F i = none := by
  cases e : F i with
  | none => rfl
  | some o => have := h.fh i o e; rw [h.hb i hi] at this; cases this
theorem St.lt {lo n : Nat} {H F : Heap} (h : St lo n H F) {i : Nat} {o : Ob} (hi : H i = some o) : i < n := by
  rcases Nat.lt_or_ge i n with h1 | h1
  · exact h1
  · rw [h.hb i h1] at hi; cases hi
structure Ext (n0 : Nat) (F0 : Heap) (n : Nat) (F : Heap) : Prop where
  le : n0 ≤ n
  sub : F0.Le F
  eq : ∀ i, i < n0 → F i = F0 i
theorem Ext.refl (n : Nat) (F : Heap) : Ext n F n F := ⟨Nat.le_refl _, .refl _, fun _ _ => rfl⟩
theorem Ext.up {n0 n n' : Nat} {F0 F : Heap} (a : Ext n0 F0 n F) (h : n ≤ n') : Ext n0 F0 n' F := ⟨Nat.le_trans a.le h, a.sub, a.eq⟩
theorem Ext.trans {n0 n1 n2 : Nat} {F0 F1 F2 : Heap} (a : Ext n0 F0 n1 F1) (b : Ext n1 F1 n2 F2) : Ext n0 F0 n2 F2 :=
  ⟨Nat.le_trans a.le b.le, a.sub.trans b.sub, fun i hi => (b.eq i (by have := a.le; omega)).trans (a.eq i hi)⟩
class Rp (α : Type) where
  sz : Nat
  R : Heap → List Value → α → Prop
  len : ∀ {F : Heap} {cs : List Value} {a : α}, R F cs a → cs.length = sz
  one : ∀ {F : Heap} {cs : List Value} {a : α}, R F cs a → ∀ v ∈ cs, v.oneCell' = true
  mono : ∀ {F F' : Heap} {cs : List Value} {a : α}, R F cs a → F.Le F' → R F' cs a
class Sc (α : Type) where
  val : α → Value
  one : ∀ a, (val a).oneCell' = true
  gr : ∀ a, Gr (val a)
instance (priority := 900) scRp {α : Type} [Sc α] : Rp α where
  sz := 1
  R _ cs a := cs = [Sc.val a]
  len h := by rw [h]; rfl
  one h v hv := by rw [h] at hv; rcases List.mem_singleton.1 hv with rfl; exact Sc.one _
  mono h _ := h
def Str : Type := List UInt8
instance : DecidableEq Str := inferInstanceAs (DecidableEq (List UInt8))
instance : Inhabited Str := ⟨([] : List UInt8)⟩
theorem gr_u8 (b : UInt8) : Gr (u8 b) := gr_int _ _
theorem gr_str (l : List UInt8) : Gr (str l) := gr_string _
instance : Sc Int := ⟨fun x => .int .i64 x, fun _ => rfl, fun _ => gr_int _ _⟩
instance : Sc Bool := ⟨fun x => .bool x, fun _ => rfl, fun _ => gr_bool _⟩
instance : Sc UInt8 := ⟨u8, fun _ => rfl, fun _ => gr_u8 _⟩
instance : Sc Str := ⟨fun s => str s, fun _ => rfl, fun _ => gr_str _⟩
inductive RA {α : Type} [Rp α] (F : Heap) : List Value → List α → Prop
  | nil : RA F [] []
  | cons {cs cs2 : List Value} {a : α} {asx : List α} (h : Rp.R F cs a) (t : RA F cs2 asx) : RA F (cs ++ cs2) (a :: asx)
section
variable {α : Type} [Rp α] {F F' : Heap} {cs cs2 : List Value} {xs ys : List α}
theorem RA.length (h : RA F cs xs) : cs.length = xs.length * Rp.sz α := by
  induction h with
  | nil => simp
  | cons h t ih => rw [List.length_append, ih, Rp.len h, List.length_cons, Nat.add_mul, Nat.one_mul, Nat.add_comm]
theorem RA.one (h : RA F cs xs) : ∀ v ∈ cs, v.oneCell' = true := by
  induction h with
  | nil => intro v hv; cases hv
  | cons h t ih => intro v hv; rcases List.mem_append.1 hv with hv | hv; exact Rp.one h v hv; exact ih v hv
theorem RA.mono (h : RA F cs xs) (hle : F.Le F') : RA F' cs xs := by
  induction h with
  | nil => exact .nil
  | cons h t ih => exact .cons (Rp.mono h hle) ih
theorem RA.append (h : RA F cs xs) (h2 : RA F cs2 ys) : RA F (cs ++ cs2) (xs ++ ys) := by
  induction h with
  | nil => exact h2
  | cons h t ih => rw [List.append_assoc]; exact .cons h ih
theorem RA.take (h : RA F cs xs) (k : Nat) : RA F (cs.take (k * Rp.sz α)) (xs.take k) := by
  induction h generalizing k with
  | nil => simp only [List.take_nil]; exact .nil
  | cons h t ih =>
    cases k with
    | zero => simp only [Nat.zero_mul, List.take_zero]; exact .nil
    | succ k =>
      rw [Nat.succ_mul, Nat.add_comm, ← Rp.len h, List.take_length_add_append, List.take_succ_cons, Rp.len h]
      exact .cons h (ih k)
theorem RA.drop (h : RA F cs xs) (k : Nat) : RA F (cs.drop (k * Rp.sz α)) (xs.drop k) := by
  induction h generalizing k with
  | nil => simp only [List.drop_nil]; exact .nil
  | cons h t ih =>
    cases k with
    | zero => simp only [Nat.zero_mul, List.drop_zero]; exact .cons h t
    | succ k =>
      rw [Nat.succ_mul, Nat.add_comm, ← Rp.len h, List.drop_length_add_append, List.drop_succ_cons, Rp.len h]
      exact ih k
theorem RA.head {a : α} (h : RA F cs (a :: xs)) : Rp.R F (cs.take (Rp.sz α)) a := by
  cases h with
  | cons h t => rw [List.take_left' (Rp.len h)]; exact h
theorem RA.get (h : RA F cs xs) {j : Nat} (hj : j < xs.length) : Rp.R F ((cs.drop (j * Rp.sz α)).take (Rp.sz α)) xs[j] := by
  have := h.drop j
  rw [List.drop_eq_getElem_cons hj] at this
  exact this.head
theorem RA.set (h : RA F cs xs) {j : Nat} (hj : j < xs.length) {ncs : List Value} {y : α} (hy : Rp.R F ncs y) : RA F (splice cs (j * Rp.sz α) ncs) (xs.set j y) := by
  have e : xs.set j y = xs.take j ++ y :: xs.drop (j + 1) := by rw [List.set_eq_take_append_cons_drop, if_pos hj]
  rw [e, splice, Rp.len hy, List.append_assoc]
  refine (h.take j).append (.cons hy ?_)
  have := h.drop (j + 1)
  rwa [Nat.succ_mul] at this
theorem RA.replicate {z : α} (h : Rp.R F cs z) (m : Nat) : RA F (List.replicate m cs).flatten (List.replicate m z) := by
  induction m with
  | zero => exact .nil
  | succ m ih => rw [List.replicate_succ, List.flatten_cons, List.replicate_succ]; exact .cons h ih
end
theorem RA.sc {α : Type} [Sc α] {F : Heap} {cs : List Value} {xs : List α} (h : RA F cs xs) : cs = xs.map Sc.val := by
  induction h with
  | nil => rfl
  | cons h t ih => rw [ih, show _ = _ from h]; rfl
theorem RA.ofSc {α : Type} [Sc α] (F : Heap) (xs : List α) : RA F (xs.map Sc.val) xs := by
  induction xs with
  | nil => exact .nil
  | cons x xs ih => exact .cons (cs := [Sc.val x]) rfl ih
def SR {α : Type} [Rp α] (F : Heap) (v : Value) (xs : List α) : Prop := xs.length < UNK ∧ ∃ cs, SL F (Rp.sz α) v xs.length cs ∧ RA F cs xs
instance listRp {α : Type} [Rp α] : Rp (List α) where
  sz := 1
  R F cs xs := ∃ v, cs = [v] ∧ SR F v xs
  len h := by obtain ⟨v, rfl, _⟩ := h; rfl
  one h u hu := by
    obtain ⟨v, rfl, _, cs, h, _⟩ := h
    rcases List.mem_singleton.1 hu with rfl
    obtain ⟨a, cap, rfl⟩ := h.form
    rfl
  mono h hle := by
    obtain ⟨v, rfl, h0, cs, h1, h2⟩ := h
    refine ⟨v, rfl, h0, cs, ?_, h2.mono hle⟩
    rcases h1 with h1 | ⟨b, k, cap, c, e1, e2, e3⟩
    · exact .inl h1
    · exact .inr ⟨b, k, cap, c, e1, hle b _ e2, e3⟩
section
variable {α : Type} [Rp α] {F F' H H' : Heap} {v : Value} {xs ys : List α} {lo n n' : Nat}
theorem SR.mono (h : SR F v xs) (hle : F.Le F') : SR F' v xs := by
  obtain ⟨_, e, h⟩ := (listRp (α := α)).mono (a := xs) ⟨v, rfl, h⟩ hle
  cases e; exact h
theorem SR.nil : SR F (.slice none 0 0) ([] : List α) := ⟨by simp [UNK], [], .inl ⟨rfl, rfl, rfl⟩, .nil⟩
theorem SR.lt (h : SR F v xs) : xs.length < UNK := h.1
theorem SR.some {b k len cap : Nat} (h : SR F (.slice (some ⟨b, k, none⟩) len cap) xs) : ∃ o, F b = some o := by
  obtain ⟨h0, cs, h1, h2⟩ := h
  rcases h1 with ⟨e, _⟩ | ⟨b', k', cap', c, e, e2, _⟩
  · cases e
  · cases e; exact ⟨_, e2⟩
def OW {α : Type} [Rp α] (lo n : Nat) (H F : Heap) (v : Value) (xs : List α) : Prop :=
  xs.length < UNK ∧ (∀ i, idOf v = some i → F i = none) ∧ ∃ cs, OwnS lo n H (Rp.sz α) v xs.length cs ∧ RA F cs xs
theorem OW.nil : OW lo n H F (.slice none 0 0) ([] : List α) := ⟨by simp [UNK], fun i h => (by cases h), [], .inl ⟨rfl, rfl, rfl⟩, .nil⟩
theorem OW.id_lt (h : OW lo n H F v xs) {i : Nat} (hi : idOf v = some i) : lo ≤ i ∧ i < n := by
  obtain ⟨_, _, cs, h, _⟩ := h; exact h.id_lt hi
theorem OW.fnone (h : OW lo n H F v xs) {i : Nat} (hi : idOf v = some i) : F i = none := h.2.1 i hi
theorem OW.keep (h : OW lo n H F v xs) (hn : n ≤ n') (hk : ∀ i, idOf v = some i → H' i = H i) : OW lo n' H' F v xs := by
  obtain ⟨h0, h1, cs, h2, h3⟩ := h
  exact ⟨h0, h1, cs, h2.mono (Nat.le_refl _) hn (fun i _ hi => hk i hi), h3⟩
theorem OW.keepF (h : OW lo n H F v xs) (hle : F.Le F') (hf : ∀ i, idOf v = some i → F' i = none) : OW lo n H F' v xs := by
  obtain ⟨h0, h1, cs, h2, h3⟩ := h
  exact ⟨h0, hf, cs, h2, h3.mono hle⟩
theorem OW.lower {lo' : Nat} (h : OW lo n H F v xs) (hl : lo' ≤ lo) : OW lo' n H F v xs := by
  obtain ⟨h0, h1, cs, h2, h3⟩ := h
  exact ⟨h0, h1, cs, h2.mono hl (Nat.le_refl _) (fun i _ hi => rfl), h3⟩
theorem OW.le (h : OW lo n H F v xs) (hle : H.Le H') : OW lo n H' F v xs := by
  obtain ⟨h0, h1, cs, h2, h3⟩ := h
  refine ⟨h0, h1, cs, ?_, h3⟩
  rcases h2 with h | ⟨b, k, cap, c, rfl, hb, h2⟩
  · exact .inl h
  · exact .inr ⟨b, k, cap, c, rfl, hle b _ hb, h2⟩
theorem OW.alive (h : OW lo n H F v xs) {i : Nat} (hi : idOf v = some i) : ∃ o, H i = some o := by
  obtain ⟨h0, h1, cs, h2, h3⟩ := h
  rcases h2 with ⟨rfl, _⟩ | ⟨b, k, cap, c, rfl, hb, h2⟩
  · cases hi
  · cases hi; exact ⟨_, hb⟩
theorem OW.freeze {lo0 : Nat} (h : OW lo n H F v xs) (hS : St lo0 n H F) : ∃ F', St lo0 n H F' ∧ F.Le F' ∧ SR F' v xs ∧ ∀ i, idOf v ≠ some i → F' i = F i := by
  obtain ⟨h0, h1, cs, h2, h3⟩ := h
  rcases h2 with ⟨rfl, e1, e2⟩ | ⟨b, k, cap, c, rfl, hb, e1, e2, e3⟩
  · exact ⟨F, hS, .refl _, ⟨h0, cs, .inl ⟨rfl, e1, e2⟩, h3⟩, fun _ _ => rfl⟩
  · have hfb := h1 b rfl
    have hle : F.Le (F.set b (.row (Rp.sz α) c)) := fun i o hi => by
      by_cases hib : i = b
      · subst hib; rw [hfb] at hi; cases hi
      · rw [Heap.set_ne _ _ hib]; exact hi
    refine ⟨F.set b (.row (Rp.sz α) c), ⟨hS.lo, hS.hb, fun i o hi => ?_⟩, hle, ⟨h0, cs, .inr ⟨b, k, cap, c, rfl, Heap.set_same _ _ _, e1, e2⟩, h3.mono hle⟩, fun i hi => Heap.set_ne _ _ (fun e => hi (by simp [idOf, e]))⟩
    by_cases hib : i = b
    · subst hib; rw [Heap.set_same] at hi; rw [hb]; exact hi
    · rw [Heap.set_ne _ _ hib] at hi; exact hS.fh i o hi
theorem OW.sr (h : OW lo n H F v xs) (hS : F.Le H) : SR H v xs := by
  obtain ⟨h0, h1, cs, h2, h3⟩ := h
  exact ⟨h0, cs, h2.sl, h3.mono hS⟩
end
end Go.Proofs.YtlpcdcpcfeaecaaAb
end
section
namespace Go.Proofs.YtlpcdcpcfeaecaaAb
open Go
def chk {α : Type} (p : Prop) [Decidable p] (k : Option α) : Option α := if p then k else none
theorem chk_some {α : Type} {p : Prop} [Decidable p] {k : Option α} {r : α} (h : chk p k = some r) : p ∧ k = some r := by
  unfold chk at h; split at h
  · exact ⟨by assumption, h⟩
  · cases h
theorem chk_pos {α : Type} {p : Prop} [Decidable p] {k : Option α} (h : p) : chk p k = k := if_pos h
theorem bnd_some {α β : Type} {o : Option α} {k : α → Option β} {r : β} (h : o.bind k = some r) : ∃ a, o = some a ∧ k a = some r := Option.bind_eq_some_iff.1 h
theorem ite_pos {α : Type} {p : Prop} [Decidable p] {a b : Option α} {r : α} (h : (if p then a else b) = some r) (hp : p) : a = some r := by rwa [if_pos hp] at h
theorem ite_neg {α : Type} {p : Prop} [Decidable p] {a b : Option α} {r : α} (h : (if p then a else b) = some r) (hp : ¬ p) : b = some r := by rwa [if_neg hp] at h
theorem iteB_pos {α : Type} {p : Bool} {a b : Option α} {r : α} (h : (if p = true then a else b) = some r) (hp : p = true) : a = some r := by rwa [if_pos hp] at h
theorem iteB_neg {α : Type} {p : Bool} {a b : Option α} {r : α} (h : (if p = true then a else b) = some r) (hp : p = false) : b = some r := by rwa [if_neg (by simp [hp])] at h
def idx {α : Type} (xs : List α) (j : Int) : Option α := if 0 ≤ j then xs[j.toNat]? else none
theorem idx_inv {α : Type} {xs : List α} {j : Int} {x : α} (h : idx xs j = some x) : 0 ≤ j ∧ j < xs.length ∧ ∃ hj : j.toNat < xs.length, xs[j.toNat] = x := by
  unfold idx at h; split at h
  · obtain ⟨h1, h2⟩ := List.getElem?_eq_some_iff.1 h; exact ⟨by assumption, by omega, h1, h2⟩
  · cases h
theorem idx_pos {α : Type} {xs : List α} {j : Int} (h0 : 0 ≤ j) (hj : j < xs.length) : idx xs j = some (xs[j.toNat]'(by omega)) := by
  unfold idx; rw [if_pos h0, List.getElem?_eq_getElem (by omega)]
def slc {α : Type} (xs : List α) (l h : Int) : Option (List α) := if 0 ≤ l ∧ l ≤ h ∧ h ≤ xs.length then some ((xs.take h.toNat).drop l.toNat) else none
theorem slc_inv {α : Type} {xs ys : List α} {l h : Int} (e : slc xs l h = some ys) : 0 ≤ l ∧ l ≤ h ∧ h ≤ xs.length ∧ (xs.take h.toNat).drop l.toNat = ys := by
  unfold slc at e; split at e
  · rename_i hc; exact ⟨hc.1, hc.2.1, hc.2.2, Option.some.inj e⟩
  · cases e
theorem slc_pos {α : Type} {xs : List α} {l h : Int} (h0 : 0 ≤ l) (h1 : l ≤ h) (h2 : h ≤ xs.length) : slc xs l h = some ((xs.take h.toNat).drop l.toNat) := by unfold slc; rw [if_pos ⟨h0, h1, h2⟩]
def setI {α : Type} (xs : List α) (j : Int) (y : α) : List α := xs.set j.toNat y
def BIG : Nat := 18446744073709551616
section
variable {P : Program} {Δ : Prims} {lo : Nat} {fr : Fr} {n : Nat} {H : Heap} {Q : Post}
theorem W.loopF {c : Code} (I : Nat → Fr → Nat → Heap → Prop) (k0 : Nat) {fr0 : Fr} (hle : Fr.le fr0 fr) (h0 : I k0 fr0 n H) (hz : ∀ fr n H, ¬ I 0 fr n H)
    (step : ∀ k fr n H, I (k + 1) fr n H → W P Δ lo c fr n H (Ex.thn (fun fr1 n1 H1 => ∃ fr2, Fr.le fr2 fr1 ∧ I k fr2 n1 H1) Q)) : W P Δ lo (.loop c) fr n H Q := by
  refine W.weak hle ?_
  clear hle
  induction k0 generalizing fr0 n H with
  | zero => exact absurd h0 (hz _ _ _)
  | succ k ih =>
    refine W.loop (W.mono (step k fr0 n H h0) fun e fr' n' H' q => ?_)
    cases e with
    | norm => obtain ⟨fr2, h2, h3⟩ := q; exact W.weak h2 (ih h3)
    | ret => exact q
    | ex id => exact q
    | pan v => exact q
theorem W.cut {a b : Code} {Q2 : Post} (I : Fr → Nat → Heap → Prop) (hA : W P Δ lo a fr n H (Ex.thn (fun fr1 n1 H1 => ∃ fr2, Fr.le fr2 fr1 ∧ I fr2 n1 H1) Q)) (hB : ∀ fr n H, I fr n H → W P Δ lo b fr n H Q2) : W P Δ lo a fr n H (Ex.thn (fun fr1 n1 H1 => W P Δ lo b fr1 n1 H1 Q2) Q) := by
  refine W.mono hA fun e fr' n' H' q => ?_
  cases e with
  | norm => obtain ⟨fr2, h2, h3⟩ := q; exact W.weak h2 (hB _ _ _ h3)
  | ret => exact q
  | ex id => exact q
  | pan v => exact q
section ops
variable {all : Array Oper} {l : List Oper} {o : Oper} {d : Nat} {fl fl2 : List Bool} {lw lo0 : Nat} {F : Heap}
theorem St.set (hS : St lo0 n H F) {b : Nat} (hb : b < n) (hf : F b = none) (ob : Ob) : St lo0 n (H.set b ob) F :=
  ⟨hS.lo, fun i hi => by rw [Heap.set_ne _ _ (by omega)]; exact hS.hb i hi, fun i o h => by
    rw [Heap.set_ne _ _ (fun e => by subst e; rw [hf] at h; cases h)]; exact hS.fh i o h⟩
theorem St.new (hS : St lo0 n H F) (ob : Ob) : St lo0 (n + 1) (H.set n ob) F :=
  ⟨by have := hS.lo; omega, fun i hi => by rw [Heap.set_ne _ _ (by omega)]; exact hS.hb i (by omega), fun i o h => by
    rw [Heap.set_ne _ _ (fun e => by subst e; rw [hS.fnone (Nat.le_refl _)] at h; cases h)]; exact hS.fh i o h⟩
theorem St.low {lo1 : Nat} (hS : St lo0 n H F) (h : lo1 ≤ n) : St lo1 n H F := ⟨h, hS.hb, hS.fh⟩
theorem GL.alloc (hS : St lo0 n H F) (hfl : IsFl fl lo n lw fl2) {t : TypeId} {i : TypeInfo} {z : Value} {zc : List Value} (ho : o.op = .alloc t) (hd : o.dst = some d) (hw : wantedA all o fr = some true) (hi : P.info? t = some i) (hz : i.zero = some z) (hzc : Cells z = zc) (hg : zc.all grZ = true)
    (k : ∀ H', St lo0 (n + 1) H' F → H' n = some (.row 1 zc) → (∀ i, i < n → H' i = H i) → WL P Δ lo fl2 all l ((d, .pointer (some ⟨n, 0, none⟩)) :: fr) (n + 1) H' Q) : WL P Δ lo fl all (o :: l) fr n H Q :=
  WL.allocL hfl 1 ho hd hw hi hz hzc hg (k _ (hS.new _) (Heap.set_same _ _ _) fun i hi => Heap.set_ne _ _ (by omega))
theorem GL.box (hS : St lo0 n H F) (hfl : IsFl fl lo n lw fl2) {t : TypeId} {x : Operand} {v : Value} {vc : List Value} (ho : o.op = .box t x) (hd : o.dst = some d) (hw : wantedA all o fr = some true) (hx : fr.eval x = some v) (hv : Cells v = vc) (hg : ∀ u ∈ vc, u.oneCell' = true)
    (k : ∀ H', St lo0 (n + 1) H' F → H' n = some (.row 1 vc) → (∀ i, i < n → H' i = H i) → WL P Δ lo fl2 all l ((d, .pointer (some ⟨n, 0, none⟩)) :: fr) (n + 1) H' Q) : WL P Δ lo fl all (o :: l) fr n H Q :=
  WL.boxL hfl 1 ho hd hw hx hv hg (k _ (hS.new _) (Heap.set_same _ _ _) fun i hi => Heap.set_ne _ _ (by omega))
theorem GL.store (hS : St lo0 n H F) (hfl : IsFl fl lo n lw fl2) {t : TypeId} {x y : Operand} {i : TypeInfo} {b k e : Nat} {c vc c' : List Value} {v : Value} (ho : o.op = .store t x y) (hd : o.dst = none) (hw : wantedA all o fr = some true) (hi : P.info? t = some i)
    (hx : fr.eval x = some (.pointer (some ⟨b, k, none⟩))) (hy : fr.eval y = some v) (hv : Cells v = vc) (hs : vc.length = i.size) (hb : H b = some (.row e c)) (hf : F b = none) (hk : k + i.size ≤ c.length) (hlo : lw ≤ b) (h1 : ∀ u ∈ vc, u.oneCell' = true) (hc : splice c k vc = c')
    (kk : ∀ H', St lo0 n H' F → H' b = some (.row e c') → (∀ i, i ≠ b → H' i = H i) → WL P Δ lo fl2 all l fr n H' Q) : WL P Δ lo fl all (o :: l) fr n H Q :=
  WL.storeL hfl ho hd hw hi hx hy hv hs hb hk hlo (hS.lt hb) h1 hc (kk _ (hS.set (hS.lt hb) hf _) (Heap.set_same _ _ _) fun i hi => Heap.set_ne _ _ hi)
theorem win_get {c ecs : List Value} {k s m : Nat} (h : (c.drop k).take s = ecs) (hm : m < s) : c[k + m]? = ecs[m]? := by
  rw [← h, List.getElem?_take_of_lt hm, List.getElem?_drop]
theorem win_get0 {c ecs : List Value} {k s : Nat} (h : (c.drop k).take s = ecs) (hm : 0 < s) : c[k]? = ecs[0]? := win_get (m := 0) h hm
theorem GL.index {α : Type} [Rp α] {G : Heap} (hfl : IsFl fl lo n lw fl2) {t : TypeId} {x y : Operand} {el : TypeId} {i : TypeInfo} {v : Value} {xs : List α} {u : α} {q : IntKind} {j : Int} (ho : o.op = .indexAddr t x y) (hd : o.dst = some d) (hw : wantedA all o fr = some true) (ht : P.underlying t = some (.slice el)) (hi : P.info? el = some i) (hsz : i.size = Rp.sz α)
    (hx : fr.eval x = some v) (hR : SR G v xs) (hG : G.Le H) (hy : fr.eval y = some (.int q j)) (hu : idx xs j = some u)
    (kk : ∀ b k c ecs, H b = some (.row (Rp.sz α) c) → (c.drop k).take (Rp.sz α) = ecs → Rp.R G ecs u → WL P Δ lo fl2 all l ((d, .pointer (some ⟨b, k, none⟩)) :: fr) n H Q) : WL P Δ lo fl all (o :: l) fr n H Q := by
  obtain ⟨h0, h1, h2, h3⟩ := idx_inv hu
  obtain ⟨_, cs, hs, hra⟩ := hR
  rcases hs with ⟨_, hlen, _⟩ | ⟨b, k, cap, c, rfl, hb, hc, hcl⟩
  · omega
  · refine WL.indexS hfl ho hd hw ht hi hx hy h0 (by exact_mod_cast h1) (kk b (k + j.toNat * i.size) c _ (hG _ _ hb) rfl ?_)
    have hg := hra.get h2
    rw [h3, ← hc, List.drop_take, List.take_take] at hg
    have e : min (Rp.sz α) (xs.length * Rp.sz α - j.toNat * Rp.sz α) = Rp.sz α := by
      have := Nat.mul_le_mul_right (Rp.sz α) h2
      rw [Nat.succ_mul] at this
      omega
    rw [e, List.drop_drop] at hg
    rw [hsz]; exact hg
theorem SL.part {G : Heap} {sz len : Nat} {v : Value} {cs : List Value} {b k cap : Nat} {l h : Nat} {c : List Value} (hb : G b = some (.row sz c)) (hc : (c.drop k).take (len * sz) = cs) (hcl : cs.length = len * sz) (hlh : l ≤ h) (hhl : h ≤ len) (cap' : Nat) :
    SL G sz (.slice (some ⟨b, k + l * sz, none⟩) (h - l) cap') (h - l) ((cs.take (h * sz)).drop (l * sz)) := by
  refine .inr ⟨b, _, _, c, rfl, hb, ?_, ?_⟩
  · rw [← hc, List.take_take, List.drop_take]
    have h1 : h * sz ≤ len * sz := Nat.mul_le_mul_right _ hhl
    rw [Nat.min_eq_left h1, ← List.drop_drop, Nat.sub_mul]
  · have h1 : h * sz ≤ len * sz := Nat.mul_le_mul_right _ hhl
    rw [List.length_drop, List.length_take, hcl, Nat.min_eq_left h1, Nat.sub_mul]
def BndI (ev : Operand → Option Value) (o : Option Operand) (dflt r : Int) : Prop :=
  match o with
  | none => r = dflt
  | some y => ∃ q, ev y = some (.int q r)
theorem BndI.nat {ev : Operand → Option Value} {o : Option Operand} {d : Nat} {r : Int} (h : BndI ev o d r) (h0 : 0 ≤ r) : Bnd ev o d r.toNat := by
  cases o with
  | none => show r.toNat = d; have : r = (d : Int) := h; omega
  | some y => obtain ⟨q, hq⟩ := h; exact ⟨q, by rw [Int.toNat_of_nonneg h0]; exact hq⟩
theorem GL.slice {α : Type} [Rp α] {G : Heap} (hfl : IsFl fl lo n lw fl2) {t el : TypeId} {i : TypeInfo} {x : Operand} {low high : Option Operand} {v : Value} {xs ys : List α} {l' h : Int} (ho : o.op = .slice t x low high none) (hd : o.dst = some d) (hw : wantedA all o fr = some true) (ht : P.underlying t = some (.slice el)) (hi : P.info? el = some i) (hsz : i.size = Rp.sz α)
    (hx : fr.eval x = some v) (hR : SR G v xs) (hG : G.Le H) (hl : BndI fr.eval low 0 l') (hh : BndI fr.eval high xs.length h) (hy : slc xs l' h = some ys)
    (kk : ∀ a cap, idOf (.slice a ys.length cap) = idOf v → SR G (.slice a ys.length cap) ys → WL P Δ lo fl2 all l ((d, .slice a ys.length cap) :: fr) n H Q) : WL P Δ lo fl all (o :: l) fr n H Q := by
  obtain ⟨h0, h1, h2, rfl⟩ := slc_inv hy
  obtain ⟨hlt, cs, hs, hra⟩ := hR
  have hl' := hl.nat h0
  have hh' := hh.nat (by omega)
  have elen : ((xs.take h.toNat).drop l'.toNat).length = h.toNat - l'.toNat := by simp; omega
  have hra' := (hra.take h.toNat).drop l'.toNat
  rcases hs with ⟨rfl, e1, e2⟩ | ⟨b, k, cap, c, rfl, hb, hc, hcl⟩
  · have e3 : h.toNat = 0 := by omega
    have e4 : l'.toNat = 0 := by omega
    have e5 : ((xs.take h.toNat).drop l'.toNat) = [] := by rw [e3]; simp
    rw [e3, e1] at hh'; rw [e4] at hl'
    refine WL.sliceNil hfl ho hd hw ht hi hx hl' hh' ?_
    have := kk none 0
    rw [e5] at this
    exact this rfl SR.nil
  · have hk := kk (some ⟨b, k + l'.toNat * i.size, none⟩) (UNK + (lb xs.length cap - l'.toNat))
    rw [elen] at hk
    refine WL.slice hfl ho hd hw ht hi hx (hG _ _ hb) hsz.symm rfl hl' hh' (Nat.le_refl _) (by intro h; cases h) (by omega) (by unfold lb; omega) (hk rfl ⟨by simp; omega, _, ?_, hra'⟩)
    rw [elen, hsz]
    exact SL.part (v := .slice none 0 0) (cap := 0) hb hc hcl (by omega) (by omega) _
theorem WL.app' {t u el : TypeId} {i : TypeInfo} {z : Value} {x y : Operand} {v : Value} {len m : Nat} {olds news : List Value} (hfl : IsFl fl lo n lw fl2) (ho : o.op = .call { callee := .builtin .append, args := #[x, y], argTypes := #[t, u] }) (hd : o.dst = some d) (hw : wantedA all o fr = some true) (ht : P.underlying t = some (.slice el)) (hi : P.info? el = some i) (hz : i.zero = some z) (hzs : (Cells z).length = i.size)
    (hx : fr.eval x = some v) (hown : OwnS lw n H i.size v len olds) (hsrc : Src P fr.eval H i.size u y m news) (hm0 : 0 < m) (h1 : ∀ v ∈ news, v.oneCell' = true) (h0 : ∀ v ∈ olds, v.oneCell' = true) (hby : (len + m) * i.bytes ≤ 140737488355328) (h63 : len + m < UNK)
    (kk : ∀ H', H' n = some (.row i.size (olds ++ news)) → (∀ j, j < n → idOf v ≠ some j → H' j = H j) → (∀ j, n < j → H' j = H j) → (∀ lo', lo' ≤ n → OwnS lo' (n + 1) H' i.size (.slice (some ⟨n, 0, none⟩) (len + m) (UNK + (len + m))) (len + m) (olds ++ news)) →
      WL P Δ lo fl2 all l ((d, .slice (some ⟨n, 0, none⟩) (len + m) (UNK + (len + m))) :: fr) (n + 1) H' Q) (hnl : news.length = m * i.size) : WL P Δ lo fl all (o :: l) fr n H Q := by
  have hin : ∀ (H' : Heap) (cs : List Value), H' n = some (.row i.size cs) → cs.length = (len + m) * i.size → ∀ lo', lo' ≤ n → OwnS lo' (n + 1) H' i.size (.slice (some ⟨n, 0, none⟩) (len + m) (UNK + (len + m))) (len + m) cs := fun H' cs h hl lo' hlo =>
    .inr ⟨n, 0, _, cs, rfl, h, by rw [List.drop_zero, List.take_of_length_le (by omega)], hl, hlo, Nat.lt_succ_self _, Nat.zero_le _, .inr (by omega)⟩
  rcases hown with ⟨rfl, rfl, rfl⟩ | ⟨b, k, cap, c, rfl, hb, hc, hcl, hlb, hbn, hk, hcap⟩
  · refine WL.appendN hfl ho hd hw ht hi hz hzs hx hsrc h1 hm0 (by simpa using hby) (by omega) ?_
    have := kk (H.set n (.row i.size news)) (by rw [Heap.set_same]; rfl) (fun j hj _ => Heap.set_ne _ _ (by omega)) (fun j hj => Heap.set_ne _ _ (by omega)) (hin _ _ (by rw [Heap.set_same]; rfl) (by simpa using hnl))
    simpa using this
  · have hl2 : (olds ++ news).length = (len + m) * i.size := by rw [List.length_append, hcl, hnl, Nat.add_mul]
    rcases hcap with ⟨rfl, hcu⟩ | hcu
    · refine WL.appendG hfl ho hd hw ht hi hz hzs hx hsrc hb hc hcl hcu (by omega) (fun v hv => (List.mem_append.1 hv).elim (h0 v) (h1 v)) hby h63 ?_
      exact kk _ (Heap.set_same _ _ _) (fun j hj _ => Heap.set_ne _ _ (by omega)) (fun j hj => Heap.set_ne _ _ (by omega)) (hin _ _ (Heap.set_same _ _ _) hl2)
    · refine WL.appendU hfl ho hd hw ht hi hz hzs hx hsrc hb rfl hc hcl hcu hlb hbn hm0 h1 hby h63 hk ?_
      refine kk _ (Heap.set_same _ _ _) (fun j hj hne => ?_) (fun j hj => ?_) (hin _ _ (Heap.set_same _ _ _) hl2)
      · rw [Heap.set_ne _ _ (by omega), Heap.del_ne _ (fun e => hne (by simp [idOf, e]))]
      · rw [Heap.set_ne _ _ (by omega), Heap.del_ne _ (by omega)]
def SrcX {α : Type} [Rp α] (H F : Heap) (v : Value) (ys : List α) : Prop := ∃ cs, SL H (Rp.sz α) v ys.length cs ∧ RA F cs ys
theorem SR.src {α : Type} [Rp α] {v : Value} {ys : List α} (h : SR F v ys) (hle : F.Le H) : SrcX H F v ys := by
  obtain ⟨_, cs, h1, h2⟩ := h
  refine ⟨cs, ?_, h2⟩
  rcases h1 with h1 | ⟨b, k, cap, c, e1, e2, e3⟩
  · exact .inl h1
  · exact .inr ⟨b, k, cap, c, e1, hle b _ e2, e3⟩
theorem OW.src {α : Type} [Rp α] {v : Value} {ys : List α} (h : OW lo0 n H F v ys) : SrcX H F v ys := by
  obtain ⟨_, _, cs, h1, h2⟩ := h
  exact ⟨cs, h1.sl, h2⟩
theorem GL.append {α : Type} [Rp α] {lo2 : Nat} (hS : St lo0 n H F) (hfl : IsFl fl lo n lw fl2) {t u el : TypeId} {i : TypeInfo} {z : Value} {x y : Operand} {v v2 : Value} {xs ys : List α} {dd : TypeDesc} (ho : o.op = .call { callee := .builtin .append, args := #[x, y], argTypes := #[t, u] }) (hd : o.dst = some d) (hw : wantedA all o fr = some true) (ht : P.underlying t = some (.slice el)) (hu : P.underlying u = some dd) (hdd : isInt dd = false) (hi : P.info? el = some i) (hz : i.zero = some z) (hzs : (Cells z).length = i.size) (hsz : i.size = Rp.sz α) (hby : i.bytes ≤ 2048)
    (hx : fr.eval x = some v) (hy : fr.eval y = some v2) (hO : OW lo2 n H F v xs) (hlo2 : lw ≤ lo2) (hl2 : lo2 ≤ n) (hsrc : SrcX H F v2 ys) (hlen : (xs.length : Int) + ys.length ≤ 68719476736)
    (kk : ∀ a cap n' H', St lo0 n' H' F → n ≤ n' → OW lo2 n' H' F (.slice a (xs ++ ys).length cap) (xs ++ ys) → (∀ j, j < n → idOf v ≠ some j → H' j = H j) → (∀ b, idOf (.slice a (xs ++ ys).length cap) = some b → n ≤ b ∨ idOf v = some b) →
      WL P Δ lo fl2 all l ((d, .slice a (xs ++ ys).length cap) :: fr) n' H' Q) : WL P Δ lo fl all (o :: l) fr n H Q := by
  obtain ⟨ncs, hsl, hra2⟩ := hsrc
  have hO' := hO
  obtain ⟨hlt, hfn, ocs, hown, hra⟩ := hO
  have el : (xs ++ ys).length = xs.length + ys.length := List.length_append
  have hsrc' := Src.ofSL (P := P) (ev := fr.eval) (u := u) (y := y) hu hdd hy hsl
  by_cases hm : ys.length = 0
  · have hn : ys = [] := List.eq_nil_of_length_eq_zero hm
    subst hn
    have hn2 : ncs = [] := List.eq_nil_of_length_eq_zero (by have := hra2.length; simpa using this)
    subst hn2
    obtain ⟨a, cap, rfl⟩ := hown.form
    have := kk a cap n H hS (Nat.le_refl _) (by simpa using hO') (fun _ _ _ => rfl) (fun b h => .inr (by simpa [idOf] using h))
    rw [List.append_nil] at this
    exact WL.append0 hfl ho hd hw ht hi hx (by rw [hsz]; exact hsrc') this
  · refine WL.app' hfl ho hd hw ht hi hz hzs hx (by rw [hsz]; exact hown.mono hlo2 (Nat.le_refl _) (fun _ _ _ => rfl)) (by rw [hsz]; exact hsrc') (by omega) hra2.one hra.one ?_ (by unfold UNK; omega) (fun H' e1 e2 e3 e4 => ?_) (by rw [hsz]; exact hra2.length)
    · have h1 : (xs.length + ys.length) ≤ 68719476736 := by omega
      exact Nat.le_trans (Nat.mul_le_mul h1 hby) (by decide)
    · have hS' : St lo0 (n + 1) H' F := ⟨by have := hS.lo; omega, fun i hi => by rw [e3 i (by omega)]; exact hS.hb i (by omega), fun i ob hi => by
        have hin := hS.lt (hS.fh i ob hi)
        rw [e2 i hin (fun e => by rw [hfn i e] at hi; cases hi)]; exact hS.fh i ob hi⟩
      have := kk (some ⟨n, 0, none⟩) (UNK + (xs.length + ys.length)) (n + 1) H' hS' (by omega)
      rw [el] at this
      refine this ⟨by rw [el]; unfold UNK; omega, fun i hi => ?_, _, ?_, hra.append hra2⟩ e2 (fun b hb => .inl ?_)
      · have hin : n = i := by simpa [idOf] using hi
        subst hin; exact hS.fnone (Nat.le_refl _)
      · rw [el, ← hsz]; exact e4 lo2 hl2
      · have hin : n = b := by simpa [idOf] using hb
        omega
theorem GL.lit {α : Type} [Rp α] (hS : St lo0 n H F) (hfl : IsFl fl lo n lw fl2) {t el : TypeId} {len : Nat} {ps : Array (Nat × Operand)} {vs cs : List Value} {z : Value} {i : TypeInfo} {xs : List α} (ho : o.op = .buildSlice t len ps) (hd : o.dst = some d) (hw : wantedA all o fr = some true) (ht : P.underlying t = some (.slice el)) (hi : P.info? el = some i) (hz : i.zero = some z)
    (hg : (Cells z).all grZ = true) (hzc : (Cells z).length = i.size) (hszi : len * i.size ≤ 16777216) (hlen : len < 1000000) (hp : ps.toList.mapM (fun p => fr.eval p.2) = some vs) (hix : ps.toList.map (·.1) = List.range' 0 len) (hvs : vs.map (fun v => (Cells v).length) = List.replicate len i.size)
    (hcs : vs.flatMap Cells = cs) (hsz : i.size = Rp.sz α) (hR : RA F cs xs) (hxl : xs.length = len)
    (kk : ∀ H', St lo0 (n + 1) H' F → OW n (n + 1) H' F (.slice (some ⟨n, 0, none⟩) xs.length len) xs → (∀ j, j < n → H' j = H j) → WL P Δ lo fl2 all l ((d, .slice (some ⟨n, 0, none⟩) xs.length len) :: fr) (n + 1) H' Q) : WL P Δ lo fl all (o :: l) fr n H Q := by
  subst hxl
  refine WL.lit hfl ho hd hw ht hi hz hg hzc hszi hlen hp hix hvs hcs hR.one ?_
  refine kk _ (hS.new _) ⟨by unfold UNK; omega, fun i hi => ?_, cs, .inr ⟨n, 0, _, cs, rfl, ?_, ?_, hR.length, Nat.le_refl _, Nat.lt_succ_self _, Nat.zero_le _, .inl ⟨rfl, by unfold UNK; omega⟩⟩, hR⟩ (fun j hj => Heap.set_ne _ _ (by omega))
  · have hin : n = i := by simpa [idOf] using hi
    subst hin; exact hS.fnone (Nat.le_refl _)
  · rw [hsz]; exact Heap.set_same _ _ _
  · rw [List.drop_zero, List.take_of_length_le (Nat.le_of_eq hR.length)]
theorem GL.callP (g : Good P Δ) (hfl : IsFl fl lo n lw fl2) {x : Operand} {xs : Array Operand} {ts : Array TypeId} {f : FuncId} {first cap : Array Value} {asx args : List Value} {fn : Func} {R : Value → Nat → Heap → Prop} (ho : o.op = .call { callee := .value x, args := xs, argTypes := ts }) (hd : o.dst = some d) (hw : wantedA all o fr = some true)
    (hx : fr.eval x = some (.func (.func f) first cap)) (ha : xs.toList.mapM fr.eval = some asx) (hargs : first.toList ++ asx ++ cap.toList = args) (hfn : P.funcs[f]? = some fn) (hname : (fn.name == "runtime.NumGoroutine") = false) (hbody : fn.body.isNone = false) (hlw : lw ≤ n)
    (h : C P Δ n f args n H R) (kk : ∀ v n' H', n ≤ n' → (∀ i, i < n → H' i = H i) → R v n' H' → WL P Δ lo fl2 all l ((d, v) :: fr) n' H' Q) : WL P Δ lo fl all (o :: l) fr n H Q := by
  subst hargs
  exact WL.call hfl n ho hd hw hx ha hfn hname hbody hlw (Nat.le_refl _) (h.use g (Nat.le_refl _) fun v n' H' ha r => kk v n' H' ha.1 ha.2.1 r)
end ops
end
end Go.Proofs.YtlpcdcpcfeaecaaAb
end
section
namespace Go.Proofs.YtlpcdcpcfeaecaaAb
open Go
theorem ba_toList_loop (a : ByteArray) : ∀ (m i : Nat) (r : List UInt8), a.size - i = m → ByteArray.toList.loop a i r = r.reverse ++ a.data.toList.drop i := by
  intro m
  induction m with
  | zero =>
    intro i r h
    unfold ByteArray.toList.loop
    rw [if_neg (by omega), List.drop_of_length_le (by rw [Array.length_toList]; show a.size ≤ i; omega), List.append_nil]
  | succ m ih =>
    intro i r h
    have hi : i < a.data.toList.length := by rw [Array.length_toList]; show i < a.size; omega
    unfold ByteArray.toList.loop
    rw [if_pos (by omega), ih (i + 1) _ (by omega), List.drop_eq_getElem_cons hi, List.reverse_cons, List.append_assoc]
    congr 2
    simp [ByteArray.get!, getElem!_pos a.data i (by simpa using hi)]
theorem ba_toList (l : List UInt8) : (⟨l.toArray⟩ : ByteArray).toList = l := by
  unfold ByteArray.toList
  rw [ba_toList_loop _ _ 0 [] rfl]
  simp
def ltS (a b : List UInt8) : Bool := Op.bytesLess a b
section
variable {P : Program} {Δ : Prims} {lo : Nat} {fr : Fr} {n : Nat} {H : Heap} {Q : Post}
section ops
variable {all : Array Oper} {l : List Oper} {o : Oper} {d : Nat} {fl fl2 : List Bool} {lw lo0 : Nat} {F : Heap}
theorem GL.lenStr (hfl : IsFl fl lo n lw fl2) {t : TypeId} {x : Operand} {s : List UInt8} (ho : o.op = .call { callee := .builtin .len, args := #[x], argTypes := #[t] }) (hd : o.dst = some d) (hw : wantedA all o fr = some true) (ht : P.underlying t = some .string) (hx : fr.eval x = some (str s)) (kk : WL P Δ lo fl2 all l ((d, .int .i64 s.length) :: fr) n H Q) : WL P Δ lo fl all (o :: l) fr n H Q :=
  WL.lenStr hfl ho hd hw ht hx kk
def cmpS (op : BinOp) (a b : List UInt8) : Bool :=
  match op with
  | .eql => decide (a = b)
  | .neq => !decide (a = b)
  | .lss => ltS a b
  | .leq => ltS a b || decide (a = b)
  | .gtr => !(ltS a b || decide (a = b))
  | .geq => !ltS a b
  | _ => false
theorem GL.strCmp (hfl : IsFl fl lo n lw fl2) {op : BinOp} {t t' : TypeId} {x y : Operand} {a b : List UInt8} {r : Bool} (ho : o.op = .binOp op t x y t') (hd : o.dst = some d) (hw : wantedA all o fr = some true) (hx : fr.eval x = some (str a)) (hy : fr.eval y = some (str b)) (hop : op = .eql ∨ op = .neq ∨ op = .lss ∨ op = .leq ∨ op = .gtr ∨ op = .geq) (hr : cmpS op a b = r)
    (kk : WL P Δ lo fl2 all l ((d, .bool r) :: fr) n H Q) : WL P Δ lo fl all (o :: l) fr n H Q := by
  subst hr
  have hbeq : ∀ (p q : List UInt8), (p == q) = decide (p = q) := fun p q => by by_cases h : p = q <;> simp [h]
  exact WL.ground2 hfl hd hw (by rw [ho]; intro _ _ h; cases h) (by rw [ho]; rfl) hx hy (gr_str _) (gr_str _) (gr_bool _) (fun ev w h h' => by
    obtain ⟨dst, op', ty, pos, after, guard⟩ := o
    simp only at ho; subst ho
    rcases hop with rfl | rfl | rfl | rfl | rfl | rfl <;> simp [execOp, eqGuard, binOp, Op.stringOp, h, h', str, ba_toList, cmpS, ltS, hbeq] <;> rfl) kk
theorem GL.toStr {G : Heap} (hfl : IsFl fl lo n lw fl2) {s t el : TypeId} {x : Operand} {v : Value} {y : List UInt8} (ho : o.op = .convert s t x) (hd : o.dst = some d) (hw : wantedA all o fr = some true) (hs : P.underlying s = some (.slice el)) (ht : P.underlying t = some .string) (hel : P.underlying el = some (.int .u8)) (hx : fr.eval x = some v) (hR : SR G v y) (hG : G.Le H)
    (kk : WL P Δ lo fl2 all l ((d, str y) :: fr) n H Q) : WL P Δ lo fl all (o :: l) fr n H Q := by
  obtain ⟨_, cs, h1, h2⟩ := hR
  have hcs : cs = y.map u8 := h2.sc
  subst hcs
  rcases h1 with ⟨rfl, e, _⟩ | ⟨b, k, cap, c, rfl, hb, hc, hcl⟩
  · have e2 : y = [] := List.eq_nil_of_length_eq_zero e
    subst e2
    exact WL.toStrNil hfl ho hd hw hs ht hel hx kk
  · refine WL.toStr hfl ho hd hw hs ht hel hx (hG _ _ hb) ?_ rfl kk
    simpa [Rp.sz] using hc
theorem u8_or (a b : UInt8) : Value.int .u8 (((a.toNat ||| b.toNat : Nat) : Int)) = u8 (a ||| b) := by simp [u8]
theorem GL.u8or (hfl : IsFl fl lo n lw fl2) {t t' : TypeId} {x y : Operand} (a b : UInt8) (ho : o.op = .binOp .or t x y t') (hd : o.dst = some d) (hw : wantedA all o fr = some true) (hx : fr.eval x = some (u8 a)) (hy : fr.eval y = some (u8 b))
    (kk : WL P Δ lo fl2 all l ((d, u8 (a ||| b)) :: fr) n H Q) : WL P Δ lo fl all (o :: l) fr n H Q :=
  WL.orN hfl ho hd hw hx hy rfl rfl rfl (u8_bnd a).1 (u8_lt8 a) (u8_bnd b).1 (u8_lt8 b) (fun _ => by rw [show ((a.toNat : Int).toNat) = a.toNat from rfl, show ((b.toNat : Int).toNat) = b.toNat from rfl, u8_or]; exact kk)
end ops
end
end Go.Proofs.YtlpcdcpcfeaecaaAb
end
section
namespace Go.Proofs.YtlpcdcpcfeaecaaAb
open Go
def Heap.plus (H K : Heap) : Heap := fun i => match K i with | some o => some o | none => H i
def Off (K : Heap) (n : Nat) (H : Heap) : Prop := ∀ i o, K i = some o → i < n ∧ H i = none
section
variable {K H H' : Heap} {n n' lo : Nat}
theorem Off.none (hK : Off K n H) {b : Nat} {o : Ob} (h : H b = some o) : K b = none := by
  cases e : K b with
  | none => rfl
  | some x => rw [(hK b x e).2] at h; cases h
theorem Off.new (hK : Off K n H) {b : Nat} (h : n ≤ b) : K b = Option.none := by
  cases e : K b with
  | none => rfl
  | some x => have := (hK b x e).1; omega
theorem plus_none {b : Nat} (h : K b = none) : (H.plus K) b = H b := by simp [Heap.plus, h]
theorem Off.get (hK : Off K n H) {b : Nat} {o : Ob} (h : H b = some o) : (H.plus K) b = some o := by rw [plus_none (hK.none h)]; exact h
theorem plus_set {b : Nat} (h : K b = none) (o : Ob) : (H.set b o).plus K = (H.plus K).set b o := by
  funext i
  by_cases hi : i = b
  · subst hi; rw [plus_none h, Heap.set_same, Heap.set_same]
  · rw [Heap.set_ne _ _ hi]; simp only [Heap.plus]; split
    · rfl
    · rw [Heap.set_ne _ _ hi]
theorem plus_del {b : Nat} (h : K b = none) : (H.del b).plus K = (H.plus K).del b := by
  funext i
  by_cases hi : i = b
  · subst hi; rw [plus_none h, Heap.del_same, Heap.del_same]
  · rw [Heap.del_ne _ hi]; simp only [Heap.plus]; split
    · rfl
    · rw [Heap.del_ne _ hi]
theorem rm_in {H : Heap} {a b i : Nat} (h : a ≤ i ∧ i < b) : H.rm a b i = none := by unfold Heap.rm; exact if_pos h
theorem rm_out {H : Heap} {a b i : Nat} (h : ¬ (a ≤ i ∧ i < b)) : H.rm a b i = H i := by unfold Heap.rm; exact if_neg h
theorem plus_rm {a b : Nat} (h : ∀ i, a ≤ i → K i = none) : (H.rm a b).plus K = (H.plus K).rm a b := by
  funext i
  by_cases hi : a ≤ i ∧ i < b
  · rw [plus_none (h i hi.1), rm_in hi, rm_in hi]
  · rw [rm_out hi]; simp only [Heap.plus]; rw [rm_out hi]
theorem Off.step (hK : Off K n H) (ha : AbsOk lo n H n' H') : Off K n' H' := fun i o h => ⟨Nat.lt_of_lt_of_le (hK i o h).1 ha.1, ha.2.2.2 i (hK i o h).1 (hK i o h).2⟩
variable {P : Program} {ev : Operand → Option Value} {o : Oper} {v : Value}
theorem Step.frame (hK : Off K n H) (h : Step P lo ev n H o v n' H') : Step P lo ev n (H.plus K) o v n' (H'.plus K) := by
  cases h with
  | ground hsel hv hg hr => exact .ground hsel hv hg hr
  | move ho hx => exact .move ho hx
  | pick ho hc hv => exact .pick ho hc hv
  | alloc e ho hi hz hg => rw [plus_set (hK.new (Nat.le_refl _))]; exact .alloc e ho hi hz hg
  | box e ho hx hg => rw [plus_set (hK.new (Nat.le_refl _))]; exact .box e ho hx hg
  | load1 ho ht hd hx hb hk => exact .load1 ho ht hd hx (hK.get hb) hk
  | loadN ho ht hd hi hx hb hk hl => exact .loadN ho ht hd hi hx (hK.get hb) hk hl
  | store ho hi hx hy hsz hb hk hlo hbn h1 => rw [plus_set (hK.none hb)]; exact .store ho hi hx hy hsz (hK.get hb) hk hlo hbn h1
  | nilCheck ho hx => exact .nilCheck ho hx
  | nilCheckF ho hx => exact .nilCheckF ho hx
  | fieldAddr ho hs hf hi h0 hx => exact .fieldAddr ho hs hf hi h0 hx
  | field1 ho hs hf ht hd hx hv => exact .field1 ho hs hf ht hd hx hv
  | fieldN ho hs hf ht hd hi hx => exact .fieldN ho hs hf ht hd hi hx
  | indexAddrS ho ht hi hx hy h0 hj => exact .indexAddrS ho ht hi hx hy h0 hj
  | indexAddrA ho ht hi hx hy h0 hj => exact .indexAddrA ho ht hi hx hy h0 hj
  | indexA1 ho ht hi hd hd1 hx hy h0 hj hv => exact .indexA1 ho ht hi hd hd1 hx hy h0 hj hv
  | extract ho hx hv => exact .extract ho hx hv
  | mkIface ho ht hd hx => exact .mkIface ho ht hd hx
  | mkFunc ho hx hy => exact .mkFunc ho hx hy
  | len ho ht hx => exact .len ho ht hx
  | assert ho ht hd hx => exact .assert ho ht hd hx
theorem Src.frame (hK : Off K n H) {size : Nat} {u : TypeId} {y : Operand} {m : Nat} {l : List Value} (h : Src P ev H size u y m l) : Src P ev (H.plus K) size u y m l := by
  cases h with
  | slice hu hd hy hb hl hn => exact .slice hu hd hy (hK.get hb) hl hn
  | nil hu hd hy => exact .nil hu hd hy
  | str hu hd hs hy => exact .str hu hd hs hy
theorem StepM.frame (hK : Off K n H) (h : StepM P lo ev n H o v n' H') : StepM P lo ev n (H.plus K) o v n' (H'.plus K) := by
  have hnn := hK.new (Nat.le_refl _)
  cases h with
  | slice ho ht hi hx hb he' hm hmm hl hh hmx hlh hhm => exact .slice ho ht hi hx (hK.get hb) he' hm hmm hl hh hmx hlh hhm
  | sliceNil ho ht hi hx hl hh => exact .sliceNil ho ht hi hx hl hh
  | eqNil ho hop ht hx hy => exact .eqNil ho hop ht hx hy
  | capE ho ht hx hc => exact .capE ho ht hx hc
  | make ho ht hi hz hzs h0 hg hx hy hlc hb h63 => rw [plus_set hnn]; exact .make ho ht hi hz hzs h0 hg hx hy hlc hb h63
  | build ho ht hi hz hg hp hpl hfl => exact .build ho ht hi hz hg hp hpl hfl
  | buildA ho ht hi hz hie hg hp hfl => exact .buildA ho ht hi hz hie hg hp hfl
  | buildSlice ho ht hi hz hg hsz hlen hp h1 hzc hfl hcs => rw [plus_set hnn]; exact .buildSlice ho ht hi hz hg hsz hlen hp h1 hzc hfl hcs
  | append0 ho ht hi hx hsrc => exact .append0 ho ht hi hx (hsrc.frame hK)
  | appendI ho ht hi hx hsrc hb hlb hfit hlo hbn h1 hm0 => rw [plus_set (hK.none hb)]; exact .appendI ho ht hi hx (hsrc.frame hK) (hK.get hb) hlb hfit hlo hbn h1 hm0
  | appendZ ho ht hu hi hz hzs h0 hg hx hy hm0 hby h63 => rw [plus_set hnn]; exact .appendZ ho ht hu hi hz hzs h0 hg hx hy hm0 hby h63
  | appendN ho ht hi hz hzs hx hsrc h1 hm0 hby h63 => rw [plus_set hnn]; exact .appendN ho ht hi hz hzs hx (hsrc.frame hK) h1 hm0 hby h63
  | appendG ho ht hi hz hzs hx hsrc hb hol holn hcap hgr h1 hby h63 => rw [plus_set hnn]; exact .appendG ho ht hi hz hzs hx (hsrc.frame hK) (hK.get hb) hol holn hcap hgr h1 hby h63
  | appendU ho ht hi hz hzs hx hsrc hb he' hol holn hcap hlo hbn hm0 h1 hby h63 hk => rw [plus_set hnn, plus_del (hK.none hb)]; exact .appendU ho ht hi hz hzs hx (hsrc.frame hK) (hK.get hb) he' hol holn hcap hlo hbn hm0 h1 hby h63 hk
  | copy ho ht hi hx hsrc hb hfit hlo hbn h1 => rw [plus_set (hK.none hb)]; exact .copy ho ht hi hx (hsrc.frame hK) (hK.get hb) hfit hlo hbn h1
  | clear ho ht hi hz hzs hx hb hfit hlo hbn hg hl0 => rw [plus_set (hK.none hb)]; exact .clear ho ht hi hz hzs hx (hK.get hb) hfit hlo hbn hg hl0
  | toBytes ho hs ht hel hx h63 => rw [plus_set hnn]; exact .toBytes ho hs ht hel hx h63
  | toStr ho hs ht hel hx hb hl hn => exact .toStr ho hs ht hel hx (hK.get hb) hl hn
  | toStrNil ho hs ht hel hx => exact .toStrNil ho hs ht hel hx
theorem ResV.frame {fr : Fr} {r : ResultVar} (hK : Off K n H) (h : ResV P H fr r v) : ResV P (H.plus K) fr r v := by
  cases h with
  | tmp h => exact .tmp h
  | cell1 ha ht hd hb hk => exact .cell1 ha ht hd (hK.get hb) hk
  | cellN ha ht hd hi hb hk hl => exact .cellN ha ht hd hi (hK.get hb) hk hl
theorem ResL.frame {fr : Fr} {rs : List ResultVar} {vs : List Value} (hK : Off K n H) (h : ResL P H fr rs vs) : ResL P (H.plus K) fr rs vs := by
  induction h with
  | nil => exact .nil
  | cons h hs ih => exact .cons (h.frame hK) ih
end
def J.frame (P : Program) (Δ : Prims) (K : Heap) : J → Prop
  | .op lo o fr n H v n' H' => lo ≤ n → Off K n H → D P Δ (.op lo o fr n (H.plus K) v n' (H'.plus K))
  | .ops lo all l fr n H e fr' n' H' => lo ≤ n → Off K n H → D P Δ (.ops lo all l fr n (H.plus K) e fr' n' (H'.plus K))
  | .code lo c fr n H e fr' n' H' => lo ≤ n → Off K n H → D P Δ (.code lo c fr n (H.plus K) e fr' n' (H'.plus K))
  | .call lo f args n H e n' H' => lo ≤ n → Off K n H → D P Δ (.call lo f args n (H.plus K) e n' (H'.plus K))
def Framed (Δ : Prims) : Prop := ∀ K lo f args n H e n' H', Δ lo f args n H e n' H' → lo ≤ n → Off K n H → Δ lo f args n (H.plus K) e n' (H'.plus K)
theorem noPrims_framed : Framed (fun _ _ _ _ _ _ _ _ => False) := fun _ _ _ _ _ _ _ _ _ h => h.elim
theorem D.frame {P : Program} {Δ : Prims} {K : Heap} (hΔ : ∀ lo f args n H e n' H', Δ lo f args n H e n' H' → lo ≤ n → AbsOk lo n H n' H') (hF : Framed Δ) {j : J} (h : D P Δ j) : j.frame P Δ K := by
  induction h with
  | step h => exact fun hl hK => .step (h.frame hK)
  | stepM h => exact fun hl hK => .stepM (h.frame hK)
  | callF ho hx ha hfn hname hbody h1 h2 h ih => exact fun hl hK => .callF ho hx ha hfn hname hbody h1 h2 (ih h2 hK)
  | nil => exact fun _ _ => .nil
  | skip hw h ih => exact fun hl hK => .skip hw (ih hl hK)
  | cons hw h1 h ih1 ih => exact fun hl hK => have a := h1.abs hΔ hl; .cons hw (ih1 hl hK) (ih (Nat.le_trans hl a.1) (hK.step a))
  | pan hw ho hx => exact fun _ _ => .pan hw ho hx
  | panCall hw ho hx ha hfn hname hbody h1 h2 h ih => exact fun hl hK => .panCall hw ho hx ha hfn hname hbody h1 h2 (ih h2 hK)
  | cskip => exact fun _ _ => .cskip
  | ret => exact fun _ _ => .ret
  | exit => exact fun _ _ => .exit
  | seqN h1 h2 i1 i2 => exact fun hl hK => have a := h1.abs hΔ hl; .seqN (i1 hl hK) (i2 (Nat.le_trans hl a.1) (hK.step a))
  | seqE h1 he ih => exact fun hl hK => .seqE (ih hl hK) he
  | cond hc h ih => exact fun hl hK => .cond hc (ih hl hK)
  | block h ih => exact fun hl hK => .block (ih hl hK)
  | loopN h1 h2 i1 i2 => exact fun hl hK => have a := h1.abs hΔ hl; .loopN (i1 hl hK) (i2 (Nat.le_trans hl a.1) (hK.step a))
  | loopE h1 he ih => exact fun hl hK => .loopE (ih hl hK) he
  | region h ih => exact fun hl hK => .region (ih hl hK)
  | regionD r isW wk fr n H v hchk hw hfr hskip hrun hlate ih =>
    rename_i lo id ops
    intro hl hK
    have key : ∀ k, k ≤ ops.size → n 0 ≤ n k ∧ Off K (n k) (H k) := by
      intro k
      induction k with
      | zero => exact fun _ => ⟨Nat.le_refl _, hK⟩
      | succ k ihk =>
        intro hk
        obtain ⟨h0, h1⟩ := ihk (by omega)
        cases hwk : wk k with
        | false =>
          obtain ⟨_, a, b⟩ := hskip k (by omega) hwk
          rw [a, b]; exact ⟨h0, h1⟩
        | true =>
          have a := (hrun k (by omega) hwk).abs hΔ
          simp only [J.abs] at a
          have a' := a (by split <;> omega)
          exact ⟨Nat.le_trans h0 a'.1, h1.step a'⟩
    have := D.regionD (P := P) (Δ := Δ) (lo := lo) (id := id) (ops := ops) r isW wk fr n (fun k => (H k).plus K) v hchk hw hfr (fun k hk hwk => ?_) (fun k hk hwk => ?_) (fun k c hkc hc hcw hiw hfl hwk => ?_)
    · exact this
    · obtain ⟨a, b, c⟩ := hskip k hk hwk
      exact ⟨a, b, by rw [c]⟩
    · obtain ⟨h0, h1⟩ := key k (by omega)
      have := ih k hk hwk
      simp only [J.frame] at this
      exact this (by split <;> omega) h1
    · obtain ⟨h0, h1⟩ := key k (by omega)
      obtain ⟨h0c, h1c⟩ := key c hc
      have hoff : Off K (n k) ((H c).rm (n k) (n (k + 1))) := fun i o hi => ⟨(h1 i o hi).1, by simp only [Heap.rm]; rw [if_neg (by have := (h1 i o hi).1; omega)]; exact (h1c i o hi).2⟩
      rw [← plus_rm (fun i hi => h1.new hi)]
      exact (hlate k c hkc hc hcw hiw hfl hwk).imp (fun h => h.frame hoff) (fun h => h.frame hoff)
  | weak hle h ih => exact fun hl hK => .weak hle (ih hl hK)
  | drop h hle ih => exact fun hl hK => .drop (ih hl hK) hle
  | weakL hle h ih => exact fun hl hK => .weakL hle (ih hl hK)
  | body hfn hb hd h he hr ih => exact fun hl hK => .body hfn hb hd (ih hl hK) he (hr.frame (hK.step (h.abs hΔ hl)))
  | bodyPan hfn hb hd h ih => exact fun hl hK => .bodyPan hfn hb hd (ih hl hK)
  | prim h => exact fun hl hK => .prim (hF _ _ _ _ _ _ _ _ _ h hl hK)
noncomputable def Heap.vis (H : Heap) (n : Nat) (S : Nat → Prop) : Heap := fun i => open Classical in if i < n ∧ ¬ S i then none else H i
noncomputable def Heap.hid (H : Heap) (n : Nat) (S : Nat → Prop) : Heap := fun i => open Classical in if i < n ∧ ¬ S i then H i else none
theorem vis_in {H : Heap} {n : Nat} {S : Nat → Prop} {i : Nat} (h : S i) : H.vis n S i = H i := by simp [Heap.vis, h]
theorem vis_out {H : Heap} {n : Nat} {S : Nat → Prop} {i : Nat} (h : i < n) (hs : ¬ S i) : H.vis n S i = none := by simp [Heap.vis, h, hs]
theorem vis_new {H : Heap} {n : Nat} {S : Nat → Prop} {i : Nat} (h : n ≤ i) : H.vis n S i = H i := by simp only [Heap.vis]; rw [if_neg (by omega)]
theorem hid_out {H : Heap} {n : Nat} {S : Nat → Prop} {i : Nat} (h : i < n) (hs : ¬ S i) : H.hid n S i = H i := by simp [Heap.hid, h, hs]
theorem hid_some {H : Heap} {n : Nat} {S : Nat → Prop} {i : Nat} {o : Ob} (h : H.hid n S i = some o) : i < n ∧ ¬ S i ∧ H i = some o := by
  simp only [Heap.hid] at h; split at h
  · rename_i hc; exact ⟨hc.1, hc.2, h⟩
  · cases h
theorem off_hid {H : Heap} {n : Nat} {S : Nat → Prop} : Off (H.hid n S) n (H.vis n S) := fun i o h => by
  obtain ⟨h1, h2, h3⟩ := hid_some h
  exact ⟨h1, vis_out h1 h2⟩
theorem plus_vis (H : Heap) (n : Nat) (S : Nat → Prop) : (H.vis n S).plus (H.hid n S) = H := by
  funext i
  simp only [Heap.plus, Heap.vis, Heap.hid]
  by_cases h : i < n ∧ ¬ S i
  · simp only [if_pos h]; cases H i <;> rfl
  · simp only [if_neg h]
theorem C.frame {P : Program} {Δ : Prims} (g : Good P Δ) (hF : Framed Δ) {lo n : Nat} {f : FuncId} {args : List Value} {H : Heap} {R : Value → Nat → Heap → Prop} (S : Nat → Prop) (hlo : lo ≤ n) (h : C P Δ lo f args n (H.vis n S) R) :
    C P Δ lo f args n H fun v n' H' => ∃ H1, R v n' H1 ∧ n ≤ n' ∧ H1.Le H' ∧ (∀ i, i < n → ¬ S i → H' i = H i) ∧ (∀ i, n ≤ i → H' i = H1 i) ∧ (∀ i, i < n → ¬ S i → H1 i = none) ∧ (∀ i, i < lo → H' i = H i) := by
  obtain ⟨v, n', H1, d, r⟩ := h
  have a := d.abs g.abs hlo
  have d2 := d.frame (K := H.hid n S) g.abs hF hlo off_hid
  rw [plus_vis] at d2
  refine ⟨v, n', _, d2, H1, r, a.1, fun i o hi => ?_, fun i hi hs => ?_, fun i hi => ?_, fun i hi hs => a.2.2.2 i hi (vis_out hi hs), (d2.abs g.abs hlo).2.1⟩
  · have hoff := (off_hid (H := H) (S := S) (n := n)).step a
    exact hoff.get hi
  · cases e : H i with
    | some o => simp [Heap.plus, hid_out hi hs, e]
    | none =>
      have hh : H.hid n S i = none := by rw [hid_out hi hs]; exact e
      rw [plus_none hh]
      exact a.2.2.2 i hi (vis_out hi hs)
  · have hh : H.hid n S i = none := by
      cases e : H.hid n S i with
      | none => rfl
      | some o => have := (hid_some e).1; omega
    rw [plus_none hh]
end Go.Proofs.YtlpcdcpcfeaecaaAb
end
section
namespace Go.Proofs.YtlpcdcpcfeaecaaAb
open Go
structure Env (P : Program) (Δ : Prims) : Prop where
  good : Good P Δ
  framed : Framed Δ
theorem setI_length {α : Type} (xs : List α) (j : Int) (y : α) : (setI xs j y).length = xs.length := by simp [setI]
theorem win_fit {c ecs : List Value} {k s : Nat} (h : (c.drop k).take s = ecs) {m : Nat} (h0 : 0 < s) (hl : ecs.length = s) (hm : m ≤ s) : k + m ≤ c.length := by
  have : ((c.drop k).take s).length = s := by rw [h]; exact hl
  rw [List.length_take, List.length_drop] at this
  omega
section
variable {α : Type} [Rp α] {F F' H H' : Heap} {v : Value} {xs ys : List α} {lo n n' : Nat}
theorem OW.head {a : Option Addr} {m cap : Nat} (hl : m = xs.length) (h : OW lo n H F (.slice a m cap) xs) : OW lo n H F (.slice a xs.length cap) xs := by rw [← hl]; exact h
theorem Ext.st {lo n0 n1 : Nat} {F0 F1 : Heap} (hE : Ext n0 F0 n1 F1) (hS : St lo n H F1) : St lo n H F0 := ⟨hS.lo, hS.hb, hE.sub.trans hS.fh⟩
end
section
variable {P : Program} {Δ : Prims} {lo : Nat} {fr : Fr} {n : Nat} {H : Heap} {Q : Post}
section ops
variable {all : Array Oper} {l : List Oper} {o : Oper} {d : Nat} {fl fl2 : List Bool} {lw lo0 : Nat} {F : Heap}
theorem take_drop_splice {c vc : List Value} {k0 len o : Nat} (hk : k0 + len ≤ c.length) (ho : o + vc.length ≤ len) : ((splice c (k0 + o) vc).drop k0).take len = splice ((c.drop k0).take len) o vc := by
  apply List.ext_getElem?
  intro i
  have hl1 : k0 + o + vc.length ≤ c.length := by omega
  have hl2 : o + vc.length ≤ ((c.drop k0).take len).length := by rw [List.length_take, List.length_drop]; omega
  rw [getElem?_splice hl2]
  by_cases hi : i < len
  · rw [List.getElem?_take_of_lt hi, List.getElem?_drop, getElem?_splice hl1, List.getElem?_take_of_lt hi, List.getElem?_drop]
    by_cases h1 : i < o
    · rw [if_pos (by omega), if_pos h1]
    · rw [if_neg (by omega), if_neg h1]
      by_cases h2 : i < o + vc.length
      · rw [if_pos (by omega), if_pos h2]; congr 1; omega
      · rw [if_neg (by omega), if_neg h2]
  · rw [List.getElem?_eq_none (by rw [List.length_take]; omega), if_neg (by omega), if_neg (by omega), List.getElem?_eq_none (by rw [List.length_take]; omega)]
theorem GL.indexO {α : Type} [Rp α] {lo2 : Nat} (hfl : IsFl fl lo n lw fl2) {t : TypeId} {x y : Operand} {el : TypeId} {i : TypeInfo} {v : Value} {xs : List α} {u : α} {q : IntKind} {j : Int} (ho : o.op = .indexAddr t x y) (hd : o.dst = some d) (hw : wantedA all o fr = some true) (ht : P.underlying t = some (.slice el)) (hi : P.info? el = some i) (hsz : i.size = Rp.sz α)
    (hx : fr.eval x = some v) (hR : OW lo2 n H F v xs) (hy : fr.eval y = some (.int q j)) (hu : idx xs j = some u)
    (kk : ∀ b k c ecs, idOf v = some b → H b = some (.row (Rp.sz α) c) → (c.drop k).take (Rp.sz α) = ecs → Rp.R F ecs u →
      (∀ m vc y H', m + vc.length ≤ Rp.sz α → Rp.R F (splice ecs m vc) y → H' b = some (.row (Rp.sz α) (splice c (k + m) vc)) → OW lo2 n H' F v (setI xs j y)) →
      WL P Δ lo fl2 all l ((d, .pointer (some ⟨b, k, none⟩)) :: fr) n H Q) : WL P Δ lo fl all (o :: l) fr n H Q := by
  obtain ⟨h0, h1, h2, h3⟩ := idx_inv hu
  obtain ⟨hlt, hfn, cs, hs, hra⟩ := hR
  rcases hs with ⟨_, hlen, _⟩ | ⟨b, k, cap, c, rfl, hb, hc, hcl, e1, e2, e3, e4⟩
  · omega
  · have hfit : k + xs.length * Rp.sz α ≤ c.length := by
      have := congrArg List.length hc
      rw [hcl, List.length_take, List.length_drop] at this
      by_cases h00 : xs.length * Rp.sz α = 0
      · omega
      · omega
    have hjs : j.toNat * Rp.sz α + Rp.sz α ≤ xs.length * Rp.sz α := by
      have := Nat.mul_le_mul_right (Rp.sz α) h2
      rw [Nat.succ_mul] at this
      exact this
    refine WL.indexS hfl ho hd hw ht hi hx hy h0 (by exact_mod_cast h1) (kk b (k + j.toNat * i.size) c _ rfl hb rfl ?_ ?_)
    · have hg := hra.get h2
      rw [h3, ← hc, List.drop_take, List.take_take] at hg
      have e : min (Rp.sz α) (xs.length * Rp.sz α - j.toNat * Rp.sz α) = Rp.sz α := by omega
      rw [e, List.drop_drop] at hg
      rw [hsz]; exact hg
    · intro m vc y H' hm hy' hH'
      rw [hsz] at hH' hy'
      have hse : (xs.set j.toNat y).length = xs.length := List.length_set
      refine ⟨by rw [setI_length]; exact hlt, hfn, _, .inr ⟨b, k, cap, _, ?_, hH', rfl, ?_, e1, e2, ?_, ?_⟩, ?_⟩
      · rw [setI_length]
      · rw [setI_length, List.length_take, List.length_drop, length_splice (by omega)]; omega
      · rw [length_splice (by omega)]; exact e3
      · rw [setI_length]; exact e4
      · rw [setI_length, Nat.add_assoc, take_drop_splice hfit (by omega), hc]
        have hset := hra.set h2 hy'
        have e : splice cs (j.toNat * Rp.sz α + m) vc = splice cs (j.toNat * Rp.sz α) (splice ((c.drop (k + j.toNat * Rp.sz α)).take (Rp.sz α)) m vc) := by
          rw [← take_drop_splice (by omega) hm, ← hc, ← take_drop_splice hfit (by omega)]
          have hl : (((splice c (k + j.toNat * Rp.sz α + m) vc).drop (k + j.toNat * Rp.sz α)).take (Rp.sz α)).length = Rp.sz α := by
            rw [List.length_take, List.length_drop, length_splice (by omega)]; omega
          rw [← take_drop_splice hfit (by rw [hl]; omega)]
          congr 2
          rw [← Nat.add_assoc]
          apply List.ext_getElem?
          intro i
          rw [getElem?_splice (by omega), getElem?_splice (by rw [hl]; omega)]
          by_cases hi1 : i < k + j.toNat * Rp.sz α
          · rw [if_pos (by omega), if_pos hi1]
          · rw [if_neg hi1]
            rw [hl]
            by_cases hi2 : i < k + j.toNat * Rp.sz α + Rp.sz α
            · rw [if_pos hi2, List.getElem?_take_of_lt (by omega), List.getElem?_drop, getElem?_splice (by omega)]
              rw [show k + j.toNat * Rp.sz α + (i - (k + j.toNat * Rp.sz α)) = i by omega]
            · rw [if_neg hi2, if_neg (by omega), if_neg (by omega)]
        rw [e]; exact hset
theorem St.vis {S : Nat → Prop} (hS : St lo0 n H F) (hF : ∀ i, (F i).isSome = true → S i) : St lo0 n (H.vis n S) F :=
  ⟨hS.lo, fun i hi => by rw [vis_new hi]; exact hS.hb i hi, fun i ob h => by rw [vis_in (hF i (by rw [h]; rfl))]; exact hS.fh i ob h⟩
theorem OW.vis {α : Type} [Rp α] {S : Nat → Prop} {v : Value} {xs : List α} (h : OW lo0 n H F v xs) (hs : ∀ i, idOf v = some i → S i) : OW lo0 n (H.vis n S) F v xs :=
  h.keep (Nat.le_refl _) fun i hi => vis_in (hs i hi)
theorem vis_get {S : Nat → Prop} {i : Nat} {ob : Ob} (h : H i = some ob) (hs : S i) : H.vis n S i = some ob := by rw [vis_in hs]; exact h
theorem OW.after {α : Type} [Rp α] {S : Nat → Prop} {H1 : Heap} {F' : Heap} {n' : Nat} {v : Value} {xs : List α} (h : OW lo0 n' H1 F' v xs) (hd : ∀ i, i < n → ¬ S i → H1 i = none) {b : Nat} (hb : idOf v = some b) : n ≤ b ∨ S b := by
  rcases Nat.lt_or_ge b n with h1 | h1
  · refine .inr (Classical.byContradiction fun hs => ?_)
    obtain ⟨ob, ho⟩ := h.alive hb
    rw [hd b h1 hs] at ho; cases ho
  · exact .inl h1
theorem GL.callIO (g : Env P Δ) (hfl : IsFl fl lo n lw fl2) (S : Nat → Prop) {lo1 : Nat} {x : Operand} {xs : Array Operand} {ts : Array TypeId} {f : FuncId} {first cap : Array Value} {asx args : List Value} {fn : Func} {R : Value → Nat → Heap → Prop} (ho : o.op = .call { callee := .value x, args := xs, argTypes := ts }) (hd : o.dst = some d) (hw : wantedA all o fr = some true)
    (hx : fr.eval x = some (.func (.func f) first cap)) (ha : xs.toList.mapM fr.eval = some asx) (hargs : first.toList ++ asx ++ cap.toList = args) (hfn : P.funcs[f]? = some fn) (hname : (fn.name == "runtime.NumGoroutine") = false) (hbody : fn.body.isNone = false) (hlw : lw ≤ lo1) (hln : lo1 ≤ n)
    (h : C P Δ lo1 f args n (H.vis n S) R) (kk : ∀ v n' H' H1, n ≤ n' → R v n' H1 → H1.Le H' → (∀ i, n ≤ i → H' i = H1 i) → (∀ i, i < n → ¬ S i → H' i = H i) → (∀ i, i < n → ¬ S i → H1 i = none) → WL P Δ lo fl2 all l ((d, v) :: fr) n' H' Q) : WL P Δ lo fl all (o :: l) fr n H Q := by
  subst hargs
  refine WL.call hfl lo1 ho hd hw hx ha hfn hname hbody hlw hln ((h.frame g.good g.framed S hln).mono fun v n' H' r => ?_)
  obtain ⟨H1, r1, r2, r3, r4, r5, r6, r7⟩ := r
  exact kk v n' H' H1 r2 r1 r3 r5 r4 r6
end ops
end
end Go.Proofs.YtlpcdcpcfeaecaaAb
end
section
namespace Go.Proofs.YtlpcdcpcfeaecaaAb
open Go
def StepO (P : Program) (lo : Nat) (ev : Operand → Option Value) (n : Nat) (H : Heap) (o : Oper) (v : Value) (n' : Nat) (H' : Heap) : Prop := Step P lo ev n H o v n' H' ∨ StepM P lo ev n H o v n' H'
section
variable (P : Program) (Δ : Prims) (lo : Nat) (all : Array Oper) (I : Heap → Prop)
inductive TRI : List (Bool × Bool × Bool) → List Oper → Bool → Fr → Nat → Heap → Fr → Nat → Heap → Prop
  | nil {nd : Bool} {fr : Fr} {n : Nat} {H : Heap} (hI : nd = true → I H) : TRI [] [] nd fr n H fr n H
  | cons {b ft nd nde : Bool} {fl : List (Bool × Bool × Bool)} {o : Oper} {l : List Oper} {fr fr1 fr' : Fr} {n n1 n' : Nat} {H H1 H' : Heap} (hI : nd = true → I H) (h1 : TR P Δ lo all [b] [o] fr n H .norm fr1 n1 H1) (hf : ft = false) (h : TRI fl l nde fr1 n1 H1 fr' n' H') : TRI ((b, ft, nd) :: fl) (o :: l) nde fr n H fr' n' H'
  | late {nd nde : Bool} {fl : List (Bool × Bool × Bool)} {o : Oper} {l : List Oper} {fr fr' : Fr} {n n' : Nat} {H H' : Heap} {v : Value} (hI : nd = true → I H) (hw : wantedA all o fr = some true) (hs : ∀ H2, (H2 = H ∨ I H2) → Step P n fr.eval n H2 o v n H2) (h : TRI fl l nde (fr.put o.dst v) n H fr' n' H') : TRI ((false, true, nd) :: fl) (o :: l) nde fr n H fr' n' H'
  | lateX {nd nde : Bool} {fl : List (Bool × Bool × Bool)} {o : Oper} {l : List Oper} {fr fr' : Fr} {n n1 n' : Nat} {H H1 H' : Heap} {v : Value} (hI : nd = true → I H) (hw : wantedA all o fr = some true) (h1 : StepO P n fr.eval n H o v n1 H1) (hs : ∀ H2, I H2 → StepO P n fr.eval n (H2.rm n n1) o v n1 H2) (h : TRI fl l nde (fr.put o.dst v) n1 H1 fr' n' H') : TRI ((false, true, nd) :: fl) (o :: l) nde fr n H fr' n' H'
  | lateSkip {ft nd nde : Bool} {fl : List (Bool × Bool × Bool)} {o : Oper} {l : List Oper} {fr fr' : Fr} {n n' : Nat} {H H' : Heap} (hI : nd = true → I H) (hw : wantedA all o fr = some false) (h : TRI fl l nde (fr.put o.dst undef) n H fr' n' H') : TRI ((false, ft, nd) :: fl) (o :: l) nde fr n H fr' n' H'
structure WLI (fl : List (Bool × Bool × Bool)) (nde : Bool) (l : List Oper) (fr : Fr) (n : Nat) (H : Heap) (Q : Fr → Nat → Heap → Prop) : Prop where
  out : ∃ fr' n' H', TRI P Δ lo all I fl l nde fr n H fr' n' H' ∧ Q fr' n' H'
end
section
variable {P : Program} {Δ : Prims} {lo : Nat} {all : Array Oper} {I : Heap → Prop}
theorem rm_nil (H : Heap) (n : Nat) : H.rm n n = H := by funext i; simp only [Heap.rm]; rw [if_neg (by omega)]
theorem TR.one {fl : List Bool} {b : Bool} {o : Oper} {fr fr' : Fr} {n n' : Nat} {H H' : Heap} {e : Ex} (h : TR P Δ lo all [b] [o] fr n H e fr' n' H') : ∀ frx, Fr.same frx fr →
    e = .norm ∧ ∃ v K, Fr.same (frx.put o.dst v) fr' ∧ wantedA all o frx = some K ∧ (K = false → v = undef ∧ n' = n ∧ H' = H) ∧ (K = true → D P Δ (.op (if b then lo else n) o frx n H v n' H')) := by
  intro frx hx
  obtain ⟨he, F, N, HH, V, K, f0, n0, h0, f1, n1, h1, hk⟩ := h.fns rfl frx hx
  have := hk 0 (by simp)
  simp only [List.getD_cons_zero] at this
  obtain ⟨a, b', c, d⟩ := this
  simp only [List.length_singleton] at f1 n1 h1
  refine ⟨he, V 0, K 0, ?_, by rw [← f0]; exact a, fun hK => ?_, fun hK => ?_⟩
  · rw [← f0, ← b']; exact f1
  · obtain ⟨x, y, z⟩ := c hK
    exact ⟨x, by rw [← n1, y, n0], by rw [← h1, z, h0]⟩
  · have := d hK
    rw [f0, n0, h0, n1, h1] at this
    exact this
theorem TRI.fns {fl : List (Bool × Bool × Bool)} {l : List Oper} {nde : Bool} {fr fr' : Fr} {n n' : Nat} {H H' : Heap} (h : TRI P Δ lo all I fl l nde fr n H fr' n' H') : ∀ frx, Fr.same frx fr →
    fl.length = l.length ∧ ∃ (F : Nat → Fr) (N : Nat → Nat) (HH : Nat → Heap) (V : Nat → Value) (K : Nat → Bool), F 0 = frx ∧ N 0 = n ∧ HH 0 = H ∧ Fr.same (F l.length) fr' ∧ N l.length = n' ∧ HH l.length = H' ∧ (nde = true → I (HH l.length)) ∧
      ∀ k, k < l.length → wantedA all (l.getD k default) (F k) = some (K k) ∧ F (k + 1) = (F k).put (l.getD k default).dst (V k) ∧ (K k = false → V k = undef ∧ N (k + 1) = N k ∧ HH (k + 1) = HH k) ∧
        (K k = true → D P Δ (.op (if (fl.getD k (true, false, false)).1 then lo else N k) (l.getD k default) (F k) (N k) (HH k) (V k) (N (k + 1)) (HH (k + 1)))) ∧
        ((fl.getD k (true, false, false)).2.2 = true → I (HH k)) ∧
        ((fl.getD k (true, false, false)).2.1 = true → K k = true → ∀ H2, I H2 → StepO P (N k) (F k).eval (N k) (H2.rm (N k) (N (k + 1))) (l.getD k default) (V k) (N (k + 1)) H2) := by
  induction h with
  | @nil nd fr n H hI =>
    intro frx hx
    exact ⟨rfl, fun _ => frx, fun _ => n, fun _ => H, fun _ => undef, fun _ => false, rfl, rfl, rfl, hx, rfl, rfl, hI, fun k hk => by simp at hk⟩
  | @cons b ft nd nde fl o l fr fr1 fr' n n1 n' H H1 H' hI h1 hf h ih =>
    intro frx hx
    obtain ⟨_, v, K0, hs, hw, hk0, hk1⟩ := TR.one (fl := [b]) h1 frx hx
    obtain ⟨hlen, F, N, HH, V, K, f0, n0, h0, f1, nn1, hh1, hend, hk⟩ := ih (frx.put o.dst v) hs
    refine ⟨by simp [hlen], fun k => match k with | 0 => frx | k + 1 => F k, fun k => match k with | 0 => n | k + 1 => N k, fun k => match k with | 0 => H | k + 1 => HH k, fun k => match k with | 0 => v | k + 1 => V k, fun k => match k with | 0 => K0 | k + 1 => K k,
      rfl, rfl, rfl, by simpa using f1, by simpa using nn1, by simpa using hh1, by simpa using hend, fun k hkl => ?_⟩
    cases k with
    | zero =>
      refine ⟨hw, f0, fun hh => ?_, fun hh => ?_, hI, fun hh => by simp only [List.getD_cons_zero] at hh; rw [hf] at hh; cases hh⟩
      · obtain ⟨a, c, d⟩ := hk0 hh; exact ⟨a, by rw [← c]; exact n0, by rw [← d]; exact h0⟩
      · have := hk1 hh
        simp only [List.getD_cons_zero, n0, h0]; exact this
    | succ k => simpa using hk k (by simpa using hkl)
  | @late nd nde fl o l fr fr' n n' H H' v hI hw hs h ih =>
    intro frx hx
    obtain ⟨hlen, F, N, HH, V, K, f0, n0, h0, f1, nn1, hh1, hend, hk⟩ := ih (frx.put o.dst v) (Fr.same_put hx _ _)
    have he := Fr.same_eval hx
    refine ⟨by simp [hlen], fun k => match k with | 0 => frx | k + 1 => F k, fun k => match k with | 0 => n | k + 1 => N k, fun k => match k with | 0 => H | k + 1 => HH k, fun k => match k with | 0 => v | k + 1 => V k, fun k => match k with | 0 => true | k + 1 => K k,
      rfl, rfl, rfl, by simpa using f1, by simpa using nn1, by simpa using hh1, by simpa using hend, fun k hkl => ?_⟩
    cases k with
    | zero =>
      refine ⟨by rw [Fr.same_wanted hx]; exact hw, f0, fun hh => (by cases hh), fun hh => ?_, hI, fun _ _ H2 h2 => ?_⟩
      · simp only [List.getD_cons_zero, n0, h0]
        exact .step (by rw [he]; exact hs H (.inl rfl))
      · simp only [List.getD_cons_zero, n0, rm_nil]
        rw [he]; exact .inl (hs H2 (.inr h2))
    | succ k => simpa using hk k (by simpa using hkl)
  | @lateX nd nde fl o l fr fr' n n1 n' H H1 H' v hI hw h1 hs h ih =>
    intro frx hx
    obtain ⟨hlen, F, N, HH, V, K, f0, n0, h0, f1, nn1, hh1, hend, hk⟩ := ih (frx.put o.dst v) (Fr.same_put hx _ _)
    have he := Fr.same_eval hx
    refine ⟨by simp [hlen], fun k => match k with | 0 => frx | k + 1 => F k, fun k => match k with | 0 => n | k + 1 => N k, fun k => match k with | 0 => H | k + 1 => HH k, fun k => match k with | 0 => v | k + 1 => V k, fun k => match k with | 0 => true | k + 1 => K k,
      rfl, rfl, rfl, by simpa using f1, by simpa using nn1, by simpa using hh1, by simpa using hend, fun k hkl => ?_⟩
    cases k with
    | zero =>
      refine ⟨by rw [Fr.same_wanted hx]; exact hw, f0, fun hh => (by cases hh), fun hh => ?_, hI, fun _ _ H2 h2 => ?_⟩
      · simp only [List.getD_cons_zero, n0, h0]
        rcases h1 with h1 | h1
        · exact .step (by rw [he]; exact h1)
        · exact .stepM (by rw [he]; exact h1)
      · simp only [List.getD_cons_zero, n0]
        rw [he]; exact hs H2 h2
    | succ k => simpa using hk k (by simpa using hkl)
  | @lateSkip ft nd nde fl o l fr fr' n n' H H' hI hw h ih =>
    intro frx hx
    obtain ⟨hlen, F, N, HH, V, K, f0, n0, h0, f1, nn1, hh1, hend, hk⟩ := ih (frx.put o.dst undef) (Fr.same_put hx _ _)
    refine ⟨by simp [hlen], fun k => match k with | 0 => frx | k + 1 => F k, fun k => match k with | 0 => n | k + 1 => N k, fun k => match k with | 0 => H | k + 1 => HH k, fun k => match k with | 0 => undef | k + 1 => V k, fun k => match k with | 0 => false | k + 1 => K k,
      rfl, rfl, rfl, by simpa using f1, by simpa using nn1, by simpa using hh1, by simpa using hend, fun k hkl => ?_⟩
    cases k with
    | zero => exact ⟨by rw [Fr.same_wanted hx]; exact hw, f0, fun _ => ⟨rfl, n0, h0⟩, fun hh => (by cases hh), hI, fun _ hh => (by cases hh)⟩
    | succ k => simpa using hk k (by simpa using hkl)
def lateB (ops : Array Oper) (r : List Nat) (fl : List (Bool × Bool × Bool)) (nde : Bool) : Bool :=
  (List.range (ops.size + 1)).all fun c => (List.range c).all fun k =>
    !(decide (c = ops.size) || (fl.getD c (true, false, false)).1) || (fl.getD k (true, false, false)).1 || !floatsB ops r (fun k => (fl.getD k (true, false, false)).1) k c ||
      ((fl.getD k (true, false, false)).2.1 && (if c = ops.size then nde else (fl.getD c (true, false, false)).2.2))
theorem W.regionI {id : Nat} {l : List Oper} {fr : Fr} {n : Nat} {H : Heap} {Q : Post} (I : Heap → Prop) (r : List Nat) (fl : List (Bool × Bool × Bool)) (nde : Bool) (hrl : r.length = l.length) (hchk : regOK l.toArray r (fun k => (fl.getD k (true, false, false)).1) = true) (hlate : lateB l.toArray r fl nde = true)
    {pl : List Oper} (hpl : r.map (fun i => l.getD i default) = pl) (h : WLI P Δ lo l.toArray I fl nde pl fr n H (Q .norm)) : W P Δ lo (.region id l.toArray true) fr n H Q := by
  obtain ⟨fr', n', H', tr, q⟩ := h
  have hpll : pl.length = l.length := by rw [← hpl]; simp [hrl]
  obtain ⟨hlen, F, N, HH, V, K, rfl, rfl, rfl, f1, rfl, rfl, hend, hk⟩ := tr.fns fr (Fr.same_refl fr)
  have hget : ∀ k, k < l.length → pl.getD k default = l.toArray.getD (r.getD k 0) default := fun k hk' => by
    rw [← hpl]
    have hkr : k < r.length := by omega
    simp [List.getD, List.getElem?_map, List.getElem?_eq_getElem hkr, Array.getD_eq_getD_getElem?]
  have hsz : l.toArray.size = l.length := by simp
  refine ⟨.norm, fr', _, _, D.drop (D.regionD (id := id) r (fun k => (fl.getD k (true, false, false)).1) K F N HH V hchk (fun k hk' => ?_) (fun k hk' => ?_) (fun k hk' hf => ?_) (fun k hk' ht => ?_) (fun k c hkc hc hcw hw hfl hwk => ?_)) (fun t v hv => ?_), ?_⟩
  · rw [hsz] at hk'; rw [← hget k hk']; exact (hk k (by omega)).1
  · rw [hsz] at hk'; rw [← hget k hk']; exact (hk k (by omega)).2.1
  · rw [hsz] at hk'; exact (hk k (by omega)).2.2.1 hf
  · rw [hsz] at hk'; rw [← hget k hk']; exact (hk k (by omega)).2.2.2.1 ht
  · simp only [lateB, List.all_eq_true, List.mem_range] at hlate
    have := hlate c (by omega) k hkc
    have h2 : (decide (c = l.toArray.size) || (fl.getD c (true, false, false)).1) = true := by
      rcases hcw with h | h
      · simp [h]
      · rw [h]; simp
    rw [h2, hw, hfl] at this
    simp only [Bool.not_true, Bool.false_or, Bool.and_eq_true] at this
    obtain ⟨h3, h4⟩ := this
    have hkl : k < l.length := by omega
    rw [← hget k hkl]
    refine (hk k (by omega)).2.2.2.2.2 h3 hwk (HH c) ?_
    by_cases hce : c = l.toArray.size
    · rw [if_pos hce] at h4
      rw [hce, hsz, ← hpll]; exact hend h4
    · rw [if_neg hce] at h4
      exact (hk c (by omega)).2.2.2.2.1 h4
  · rw [hsz, ← hpll, f1 t]; exact hv
  · rw [hsz, ← hpll]; exact q
section rules
variable {fr : Fr} {n : Nat} {H : Heap} {Q : Fr → Nat → Heap → Prop} {fl : List (Bool × Bool × Bool)} {nde b nd : Bool} {l : List Oper} {o : Oper} {d : Nat}
theorem WLI.nil (hI : nde = true → I H) (h : Q fr n H) : WLI P Δ lo all I [] nde [] fr n H Q := ⟨_, _, _, .nil hI, h⟩
theorem WLI.op (hI : nd = true → I H) (h : WL P Δ lo [b] all [o] fr n H (fun e fr1 n1 H1 => e = .norm ∧ WLI P Δ lo all I fl nde l fr1 n1 H1 Q)) : WLI P Δ lo all I ((b, false, nd) :: fl) nde (o :: l) fr n H Q := by
  obtain ⟨e, fr1, n1, H1, tr, rfl, fr', n', H', t2, q⟩ := h
  exact ⟨fr', n', H', .cons hI tr rfl t2, q⟩
theorem WLI.late {v : Value} (hI : nd = true → I H) (hd : o.dst = some d) (hw : wantedA all o fr = some true) (hs : ∀ H2, (H2 = H ∨ I H2) → Step P n fr.eval n H2 o v n H2) (h : WLI P Δ lo all I fl nde l ((d, v) :: fr) n H Q) : WLI P Δ lo all I ((false, true, nd) :: fl) nde (o :: l) fr n H Q := by
  obtain ⟨fr', n', H', t2, q⟩ := h
  exact ⟨fr', n', H', .late hI hw hs (by rw [hd]; exact t2), q⟩
theorem WLI.lateX {v : Value} {n1 : Nat} {H1 : Heap} (hI : nd = true → I H) (hd : o.dst = some d) (hw : wantedA all o fr = some true) (h1 : StepO P n fr.eval n H o v n1 H1) (hs : ∀ H2, I H2 → StepO P n fr.eval n (H2.rm n n1) o v n1 H2) (h : WLI P Δ lo all I fl nde l ((d, v) :: fr) n1 H1 Q) : WLI P Δ lo all I ((false, true, nd) :: fl) nde (o :: l) fr n H Q := by
  obtain ⟨fr', n', H', t2, q⟩ := h
  exact ⟨fr', n', H', .lateX hI hw h1 hs (by rw [hd]; exact t2), q⟩
theorem Step.bin {op : BinOp} {t t' : TypeId} {x y : Operand} {k k' : IntKind} {a c : Int} {v : Value} {lw : Nat} (ho : o.op = .binOp op t x y t') (hx : fr.eval x = some (.int k a)) (hy : fr.eval y = some (.int k' c)) (hv : binI op k a k' c = some v) : Step P lw fr.eval n H o v n H := by
  refine .ground (fun cs b h => by rw [ho] at h; cases h) (fun z hz => ?_) (gr_binI hv) (fun w => binI_run hv ho (by rw [hx]; rfl) (by rw [hy]; rfl) w)
  rw [ho] at hz
  simp only [Op.operands] at hz
  have : z = x ∨ z = y := by simpa using hz
  rcases this with rfl | rfl
  · exact ⟨_, hx, gr_int _ _⟩
  · exact ⟨_, hy, gr_int _ _⟩
theorem Step.addI {t t' : TypeId} {x y : Operand} {a c : Int} {lw : Nat} (ho : o.op = .binOp .add t x y t') (hx : fr.eval x = some (.int .i64 a)) (hy : fr.eval y = some (.int .i64 c)) (h1 : -9223372036854775808 ≤ a + c) (h2 : a + c < 9223372036854775808) : Step P lw fr.eval n H o (.int .i64 (a + c)) n H :=
  Step.bin ho hx hy (by simp only [binI, if_true]; rw [wrap_i64 ⟨h1, h2⟩])
theorem Step.subI {t t' : TypeId} {x y : Operand} {a c : Int} {lw : Nat} (ho : o.op = .binOp .sub t x y t') (hx : fr.eval x = some (.int .i64 a)) (hy : fr.eval y = some (.int .i64 c)) (h1 : -9223372036854775808 ≤ a - c) (h2 : a - c < 9223372036854775808) : Step P lw fr.eval n H o (.int .i64 (a - c)) n H :=
  Step.bin ho hx hy (by simp only [binI, if_true]; rw [wrap_i64 ⟨h1, h2⟩])
theorem Step.load1' {t : TypeId} {x : Operand} {dd : TypeDesc} {b k e : Nat} {c : List Value} {v : Value} {lw : Nat} {H2 : Heap} (ho : o.op = .load t x) (ht : P.underlying t = some dd) (hr : isRow dd = false) (hx : fr.eval x = some (.pointer (some ⟨b, k, none⟩))) (hb : H2 b = some (.row e c)) (hk : c[k]? = some v) : Step P lw fr.eval n H2 o v n H2 := .load1 ho ht hr hx hb hk
theorem Step.len' {t : TypeId} {x : Operand} {el : TypeId} {a : Option Addr} {len cap : Nat} {lw : Nat} {H2 : Heap} (ho : o.op = .call { callee := .builtin .len, args := #[x], argTypes := #[t] }) (ht : P.underlying t = some (.slice el)) (hx : fr.eval x = some (.slice a len cap)) : Step P lw fr.eval n H2 o (.int .i64 len) n H2 := .len ho ht hx
theorem Step.fieldAddr' {s : TypeId} {x : Operand} {j b k k' : Nat} {fs : Array Field} {f : Field} {i : TypeInfo} {lw : Nat} (ho : o.op = .fieldAddr s x j) (hs : P.underlying s = some (.struct fs)) (hf : fs[j]? = some f)
      (hi : P.info? f.type = some i) (h0 : (i.size == 0) = false) (hx : fr.eval x = some (.pointer (some ⟨b, k, none⟩))) (hk : k + f.offset = k') : Step P lw fr.eval n H o (.pointer (some ⟨b, k', none⟩)) n H := by subst hk; exact .fieldAddr ho hs hf hi h0 hx
end rules
end
end Go.Proofs.YtlpcdcpcfeaecaaAb
end
section
namespace Go.Proofs.YtlpcdcpcfeaecaaAb
open Go
def u32 (b : UInt32) : Value := .int .u32 b.toNat
instance : Sc UInt32 := ⟨u32, fun _ => rfl, fun _ => gr_int _ _⟩
section
variable {P : Program} {Δ : Prims} {lo : Nat} {fr : Fr} {n : Nat} {H : Heap} {Q : Post}
section ops
variable {all : Array Oper} {l : List Oper} {o : Oper} {d : Nat} {fl fl2 : List Bool} {lw lo0 : Nat} {F : Heap}
theorem GL.sliceO {α : Type} [Rp α] {lo2 : Nat} (hfl : IsFl fl lo n lw fl2) {t el : TypeId} {i : TypeInfo} {x : Operand} {low high : Option Operand} {v : Value} {xs ys : List α} {l' h : Int} (ho : o.op = .slice t x low high none) (hd : o.dst = some d) (hw : wantedA all o fr = some true) (ht : P.underlying t = some (.slice el)) (hi : P.info? el = some i) (hsz : i.size = Rp.sz α)
    (hx : fr.eval x = some v) (hO : OW lo2 n H F v xs) (hl : BndI fr.eval low 0 l') (hh : BndI fr.eval high xs.length h) (hy : slc xs l' h = some ys)
    (kk : ∀ a cap, (∀ b, idOf (.slice a ys.length cap) = some b → idOf v = some b) → OW lo2 n H F (.slice a ys.length cap) ys → WL P Δ lo fl2 all l ((d, .slice a ys.length cap) :: fr) n H Q) : WL P Δ lo fl all (o :: l) fr n H Q := by
  obtain ⟨h0, h1, h2, rfl⟩ := slc_inv hy
  obtain ⟨hlt, hfn, cs, hs, hra⟩ := hO
  have hl' := hl.nat h0
  have hh' := hh.nat (by omega)
  have elen : ((xs.take h.toNat).drop l'.toNat).length = h.toNat - l'.toNat := by simp; omega
  have hra' := (hra.take h.toNat).drop l'.toNat
  rcases hs with ⟨rfl, e1, e2⟩ | ⟨b, k, cap, c, rfl, hb, hc, hcl, g1, g2, g3, g4⟩
  · have e3 : h.toNat = 0 := by omega
    have e4 : l'.toNat = 0 := by omega
    have e5 : ((xs.take h.toNat).drop l'.toNat) = [] := by rw [e3]; simp
    rw [e3, e1] at hh'; rw [e4] at hl'
    refine WL.sliceNil hfl ho hd hw ht hi hx hl' hh' ?_
    have := kk none 0
    rw [e5] at this
    exact this (fun b h => h) OW.nil
  · have hk := kk (some ⟨b, k + l'.toNat * i.size, none⟩) (UNK + (lb xs.length cap - l'.toNat))
    rw [elen] at hk
    have hfit : xs.length * Rp.sz α ≤ c.length - k := by
      have := congrArg List.length hc
      rw [hcl, List.length_take, List.length_drop] at this
      omega
    have hlm : l'.toNat * i.size ≤ xs.length * Rp.sz α := by rw [hsz]; exact Nat.mul_le_mul_right _ (by omega)
    refine WL.slice hfl ho hd hw ht hi hx hb hsz.symm rfl hl' hh' (Nat.le_refl _) (by intro h; cases h) (by omega) (by unfold lb; omega) (hk (fun b' h => by simpa [idOf] using h) ⟨by rw [elen]; omega, fun i hi => hfn i (by simpa [idOf] using hi), _, .inr ⟨b, k + l'.toNat * i.size, UNK + (lb xs.length cap - l'.toNat), c, by rw [elen], hb, ?_, hra'.length, g1, g2, by omega, .inr (by omega)⟩, hra'⟩)
    rw [elen, hsz]
    rcases SL.part (v := .slice none 0 0) (cap := 0) (G := H) hb hc hcl (show l'.toNat ≤ h.toNat by omega) (show h.toNat ≤ xs.length by omega) 0 with ⟨e, _⟩ | ⟨b', k', cap', c', e, e2, e3, e4⟩
    · cases e
    · cases e
      rw [hb] at e2
      cases e2
      exact e3
theorem GL.appendStr {lo2 : Nat} (hS : St lo0 n H F) (hfl : IsFl fl lo n lw fl2) {t u el : TypeId} {i : TypeInfo} {z : Value} {x y : Operand} {v : Value} {xs ys : List UInt8} {dd : TypeDesc} (ho : o.op = .call { callee := .builtin .append, args := #[x, y], argTypes := #[t, u] }) (hd : o.dst = some d) (hw : wantedA all o fr = some true) (ht : P.underlying t = some (.slice el)) (hu : P.underlying u = some dd) (hdd : isInt dd = false) (hi : P.info? el = some i) (hz : i.zero = some z) (hzs : (Cells z).length = i.size) (hsz : i.size = Rp.sz UInt8) (hby : i.bytes ≤ 2048)
    (hx : fr.eval x = some v) (hy : fr.eval y = some (str ys)) (hO : OW lo2 n H F v xs) (hlo2 : lw ≤ lo2) (hl2 : lo2 ≤ n) (hlen : (xs.length : Int) + ys.length ≤ 68719476736)
    (kk : ∀ a cap n' H', St lo0 n' H' F → n ≤ n' → OW lo2 n' H' F (.slice a (xs ++ ys).length cap) (xs ++ ys) → (∀ j, j < n → idOf v ≠ some j → H' j = H j) → (∀ b, idOf (.slice a (xs ++ ys).length cap) = some b → n ≤ b ∨ idOf v = some b) →
      WL P Δ lo fl2 all l ((d, .slice a (xs ++ ys).length cap) :: fr) n' H' Q) : WL P Δ lo fl all (o :: l) fr n H Q := by
  have hO' := hO
  obtain ⟨hlt, hfn, ocs, hown, hra⟩ := hO
  have el : (xs ++ ys).length = xs.length + ys.length := List.length_append
  have hs1 : i.size = 1 := hsz
  have hsrc' : Src P fr.eval H i.size u y ys.length (ys.map u8) := Src.str (s := ⟨ys.toArray⟩) hu hdd hs1 hy
  have hra2 : RA F (ys.map u8) ys := RA.ofSc F ys
  by_cases hm : ys.length = 0
  · have hn : ys = [] := List.eq_nil_of_length_eq_zero hm
    subst hn
    obtain ⟨a, cap, rfl⟩ := hown.form
    have := kk a cap n H hS (Nat.le_refl _) (by simpa using hO') (fun _ _ _ => rfl) (fun b h => .inr (by simpa [idOf] using h))
    rw [List.append_nil] at this
    exact WL.append0 hfl ho hd hw ht hi hx hsrc' this
  · refine WL.app' hfl ho hd hw ht hi hz hzs hx (by rw [hsz]; exact hown.mono hlo2 (Nat.le_refl _) (fun _ _ _ => rfl)) hsrc' (by omega) hra2.one hra.one ?_ (by unfold UNK; omega) (fun H' e1 e2 e3 e4 => ?_) (by rw [hsz]; exact hra2.length)
    · have h1 : (xs.length + ys.length) ≤ 68719476736 := by omega
      exact Nat.le_trans (Nat.mul_le_mul h1 hby) (by decide)
    · have hS' : St lo0 (n + 1) H' F := ⟨by have := hS.lo; omega, fun i hi => by rw [e3 i (by omega)]; exact hS.hb i (by omega), fun i ob hi => by
        have hin := hS.lt (hS.fh i ob hi)
        rw [e2 i hin (fun e => by rw [hfn i e] at hi; cases hi)]; exact hS.fh i ob hi⟩
      have := kk (some ⟨n, 0, none⟩) (UNK + (xs.length + ys.length)) (n + 1) H' hS' (by omega)
      rw [el] at this
      refine this ⟨by rw [el]; unfold UNK; omega, fun i hi => ?_, _, ?_, hra.append hra2⟩ e2 (fun b hb => .inl ?_)
      · have hin : n = i := by simpa [idOf] using hi
        subst hin; exact hS.fnone (Nat.le_refl _)
      · rw [el, ← hsz]; exact e4 lo2 hl2
      · have hin : n = b := by simpa [idOf] using hb
        omega
end ops
theorem SrcX.up {α : Type} [Rp α] {n' lo0 : Nat} {F H' : Heap} {v : Value} {ys : List α} (hS : St lo0 n H F) (h : SrcX H F v ys) (hk : ∀ i, i < n → H' i = H i) : SrcX H' F v ys := by
  obtain ⟨cs, h1, h2⟩ := h
  refine ⟨cs, ?_, h2⟩
  rcases h1 with h1 | ⟨b, k, cap, c, e1, e2, e3⟩
  · exact .inl h1
  · exact .inr ⟨b, k, cap, c, e1, by rw [hk b (hS.lt e2)]; exact e2, e3⟩
theorem SrcX.isNone {α : Type} [Rp α] {F : Heap} {a : Option Addr} {m cap : Nat} {xs : List α} (h : SrcX H F (.slice a m cap) xs) (hc : (if BinOp.eql = BinOp.eql then a.isNone else !a.isNone) = true) : xs = [] := by
  simp only [if_true] at hc
  obtain ⟨cs, h1, _⟩ := h
  rcases h1 with ⟨e, h2, _⟩ | ⟨b, k, cap, c, e, _⟩
  · exact List.eq_nil_of_length_eq_zero h2
  · cases e; simp at hc
end
end Go.Proofs.YtlpcdcpcfeaecaaAb
end
section
namespace Go.Proofs.YtlpcdcpcfeaecaaAb
open Go
class Bd (α : Type) where
  bd : Nat → α → Prop
instance : Bd Int := ⟨fun _ _ => True⟩
instance : Bd Bool := ⟨fun _ _ => True⟩
instance : Bd UInt8 := ⟨fun _ _ => True⟩
instance : Bd Str := ⟨fun B s => s.length ≤ B⟩
instance {α : Type} [Bd α] : Bd (List α) := ⟨fun B xs => xs.length ≤ B ∧ ∀ x ∈ xs, Bd.bd B x⟩
end Go.Proofs.YtlpcdcpcfeaecaaAb
end
section
namespace Go.Proofs.YtlpcdcpcfeaecaaAb
open Go
section
variable {P : Program} {Δ : Prims} {lo : Nat} {fr : Fr} {n : Nat} {H : Heap} {Q : Post}
section ops
variable {all : Array Oper} {l : List Oper} {o : Oper} {d : Nat} {fl fl2 : List Bool} {lw : Nat}
theorem GL.callIn (hfl : IsFl fl lo n lw fl2) (lo' : Nat) {x : Operand} {xs : Array Operand} {ts : Array TypeId} {f : FuncId} {first cap : Array Value} {asx args : List Value} {fn : Func} (ho : o.op = .call { callee := .value x, args := xs, argTypes := ts }) (hd : o.dst = some d) (hw : wantedA all o fr = some true)
    (hx : fr.eval x = some (.func (.func f) first cap)) (ha : xs.toList.mapM fr.eval = some asx) (hargs : first.toList ++ asx ++ cap.toList = args) (hfn : P.funcs[f]? = some fn) (hname : (fn.name == "runtime.NumGoroutine") = false) (hbody : fn.body.isNone = false) (h1 : lw ≤ lo') (h2 : lo' ≤ n)
    (h : C P Δ lo' f args n H (fun v n' H' => WL P Δ lo fl2 all l ((d, v) :: fr) n' H' Q)) : WL P Δ lo fl all (o :: l) fr n H Q := by
  subst hargs
  exact WL.call hfl lo' ho hd hw hx ha hfn hname hbody h1 h2 h
end ops
end
theorem win_fit2 {c ecs : List Value} {k s : Nat} (h : (c.drop k).take s = ecs) {o m : Nat} (h0 : 0 < s) (hl : ecs.length = s) (hm : o + m ≤ s) : k + o + m ≤ c.length := by
  have : ((c.drop k).take s).length = s := by rw [h]; exact hl
  rw [List.length_take, List.length_drop] at this
  omega
abbrev lst (s : List UInt8) : List UInt8 := s
class Fl (α : Type) [Rp α] : Prop where
  flat : ∀ {F F' : Heap} {cs : List Value} {a : α}, Rp.R F cs a → Rp.R F' cs a
instance (priority := 900) scFl {α : Type} [Sc α] : Fl α := ⟨fun h => h⟩
theorem RA.flat {β : Type} [Rp β] [Fl β] {F F' : Heap} {cs : List Value} {xs : List β} (h : RA F cs xs) : RA F' cs xs := by
  induction h with
  | nil => exact .nil
  | cons h t ih => exact .cons (Fl.flat h) ih
theorem OW.downFl {β : Type} [Rp β] [Fl β] {lo n : Nat} {H F F' : Heap} {v : Value} {xs : List β} (hle : F.Le F') (h : OW lo n H F' v xs) : OW lo n H F v xs := by
  obtain ⟨h0, h1, cs, h2, h3⟩ := h
  refine ⟨h0, fun i hi => ?_, cs, h2, h3.flat⟩
  cases e : F i with
  | none => rfl
  | some o => have := hle i o e; rw [h1 i hi] at this; cases this
end Go.Proofs.YtlpcdcpcfeaecaaAb
end
section
namespace Go.Proofs.YtlpcdcpcfeaecaaAb
open Go
def OX {β : Type} [Rp β] (G F : Heap) (v : Value) (xs : List β) : Prop := xs.length < UNK ∧ ∃ cs, (∃ lo n, OwnS lo n G (Rp.sz β) v xs.length cs) ∧ RA F cs xs
section
variable {β : Type} [Rp β] {G G' F F' H : Heap} {v : Value} {xs : List β} {lo n : Nat}
theorem OX.mono (h : OX G F v xs) (hle : F.Le F') : OX G F' v xs := by
  obtain ⟨h0, cs, h1, h2⟩ := h; exact ⟨h0, cs, h1, h2.mono hle⟩
theorem OX.congr (h : OX G F v xs) (hk : ∀ i, idOf v = some i → G' i = G i) : OX G' F v xs := by
  obtain ⟨h0, cs, ⟨l, m, h1⟩, h2⟩ := h
  exact ⟨h0, cs, ⟨l, m, h1.mono (Nat.le_refl _) (Nat.le_refl _) fun i _ hi => hk i hi⟩, h2⟩
theorem OX.ow (h : OX H F v xs) (hi : ∀ i, idOf v = some i → lo ≤ i ∧ i < n ∧ F i = none) : OW lo n H F v xs := by
  obtain ⟨h0, cs, ⟨l, m, h1⟩, h2⟩ := h
  refine ⟨h0, fun i h => (hi i h).2.2, cs, ?_, h2⟩
  rcases h1 with h | ⟨b, k, cap, c, rfl, hb, e1, e2, e3, e4, e5, e6⟩
  · exact .inl h
  · obtain ⟨g1, g2, _⟩ := hi b rfl
    exact .inr ⟨b, k, cap, c, rfl, hb, e1, e2, g1, g2, e5, e6⟩
theorem OW.ox (h : OW lo n H F v xs) : OX H F v xs := by
  obtain ⟨h0, h1, cs, h2, h3⟩ := h; exact ⟨h0, cs, ⟨lo, n, h2⟩, h3⟩
theorem OX.nil : OX G F (.slice none 0 0) ([] : List β) := ⟨by simp [UNK], [], ⟨0, 0, .inl ⟨rfl, rfl, rfl⟩⟩, .nil⟩
theorem OX.lt (h : OX G F v xs) : xs.length < UNK := h.1
theorem OX.sr (h : OX G F v xs) (hle : F.Le F') (hk : ∀ i, idOf v = some i → F' i = G i) : SR F' v xs := by
  obtain ⟨h0, cs, ⟨l, m, h1⟩, h2⟩ := h
  exact ⟨h0, cs, h1.sl.mono hk, h2.mono hle⟩
end
class Dp (α : Type) [Rp α] where
  offs : List Nat
  base : Heap → List Value → α → Prop
  own : Nat → Heap → Heap → Value → α → Prop
  blen : ∀ {F : Heap} {cs : List Value} {a : α}, base F cs a → cs.length = Rp.sz α
  bone : ∀ {F : Heap} {cs : List Value} {a : α}, base F cs a → ∀ v ∈ cs, v.oneCell' = true
  bmono : ∀ {F F' : Heap} {cs : List Value} {a : α}, base F cs a → F.Le F' → base F' cs a
  omono : ∀ {f : Nat} {G F F' : Heap} {v : Value} {a : α}, own f G F v a → F.Le F' → own f G F' v a
  ocongr : ∀ {f : Nat} {G G' F : Heap} {v : Value} {a : α}, own f G F v a → (∀ i, idOf v = some i → G' i = G i) → own f G' F v a
  toR : ∀ {F F' : Heap} {cs : List Value} {a : α}, base F cs a → F.Le F' → (∀ f, f ∈ offs → ∀ hv, cs[f]? = some hv → own f F' F' hv a) → (∀ f, f ∈ offs → ∀ hv i, cs[f]? = some hv → idOf hv = some i → ∃ o, F' i = some o) → Rp.R F' cs a
def ecut (cs : List Value) (sz j : Nat) : List Value := (cs.drop (j * sz)).take sz
abbrev Hole := Nat × Nat × Value
structure ODc {α : Type} [Rp α] [Dp α] (lo n : Nat) (H F : Heap) (S : Nat → Prop) (Z : List Hole) (v : Value) (xs : List α) (cs : List Value) (G : Heap) (T : Nat → Option (Nat × Nat)) : Prop where
  lt : xs.length < UNK
  row : OwnS lo n H (Rp.sz α) v xs.length cs
  rowid : ∀ i, idOf v = some i → S i ∧ T i = none
  base : ∀ (j : Nat) (h : j < xs.length), Dp.base F (ecut cs (Rp.sz α) j) xs[j]
  own : ∀ (j : Nat) (h : j < xs.length) (f : Nat), f ∈ Dp.offs α → ∀ hv, (ecut cs (Rp.sz α) j)[f]? = some hv → Dp.own f G F hv xs[j]
  s : ∀ i, S i → lo ≤ i ∧ i < n ∧ F i = none ∧ ∃ o, H i = some o
  t : ∀ i p, T i = some p → (S i ∧ H i = G i) ∨ ∃ q, q ∈ Z ∧ idOf q.2.2 = some i
  hd : ∀ (j f : Nat) hv i, j < xs.length → f ∈ Dp.offs α → (ecut cs (Rp.sz α) j)[f]? = some hv → idOf hv = some i → T i = some (j, f)
  z : ∀ q, q ∈ Z → q.1 < xs.length ∧ q.2.1 ∈ Dp.offs α ∧ (ecut cs (Rp.sz α) q.1)[q.2.1]? = some q.2.2
def OD {α : Type} [Rp α] [Dp α] (lo n : Nat) (H F : Heap) (S : Nat → Prop) (Z : List Hole) (v : Value) (xs : List α) : Prop := ∃ cs G T, ODc lo n H F S Z v xs cs G T
def DPt (a : Option Addr) (j : Int) (sz b e : Nat) : Prop := 0 ≤ j ∧ ∃ k, a = some ⟨b, k, none⟩ ∧ e = k + j.toNat * sz
section
variable {α : Type} [Rp α] [Dp α] {F F' H H' : Heap} {v : Value} {xs ys : List α} {lo n n' : Nat} {S : Nat → Prop} {Z : List Hole}
theorem OD.nil : OD lo n H F (fun _ => False) [] (.slice none 0 0) ([] : List α) :=
  ⟨[], fun _ => none, fun _ => none, by simp [UNK], .inl ⟨rfl, rfl, rfl⟩, fun i h => (by cases h), fun j h => (by simp at h), fun j h => (by simp at h), fun i h => h.elim, fun i p h => (by cases h), fun j f hv i h => (by simp at h), fun q h => (by cases h)⟩
theorem OD.lt (h : OD lo n H F S Z v xs) : xs.length < UNK := by obtain ⟨_, _, _, h⟩ := h; exact h.lt
theorem OD.id_lt (h : OD lo n H F S Z v xs) {i : Nat} (hi : S i) : lo ≤ i ∧ i < n := by obtain ⟨_, _, _, h⟩ := h; exact ⟨(h.s i hi).1, (h.s i hi).2.1⟩
theorem OD.fnone (h : OD lo n H F S Z v xs) {i : Nat} (hi : S i) : F i = none := by obtain ⟨_, _, _, h⟩ := h; exact (h.s i hi).2.2.1
theorem OD.alive (h : OD lo n H F S Z v xs) {i : Nat} (hi : S i) : ∃ o, H i = some o := by obtain ⟨_, _, _, h⟩ := h; exact (h.s i hi).2.2.2
theorem OD.row (h : OD lo n H F S Z v xs) {i : Nat} (hi : idOf v = some i) : S i := by obtain ⟨_, _, _, h⟩ := h; exact (h.rowid i hi).1
theorem OD.keep (h : OD lo n H F S Z v xs) (hn : n ≤ n') (hk : ∀ i, S i → H' i = H i) : OD lo n' H' F S Z v xs := by
  obtain ⟨cs, G, T, h⟩ := h
  refine ⟨cs, G, T, h.lt, h.row.mono (Nat.le_refl _) hn (fun i _ hi => hk i (h.rowid i hi).1), h.rowid, h.base, h.own, fun i hi => ?_, fun i p hp => ?_, h.hd, h.z⟩
  · obtain ⟨a, b, c, d⟩ := h.s i hi; exact ⟨a, by omega, c, by rw [hk i hi]; exact d⟩
  · rcases h.t i p hp with ⟨a, b⟩ | a
    · exact .inl ⟨a, (hk i a).trans b⟩
    · exact .inr a
theorem OD.keepF (h : OD lo n H F S Z v xs) (hle : F.Le F') (hf : ∀ i, S i → F' i = none) : OD lo n H F' S Z v xs := by
  obtain ⟨cs, G, T, h⟩ := h
  exact ⟨cs, G, T, h.lt, h.row, h.rowid, fun j hj => Dp.bmono (h.base j hj) hle, fun j hj f hf hv hh => Dp.omono (h.own j hj f hf hv hh) hle, fun i hi => ⟨(h.s i hi).1, (h.s i hi).2.1, hf i hi, (h.s i hi).2.2.2⟩, h.t, h.hd, h.z⟩
theorem OD.lower {lo' : Nat} (h : OD lo n H F S Z v xs) (hl : lo' ≤ lo) : OD lo' n H F S Z v xs := by
  obtain ⟨cs, G, T, h⟩ := h
  exact ⟨cs, G, T, h.lt, h.row.mono hl (Nat.le_refl _) (fun i _ hi => rfl), h.rowid, h.base, h.own, fun i hi => ⟨by have := (h.s i hi).1; omega, (h.s i hi).2⟩, h.t, h.hd, h.z⟩
theorem OD.le (h : OD lo n H F S Z v xs) (hle : H.Le H') : OD lo n H' F S Z v xs :=
  h.keep (Nat.le_refl _) fun i hi => by obtain ⟨o, ho⟩ := h.alive hi; rw [hle i o ho, ho]
theorem OD.vis {S0 : Nat → Prop} (h : OD lo n H F S Z v xs) (hs : ∀ i, S i → S0 i) : OD lo n (H.vis n S0) F S Z v xs := h.keep (Nat.le_refl _) fun i hi => vis_in (hs i hi)
theorem OD.after {S0 : Nat → Prop} {H1 : Heap} (h : OD lo n' H1 F' S Z v xs) (hd : ∀ i, i < n → ¬ S0 i → H1 i = none) {b : Nat} (hb : S b) : n ≤ b ∨ S0 b := by
  rcases Nat.lt_or_ge b n with h1 | h1
  · refine .inr (Classical.byContradiction fun hs => ?_)
    obtain ⟨ob, ho⟩ := h.alive hb
    rw [hd b h1 hs] at ho; cases ho
  · exact .inl h1
theorem OD.head {a : Option Addr} {m cap : Nat} (hl : m = xs.length) (h : OD lo n H F S Z (.slice a m cap) xs) : OD lo n H F S Z (.slice a xs.length cap) xs := by rw [← hl]; exact h
theorem OD.swap {z1 z2 : Hole} (h : OD lo n H F S (z1 :: z2 :: Z) v xs) : OD lo n H F S (z2 :: z1 :: Z) v xs := by
  obtain ⟨cs, G, T, h⟩ := h
  have e : ∀ q : Hole, q ∈ z2 :: z1 :: Z → q ∈ z1 :: z2 :: Z := fun q hq => by
    rcases List.mem_cons.1 hq with rfl | hq
    · exact List.mem_cons_of_mem _ (List.mem_cons_self ..)
    · rcases List.mem_cons.1 hq with rfl | hq
      · exact List.mem_cons_self ..
      · exact List.mem_cons_of_mem _ (List.mem_cons_of_mem _ hq)
  have e' : ∀ q : Hole, q ∈ z1 :: z2 :: Z → q ∈ z2 :: z1 :: Z := fun q hq => by
    rcases List.mem_cons.1 hq with rfl | hq
    · exact List.mem_cons_of_mem _ (List.mem_cons_self ..)
    · rcases List.mem_cons.1 hq with rfl | hq
      · exact List.mem_cons_self ..
      · exact List.mem_cons_of_mem _ (List.mem_cons_of_mem _ hq)
  exact ⟨cs, G, T, h.lt, h.row, h.rowid, h.base, h.own, h.s, fun i p hp => (h.t i p hp).imp id (fun ⟨q, a, b⟩ => ⟨q, e' q a, b⟩), h.hd, fun q hq => h.z q (e q hq)⟩
theorem idx_setI_same {j : Int} {x y : α} (h : idx xs j = some x) : idx (setI xs j y) j = some y := by
  obtain ⟨h0, h1, h2, h3⟩ := idx_inv h
  unfold setI
  rw [idx_pos h0 (by rw [List.length_set]; omega), List.getElem_set_self]
theorem setI_same {j : Int} {x : α} (h : idx xs j = some x) : setI xs j x = xs := by
  obtain ⟨h0, h1, h2, h3⟩ := idx_inv h
  unfold setI
  subst h3
  exact List.set_getElem_self h2
theorem setI_get {j : Int} {y : α} {j' : Nat} (h' : j' < (setI xs j y).length) : (setI xs j y)[j'] = if j' = j.toNat then y else xs[j']'(by rw [setI_length] at h'; exact h') := by
  have h2 : j' < xs.length := by rw [setI_length] at h'; exact h'
  apply Option.some.inj
  rw [← List.getElem?_eq_getElem]
  unfold setI
  by_cases e : j' = j.toNat
  · rw [if_pos e, e, List.getElem?_set_self (by rw [← e]; exact h2)]
  · rw [if_neg e, List.getElem?_set_ne (fun h => e h.symm), List.getElem?_eq_getElem h2]
theorem ecut_row {c cs : List Value} {k L sz j : Nat} (hc : (c.drop k).take (L * sz) = cs) (hj : j < L) : ecut cs sz j = (c.drop (k + j * sz)).take sz := by
  unfold ecut
  have h1 : (j + 1) * sz ≤ L * sz := Nat.mul_le_mul_right _ hj
  rw [Nat.succ_mul] at h1
  rw [← hc, List.drop_take, List.take_take, List.drop_drop]
  congr 1
  omega
theorem ecut_same {cs vc : List Value} {sz j o : Nat} (hl : j * sz + sz ≤ cs.length) (ho : o + vc.length ≤ sz) : ecut (splice cs (j * sz + o) vc) sz j = splice (ecut cs sz j) o vc := take_drop_splice hl ho
theorem ecut_other {cs vc : List Value} {sz j j' o : Nat} (hl : j * sz + sz ≤ cs.length) (hl' : j' * sz + sz ≤ cs.length) (ho : o + vc.length ≤ sz) (hne : j' ≠ j) : ecut (splice cs (j * sz + o) vc) sz j' = ecut cs sz j' := by
  unfold ecut
  apply List.ext_getElem?
  intro i
  by_cases hi : i < sz
  · rw [List.getElem?_take_of_lt hi, List.getElem?_take_of_lt hi, List.getElem?_drop, List.getElem?_drop, getElem?_splice (by omega)]
    rcases Nat.lt_or_gt_of_ne hne with h | h
    · have : (j' + 1) * sz ≤ j * sz := Nat.mul_le_mul_right _ h
      rw [Nat.succ_mul] at this
      rw [if_pos (by omega)]
    · have : (j + 1) * sz ≤ j' * sz := Nat.mul_le_mul_right _ h
      rw [Nat.succ_mul] at this
      rw [if_neg (by omega), if_neg (by omega)]
  · rw [List.getElem?_eq_none (by rw [List.length_take]; omega), List.getElem?_eq_none (by rw [List.length_take]; omega)]
theorem row_fit {c cs : List Value} {k L sz : Nat} (hc : (c.drop k).take (L * sz) = cs) (hcl : cs.length = L * sz) (h0 : 0 < L * sz) : k + L * sz ≤ c.length := by
  have := congrArg List.length hc
  rw [hcl, List.length_take, List.length_drop] at this
  omega
theorem ODc.at {cs : List Value} {G : Heap} {T : Nat → Option (Nat × Nat)} {a : Option Addr} {m cap b e : Nat} {j : Int} {x : α} (h : ODc lo n H F S Z (.slice a m cap) xs cs G T) (hp : DPt a j (Rp.sz α) b e) (hi : idx xs j = some x) :
    ∃ k c, a = some ⟨b, k, none⟩ ∧ e = k + j.toNat * Rp.sz α ∧ H b = some (.row (Rp.sz α) c) ∧ (c.drop k).take (xs.length * Rp.sz α) = cs ∧ cs.length = xs.length * Rp.sz α ∧ ecut cs (Rp.sz α) j.toNat = (c.drop e).take (Rp.sz α) ∧ m = xs.length := by
  obtain ⟨h0, k, rfl, rfl⟩ := hp
  obtain ⟨_, h1, h2, h3⟩ := idx_inv hi
  rcases h.row with ⟨e1, _⟩ | ⟨b', k', cap', c, e1, hb, hc, hcl, _⟩
  · cases e1
  · cases e1
    exact ⟨k, c, rfl, rfl, hb, hc, hcl, ecut_row hc h2, rfl⟩
theorem OD.get {a : Option Addr} {m cap b e : Nat} {j : Int} {x : α} (h : OD lo n H F S Z (.slice a m cap) xs) (hp : DPt a j (Rp.sz α) b e) (hi : idx xs j = some x) :
    ∃ c ecs, H b = some (.row (Rp.sz α) c) ∧ (c.drop e).take (Rp.sz α) = ecs ∧ Dp.base F ecs x := by
  obtain ⟨cs, G, T, h⟩ := h
  obtain ⟨k, c, e1, e2, e3, e4, e5, e6, e7⟩ := h.at hp hi
  obtain ⟨h0, h1, h2, h3⟩ := idx_inv hi
  have := h.base _ h2
  rw [h3, e6] at this
  exact ⟨c, _, e3, rfl, this⟩
theorem OD.bS {a : Option Addr} {m cap b e : Nat} {j : Int} (h : OD lo n H F S Z (.slice a m cap) xs) (hp : DPt a j (Rp.sz α) b e) : S b := by
  obtain ⟨h0, k, rfl, rfl⟩ := hp
  exact h.row rfl
theorem OD.upd {Z' : List Hole} {a : Option Addr} {m cap b e : Nat} {j : Int} {x y : α} {c ecs vc : List Value} {o f0 : Nat} {hv0 : Value} (R : List Nat) (h : OD lo n H F S Z (.slice a m cap) xs) (hp : DPt a j (Rp.sz α) b e) (hi : idx xs j = some x)
    (hrow : H b = some (.row (Rp.sz α) c)) (hwin : (c.drop e).take (Rp.sz α) = ecs) (ho : o + vc.length ≤ Rp.sz α) (hb : Dp.base F (splice ecs o vc) y)
    (hid : ∀ i, idOf hv0 = some i → f0 ∈ R ∧ lo ≤ i ∧ i < n ∧ F i = none ∧ (∃ o, H i = some o) ∧ ¬ S i ∧ ∀ q, q ∈ Z' → idOf q.2.2 ≠ some i)
    (hown : ∀ f, f ∈ Dp.offs α → ∀ hv, (splice ecs o vc)[f]? = some hv → (ecs[f]? = some hv ∧ f ∉ R ∧ ∀ G, Dp.own f G F hv x → Dp.own f G F hv y) ∨ (f ∈ R ∧ Dp.own f H F hv y ∧ ∀ i, idOf hv = some i → f = f0 ∧ idOf hv0 = some i))
    (hZ : ∀ q, q ∈ Z → q ∈ Z' ∨ (q.1 = j.toNat ∧ q.2.1 ∈ R)) (hZ' : ∀ q, q ∈ Z' → q ∈ Z ∧ ¬ (q.1 = j.toNat ∧ q.2.1 ∈ R))
    (hH : H' b = some (.row (Rp.sz α) (splice c (e + o) vc))) (hk : ∀ i, i ≠ b → H' i = H i) :
    OD lo n H' F (fun i => S i ∨ idOf hv0 = some i) Z' (.slice a m cap) (setI xs j y) := by
  obtain ⟨cs, G, T, h⟩ := h
  obtain ⟨k, c2, rfl, rfl, hb2, hc, hcl, hec, rfl⟩ := h.at hp hi
  obtain ⟨h0, h1, h2, h3⟩ := idx_inv hi
  rw [hrow] at hb2
  obtain ⟨_, rfl⟩ := Ob.row.inj (Option.some.inj hb2)
  rw [hwin] at hec
  have hbS := (h.rowid b rfl).1
  have hbT := (h.rowid b rfl).2
  have hle : ∀ j', j' < xs.length → j' * Rp.sz α + Rp.sz α ≤ cs.length := fun j' hj' => by
    have := Nat.mul_le_mul_right (Rp.sz α) hj'
    rw [Nat.succ_mul] at this; omega
  have hjl := hle _ h2
  have cut : ∀ j', j' < xs.length → ecut (splice cs (j.toNat * Rp.sz α + o) vc) (Rp.sz α) j' = if j' = j.toNat then splice ecs o vc else ecut cs (Rp.sz α) j' := fun j' hj' => by
    by_cases e : j' = j.toNat
    · subst e; rw [if_pos rfl, ecut_same hjl ho, hec]
    · rw [if_neg e, ecut_other hjl (hle _ hj') ho e]
  have get : ∀ j' (h' : j' < (setI xs j y).length), (setI xs j y)[j'] = if j' = j.toNat then y else xs[j']'(by rw [setI_length] at h'; exact h') := fun j' h' => setI_get h'
  have hbh : idOf hv0 ≠ some b := fun e => (hid b e).2.2.2.2.2.1 hbS
  let G' : Heap := fun i => if idOf hv0 = some i then H i else G i
  let T' : Nat → Option (Nat × Nat) := fun i => if idOf hv0 = some i then some (j.toNat, f0) else match T i with | some p => if p.1 = j.toNat ∧ p.2 ∈ R then none else some p | none => none
  have hT1 : ∀ i, idOf hv0 = some i → T' i = some (j.toNat, f0) := fun i hi => if_pos hi
  have hT2 : ∀ i p, idOf hv0 ≠ some i → T' i = some p → T i = some p ∧ ¬ (p.1 = j.toNat ∧ p.2 ∈ R) := fun i p hi hp => by
    simp only [T', if_neg hi] at hp
    cases e : T i with
    | none => rw [e] at hp; cases hp
    | some q =>
      rw [e] at hp
      simp only at hp
      by_cases hq : q.1 = j.toNat ∧ q.2 ∈ R
      · rw [if_pos hq] at hp; cases hp
      · rw [if_neg hq] at hp; cases hp; exact ⟨rfl, hq⟩
  have hT3 : ∀ i p, idOf hv0 ≠ some i → T i = some p → ¬ (p.1 = j.toNat ∧ p.2 ∈ R) → T' i = some p := fun i p hi hp hq => by
    simp only [T', if_neg hi, hp]; rw [if_neg hq]
  have hkeep : ∀ j' f hv i, j' < xs.length → f ∈ Dp.offs α → (ecut cs (Rp.sz α) j')[f]? = some hv → idOf hv = some i → ¬ (j' = j.toNat ∧ f ∈ R) → idOf hv0 ≠ some i := fun j' f hv i hj' hf hh hi hn e => by
    have hTi := h.hd j' f hv i hj' hf hh hi
    obtain ⟨_, _, _, _, _, hns, hnz⟩ := hid i e
    rcases h.t i _ hTi with ⟨a, _⟩ | ⟨q, hq, hqi⟩
    · exact hns a
    · obtain ⟨z1, z2, z3⟩ := h.z q hq
      have := h.hd q.1 q.2.1 q.2.2 i z1 z2 z3 hqi
      rw [hTi] at this
      have e2 := Option.some.inj this
      have e3 : j' = q.1 := congrArg Prod.fst e2
      have e4 : f = q.2.1 := congrArg Prod.snd e2
      rcases hZ q hq with hq' | ⟨q1, q2⟩
      · exact hnz q hq' hqi
      · exact hn ⟨e3.trans q1, e4 ▸ q2⟩
  refine ⟨splice cs (j.toNat * Rp.sz α + o) vc, G', T', by rw [setI_length]; exact h.lt, ?_, fun i hi => ?_, fun j' h' => ?_, fun j' h' f hf hv hh => ?_, fun i hi => ?_, fun i p hp' => ?_, fun j' f hv i hj' hf hh hi' => ?_, fun q hq => ?_⟩
  · rcases h.row with ⟨e1, _⟩ | ⟨b', k', cap', c', e1, hb', hc', hcl', g1, g2, g3, g4⟩
    · cases e1
    · cases e1
      have hfit : k + xs.length * Rp.sz α ≤ c.length := by
        by_cases hz : xs.length * Rp.sz α = 0
        · rw [hrow] at hb'; obtain ⟨_, rfl⟩ := Ob.row.inj (Option.some.inj hb'); omega
        · exact row_fit hc hcl (by omega)
      rw [hrow] at hb'; obtain ⟨_, rfl⟩ := Ob.row.inj (Option.some.inj hb')
      refine .inr ⟨b, k, cap, _, by rw [setI_length], hH, ?_, ?_, g1, g2, ?_, by rw [setI_length]; exact g4⟩
      · rw [setI_length, Nat.add_assoc, take_drop_splice hfit (by rw [← hcl]; omega), hc]
      · rw [setI_length, length_splice (by omega)]; exact hcl
      · rw [length_splice (by omega)]; exact g3
  · have hib : b = i := by simpa [idOf] using hi
    subst hib
    refine ⟨.inl hbS, ?_⟩
    simp only [T', if_neg hbh, hbT]
  · have hj' : j' < xs.length := by rw [setI_length] at h'; exact h'
    rw [get, cut _ hj']
    by_cases e : j' = j.toNat
    · rw [if_pos e, if_pos e]; exact hb
    · rw [if_neg e, if_neg e]; exact h.base j' hj'
  · have hj' : j' < xs.length := by rw [setI_length] at h'; exact h'
    rw [cut _ hj'] at hh
    rw [get]
    by_cases e : j' = j.toNat
    · rw [if_pos e] at hh ⊢
      subst e
      rcases hown f hf hv hh with ⟨a1, a2, a3⟩ | ⟨a1, a2, a3⟩
      · have ho1 := h.own _ hj' f hf hv (by rw [hec]; exact a1)
        rw [h3] at ho1
        refine Dp.ocongr (a3 G ho1) fun i hi => ?_
        exact if_neg (hkeep _ f hv i hj' hf (by rw [hec]; exact a1) hi (fun hn => a2 hn.2))
      · exact Dp.ocongr a2 fun i hi => if_pos (a3 i hi).2
    · rw [if_neg e] at hh ⊢
      refine Dp.ocongr (h.own _ hj' f hf hv hh) fun i hi => ?_
      exact if_neg (hkeep _ f hv i hj' hf hh hi (fun hn => e hn.1))
  · rcases hi with hi | hi
    · obtain ⟨a1, a2, a3, a4⟩ := h.s i hi
      refine ⟨a1, a2, a3, ?_⟩
      by_cases e : i = b
      · subst e; exact ⟨_, hH⟩
      · rw [hk i e]; exact a4
    · obtain ⟨_, a1, a2, a3, a4, a5, _⟩ := hid i hi
      exact ⟨a1, a2, a3, by rw [hk i (fun e => hbh (e ▸ hi))]; exact a4⟩
  · by_cases e : idOf hv0 = some i
    · exact .inl ⟨.inr e, by rw [hk i (fun e' => hbh (e' ▸ e))]; exact (if_pos e).symm⟩
    · obtain ⟨t1, t2⟩ := hT2 i p e hp'
      rcases h.t i p t1 with ⟨a1, a2⟩ | ⟨q, hq, hqi⟩
      · refine .inl ⟨.inl a1, ?_⟩
        have hib : i ≠ b := fun e' => by subst e'; rw [hbT] at t1; cases t1
        rw [hk i hib, a2]; exact (if_neg e).symm
      · rcases hZ q hq with hq' | ⟨q1, q2⟩
        · exact .inr ⟨q, hq', hqi⟩
        · obtain ⟨z1, z2, z3⟩ := h.z q hq
          have := h.hd q.1 q.2.1 q.2.2 i z1 z2 z3 hqi
          rw [t1] at this
          have e2 := Option.some.inj this
          exact absurd ⟨(congrArg Prod.fst e2).trans q1, by rw [congrArg Prod.snd e2]; exact q2⟩ t2
  · rw [setI_length] at hj'
    rw [cut _ hj'] at hh
    by_cases e : j' = j.toNat
    · rw [if_pos e] at hh
      subst e
      rcases hown f hf hv hh with ⟨a1, a2, a3⟩ | ⟨a1, a2, a3⟩
      · have hh' : (ecut cs (Rp.sz α) j.toNat)[f]? = some hv := by rw [hec]; exact a1
        exact hT3 i _ (hkeep _ f hv i hj' hf hh' hi' (fun hn => a2 hn.2)) (h.hd _ f hv i hj' hf hh' hi') (fun hn => a2 hn.2)
      · obtain ⟨r1, r2⟩ := a3 i hi'
        subst r1; exact hT1 i r2
    · rw [if_neg e] at hh
      exact hT3 i _ (hkeep _ f hv i hj' hf hh hi' (fun hn => e hn.1)) (h.hd _ f hv i hj' hf hh hi') (fun hn => e hn.1)
  · obtain ⟨q1, q2⟩ := hZ' q hq
    obtain ⟨z1, z2, z3⟩ := h.z q q1
    refine ⟨by rw [setI_length]; exact z1, z2, ?_⟩
    rw [cut _ z1]
    by_cases e : q.1 = j.toNat
    · rw [if_pos e]
      rw [e, hec] at z3
      have hf1 : q.2.1 < ecs.length := (List.getElem?_eq_some_iff.1 z3).1
      have hel : ecs.length = Rp.sz α := by
        rw [← hec]; unfold ecut; rw [List.length_take, List.length_drop]; omega
      have hf2 : q.2.1 < (splice ecs o vc).length := by rw [length_splice (by omega)]; exact hf1
      have hw : (splice ecs o vc)[q.2.1]? = some (splice ecs o vc)[q.2.1] := List.getElem?_eq_getElem hf2
      rcases hown q.2.1 z2 _ hw with ⟨a1, a2, a3⟩ | ⟨a1, a2, a3⟩
      · rw [hw, ← a1, z3]
      · exact absurd ⟨e, a1⟩ q2
    · rw [if_neg e]; exact z3
theorem OD.open {a : Option Addr} {m cap b e f : Nat} {j : Int} {x : α} {c ecs : List Value} {hv : Value} (h : OD lo n H F S Z (.slice a m cap) xs) (hp : DPt a j (Rp.sz α) b e) (hi : idx xs j = some x)
    (hrow : H b = some (.row (Rp.sz α) c)) (hwin : (c.drop e).take (Rp.sz α) = ecs) (hf : f ∈ Dp.offs α) (hh : ecs[f]? = some hv) (hnz : ∀ q, q ∈ Z → ¬ (q.1 = j.toNat ∧ q.2.1 = f)) :
    Dp.own f H F hv x ∧ (∀ i, idOf hv = some i → S i ∧ lo ≤ i ∧ i < n ∧ F i = none) ∧ OD lo n H F (fun i => S i ∧ idOf hv ≠ some i) ((j.toNat, f, hv) :: Z) (.slice a m cap) xs := by
  obtain ⟨cs, G, T, h⟩ := h
  obtain ⟨k, c2, rfl, rfl, hb2, hc, hcl, hec, rfl⟩ := h.at hp hi
  obtain ⟨h0, h1, h2, h3⟩ := idx_inv hi
  rw [hrow] at hb2
  obtain ⟨_, rfl⟩ := Ob.row.inj (Option.some.inj hb2)
  rw [hwin] at hec
  have hh' : (ecut cs (Rp.sz α) j.toNat)[f]? = some hv := by rw [hec]; exact hh
  have hid : ∀ i, idOf hv = some i → S i ∧ H i = G i ∧ T i = some (j.toNat, f) := fun i hi => by
    have hT := h.hd _ f hv i h2 hf hh' hi
    rcases h.t i _ hT with ⟨a1, a2⟩ | ⟨q, hq, hqi⟩
    · exact ⟨a1, a2, hT⟩
    · obtain ⟨z1, z2, z3⟩ := h.z q hq
      have := h.hd q.1 q.2.1 q.2.2 i z1 z2 z3 hqi
      rw [hT] at this
      have e2 := Option.some.inj this
      exact absurd ⟨(congrArg Prod.fst e2).symm, (congrArg Prod.snd e2).symm⟩ (hnz q hq)
  have ho := h.own _ h2 f hf hv hh'
  rw [h3] at ho
  refine ⟨Dp.ocongr ho fun i hi => (hid i hi).2.1, fun i hi => ⟨(hid i hi).1, (h.s i (hid i hi).1).1, (h.s i (hid i hi).1).2.1, (h.s i (hid i hi).1).2.2.1⟩,
    cs, G, T, h.lt, h.row, fun i hi => ⟨⟨(h.rowid i hi).1, fun e => ?_⟩, (h.rowid i hi).2⟩, h.base, h.own, fun i hi => h.s i hi.1, fun i p hp' => ?_, h.hd, fun q hq => ?_⟩
  · have := (hid i e).2.2
    rw [(h.rowid i hi).2] at this; cases this
  · by_cases e : idOf hv = some i
    · exact .inr ⟨_, List.mem_cons_self .., e⟩
    · rcases h.t i p hp' with ⟨a1, a2⟩ | ⟨q, hq, hqi⟩
      · exact .inl ⟨⟨a1, e⟩, a2⟩
      · exact .inr ⟨q, List.mem_cons_of_mem _ hq, hqi⟩
  · rcases List.mem_cons.1 hq with rfl | hq
    · exact ⟨h2, hf, hh'⟩
    · exact h.z q hq
theorem OD.close {f : Nat} {j : Int} {x y : α} {hv : Value} (h : OD lo n H F S ((j.toNat, f, hv) :: Z) v xs) (hi : idx xs j = some x)
    (hn : Dp.own f H F hv y) (hid : ∀ i, idOf hv = some i → lo ≤ i ∧ i < n ∧ F i = none ∧ ∃ o, H i = some o)
    (hb : ∀ cs, Dp.base F cs x → Dp.base F cs y) (ho : ∀ f', f' ∈ Dp.offs α → f' ≠ f → ∀ G hv', Dp.own f' G F hv' x → Dp.own f' G F hv' y) :
    OD lo n H F (fun i => S i ∨ idOf hv = some i) Z v (setI xs j y) := by
  obtain ⟨cs, G, T, h⟩ := h
  obtain ⟨h0, h1, h2, h3⟩ := idx_inv hi
  obtain ⟨z1, z2, z3⟩ := h.z _ (List.mem_cons_self ..)
  simp only at z1 z2 z3
  have hT : ∀ i, idOf hv = some i → T i = some (j.toNat, f) := fun i hi => h.hd _ f hv i h2 z2 z3 hi
  have get : ∀ j' (h' : j' < (setI xs j y).length), (setI xs j y)[j'] = if j' = j.toNat then y else xs[j']'(by rw [setI_length] at h'; exact h') := fun j' h' => setI_get h'
  refine ⟨cs, fun i => if idOf hv = some i then H i else G i, T, by rw [setI_length]; exact h.lt, by rw [setI_length]; exact h.row, fun i hi => ⟨.inl (h.rowid i hi).1, (h.rowid i hi).2⟩, fun j' h' => ?_, fun j' h' f' hf' hv' hh => ?_, fun i hi => ?_, fun i p hp => ?_, fun j' f' hv' i hj' hf' hh hi' => h.hd j' f' hv' i (by rw [setI_length] at hj'; exact hj') hf' hh hi', fun q hq => ?_⟩
  · have hj' : j' < xs.length := by rw [setI_length] at h'; exact h'
    rw [get]
    by_cases e : j' = j.toNat
    · rw [if_pos e]; subst e
      have := h.base _ hj'
      rw [h3] at this; exact hb _ this
    · rw [if_neg e]; exact h.base _ hj'
  · have hj' : j' < xs.length := by rw [setI_length] at h'; exact h'
    rw [get]
    have other : ¬ (j' = j.toNat ∧ f' = f) → Dp.own f' (fun i => if idOf hv = some i then H i else G i) F hv' xs[j'] := fun hne => by
      refine Dp.ocongr (h.own _ hj' f' hf' hv' hh) fun i hi => if_neg fun e => hne ?_
      have t1 := h.hd _ f' hv' i hj' hf' hh hi
      rw [hT i e] at t1
      have e2 := Option.some.inj t1
      exact ⟨(congrArg Prod.fst e2).symm, (congrArg Prod.snd e2).symm⟩
    by_cases e : j' = j.toNat
    · rw [if_pos e]
      subst e
      by_cases e' : f' = f
      · subst e'
        rw [z3] at hh
        cases hh
        exact Dp.ocongr hn fun i hi => if_pos hi
      · have := other (fun hh => e' hh.2)
        rw [h3] at this
        exact ho f' hf' e' _ _ this
    · rw [if_neg e]; exact other (fun hh => e hh.1)
  · rcases hi with hi | hi
    · exact h.s i hi
    · exact hid i hi
  · by_cases e : idOf hv = some i
    · exact .inl ⟨.inr e, (if_pos e).symm⟩
    · rcases h.t i p hp with ⟨a1, a2⟩ | ⟨q, hq, hqi⟩
      · exact .inl ⟨.inl a1, by rw [a2]; exact (if_neg e).symm⟩
      · rcases List.mem_cons.1 hq with rfl | hq
        · exact absurd hqi e
        · exact .inr ⟨q, hq, hqi⟩
  · rw [setI_length]; exact h.z q (List.mem_cons_of_mem _ hq)
theorem OD.close0 {f : Nat} {j : Int} {x : α} {hv : Value} (h : OD lo n H F S ((j.toNat, f, hv) :: Z) v xs) (hi : idx xs j = some x)
    (hn : Dp.own f H F hv x) (hid : ∀ i, idOf hv = some i → lo ≤ i ∧ i < n ∧ F i = none ∧ ∃ o, H i = some o) :
    OD lo n H F (fun i => S i ∨ idOf hv = some i) Z v xs := by
  have := h.close hi hn hid (fun _ h => h) (fun _ _ _ _ _ h => h)
  rwa [setI_same hi] at this
end
end Go.Proofs.YtlpcdcpcfeaecaaAb
end
section
namespace Go.Proofs.YtlpcdcpcfeaecaaAb
open Go
section
variable {P : Program} {Δ : Prims} {lo : Nat} {fr : Fr} {n : Nat} {H : Heap} {Q : Post}
section ops
variable {all : Array Oper} {l : List Oper} {o : Oper} {d : Nat} {fl fl2 : List Bool} {lw lo0 : Nat} {F : Heap}
theorem GL.indexD {α : Type} [Rp α] [Dp α] {lo2 : Nat} {S : Nat → Prop} {Z : List Hole} (hfl : IsFl fl lo n lw fl2) {t : TypeId} {x y : Operand} {el : TypeId} {i : TypeInfo} {a : Option Addr} {m cap : Nat} {xs : List α} {u : α} {q : IntKind} {j : Int} (ho : o.op = .indexAddr t x y) (hd : o.dst = some d) (hw : wantedA all o fr = some true) (ht : P.underlying t = some (.slice el)) (hi : P.info? el = some i) (hsz : i.size = Rp.sz α)
    (hx : fr.eval x = some (.slice a m cap)) (hR : OD lo2 n H F S Z (.slice a m cap) xs) (hy : fr.eval y = some (.int q j)) (hu : idx xs j = some u)
    (kk : ∀ b e, DPt a j (Rp.sz α) b e → WL P Δ lo fl2 all l ((d, .pointer (some ⟨b, e, none⟩)) :: fr) n H Q) : WL P Δ lo fl all (o :: l) fr n H Q := by
  obtain ⟨h0, h1, h2, h3⟩ := idx_inv hu
  obtain ⟨cs, G, T, h⟩ := hR
  rcases h.row with ⟨e1, e2, _⟩ | ⟨b, k, cap', c, e1, hb, _⟩
  · cases e1; omega
  · cases e1
    exact WL.indexS hfl ho hd hw ht hi hx hy h0 (by exact_mod_cast h1) (kk b (k + j.toNat * i.size) ⟨h0, k, rfl, by rw [hsz]⟩)
theorem GL.litX {α : Type} [Rp α] (hS : St lo0 n H F) (hfl : IsFl fl lo n lw fl2) {t el : TypeId} {len : Nat} {ps : Array (Nat × Operand)} {vs cs : List Value} {z : Value} {i : TypeInfo} {xs : List α} (ho : o.op = .buildSlice t len ps) (hd : o.dst = some d) (hw : wantedA all o fr = some true) (ht : P.underlying t = some (.slice el)) (hi : P.info? el = some i) (hz : i.zero = some z)
    (hg : (Cells z).all grZ = true) (hzc : (Cells z).length = i.size) (hszi : len * i.size ≤ 16777216) (hlen : len < 1000000) (hp : ps.toList.mapM (fun p => fr.eval p.2) = some vs) (hix : ps.toList.map (·.1) = List.range' 0 len) (hvs : vs.map (fun v => (Cells v).length) = List.replicate len i.size)
    (hcs : vs.flatMap Cells = cs) (hsz : i.size = Rp.sz α) (hR : RA F cs xs) (hxl : xs.length = len)
    (kk : ∀ H', St lo0 (n + 1) H' F → OW n (n + 1) H' F (.slice (some ⟨n, 0, none⟩) xs.length len) xs → (∀ j, j < n → H' j = H j) → SL H' (Rp.sz α) (.slice (some ⟨n, 0, none⟩) xs.length len) xs.length cs → WL P Δ lo fl2 all l ((d, .slice (some ⟨n, 0, none⟩) xs.length len) :: fr) (n + 1) H' Q) : WL P Δ lo fl all (o :: l) fr n H Q := by
  subst hxl
  refine WL.lit hfl ho hd hw ht hi hz hg hzc hszi hlen hp hix hvs hcs hR.one ?_
  refine kk _ (hS.new _) ⟨by unfold UNK; omega, fun i hi => ?_, cs, .inr ⟨n, 0, _, cs, rfl, ?_, ?_, hR.length, Nat.le_refl _, Nat.lt_succ_self _, Nat.zero_le _, .inl ⟨rfl, by unfold UNK; omega⟩⟩, hR⟩ (fun j hj => Heap.set_ne _ _ (by omega)) (.inr ⟨n, 0, _, cs, rfl, ?_, ?_, hR.length⟩)
  · have hin : n = i := by simpa [idOf] using hi
    subst hin; exact hS.fnone (Nat.le_refl _)
  · rw [hsz]; exact Heap.set_same _ _ _
  · rw [List.drop_zero, List.take_of_length_le (Nat.le_of_eq hR.length)]
  · rw [hsz]; exact Heap.set_same _ _ _
  · rw [List.drop_zero, List.take_of_length_le (Nat.le_of_eq hR.length)]
theorem GL.appendD {α : Type} [Rp α] [Dp α] {lo2 : Nat} {S : Nat → Prop} (hS : St lo0 n H F) (hfl : IsFl fl lo n lw fl2) {t u el : TypeId} {i : TypeInfo} {z : Value} {x y : Operand} {v v2 : Value} {xs : List α} {w : α} {ecs : List Value} {dd : TypeDesc} (ho : o.op = .call { callee := .builtin .append, args := #[x, y], argTypes := #[t, u] }) (hd : o.dst = some d) (hw : wantedA all o fr = some true) (ht : P.underlying t = some (.slice el)) (hu : P.underlying u = some dd) (hdd : isInt dd = false) (hi : P.info? el = some i) (hz : i.zero = some z) (hzs : (Cells z).length = i.size) (hsz : i.size = Rp.sz α) (hby : i.bytes ≤ 2048)
    (hx : fr.eval x = some v) (hy : fr.eval y = some v2) (hO : OD lo2 n H F S [] v xs) (hlo2 : lw ≤ lo2) (hl2 : lo2 ≤ n) (hsl : SL H (Rp.sz α) v2 1 ecs) (hb : Dp.base F ecs w) (hnil : ∀ f, f ∈ Dp.offs α → ∀ hv, ecs[f]? = some hv → idOf hv = none ∧ ∀ G, Dp.own f G F hv w) (hlen : (xs.length : Int) + ([w] : List α).length ≤ 68719476736)
    (kk : ∀ a cap n' H' (S' : Nat → Prop), St lo0 n' H' F → n ≤ n' → OD lo2 n' H' F S' [] (.slice a (xs ++ [w]).length cap) (xs ++ [w]) → (∀ j, j < n → ¬ S j → H' j = H j) → (∀ b, S' b → n ≤ b ∨ S b) →
      WL P Δ lo fl2 all l ((d, .slice a (xs ++ [w]).length cap) :: fr) n' H' Q) : WL P Δ lo fl all (o :: l) fr n H Q := by
  obtain ⟨cs, G, T, h⟩ := hO
  have hl1 : xs.length + 1 ≤ 68719476736 := by simp at hlen; omega
  have el : (xs ++ [w]).length = xs.length + 1 := by simp
  have hsrc := Src.ofSL (P := P) (ev := fr.eval) (u := u) (y := y) hu hdd hy hsl
  have hecl : ecs.length = Rp.sz α := Dp.blen hb
  have hcl := h.row.sl.length
  have hone : ∀ v ∈ cs, v.oneCell' = true := fun v hv => by
    obtain ⟨k, hk, rfl⟩ := List.getElem_of_mem hv
    have hsz0 : 0 < Rp.sz α := by
      rcases Nat.eq_zero_or_pos (Rp.sz α) with e | e
      · rw [e, Nat.mul_zero] at hcl; omega
      · exact e
    have hj : k / Rp.sz α < xs.length := by
      rw [Nat.div_lt_iff_lt_mul hsz0]; omega
    refine Dp.bone (h.base _ hj) _ (List.mem_of_getElem? (i := k % Rp.sz α) ?_)
    unfold ecut
    rw [List.getElem?_take_of_lt (Nat.mod_lt _ hsz0), List.getElem?_drop, Nat.mul_comm, Nat.div_add_mod, List.getElem?_eq_getElem hk]
  refine WL.app' hfl ho hd hw ht hi hz hzs hx (by rw [hsz]; exact h.row.mono hlo2 (Nat.le_refl _) (fun _ _ _ => rfl)) (by rw [hsz]; exact hsrc) (by omega) (Dp.bone hb) hone ?_ (by unfold UNK; omega) (fun H' e1 e2 e3 e4 => ?_) (by rw [hsz]; omega)
  · exact Nat.le_trans (Nat.mul_le_mul hl1 hby) (by decide)
  · have hrF : ∀ i, idOf v = some i → F i = none := fun i hi => (h.s i (h.rowid i hi).1).2.2.1
    have hS' : St lo0 (n + 1) H' F := ⟨by have := hS.lo; omega, fun i hi => by rw [e3 i (by omega)]; exact hS.hb i (by omega), fun i ob hi => by
      have hin := hS.lt (hS.fh i ob hi)
      rw [e2 i hin (fun e => by rw [hrF i e] at hi; cases hi)]; exact hS.fh i ob hi⟩
    have hrow := e4 lo2 hl2
    have hjl : ∀ j, j < xs.length → j * Rp.sz α + Rp.sz α ≤ cs.length := fun j hj => by
      have := Nat.mul_le_mul_right (Rp.sz α) hj
      rw [Nat.succ_mul] at this; omega
    have cut1 : ∀ j, j < xs.length → ecut (cs ++ ecs) (Rp.sz α) j = ecut cs (Rp.sz α) j := fun j hj => by
      have := hjl j hj
      unfold ecut
      rw [List.drop_append_of_le_length (by omega), List.take_append_of_le_length (by rw [List.length_drop]; omega)]
    have cut2 : ecut (cs ++ ecs) (Rp.sz α) xs.length = ecs := by
      unfold ecut
      rw [← hcl, List.drop_left, List.take_of_length_le (by omega)]
    have hTn : ∀ i p, T i = some p → S i ∧ H i = G i := fun i p hp => by
      rcases h.t i p hp with a | ⟨q, hq, _⟩
      · exact a
      · cases hq
    have hSn : ∀ i, S i → i < n := fun i hi => (h.s i hi).2.1
    have get1 : ∀ j (hj : j < xs.length) (h' : j < (xs ++ [w]).length), (xs ++ [w])[j] = xs[j] := fun j hj h' => List.getElem_append_left hj
    have get2 : ∀ (h' : xs.length < (xs ++ [w]).length), (xs ++ [w])[xs.length] = w := fun h' => by simp
    have := kk (some ⟨n, 0, none⟩) (UNK + (xs.length + 1)) (n + 1) H' (fun i => (S i ∧ idOf v ≠ some i) ∨ i = n) hS' (by omega)
    rw [el] at this
    refine this ⟨cs ++ ecs, G, T, by rw [el]; unfold UNK; omega, ?_, fun i hi => ?_, fun j hj => ?_, fun j hj f hf hv hh => ?_, fun i hi => ?_, fun i p hp => ?_, fun j f hv i hj hf hh hi' => ?_, fun q hq => (by cases hq)⟩ (fun j hj hns => e2 j hj (fun e => hns (h.rowid j e).1)) (fun b hb => ?_)
    · rw [el, ← hsz]; exact hrow
    · have hin : n = i := by simpa [idOf] using hi
      subst hin
      refine ⟨.inr rfl, ?_⟩
      cases e : T n with
      | none => rfl
      | some p => have := hSn _ (hTn _ _ e).1; omega
    · rw [el] at hj
      by_cases e : j < xs.length
      · rw [cut1 j e, get1 j e]; exact h.base j e
      · have : j = xs.length := by omega
        subst this
        rw [cut2, get2]; exact hb
    · rw [el] at hj
      by_cases e : j < xs.length
      · rw [cut1 j e] at hh; rw [get1 j e]; exact h.own j e f hf hv hh
      · have : j = xs.length := by omega
        subst this
        rw [cut2] at hh; rw [get2]; exact (hnil f hf hv hh).2 G
    · rcases hi with ⟨hi, hne⟩ | rfl
      · obtain ⟨a1, a2, a3, a4⟩ := h.s i hi
        exact ⟨a1, by omega, a3, by rw [e2 i a2 hne]; exact a4⟩
      · exact ⟨hl2, by omega, hS.fnone (Nat.le_refl _), ⟨_, e1⟩⟩
    · obtain ⟨a1, a2⟩ := hTn i p hp
      have hne : idOf v ≠ some i := fun e => by rw [(h.rowid i e).2] at hp; cases hp
      exact .inl ⟨.inl ⟨a1, hne⟩, by rw [e2 i (hSn i a1) hne]; exact a2⟩
    · rw [el] at hj
      by_cases e : j < xs.length
      · rw [cut1 j e] at hh; exact h.hd j f hv i e hf hh hi'
      · have : j = xs.length := by omega
        subst this
        rw [cut2] at hh
        rw [(hnil f hf hv hh).1] at hi'; cases hi'
    · rcases hb with ⟨hb, _⟩ | rfl
      · exact .inr hb
      · exact .inl (Nat.le_refl _)
end ops
end
end Go.Proofs.YtlpcdcpcfeaecaaAb
namespace Go.Proofs.YtlpcdcpcfeaecaaAb
open Go
theorem OD.S0 {α : Type} [Rp α] [Dp α] {lo n : Nat} {H F : Heap} {S : Nat → Prop} {Z : List Hole} {v : Value} {xs : List α} (h : OD lo n H F (fun i => S i ∨ idOf (.slice none 0 0) = some i) Z v xs) : OD lo n H F S Z v xs := by
  have e : (fun i => S i ∨ idOf (.slice none 0 0) = some i) = S := funext fun i => propext ⟨fun h => h.elim id (fun h => by cases h), .inl⟩
  rwa [e] at h
theorem OD.hole {α : Type} [Rp α] [Dp α] {lo n : Nat} {H F : Heap} {S : Nat → Prop} {Z : List Hole} {a : Option Addr} {m cap b e f : Nat} {j : Int} {xs : List α} {x : α} {c ecs : List Value} {hv : Value} (h : OD lo n H F S ((j.toNat, f, hv) :: Z) (.slice a m cap) xs) (hp : DPt a j (Rp.sz α) b e) (hi : idx xs j = some x)
    (hrow : H b = some (.row (Rp.sz α) c)) (hwin : (c.drop e).take (Rp.sz α) = ecs) : ecs[f]? = some hv := by
  obtain ⟨cs, G, T, h⟩ := h
  obtain ⟨k, c2, rfl, rfl, hb2, hc, hcl, hec, rfl⟩ := h.at hp hi
  rw [hrow] at hb2
  obtain ⟨_, rfl⟩ := Ob.row.inj (Option.some.inj hb2)
  obtain ⟨z1, z2, z3⟩ := h.z _ (List.mem_cons_self ..)
  simp only at z3
  rw [hec, hwin] at z3
  exact z3
theorem hdr_eq {a a' : Option Addr} {m m' c c' : Nat} (h : some (Value.slice a m c) = some (.slice a' m' c')) : a' = a ∧ c' = c := by cases h; exact ⟨rfl, rfl⟩
theorem z00 {p : Hole → Prop} : ∀ q, q ∈ ([] : List Hole) → p q := fun q h => by cases h
theorem z10 {J f : Nat} {hv : Value} : ∀ q, q ∈ [((J, f, hv) : Hole)] → q ∈ ([] : List Hole) ∨ (q.1 = J ∧ q.2.1 = f) := fun q hq => .inr (by rcases List.mem_singleton.1 hq with rfl; exact ⟨rfl, rfl⟩)
end Go.Proofs.YtlpcdcpcfeaecaaAb
namespace Go.Proofs.YtlpcdcpcfeaecaaAb
open Go
def RW (lo n : Nat) (H F : Heap) (b : Nat) (r : Ob) : Prop := lo ≤ b ∧ b < n ∧ F b = none ∧ H b = some r
section
variable {lo n n' : Nat} {H H' F F' : Heap} {b : Nat} {r : Ob}
theorem RW.keep (h : RW lo n H F b r) (hn : n ≤ n') (hk : ∀ i, i = b → H' i = H i) : RW lo n' H' F b r := ⟨h.1, by have := h.2.1; omega, h.2.2.1, (hk b rfl).trans h.2.2.2⟩
theorem RW.keepF (h : RW lo n H F b r) (hle : F.Le F') (hf : ∀ i, i = b → F' i = none) : RW lo n H F' b r := ⟨h.1, h.2.1, hf b rfl, h.2.2.2⟩
theorem RW.id_lt (h : RW lo n H F b r) {i : Nat} (hi : i = b) : lo ≤ i ∧ i < n := by subst hi; exact ⟨h.1, h.2.1⟩
theorem RW.fnone (h : RW lo n H F b r) {i : Nat} (hi : i = b) : F i = none := by subst hi; exact h.2.2.1
end
end Go.Proofs.YtlpcdcpcfeaecaaAb
namespace Go.Proofs.YtlpcdcpcfeaecaaAb
open Go
section
variable {P : Program} {Δ : Prims} {lo : Nat} {all : Array Oper} {I : Heap → Prop} {fr : Fr} {n : Nat} {H : Heap} {Q : Fr → Nat → Heap → Prop} {fl : List (Bool × Bool × Bool)} {nde nd : Bool} {l : List Oper} {o : Oper} {d : Nat} {lo0 : Nat} {F : Heap}
theorem GL.makeLate {α : Type} [Rp α] (hS : St lo0 n H F) (hI : nd = true → I H) {t el : TypeId} {i : TypeInfo} {z : Value} {zc : List Value} {x y : Operand} {q q' : IntKind} {m : Int} {u : α} (ho : o.op = .makeSlice t x y) (hd : o.dst = some d) (hw : wantedA all o fr = some true) (ht : P.underlying t = some (.slice el)) (hi : P.info? el = some i) (hz : i.zero = some z) (hzc : Cells z = zc)
    (hzs : zc.length = i.size) (h0 : 0 < i.size) (hg : zc.all grZ = true) (hby : i.bytes ≤ 2048) (hsz : i.size = Rp.sz α) (hx : fr.eval x = some (.int q m)) (hy : fr.eval y = some (.int q' m)) (hR : Rp.R F zc u) (hm0 : 0 ≤ m) (hm : m ≤ 68719476736) (hIn : ∀ H, I H → H n = some (.row (Rp.sz α) (List.replicate m.toNat zc).flatten))
    (kk : ∀ H', St lo0 (n + 1) H' F → OW n (n + 1) H' F (.slice (some ⟨n, 0, none⟩) (List.replicate m.toNat u).length m.toNat) (List.replicate m.toNat u) → (∀ j, j < n → H' j = H j) → H' n = some (.row (Rp.sz α) (List.replicate m.toNat zc).flatten) → WLI P Δ lo all I fl nde l ((d, .slice (some ⟨n, 0, none⟩) (List.replicate m.toNat u).length m.toNat) :: fr) (n + 1) H' Q) : WLI P Δ lo all I ((false, true, nd) :: fl) nde (o :: l) fr n H Q := by
  subst hzc
  have hmn : ((m.toNat : Nat) : Int) = m := Int.toNat_of_nonneg hm0
  have hR2 := RA.replicate hR m.toNat
  have hstep : ∀ H0 : Heap, StepM P n fr.eval n H0 o (.slice (some ⟨n, 0, none⟩) m.toNat m.toNat) (n + 1) (H0.set n (.row i.size (List.replicate m.toNat (Cells z)).flatten)) := fun H0 =>
    .make ho ht hi hz hzs h0 (fun v hv => grZ_spec (List.all_eq_true.1 hg v hv)) (by rw [hmn]; exact hx) (by rw [hmn]; exact hy) (Nat.le_refl _) (Nat.le_trans (Nat.mul_le_mul hby (show m.toNat ≤ 68719476736 by omega)) (by decide)) (by unfold UNK; omega)
  have := kk (H.set n (.row i.size (List.replicate m.toNat (Cells z)).flatten)) (hS.new _) ⟨by rw [List.length_replicate]; unfold UNK; omega, fun i hi => ?_, _, .inr ⟨n, 0, _, (List.replicate m.toNat (Cells z)).flatten, rfl, by rw [hsz]; exact Heap.set_same _ _ _, ?_, hR2.length, Nat.le_refl _, Nat.lt_succ_self _, Nat.zero_le _, .inl ⟨by simp, by unfold UNK; omega⟩⟩, hR2⟩ (fun j hj => Heap.set_ne _ _ (by omega)) (by rw [hsz]; exact Heap.set_same _ _ _)
  · rw [List.length_replicate] at this
    refine WLI.lateX hI hd hw (.inr (hstep H)) (fun H2 h2 => .inr ?_) this
    have h3 := hstep (H2.rm n (n + 1))
    have e : (H2.rm n (n + 1)).set n (.row i.size (List.replicate m.toNat (Cells z)).flatten) = H2 := by
      funext k
      by_cases hk : k = n
      · subst hk; rw [Heap.set_same, hIn H2 h2, hsz]
      · rw [Heap.set_ne _ _ hk, rm_out (by omega)]
    rwa [e] at h3
  · have hin : n = i := by simpa [idOf] using hi
    subst hin; exact hS.fnone (Nat.le_refl _)
  · rw [List.drop_zero, List.take_of_length_le (Nat.le_of_eq hR2.length)]
end
end Go.Proofs.YtlpcdcpcfeaecaaAb
namespace Go.Proofs.YtlpcdcpcfeaecaaAb
theorem setI_setI {α : Type} {xs : List α} {i : Int} {a b : α} : setI (setI xs i a) i b = setI xs i b := by unfold setI; rw [List.set_set]
end Go.Proofs.YtlpcdcpcfeaecaaAb
namespace Go.Proofs.YtlpcdcpcfeaecaaAb
open Go
section
variable {P : Program} {Δ : Prims} {lo : Nat} {fr : Fr} {n : Nat} {H : Heap} {Q : Post} {all : Array Oper} {l : List Oper} {o : Oper} {d : Nat}
theorem WL.clear {fl fl2 : List Bool} {lw : Nat} (hfl : IsFl fl lo n lw fl2) {t el : TypeId} {i : TypeInfo} {z : Value} {x : Operand} {b k len cap e : Nat} {c : List Value} (ho : o.op = .call { callee := .builtin .clear, args := #[x], argTypes := #[t] }) (hd : o.dst = none) (hw : wantedA all o fr = some true) (ht : P.underlying t = some (.slice el)) (hi : P.info? el = some i) (hz : i.zero = some z) (hzs : (Cells z).length = i.size)
    (hg : (Cells z).all grZ = true) (hx : fr.eval x = some (.slice (some ⟨b, k, none⟩) len cap)) (hb : H b = some (.row e c)) (hfit : k + len * i.size ≤ c.length) (hlo : lw ≤ b) (hbn : b < n) (hl0 : 0 < len)
    (kk : WL P Δ lo fl2 all l fr n (H.set b (.row e (splice c k (List.replicate len (Cells z)).flatten))) Q) : WL P Δ lo fl all (o :: l) fr n H Q :=
  WL.step0 hfl (.stepM (.clear ho ht hi hz hzs hx hb hfit hlo hbn (fun v hv => grZ_spec (List.all_eq_true.1 hg v hv)) hl0)) hd hw kk
theorem WL.copy {fl fl2 : List Bool} {lw : Nat} (hfl : IsFl fl lo n lw fl2) {t u el : TypeId} {i : TypeInfo} {x y : Operand} {b k len cap m e : Nat} {c news : List Value} (ho : o.op = .call { callee := .builtin .copy, args := #[x, y], argTypes := #[t, u] }) (hd : o.dst = some d) (hw : wantedA all o fr = some true) (ht : P.underlying t = some (.slice el)) (hi : P.info? el = some i)
    (hx : fr.eval x = some (.slice (some ⟨b, k, none⟩) len cap)) (hsrc : Src P fr.eval H i.size u y m news) (hb : H b = some (.row e c)) (hfit : k + (min m len) * i.size ≤ c.length) (hlo : lw ≤ b) (hbn : b < n) (h1 : ∀ v ∈ news, v.oneCell' = true)
    (kk : WL P Δ lo fl2 all l ((d, .int .i64 ((min m len : Nat) : Int)) :: fr) n (H.set b (.row e (splice c k (news.take ((min m len) * i.size))))) Q) : WL P Δ lo fl all (o :: l) fr n H Q :=
  WL.step hfl (.stepM (.copy ho ht hi hx hsrc hb hfit hlo hbn h1)) hd hw kk
end
theorem win_behind {c vc : List Value} {k N : Nat} (h : k + N + vc.length ≤ c.length) : ((splice c (k + N) vc).drop k).take N = (c.drop k).take N := by
  apply List.ext_getElem?
  intro i
  by_cases hi : i < N
  · rw [List.getElem?_take_of_lt hi, List.getElem?_take_of_lt hi, List.getElem?_drop, List.getElem?_drop, getElem?_splice (by omega), if_pos (by omega)]
  · rw [List.getElem?_eq_none (by rw [List.length_take]; omega), List.getElem?_eq_none (by rw [List.length_take]; omega)]
end Go.Proofs.YtlpcdcpcfeaecaaAb
namespace Go.Proofs.YtlpcdcpcfeaecaaAb
open Go
theorem lb_unk {X n : Nat} : lb n (UNK + X) = max n X := by unfold lb; rw [if_pos (by omega)]; omega
theorem le_lb {L cap : Nat} : L ≤ lb L cap := by unfold lb; omega
end Go.Proofs.YtlpcdcpcfeaecaaAb
namespace Go.Proofs.YtlpcdcpcfeaecaaAb
open Go
section
variable {P : Program} {fr : Fr} {n : Nat} {H : Heap} {o : Oper}
theorem Step.ground2' {lw : Nat} {x y : Operand} {u u' v : Value} (hs : ∀ cs b, o.op ≠ .select cs b) (hops : o.op.operands = #[x, y]) (hx : fr.eval x = some u) (hy : fr.eval y = some u') (hgu : Gr u) (hgu' : Gr u') (hgv : Gr v)
    (hr : ∀ (ev : Operand → Value) w, ev x = u → ev y = u' → (execOp ev o).run P w = .ok (.value v) w) : Step P lw fr.eval n H o v n H := by
  refine .ground hs (fun z hz => ?_) hgv (fun w => hr _ w (by rw [hx]; rfl) (by rw [hy]; rfl))
  rw [hops] at hz
  have : z = x ∨ z = y := by simpa using hz
  rcases this with rfl | rfl
  · exact ⟨_, hx, hgu⟩
  · exact ⟨_, hy, hgu'⟩
theorem Step.max2' {lw : Nat} {t t' : TypeId} {x y : Operand} {q q' : IntKind} {a b : Int} (ho : o.op = .call { callee := .builtin .max, args := #[x, y], argTypes := #[t, t'] }) (hx : fr.eval x = some (.int q a)) (hy : fr.eval y = some (.int q' b)) : Step P lw fr.eval n H o (.int q (if b > a then b else a)) n H :=
  Step.ground2' (by rw [ho]; intro _ _ h; cases h) (by rw [ho]; rfl) hx hy (gr_int _ _) (gr_int _ _) (gr_int _ _) (fun ev w h h' => by
    obtain ⟨dst, op, ty, pos, after, guard⟩ := o
    simp only at ho; subst ho
    simp [execOp, resolve, invoke, builtin, Builtin.max_, Builtin.max2, h, h'])
end
end Go.Proofs.YtlpcdcpcfeaecaaAb
namespace Go.Proofs.YtlpcdcpcfeaecaaAb
open Go
theorem one1 {a : Value} (h : a.oneCell' = true) : ∀ u ∈ [a], u.oneCell' = true := fun u hu => by rcases List.mem_singleton.1 hu with rfl; exact h
end Go.Proofs.YtlpcdcpcfeaecaaAb
namespace Go.Proofs.YtlpcdcpcfeaecaaAb
open Go
section
variable {p q p' r : Nat → Prop} {o n : Nat}
theorem Ap.sym (h : ∀ b, p b → ¬ q b) : ∀ b, q b → ¬ p b := fun b h1 h2 => h b h2 h1
theorem Ap.sub0 (hs : ∀ b, p' b → p b) (h : ¬ p o) : ¬ p' o := fun k => h (hs _ k)
theorem Ap.sub (hs : ∀ b, p' b → p b) (h : ∀ b, p b → ¬ q b) : ∀ b, p' b → ¬ q b := fun b k => h b (hs b k)
theorem Ap.or0 (hs : ∀ b, p' b → p b ∨ r b) (h : ¬ p o) (h2 : ¬ r o) : ¬ p' o := fun k => (hs _ k).elim h h2
theorem Ap.or (hs : ∀ b, p' b → p b ∨ r b) (h : ∀ b, p b → ¬ q b) (h2 : ∀ b, r b → ¬ q b) : ∀ b, p' b → ¬ q b := fun b k => (hs b k).elim (h b) (h2 b)
theorem Ap.new0 (hid : ∀ b, p' b → n ≤ b ∨ p b) (hl : o < n) (h : ¬ p o) : ¬ p' o := fun k => (hid _ k).elim (fun e => Nat.not_le_of_lt hl e) h
theorem Ap.new (hid : ∀ b, p' b → n ≤ b ∨ p b) (hb : ∀ b, q b → b < n) (h : ∀ b, p b → ¬ q b) : ∀ b, p' b → ¬ q b := fun b k hq => (hid b k).elim (fun e => Nat.not_le_of_lt (hb b hq) e) (fun e => h b e hq)
theorem Ap.fresh0 (hf : ∀ b, p b → n ≤ b) (hl : o < n) : ¬ p o := fun k => Nat.not_le_of_lt hl (hf _ k)
theorem Ap.fresh (hf : ∀ b, p b → n ≤ b) (hb : ∀ b, q b → b < n) : ∀ b, p b → ¬ q b := fun b k hq => Nat.not_le_of_lt (hb b hq) (hf b k)
theorem Ap.alloc (hb : ∀ b, p b → b < n) : ¬ p n := fun h => Nat.lt_irrefl _ (hb n h)
theorem Ap.nil : ∀ b, idOf (.slice none 0 0) = some b → ¬ q b := fun b h => by cases h
end
section
variable {lo n : Nat} {H F : Heap} {v : Value}
theorem OW.hb {α : Type} [Rp α] {xs : List α} (h : OW lo n H F v xs) : ∀ b, idOf v = some b → b < n := fun b hb => (h.id_lt hb).2
theorem OW.lb {α : Type} [Rp α] {xs : List α} (h : OW lo n H F v xs) : ∀ b, idOf v = some b → lo ≤ b := fun b hb => (h.id_lt hb).1
theorem OD.hb {α : Type} [Rp α] [Dp α] {S : Nat → Prop} {Z : List Hole} {xs : List α} (h : OD lo n H F S Z v xs) : ∀ b, S b → b < n := fun b hb => (h.id_lt hb).2
theorem OD.lb {α : Type} [Rp α] [Dp α] {S : Nat → Prop} {Z : List Hole} {xs : List α} (h : OD lo n H F S Z v xs) : ∀ b, S b → lo ≤ b := fun b hb => (h.id_lt hb).1
theorem RW.hb {b : Nat} {r : Ob} (h : RW lo n H F b r) : ∀ i, i = b → i < n := fun i hi => (h.id_lt hi).2
end
end Go.Proofs.YtlpcdcpcfeaecaaAb
end
section
namespace Go.Proofs.YtlpcdcpcfeaecaaAb
open Go
section
variable {P : Program} {Δ : Prims} {lo : Nat} {fr : Fr} {n : Nat} {H : Heap} {Q : Post}
section ops
variable {all : Array Oper} {l : List Oper} {o : Oper} {d : Nat} {fl fl2 : List Bool} {lw lo0 : Nat} {F : Heap}
end ops
end
theorem lit_cell {xs : List Int} {j : Int} {x : Int} (h : idx xs j = some x) : (xs.map (fun y => Value.int .i64 y))[0 + j.toNat * 1]? = some (.int .i64 x) := by
  obtain ⟨h0, h1, h2, h3⟩ := idx_inv h
  rw [Nat.zero_add, Nat.mul_one, List.getElem?_map, List.getElem?_eq_getElem h2, h3]; rfl
section
variable {P : Program} {fr : Fr} {n lw : Nat} {H : Heap} {o : Oper}
theorem Step.indexLit {α : Type} {t : TypeId} {x y : Operand} {el : TypeId} {i : TypeInfo} {b cap : Nat} {q : IntKind} {j : Int} {xs : List α} {u : α} (ho : o.op = .indexAddr t x y) (ht : P.underlying t = some (.slice el)) (hi : P.info? el = some i) (hs : i.size = 1)
    (hx : fr.eval x = some (.slice (some ⟨b, 0, none⟩) xs.length cap)) (hy : fr.eval y = some (.int q j)) (hu : idx xs j = some u) : Step P lw fr.eval n H o (.pointer (some ⟨b, 0 + j.toNat * 1, none⟩)) n H := by
  obtain ⟨h0, h1, h2, h3⟩ := idx_inv hu
  have := Step.indexAddrS (P := P) (lo := lw) (n := n) (H := H) ho ht hi hx hy h0 h1
  rw [hs] at this; exact this
end
section
variable {P : Program} {fr : Fr} {n : Nat} {H : Heap} {o : Oper}
theorem StepM.litL {t el : TypeId} {len : Nat} {ps : Array (Nat × Operand)} {vs cs : List Value} {z : Value} {i : TypeInfo} (ho : o.op = .buildSlice t len ps) (ht : P.underlying t = some (.slice el)) (hi : P.info? el = some i) (hz : i.zero = some z)
    (hg : (Cells z).all grZ = true) (hzc : (Cells z).length = i.size) (hsz : len * i.size ≤ 16777216) (hlen : len < 1000000) (hp : ps.toList.mapM (fun p => fr.eval p.2) = some vs) (hix : ps.toList.map (·.1) = List.range' 0 len) (hvs : vs.map (fun v => (Cells v).length) = List.replicate len i.size)
    (hcs : vs.flatMap Cells = cs) (h1 : ∀ v ∈ cs, v.oneCell' = true) : StepM P n fr.eval n H o (.slice (some ⟨n, 0, none⟩) len len) (n + 1) (H.set n (.row i.size cs)) := by
  have hvl : vs.length = len := by have := congrArg List.length hvs; simpa using this
  have hpl : ps.toList.length = len := by have := congrArg List.length hix; simpa using this
  have hall : ∀ v ∈ vs, (Cells v).length = i.size := fun v hv => by
    have : (Cells v).length ∈ vs.map (fun v => (Cells v).length) := List.mem_map.2 ⟨v, hv, rfl⟩
    rw [hvs] at this; exact (List.mem_replicate.1 this).2
  have hpp := mapM_pairs (ev := fr.eval) ps.toList 0 vs hp (by rw [hix, hpl])
  have hml : (madeCells z.cells (len * i.size)).toList.length = vs.length * i.size := by rw [Array.length_toList, size_madeCells, hvl]
  have hfill := fillL_seq i.size vs 0 [] (madeCells z.cells (len * i.size)).toList (by simp) hml hall
  rw [List.nil_append, List.nil_append, hcs] at hfill
  have hf := fill_of_fillL _ _ _ _ hfill
  have hcl : cs.length = len * i.size := by
    rw [← hcs, ← hvl]; exact flat_len i.size vs hall
  have := StepM.buildSlice (P := P) (lo := n) (n := n) (H := H) (parts := (vs.zipIdx 0).map fun p => (p.2, p.1)) (cells := cs.toArray) ho ht hi hz (fun v hv => grZ_spec (List.all_eq_true.1 hg v hv)) hsz (by unfold UNK; omega) hpp (by simpa using h1) hzc hf (by simpa using hcl)
  simpa using this
end
section
variable {P : Program} {Δ : Prims} {lo : Nat} {all : Array Oper} {I : Heap → Prop} {fr : Fr} {n : Nat} {H : Heap} {Q : Fr → Nat → Heap → Prop} {fl : List (Bool × Bool × Bool)} {nde nd : Bool} {l : List Oper} {o : Oper} {d : Nat} {lo0 : Nat} {F : Heap}
theorem GL.litLate {α : Type} [Rp α] (hS : St lo0 n H F) (hI : nd = true → I H) {t el : TypeId} {len : Nat} {ps : Array (Nat × Operand)} {vs cs : List Value} {z : Value} {i : TypeInfo} {xs : List α} (ho : o.op = .buildSlice t len ps) (hd : o.dst = some d) (hw : wantedA all o fr = some true) (ht : P.underlying t = some (.slice el)) (hi : P.info? el = some i) (hz : i.zero = some z)
    (hg : (Cells z).all grZ = true) (hzc : (Cells z).length = i.size) (hszi : len * i.size ≤ 16777216) (hlen : len < 1000000) (hp : ps.toList.mapM (fun p => fr.eval p.2) = some vs) (hix : ps.toList.map (·.1) = List.range' 0 len) (hvs : vs.map (fun v => (Cells v).length) = List.replicate len i.size)
    (hcs : vs.flatMap Cells = cs) (hsz : i.size = Rp.sz α) (hR : RA F cs xs) (hxl : xs.length = len) (hIn : ∀ H, I H → H n = some (.row (Rp.sz α) cs))
    (kk : ∀ H', St lo0 (n + 1) H' F → OW n (n + 1) H' F (.slice (some ⟨n, 0, none⟩) xs.length len) xs → (∀ j, j < n → H' j = H j) → H' n = some (.row (Rp.sz α) cs) → WLI P Δ lo all I fl nde l ((d, .slice (some ⟨n, 0, none⟩) xs.length len) :: fr) (n + 1) H' Q) : WLI P Δ lo all I ((false, true, nd) :: fl) nde (o :: l) fr n H Q := by
  subst hxl
  have hstep : ∀ H0 : Heap, StepM P n fr.eval n H0 o (.slice (some ⟨n, 0, none⟩) xs.length xs.length) (n + 1) (H0.set n (.row i.size cs)) := fun H0 => StepM.litL ho ht hi hz hg hzc hszi hlen hp hix hvs hcs hR.one
  have := kk (H.set n (.row i.size cs)) (hS.new _) ⟨by unfold UNK; omega, fun i hi => ?_, cs, .inr ⟨n, 0, _, cs, rfl, by rw [hsz]; exact Heap.set_same _ _ _, ?_, hR.length, Nat.le_refl _, Nat.lt_succ_self _, Nat.zero_le _, .inl ⟨rfl, by unfold UNK; omega⟩⟩, hR⟩ (fun j hj => Heap.set_ne _ _ (by omega)) (by rw [hsz]; exact Heap.set_same _ _ _)
  · refine WLI.lateX hI hd hw (.inr (hstep H)) (fun H2 h2 => .inr ?_) this
    have h3 := hstep (H2.rm n (n + 1))
    have e : (H2.rm n (n + 1)).set n (.row i.size cs) = H2 := by
      funext k
      by_cases hk : k = n
      · subst hk; rw [Heap.set_same, hIn H2 h2, hsz]
      · rw [Heap.set_ne _ _ hk, rm_out (by omega)]
    rwa [e] at h3
  · have hin : n = i := by simpa [idOf] using hi
    subst hin; exact hS.fnone (Nat.le_refl _)
  · rw [List.drop_zero, List.take_of_length_le (Nat.le_of_eq hR.length)]
end
end Go.Proofs.YtlpcdcpcfeaecaaAb
end
section
namespace Go.Proofs.YtlpcdcpcfeaecaaAb
open Go
def wS := @W.seq
def wR := @W.region
def wN := @WL.nil
def eT := @Ex.thn_norm
def wK := @W.skip
def eB := @Ex.blk_norm
def eR := @Ex.thn_ret
def eX := @Ex.thn_ex
def eH := @Ex.blk_here
section
variable {P : Program} {Δ : Prims} {lo : Nat} {fr : Fr} {n : Nat} {H : Heap} {Q : Post} {all : Array Oper} {l : List Oper} {o : Oper} {d : Nat} {fl : List Bool}
theorem mN {x : Operand} {v : Value} (h : (o.op, o.dst, wantedA all o fr, fr.eval x) = (.move x, some d, some true, some v)) (k : WL P Δ lo [] all l ((d, v) :: fr) n H Q) : WL P Δ lo [] all (o :: l) fr n H Q := by
  simp only [Prod.mk.injEq] at h; exact WL.move .nil h.1 h.2.1 h.2.2.1 h.2.2.2 k
theorem mR {x : Operand} {v : Value} (h : (o.op, o.dst, wantedA all o fr, fr.eval x) = (.move x, some d, some true, some v)) (k : WL P Δ lo fl all l ((d, v) :: fr) n H Q) : WL P Δ lo (false :: fl) all (o :: l) fr n H Q := by
  simp only [Prod.mk.injEq] at h; exact WL.move .r h.1 h.2.1 h.2.2.1 h.2.2.2 k
theorem aN {x : Operand} {v : Value} (h : (o.op, o.dst, wantedA all o fr, fr.eval x) = (.assign x, some d, some true, some v)) (k : WL P Δ lo [] all l ((d, v) :: fr) n H Q) : WL P Δ lo [] all (o :: l) fr n H Q := by
  simp only [Prod.mk.injEq] at h; exact WL.assign .nil h.1 h.2.1 h.2.2.1 h.2.2.2 k
theorem aR {x : Operand} {v : Value} (h : (o.op, o.dst, wantedA all o fr, fr.eval x) = (.assign x, some d, some true, some v)) (k : WL P Δ lo fl all l ((d, v) :: fr) n H Q) : WL P Δ lo (false :: fl) all (o :: l) fr n H Q := by
  simp only [Prod.mk.injEq] at h; exact WL.assign .r h.1 h.2.1 h.2.2.1 h.2.2.2 k
theorem kN (h : (o.dst, wantedA all o fr) = (some d, some false)) (k : WL P Δ lo [] all l ((d, undef) :: fr) n H Q) : WL P Δ lo [] all (o :: l) fr n H Q := by
  simp only [Prod.mk.injEq] at h; exact WL.skip .nil h.1 h.2 k
theorem kR (h : (o.dst, wantedA all o fr) = (some d, some false)) (k : WL P Δ lo fl all l ((d, undef) :: fr) n H Q) : WL P Δ lo (false :: fl) all (o :: l) fr n H Q := by
  simp only [Prod.mk.injEq] at h; exact WL.skip .r h.1 h.2 k
theorem zN {x : Operand} {a : Addr} (h : (o.op, o.dst, wantedA all o fr, fr.eval x) = (.nilCheck x, some d, some true, some (.pointer (some a)))) (k : WL P Δ lo [] all l ((d, .pointer (some a)) :: fr) n H Q) : WL P Δ lo [] all (o :: l) fr n H Q := by
  simp only [Prod.mk.injEq] at h; exact WL.nilCheck .nil h.1 h.2.1 h.2.2.1 h.2.2.2 k
theorem zR {x : Operand} {a : Addr} (h : (o.op, o.dst, wantedA all o fr, fr.eval x) = (.nilCheck x, some d, some true, some (.pointer (some a)))) (k : WL P Δ lo fl all l ((d, .pointer (some a)) :: fr) n H Q) : WL P Δ lo (false :: fl) all (o :: l) fr n H Q := by
  simp only [Prod.mk.injEq] at h; exact WL.nilCheck .r h.1 h.2.1 h.2.2.1 h.2.2.2 k
theorem bN {op : BinOp} {t t' : TypeId} {x y : Operand} {k k' : IntKind} {a b : Int} {v : Value} (h : (o.op, o.dst, wantedA all o fr, fr.eval x, fr.eval y) = (.binOp op t x y t', some d, some true, some (.int k a), some (.int k' b))) (hv : binI op k a k' b = some v) (kk : WL P Δ lo [] all l ((d, v) :: fr) n H Q) : WL P Δ lo [] all (o :: l) fr n H Q := by
  simp only [Prod.mk.injEq] at h; exact WL.bin .nil h.1 h.2.1 h.2.2.1 h.2.2.2.1 h.2.2.2.2 hv kk
theorem bR {op : BinOp} {t t' : TypeId} {x y : Operand} {k k' : IntKind} {a b : Int} {v : Value} (h : (o.op, o.dst, wantedA all o fr, fr.eval x, fr.eval y) = (.binOp op t x y t', some d, some true, some (.int k a), some (.int k' b))) (hv : binI op k a k' b = some v) (kk : WL P Δ lo fl all l ((d, v) :: fr) n H Q) : WL P Δ lo (false :: fl) all (o :: l) fr n H Q := by
  simp only [Prod.mk.injEq] at h; exact WL.bin .r h.1 h.2.1 h.2.2.1 h.2.2.2.1 h.2.2.2.2 hv kk
theorem fN {s : TypeId} {x : Operand} {j b k : Nat} {fs : Array Field} {f : Field} {i : TypeInfo} (h : (o.op, o.dst, wantedA all o fr, fr.eval x) = (.fieldAddr s x j, some d, some true, some (.pointer (some ⟨b, k, none⟩)))) (hs : P.underlying s = some (.struct fs)) (hf : fs[j]? = some f) (hi : P.info? f.type = some i) (h0 : (i.size == 0) = false)
    (kk : WL P Δ lo [] all l ((d, .pointer (some ⟨b, k + f.offset, none⟩)) :: fr) n H Q) : WL P Δ lo [] all (o :: l) fr n H Q := by
  simp only [Prod.mk.injEq] at h; exact WL.fieldAddr .nil h.1 h.2.1 h.2.2.1 hs hf hi h0 h.2.2.2 kk
theorem fR {s : TypeId} {x : Operand} {j b k : Nat} {fs : Array Field} {f : Field} {i : TypeInfo} (h : (o.op, o.dst, wantedA all o fr, fr.eval x) = (.fieldAddr s x j, some d, some true, some (.pointer (some ⟨b, k, none⟩)))) (hs : P.underlying s = some (.struct fs)) (hf : fs[j]? = some f) (hi : P.info? f.type = some i) (h0 : (i.size == 0) = false)
    (kk : WL P Δ lo fl all l ((d, .pointer (some ⟨b, k + f.offset, none⟩)) :: fr) n H Q) : WL P Δ lo (false :: fl) all (o :: l) fr n H Q := by
  simp only [Prod.mk.injEq] at h; exact WL.fieldAddr .r h.1 h.2.1 h.2.2.1 hs hf hi h0 h.2.2.2 kk
theorem lN {t : TypeId} {x : Operand} {dd : TypeDesc} {b k e : Nat} {c : List Value} {v : Value} (h : (o.op, o.dst, wantedA all o fr, fr.eval x) = (.load t x, some d, some true, some (.pointer (some ⟨b, k, none⟩)))) (ht : P.underlying t = some dd) (hr : isRow dd = false) (hb : H b = some (.row e c)) (hk : c[k]? = some v)
    (kk : WL P Δ lo [] all l ((d, v) :: fr) n H Q) : WL P Δ lo [] all (o :: l) fr n H Q := by
  simp only [Prod.mk.injEq] at h; exact WL.load1 .nil h.1 h.2.1 h.2.2.1 ht hr h.2.2.2 hb hk kk
theorem lR {t : TypeId} {x : Operand} {dd : TypeDesc} {b k e : Nat} {c : List Value} {v : Value} (h : (o.op, o.dst, wantedA all o fr, fr.eval x) = (.load t x, some d, some true, some (.pointer (some ⟨b, k, none⟩)))) (ht : P.underlying t = some dd) (hr : isRow dd = false) (hb : H b = some (.row e c)) (hk : c[k]? = some v)
    (kk : WL P Δ lo fl all l ((d, v) :: fr) n H Q) : WL P Δ lo (false :: fl) all (o :: l) fr n H Q := by
  simp only [Prod.mk.injEq] at h; exact WL.load1 .r h.1 h.2.1 h.2.2.1 ht hr h.2.2.2 hb hk kk
end
section
variable {P : Program} {Δ : Prims} {lo : Nat} {all : Array Oper} {I : Heap → Prop} {fr : Fr} {n : Nat} {H : Heap} {Q : Fr → Nat → Heap → Prop} {fl : List (Bool × Bool × Bool)} {nde : Bool} {b : Bool} {l : List Oper} {o : Oper}
theorem oP (h : WL P Δ lo [b] all [o] fr n H (fun e fr1 n1 H1 => e = .norm ∧ WLI P Δ lo all I fl nde l fr1 n1 H1 Q)) : WLI P Δ lo all I ((b, false, false) :: fl) nde (o :: l) fr n H Q := WLI.op (fun h => by cases h) h
end
section
variable {α : Type} [Rp α] {F H H' : Heap} {v : Value} {xs : List α} {lo n n' b : Nat}
theorem kA (h : OW lo n H F v xs) (hk : ∀ i, i < n → H' i = H i) (hn : n ≤ n' := by omega) : OW lo n' H' F v xs := h.keep hn fun i hi => hk i (OW.id_lt h hi).2
theorem kB (h : OW lo n H F v xs) (hk : ∀ i, ¬ i = b → H' i = H i) (ap : ¬ idOf v = some b) : OW lo n H' F v xs := h.keep (Nat.le_refl _) fun i hi => hk i (fun hj => ap (hj ▸ hi))
theorem oA {r : Option Ob} {m : Nat} (hk : ∀ i, i < n → H' i = H i) (ho : H b = r) (lt : b < m) (hm : m ≤ n := by omega) : H' b = r := (hk _ (Nat.lt_of_lt_of_le lt hm)).trans ho
end
theorem wF {p q : Prop} (h : p) (k : p → q := by
  intro h
  first
  | exact win_fit h (Nat.le_of_ble_eq_true rfl) rfl (Nat.le_of_ble_eq_true rfl)
  | exact win_fit2 h (Nat.le_of_ble_eq_true rfl) rfl (Nat.le_of_ble_eq_true rfl)
  | exact win_fit3 h (Nat.le_of_ble_eq_true rfl) rfl (Nat.le_of_ble_eq_true rfl)) : q := k h
def bl {n m : Nat} := @Nat.le_of_ble_eq_true n m
abbrev pt (b k : Nat) : Value := .pointer (some ⟨b, k, none⟩)
abbrev iv (x : Int) : Value := .int .i64 x
abbrev r1 : List Nat := [0]
abbrev f1 : List Bool := [false]
abbrev r2 : List Nat := [0, 1]
abbrev f2 : List Bool := [false, false]
abbrev r3 : List Nat := [0, 1, 2]
abbrev r4 : List Nat := [0, 1, 2, 3]
abbrev f4 : List Bool := [false, false, false, false]
abbrev r5 : List Nat := [0, 1, 2, 3, 4]
abbrev r6 : List Nat := [0, 1, 2, 3, 4, 5]
abbrev r7 : List Nat := [0, 1, 2, 3, 4, 5, 6]
abbrev f7 : List Bool := [false, false, false, false, false, false, false]
abbrev r8 : List Nat := [0, 1, 2, 3, 4, 5, 6, 7]
abbrev f8 : List Bool := [false, false, false, false, false, false, false, false]
abbrev r9 : List Nat := [0, 1, 2, 3, 4, 5, 6, 7, 8]
abbrev f9 : List Bool := [false, false, false, false, false, false, false, false, false]
abbrev r10 : List Nat := [0, 1, 2, 3, 4, 5, 6, 7, 8, 9]
abbrev f10 : List Bool := [false, false, false, false, false, false, false, false, false, false]
abbrev r11 : List Nat := [0, 1, 2, 3, 4, 5, 6, 7, 8, 9, 10]
abbrev f11 : List Bool := [false, false, false, false, false, false, false, false, false, false, false]
abbrev r12 : List Nat := [0, 1, 2, 3, 4, 5, 6, 7, 8, 9, 10, 11]
abbrev f12 : List Bool := [false, false, false, false, false, false, false, false, false, false, false, false]
abbrev r13 : List Nat := [0, 1, 2, 3, 4, 5, 6, 7, 8, 9, 10, 11, 12]
abbrev f13 : List Bool := [false, false, false, false, false, false, false, false, false, false, false, false, false]
abbrev r14 : List Nat := [0, 1, 2, 3, 4, 5, 6, 7, 8, 9, 10, 11, 12, 13]
abbrev f14 : List Bool := [false, false, false, false, false, false, false, false, false, false, false, false, false, false]
abbrev r15 : List Nat := [0, 1, 2, 3, 4, 5, 6, 7, 8, 9, 10, 11, 12, 13, 14]
abbrev f15 : List Bool := [false, false, false, false, false, false, false, false, false, false, false, false, false, false, false]
abbrev r16 : List Nat := [0, 1, 2, 3, 4, 5, 6, 7, 8, 9, 10, 11, 12, 13, 14, 15]
abbrev r17 : List Nat := [0, 1, 2, 3, 4, 5, 6, 7, 8, 9, 10, 11, 12, 13, 14, 15, 16]
abbrev f17 : List Bool := [false, false, false, false, false, false, false, false, false, false, false, false, false, false, false, false, false]
abbrev r18 : List Nat := [0, 1, 2, 3, 4, 5, 6, 7, 8, 9, 10, 11, 12, 13, 14, 15, 16, 17]
abbrev f18 : List Bool := [false, false, false, false, false, false, false, false, false, false, false, false, false, false, false, false, false, false]
abbrev r19 : List Nat := [0, 1, 2, 3, 4, 5, 6, 7, 8, 9, 10, 11, 12, 13, 14, 15, 16, 17, 18]
abbrev r20 : List Nat := [0, 1, 2, 3, 4, 5, 6, 7, 8, 9, 10, 11, 12, 13, 14, 15, 16, 17, 18, 19]
abbrev r21 : List Nat := [0, 1, 2, 3, 4, 5, 6, 7, 8, 9, 10, 11, 12, 13, 14, 15, 16, 17, 18, 19, 20]
abbrev r22 : List Nat := [0, 1, 2, 3, 4, 5, 6, 7, 8, 9, 10, 11, 12, 13, 14, 15, 16, 17, 18, 19, 20, 21]
abbrev r23 : List Nat := [0, 1, 2, 3, 4, 5, 6, 7, 8, 9, 10, 11, 12, 13, 14, 15, 16, 17, 18, 19, 20, 21, 22]
abbrev r24 : List Nat := [0, 1, 2, 3, 4, 5, 6, 7, 8, 9, 10, 11, 12, 13, 14, 15, 16, 17, 18, 19, 20, 21, 22, 23]
theorem mP {p : Prop} (h : p := by (conv => lhs; simp only [r1, r2, r3, r4, r5, r6, r7, r8, r9, r10, r11, r12, r13, r14, r15, r16, r17, r18, r19, r20, r21, r22, r23, r24, List.map_cons, List.map_nil, List.getD_cons_zero, List.getD_cons_succ]) <;> rfl) : p := h
theorem kr {p : Prop} (h : p := by kernel_rfl) : p := h
section
variable {α : Type} [Rp α] {F F' H H' : Heap} {v w : Value} {xs : List α} {lo n m k b : Nat} {S : Nat → Prop}
theorem kC (h : OW lo n H F v xs) (hk : ∀ i, ¬ i = b → H' i = H i) (ap : ∀ i, idOf v = some i → ¬ S i) (hb : S b) : OW lo n H' F v xs := h.keep (Nat.le_refl _) fun i hi => hk i (fun hj => ap i hi (by rw [hj]; exact hb))
theorem kF (h : OW lo n H F v xs) (hle : F.Le F') (hf : ∀ i, ¬ idOf w = some i → F' i = F i) (ap : ∀ i, idOf w = some i → ¬ idOf v = some i) : OW lo n H F' v xs := h.keepF hle fun i hi => (hf i (fun hj => ap i hj hi)).trans (OW.fnone h hi)
theorem sA (h : St lo n H F) (hnew : ∀ i, k ≤ i → H' i = H i) (hle : H.Le H') (h1 : k ≤ m := by omega) (h2 : n ≤ m := by omega) : St lo m H' F := ⟨Nat.le_trans h.lo h2, fun i hi => (hnew i (Nat.le_trans h1 hi)).trans (h.hb i (Nat.le_trans h2 hi)), h.fh.trans hle⟩
theorem fA {a c p : Nat} {r : Option Ob} (hX : Ext a F c F') (lt : p < m) (fo : F p = r) (h : m ≤ a := by omega) : F' p = r := (hX.eq _ (Nat.lt_of_lt_of_le lt h)).trans fo
end
section
variable {α : Type} [Rp α] {F F' H1 : Heap} {v : Value} {xs : List α} {lo n n' m b : Nat} {S0 : Nat → Prop}
theorem noS (hd : ∀ i, i < n → ¬ S0 i → H1 i = none) (h : ¬ S0 b) : ¬ S0 b := h
theorem nAf (h : OW lo n' H1 F' v xs) (hd : ∀ i, i < n → ¬ S0 i → H1 i = none) (lt : b < m) (q : ¬ S0 b) (hm : m ≤ n := by omega) : idOf v ≠ some b := fun hj => (OW.after h hd hj).elim (fun h => absurd lt (by omega)) q
end
abbrev Ow {α : Type} [Rp α] (lo n : Nat) (H F : Heap) (a : Option Addr) (c : Nat) (xs : List α) : Prop := OW lo n H F (.slice a xs.length c) xs
abbrev OA := Option Addr
abbrev nP (a : Value) (p : Nat) : Prop := idOf a ≠ some p
abbrev nS (a : Value) (S : Nat → Prop) : Prop := ∀ b, idOf a = some b → ¬ S b
abbrev nA (a c : Value) : Prop := ∀ b, idOf a = some b → idOf c ≠ some b
abbrev Sn (S : Nat → Prop) (a : Value) : Prop := ∀ b, S b → idOf a ≠ some b
section
variable {α : Type} [Rp α] [Dp α] {lo n : Nat} {H F : Heap} {S : Nat → Prop} {Z : List Hole} {v : Value} {xs : List α} {i : Int} {x y : α}
theorem lnS (h : OD lo n H F S Z v (setI xs i y)) : xs.length = (setI xs i y).length := (setI_length _ _ _).symm
theorem ixS (h : OD lo n H F S Z v (setI xs i y)) (hx : idx xs i = some x) : idx (setI xs i y) i = some y := idx_setI_same hx
theorem aD (h : OD lo n H F S Z v xs) : ¬ S n := Ap.alloc (OD.hb h)
end
theorem aW {α : Type} [Rp α] {lo n : Nat} {H F : Heap} {v : Value} {xs : List α} (h : OW lo n H F v xs) : idOf v ≠ some n := Ap.alloc (OW.hb h)
theorem nF {F : Heap} {p : Nat} (h : F p = none) : ¬ (F p).isSome = true := by rw [h]; simp
theorem bxP {p : Prop} (h : p := by repeat' (first | exact List.forall_mem_nil _ | refine List.forall_mem_cons.2 ⟨?_, ?_⟩ | rfl)) : p := h
theorem wG {c ecs : List Value} {k s : Nat} {v : Value} (m : Nat) (h : (c.drop k).take s = ecs) (hm : m < s := by decide) (h2 : ecs[m]? = some v := by rfl) : c[k + m]? = some v := (win_get h hm).trans h2
theorem fl1 {fr : Fr} {t0 : Nat} {v0 : Value} (h0 : fr.get t0 = some v0 := by rfl) : Fr.le [(t0, v0)] fr := (Fr.le_cons h0 Fr.le_nil)
theorem fl2 {fr : Fr} {t0 : Nat} {v0 : Value} {t1 : Nat} {v1 : Value} (h0 : fr.get t0 = some v0 := by rfl) (h1 : fr.get t1 = some v1 := by rfl) : Fr.le [(t0, v0), (t1, v1)] fr := (Fr.le_cons h0 (Fr.le_cons h1 Fr.le_nil))
theorem fl3 {fr : Fr} {t0 : Nat} {v0 : Value} {t1 : Nat} {v1 : Value} {t2 : Nat} {v2 : Value} (h0 : fr.get t0 = some v0 := by rfl) (h1 : fr.get t1 = some v1 := by rfl) (h2 : fr.get t2 = some v2 := by rfl) : Fr.le [(t0, v0), (t1, v1), (t2, v2)] fr := (Fr.le_cons h0 (Fr.le_cons h1 (Fr.le_cons h2 Fr.le_nil)))
theorem fl4 {fr : Fr} {t0 : Nat} {v0 : Value} {t1 : Nat} {v1 : Value} {t2 : Nat} {v2 : Value} {t3 : Nat} {v3 : Value} (h0 : fr.get t0 = some v0 := by rfl) (h1 : fr.get t1 = some v1 := by rfl) (h2 : fr.get t2 = some v2 := by rfl) (h3 : fr.get t3 = some v3 := by rfl) : Fr.le [(t0, v0), (t1, v1), (t2, v2), (t3, v3)] fr := (Fr.le_cons h0 (Fr.le_cons h1 (Fr.le_cons h2 (Fr.le_cons h3 Fr.le_nil))))
theorem fl5 {fr : Fr} {t0 : Nat} {v0 : Value} {t1 : Nat} {v1 : Value} {t2 : Nat} {v2 : Value} {t3 : Nat} {v3 : Value} {t4 : Nat} {v4 : Value} (h0 : fr.get t0 = some v0 := by rfl) (h1 : fr.get t1 = some v1 := by rfl) (h2 : fr.get t2 = some v2 := by rfl) (h3 : fr.get t3 = some v3 := by rfl) (h4 : fr.get t4 = some v4 := by rfl) : Fr.le [(t0, v0), (t1, v1), (t2, v2), (t3, v3), (t4, v4)] fr := (Fr.le_cons h0 (Fr.le_cons h1 (Fr.le_cons h2 (Fr.le_cons h3 (Fr.le_cons h4 Fr.le_nil)))))
theorem fl6 {fr : Fr} {t0 : Nat} {v0 : Value} {t1 : Nat} {v1 : Value} {t2 : Nat} {v2 : Value} {t3 : Nat} {v3 : Value} {t4 : Nat} {v4 : Value} {t5 : Nat} {v5 : Value} (h0 : fr.get t0 = some v0 := by rfl) (h1 : fr.get t1 = some v1 := by rfl) (h2 : fr.get t2 = some v2 := by rfl) (h3 : fr.get t3 = some v3 := by rfl) (h4 : fr.get t4 = some v4 := by rfl) (h5 : fr.get t5 = some v5 := by rfl) : Fr.le [(t0, v0), (t1, v1), (t2, v2), (t3, v3), (t4, v4), (t5, v5)] fr := (Fr.le_cons h0 (Fr.le_cons h1 (Fr.le_cons h2 (Fr.le_cons h3 (Fr.le_cons h4 (Fr.le_cons h5 Fr.le_nil))))))
theorem fl7 {fr : Fr} {t0 : Nat} {v0 : Value} {t1 : Nat} {v1 : Value} {t2 : Nat} {v2 : Value} {t3 : Nat} {v3 : Value} {t4 : Nat} {v4 : Value} {t5 : Nat} {v5 : Value} {t6 : Nat} {v6 : Value} (h0 : fr.get t0 = some v0 := by rfl) (h1 : fr.get t1 = some v1 := by rfl) (h2 : fr.get t2 = some v2 := by rfl) (h3 : fr.get t3 = some v3 := by rfl) (h4 : fr.get t4 = some v4 := by rfl) (h5 : fr.get t5 = some v5 := by rfl) (h6 : fr.get t6 = some v6 := by rfl) : Fr.le [(t0, v0), (t1, v1), (t2, v2), (t3, v3), (t4, v4), (t5, v5), (t6, v6)] fr := (Fr.le_cons h0 (Fr.le_cons h1 (Fr.le_cons h2 (Fr.le_cons h3 (Fr.le_cons h4 (Fr.le_cons h5 (Fr.le_cons h6 Fr.le_nil)))))))
theorem fl8 {fr : Fr} {t0 : Nat} {v0 : Value} {t1 : Nat} {v1 : Value} {t2 : Nat} {v2 : Value} {t3 : Nat} {v3 : Value} {t4 : Nat} {v4 : Value} {t5 : Nat} {v5 : Value} {t6 : Nat} {v6 : Value} {t7 : Nat} {v7 : Value} (h0 : fr.get t0 = some v0 := by rfl) (h1 : fr.get t1 = some v1 := by rfl) (h2 : fr.get t2 = some v2 := by rfl) (h3 : fr.get t3 = some v3 := by rfl) (h4 : fr.get t4 = some v4 := by rfl) (h5 : fr.get t5 = some v5 := by rfl) (h6 : fr.get t6 = some v6 := by rfl) (h7 : fr.get t7 = some v7 := by rfl) : Fr.le [(t0, v0), (t1, v1), (t2, v2), (t3, v3), (t4, v4), (t5, v5), (t6, v6), (t7, v7)] fr := (Fr.le_cons h0 (Fr.le_cons h1 (Fr.le_cons h2 (Fr.le_cons h3 (Fr.le_cons h4 (Fr.le_cons h5 (Fr.le_cons h6 (Fr.le_cons h7 Fr.le_nil))))))))
theorem fl9 {fr : Fr} {t0 : Nat} {v0 : Value} {t1 : Nat} {v1 : Value} {t2 : Nat} {v2 : Value} {t3 : Nat} {v3 : Value} {t4 : Nat} {v4 : Value} {t5 : Nat} {v5 : Value} {t6 : Nat} {v6 : Value} {t7 : Nat} {v7 : Value} {t8 : Nat} {v8 : Value} (h0 : fr.get t0 = some v0 := by rfl) (h1 : fr.get t1 = some v1 := by rfl) (h2 : fr.get t2 = some v2 := by rfl) (h3 : fr.get t3 = some v3 := by rfl) (h4 : fr.get t4 = some v4 := by rfl) (h5 : fr.get t5 = some v5 := by rfl) (h6 : fr.get t6 = some v6 := by rfl) (h7 : fr.get t7 = some v7 := by rfl) (h8 : fr.get t8 = some v8 := by rfl) : Fr.le [(t0, v0), (t1, v1), (t2, v2), (t3, v3), (t4, v4), (t5, v5), (t6, v6), (t7, v7), (t8, v8)] fr := (Fr.le_cons h0 (Fr.le_cons h1 (Fr.le_cons h2 (Fr.le_cons h3 (Fr.le_cons h4 (Fr.le_cons h5 (Fr.le_cons h6 (Fr.le_cons h7 (Fr.le_cons h8 Fr.le_nil)))))))))
theorem oE2 {p0 p1 : Prop} (h0 : ¬ p0) (h1 : ¬ p1) : ¬ (p0 ∨ p1) := by
  intro h; rcases h with h | h
  · exact h0 h
  · exact h1 h
theorem oE5 {p0 p1 p2 p3 p4 : Prop} (h0 : ¬ p0) (h1 : ¬ p1) (h2 : ¬ p2) (h3 : ¬ p3) (h4 : ¬ p4) : ¬ (p0 ∨ p1 ∨ p2 ∨ p3 ∨ p4) := by
  intro h; rcases h with h | h | h | h | h
  · exact h0 h
  · exact h1 h
  · exact h2 h
  · exact h3 h
  · exact h4 h
end Go.Proofs.YtlpcdcpcfeaecaaAb
end
