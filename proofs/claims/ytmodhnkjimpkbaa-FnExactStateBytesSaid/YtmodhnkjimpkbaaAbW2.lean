import Derived.Test.YtmodhnkjimpkbaaAbW
set_option linter.all false
namespace Go.Proofs.YtmodhnkjimpkbaaAb
open Go
theorem AbsOk.eq {lo n n' : Nat} {H H' : Heap} (h : AbsOk lo n H n' H') {i : Nat} (hi : i < lo) : H' i = H i := h.2.1 i hi
theorem AbsOk.le {lo n n' : Nat} {H H' : Heap} (h : AbsOk lo n H n' H') : n ≤ n' := h.1
def str (l : List UInt8) : Value := .string ⟨l.toArray⟩
def grZ : Value → Bool
  | .bool _ | .int .. | .string _ | .pointer none | .slice none 0 0 | .map none | .nilFunc | .nilIface => true
  | _ => false
theorem grZ_spec {v : Value} (h : grZ v = true) : Gr v ∧ v.oneCell' = true := by
  refine ⟨gr_of_grB h, ?_⟩
  unfold grZ at h
  split at h <;> first | (cases h; done) | rfl
theorem equalIn_bool {P : Program} {t : TypeId} (ht : P.underlying t = some .bool) (d : Nat) (a b : Bool) (w : World) : (Op.equalIn (d + 1) t (.bool a) (.bool b)).run P w = .ok (a == b) w := by
  simp [Op.equalIn, run_underlying ht]
theorem equal_bool {P : Program} {t : TypeId} (ht : P.underlying t = some .bool) (a b : Bool) (w : World) : (Op.equal t (.bool a) (.bool b)).run P w = .ok (a == b) w := equalIn_bool ht 9999 a b w
section
variable {P : Program} {Δ : Prims} {lo : Nat} {fr : Fr} {n : Nat} {H : Heap} {Q : Post} {all : Array Oper} {l : List Oper} {o : Oper} {d : Nat}
theorem WL.call {fl fl2 : List Bool} {lw : Nat} (hfl : IsFl fl lo n lw fl2) {x : Operand} {xs : Array Operand} {ts : Array TypeId} {f : FuncId} {first cap : Array Value} {as : List Value} {fn : Func} (lo' : Nat) (ho : o.op = .call { callee := .value x, args := xs, argTypes := ts }) (hd : o.dst = some d) (hw : wantedA all o fr = some true)
    (hx : fr.eval x = some (.func (.func f) first cap)) (ha : xs.toList.mapM fr.eval = some as) (hfn : P.funcs[f]? = some fn) (hname : (fn.name == "runtime.NumGoroutine") = false) (hbody : fn.body.isNone = false) (h1 : lw ≤ lo') (h2 : lo' ≤ n)
    (h : C P Δ lo' f (first.toList ++ as ++ cap.toList) n H (fun v n' H' => WL P Δ lo fl2 all l ((d, v) :: fr) n' H' Q)) : WL P Δ lo fl all (o :: l) fr n H Q := by
  obtain ⟨v, n', H', dd, k⟩ := h
  exact WL.step hfl (.callF ho hx ha hfn hname hbody h1 h2 dd) hd hw k
theorem WL.call0 {fl fl2 : List Bool} {lw : Nat} (hfl : IsFl fl lo n lw fl2) {x : Operand} {xs : Array Operand} {ts : Array TypeId} {f : FuncId} {first cap : Array Value} {as : List Value} {fn : Func} (lo' : Nat) (ho : o.op = .call { callee := .value x, args := xs, argTypes := ts }) (hd : o.dst = none) (hw : wantedA all o fr = some true)
    (hx : fr.eval x = some (.func (.func f) first cap)) (ha : xs.toList.mapM fr.eval = some as) (hfn : P.funcs[f]? = some fn) (hname : (fn.name == "runtime.NumGoroutine") = false) (hbody : fn.body.isNone = false) (h1 : lw ≤ lo') (h2 : lo' ≤ n)
    (h : C P Δ lo' f (first.toList ++ as ++ cap.toList) n H (fun v n' H' => WL P Δ lo fl2 all l fr n' H' Q)) : WL P Δ lo fl all (o :: l) fr n H Q := by
  obtain ⟨v, n', H', dd, k⟩ := h
  exact WL.step0 hfl (.callF ho hx ha hfn hname hbody h1 h2 dd) hd hw k
theorem WL.alloc {fl fl2 : List Bool} {lw : Nat} (hfl : IsFl fl lo n lw fl2) {t : TypeId} {i : TypeInfo} {z : Value} (e : Nat) (ho : o.op = .alloc t) (hd : o.dst = some d) (hw : wantedA all o fr = some true) (hi : P.info? t = some i) (hz : i.zero = some z) (hg : (Cells z).all grZ = true)
    (k : WL P Δ lo fl2 all l ((d, .pointer (some ⟨n, 0, none⟩)) :: fr) (n + 1) (H.set n (.row e (Cells z))) Q) : WL P Δ lo fl all (o :: l) fr n H Q := by
  refine WL.step hfl (.step (.alloc e ho hi hz ?_)) hd hw k
  intro v hv
  exact grZ_spec (List.all_eq_true.1 hg v hv)
theorem WL.box {fl fl2 : List Bool} {lw : Nat} (hfl : IsFl fl lo n lw fl2) {t : TypeId} {x : Operand} {v : Value} (e : Nat) (ho : o.op = .box t x) (hd : o.dst = some d) (hw : wantedA all o fr = some true) (hx : fr.eval x = some v) (hg : ∀ u ∈ Cells v, u.oneCell' = true)
    (k : WL P Δ lo fl2 all l ((d, .pointer (some ⟨n, 0, none⟩)) :: fr) (n + 1) (H.set n (.row e (Cells v))) Q) : WL P Δ lo fl all (o :: l) fr n H Q :=
  WL.step hfl (.step (.box e ho hx hg)) hd hw k
theorem WL.load1 {fl fl2 : List Bool} {lw : Nat} (hfl : IsFl fl lo n lw fl2) {t : TypeId} {x : Operand} {dd : TypeDesc} {b k e : Nat} {c : List Value} {v : Value} (ho : o.op = .load t x) (hd : o.dst = some d) (hw : wantedA all o fr = some true) (ht : P.underlying t = some dd) (hr : isRow dd = false)
    (hx : fr.eval x = some (.pointer (some ⟨b, k, none⟩))) (hb : H b = some (.row e c)) (hk : c[k]? = some v) (kk : WL P Δ lo fl2 all l ((d, v) :: fr) n H Q) : WL P Δ lo fl all (o :: l) fr n H Q :=
  WL.step hfl (.step (.load1 ho ht hr hx hb hk)) hd hw kk
theorem WL.loadN {fl fl2 : List Bool} {lw : Nat} (hfl : IsFl fl lo n lw fl2) {t : TypeId} {x : Operand} {dd : TypeDesc} {i : TypeInfo} {b k e : Nat} {c l' : List Value} (ho : o.op = .load t x) (hd : o.dst = some d) (hw : wantedA all o fr = some true) (ht : P.underlying t = some dd) (hr : isRow dd = true) (hi : P.info? t = some i)
    (hx : fr.eval x = some (.pointer (some ⟨b, k, none⟩))) (hb : H b = some (.row e c)) (hk : (c.drop k).take i.size = l') (hl : l'.length = i.size) (kk : WL P Δ lo fl2 all l ((d, .agg l'.toArray) :: fr) n H Q) : WL P Δ lo fl all (o :: l) fr n H Q :=
  WL.step hfl (.step (.loadN ho ht hr hi hx hb hk hl)) hd hw kk
theorem WL.store {fl fl2 : List Bool} {lw : Nat} (hfl : IsFl fl lo n lw fl2) {t : TypeId} {x y : Operand} {i : TypeInfo} {b k e : Nat} {c : List Value} {v : Value} (ho : o.op = .store t x y) (hd : o.dst = none) (hw : wantedA all o fr = some true) (hi : P.info? t = some i)
    (hx : fr.eval x = some (.pointer (some ⟨b, k, none⟩))) (hy : fr.eval y = some v) (hs : (Cells v).length = i.size) (hb : H b = some (.row e c)) (hk : k + i.size ≤ c.length) (hlo : lw ≤ b) (hbn : b < n) (h1 : ∀ u ∈ Cells v, u.oneCell' = true)
    (kk : WL P Δ lo fl2 all l fr n (H.set b (.row e (splice c k (Cells v)))) Q) : WL P Δ lo fl all (o :: l) fr n H Q :=
  WL.step0 hfl (.step (.store ho hi hx hy hs hb hk hlo hbn h1)) hd hw kk
theorem WL.nilCheck {fl fl2 : List Bool} {lw : Nat} (hfl : IsFl fl lo n lw fl2) {x : Operand} {a : Addr} (ho : o.op = .nilCheck x) (hd : o.dst = some d) (hw : wantedA all o fr = some true) (hx : fr.eval x = some (.pointer (some a))) (kk : WL P Δ lo fl2 all l ((d, .pointer (some a)) :: fr) n H Q) : WL P Δ lo fl all (o :: l) fr n H Q :=
  WL.step hfl (.step (.nilCheck ho hx)) hd hw kk
theorem WL.nilCheckF {fl fl2 : List Bool} {lw : Nat} (hfl : IsFl fl lo n lw fl2) {x : Operand} {f : FuncId} {a c : Array Value} (ho : o.op = .nilCheck x) (hd : o.dst = some d) (hw : wantedA all o fr = some true) (hx : fr.eval x = some (.func (.func f) a c)) (kk : WL P Δ lo fl2 all l ((d, .func (.func f) a c) :: fr) n H Q) : WL P Δ lo fl all (o :: l) fr n H Q :=
  WL.step hfl (.step (.nilCheckF ho hx)) hd hw kk
theorem WL.nilCheck0 {fl fl2 : List Bool} {lw : Nat} (hfl : IsFl fl lo n lw fl2) {x : Operand} {a : Addr} (ho : o.op = .nilCheck x) (hd : o.dst = none) (hw : wantedA all o fr = some true) (hx : fr.eval x = some (.pointer (some a))) (kk : WL P Δ lo fl2 all l fr n H Q) : WL P Δ lo fl all (o :: l) fr n H Q :=
  WL.step0 hfl (.step (.nilCheck ho hx)) hd hw kk
theorem WL.fieldAddr {fl fl2 : List Bool} {lw : Nat} (hfl : IsFl fl lo n lw fl2) {s : TypeId} {x : Operand} {j b k : Nat} {fs : Array Field} {f : Field} {i : TypeInfo} (ho : o.op = .fieldAddr s x j) (hd : o.dst = some d) (hw : wantedA all o fr = some true) (hs : P.underlying s = some (.struct fs)) (hf : fs[j]? = some f)
    (hi : P.info? f.type = some i) (h0 : (i.size == 0) = false) (hx : fr.eval x = some (.pointer (some ⟨b, k, none⟩))) (kk : WL P Δ lo fl2 all l ((d, .pointer (some ⟨b, k + f.offset, none⟩)) :: fr) n H Q) : WL P Δ lo fl all (o :: l) fr n H Q :=
  WL.step hfl (.step (.fieldAddr ho hs hf hi h0 hx)) hd hw kk
theorem WL.field1 {fl fl2 : List Bool} {lw : Nat} (hfl : IsFl fl lo n lw fl2) {s : TypeId} {x : Operand} {j : Nat} {fs : Array Field} {f : Field} {dd : TypeDesc} {cs : Array Value} {v : Value} (ho : o.op = .field s x j) (hd : o.dst = some d) (hw : wantedA all o fr = some true) (hs : P.underlying s = some (.struct fs)) (hf : fs[j]? = some f)
    (ht : P.underlying f.type = some dd) (hr : isRow dd = false) (hx : fr.eval x = some (.agg cs)) (hv : cs[f.offset]? = some v) (kk : WL P Δ lo fl2 all l ((d, v) :: fr) n H Q) : WL P Δ lo fl all (o :: l) fr n H Q :=
  WL.step hfl (.step (.field1 ho hs hf ht hr hx hv)) hd hw kk
theorem WL.fieldN {fl fl2 : List Bool} {lw : Nat} (hfl : IsFl fl lo n lw fl2) {s : TypeId} {x : Operand} {j : Nat} {fs : Array Field} {f : Field} {dd : TypeDesc} {i : TypeInfo} {cs : Array Value} (ho : o.op = .field s x j) (hd : o.dst = some d) (hw : wantedA all o fr = some true) (hs : P.underlying s = some (.struct fs)) (hf : fs[j]? = some f)
    (ht : P.underlying f.type = some dd) (hr : isRow dd = true) (hi : P.info? f.type = some i) (hx : fr.eval x = some (.agg cs)) (kk : WL P Δ lo fl2 all l ((d, .agg (cs.extract f.offset (f.offset + i.size))) :: fr) n H Q) : WL P Δ lo fl all (o :: l) fr n H Q :=
  WL.step hfl (.step (.fieldN ho hs hf ht hr hi hx)) hd hw kk
theorem WL.indexS {fl fl2 : List Bool} {lw : Nat} (hfl : IsFl fl lo n lw fl2) {t : TypeId} {x y : Operand} {el : TypeId} {i : TypeInfo} {b k len cap : Nat} {q : IntKind} {j : Int} (ho : o.op = .indexAddr t x y) (hd : o.dst = some d) (hw : wantedA all o fr = some true) (ht : P.underlying t = some (.slice el)) (hi : P.info? el = some i)
    (hx : fr.eval x = some (.slice (some ⟨b, k, none⟩) len cap)) (hy : fr.eval y = some (.int q j)) (h0 : 0 ≤ j) (hj : j < len) (kk : WL P Δ lo fl2 all l ((d, .pointer (some ⟨b, k + j.toNat * i.size, none⟩)) :: fr) n H Q) : WL P Δ lo fl all (o :: l) fr n H Q :=
  WL.step hfl (.step (.indexAddrS ho ht hi hx hy h0 hj)) hd hw kk
theorem WL.indexA {fl fl2 : List Bool} {lw : Nat} (hfl : IsFl fl lo n lw fl2) {t : TypeId} {x y : Operand} {el : TypeId} {i : TypeInfo} {b k len : Nat} {q : IntKind} {j : Int} (ho : o.op = .indexAddr t x y) (hd : o.dst = some d) (hw : wantedA all o fr = some true) (ht : P.underlying t = some (.array len el)) (hi : P.info? el = some i)
    (hx : fr.eval x = some (.pointer (some ⟨b, k, none⟩))) (hy : fr.eval y = some (.int q j)) (h0 : 0 ≤ j) (hj : j < len) (kk : WL P Δ lo fl2 all l ((d, .pointer (some ⟨b, k + j.toNat * i.size, none⟩)) :: fr) n H Q) : WL P Δ lo fl all (o :: l) fr n H Q :=
  WL.step hfl (.step (.indexAddrA ho ht hi hx hy h0 hj)) hd hw kk
theorem WL.indexA1 {fl fl2 : List Bool} {lw : Nat} (hfl : IsFl fl lo n lw fl2) {t : TypeId} {x y : Operand} {el : TypeId} {dd : TypeDesc} {i : TypeInfo} {len : Nat} {q : IntKind} {j : Int} {cs : Array Value} {v : Value} (ho : o.op = .index t x y) (hd : o.dst = some d) (hw : wantedA all o fr = some true) (ht : P.underlying t = some (.array len el)) (hi : P.info? el = some i)
    (hdd : P.underlying el = some dd) (hr : isRow dd = false) (hx : fr.eval x = some (.agg cs)) (hy : fr.eval y = some (.int q j)) (h0 : 0 ≤ j) (hj : j < len) (hv : cs[j.toNat * i.size]? = some v) (kk : WL P Δ lo fl2 all l ((d, v) :: fr) n H Q) : WL P Δ lo fl all (o :: l) fr n H Q :=
  WL.step hfl (.step (.indexA1 ho ht hi hdd hr hx hy h0 hj hv)) hd hw kk
theorem WL.extract {fl fl2 : List Bool} {lw : Nat} (hfl : IsFl fl lo n lw fl2) {x : Operand} {j : Nat} {vs : Array Value} {v : Value} (ho : o.op = .extract x j) (hd : o.dst = some d) (hw : wantedA all o fr = some true) (hx : fr.eval x = some (.tuple vs)) (hv : vs[j]? = some v) (kk : WL P Δ lo fl2 all l ((d, v) :: fr) n H Q) : WL P Δ lo fl all (o :: l) fr n H Q :=
  WL.step hfl (.step (.extract ho hx hv)) hd hw kk
theorem WL.mkFunc {fl fl2 : List Bool} {lw : Nat} (hfl : IsFl fl lo n lw fl2) {f : Fn} {xs ys : Array Operand} {a c : List Value} (ho : o.op = .makeFunc f xs ys) (hd : o.dst = some d) (hw : wantedA all o fr = some true) (hx : xs.toList.mapM fr.eval = some a) (hy : ys.toList.mapM fr.eval = some c) (kk : WL P Δ lo fl2 all l ((d, .func f a.toArray c.toArray) :: fr) n H Q) : WL P Δ lo fl all (o :: l) fr n H Q :=
  WL.step hfl (.step (.mkFunc ho (by simpa using hx) (by simpa using hy))) hd hw kk
theorem WL.mkIface {fl fl2 : List Bool} {lw : Nat} (hfl : IsFl fl lo n lw fl2) {t : TypeId} {x : Operand} {dd : TypeDesc} {v : Value} (ho : o.op = .makeInterface t x) (hd : o.dst = some d) (hw : wantedA all o fr = some true) (ht : P.underlying t = some dd) (hdd : ∀ ms, dd ≠ .interface ms) (hx : fr.eval x = some v) (kk : WL P Δ lo fl2 all l ((d, .iface t v) :: fr) n H Q) : WL P Δ lo fl all (o :: l) fr n H Q :=
  WL.step hfl (.step (.mkIface ho ht hdd hx)) hd hw kk
theorem WL.len {fl fl2 : List Bool} {lw : Nat} (hfl : IsFl fl lo n lw fl2) {t : TypeId} {x : Operand} {el : TypeId} {a : Option Addr} {len cap : Nat} (ho : o.op = .call { callee := .builtin .len, args := #[x], argTypes := #[t] }) (hd : o.dst = some d) (hw : wantedA all o fr = some true) (ht : P.underlying t = some (.slice el))
    (hx : fr.eval x = some (.slice a len cap)) (kk : WL P Δ lo fl2 all l ((d, .int .i64 len) :: fr) n H Q) : WL P Δ lo fl all (o :: l) fr n H Q :=
  WL.step hfl (.step (.len ho ht hx)) hd hw kk
theorem WL.slice {fl fl2 : List Bool} {lw : Nat} (hfl : IsFl fl lo n lw fl2) {t el : TypeId} {i : TypeInfo} {x : Operand} {low high mx : Option Operand} {b k len cap lw h m e : Nat} {c : List Value} (ho : o.op = .slice t x low high mx) (hd : o.dst = some d) (hw : wantedA all o fr = some true) (ht : P.underlying t = some (.slice el)) (hi : P.info? el = some i)
    (hx : fr.eval x = some (.slice (some ⟨b, k, none⟩) len cap)) (hb : H b = some (.row e c)) (he : e = i.size) (hm : Bnd fr.eval mx (lb len cap) m) (hl : Bnd fr.eval low 0 lw) (hh : Bnd fr.eval high len h) (hmm : m ≤ lb len cap) (hmx : mx.isSome → high.isSome) (hlh : lw ≤ h) (hhm : h ≤ m)
    (kk : WL P Δ lo fl2 all l ((d, .slice (some ⟨b, k + lw * i.size, none⟩) (h - lw) (UNK + (m - lw))) :: fr) n H Q) : WL P Δ lo fl all (o :: l) fr n H Q :=
  WL.step hfl (.stepM (.slice ho ht hi hx hb he hm hmm hl hh hmx hlh hhm)) hd hw kk
theorem WL.sliceNil {fl fl2 : List Bool} {lw : Nat} (hfl : IsFl fl lo n lw fl2) {t el : TypeId} {i : TypeInfo} {x : Operand} {low high : Option Operand} (ho : o.op = .slice t x low high none) (hd : o.dst = some d) (hw : wantedA all o fr = some true) (ht : P.underlying t = some (.slice el)) (hi : P.info? el = some i)
    (hx : fr.eval x = some (.slice none 0 0)) (hl : Bnd fr.eval low 0 0) (hh : Bnd fr.eval high 0 0) (kk : WL P Δ lo fl2 all l ((d, .slice none 0 0) :: fr) n H Q) : WL P Δ lo fl all (o :: l) fr n H Q :=
  WL.step hfl (.stepM (.sliceNil ho ht hi hx hl hh)) hd hw kk
theorem WL.eqNil {fl fl2 : List Bool} {lw : Nat} (hfl : IsFl fl lo n lw fl2) {op : BinOp} {t u el : TypeId} {x y : Operand} {a : Option Addr} {len cap : Nat} (ho : o.op = .binOp op t x y u) (hd : o.dst = some d) (hw : wantedA all o fr = some true) (hop : op = .eql ∨ op = .neq) (ht : P.underlying t = some (.slice el)) (hx : fr.eval x = some (.slice a len cap)) (hy : fr.eval y = some (.slice none 0 0))
    (kk : WL P Δ lo fl2 all l ((d, .bool (if op = .eql then a.isNone else !a.isNone)) :: fr) n H Q) : WL P Δ lo fl all (o :: l) fr n H Q :=
  WL.step hfl (.stepM (.eqNil ho hop ht hx hy)) hd hw kk
theorem WL.make {fl fl2 : List Bool} {lw : Nat} (hfl : IsFl fl lo n lw fl2) {t el : TypeId} {i : TypeInfo} {z : Value} {x y : Operand} {q q' : IntKind} {l' c : Nat} (ho : o.op = .makeSlice t x y) (hd : o.dst = some d) (hw : wantedA all o fr = some true) (ht : P.underlying t = some (.slice el)) (hi : P.info? el = some i) (hz : i.zero = some z)
    (hzs : (Cells z).length = i.size) (h0 : 0 < i.size) (hg : (Cells z).all grZ = true) (hx : fr.eval x = some (.int q (l' : Int))) (hy : fr.eval y = some (.int q' (c : Int))) (hlc : l' ≤ c) (hb : i.bytes * c ≤ 281474976710656) (h63 : c < UNK)
    (kk : WL P Δ lo fl2 all l ((d, .slice (some ⟨n, 0, none⟩) l' c) :: fr) (n + 1) (H.set n (.row i.size (List.replicate c (Cells z)).flatten)) Q) : WL P Δ lo fl all (o :: l) fr n H Q :=
  WL.step hfl (.stepM (.make ho ht hi hz hzs h0 (fun v hv => grZ_spec (List.all_eq_true.1 hg v hv)) hx hy hlc hb h63)) hd hw kk
theorem WL.build {fl fl2 : List Bool} {lw : Nat} (hfl : IsFl fl lo n lw fl2) {t : TypeId} {ps : Array (Nat × Operand)} {fs : Array Field} {parts : List (Nat × Value)} {places : List (Nat × Nat)} {z : Value} {iz : TypeInfo} {cells : Array Value} (ho : o.op = .build t ps) (hd : o.dst = some d) (hw : wantedA all o fr = some true) (ht : P.underlying t = some (.struct fs))
    (hi : P.info? t = some iz) (hz : iz.zero = some z) (hg : (Cells z).all grZ = true) (hpl : fs.toList.mapM (fun f => (P.info? f.type).map fun i => (f.offset, i.size)) = some places) (hp : ps.toList.mapM (fun p => (fr.eval p.2).map fun v => (p.1, v)) = some parts)
    (hf : Instr.fill (places.toArray[·]?) z.cells parts = some cells) (kk : WL P Δ lo fl2 all l ((d, .agg cells) :: fr) n H Q) : WL P Δ lo fl all (o :: l) fr n H Q :=
  WL.step hfl (.stepM (.build ho ht hi hz (fun v hv => (grZ_spec (List.all_eq_true.1 hg v hv)).1) hp hpl hf)) hd hw kk
theorem WL.buildSlice {fl fl2 : List Bool} {lw : Nat} (hfl : IsFl fl lo n lw fl2) {t el : TypeId} {len : Nat} {ps : Array (Nat × Operand)} {parts : List (Nat × Value)} {z : Value} {i : TypeInfo} {cells : Array Value} (ho : o.op = .buildSlice t len ps) (hd : o.dst = some d) (hw : wantedA all o fr = some true) (ht : P.underlying t = some (.slice el)) (hi : P.info? el = some i) (hz : i.zero = some z)
    (hg : (Cells z).all grZ = true) (hsz : len * i.size ≤ 16777216) (hlen : len < UNK) (hp : ps.toList.mapM (fun p => (fr.eval p.2).map fun v => (p.1, v)) = some parts) (hzc : (Cells z).length = i.size)
    (hf : Instr.fill (fun j => some (j * i.size, i.size)) (madeCells z.cells (len * i.size)) parts = some cells) (h1 : ∀ v ∈ cells.toList, v.oneCell' = true) (hcs : cells.size = len * i.size)
    (kk : WL P Δ lo fl2 all l ((d, .slice (some ⟨n, 0, none⟩) len len) :: fr) (n + 1) (H.set n (.row i.size cells.toList)) Q) : WL P Δ lo fl all (o :: l) fr n H Q :=
  WL.step hfl (.stepM (.buildSlice ho ht hi hz (fun v hv => grZ_spec (List.all_eq_true.1 hg v hv)) hsz hlen hp h1 hzc hf hcs)) hd hw kk
theorem WL.append0 {fl fl2 : List Bool} {lw : Nat} (hfl : IsFl fl lo n lw fl2) {t u el : TypeId} {i : TypeInfo} {x y : Operand} {a : Option Addr} {len cap : Nat} (ho : o.op = .call { callee := .builtin .append, args := #[x, y], argTypes := #[t, u] }) (hd : o.dst = some d) (hw : wantedA all o fr = some true) (ht : P.underlying t = some (.slice el)) (hi : P.info? el = some i)
    (hx : fr.eval x = some (.slice a len cap)) (hsrc : Src P fr.eval H i.size u y 0 []) (kk : WL P Δ lo fl2 all l ((d, .slice a len cap) :: fr) n H Q) : WL P Δ lo fl all (o :: l) fr n H Q :=
  WL.step hfl (.stepM (.append0 ho ht hi hx hsrc)) hd hw kk
theorem WL.appendI {fl fl2 : List Bool} {lw : Nat} (hfl : IsFl fl lo n lw fl2) {t u el : TypeId} {i : TypeInfo} {x y : Operand} {b k len cap m e : Nat} {c news : List Value} (ho : o.op = .call { callee := .builtin .append, args := #[x, y], argTypes := #[t, u] }) (hd : o.dst = some d) (hw : wantedA all o fr = some true) (ht : P.underlying t = some (.slice el)) (hi : P.info? el = some i)
    (hx : fr.eval x = some (.slice (some ⟨b, k, none⟩) len cap)) (hsrc : Src P fr.eval H i.size u y m news) (hb : H b = some (.row e c)) (hlb : len + m ≤ lb len cap) (hfit : k + (len + m) * i.size ≤ c.length) (hlo : lw ≤ b) (hbn : b < n) (h1 : ∀ v ∈ news, v.oneCell' = true) (hm0 : 0 < m) (hcu : UNK ≤ cap → cap < 2 * UNK)
    (kk : WL P Δ lo fl2 all l ((d, .slice (some ⟨b, k, none⟩) (len + m) cap) :: fr) n (H.set b (.row e (splice c (k + len * i.size) news))) Q) : WL P Δ lo fl all (o :: l) fr n H Q :=
  WL.step hfl (.stepM (.appendI ho ht hi hx hsrc hb hlb hfit hlo hbn h1 hm0 hcu)) hd hw kk
theorem WL.appendN {fl fl2 : List Bool} {lw : Nat} (hfl : IsFl fl lo n lw fl2) {t u el : TypeId} {i : TypeInfo} {z : Value} {x y : Operand} {m : Nat} {news : List Value} (ho : o.op = .call { callee := .builtin .append, args := #[x, y], argTypes := #[t, u] }) (hd : o.dst = some d) (hw : wantedA all o fr = some true) (ht : P.underlying t = some (.slice el)) (hi : P.info? el = some i) (hz : i.zero = some z) (hzs : (Cells z).length = i.size)
    (hx : fr.eval x = some (.slice none 0 0)) (hsrc : Src P fr.eval H i.size u y m news) (h1 : ∀ v ∈ news, v.oneCell' = true) (hm0 : 0 < m) (hby : m * i.bytes ≤ 140737488355328) (h63 : m < UNK)
    (kk : WL P Δ lo fl2 all l ((d, .slice (some ⟨n, 0, none⟩) m (UNK + m)) :: fr) (n + 1) (H.set n (.row i.size news)) Q) : WL P Δ lo fl all (o :: l) fr n H Q :=
  WL.step hfl (.stepM (.appendN ho ht hi hz hzs hx hsrc h1 hm0 hby h63)) hd hw kk
theorem WL.appendZ {fl fl2 : List Bool} {lw : Nat} (hfl : IsFl fl lo n lw fl2) {t u el : TypeId} {i : TypeInfo} {z : Value} {x y : Operand} {q qk : IntKind} {m : Nat} (ho : o.op = .call { callee := .builtin .append, args := #[x, y], argTypes := #[t, u] }) (hd : o.dst = some d) (hw : wantedA all o fr = some true) (ht : P.underlying t = some (.slice el)) (hu : P.underlying u = some (.int qk)) (hi : P.info? el = some i) (hz : i.zero = some z) (hzs : (Cells z).length = i.size) (h0 : 0 < i.size)
    (hg : (Cells z).all grZ = true) (hx : fr.eval x = some (.slice none 0 0)) (hy : fr.eval y = some (.int q (m : Int))) (hm0 : 0 < m) (hby : m * i.bytes ≤ 140737488355328) (h63 : m < UNK)
    (kk : WL P Δ lo fl2 all l ((d, .slice (some ⟨n, 0, none⟩) m (UNK + m)) :: fr) (n + 1) (H.set n (.row i.size (List.replicate m (Cells z)).flatten)) Q) : WL P Δ lo fl all (o :: l) fr n H Q :=
  WL.step hfl (.stepM (.appendZ ho ht hu hi hz hzs h0 (fun v hv => grZ_spec (List.all_eq_true.1 hg v hv)) hx hy hm0 hby h63)) hd hw kk
theorem WL.capE {fl fl2 : List Bool} {lw : Nat} (hfl : IsFl fl lo n lw fl2) {t el : TypeId} {x : Operand} {a : Option Addr} {len cap : Nat} (ho : o.op = .call { callee := .builtin .cap, args := #[x], argTypes := #[t] }) (hd : o.dst = some d) (hw : wantedA all o fr = some true) (ht : P.underlying t = some (.slice el)) (hx : fr.eval x = some (.slice a len cap)) (hc : cap < UNK)
    (kk : WL P Δ lo fl2 all l ((d, .int .i64 cap) :: fr) n H Q) : WL P Δ lo fl all (o :: l) fr n H Q :=
  WL.step hfl (.stepM (.capE ho ht hx hc)) hd hw kk
theorem WL.appendG {fl fl2 : List Bool} {lw : Nat} (hfl : IsFl fl lo n lw fl2) {t u el : TypeId} {i : TypeInfo} {z : Value} {x y : Operand} {b k len cap m e : Nat} {c olds news : List Value} (ho : o.op = .call { callee := .builtin .append, args := #[x, y], argTypes := #[t, u] }) (hd : o.dst = some d) (hw : wantedA all o fr = some true) (ht : P.underlying t = some (.slice el)) (hi : P.info? el = some i) (hz : i.zero = some z) (hzs : (Cells z).length = i.size)
    (hx : fr.eval x = some (.slice (some ⟨b, k, none⟩) len cap)) (hsrc : Src P fr.eval H i.size u y m news) (hb : H b = some (.row e c)) (hol : (c.drop k).take (len * i.size) = olds) (holn : olds.length = len * i.size) (hcap : cap < UNK) (hgr : cap < len + m)
    (h1 : ∀ v ∈ olds ++ news, v.oneCell' = true) (hby : (len + m) * i.bytes ≤ 140737488355328) (h63 : len + m < UNK)
    (kk : WL P Δ lo fl2 all l ((d, .slice (some ⟨n, 0, none⟩) (len + m) (UNK + (len + m))) :: fr) (n + 1) (H.set n (.row i.size (olds ++ news))) Q) : WL P Δ lo fl all (o :: l) fr n H Q :=
  WL.step hfl (.stepM (.appendG ho ht hi hz hzs hx hsrc hb hol holn hcap hgr h1 hby h63)) hd hw kk
theorem WL.appendU {fl fl2 : List Bool} {lw : Nat} (hfl : IsFl fl lo n lw fl2) {t u el : TypeId} {i : TypeInfo} {z : Value} {x y : Operand} {b k len cap m e : Nat} {c olds news : List Value} (ho : o.op = .call { callee := .builtin .append, args := #[x, y], argTypes := #[t, u] }) (hd : o.dst = some d) (hw : wantedA all o fr = some true) (ht : P.underlying t = some (.slice el)) (hi : P.info? el = some i) (hz : i.zero = some z) (hzs : (Cells z).length = i.size)
    (hx : fr.eval x = some (.slice (some ⟨b, k, none⟩) len cap)) (hsrc : Src P fr.eval H i.size u y m news) (hb : H b = some (.row e c)) (he : e = i.size) (hol : (c.drop k).take (len * i.size) = olds) (holn : olds.length = len * i.size) (hcap : UNK ≤ cap) (hlo : lw ≤ b) (hbn : b < n) (hm0 : 0 < m)
    (h1 : ∀ v ∈ news, v.oneCell' = true) (hby : (len + m) * i.bytes ≤ 140737488355328) (h63 : len + m < UNK) (hk : k ≤ c.length)
    (kk : WL P Δ lo fl2 all l ((d, .slice (some ⟨n, 0, none⟩) (len + m) (UNK + (len + m))) :: fr) (n + 1) ((H.del b).set n (.row i.size (olds ++ news))) Q) : WL P Δ lo fl all (o :: l) fr n H Q :=
  WL.step hfl (.stepM (.appendU ho ht hi hz hzs hx hsrc hb he hol holn hcap hlo hbn hm0 h1 hby h63 hk)) hd hw kk
theorem WL.toBytes {fl fl2 : List Bool} {lw : Nat} (hfl : IsFl fl lo n lw fl2) {s t el : TypeId} {x : Operand} {y : ByteArray} (ho : o.op = .convert s t x) (hd : o.dst = some d) (hw : wantedA all o fr = some true) (hs : P.underlying s = some .string) (ht : P.underlying t = some (.slice el)) (hel : P.underlying el = some (.int .u8)) (hx : fr.eval x = some (.string y)) (h63 : y.size < UNK)
    (kk : WL P Δ lo fl2 all l ((d, .slice (some ⟨n, 0, none⟩) y.size (UNK + y.size)) :: fr) (n + 1) (H.set n (.row 1 (y.data.toList.map u8))) Q) : WL P Δ lo fl all (o :: l) fr n H Q :=
  WL.step hfl (.stepM (.toBytes ho hs ht hel hx h63)) hd hw kk
theorem WL.toStr {fl fl2 : List Bool} {lw : Nat} (hfl : IsFl fl lo n lw fl2) {s t el : TypeId} {x : Operand} {b k len cap e : Nat} {c : List Value} {bs : List UInt8} (ho : o.op = .convert s t x) (hd : o.dst = some d) (hw : wantedA all o fr = some true) (hs : P.underlying s = some (.slice el)) (ht : P.underlying t = some .string) (hel : P.underlying el = some (.int .u8)) (hx : fr.eval x = some (.slice (some ⟨b, k, none⟩) len cap))
    (hb : H b = some (.row e c)) (hl : (c.drop k).take len = bs.map u8) (hn : bs.length = len) (kk : WL P Δ lo fl2 all l ((d, str bs) :: fr) n H Q) : WL P Δ lo fl all (o :: l) fr n H Q :=
  WL.step hfl (.stepM (.toStr ho hs ht hel hx hb hl hn)) hd hw kk
theorem WL.toStrNil {fl fl2 : List Bool} {lw : Nat} (hfl : IsFl fl lo n lw fl2) {s t el : TypeId} {x : Operand} (ho : o.op = .convert s t x) (hd : o.dst = some d) (hw : wantedA all o fr = some true) (hs : P.underlying s = some (.slice el)) (ht : P.underlying t = some .string) (hel : P.underlying el = some (.int .u8)) (hx : fr.eval x = some (.slice none 0 0))
    (kk : WL P Δ lo fl2 all l ((d, str []) :: fr) n H Q) : WL P Δ lo fl all (o :: l) fr n H Q :=
  WL.step hfl (.stepM (.toStrNil ho hs ht hel hx)) hd hw kk
theorem WL.ground1 {fl fl2 : List Bool} {lw : Nat} (hfl : IsFl fl lo n lw fl2) {x : Operand} {u v : Value} (hd : o.dst = some d) (hw : wantedA all o fr = some true) (hs : ∀ cs b, o.op ≠ .select cs b) (hops : o.op.operands = #[x]) (hx : fr.eval x = some u) (hgu : Gr u) (hgv : Gr v)
    (hr : ∀ (ev : Operand → Value) w, ev x = u → (execOp ev o).run P w = .ok (.value v) w) (kk : WL P Δ lo fl2 all l ((d, v) :: fr) n H Q) : WL P Δ lo fl all (o :: l) fr n H Q := by
  refine WL.step hfl (.step (.ground hs (fun z hz => ?_) hgv (fun w => hr _ w (by rw [hx]; rfl)))) hd hw kk
  rw [hops] at hz
  obtain rfl : z = x := by simpa using hz
  exact ⟨_, hx, hgu⟩
theorem WL.ground2 {fl fl2 : List Bool} {lw : Nat} (hfl : IsFl fl lo n lw fl2) {x y : Operand} {u u' v : Value} (hd : o.dst = some d) (hw : wantedA all o fr = some true) (hs : ∀ cs b, o.op ≠ .select cs b) (hops : o.op.operands = #[x, y]) (hx : fr.eval x = some u) (hy : fr.eval y = some u') (hgu : Gr u) (hgu' : Gr u') (hgv : Gr v)
    (hr : ∀ (ev : Operand → Value) w, ev x = u → ev y = u' → (execOp ev o).run P w = .ok (.value v) w) (kk : WL P Δ lo fl2 all l ((d, v) :: fr) n H Q) : WL P Δ lo fl all (o :: l) fr n H Q := by
  refine WL.step hfl (.step (.ground hs (fun z hz => ?_) hgv (fun w => hr _ w (by rw [hx]; rfl) (by rw [hy]; rfl)))) hd hw kk
  rw [hops] at hz
  have : z = x ∨ z = y := by simpa using hz
  rcases this with rfl | rfl
  · exact ⟨_, hx, hgu⟩
  · exact ⟨_, hy, hgu'⟩
theorem WL.not {fl fl2 : List Bool} {lw : Nat} (hfl : IsFl fl lo n lw fl2) {t : TypeId} {x : Operand} {b : Bool} (ho : o.op = .unOp .not t x) (hd : o.dst = some d) (hw : wantedA all o fr = some true) (hx : fr.eval x = some (.bool b)) (kk : WL P Δ lo fl2 all l ((d, .bool (!b)) :: fr) n H Q) : WL P Δ lo fl all (o :: l) fr n H Q :=
  WL.ground1 hfl hd hw (by rw [ho]; intro _ _ h; cases h) (by rw [ho]; rfl) hx (gr_bool _) (gr_bool _) (fun ev w h => by
    obtain ⟨dst, op, ty, pos, after, guard⟩ := o
    simp only at ho; subst ho
    simp [execOp, Op.unary, h]) kk
theorem WL.neg {fl fl2 : List Bool} {lw : Nat} (hfl : IsFl fl lo n lw fl2) {t : TypeId} {x : Operand} {q : IntKind} {a : Int} (ho : o.op = .unOp .neg t x) (hd : o.dst = some d) (hw : wantedA all o fr = some true) (hx : fr.eval x = some (.int q a)) (kk : WL P Δ lo fl2 all l ((d, .int q (q.wrap (0 - a))) :: fr) n H Q) : WL P Δ lo fl all (o :: l) fr n H Q :=
  WL.ground1 hfl hd hw (by rw [ho]; intro _ _ h; cases h) (by rw [ho]; rfl) hx (gr_int _ _) (gr_int _ _) (fun ev w h => by
    obtain ⟨dst, op, ty, pos, after, guard⟩ := o
    simp only at ho; subst ho
    simp [execOp, Op.unary, Op.intArith, h]) kk
theorem WL.inv {fl fl2 : List Bool} {lw : Nat} (hfl : IsFl fl lo n lw fl2) {t : TypeId} {x : Operand} {q : IntKind} {a : Int} (ho : o.op = .unOp .xor t x) (hd : o.dst = some d) (hw : wantedA all o fr = some true) (hx : fr.eval x = some (.int q a))
    (kk : WL P Δ lo fl2 all l ((d, .int q (q.wrap (BitVec.ofInt q.bits (if q.signed then -1 else q.max) ^^^ BitVec.ofInt q.bits a).toNat)) :: fr) n H Q) : WL P Δ lo fl all (o :: l) fr n H Q :=
  WL.ground1 hfl hd hw (by rw [ho]; intro _ _ h; cases h) (by rw [ho]; rfl) hx (gr_int _ _) (gr_int _ _) (fun ev w h => by
    obtain ⟨dst, op, ty, pos, after, guard⟩ := o
    simp only at ho; subst ho
    simp [execOp, Op.unary, Op.intBits, h]) kk
theorem WL.convI {fl fl2 : List Bool} {lw : Nat} (hfl : IsFl fl lo n lw fl2) {s t : TypeId} {ds : TypeDesc} {x : Operand} {q k : IntKind} {a : Int} (ho : o.op = .convert s t x) (hd : o.dst = some d) (hw : wantedA all o fr = some true) (hs : P.underlying s = some ds) (ht : P.underlying t = some (.int k)) (hx : fr.eval x = some (.int q a)) (kk : WL P Δ lo fl2 all l ((d, .int k (k.wrap a)) :: fr) n H Q) : WL P Δ lo fl all (o :: l) fr n H Q :=
  WL.ground1 hfl hd hw (by rw [ho]; intro _ _ h; cases h) (by rw [ho]; rfl) hx (gr_int _ _) (gr_int _ _) (fun ev w h => by
    obtain ⟨dst, op, ty, pos, after, guard⟩ := o
    simp only at ho; subst ho
    simp [execOp, Go.convert, Conv.intToInt, run_underlying hs, run_underlying ht, h]) kk
theorem WL.lenStr {fl fl2 : List Bool} {lw : Nat} (hfl : IsFl fl lo n lw fl2) {t : TypeId} {x : Operand} {s : ByteArray} (ho : o.op = .call { callee := .builtin .len, args := #[x], argTypes := #[t] }) (hd : o.dst = some d) (hw : wantedA all o fr = some true) (ht : P.underlying t = some .string) (hx : fr.eval x = some (.string s)) (kk : WL P Δ lo fl2 all l ((d, .int .i64 s.size) :: fr) n H Q) : WL P Δ lo fl all (o :: l) fr n H Q :=
  WL.ground1 hfl hd hw (by rw [ho]; intro _ _ h; cases h) (by rw [ho]; rfl) hx (gr_string _) (gr_int _ _) (fun ev w h => by
    obtain ⟨dst, op, ty, pos, after, guard⟩ := o
    simp only at ho; subst ho
    simp [execOp, resolve, invoke, builtin, Builtin.len_, run_underlying ht, goInt, h]) kk
theorem WL.min2 {fl fl2 : List Bool} {lw : Nat} (hfl : IsFl fl lo n lw fl2) {t t' : TypeId} {x y : Operand} {q q' : IntKind} {a b : Int} (ho : o.op = .call { callee := .builtin .min, args := #[x, y], argTypes := #[t, t'] }) (hd : o.dst = some d) (hw : wantedA all o fr = some true) (hx : fr.eval x = some (.int q a)) (hy : fr.eval y = some (.int q' b)) (kk : WL P Δ lo fl2 all l ((d, .int q (if b < a then b else a)) :: fr) n H Q) : WL P Δ lo fl all (o :: l) fr n H Q :=
  WL.ground2 hfl hd hw (by rw [ho]; intro _ _ h; cases h) (by rw [ho]; rfl) hx hy (gr_int _ _) (gr_int _ _) (gr_int _ _) (fun ev w h h' => by
    obtain ⟨dst, op, ty, pos, after, guard⟩ := o
    simp only at ho; subst ho
    simp [execOp, resolve, invoke, builtin, Builtin.min_, Builtin.min2, h, h']) kk
theorem WL.max2 {fl fl2 : List Bool} {lw : Nat} (hfl : IsFl fl lo n lw fl2) {t t' : TypeId} {x y : Operand} {q q' : IntKind} {a b : Int} (ho : o.op = .call { callee := .builtin .max, args := #[x, y], argTypes := #[t, t'] }) (hd : o.dst = some d) (hw : wantedA all o fr = some true) (hx : fr.eval x = some (.int q a)) (hy : fr.eval y = some (.int q' b)) (kk : WL P Δ lo fl2 all l ((d, .int q (if b > a then b else a)) :: fr) n H Q) : WL P Δ lo fl all (o :: l) fr n H Q :=
  WL.ground2 hfl hd hw (by rw [ho]; intro _ _ h; cases h) (by rw [ho]; rfl) hx hy (gr_int _ _) (gr_int _ _) (gr_int _ _) (fun ev w h h' => by
    obtain ⟨dst, op, ty, pos, after, guard⟩ := o
    simp only at ho; subst ho
    simp [execOp, resolve, invoke, builtin, Builtin.max_, Builtin.max2, h, h']) kk
theorem WL.eqBool {fl fl2 : List Bool} {lw : Nat} (hfl : IsFl fl lo n lw fl2) {op : BinOp} {t t' : TypeId} {x y : Operand} {a b : Bool} (ho : o.op = .binOp op t x y t') (hd : o.dst = some d) (hw : wantedA all o fr = some true) (hop : op = .eql ∨ op = .neq) (ht : P.underlying t = some .bool) (hx : fr.eval x = some (.bool a)) (hy : fr.eval y = some (.bool b)) (kk : WL P Δ lo fl2 all l ((d, .bool (if op = .eql then a == b else a != b)) :: fr) n H Q) : WL P Δ lo fl all (o :: l) fr n H Q :=
  WL.ground2 hfl hd hw (by rw [ho]; intro _ _ h; cases h) (by rw [ho]; rfl) hx hy (gr_bool _) (gr_bool _) (gr_bool _) (fun ev w h h' => by
    obtain ⟨dst, op', ty, pos, after, guard⟩ := o
    simp only at ho; subst ho
    rcases hop with rfl | rfl <;> simp [execOp, eqGuard, binOp, h, h', equal_bool ht] <;> cases a <;> cases b <;> rfl) kk
end
end Go.Proofs.YtmodhnkjimpkbaaAb
