import Derived.Test.YtmodhnkjimpkbaaAbP2
set_option linter.all false
namespace Go.Proofs.YtmodhnkjimpkbaaAb
open Go
theorem ba_toList_loop (a : ByteArray) : ∀ (m i : Nat) (r : List UInt8), a.size - i = m → ByteArray.toList.loop a i r = r.reverse ++ a.data.toList.drop i := by
  intro m
  induction m with
  | zero =>
    intro i r h
    unfold ByteArray.toList.loop
    rw [if_neg (by omega), List.drop_of_length_le (by rw [Array.length_toList]; show a.size ≤ i; omega), List.append_nil]
  | succ m ih =>
    intro i r h
    have hi : i < a.data.toList.length := by rw [Array.length_toList]; show i < a.size; omega
    unfold ByteArray.toList.loop
    rw [if_pos (by omega), ih (i + 1) _ (by omega), List.drop_eq_getElem_cons hi, List.reverse_cons, List.append_assoc]
    congr 2
    simp [ByteArray.get!, getElem!_pos a.data i (by simpa using hi)]
theorem ba_toList (l : List UInt8) : (⟨l.toArray⟩ : ByteArray).toList = l := by
  unfold ByteArray.toList
  rw [ba_toList_loop _ _ 0 [] rfl]
  simp
theorem ba_size (l : List UInt8) : (⟨l.toArray⟩ : ByteArray).size = l.length := rfl
theorem ba_append (a b : List UInt8) : (⟨a.toArray⟩ : ByteArray) ++ ⟨b.toArray⟩ = ⟨(a ++ b).toArray⟩ := by
  apply ByteArray.ext
  simp
theorem ba_extract (a : List UInt8) (l h : Nat) : (⟨a.toArray⟩ : ByteArray).extract l h = ⟨((a.take h).drop l).toArray⟩ := by
  apply ByteArray.ext
  simp [List.drop_take]
theorem ba_get (a : List UInt8) (i : Nat) : (⟨a.toArray⟩ : ByteArray)[i]? = a[i]? := by
  by_cases h : i < a.length
  · rw [List.getElem?_eq_getElem h, getElem?_pos (⟨a.toArray⟩ : ByteArray) i (by simpa [ba_size] using h)]
    simp [ByteArray.getElem_eq_getElem_data]
  · rw [List.getElem?_eq_none (by omega), getElem?_neg (⟨a.toArray⟩ : ByteArray) i (by simpa [ba_size] using h)]
def ltS (a b : List UInt8) : Bool := Op.bytesLess a b
section
variable {P : Program} {Δ : Prims} {lo : Nat} {fr : Fr} {n : Nat} {H : Heap} {Q : Post}
section ops
variable {all : Array Oper} {l : List Oper} {o : Oper} {d : Nat} {fl fl2 : List Bool} {lw lo0 : Nat} {F : Heap}
theorem GL.strIdx (hfl : IsFl fl lo n lw fl2) {t : TypeId} {x y : Operand} {s : List UInt8} {q : IntKind} {j : Int} {u : UInt8} (ho : o.op = .index t x y) (hd : o.dst = some d) (hw : wantedA all o fr = some true) (ht : P.underlying t = some .string) (hx : fr.eval x = some (str s)) (hy : fr.eval y = some (.int q j)) (hu : idx s j = some u)
    (kk : WL P Δ lo fl2 all l ((d, u8 u) :: fr) n H Q) : WL P Δ lo fl all (o :: l) fr n H Q := by
  obtain ⟨h0, h1, h2, h3⟩ := idx_inv hu
  exact WL.ground2 hfl hd hw (by rw [ho]; intro _ _ h; cases h) (by rw [ho]; rfl) hx hy (gr_str _) (gr_int _ _) (gr_u8 _) (fun ev w h h' => by
    obtain ⟨dst, op, ty, pos, after, guard⟩ := o
    simp only at ho; subst ho
    simp only [execOp, Instr.index, asIntOf, h', Sem.run_bind, Sem.run_pure, run_underlying ht, Result.andThen_ok, h, str]
    rw [if_pos h0, ba_get, List.getElem?_eq_getElem h2, h3]
    rfl) kk
theorem GL.lenStr (hfl : IsFl fl lo n lw fl2) {t : TypeId} {x : Operand} {s : List UInt8} (ho : o.op = .call { callee := .builtin .len, args := #[x], argTypes := #[t] }) (hd : o.dst = some d) (hw : wantedA all o fr = some true) (ht : P.underlying t = some .string) (hx : fr.eval x = some (str s)) (kk : WL P Δ lo fl2 all l ((d, .int .i64 s.length) :: fr) n H Q) : WL P Δ lo fl all (o :: l) fr n H Q :=
  WL.lenStr hfl ho hd hw ht hx kk
theorem bndI_run {ev : Operand → Option Value} {evc : Operand → Value} {o : Option Operand} {dd r : Int} (h : BndI ev o dd r) (he : ∀ y v, o = some y → ev y = some v → evc y = v) : (o.map evc = none ∧ r = dd) ∨ ∃ q, o.map evc = some (.int q r) := by
  cases o with
  | none => exact .inl ⟨rfl, h⟩
  | some y => obtain ⟨q, hq⟩ := h; exact .inr ⟨q, by simp only [Option.map_some]; rw [he y _ rfl hq]⟩
theorem GL.strSlice (hfl : IsFl fl lo n lw fl2) {t : TypeId} {x : Operand} {low high : Option Operand} {s ys : List UInt8} {l' h : Int} (ho : o.op = .slice t x low high none) (hd : o.dst = some d) (hw : wantedA all o fr = some true) (ht : P.underlying t = some .string)
    (hx : fr.eval x = some (str s)) (hl : BndI fr.eval low 0 l') (hh : BndI fr.eval high s.length h) (hy : slc s l' h = some ys)
    (kk : WL P Δ lo fl2 all l ((d, str ys) :: fr) n H Q) : WL P Δ lo fl all (o :: l) fr n H Q := by
  obtain ⟨h0, h1, h2, rfl⟩ := slc_inv hy
  refine WL.step hfl (.step (.ground (by rw [ho]; intro _ _ h; cases h) (fun z hz => ?_) (gr_str _) (fun w => ?_))) hd hw kk
  · rw [ho] at hz
    simp only [Op.operands, Array.mem_append] at hz
    rcases hz with ((hz | hz) | hz) | hz
    · obtain rfl : z = x := by simpa using hz
      exact ⟨_, hx, gr_str _⟩
    · cases low with
      | none => simp at hz
      | some y => obtain rfl : z = y := by simpa using hz
                  obtain ⟨q, hq⟩ := hl; exact ⟨_, hq, gr_int _ _⟩
    · cases high with
      | none => simp at hz
      | some y => obtain rfl : z = y := by simpa using hz
                  obtain ⟨q, hq⟩ := hh; exact ⟨_, hq, gr_int _ _⟩
    · simp at hz
  · obtain ⟨dst, op, ty, pos, after, guard⟩ := o
    simp only at ho; subst ho
    have e1 := bndI_run (evc := fun x => (fr.eval x).getD undef) hl (fun y v _ e => by simp [e])
    have e2 := bndI_run (evc := fun x => (fr.eval x).getD undef) hh (fun y v _ e => by simp [e])
    have hb : (Instr.sliceBounds false s.length s.length (low.map fun x => (fr.eval x).getD undef) (high.map fun x => (fr.eval x).getD undef) none).run P w = .ok (l'.toNat, h.toNat, s.length) w := by
      refine run_sliceBounds false s.length s.length l'.toNat h.toNat s.length _ _ none (.inl ⟨rfl, rfl⟩) (Nat.le_refl _) ?_ ?_ (by omega) (by omega) (by simp) w
      · rcases e2 with ⟨a, b⟩ | ⟨q, a⟩
        · exact .inl ⟨a, by omega⟩
        · exact .inr ⟨q, by rw [a, Int.toNat_of_nonneg (by omega)]⟩
      · rcases e1 with ⟨a, b⟩ | ⟨q, a⟩
        · exact .inl ⟨a, by omega⟩
        · exact .inr ⟨q, by rw [a, Int.toNat_of_nonneg (by omega)]⟩
    simp [execOp, Instr.sliceAt, Instr.slice, run_underlying ht, hx, str, ba_size, hb, ba_extract]
theorem GL.strAdd (hfl : IsFl fl lo n lw fl2) {t t' : TypeId} {x y : Operand} {a b : List UInt8} (ho : o.op = .binOp .add t x y t') (hd : o.dst = some d) (hw : wantedA all o fr = some true) (hx : fr.eval x = some (str a)) (hy : fr.eval y = some (str b)) (hlen : (a.length : Int) + b.length ≤ 68719476736)
    (kk : WL P Δ lo fl2 all l ((d, str (a ++ b)) :: fr) n H Q) : WL P Δ lo fl all (o :: l) fr n H Q :=
  WL.ground2 hfl hd hw (by rw [ho]; intro _ _ h; cases h) (by rw [ho]; rfl) hx hy (gr_str _) (gr_str _) (gr_str _) (fun ev w h h' => by
    obtain ⟨dst, op, ty, pos, after, guard⟩ := o
    simp only at ho; subst ho
    have : ¬ (IntKind.i64.max < ((a.length : Int) + b.length)) := by
      have : IntKind.i64.max = 9223372036854775807 := by decide
      omega
    simp [execOp, eqGuard, binOp, Op.stringOp, h, h', str, ba_size, ba_append, this]
    omega) kk
def cmpS (op : BinOp) (a b : List UInt8) : Bool :=
  match op with
  | .eql => decide (a = b)
  | .neq => !decide (a = b)
  | .lss => ltS a b
  | .leq => ltS a b || decide (a = b)
  | .gtr => !(ltS a b || decide (a = b))
  | .geq => !ltS a b
  | _ => false
theorem GL.strCmp (hfl : IsFl fl lo n lw fl2) {op : BinOp} {t t' : TypeId} {x y : Operand} {a b : List UInt8} {r : Bool} (ho : o.op = .binOp op t x y t') (hd : o.dst = some d) (hw : wantedA all o fr = some true) (hx : fr.eval x = some (str a)) (hy : fr.eval y = some (str b)) (hop : op = .eql ∨ op = .neq ∨ op = .lss ∨ op = .leq ∨ op = .gtr ∨ op = .geq) (hr : cmpS op a b = r)
    (kk : WL P Δ lo fl2 all l ((d, .bool r) :: fr) n H Q) : WL P Δ lo fl all (o :: l) fr n H Q := by
  subst hr
  have hbeq : ∀ (p q : List UInt8), (p == q) = decide (p = q) := fun p q => by by_cases h : p = q <;> simp [h]
  exact WL.ground2 hfl hd hw (by rw [ho]; intro _ _ h; cases h) (by rw [ho]; rfl) hx hy (gr_str _) (gr_str _) (gr_bool _) (fun ev w h h' => by
    obtain ⟨dst, op', ty, pos, after, guard⟩ := o
    simp only at ho; subst ho
    rcases hop with rfl | rfl | rfl | rfl | rfl | rfl <;> simp [execOp, eqGuard, binOp, Op.stringOp, h, h', str, ba_toList, cmpS, ltS, hbeq] <;> rfl) kk
theorem GL.toBytes (hS : St lo0 n H F) (hfl : IsFl fl lo n lw fl2) {s t el : TypeId} {x : Operand} {y : List UInt8} (ho : o.op = .convert s t x) (hd : o.dst = some d) (hw : wantedA all o fr = some true) (hs : P.underlying s = some .string) (ht : P.underlying t = some (.slice el)) (hel : P.underlying el = some (.int .u8)) (hx : fr.eval x = some (str y)) (h63 : (y.length : Int) ≤ 68719476736)
    (kk : ∀ a cap H', St lo0 (n + 1) H' F → OW n (n + 1) H' F (.slice a y.length cap) y → (∀ j, j < n → H' j = H j) → WL P Δ lo fl2 all l ((d, .slice a y.length cap) :: fr) (n + 1) H' Q) : WL P Δ lo fl all (o :: l) fr n H Q := by
  refine WL.toBytes hfl ho hd hw hs ht hel hx (by rw [ba_size]; unfold UNK; omega) ?_
  refine kk _ _ _ (hS.new _) ⟨by unfold UNK; omega, fun i hi => ?_, y.map u8, .inr ⟨n, 0, _, y.map u8, rfl, ?_, ?_, by simp [Rp.sz], Nat.le_refl _, Nat.lt_succ_self _, Nat.zero_le _, .inr (by simp [ba_size])⟩, RA.ofSc F y⟩ (fun j hj => Heap.set_ne _ _ (by omega))
  · have hin : n = i := by simpa [idOf] using hi
    subst hin; exact hS.fnone (Nat.le_refl _)
  · rw [Heap.set_same]; rfl
  · rw [List.drop_zero, List.take_of_length_le (by simp [Rp.sz])]
theorem GL.toStr {G : Heap} (hfl : IsFl fl lo n lw fl2) {s t el : TypeId} {x : Operand} {v : Value} {y : List UInt8} (ho : o.op = .convert s t x) (hd : o.dst = some d) (hw : wantedA all o fr = some true) (hs : P.underlying s = some (.slice el)) (ht : P.underlying t = some .string) (hel : P.underlying el = some (.int .u8)) (hx : fr.eval x = some v) (hR : SR G v y) (hG : G.Le H)
    (kk : WL P Δ lo fl2 all l ((d, str y) :: fr) n H Q) : WL P Δ lo fl all (o :: l) fr n H Q := by
  obtain ⟨_, cs, h1, h2⟩ := hR
  have hcs : cs = y.map u8 := h2.sc
  subst hcs
  rcases h1 with ⟨rfl, e, _⟩ | ⟨b, k, cap, c, rfl, hb, hc, hcl⟩
  · have e2 : y = [] := List.eq_nil_of_length_eq_zero e
    subst e2
    exact WL.toStrNil hfl ho hd hw hs ht hel hx kk
  · refine WL.toStr hfl ho hd hw hs ht hel hx (hG _ _ hb) ?_ rfl kk
    simpa [Rp.sz] using hc
theorem GL.u8arith (hfl : IsFl fl lo n lw fl2) {op : BinOp} {t t' : TypeId} {x y : Operand} {a b : Int} (ho : o.op = .binOp op t x y t') (hd : o.dst = some d) (hw : wantedA all o fr = some true) (hx : fr.eval x = some (.int .u8 a)) (hy : fr.eval y = some (.int .u8 b)) (c : Int) (hop : (op = .add ∧ c = a + b) ∨ (op = .sub ∧ c = a - b) ∨ (op = .mul ∧ c = a * b))
    (kk : WL P Δ lo fl2 all l ((d, u8 (byteOf c)) :: fr) n H Q) : WL P Δ lo fl all (o :: l) fr n H Q := by
  rcases hop with ⟨rfl, rfl⟩ | ⟨rfl, rfl⟩ | ⟨rfl, rfl⟩ <;> exact WL.bin hfl ho hd hw hx hy (by simp only [binI, if_true]; rw [u8_byteOf]) kk
theorem u8_and (a b : UInt8) : Value.int .u8 (((a.toNat &&& b.toNat : Nat) : Int)) = u8 (a &&& b) := by simp [u8]
theorem u8_or (a b : UInt8) : Value.int .u8 (((a.toNat ||| b.toNat : Nat) : Int)) = u8 (a ||| b) := by simp [u8]
theorem GL.u8and (hfl : IsFl fl lo n lw fl2) {t t' : TypeId} {x y : Operand} (a b : UInt8) (ho : o.op = .binOp .and t x y t') (hd : o.dst = some d) (hw : wantedA all o fr = some true) (hx : fr.eval x = some (u8 a)) (hy : fr.eval y = some (u8 b))
    (kk : WL P Δ lo fl2 all l ((d, u8 (a &&& b)) :: fr) n H Q) : WL P Δ lo fl all (o :: l) fr n H Q :=
  WL.andN hfl ho hd hw hx hy rfl rfl rfl (u8_bnd a).1 (u8_lt8 a) (u8_bnd b).1 (u8_lt8 b) (fun _ => by rw [show ((a.toNat : Int).toNat) = a.toNat from rfl, show ((b.toNat : Int).toNat) = b.toNat from rfl, u8_and]; exact kk)
theorem GL.u8or (hfl : IsFl fl lo n lw fl2) {t t' : TypeId} {x y : Operand} (a b : UInt8) (ho : o.op = .binOp .or t x y t') (hd : o.dst = some d) (hw : wantedA all o fr = some true) (hx : fr.eval x = some (u8 a)) (hy : fr.eval y = some (u8 b))
    (kk : WL P Δ lo fl2 all l ((d, u8 (a ||| b)) :: fr) n H Q) : WL P Δ lo fl all (o :: l) fr n H Q :=
  WL.orN hfl ho hd hw hx hy rfl rfl rfl (u8_bnd a).1 (u8_lt8 a) (u8_bnd b).1 (u8_lt8 b) (fun _ => by rw [show ((a.toNat : Int).toNat) = a.toNat from rfl, show ((b.toNat : Int).toNat) = b.toNat from rfl, u8_or]; exact kk)
end ops
end
end Go.Proofs.YtmodhnkjimpkbaaAb
