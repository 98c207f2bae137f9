import Derived.Test.YtmodhnkjimpkbaaAbWD
set_option linter.all false
namespace Go.Proofs.YtmodhnkjimpkbaaAb
open Go
def topOf : IntKind → Int
  | .u8 => 256 | .u16 => 65536 | .u32 => 4294967296 | .u64 => 18446744073709551616 | .i8 => 128 | .i16 => 32768 | .i32 => 2147483648 | .i64 => 9223372036854775808
theorem wrap_in {k : IntKind} {x : Int} (h0 : 0 ≤ x) (h1 : x < topOf k) : IntKind.wrap k x = x := by
  have p8 : (2 : Int) ^ 8 = 256 := by decide
  have p7 : (2 : Int) ^ (8 - 1) = 128 := by decide
  have p16 : (2 : Int) ^ 16 = 65536 := by decide
  have p15 : (2 : Int) ^ (16 - 1) = 32768 := by decide
  have p32 : (2 : Int) ^ 32 = 4294967296 := by decide
  have p31 : (2 : Int) ^ (32 - 1) = 2147483648 := by decide
  have p64 : (2 : Int) ^ 64 = 18446744073709551616 := by decide
  have p63 : (2 : Int) ^ (64 - 1) = 9223372036854775808 := by decide
  cases k <;> simp only [topOf] at h1 <;> simp only [IntKind.wrap, IntKind.bits, IntKind.signed, Bool.true_and, Bool.false_and, Bool.false_eq_true, if_false, p8, p7, p16, p15, p32, p31, p64, p63, decide_eq_true_eq] <;> first | omega | (split <;> omega)
theorem topOf_le (k : IntKind) : topOf k ≤ 2 ^ k.bits := by cases k <;> simp only [topOf, IntKind.bits] <;> decide
theorem toNat_ofInt {k : IntKind} {x : Int} (h0 : 0 ≤ x) (h1 : x < topOf k) : (BitVec.ofInt k.bits x).toNat = x.toNat := by
  have h2 := topOf_le k
  obtain ⟨m, rfl⟩ := Int.eq_ofNat_of_zero_le h0
  rw [BitVec.ofInt_natCast, BitVec.toNat_ofNat, Int.toNat_natCast]
  apply Nat.mod_eq_of_lt
  have h3 : (m : Int) < ((2 ^ k.bits : Nat) : Int) := by
    have : ((2 ^ k.bits : Nat) : Int) = 2 ^ k.bits := by simp
    omega
  exact_mod_cast h3
theorem topOf_pow (k : IntKind) (h : 0 < topOf k) : ∃ w, topOf k = ((2 ^ w : Nat) : Int) := by
  cases k <;> simp only [topOf] at h ⊢
  case i8 => exact ⟨7, by decide⟩
  case i16 => exact ⟨15, by decide⟩
  case i32 => exact ⟨31, by decide⟩
  case i64 => exact ⟨63, by decide⟩
  case u8 => exact ⟨8, by decide⟩
  case u16 => exact ⟨16, by decide⟩
  case u32 => exact ⟨32, by decide⟩
  case u64 => exact ⟨64, by decide⟩
theorem bits_xor {k : IntKind} {a b : Int} (ha : 0 ≤ a) (ha' : a < topOf k) (hb : 0 ≤ b) (hb' : b < topOf k) : k.wrap ((BitVec.ofInt k.bits a ^^^ BitVec.ofInt k.bits b).toNat : Int) = ((a.toNat ^^^ b.toNat : Nat) : Int) ∧ ((a.toNat ^^^ b.toNat : Nat) : Int) < topOf k := by
  obtain ⟨w, hw⟩ := topOf_pow k (by omega)
  have h : a.toNat ^^^ b.toNat < 2 ^ w := Nat.xor_lt_two_pow (by omega) (by omega)
  have h' : ((a.toNat ^^^ b.toNat : Nat) : Int) < topOf k := by rw [hw]; exact_mod_cast h
  rw [BitVec.toNat_xor, toNat_ofInt ha ha', toNat_ofInt hb hb', wrap_in (by omega) h']
  exact ⟨rfl, h'⟩
theorem bits_and {k : IntKind} {a b : Int} (ha : 0 ≤ a) (ha' : a < topOf k) (hb : 0 ≤ b) (hb' : b < topOf k) : k.wrap ((BitVec.ofInt k.bits a &&& BitVec.ofInt k.bits b).toNat : Int) = ((a.toNat &&& b.toNat : Nat) : Int) ∧ ((a.toNat &&& b.toNat : Nat) : Int) < topOf k := by
  obtain ⟨w, hw⟩ := topOf_pow k (by omega)
  have h : a.toNat &&& b.toNat < 2 ^ w := Nat.and_lt_two_pow _ (by omega)
  have h' : ((a.toNat &&& b.toNat : Nat) : Int) < topOf k := by rw [hw]; exact_mod_cast h
  rw [BitVec.toNat_and, toNat_ofInt ha ha', toNat_ofInt hb hb', wrap_in (by omega) h']
  exact ⟨rfl, h'⟩
theorem bits_or {k : IntKind} {a b : Int} (ha : 0 ≤ a) (ha' : a < topOf k) (hb : 0 ≤ b) (hb' : b < topOf k) : k.wrap ((BitVec.ofInt k.bits a ||| BitVec.ofInt k.bits b).toNat : Int) = ((a.toNat ||| b.toNat : Nat) : Int) ∧ ((a.toNat ||| b.toNat : Nat) : Int) < topOf k := by
  obtain ⟨w, hw⟩ := topOf_pow k (by omega)
  have h : a.toNat ||| b.toNat < 2 ^ w := Nat.or_lt_two_pow (by omega) (by omega)
  have h' : ((a.toNat ||| b.toNat : Nat) : Int) < topOf k := by rw [hw]; exact_mod_cast h
  rw [BitVec.toNat_or, toNat_ofInt ha ha', toNat_ofInt hb hb', wrap_in (by omega) h']
  exact ⟨rfl, h'⟩
section
variable {P : Program} {Δ : Prims} {lo : Nat} {fr : Fr} {n : Nat} {H : Heap} {Q : Post} {all : Array Oper} {l : List Oper} {o : Oper} {d : Nat}
theorem WL.xorN {fl fl2 : List Bool} {lw : Nat} (hfl : IsFl fl lo n lw fl2) {t t' : TypeId} {x y : Operand} {k : IntKind} {a b T : Int} {an bn : Nat} (ho : o.op = .binOp .xor t x y t') (hd : o.dst = some d) (hw : wantedA all o fr = some true) (hx : fr.eval x = some (.int k a)) (hy : fr.eval y = some (.int k b))
    (hT : topOf k = T) (ea : a.toNat = an) (eb : b.toNat = bn) (ha : 0 ≤ a) (ha' : a < T) (hb : 0 ≤ b) (hb' : b < T) (kk : ((an ^^^ bn : Nat) : Int) < T → WL P Δ lo fl2 all l ((d, .int k ((an ^^^ bn : Nat) : Int)) :: fr) n H Q) : WL P Δ lo fl all (o :: l) fr n H Q := by
  subst hT; subst ea; subst eb
  obtain ⟨h1, h2⟩ := bits_xor ha ha' hb hb'
  exact WL.bin hfl ho hd hw hx hy (by simp only [binI, if_true]; rw [h1]) (kk h2)
theorem WL.andN {fl fl2 : List Bool} {lw : Nat} (hfl : IsFl fl lo n lw fl2) {t t' : TypeId} {x y : Operand} {k : IntKind} {a b T : Int} {an bn : Nat} (ho : o.op = .binOp .and t x y t') (hd : o.dst = some d) (hw : wantedA all o fr = some true) (hx : fr.eval x = some (.int k a)) (hy : fr.eval y = some (.int k b))
    (hT : topOf k = T) (ea : a.toNat = an) (eb : b.toNat = bn) (ha : 0 ≤ a) (ha' : a < T) (hb : 0 ≤ b) (hb' : b < T) (kk : ((an &&& bn : Nat) : Int) < T → WL P Δ lo fl2 all l ((d, .int k ((an &&& bn : Nat) : Int)) :: fr) n H Q) : WL P Δ lo fl all (o :: l) fr n H Q := by
  subst hT; subst ea; subst eb
  obtain ⟨h1, h2⟩ := bits_and ha ha' hb hb'
  exact WL.bin hfl ho hd hw hx hy (by simp only [binI, if_true]; rw [h1]) (kk h2)
theorem WL.orN {fl fl2 : List Bool} {lw : Nat} (hfl : IsFl fl lo n lw fl2) {t t' : TypeId} {x y : Operand} {k : IntKind} {a b T : Int} {an bn : Nat} (ho : o.op = .binOp .or t x y t') (hd : o.dst = some d) (hw : wantedA all o fr = some true) (hx : fr.eval x = some (.int k a)) (hy : fr.eval y = some (.int k b))
    (hT : topOf k = T) (ea : a.toNat = an) (eb : b.toNat = bn) (ha : 0 ≤ a) (ha' : a < T) (hb : 0 ≤ b) (hb' : b < T) (kk : ((an ||| bn : Nat) : Int) < T → WL P Δ lo fl2 all l ((d, .int k ((an ||| bn : Nat) : Int)) :: fr) n H Q) : WL P Δ lo fl all (o :: l) fr n H Q := by
  subst hT; subst ea; subst eb
  obtain ⟨h1, h2⟩ := bits_or ha ha' hb hb'
  exact WL.bin hfl ho hd hw hx hy (by simp only [binI, if_true]; rw [h1]) (kk h2)
theorem WL.shrN {fl fl2 : List Bool} {lw : Nat} (hfl : IsFl fl lo n lw fl2) {t t' : TypeId} {x y : Operand} {k k' : IntKind} {a b : Int} {an bn : Nat} (ho : o.op = .binOp .shr t x y t') (hd : o.dst = some d) (hw : wantedA all o fr = some true) (hx : fr.eval x = some (.int k a)) (hy : fr.eval y = some (.int k' b))
    (ea : a.toNat = an) (eb : 2 ^ b.toNat = bn) (ha : 0 ≤ a) (hb : 0 ≤ b) (hb' : b.toNat ≤ k.bits) (kk : ((an / bn : Nat) : Int) ≤ a → WL P Δ lo fl2 all l ((d, .int k ((an / bn : Nat) : Int)) :: fr) n H Q) : WL P Δ lo fl all (o :: l) fr n H Q := by
  subst ea; subst eb
  have e : a.fdiv (2 ^ (min b.toNat k.bits)) = ((a.toNat / 2 ^ b.toNat : Nat) : Int) := by
    rw [Nat.min_eq_left hb']
    obtain ⟨m, rfl⟩ := Int.eq_ofNat_of_zero_le ha
    rw [Int.toNat_natCast, Int.natCast_ediv]
    have e2 : ((2 ^ b.toNat : Nat) : Int) = 2 ^ b.toNat := by simp
    rw [e2, Int.fdiv_eq_ediv_of_nonneg _ (by rw [← e2]; exact Int.natCast_nonneg _)]
  have h : ((a.toNat / 2 ^ b.toNat : Nat) : Int) ≤ a := by
    have : a.toNat / 2 ^ b.toNat ≤ a.toNat := Nat.div_le_self _ _
    omega
  exact WL.shrI hfl ho hd hw hx hy hb (by rw [e]; exact kk h)
theorem WL.invN {fl fl2 : List Bool} {lw : Nat} (hfl : IsFl fl lo n lw fl2) {t : TypeId} {x : Operand} {a : Int} {an : Nat} (ho : o.op = .unOp .xor t x) (hd : o.dst = some d) (hw : wantedA all o fr = some true) (hx : fr.eval x = some (.int .u32 a))
    (ea : a.toNat = an) (ha : 0 ≤ a) (ha' : a < 4294967296) (kk : ((4294967295 ^^^ an : Nat) : Int) < 4294967296 → WL P Δ lo fl2 all l ((d, .int .u32 ((4294967295 ^^^ an : Nat) : Int)) :: fr) n H Q) : WL P Δ lo fl all (o :: l) fr n H Q := by
  subst ea
  obtain ⟨h1, h2⟩ := bits_xor (k := .u32) (a := 4294967295) (b := a) (by decide) (by decide) ha ha'
  refine WL.inv hfl ho hd hw hx ?_
  have e : (if IntKind.u32.signed = true then (-1 : Int) else IntKind.u32.max) = 4294967295 := by decide
  rw [e, h1]
  exact kk h2
theorem WL.convN {fl fl2 : List Bool} {lw : Nat} (hfl : IsFl fl lo n lw fl2) {s t : TypeId} {ds : TypeDesc} {x : Operand} {q k : IntKind} {a T : Int} (ho : o.op = .convert s t x) (hd : o.dst = some d) (hw : wantedA all o fr = some true) (hs : P.underlying s = some ds) (ht : P.underlying t = some (.int k)) (hx : fr.eval x = some (.int q a)) (hT : topOf k = T) (h0 : 0 ≤ a) (h1 : a < T) (kk : WL P Δ lo fl2 all l ((d, .int k a) :: fr) n H Q) : WL P Δ lo fl all (o :: l) fr n H Q :=
  WL.convI hfl ho hd hw hs ht hx (by rw [wrap_in h0 (by rw [hT]; exact h1)]; exact kk)
theorem topU8 : topOf .u8 = 256 := rfl
theorem topU32 : topOf .u32 = 4294967296 := rfl
theorem topU64 : topOf .u64 = 18446744073709551616 := rfl
theorem topI64 : topOf .i64 = 9223372036854775808 := rfl
theorem topI32 : topOf .i32 = 2147483648 := rfl
theorem u8_lt8 (c : UInt8) : (c.toNat : Int) < 256 := by have := c.toNat_lt; omega
theorem u8_lt31 (c : UInt8) : (c.toNat : Int) < 2147483648 := by have := c.toNat_lt; omega
theorem u8_lt32 (c : UInt8) : (c.toNat : Int) < 4294967296 := by have := c.toNat_lt; omega
theorem u8_lt63 (c : UInt8) : (c.toNat : Int) < 9223372036854775808 := by have := c.toNat_lt; omega
theorem u8_lt64 (c : UInt8) : (c.toNat : Int) < 18446744073709551616 := by have := c.toNat_lt; omega
theorem u8_bnd (c : UInt8) : 0 ≤ (c.toNat : Int) ∧ (c.toNat : Int) < 256 := by have := c.toNat_lt; omega
end
end Go.Proofs.YtmodhnkjimpkbaaAb
namespace Go.Proofs.YtmodhnkjimpkbaaAb
open Go
def tagOf : Op → Nat
  | .move _ => 0 | .assign _ => 1 | .pick .. => 2 | .alloc _ => 3 | .box .. => 4 | .build .. => 5 | .buildSlice .. => 6 | .load .. => 7 | .store .. => 8 | .nilCheck _ => 9
  | .convert .. => 10 | .makeInterface .. => 11 | .makeFunc .. => 12 | .makeSlice .. => 13 | .slice .. => 14 | .fieldAddr .. => 15 | .field .. => 16 | .indexAddr .. => 17 | .index .. => 18 | .extract .. => 19
  | .lookup .. => 20 | .mapUpdate .. => 21 | .makeMap .. => 22 | .typeAssert .. => 23 | .panic _ => 24
  | .binOp op .. => (match op with | .add => 100 | .sub => 101 | .mul => 102 | .quo => 103 | .rem => 104 | .and => 105 | .or => 106 | .xor => 107 | .shl => 108 | .shr => 109 | .andNot => 110 | .eql => 111 | .neq => 112 | .lss => 113 | .leq => 114 | .gtr => 115 | .geq => 116)
  | .unOp op .. => (match op with | .neg => 120 | .xor => 121 | .not => 122 | .plus => 123)
  | .call c => (match c.callee with | .value _ => 200 | .builtin b => (match b with | .len => 201 | .append => 202 | .cap => 203 | .copy => 204 | .clear => 205 | .min => 206 | .max => 207 | _ => 208) | _ => 209)
  | _ => 99
theorem WL.tag {P : Program} {Δ : Prims} {lo : Nat} {fr : Fr} {n : Nat} {H : Heap} {Q : Post} {all : Array Oper} {l : List Oper} {o : Oper} {fl : List Bool} (t : Nat) (h : tagOf o.op = t) (k : WL P Δ lo fl all (o :: l) fr n H Q) : WL P Δ lo fl all (o :: l) fr n H Q := k
end Go.Proofs.YtmodhnkjimpkbaaAb
