import Derived.Test.YtmodhnkjimpkbaaAbRI
set_option linter.all false
namespace Go.Proofs.YtmodhnkjimpkbaaAb
open Go
def u32 (b : UInt32) : Value := .int .u32 b.toNat
instance : Sc UInt32 := ⟨u32, fun _ => rfl, fun _ => gr_int _ _⟩
theorem u32_lt (b : UInt32) : (b.toNat : Int) < 4294967296 := by have := b.toNat_lt; omega
theorem u32_nn (b : UInt32) : 0 ≤ (b.toNat : Int) := by omega
theorem SR.isNone {α : Type} [Rp α] {F : Heap} {a : Option Addr} {m cap : Nat} {xs : List α} (h : SR F (.slice a m cap) xs) (hc : (if BinOp.eql = BinOp.eql then a.isNone else !a.isNone) = true) : xs = [] ∧ a = none ∧ m = 0 ∧ cap = 0 := by
  simp only [if_true] at hc
  obtain ⟨_, cs, h1, _⟩ := h
  rcases h1 with ⟨e, h2, _⟩ | ⟨b, k, cap, c, e, _⟩
  · cases e; exact ⟨List.eq_nil_of_length_eq_zero h2, rfl, rfl, rfl⟩
  · cases e; simp at hc
theorem SR.isNone' {α : Type} [Rp α] {F : Heap} {a : Option Addr} {m cap : Nat} {xs : List α} (h : SR F (.slice a m cap) xs) (hc : (if BinOp.neq = BinOp.eql then a.isNone else !a.isNone) = false) : xs = [] ∧ a = none ∧ m = 0 ∧ cap = 0 := by
  refine h.isNone ?_
  have : ¬ (BinOp.neq = BinOp.eql) := by decide
  rw [if_neg this] at hc
  simpa using hc
def shl64 (a b : Int) : Int := IntKind.wrap .i64 (a * 2 ^ (min b.toNat 64))
def shr64 (a b : Int) : Int := a.fdiv (2 ^ (min b.toNat 64))
section
variable {P : Program} {Δ : Prims} {lo : Nat} {fr : Fr} {n : Nat} {H : Heap} {Q : Post}
section ops
variable {all : Array Oper} {l : List Oper} {o : Oper} {d : Nat} {fl fl2 : List Bool} {lw lo0 : Nat} {F : Heap}
theorem GL.shlI (hfl : IsFl fl lo n lw fl2) {t t' : TypeId} {x y : Operand} {k' : IntKind} {a b : Int} (ho : o.op = .binOp .shl t x y t') (hd : o.dst = some d) (hw : wantedA all o fr = some true) (hx : fr.eval x = some (.int .i64 a)) (hy : fr.eval y = some (.int k' b)) (h0 : 0 ≤ b)
    (kk : WL P Δ lo fl2 all l ((d, .int .i64 (shl64 a b)) :: fr) n H Q) : WL P Δ lo fl all (o :: l) fr n H Q := WL.shlI hfl ho hd hw hx hy h0 kk
theorem GL.shrI (hfl : IsFl fl lo n lw fl2) {t t' : TypeId} {x y : Operand} {k' : IntKind} {a b : Int} (ho : o.op = .binOp .shr t x y t') (hd : o.dst = some d) (hw : wantedA all o fr = some true) (hx : fr.eval x = some (.int .i64 a)) (hy : fr.eval y = some (.int k' b)) (h0 : 0 ≤ b)
    (kk : WL P Δ lo fl2 all l ((d, .int .i64 (shr64 a b)) :: fr) n H Q) : WL P Δ lo fl all (o :: l) fr n H Q := WL.shrI hfl ho hd hw hx hy h0 kk
theorem GL.u32xor (hfl : IsFl fl lo n lw fl2) {t t' : TypeId} {x y : Operand} (a b : UInt32) (ho : o.op = .binOp .xor t x y t') (hd : o.dst = some d) (hw : wantedA all o fr = some true) (hx : fr.eval x = some (u32 a)) (hy : fr.eval y = some (u32 b))
    (kk : WL P Δ lo fl2 all l ((d, u32 (a ^^^ b)) :: fr) n H Q) : WL P Δ lo fl all (o :: l) fr n H Q :=
  WL.xorN hfl ho hd hw hx hy topU32 rfl rfl (u32_nn a) (u32_lt a) (u32_nn b) (u32_lt b) (fun _ => by
    have e : Value.int .u32 (((a.toNat : Int).toNat ^^^ (b.toNat : Int).toNat : Nat) : Int) = u32 (a ^^^ b) := by simp [u32]
    rw [e]; exact kk)
theorem GL.u32and (hfl : IsFl fl lo n lw fl2) {t t' : TypeId} {x y : Operand} (a b : UInt32) (ho : o.op = .binOp .and t x y t') (hd : o.dst = some d) (hw : wantedA all o fr = some true) (hx : fr.eval x = some (u32 a)) (hy : fr.eval y = some (u32 b))
    (kk : WL P Δ lo fl2 all l ((d, u32 (a &&& b)) :: fr) n H Q) : WL P Δ lo fl all (o :: l) fr n H Q :=
  WL.andN hfl ho hd hw hx hy topU32 rfl rfl (u32_nn a) (u32_lt a) (u32_nn b) (u32_lt b) (fun _ => by
    have e : Value.int .u32 (((a.toNat : Int).toNat &&& (b.toNat : Int).toNat : Nat) : Int) = u32 (a &&& b) := by simp [u32]
    rw [e]; exact kk)
theorem u32_div (a : UInt32) (m : Nat) (h : m < 32) : (a >>> (UInt32.ofNat m)).toNat = a.toNat / 2 ^ m := by
  rw [UInt32.toNat_shiftRight, UInt32.toNat_ofNat_of_lt' (by show m < 4294967296; omega), Nat.mod_eq_of_lt h, Nat.shiftRight_eq_div_pow]
theorem GL.u32shr (hfl : IsFl fl lo n lw fl2) {t t' : TypeId} {x y : Operand} {k' : IntKind} (a : UInt32) (m : Nat) (ho : o.op = .binOp .shr t x y t') (hd : o.dst = some d) (hw : wantedA all o fr = some true) (hx : fr.eval x = some (u32 a)) (hy : fr.eval y = some (.int k' (m : Int))) (hm : m < 32)
    (kk : WL P Δ lo fl2 all l ((d, u32 (a >>> (UInt32.ofNat m))) :: fr) n H Q) : WL P Δ lo fl all (o :: l) fr n H Q :=
  WL.shrN hfl ho hd hw hx hy rfl rfl (u32_nn a) (by omega) (by show (m : Int).toNat ≤ 32; omega) (fun _ => by
    have e : Value.int .u32 (((a.toNat : Int).toNat / 2 ^ (m : Int).toNat : Nat) : Int) = u32 (a >>> (UInt32.ofNat m)) := by
      unfold u32; rw [u32_div a m hm]; rfl
    rw [e]; exact kk)
theorem GL.u32not (hfl : IsFl fl lo n lw fl2) {t : TypeId} {x : Operand} (a : UInt32) (ho : o.op = .unOp .xor t x) (hd : o.dst = some d) (hw : wantedA all o fr = some true) (hx : fr.eval x = some (u32 a))
    (kk : WL P Δ lo fl2 all l ((d, u32 (4294967295 ^^^ a)) :: fr) n H Q) : WL P Δ lo fl all (o :: l) fr n H Q :=
  WL.invN hfl ho hd hw hx rfl (u32_nn a) (u32_lt a) (fun _ => by
    have e : Value.int .u32 ((4294967295 ^^^ (a.toNat : Int).toNat : Nat) : Int) = u32 (4294967295 ^^^ a) := by simp [u32]
    rw [e]; exact kk)
theorem GL.u8u32 (hfl : IsFl fl lo n lw fl2) {s t : TypeId} {ds : TypeDesc} {x : Operand} (a : UInt8) (ho : o.op = .convert s t x) (hd : o.dst = some d) (hw : wantedA all o fr = some true) (hs : P.underlying s = some ds) (ht : P.underlying t = some (.int .u32)) (hx : fr.eval x = some (u8 a))
    (kk : WL P Δ lo fl2 all l ((d, u32 a.toUInt32) :: fr) n H Q) : WL P Δ lo fl all (o :: l) fr n H Q :=
  WL.convN hfl ho hd hw hs ht hx topU32 (u8_bnd _).1 (u8_lt32 _) (by
    have e : Value.int .u32 (a.toNat : Int) = u32 a.toUInt32 := by simp [u32]
    rw [e]; exact kk)
theorem GL.sliceNil (hfl : IsFl fl lo n lw fl2) {t el : TypeId} {i : TypeInfo} {x : Operand} {low high : Option Operand} {l' h : Int} (ho : o.op = .slice t x low high none) (hd : o.dst = some d) (hw : wantedA all o fr = some true) (ht : P.underlying t = some (.slice el)) (hi : P.info? el = some i)
    (hx : fr.eval x = some (.slice none 0 0)) (hl : BndI fr.eval low 0 l') (hh : BndI fr.eval high 0 h) (hl0 : l' = 0) (hh0 : h = 0)
    (kk : WL P Δ lo fl2 all l ((d, .slice none 0 0) :: fr) n H Q) : WL P Δ lo fl all (o :: l) fr n H Q := by
  subst hl0; subst hh0
  exact WL.sliceNil hfl ho hd hw ht hi hx (hl.nat (by omega)) (hh.nat (by omega)) kk
theorem GL.sliceO {α : Type} [Rp α] {lo2 : Nat} (hfl : IsFl fl lo n lw fl2) {t el : TypeId} {i : TypeInfo} {x : Operand} {low high : Option Operand} {v : Value} {xs ys : List α} {l' h : Int} (ho : o.op = .slice t x low high none) (hd : o.dst = some d) (hw : wantedA all o fr = some true) (ht : P.underlying t = some (.slice el)) (hi : P.info? el = some i) (hsz : i.size = Rp.sz α)
    (hx : fr.eval x = some v) (hO : OW lo2 n H F v xs) (hl : BndI fr.eval low 0 l') (hh : BndI fr.eval high xs.length h) (hy : slc xs l' h = some ys)
    (kk : ∀ a cap, (∀ b, idOf (.slice a ys.length cap) = some b → idOf v = some b) → OW lo2 n H F (.slice a ys.length cap) ys → WL P Δ lo fl2 all l ((d, .slice a ys.length cap) :: fr) n H Q) : WL P Δ lo fl all (o :: l) fr n H Q := by
  obtain ⟨h0, h1, h2, rfl⟩ := slc_inv hy
  obtain ⟨hlt, hfn, cs, hs, hra⟩ := hO
  have hl' := hl.nat h0
  have hh' := hh.nat (by omega)
  have elen : ((xs.take h.toNat).drop l'.toNat).length = h.toNat - l'.toNat := by simp; omega
  have hra' := (hra.take h.toNat).drop l'.toNat
  rcases hs with ⟨rfl, e1, e2⟩ | ⟨b, k, cap, c, rfl, hb, hc, hcl, g1, g2, g3, g4⟩
  · have e3 : h.toNat = 0 := by omega
    have e4 : l'.toNat = 0 := by omega
    have e5 : ((xs.take h.toNat).drop l'.toNat) = [] := by rw [e3]; simp
    rw [e3, e1] at hh'; rw [e4] at hl'
    refine WL.sliceNil hfl ho hd hw ht hi hx hl' hh' ?_
    have := kk none 0
    rw [e5] at this
    exact this (fun b h => h) OW.nil
  · have hk := kk (some ⟨b, k + l'.toNat * i.size, none⟩) (UNK + (lb xs.length cap - l'.toNat))
    rw [elen] at hk
    have hfit : xs.length * Rp.sz α ≤ c.length - k := by
      have := congrArg List.length hc
      rw [hcl, List.length_take, List.length_drop] at this
      omega
    have hlm : l'.toNat * i.size ≤ xs.length * Rp.sz α := by rw [hsz]; exact Nat.mul_le_mul_right _ (by omega)
    refine WL.slice hfl ho hd hw ht hi hx hb hsz.symm rfl hl' hh' (Nat.le_refl _) (by intro h; cases h) (by omega) (by unfold lb; omega) (hk (fun b' h => by simpa [idOf] using h) ⟨by rw [elen]; omega, fun i hi => hfn i (by simpa [idOf] using hi), _, .inr ⟨b, k + l'.toNat * i.size, UNK + (lb xs.length cap - l'.toNat), c, by rw [elen], hb, ?_, hra'.length, g1, g2, by omega, .inr (by omega)⟩, hra'⟩)
    rw [elen, hsz]
    rcases SL.part (v := .slice none 0 0) (cap := 0) (G := H) hb hc hcl (show l'.toNat ≤ h.toNat by omega) (show h.toNat ≤ xs.length by omega) 0 with ⟨e, _⟩ | ⟨b', k', cap', c', e, e2, e3, e4⟩
    · cases e
    · cases e
      rw [hb] at e2
      cases e2
      exact e3
theorem GL.appendZ {α : Type} [Rp α] (hS : St lo0 n H F) (hfl : IsFl fl lo n lw fl2) {t u el : TypeId} {i : TypeInfo} {z : Value} {x y : Operand} {q qk : IntKind} {m : Int} {z0 : α} (ho : o.op = .call { callee := .builtin .append, args := #[x, y], argTypes := #[t, u] }) (hd : o.dst = some d) (hw : wantedA all o fr = some true) (ht : P.underlying t = some (.slice el)) (hu : P.underlying u = some (.int qk)) (hi : P.info? el = some i) (hz : i.zero = some z) (hzs : (Cells z).length = i.size) (h0 : 0 < i.size)
    (hg : (Cells z).all grZ = true) (hsz : i.size = Rp.sz α) (hby : i.bytes ≤ 2048) (hx : fr.eval x = some (.slice none 0 0)) (hy : fr.eval y = some (.int q m)) (hR : Rp.R F (Cells z) z0) (hm0 : 0 < m) (hm : m ≤ 68719476736)
    (kk : ∀ a cap H', St lo0 (n + 1) H' F → OW n (n + 1) H' F (.slice a (List.replicate m.toNat z0).length cap) (List.replicate m.toNat z0) → (∀ j, j < n → H' j = H j) → WL P Δ lo fl2 all l ((d, .slice a (List.replicate m.toNat z0).length cap) :: fr) (n + 1) H' Q) : WL P Δ lo fl all (o :: l) fr n H Q := by
  have hmn : ((m.toNat : Nat) : Int) = m := Int.toNat_of_nonneg (by omega)
  have hR2 := RA.replicate hR m.toNat
  have := kk (some ⟨n, 0, none⟩) (UNK + m.toNat) (H.set n (.row i.size (List.replicate m.toNat (Cells z)).flatten)) (hS.new _) ⟨by rw [List.length_replicate]; unfold UNK; omega, fun i hi => ?_, _, .inr ⟨n, 0, _, (List.replicate m.toNat (Cells z)).flatten, rfl, by rw [hsz]; exact Heap.set_same _ _ _, ?_, hR2.length, Nat.le_refl _, Nat.lt_succ_self _, Nat.zero_le _, .inr (by omega)⟩, hR2⟩ (fun j hj => Heap.set_ne _ _ (by omega))
  · rw [List.length_replicate] at this
    exact WL.appendZ hfl ho hd hw ht hu hi hz hzs h0 hg hx (by rw [hmn]; exact hy) (by omega) (Nat.le_trans (Nat.mul_le_mul (show m.toNat ≤ 68719476736 by omega) hby) (by decide)) (by unfold UNK; omega) this
  · have hin : n = i := by simpa [idOf] using hi
    subst hin; exact hS.fnone (Nat.le_refl _)
  · rw [List.drop_zero, List.take_of_length_le (Nat.le_of_eq hR2.length)]
theorem GL.appendStr {lo2 : Nat} (hS : St lo0 n H F) (hfl : IsFl fl lo n lw fl2) {t u el : TypeId} {i : TypeInfo} {z : Value} {x y : Operand} {v : Value} {xs ys : List UInt8} {dd : TypeDesc} (ho : o.op = .call { callee := .builtin .append, args := #[x, y], argTypes := #[t, u] }) (hd : o.dst = some d) (hw : wantedA all o fr = some true) (ht : P.underlying t = some (.slice el)) (hu : P.underlying u = some dd) (hdd : isInt dd = false) (hi : P.info? el = some i) (hz : i.zero = some z) (hzs : (Cells z).length = i.size) (hsz : i.size = Rp.sz UInt8) (hby : i.bytes ≤ 2048)
    (hx : fr.eval x = some v) (hy : fr.eval y = some (str ys)) (hO : OW lo2 n H F v xs) (hlo2 : lw ≤ lo2) (hl2 : lo2 ≤ n) (hlen : (xs.length : Int) + ys.length ≤ 68719476736)
    (kk : ∀ a cap n' H', St lo0 n' H' F → n ≤ n' → OW lo2 n' H' F (.slice a (xs ++ ys).length cap) (xs ++ ys) → (∀ j, j < n → idOf v ≠ some j → H' j = H j) → (∀ b, idOf (.slice a (xs ++ ys).length cap) = some b → n ≤ b ∨ idOf v = some b) →
      WL P Δ lo fl2 all l ((d, .slice a (xs ++ ys).length cap) :: fr) n' H' Q) : WL P Δ lo fl all (o :: l) fr n H Q := by
  have hO' := hO
  obtain ⟨hlt, hfn, ocs, hown, hra⟩ := hO
  have el : (xs ++ ys).length = xs.length + ys.length := List.length_append
  have hs1 : i.size = 1 := hsz
  have hsrc' : Src P fr.eval H i.size u y ys.length (ys.map u8) := Src.str (s := ⟨ys.toArray⟩) hu hdd hs1 hy
  have hra2 : RA F (ys.map u8) ys := RA.ofSc F ys
  by_cases hm : ys.length = 0
  · have hn : ys = [] := List.eq_nil_of_length_eq_zero hm
    subst hn
    obtain ⟨a, cap, rfl⟩ := hown.form
    have := kk a cap n H hS (Nat.le_refl _) (by simpa using hO') (fun _ _ _ => rfl) (fun b h => .inr (by simpa [idOf] using h))
    rw [List.append_nil] at this
    exact WL.append0 hfl ho hd hw ht hi hx hsrc' this
  · refine WL.app' hfl ho hd hw ht hi hz hzs hx (by rw [hsz]; exact hown.mono hlo2 (Nat.le_refl _) (fun _ _ _ => rfl)) hsrc' (by omega) hra2.one hra.one ?_ (by unfold UNK; omega) (fun H' e1 e2 e3 e4 => ?_) (by rw [hsz]; exact hra2.length)
    · have h1 : (xs.length + ys.length) ≤ 68719476736 := by omega
      exact Nat.le_trans (Nat.mul_le_mul h1 hby) (by decide)
    · have hS' : St lo0 (n + 1) H' F := ⟨by have := hS.lo; omega, fun i hi => by rw [e3 i (by omega)]; exact hS.hb i (by omega), fun i ob hi => by
        have hin := hS.lt (hS.fh i ob hi)
        rw [e2 i hin (fun e => by rw [hfn i e] at hi; cases hi)]; exact hS.fh i ob hi⟩
      have := kk (some ⟨n, 0, none⟩) (UNK + (xs.length + ys.length)) (n + 1) H' hS' (by omega)
      rw [el] at this
      refine this ⟨by rw [el]; unfold UNK; omega, fun i hi => ?_, _, ?_, hra.append hra2⟩ e2 (fun b hb => .inl ?_)
      · have hin : n = i := by simpa [idOf] using hi
        subst hin; exact hS.fnone (Nat.le_refl _)
      · rw [el, ← hsz]; exact e4 lo2 hl2
      · have hin : n = b := by simpa [idOf] using hb
        omega
end ops
theorem SrcX.up {α : Type} [Rp α] {n' lo0 : Nat} {F H' : Heap} {v : Value} {ys : List α} (hS : St lo0 n H F) (h : SrcX H F v ys) (hk : ∀ i, i < n → H' i = H i) : SrcX H' F v ys := by
  obtain ⟨cs, h1, h2⟩ := h
  refine ⟨cs, ?_, h2⟩
  rcases h1 with h1 | ⟨b, k, cap, c, e1, e2, e3⟩
  · exact .inl h1
  · exact .inr ⟨b, k, cap, c, e1, by rw [hk b (hS.lt e2)]; exact e2, e3⟩
theorem SrcX.isNone {α : Type} [Rp α] {F : Heap} {a : Option Addr} {m cap : Nat} {xs : List α} (h : SrcX H F (.slice a m cap) xs) (hc : (if BinOp.eql = BinOp.eql then a.isNone else !a.isNone) = true) : xs = [] := by
  simp only [if_true] at hc
  obtain ⟨cs, h1, _⟩ := h
  rcases h1 with ⟨e, h2, _⟩ | ⟨b, k, cap, c, e, _⟩
  · exact List.eq_nil_of_length_eq_zero h2
  · cases e; simp at hc
end
end Go.Proofs.YtmodhnkjimpkbaaAb
