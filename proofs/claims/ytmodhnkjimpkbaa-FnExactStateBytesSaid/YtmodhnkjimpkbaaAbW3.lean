import Derived.Test.YtmodhnkjimpkbaaAbW2
set_option linter.all false
namespace Go.Proofs.YtmodhnkjimpkbaaAb
open Go
theorem wrap_i64 {x : Int} (h : -9223372036854775808 ≤ x ∧ x < 9223372036854775808) : IntKind.wrap .i64 x = x := by
  have e : (2 : Int) ^ 64 = 18446744073709551616 := by decide
  have e2 : (2 : Int) ^ (64 - 1) = 9223372036854775808 := by decide
  simp only [IntKind.wrap, IntKind.bits, IntKind.signed, Bool.true_and, e, e2, decide_eq_true_eq]
  split <;> omega
theorem wrap_u8 {x : Int} (h : 0 ≤ x ∧ x < 256) : IntKind.wrap .u8 x = x := by
  have e : (2 : Int) ^ 8 = 256 := by decide
  simp only [IntKind.wrap, IntKind.bits, IntKind.signed, Bool.false_and, e, Bool.false_eq_true, if_false]
  omega
theorem wrap_u8_mod (x : Int) : IntKind.wrap .u8 x = x % 256 := by
  simp [IntKind.wrap, IntKind.bits, IntKind.signed]
section
variable {P : Program} {Δ : Prims} {lo : Nat} {fr : Fr} {n : Nat} {H : Heap} {Q : Post}
theorem W.condT {c : Operand} {a b : Code} (hc : fr.eval c = some (.bool true)) (h : W P Δ lo a fr n H Q) : W P Δ lo (.cond c a b) fr n H Q := W.cond hc (fun _ => h) (fun h => by cases h)
theorem W.condF {c : Operand} {a b : Code} (hc : fr.eval c = some (.bool false)) (h : W P Δ lo b fr n H Q) : W P Δ lo (.cond c a b) fr n H Q := W.cond hc (fun h => by cases h) (fun _ => h)
theorem W.condD {c : Operand} {a b : Code} {p : Prop} [Decidable p] (hc : fr.eval c = some (.bool (decide p))) (ha : p → W P Δ lo a fr n H Q) (hb : ¬ p → W P Δ lo b fr n H Q) : W P Δ lo (.cond c a b) fr n H Q :=
  W.cond hc (fun h => ha (of_decide_eq_true h)) (fun h => hb (of_decide_eq_false h))
theorem W.condN {c : Operand} {a b : Code} {p : Prop} [Decidable p] (hc : fr.eval c = some (.bool (!decide p))) (ha : ¬ p → W P Δ lo a fr n H Q) (hb : p → W P Δ lo b fr n H Q) : W P Δ lo (.cond c a b) fr n H Q :=
  W.cond hc (fun h => ha (by simpa using h)) (fun h => hb (by simpa using h))
section ops
variable {all : Array Oper} {l : List Oper} {o : Oper} {d : Nat}
theorem WL.guardD {fl : List Bool} {j : Nat} {p : Prop} [Decidable p] {want : Bool} {t : Nat} (hg : o.guard = some (j, want)) (hj : (all[j]?).bind (·.dst) = some t) (hv : fr.get t = some (.bool (decide p)))
    (h1 : p → WL P Δ lo fl all (o :: l) ((t, .bool true) :: fr) n H Q) (h0 : ¬ p → WL P Δ lo fl all (o :: l) ((t, .bool false) :: fr) n H Q) : WL P Δ lo fl all (o :: l) fr n H Q :=
  WL.guard hg hj hv (fun h => h1 (of_decide_eq_true h)) (fun h => h0 (of_decide_eq_false h))
theorem WL.guardN {fl : List Bool} {j : Nat} {p : Prop} [Decidable p] {want : Bool} {t : Nat} (hg : o.guard = some (j, want)) (hj : (all[j]?).bind (·.dst) = some t) (hv : fr.get t = some (.bool (!decide p)))
    (h1 : ¬ p → WL P Δ lo fl all (o :: l) ((t, .bool true) :: fr) n H Q) (h0 : p → WL P Δ lo fl all (o :: l) ((t, .bool false) :: fr) n H Q) : WL P Δ lo fl all (o :: l) fr n H Q :=
  WL.guard hg hj hv (fun h => h1 (by simpa using h)) (fun h => h0 (by simpa using h))
theorem WL.addI {fl fl2 : List Bool} {lw : Nat} (hfl : IsFl fl lo n lw fl2) {t t' : TypeId} {x y : Operand} {a b : Int} (ho : o.op = .binOp .add t x y t') (hd : o.dst = some d) (hw : wantedA all o fr = some true) (hx : fr.eval x = some (.int .i64 a)) (hy : fr.eval y = some (.int .i64 b))
    (h1 : -9223372036854775808 ≤ a + b) (h2 : a + b < 9223372036854775808) (kk : WL P Δ lo fl2 all l ((d, .int .i64 (a + b)) :: fr) n H Q) : WL P Δ lo fl all (o :: l) fr n H Q :=
  WL.bin hfl ho hd hw hx hy (by simp only [binI, if_true]; rw [wrap_i64 ⟨h1, h2⟩]) kk
theorem WL.subI {fl fl2 : List Bool} {lw : Nat} (hfl : IsFl fl lo n lw fl2) {t t' : TypeId} {x y : Operand} {a b : Int} (ho : o.op = .binOp .sub t x y t') (hd : o.dst = some d) (hw : wantedA all o fr = some true) (hx : fr.eval x = some (.int .i64 a)) (hy : fr.eval y = some (.int .i64 b))
    (h1 : -9223372036854775808 ≤ a - b) (h2 : a - b < 9223372036854775808) (kk : WL P Δ lo fl2 all l ((d, .int .i64 (a - b)) :: fr) n H Q) : WL P Δ lo fl all (o :: l) fr n H Q :=
  WL.bin hfl ho hd hw hx hy (by simp only [binI, if_true]; rw [wrap_i64 ⟨h1, h2⟩]) kk
theorem WL.mulI {fl fl2 : List Bool} {lw : Nat} (hfl : IsFl fl lo n lw fl2) {t t' : TypeId} {x y : Operand} {a b : Int} (ho : o.op = .binOp .mul t x y t') (hd : o.dst = some d) (hw : wantedA all o fr = some true) (hx : fr.eval x = some (.int .i64 a)) (hy : fr.eval y = some (.int .i64 b))
    (h1 : -9223372036854775808 ≤ a * b) (h2 : a * b < 9223372036854775808) (kk : WL P Δ lo fl2 all l ((d, .int .i64 (a * b)) :: fr) n H Q) : WL P Δ lo fl all (o :: l) fr n H Q :=
  WL.bin hfl ho hd hw hx hy (by simp only [binI, if_true]; rw [wrap_i64 ⟨h1, h2⟩]) kk
theorem WL.quoI {fl fl2 : List Bool} {lw : Nat} (hfl : IsFl fl lo n lw fl2) {t t' : TypeId} {x y : Operand} {a b : Int} (ho : o.op = .binOp .quo t x y t') (hd : o.dst = some d) (hw : wantedA all o fr = some true) (hx : fr.eval x = some (.int .i64 a)) (hy : fr.eval y = some (.int .i64 b))
    (h1 : 0 ≤ a) (h2 : a < 9223372036854775808) (h3 : 0 < b) (kk : WL P Δ lo fl2 all l ((d, .int .i64 (a / b)) :: fr) n H Q) : WL P Δ lo fl all (o :: l) fr n H Q := by
  refine WL.bin hfl (v := .int .i64 (a / b)) ho hd hw hx hy ?_ kk
  have e : a.tdiv b = a / b := Int.tdiv_eq_ediv_of_nonneg h1
  have h4 : a / b ≤ a := Int.ediv_le_self _ h1
  have h5 : 0 ≤ a / b := Int.ediv_nonneg h1 (by omega)
  simp only [binI, if_true]
  rw [if_neg (by omega), e, wrap_i64 ⟨by omega, by omega⟩]
theorem WL.remI {fl fl2 : List Bool} {lw : Nat} (hfl : IsFl fl lo n lw fl2) {t t' : TypeId} {x y : Operand} {a b : Int} (ho : o.op = .binOp .rem t x y t') (hd : o.dst = some d) (hw : wantedA all o fr = some true) (hx : fr.eval x = some (.int .i64 a)) (hy : fr.eval y = some (.int .i64 b))
    (h1 : 0 ≤ a) (h3 : 0 < b) (kk : WL P Δ lo fl2 all l ((d, .int .i64 (a % b)) :: fr) n H Q) : WL P Δ lo fl all (o :: l) fr n H Q := by
  refine WL.bin hfl (v := .int .i64 (a % b)) ho hd hw hx hy ?_ kk
  have e : a.tmod b = a % b := Int.tmod_eq_emod_of_nonneg h1
  simp only [binI, if_true]
  rw [if_neg (by omega), e]
theorem WL.shlI {fl fl2 : List Bool} {lw : Nat} (hfl : IsFl fl lo n lw fl2) {t t' : TypeId} {x y : Operand} {k k' : IntKind} {a b : Int} (ho : o.op = .binOp .shl t x y t') (hd : o.dst = some d) (hw : wantedA all o fr = some true) (hx : fr.eval x = some (.int k a)) (hy : fr.eval y = some (.int k' b))
    (h0 : 0 ≤ b) (kk : WL P Δ lo fl2 all l ((d, .int k (k.wrap (a * 2 ^ (min b.toNat k.bits)))) :: fr) n H Q) : WL P Δ lo fl all (o :: l) fr n H Q :=
  WL.bin hfl ho hd hw hx hy (by simp only [binI]; rw [if_neg (by omega)]) kk
theorem WL.shrI {fl fl2 : List Bool} {lw : Nat} (hfl : IsFl fl lo n lw fl2) {t t' : TypeId} {x y : Operand} {k k' : IntKind} {a b : Int} (ho : o.op = .binOp .shr t x y t') (hd : o.dst = some d) (hw : wantedA all o fr = some true) (hx : fr.eval x = some (.int k a)) (hy : fr.eval y = some (.int k' b))
    (h0 : 0 ≤ b) (kk : WL P Δ lo fl2 all l ((d, .int k (a.fdiv (2 ^ (min b.toNat k.bits)))) :: fr) n H Q) : WL P Δ lo fl all (o :: l) fr n H Q :=
  WL.bin hfl ho hd hw hx hy (by simp only [binI]; rw [if_neg (by omega)]) kk
def OwnS (lo n : Nat) (H : Heap) (sz : Nat) (v : Value) (len : Nat) (cs : List Value) : Prop :=
  (v = .slice none 0 0 ∧ len = 0 ∧ cs = []) ∨
  ∃ b k cap c, v = .slice (some ⟨b, k, none⟩) len cap ∧ H b = some (.row sz c) ∧ (c.drop k).take (len * sz) = cs ∧ cs.length = len * sz ∧ lo ≤ b ∧ b < n ∧ k ≤ c.length ∧ (cap = len ∧ cap < UNK ∨ UNK ≤ cap)
def idOf : Value → Option Nat
  | .slice (some a) _ _ => some a.block
  | .pointer (some a) => some a.block
  | .map (some r) => some r
  | _ => none
theorem WL.app {fl fl2 : List Bool} {lw : Nat} (hfl : IsFl fl lo n lw fl2) {t u el : TypeId} {i : TypeInfo} {z : Value} {x y : Operand} {v : Value} {len m : Nat} {olds news : List Value} (ho : o.op = .call { callee := .builtin .append, args := #[x, y], argTypes := #[t, u] }) (hd : o.dst = some d) (hw : wantedA all o fr = some true) (ht : P.underlying t = some (.slice el)) (hi : P.info? el = some i) (hz : i.zero = some z) (hzs : (Cells z).length = i.size)
    (hx : fr.eval x = some v) (hown : OwnS lw n H i.size v len olds) (hsrc : Src P fr.eval H i.size u y m news) (hm0 : 0 < m) (h1 : ∀ v ∈ news, v.oneCell' = true) (h0 : ∀ v ∈ olds, v.oneCell' = true) (hby : (len + m) * i.bytes ≤ 140737488355328) (h63 : len + m < UNK)
    (kk : ∀ H', H' n = some (.row i.size (olds ++ news)) → (∀ j, j < n → idOf v ≠ some j → H' j = H j) → (∀ lo', lo' ≤ n → OwnS lo' (n + 1) H' i.size (.slice (some ⟨n, 0, none⟩) (len + m) (UNK + (len + m))) (len + m) (olds ++ news)) →
      WL P Δ lo fl2 all l ((d, .slice (some ⟨n, 0, none⟩) (len + m) (UNK + (len + m))) :: fr) (n + 1) H' Q) (hnl : news.length = m * i.size) : WL P Δ lo fl all (o :: l) fr n H Q := by
  have hin : ∀ (H' : Heap) (cs : List Value), H' n = some (.row i.size cs) → cs.length = (len + m) * i.size → ∀ lo', lo' ≤ n → OwnS lo' (n + 1) H' i.size (.slice (some ⟨n, 0, none⟩) (len + m) (UNK + (len + m))) (len + m) cs := fun H' cs h hl lo' hlo =>
    .inr ⟨n, 0, _, cs, rfl, h, by rw [List.drop_zero, List.take_of_length_le (by omega)], hl, hlo, Nat.lt_succ_self _, Nat.zero_le _, .inr (by omega)⟩
  rcases hown with ⟨rfl, rfl, rfl⟩ | ⟨b, k, cap, c, rfl, hb, hc, hcl, hlb, hbn, hk, hcap⟩
  · refine WL.appendN hfl ho hd hw ht hi hz hzs hx hsrc h1 hm0 (by simpa using hby) (by omega) ?_
    have := kk (H.set n (.row i.size news)) (by rw [Heap.set_same]; rfl) (fun j hj _ => Heap.set_ne _ _ (by omega)) (hin _ _ (by rw [Heap.set_same]; rfl) (by simpa using hnl))
    simpa using this
  · have hl2 : (olds ++ news).length = (len + m) * i.size := by rw [List.length_append, hcl, hnl, Nat.add_mul]
    rcases hcap with ⟨rfl, hcu⟩ | hcu
    · refine WL.appendG hfl ho hd hw ht hi hz hzs hx hsrc hb hc hcl hcu (by omega) (fun v hv => (List.mem_append.1 hv).elim (h0 v) (h1 v)) hby h63 ?_
      exact kk _ (Heap.set_same _ _ _) (fun j hj _ => Heap.set_ne _ _ (by omega)) (hin _ _ (Heap.set_same _ _ _) hl2)
    · refine WL.appendU hfl ho hd hw ht hi hz hzs hx hsrc hb rfl hc hcl hcu hlb hbn hm0 h1 hby h63 hk ?_
      refine kk _ (Heap.set_same _ _ _) (fun j hj hne => ?_) (hin _ _ (Heap.set_same _ _ _) hl2)
      rw [Heap.set_ne _ _ (by omega), Heap.del_ne _ (fun e => hne (by simp [idOf, e]))]
end ops
end
end Go.Proofs.YtmodhnkjimpkbaaAb
