import Derived.Test.YtmodhnkjimpkbaaAbFr
set_option linter.all false
namespace Go.Proofs.YtmodhnkjimpkbaaAb
open Go
structure Env (P : Program) (Δ : Prims) : Prop where
  good : Good P Δ
  framed : Framed Δ
theorem setI_length {α : Type} (xs : List α) (j : Int) (y : α) : (setI xs j y).length = xs.length := by simp [setI]
theorem win_fit {c ecs : List Value} {k s : Nat} (h : (c.drop k).take s = ecs) {m : Nat} (h0 : 0 < s) (hl : ecs.length = s) (hm : m ≤ s) : k + m ≤ c.length := by
  have : ((c.drop k).take s).length = s := by rw [h]; exact hl
  rw [List.length_take, List.length_drop] at this
  omega
section
variable {α : Type} [Rp α] {F F' H H' : Heap} {v : Value} {xs ys : List α} {lo n n' : Nat}
theorem OW.head {a : Option Addr} {m cap : Nat} (hl : m = xs.length) (h : OW lo n H F (.slice a m cap) xs) : OW lo n H F (.slice a xs.length cap) xs := by rw [← hl]; exact h
theorem SR.head {a : Option Addr} {m cap : Nat} (hl : m = xs.length) (h : SR F (.slice a m cap) xs) : SR F (.slice a xs.length cap) xs := by rw [← hl]; exact h
theorem OW.downSc {β : Type} [Sc β] {xs : List β} (hle : F.Le F') (h : OW lo n H F' v xs) : OW lo n H F v xs := by
  obtain ⟨h0, h1, cs, h2, h3⟩ := h
  refine ⟨h0, fun i hi => ?_, cs, h2, ?_⟩
  · cases e : F i with
    | none => rfl
    | some o => have := hle i o e; rw [h1 i hi] at this; cases this
  · rw [h3.sc]; exact RA.ofSc F xs
theorem Ext.st {lo n0 n1 : Nat} {F0 F1 : Heap} (hE : Ext n0 F0 n1 F1) (hS : St lo n H F1) : St lo n H F0 := ⟨hS.lo, hS.hb, hE.sub.trans hS.fh⟩
end
section
variable {P : Program} {Δ : Prims} {lo : Nat} {fr : Fr} {n : Nat} {H : Heap} {Q : Post}
section ops
variable {all : Array Oper} {l : List Oper} {o : Oper} {d : Nat} {fl fl2 : List Bool} {lw lo0 : Nat} {F : Heap}
theorem take_drop_splice {c vc : List Value} {k0 len o : Nat} (hk : k0 + len ≤ c.length) (ho : o + vc.length ≤ len) : ((splice c (k0 + o) vc).drop k0).take len = splice ((c.drop k0).take len) o vc := by
  apply List.ext_getElem?
  intro i
  have hl1 : k0 + o + vc.length ≤ c.length := by omega
  have hl2 : o + vc.length ≤ ((c.drop k0).take len).length := by rw [List.length_take, List.length_drop]; omega
  rw [getElem?_splice hl2]
  by_cases hi : i < len
  · rw [List.getElem?_take_of_lt hi, List.getElem?_drop, getElem?_splice hl1, List.getElem?_take_of_lt hi, List.getElem?_drop]
    by_cases h1 : i < o
    · rw [if_pos (by omega), if_pos h1]
    · rw [if_neg (by omega), if_neg h1]
      by_cases h2 : i < o + vc.length
      · rw [if_pos (by omega), if_pos h2]; congr 1; omega
      · rw [if_neg (by omega), if_neg h2]
  · rw [List.getElem?_eq_none (by rw [List.length_take]; omega), if_neg (by omega), if_neg (by omega), List.getElem?_eq_none (by rw [List.length_take]; omega)]
theorem GL.indexO {α : Type} [Rp α] {lo2 : Nat} (hfl : IsFl fl lo n lw fl2) {t : TypeId} {x y : Operand} {el : TypeId} {i : TypeInfo} {v : Value} {xs : List α} {u : α} {q : IntKind} {j : Int} (ho : o.op = .indexAddr t x y) (hd : o.dst = some d) (hw : wantedA all o fr = some true) (ht : P.underlying t = some (.slice el)) (hi : P.info? el = some i) (hsz : i.size = Rp.sz α)
    (hx : fr.eval x = some v) (hR : OW lo2 n H F v xs) (hy : fr.eval y = some (.int q j)) (hu : idx xs j = some u)
    (kk : ∀ b k c ecs, idOf v = some b → H b = some (.row (Rp.sz α) c) → (c.drop k).take (Rp.sz α) = ecs → Rp.R F ecs u →
      (∀ m vc y H', m + vc.length ≤ Rp.sz α → Rp.R F (splice ecs m vc) y → H' b = some (.row (Rp.sz α) (splice c (k + m) vc)) → OW lo2 n H' F v (setI xs j y)) →
      WL P Δ lo fl2 all l ((d, .pointer (some ⟨b, k, none⟩)) :: fr) n H Q) : WL P Δ lo fl all (o :: l) fr n H Q := by
  obtain ⟨h0, h1, h2, h3⟩ := idx_inv hu
  obtain ⟨hlt, hfn, cs, hs, hra⟩ := hR
  rcases hs with ⟨_, hlen, _⟩ | ⟨b, k, cap, c, rfl, hb, hc, hcl, e1, e2, e3, e4⟩
  · omega
  · have hfit : k + xs.length * Rp.sz α ≤ c.length := by
      have := congrArg List.length hc
      rw [hcl, List.length_take, List.length_drop] at this
      by_cases h00 : xs.length * Rp.sz α = 0
      · omega
      · omega
    have hjs : j.toNat * Rp.sz α + Rp.sz α ≤ xs.length * Rp.sz α := by
      have := Nat.mul_le_mul_right (Rp.sz α) h2
      rw [Nat.succ_mul] at this
      exact this
    refine WL.indexS hfl ho hd hw ht hi hx hy h0 (by exact_mod_cast h1) (kk b (k + j.toNat * i.size) c _ rfl hb rfl ?_ ?_)
    · have hg := hra.get h2
      rw [h3, ← hc, List.drop_take, List.take_take] at hg
      have e : min (Rp.sz α) (xs.length * Rp.sz α - j.toNat * Rp.sz α) = Rp.sz α := by omega
      rw [e, List.drop_drop] at hg
      rw [hsz]; exact hg
    · intro m vc y H' hm hy' hH'
      rw [hsz] at hH' hy'
      have hse : (xs.set j.toNat y).length = xs.length := List.length_set
      refine ⟨by rw [setI_length]; exact hlt, hfn, _, .inr ⟨b, k, cap, _, ?_, hH', rfl, ?_, e1, e2, ?_, ?_⟩, ?_⟩
      · rw [setI_length]
      · rw [setI_length, List.length_take, List.length_drop, length_splice (by omega)]; omega
      · rw [length_splice (by omega)]; exact e3
      · rw [setI_length]; exact e4
      · rw [setI_length, Nat.add_assoc, take_drop_splice hfit (by omega), hc]
        have hset := hra.set h2 hy'
        have e : splice cs (j.toNat * Rp.sz α + m) vc = splice cs (j.toNat * Rp.sz α) (splice ((c.drop (k + j.toNat * Rp.sz α)).take (Rp.sz α)) m vc) := by
          rw [← take_drop_splice (by omega) hm, ← hc, ← take_drop_splice hfit (by omega)]
          have hl : (((splice c (k + j.toNat * Rp.sz α + m) vc).drop (k + j.toNat * Rp.sz α)).take (Rp.sz α)).length = Rp.sz α := by
            rw [List.length_take, List.length_drop, length_splice (by omega)]; omega
          rw [← take_drop_splice hfit (by rw [hl]; omega)]
          congr 2
          rw [← Nat.add_assoc]
          apply List.ext_getElem?
          intro i
          rw [getElem?_splice (by omega), getElem?_splice (by rw [hl]; omega)]
          by_cases hi1 : i < k + j.toNat * Rp.sz α
          · rw [if_pos (by omega), if_pos hi1]
          · rw [if_neg hi1]
            rw [hl]
            by_cases hi2 : i < k + j.toNat * Rp.sz α + Rp.sz α
            · rw [if_pos hi2, List.getElem?_take_of_lt (by omega), List.getElem?_drop, getElem?_splice (by omega)]
              rw [show k + j.toNat * Rp.sz α + (i - (k + j.toNat * Rp.sz α)) = i by omega]
            · rw [if_neg hi2, if_neg (by omega), if_neg (by omega)]
        rw [e]; exact hset
theorem GL.negI (hfl : IsFl fl lo n lw fl2) {t : TypeId} {x : Operand} {a : Int} (ho : o.op = .unOp .neg t x) (hd : o.dst = some d) (hw : wantedA all o fr = some true) (hx : fr.eval x = some (.int .i64 a)) (h1 : -9223372036854775808 ≤ 0 - a) (h2 : 0 - a < 9223372036854775808)
    (kk : WL P Δ lo fl2 all l ((d, .int .i64 (0 - a)) :: fr) n H Q) : WL P Δ lo fl all (o :: l) fr n H Q :=
  WL.neg hfl ho hd hw hx (by rw [wrap_i64 ⟨h1, h2⟩]; exact kk)
theorem GL.callP0 (g : Good P Δ) (hfl : IsFl fl lo n lw fl2) {x : Operand} {xs : Array Operand} {ts : Array TypeId} {f : FuncId} {first cap : Array Value} {as args : List Value} {fn : Func} {R : Value → Nat → Heap → Prop} (ho : o.op = .call { callee := .value x, args := xs, argTypes := ts }) (hd : o.dst = none) (hw : wantedA all o fr = some true)
    (hx : fr.eval x = some (.func (.func f) first cap)) (ha : xs.toList.mapM fr.eval = some as) (hargs : first.toList ++ as ++ cap.toList = args) (hfn : P.funcs[f]? = some fn) (hname : (fn.name == "runtime.NumGoroutine") = false) (hbody : fn.body.isNone = false) (hlw : lw ≤ n)
    (h : C P Δ n f args n H R) (kk : ∀ v n' H', n ≤ n' → (∀ i, i < n → H' i = H i) → R v n' H' → WL P Δ lo fl2 all l fr n' H' Q) : WL P Δ lo fl all (o :: l) fr n H Q := by
  subst hargs
  exact WL.call0 hfl n ho hd hw hx ha hfn hname hbody hlw (Nat.le_refl _) (h.use g (Nat.le_refl _) fun v n' H' ha r => kk v n' H' ha.1 ha.2.1 r)
theorem St.vis {S : Nat → Prop} (hS : St lo0 n H F) (hF : ∀ i, (F i).isSome = true → S i) : St lo0 n (H.vis n S) F :=
  ⟨hS.lo, fun i hi => by rw [vis_new hi]; exact hS.hb i hi, fun i ob h => by rw [vis_in (hF i (by rw [h]; rfl))]; exact hS.fh i ob h⟩
theorem OW.vis {α : Type} [Rp α] {S : Nat → Prop} {v : Value} {xs : List α} (h : OW lo0 n H F v xs) (hs : ∀ i, idOf v = some i → S i) : OW lo0 n (H.vis n S) F v xs :=
  h.keep (Nat.le_refl _) fun i hi => vis_in (hs i hi)
theorem vis_get {S : Nat → Prop} {i : Nat} {ob : Ob} (h : H i = some ob) (hs : S i) : H.vis n S i = some ob := by rw [vis_in hs]; exact h
theorem OW.after {α : Type} [Rp α] {S : Nat → Prop} {H1 : Heap} {F' : Heap} {n' : Nat} {v : Value} {xs : List α} (h : OW lo0 n' H1 F' v xs) (hd : ∀ i, i < n → ¬ S i → H1 i = none) {b : Nat} (hb : idOf v = some b) : n ≤ b ∨ S b := by
  rcases Nat.lt_or_ge b n with h1 | h1
  · refine .inr (Classical.byContradiction fun hs => ?_)
    obtain ⟨ob, ho⟩ := h.alive hb
    rw [hd b h1 hs] at ho; cases ho
  · exact .inl h1
theorem GL.callIO (g : Env P Δ) (hfl : IsFl fl lo n lw fl2) (S : Nat → Prop) {lo1 : Nat} {x : Operand} {xs : Array Operand} {ts : Array TypeId} {f : FuncId} {first cap : Array Value} {as args : List Value} {fn : Func} {R : Value → Nat → Heap → Prop} (ho : o.op = .call { callee := .value x, args := xs, argTypes := ts }) (hd : o.dst = some d) (hw : wantedA all o fr = some true)
    (hx : fr.eval x = some (.func (.func f) first cap)) (ha : xs.toList.mapM fr.eval = some as) (hargs : first.toList ++ as ++ cap.toList = args) (hfn : P.funcs[f]? = some fn) (hname : (fn.name == "runtime.NumGoroutine") = false) (hbody : fn.body.isNone = false) (hlw : lw ≤ lo1) (hln : lo1 ≤ n)
    (h : C P Δ lo1 f args n (H.vis n S) R) (kk : ∀ v n' H' H1, n ≤ n' → R v n' H1 → H1.Le H' → (∀ i, n ≤ i → H' i = H1 i) → (∀ i, i < n → ¬ S i → H' i = H i) → (∀ i, i < n → ¬ S i → H1 i = none) → WL P Δ lo fl2 all l ((d, v) :: fr) n' H' Q) : WL P Δ lo fl all (o :: l) fr n H Q := by
  subst hargs
  refine WL.call hfl lo1 ho hd hw hx ha hfn hname hbody hlw hln ((h.frame g.good g.framed S hln).mono fun v n' H' r => ?_)
  obtain ⟨H1, r1, r2, r3, r4, r5, r6, r7⟩ := r
  exact kk v n' H' H1 r2 r1 r3 r5 r4 r6
theorem GL.callIO0 (g : Env P Δ) (hfl : IsFl fl lo n lw fl2) (S : Nat → Prop) {lo1 : Nat} {x : Operand} {xs : Array Operand} {ts : Array TypeId} {f : FuncId} {first cap : Array Value} {as args : List Value} {fn : Func} {R : Value → Nat → Heap → Prop} (ho : o.op = .call { callee := .value x, args := xs, argTypes := ts }) (hd : o.dst = none) (hw : wantedA all o fr = some true)
    (hx : fr.eval x = some (.func (.func f) first cap)) (ha : xs.toList.mapM fr.eval = some as) (hargs : first.toList ++ as ++ cap.toList = args) (hfn : P.funcs[f]? = some fn) (hname : (fn.name == "runtime.NumGoroutine") = false) (hbody : fn.body.isNone = false) (hlw : lw ≤ lo1) (hln : lo1 ≤ n)
    (h : C P Δ lo1 f args n (H.vis n S) R) (kk : ∀ v n' H' H1, n ≤ n' → R v n' H1 → H1.Le H' → (∀ i, n ≤ i → H' i = H1 i) → (∀ i, i < n → ¬ S i → H' i = H i) → (∀ i, i < n → ¬ S i → H1 i = none) → WL P Δ lo fl2 all l fr n' H' Q) : WL P Δ lo fl all (o :: l) fr n H Q := by
  subst hargs
  refine WL.call0 hfl lo1 ho hd hw hx ha hfn hname hbody hlw hln ((h.frame g.good g.framed S hln).mono fun v n' H' r => ?_)
  obtain ⟨H1, r1, r2, r3, r4, r5, r6, r7⟩ := r
  exact kk v n' H' H1 r2 r1 r3 r5 r4 r6
end ops
end
end Go.Proofs.YtmodhnkjimpkbaaAb
