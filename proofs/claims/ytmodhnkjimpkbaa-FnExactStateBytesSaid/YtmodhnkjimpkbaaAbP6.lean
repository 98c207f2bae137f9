import Derived.Test.YtmodhnkjimpkbaaAbP5
import Derived.Test.YtmodhnkjimpkbaaAbBd
set_option linter.all false
namespace Go.Proofs.YtmodhnkjimpkbaaAb
open Go
section
variable {P : Program} {Δ : Prims} {lo : Nat} {fr : Fr} {n : Nat} {H : Heap} {Q : Post}
section ops
variable {all : Array Oper} {l : List Oper} {o : Oper} {d : Nat} {fl fl2 : List Bool} {lw : Nat}
theorem GL.callIn (hfl : IsFl fl lo n lw fl2) (lo' : Nat) {x : Operand} {xs : Array Operand} {ts : Array TypeId} {f : FuncId} {first cap : Array Value} {as args : List Value} {fn : Func} (ho : o.op = .call { callee := .value x, args := xs, argTypes := ts }) (hd : o.dst = some d) (hw : wantedA all o fr = some true)
    (hx : fr.eval x = some (.func (.func f) first cap)) (ha : xs.toList.mapM fr.eval = some as) (hargs : first.toList ++ as ++ cap.toList = args) (hfn : P.funcs[f]? = some fn) (hname : (fn.name == "runtime.NumGoroutine") = false) (hbody : fn.body.isNone = false) (h1 : lw ≤ lo') (h2 : lo' ≤ n)
    (h : C P Δ lo' f args n H (fun v n' H' => WL P Δ lo fl2 all l ((d, v) :: fr) n' H' Q)) : WL P Δ lo fl all (o :: l) fr n H Q := by
  subst hargs
  exact WL.call hfl lo' ho hd hw hx ha hfn hname hbody h1 h2 h
theorem GL.callIn0 (hfl : IsFl fl lo n lw fl2) (lo' : Nat) {x : Operand} {xs : Array Operand} {ts : Array TypeId} {f : FuncId} {first cap : Array Value} {as args : List Value} {fn : Func} (ho : o.op = .call { callee := .value x, args := xs, argTypes := ts }) (hd : o.dst = none) (hw : wantedA all o fr = some true)
    (hx : fr.eval x = some (.func (.func f) first cap)) (ha : xs.toList.mapM fr.eval = some as) (hargs : first.toList ++ as ++ cap.toList = args) (hfn : P.funcs[f]? = some fn) (hname : (fn.name == "runtime.NumGoroutine") = false) (hbody : fn.body.isNone = false) (h1 : lw ≤ lo') (h2 : lo' ≤ n)
    (h : C P Δ lo' f args n H (fun v n' H' => WL P Δ lo fl2 all l fr n' H' Q)) : WL P Δ lo fl all (o :: l) fr n H Q := by
  subst hargs
  exact WL.call0 hfl lo' ho hd hw hx ha hfn hname hbody h1 h2 h
end ops
end
theorem win_fit2 {c ecs : List Value} {k s : Nat} (h : (c.drop k).take s = ecs) {o m : Nat} (h0 : 0 < s) (hl : ecs.length = s) (hm : o + m ≤ s) : k + o + m ≤ c.length := by
  have : ((c.drop k).take s).length = s := by rw [h]; exact hl
  rw [List.length_take, List.length_drop] at this
  omega
theorem win_fit3 {c ecs : List Value} {k s : Nat} (h : (c.drop k).take s = ecs) {o p m : Nat} (h0 : 0 < s) (hl : ecs.length = s) (hm : o + p + m ≤ s) : k + o + p + m ≤ c.length := by
  have := win_fit2 h (o := o + p) (m := m) h0 hl hm
  omega
abbrev lst (s : List UInt8) : List UInt8 := s
class Fl (α : Type) [Rp α] : Prop where
  flat : ∀ {F F' : Heap} {cs : List Value} {a : α}, Rp.R F cs a → Rp.R F' cs a
instance (priority := 900) scFl {α : Type} [Sc α] : Fl α := ⟨fun h => h⟩
theorem RA.flat {β : Type} [Rp β] [Fl β] {F F' : Heap} {cs : List Value} {xs : List β} (h : RA F cs xs) : RA F' cs xs := by
  induction h with
  | nil => exact .nil
  | cons h t ih => exact .cons (Fl.flat h) ih
theorem OW.downFl {β : Type} [Rp β] [Fl β] {lo n : Nat} {H F F' : Heap} {v : Value} {xs : List β} (hle : F.Le F') (h : OW lo n H F' v xs) : OW lo n H F v xs := by
  obtain ⟨h0, h1, cs, h2, h3⟩ := h
  refine ⟨h0, fun i hi => ?_, cs, h2, h3.flat⟩
  cases e : F i with
  | none => rfl
  | some o => have := hle i o e; rw [h1 i hi] at this; cases this
end Go.Proofs.YtmodhnkjimpkbaaAb
