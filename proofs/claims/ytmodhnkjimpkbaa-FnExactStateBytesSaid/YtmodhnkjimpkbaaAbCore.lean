import Derived.Calls
import Derived.Laws.Sem
import Derived.Orders
import Derived.Still
import Derived.Tactics
set_option linter.all false
namespace Go.Proofs.YtmodhnkjimpkbaaAb
open Go
inductive Ob where
  | row (esz : Nat) (c : List Value)
  | mp (es : List (Value × Value))
abbrev Heap := Nat → Option Ob
def Heap.set (H : Heap) (i : Nat) (o : Ob) : Heap := fun j => if j = i then some o else H j
def Heap.del (H : Heap) (i : Nat) : Heap := fun j => if j = i then none else H j
def UNK : Nat := 4611686018427387904
abbrev Fr := List (Nat × Value)
def Fr.get : Fr → Nat → Option Value
  | [], _ => none
  | (i, v) :: r, t => if i = t then some v else Fr.get r t
def Fr.put (fr : Fr) (dst : Option Tmp) (v : Value) : Fr :=
  match dst with
  | some d => (d, v) :: fr
  | none => fr
def Fr.eval (fr : Fr) : Operand → Option Value
  | .tmp t => fr.get t
  | .const v => some v
  | .global _ => none
  | .func f => some (.func (.func f) #[] #[])
def Fr.le (a b : Fr) : Prop := ∀ t v, Fr.get a t = some v → Fr.get b t = some v
structure Spot where
  blk : Nat
  off : Nat
  room : Nat
  esz : Nat
abbrev Rho := Nat → Option Spot
inductive VR (ρ : Rho) : Value → Value → Prop
  | bool (b : Bool) : VR ρ (.bool b) (.bool b)
  | int (k : IntKind) (n : Int) : VR ρ (.int k n) (.int k n)
  | string (s : ByteArray) : VR ρ (.string s) (.string s)
  | nilp : VR ρ (.pointer none) (.pointer none)
  | ptr (b o : Nat) (s : Spot) (h : ρ b = some s) : VR ρ (.pointer (some ⟨b, o, none⟩)) (.pointer (some ⟨s.blk, s.off + o, none⟩))
  | nils : VR ρ (.slice none 0 0) (.slice none 0 0)
  | sl (b o len cap cap' : Nat) (s : Spot) (h : ρ b = some s) (hl : len ≤ cap') (hr : o + cap' * s.esz ≤ s.room) (hc : cap = cap' ∨ (UNK ≤ cap ∧ cap ≤ UNK + cap')) :
      VR ρ (.slice (some ⟨b, o, none⟩) len cap) (.slice (some ⟨s.blk, s.off + o, none⟩) len cap')
  | sl0 (b o : Nat) (a : Addr) (s : Spot) (h : ρ b = some s) : VR ρ (.slice (some ⟨b, o, none⟩) 0 UNK) (.slice (some a) 0 0)
  | nilm : VR ρ (.map none) (.map none)
  | map (r : Nat) (s : Spot) (h : ρ r = some s) : VR ρ (.map (some r)) (.map (some s.blk))
  | nilf : VR ρ .nilFunc .nilFunc
  | func (f : Fn) (a a' c c' : Array Value) (ha : a.size = a'.size) (hc : c.size = c'.size)
      (hav : ∀ i (h1 : i < a.size) (h2 : i < a'.size), VR ρ a[i] a'[i]) (hcv : ∀ i (h1 : i < c.size) (h2 : i < c'.size), VR ρ c[i] c'[i]) :
      VR ρ (.func f a c) (.func f a' c')
  | nilIface : VR ρ .nilIface .nilIface
  | iface (t : TypeId) (v v' : Value) (h : VR ρ v v') : VR ρ (.iface t v) (.iface t v')
  | agg (c c' : Array Value) (hs : c.size = c'.size) (h : ∀ i (h1 : i < c.size) (h2 : i < c'.size), VR ρ c[i] c'[i]) : VR ρ (.agg c) (.agg c')
  | tuple (c c' : Array Value) (hs : c.size = c'.size) (h : ∀ i (h1 : i < c.size) (h2 : i < c'.size), VR ρ c[i] c'[i]) : VR ρ (.tuple c) (.tuple c')
def Rho.le (ρ ρ' : Rho) : Prop := ∀ i s, ρ i = some s → ρ' i = some s
theorem Rho.le_refl (ρ : Rho) : ρ.le ρ := fun _ _ h => h
theorem Rho.le_trans {a b c : Rho} (h : a.le b) (h' : b.le c) : a.le c := fun i s e => h' i s (h i s e)
theorem VR.mono {ρ ρ' : Rho} (hle : ρ.le ρ') {v v' : Value} (h : VR ρ v v') : VR ρ' v v' := by
  induction h with
  | bool b => exact .bool b
  | int k n => exact .int k n
  | string s => exact .string s
  | nilp => exact .nilp
  | ptr b o s h => exact .ptr b o s (hle _ _ h)
  | nils => exact .nils
  | sl b o len cap cap' s h hl hr hc => exact .sl b o len cap cap' s (hle _ _ h) hl hr hc
  | sl0 b o x s h => exact .sl0 b o x s (hle _ _ h)
  | nilm => exact .nilm
  | map r s h => exact .map r s (hle _ _ h)
  | nilf => exact .nilf
  | func f a a' c c' ha hc hav hcv iha ihc => exact .func f a a' c c' ha hc iha ihc
  | nilIface => exact .nilIface
  | iface t v v' h ih => exact .iface t v v' ih
  | agg c c' hs h ih => exact .agg c c' hs ih
  | tuple c c' hs h ih => exact .tuple c c' hs ih
def Gr (v : Value) : Prop := (∀ ρ v', VR ρ v v' → v' = v) ∧ ∀ ρ, VR ρ v v
theorem gr_bool (b : Bool) : Gr (.bool b) := ⟨fun _ _ h => by cases h; rfl, fun _ => .bool b⟩
theorem gr_int (k : IntKind) (n : Int) : Gr (.int k n) := ⟨fun _ _ h => by cases h; rfl, fun _ => .int k n⟩
theorem gr_string (s : ByteArray) : Gr (.string s) := ⟨fun _ _ h => by cases h; rfl, fun _ => .string s⟩
theorem gr_nilp : Gr (.pointer none) := ⟨fun _ _ h => by cases h; rfl, fun _ => .nilp⟩
theorem gr_nils : Gr (.slice none 0 0) := ⟨fun _ _ h => by cases h; rfl, fun _ => .nils⟩
theorem gr_nilm : Gr (.map none) := ⟨fun _ _ h => by cases h; rfl, fun _ => .nilm⟩
theorem gr_nilf : Gr .nilFunc := ⟨fun _ _ h => by cases h; rfl, fun _ => .nilf⟩
theorem gr_nilIface : Gr .nilIface := ⟨fun _ _ h => by cases h; rfl, fun _ => .nilIface⟩
theorem gr_iface (t : TypeId) {v : Value} (h : Gr v) : Gr (.iface t v) :=
  ⟨fun ρ _ e => by cases e with | iface t v v' e => rw [h.1 ρ _ e], fun ρ => .iface t v v (h.2 ρ)⟩
theorem gr_agg {c : Array Value} (h : ∀ i (h1 : i < c.size), Gr c[i]) : Gr (.agg c) :=
  ⟨fun ρ _ e => by
    cases e with
    | agg c c' hs e =>
      congr 1
      exact (Array.ext hs fun i h1 h2 => ((h i h1).1 ρ _ (e i h1 h2)).symm).symm,
   fun ρ => .agg c c rfl fun i h1 _ => (h i h1).2 ρ⟩
theorem gr_tuple {c : Array Value} (h : ∀ i (h1 : i < c.size), Gr c[i]) : Gr (.tuple c) :=
  ⟨fun ρ _ e => by
    cases e with
    | tuple c c' hs e =>
      congr 1
      exact (Array.ext hs fun i h1 h2 => ((h i h1).1 ρ _ (e i h1 h2)).symm).symm,
   fun ρ => .tuple c c rfl fun i h1 _ => (h i h1).2 ρ⟩
theorem gr_undef : Gr undef := gr_tuple (c := #[]) fun i h => absurd h (by simp)
theorem gr_func (f : FuncId) : Gr (.func (.func f) #[] #[]) :=
  ⟨fun ρ _ e => by
    cases e with
    | func f a a' c c' ha hc h1 h2 =>
      have : a' = #[] := Array.eq_empty_of_size_eq_zero (by simpa using ha.symm)
      have : c' = #[] := Array.eq_empty_of_size_eq_zero (by simpa using hc.symm)
      subst_vars; rfl,
   fun ρ => .func _ _ _ _ _ rfl rfl (fun i h => absurd h (by simp)) (fun i h => absurd h (by simp))⟩
structure Sim (β : Nat) (ρ : Rho) (H : Heap) (w : World) : Prop where
  row : ∀ i e c s, H i = some (.row e c) → ρ i = some s → ∃ cc T fz, w.heap[s.blk]? = some (.cells cc T fz) ∧ s.esz = e ∧ c.length ≤ s.room ∧ s.off + s.room ≤ cc.size ∧
    (∀ (k : Nat) v, c[k]? = some v → ∃ v', cc[s.off + k]? = some v' ∧ VR ρ v v') ∧ (β ≤ i → ∀ k, k < s.room → ¬ (fz.1 ≤ s.off + k ∧ s.off + k < fz.2)) ∧ (β ≤ i → ∀ v ∈ c, v.oneCell' = true)
  mp : ∀ i es s, H i = some (.mp es) → ρ i = some s → ∃ en cl, w.heap[s.blk]? = some (.map en cl) ∧ en.size = es.length ∧
    (∀ (k : Nat) p, es[k]? = some p → ∃ x, en[k]? = some x ∧ x.key = p.1 ∧ Gr p.1 ∧ VR ρ p.2 x.val)
  inj : ∀ i j s s', (H i).isSome → (H j).isSome → ρ i = some s → ρ j = some s' → s.blk = s'.blk → β ≤ i → i = j
def SameOut (w w' : World) : Prop := w'.os = w.os ∧ w'.tape = w.tape ∧ w'.output = w.output
theorem SameOut.refl (w : World) : SameOut w w := ⟨rfl, rfl, rfl⟩
theorem SameOut.trans {a b c : World} (h : SameOut a b) (k : SameOut b c) : SameOut a c := ⟨k.1.trans h.1, k.2.1.trans h.2.1, k.2.2.trans h.2.2⟩
structure Ok (β lo : Nat) (ρ : Rho) (n : Nat) (H : Heap) (w : World) (ρ' : Rho) (n' : Nat) (H' : Heap) (w' : World) : Prop where
  sim : Sim β ρ' H' w'
  le : n ≤ n'
  old : ∀ i, i < n → ρ' i = ρ i
  far : ∀ i, n' ≤ i → ρ' i = ρ i
  low : ∀ i, i < lo → H' i = H i
  size : w.heap.size ≤ w'.heap.size
  keep : ∀ B, B < w.heap.size → (∀ i s, lo ≤ i → i < n → (H i).isSome → ρ i = some s → s.blk ≠ B) → w'.heap[B]? = w.heap[B]?
  fresh : ∀ i s, n ≤ i → i < n' → ρ' i = some s → w.heap.size ≤ s.blk ∨ ∃ j t, lo ≤ j ∧ j < n ∧ (H j).isSome ∧ ρ j = some t ∧ t.blk = s.blk
  dead : ∀ i, i < n → H i = none → H' i = none
  out : SameOut w w'
end Go.Proofs.YtmodhnkjimpkbaaAb
