import Derived.Calls
import Derived.Laws.Sem
import Derived.Orders
import Derived.Still
import Derived.Tactics
import Derived.Laws.AppendOwn
import Derived.Laws.Append
import Derived.Laws.MakeOwn
import Derived.Laws.IdiomCopy
import Derived.Laws.NewFold
import Derived.Laws.BytesString
import Derived.Laws.IdiomStrings
import Derived.Laws.OwnMore
import Derived.WalkSpells
set_option linter.all false
section
namespace Go.Proofs.YtlpcdcpcfeaecaaAb
open Go
inductive Ob where
  | row (esz : Nat) (c : List Value)
  | mp (es : List (Value × Value))
abbrev Heap := Nat → Option Ob
def Heap.set (H : Heap) (i : Nat) (o : Ob) : Heap := fun j => if j = i then some o else H j
def Heap.del (H : Heap) (i : Nat) : Heap := fun j => if j = i then none else H j
def UNK : Nat := 4611686018427387904
abbrev Fr := List (Nat × Value)
def Fr.get : Fr → Nat → Option Value
  | [], _ => none
  | (i, v) :: r, t => if i = t then some v else Fr.get r t
def Fr.put (fr : Fr) (dst : Option Tmp) (v : Value) : Fr :=
  match dst with
  | some d => (d, v) :: fr
  | none => fr
def Fr.eval (fr : Fr) : Operand → Option Value
  | .tmp t => fr.get t
  | .const v => some v
  | .global _ => none
  | .func f => some (.func (.func f) #[] #[])
def Fr.le (a b : Fr) : Prop := ∀ t v, Fr.get a t = some v → Fr.get b t = some v
structure Spot where
  blk : Nat
  off : Nat
  room : Nat
  esz : Nat
abbrev Rho := Nat → Option Spot
inductive VR (ρ : Rho) : Value → Value → Prop
  | bool (b : Bool) : VR ρ (.bool b) (.bool b)
  | int (k : IntKind) (n : Int) : VR ρ (.int k n) (.int k n)
  | string (s : ByteArray) : VR ρ (.string s) (.string s)
  | nilp : VR ρ (.pointer none) (.pointer none)
  | ptr (b o : Nat) (s : Spot) (h : ρ b = some s) : VR ρ (.pointer (some ⟨b, o, none⟩)) (.pointer (some ⟨s.blk, s.off + o, none⟩))
  | nils : VR ρ (.slice none 0 0) (.slice none 0 0)
  | sl (b o len cap cap' : Nat) (s : Spot) (h : ρ b = some s) (hl : len ≤ cap') (hr : o + cap' * s.esz ≤ s.room) (hc : cap = cap' ∨ (UNK ≤ cap ∧ cap ≤ UNK + cap')) :
      VR ρ (.slice (some ⟨b, o, none⟩) len cap) (.slice (some ⟨s.blk, s.off + o, none⟩) len cap')
  | sl0 (b o : Nat) (a : Addr) (s : Spot) (h : ρ b = some s) : VR ρ (.slice (some ⟨b, o, none⟩) 0 UNK) (.slice (some a) 0 0)
  | nilm : VR ρ (.map none) (.map none)
  | map (r : Nat) (s : Spot) (h : ρ r = some s) : VR ρ (.map (some r)) (.map (some s.blk))
  | nilf : VR ρ .nilFunc .nilFunc
  | func (f : Fn) (a a' c c' : Array Value) (ha : a.size = a'.size) (hc : c.size = c'.size)
      (hav : ∀ i (h1 : i < a.size) (h2 : i < a'.size), VR ρ a[i] a'[i]) (hcv : ∀ i (h1 : i < c.size) (h2 : i < c'.size), VR ρ c[i] c'[i]) :
      VR ρ (.func f a c) (.func f a' c')
  | nilIface : VR ρ .nilIface .nilIface
  | iface (t : TypeId) (v v' : Value) (h : VR ρ v v') : VR ρ (.iface t v) (.iface t v')
  | agg (c c' : Array Value) (hs : c.size = c'.size) (h : ∀ i (h1 : i < c.size) (h2 : i < c'.size), VR ρ c[i] c'[i]) : VR ρ (.agg c) (.agg c')
  | tuple (c c' : Array Value) (hs : c.size = c'.size) (h : ∀ i (h1 : i < c.size) (h2 : i < c'.size), VR ρ c[i] c'[i]) : VR ρ (.tuple c) (.tuple c')
def Rho.le (ρ ρ' : Rho) : Prop := ∀ i s, ρ i = some s → ρ' i = some s
theorem Rho.le_refl (ρ : Rho) : ρ.le ρ := fun _ _ h => h
theorem Rho.le_trans {a b c : Rho} (h : a.le b) (h' : b.le c) : a.le c := fun i s e => h' i s (h i s e)
theorem VR.mono {ρ ρ' : Rho} (hle : ρ.le ρ') {v v' : Value} (h : VR ρ v v') : VR ρ' v v' := by
  induction h with
  | bool b => exact .bool b
  | int k n => exact .int k n
  | string s => exact .string s
  | nilp => exact .nilp
  | ptr b o s h => exact .ptr b o s (hle _ _ h)
  | nils => exact .nils
  | sl b o len cap cap' s h hl hr hc => exact .sl b o len cap cap' s (hle _ _ h) hl hr hc
  | sl0 b o x s h => exact .sl0 b o x s (hle _ _ h)
  | nilm => exact .nilm
  | map r s h => exact .map r s (hle _ _ h)
  | nilf => exact .nilf
  | func f a a' c c' ha hc hav hcv iha ihc => exact .func f a a' c c' ha hc iha ihc
  | nilIface => exact .nilIface
  | iface t v v' h ih => exact .iface t v v' ih
  | agg c c' hs h ih => exact .agg c c' hs ih
  | tuple c c' hs h ih => exact .tuple c c' hs ih
def Gr (v : Value) : Prop := (∀ ρ v', VR ρ v v' → v' = v) ∧ ∀ ρ, VR ρ v v
theorem gr_bool (b : Bool) : Gr (.bool b) := ⟨fun _ _ h => by cases h; rfl, fun _ => .bool b⟩
theorem gr_int (k : IntKind) (n : Int) : Gr (.int k n) := ⟨fun _ _ h => by cases h; rfl, fun _ => .int k n⟩
theorem gr_string (s : ByteArray) : Gr (.string s) := ⟨fun _ _ h => by cases h; rfl, fun _ => .string s⟩
theorem gr_nilp : Gr (.pointer none) := ⟨fun _ _ h => by cases h; rfl, fun _ => .nilp⟩
theorem gr_nils : Gr (.slice none 0 0) := ⟨fun _ _ h => by cases h; rfl, fun _ => .nils⟩
theorem gr_nilm : Gr (.map none) := ⟨fun _ _ h => by cases h; rfl, fun _ => .nilm⟩
theorem gr_nilf : Gr .nilFunc := ⟨fun _ _ h => by cases h; rfl, fun _ => .nilf⟩
theorem gr_nilIface : Gr .nilIface := ⟨fun _ _ h => by cases h; rfl, fun _ => .nilIface⟩
theorem gr_tuple {c : Array Value} (h : ∀ i (h1 : i < c.size), Gr c[i]) : Gr (.tuple c) :=
  ⟨fun ρ _ e => by
    cases e with
    | tuple c c' hs e =>
      congr 1
      exact (Array.ext hs fun i h1 h2 => ((h i h1).1 ρ _ (e i h1 h2)).symm).symm,
   fun ρ => .tuple c c rfl fun i h1 _ => (h i h1).2 ρ⟩
theorem gr_undef : Gr undef := gr_tuple (c := #[]) fun i h => absurd h (by simp)
theorem gr_func (f : FuncId) : Gr (.func (.func f) #[] #[]) :=
  ⟨fun ρ _ e => by
    cases e with
    | func f a a' c c' ha hc h1 h2 =>
      have : a' = #[] := Array.eq_empty_of_size_eq_zero (by simpa using ha.symm)
      have : c' = #[] := Array.eq_empty_of_size_eq_zero (by simpa using hc.symm)
      subst_vars; rfl,
   fun ρ => .func _ _ _ _ _ rfl rfl (fun i h => absurd h (by simp)) (fun i h => absurd h (by simp))⟩
structure Sim (β : Nat) (ρ : Rho) (H : Heap) (w : World) : Prop where
  row : ∀ i e c s, H i = some (.row e c) → ρ i = some s → ∃ cc T fz, w.heap[s.blk]? = some (.cells cc T fz) ∧ s.esz = e ∧ c.length ≤ s.room ∧ s.off + s.room ≤ cc.size ∧
    (∀ (k : Nat) v, c[k]? = some v → ∃ v', cc[s.off + k]? = some v' ∧ VR ρ v v') ∧ (β ≤ i → ∀ k, k < s.room → ¬ (fz.1 ≤ s.off + k ∧ s.off + k < fz.2)) ∧ (β ≤ i → ∀ v ∈ c, v.oneCell' = true)
  mp : ∀ i es s, H i = some (.mp es) → ρ i = some s → ∃ en cl, w.heap[s.blk]? = some (.map en cl) ∧ en.size = es.length ∧
    (∀ (k : Nat) p, es[k]? = some p → ∃ x, en[k]? = some x ∧ x.key = p.1 ∧ Gr p.1 ∧ VR ρ p.2 x.val)
  inj : ∀ i j s s', (H i).isSome → (H j).isSome → ρ i = some s → ρ j = some s' → s.blk = s'.blk → β ≤ i → i = j
def SameOut (w w' : World) : Prop := w'.os = w.os ∧ w'.tape = w.tape ∧ w'.output = w.output
theorem SameOut.refl (w : World) : SameOut w w := ⟨rfl, rfl, rfl⟩
theorem SameOut.trans {a b c : World} (h : SameOut a b) (k : SameOut b c) : SameOut a c := ⟨k.1.trans h.1, k.2.1.trans h.2.1, k.2.2.trans h.2.2⟩
structure Ok (β lo : Nat) (ρ : Rho) (n : Nat) (H : Heap) (w : World) (ρ' : Rho) (n' : Nat) (H' : Heap) (w' : World) : Prop where
  sim : Sim β ρ' H' w'
  le : n ≤ n'
  old : ∀ i, i < n → ρ' i = ρ i
  far : ∀ i, n' ≤ i → ρ' i = ρ i
  low : ∀ i, i < lo → H' i = H i
  size : w.heap.size ≤ w'.heap.size
  keep : ∀ B, B < w.heap.size → (∀ i s, lo ≤ i → i < n → (H i).isSome → ρ i = some s → s.blk ≠ B) → w'.heap[B]? = w.heap[B]?
  fresh : ∀ i s, n ≤ i → i < n' → ρ' i = some s → w.heap.size ≤ s.blk ∨ ∃ j t, lo ≤ j ∧ j < n ∧ (H j).isSome ∧ ρ j = some t ∧ t.blk = s.blk
  dead : ∀ i, i < n → H i = none → H' i = none
  out : SameOut w w'
end Go.Proofs.YtlpcdcpcfeaecaaAb
end
section
namespace Go.Proofs.YtlpcdcpcfeaecaaAb
open Go
def Rho.set (ρ : Rho) (n : Nat) (s : Spot) : Rho := fun i => if i = n then some s else ρ i
theorem Rho.le_set {ρ : Rho} {n : Nat} {s : Spot} (h : ρ n = none) : ρ.le (ρ.set n s) := by
  intro i t ht
  unfold Rho.set
  split
  · rename_i e; subst e; rw [h] at ht; cases ht
  · exact ht
theorem Rho.set_same (ρ : Rho) (n : Nat) (s : Spot) : (ρ.set n s) n = some s := by simp [Rho.set]
theorem Rho.set_ne (ρ : Rho) {n i : Nat} (s : Spot) (h : i ≠ n) : (ρ.set n s) i = ρ i := by simp [Rho.set, h]
theorem Heap.set_same (H : Heap) (n : Nat) (o : Ob) : (H.set n o) n = some o := by simp [Heap.set]
theorem Heap.set_ne (H : Heap) {n i : Nat} (o : Ob) (h : i ≠ n) : (H.set n o) i = H i := by simp [Heap.set, h]
theorem Heap.del_same (H : Heap) (n : Nat) : (H.del n) n = none := by simp [Heap.del]
theorem Heap.del_ne (H : Heap) {n i : Nat} (h : i ≠ n) : (H.del n) i = H i := by simp [Heap.del, h]
section
variable {β : Nat} {ρ : Rho} {H : Heap} {w : World}
theorem Sim.lt (h : Sim β ρ H w) {i : Nat} {s : Spot} (hl : (H i).isSome) (hr : ρ i = some s) : s.blk < w.heap.size := by
  obtain ⟨o, ho⟩ := Option.isSome_iff_exists.1 hl
  cases o with
  | row e c =>
    obtain ⟨cc, T, fz, h1, _⟩ := h.row i e c s ho hr
    exact (Array.getElem?_eq_some_iff.1 h1).1
  | mp es =>
    obtain ⟨en, cl, h1, _⟩ := h.mp i es s ho hr
    exact (Array.getElem?_eq_some_iff.1 h1).1
theorem Sim.cell (h : Sim β ρ H w) {i e : Nat} {c : List Value} {s : Spot} (ho : H i = some (.row e c)) (hr : ρ i = some s) {k : Nat} {v : Value} (hk : c[k]? = some v) :
    ∃ v', w.cell? ⟨s.blk, s.off + k, none⟩ = some v' ∧ VR ρ v v' := by
  obtain ⟨cc, T, fz, h1, _, _, _, h5, _⟩ := h.row i e c s ho hr
  obtain ⟨v', hv, hR⟩ := h5 k v hk
  exact ⟨v', by simp [World.cell?, h1, hv], hR⟩
theorem Sim.same_heap (h : Sim β ρ H w) {w' : World} (hw : w'.heap = w.heap) : Sim β ρ H w' :=
  ⟨fun i e c s a b => by rw [hw]; exact h.row i e c s a b, fun i es s a b => by rw [hw]; exact h.mp i es s a b, h.inj⟩
theorem Sim.alloc (h : Sim β ρ H w) {n : Nat} (hn : ρ n = none) {w' : World} (hsz : w.heap.size < w'.heap.size)
    (hw : ∀ B, B < w.heap.size → w'.heap[B]? = w.heap[B]?) {o : Ob} {s : Spot} (hs : s.blk = w.heap.size)
    (hrow : ∀ e c, o = .row e c → ∃ cc T fz, w'.heap[s.blk]? = some (.cells cc T fz) ∧ s.esz = e ∧ c.length ≤ s.room ∧ s.off + s.room ≤ cc.size ∧
      (∀ (k : Nat) v, c[k]? = some v → ∃ v', cc[s.off + k]? = some v' ∧ VR (ρ.set n s) v v') ∧ (∀ k, k < s.room → ¬ (fz.1 ≤ s.off + k ∧ s.off + k < fz.2)) ∧ (∀ v ∈ c, v.oneCell' = true))
    (hmp : ∀ es, o = .mp es → ∃ en cl, w'.heap[s.blk]? = some (.map en cl) ∧ en.size = es.length ∧
      (∀ (k : Nat) p, es[k]? = some p → ∃ x, en[k]? = some x ∧ x.key = p.1 ∧ Gr p.1 ∧ VR (ρ.set n s) p.2 x.val)) :
    Sim β (ρ.set n s) (H.set n o) w' := by
  have hle : ρ.le (ρ.set n s) := Rho.le_set hn
  refine ⟨fun i e c t ho hr => ?_, fun i es t ho hr => ?_, fun i j t t' hi hj hr hr' hb hβ => ?_⟩
  · by_cases hi : i = n
    · subst hi
      rw [Heap.set_same] at ho; rw [Rho.set_same] at hr
      obtain rfl := Option.some.inj hr
      obtain ⟨cc, T, fz, h1, h2, h3, h4, h5, h6, h7⟩ := hrow e c (Option.some.inj ho)
      exact ⟨cc, T, fz, h1, h2, h3, h4, h5, fun _ => h6, fun _ => h7⟩
    · rw [Heap.set_ne _ _ hi] at ho; rw [Rho.set_ne _ _ hi] at hr
      obtain ⟨cc, T, fz, h1, h2, h3, h4, h5, h6, h7⟩ := h.row i e c t ho hr
      refine ⟨cc, T, fz, ?_, h2, h3, h4, fun k v hk => ?_, h6, h7⟩
      · rw [hw _ (Array.getElem?_eq_some_iff.1 h1).1]; exact h1
      · obtain ⟨v', a, b⟩ := h5 k v hk; exact ⟨v', a, b.mono hle⟩
  · by_cases hi : i = n
    · subst hi
      rw [Heap.set_same] at ho; rw [Rho.set_same] at hr
      obtain rfl := Option.some.inj hr
      exact hmp es (Option.some.inj ho)
    · rw [Heap.set_ne _ _ hi] at ho; rw [Rho.set_ne _ _ hi] at hr
      obtain ⟨en, cl, h1, h2, h3⟩ := h.mp i es t ho hr
      refine ⟨en, cl, ?_, h2, fun k p hk => ?_⟩
      · rw [hw _ (Array.getElem?_eq_some_iff.1 h1).1]; exact h1
      · obtain ⟨x, a, b, c, d⟩ := h3 k p hk; exact ⟨x, a, b, c, d.mono hle⟩
  · by_cases hin : i = n
    · by_cases hjn : j = n
      · rw [hin, hjn]
      · exfalso
        subst hin
        rw [Rho.set_same] at hr; rw [Rho.set_ne _ _ hjn] at hr'; rw [Heap.set_ne _ _ hjn] at hj
        obtain rfl := Option.some.inj hr
        have := h.lt hj hr'
        omega
    · by_cases hjn : j = n
      · exfalso
        subst hjn
        rw [Rho.set_same] at hr'; rw [Rho.set_ne _ _ hin] at hr; rw [Heap.set_ne _ _ hin] at hi
        obtain rfl := Option.some.inj hr'
        have := h.lt hi hr
        omega
      · rw [Rho.set_ne _ _ hin] at hr; rw [Rho.set_ne _ _ hjn] at hr'; rw [Heap.set_ne _ _ hin] at hi; rw [Heap.set_ne _ _ hjn] at hj
        exact h.inj i j t t' hi hj hr hr' hb hβ
theorem Ok.same {lo n : Nat} (h : Sim β ρ H w) {w' : World} (hw : w'.heap = w.heap) (ho : SameOut w w') : Ok β lo ρ n H w ρ n H w' :=
  ⟨h.same_heap hw, Nat.le_refl _, fun _ _ => rfl, fun _ _ => rfl, fun _ _ => rfl, by rw [hw]; exact Nat.le_refl _, fun B _ _ => by rw [hw], fun i _ h1 h2 => by omega, fun _ _ h => h, ho⟩
theorem Ok.refl {lo n : Nat} (h : Sim β ρ H w) : Ok β lo ρ n H w ρ n H w := Ok.same h rfl (.refl _)
theorem Ok.rho {lo n n' : Nat} {ρ' : Rho} {H' : Heap} {w' : World} (h : Ok β lo ρ n H w ρ' n' H' w') (hf : ∀ i, n ≤ i → i < n' → ρ i = none) : ρ.le ρ' := by
  intro i s hs
  by_cases h1 : i < n
  · rw [h.old i h1]; exact hs
  · by_cases h2 : i < n'
    · rw [hf i (by omega) h2] at hs; cases hs
    · rw [h.far i (by omega)]; exact hs
theorem Ok.row {lo n : Nat} (h : Sim β ρ H w) (hlo : lo ≤ n) (hn : ρ n = none) {w' : World} (cc : Array Value) (T : TypeId) (fz : Nat × Nat)
    (hw : w'.heap = w.heap.push (.cells cc T fz)) (e : Nat) (c : List Value) (room : Nat) (hroom : c.length ≤ room) (hcc : room ≤ cc.size)
    (hval : ∀ (k : Nat) v, c[k]? = some v → ∃ v', cc[k]? = some v' ∧ VR ρ v v') (hfz : ∀ k, k < room → ¬ (fz.1 ≤ k ∧ k < fz.2)) (hone : ∀ v ∈ c, v.oneCell' = true) (hout : SameOut w w' := by exact ⟨rfl, rfl, rfl⟩) :
    Ok β lo ρ n H w (ρ.set n ⟨w.heap.size, 0, room, e⟩) (n + 1) (H.set n (.row e c)) w' := by
  have hlt : ∀ B, B < w.heap.size → w'.heap[B]? = w.heap[B]? := fun B hB => by
    rw [hw, Array.getElem?_push, if_neg (by omega)]
  refine ⟨?_, by omega, fun i hi => Rho.set_ne _ _ (by omega), fun i hi => Rho.set_ne _ _ (by omega), fun i hi => Heap.set_ne _ _ (by omega), by rw [hw]; simp, fun B hB _ => hlt B hB, fun i s h1 h2 hr => ?_, fun i hi h => by rw [Heap.set_ne _ _ (by omega)]; exact h, hout⟩
  rotate_left
  · obtain rfl : i = n := by omega
    rw [Rho.set_same] at hr
    obtain rfl := Option.some.inj hr
    exact .inl (Nat.le_refl _)
  refine h.alloc hn (by rw [hw]; simp) hlt rfl (fun e' c' ho => ?_) (fun es ho => by cases ho)
  obtain ⟨rfl, rfl⟩ := Ob.row.inj ho
  refine ⟨cc, T, fz, by rw [hw]; simp, rfl, hroom, by simpa using hcc, fun k v hk => ?_, fun k hk => by simpa using hfz k hk, hone⟩
  obtain ⟨v', a, b⟩ := hval k v hk
  exact ⟨v', by simpa using a, b.mono (Rho.le_set hn)⟩
end
end Go.Proofs.YtlpcdcpcfeaecaaAb
end
section
namespace Go.Proofs.YtlpcdcpcfeaecaaAb
open Go
def splice (c : List Value) (o : Nat) (l : List Value) : List Value := c.take o ++ l ++ c.drop (o + l.length)
theorem length_splice {c : List Value} {o : Nat} {l : List Value} (h : o + l.length ≤ c.length) : (splice c o l).length = c.length := by
  simp [splice]; omega
theorem getElem?_splice {c : List Value} {o : Nat} {l : List Value} (h : o + l.length ≤ c.length) (k : Nat) :
    (splice c o l)[k]? = if k < o then c[k]? else if k < o + l.length then l[k - o]? else c[k]? := by
  unfold splice
  have ht : (c.take o).length = o := by simp; omega
  by_cases h1 : k < o
  · rw [if_pos h1, List.append_assoc, List.getElem?_append_left (by omega), List.getElem?_take_of_lt h1]
  · rw [if_neg h1]
    by_cases h2 : k < o + l.length
    · rw [if_pos h2, List.append_assoc, List.getElem?_append_right (by omega), List.getElem?_append_left (by omega), ht]
    · rw [if_neg h2, List.getElem?_append_right (by simp; omega), List.getElem?_drop]
      congr 1
      simp; omega
theorem heap_setCell (w : World) (b o : Nat) (v : Value) (cc : Array Value) (T : TypeId) (fz : Nat × Nat) (h : w.heap[b]? = some (.cells cc T fz)) :
    (w.setCell ⟨b, o, none⟩ v).heap[b]? = some (.cells (cc.setIfInBounds o v) T fz) ∧ ∀ B, B ≠ b → (w.setCell ⟨b, o, none⟩ v).heap[B]? = w.heap[B]? := by
  constructor
  · simp [World.setCell, Array.getElem?_modify, h]
  · intro B hB
    simp [World.setCell, Array.getElem?_modify, Ne.symm hB]
theorem size_setCell (w : World) (a : Addr) (v : Value) : (w.setCell a v).heap.size = w.heap.size := by simp [World.setCell]
theorem heap_setCells (b : Nat) (T : TypeId) (fz : Nat × Nat) : ∀ (vs : List Value) (o : Nat) (w : World) (cc : Array Value), w.heap[b]? = some (.cells cc T fz) → o + vs.length ≤ cc.size →
    (∃ cc' : Array Value, (w.setCells b o vs).heap[b]? = some (.cells cc' T fz) ∧ cc'.size = cc.size ∧ ∀ k, cc'[k]? = if k < o then cc[k]? else if k < o + vs.length then vs[k - o]? else cc[k]?) ∧
      (∀ B, B ≠ b → (w.setCells b o vs).heap[B]? = w.heap[B]?) ∧ (w.setCells b o vs).heap.size = w.heap.size
  | [], o, w, cc, h, _ => ⟨⟨cc, h, rfl, fun k => by simp; omega⟩, fun _ _ => rfl, rfl⟩
  | v :: r, o, w, cc, h, hl => by
    simp only [List.length_cons] at hl
    obtain ⟨h1, h2⟩ := heap_setCell w b o v cc T fz h
    obtain ⟨⟨cc', a, s, e⟩, f, g⟩ := heap_setCells b T fz r (o + 1) (w.setCell ⟨b, o, none⟩ v) (cc.setIfInBounds o v) h1 (by simp; omega)
    refine ⟨⟨cc', a, by simpa using s, fun k => ?_⟩, fun B hB => (f B hB).trans (h2 B hB), g.trans (size_setCell _ _ _)⟩
    rw [e k]
    by_cases k1 : k < o
    · rw [if_pos (by omega), if_pos k1, Array.getElem?_setIfInBounds_ne (by omega)]
    · by_cases k2 : k = o
      · subst k2
        rw [if_pos (by omega), if_neg (by omega), if_pos (by simp)]
        rw [Array.getElem?_setIfInBounds_self_of_lt (by omega)]
        simp
      · rw [if_neg (by omega), if_neg k1]
        by_cases k3 : k < o + 1 + r.length
        · rw [if_pos k3, if_pos (by simp; omega)]
          rw [show k - o = (k - (o + 1)) + 1 by omega, List.getElem?_cons_succ]
        · rw [if_neg k3, if_neg (by simp; omega), Array.getElem?_setIfInBounds_ne (by omega)]
section
variable {β : Nat} {ρ : Rho} {H : Heap} {w : World}
theorem setCells_out (b : Nat) : ∀ (vs : List Value) (o : Nat) (w : World), SameOut w (w.setCells b o vs)
  | [], _, w => .refl w
  | v :: r, o, w => by
    refine SameOut.trans (b := w.setCell ⟨b, o, none⟩ v) ?_ (setCells_out b r (o + 1) _)
    exact ⟨by simp [World.setCell], by simp [World.setCell], by simp [World.setCell]⟩
theorem Ok.store {lo n i e : Nat} {c : List Value} {s : Spot} (h : Sim β ρ H w) (hβ : β ≤ lo) (hi : lo ≤ i) (hin : i < n) (ho : H i = some (.row e c)) (hr : ρ i = some s)
    {o : Nat} {l l' : List Value} (hl : o + l.length ≤ c.length) (hll : l'.length = l.length) (hV : ∀ (k : Nat) v, l[k]? = some v → ∃ v', l'[k]? = some v' ∧ VR ρ v v')
    (h1 : ∀ v ∈ l, v.oneCell' = true) :
    Ok β lo ρ n H w ρ n (H.set i (.row e (splice c o l))) (w.setCells s.blk (s.off + o) l') := by
  obtain ⟨cc, T, fz, hb, he, hlen, hroom, hcell, hfz, hone⟩ := h.row i e c s ho hr
  obtain ⟨⟨cc', b1, b2, b3⟩, b4, b5⟩ := heap_setCells s.blk T fz l' (s.off + o) w cc hb (by omega)
  have hother : ∀ j t, j ≠ i → (H j).isSome → ρ j = some t → t.blk ≠ s.blk := fun j t hj hl ht heq =>
    hj (h.inj i j s t (by simp [ho]) hl hr ht heq.symm (by omega)).symm
  refine ⟨⟨fun j e' c' t ho' hr' => ?_, fun j es t ho' hr' => ?_, fun j k t t' hj hk hr1 hr2 => ?_⟩, Nat.le_refl _, fun _ _ => rfl, fun _ _ => rfl,
    fun j hj => Heap.set_ne _ _ (by omega), by rw [b5]; exact Nat.le_refl _, fun B hB hne => b4 B (fun heq => hne i s hi hin (by simp [ho]) hr heq.symm),
    fun j _ h1 h2 => by omega, fun j hj h => by rw [Heap.set_ne _ _ (fun e => by subst e; rw [ho] at h; cases h)]; exact h, setCells_out _ _ _ _⟩
  · by_cases hj : j = i
    · subst hj
      rw [Heap.set_same] at ho'
      obtain ⟨rfl, rfl⟩ := Ob.row.inj (Option.some.inj ho')
      rw [hr] at hr'
      obtain rfl := Option.some.inj hr'
      refine ⟨cc', T, fz, b1, he, by rw [length_splice hl]; exact hlen, by omega, fun k v hk => ?_, hfz, fun _ v hv => ?_⟩
      · rw [getElem?_splice hl] at hk
        rw [b3]
        by_cases k1 : k < o
        · rw [if_pos k1] at hk
          rw [if_pos (by omega)]
          exact hcell k v hk
        · rw [if_neg k1] at hk
          rw [if_neg (by omega)]
          by_cases k2 : k < o + l.length
          · rw [if_pos k2] at hk
            rw [if_pos (by omega), show s.off + k - (s.off + o) = k - o by omega]
            exact hV _ v hk
          · rw [if_neg k2] at hk
            rw [if_neg (by omega)]
            exact hcell k v hk
      · simp only [splice, List.mem_append] at hv
        have hone' := hone (by omega)
        rcases hv with (hv | hv) | hv
        · exact hone' v (List.mem_of_mem_take hv)
        · exact h1 v hv
        · exact hone' v (List.mem_of_mem_drop hv)
    · rw [Heap.set_ne _ _ hj] at ho'
      obtain ⟨cc2, T2, fz2, a1, a2, a3, a4, a5, a6, a7⟩ := h.row j e' c' t ho' hr'
      exact ⟨cc2, T2, fz2, by rw [b4 _ (hother j t hj (by simp [ho']) hr')]; exact a1, a2, a3, a4, a5, a6, a7⟩
  · by_cases hj : j = i
    · subst hj; rw [Heap.set_same] at ho'; cases Option.some.inj ho'
    · rw [Heap.set_ne _ _ hj] at ho'
      obtain ⟨en, cl, a1, a2, a3⟩ := h.mp j es t ho' hr'
      exact ⟨en, cl, by rw [b4 _ (hother j t hj (by simp [ho']) hr')]; exact a1, a2, a3⟩
  · have live : ∀ x, (H.set i (.row e (splice c o l)) x).isSome → (H x).isSome := fun x hx => by
      by_cases hxi : x = i
      · subst hxi; simp [ho]
      · rwa [Heap.set_ne _ _ hxi] at hx
    exact h.inj j k t t' (live j hj) (live k hk) hr1 hr2
end
end Go.Proofs.YtlpcdcpcfeaecaaAb
end
section
namespace Go.Proofs.YtlpcdcpcfeaecaaAb
open Go
def isRow : TypeDesc → Bool
  | .struct _ | .array _ _ => true
  | _ => false
def Cells (v : Value) : List Value := v.cells.toList
inductive Step (P : Program) (lo : Nat) (ev : Operand → Option Value) (n : Nat) (H : Heap) : Oper → Value → Nat → Heap → Prop
  | move {o : Oper} {x : Operand} {v : Value} (ho : o.op = .move x ∨ o.op = .assign x) (hx : ev x = some v) : Step P lo ev n H o v n H
  | ground {o : Oper} {v : Value} (hs : ∀ cs b, o.op ≠ .select cs b) (hv : ∀ x ∈ o.op.operands, ∃ u, ev x = some u ∧ Gr u) (hg : Gr v)
      (hr : ∀ w, (execOp (fun x => (ev x).getD undef) o).run P w = .ok (.value v) w) : Step P lo ev n H o v n H
  | pick {o : Oper} {c a b : Operand} {t : Bool} {v : Value} (ho : o.op = .pick c a b) (hc : ev c = some (.bool t)) (hv : ev (if t then a else b) = some v) : Step P lo ev n H o v n H
  | alloc {o : Oper} {t : TypeId} {i : TypeInfo} {z : Value} (e : Nat) (ho : o.op = .alloc t) (hi : P.info? t = some i) (hz : i.zero = some z) (hg : ∀ v ∈ Cells z, Gr v ∧ v.oneCell' = true) :
      Step P lo ev n H o (.pointer (some ⟨n, 0, none⟩)) (n + 1) (H.set n (.row e (Cells z)))
  | box {o : Oper} {t : TypeId} {x : Operand} {v : Value} (e : Nat) (ho : o.op = .box t x) (hx : ev x = some v) (hg : ∀ u ∈ Cells v, u.oneCell' = true) :
      Step P lo ev n H o (.pointer (some ⟨n, 0, none⟩)) (n + 1) (H.set n (.row e (Cells v)))
  | load1 {o : Oper} {t : TypeId} {x : Operand} {d : TypeDesc} {b k e : Nat} {c : List Value} {v : Value} (ho : o.op = .load t x) (ht : P.underlying t = some d) (hd : isRow d = false)
      (hx : ev x = some (.pointer (some ⟨b, k, none⟩))) (hb : H b = some (.row e c)) (hk : c[k]? = some v) : Step P lo ev n H o v n H
  | loadN {o : Oper} {t : TypeId} {x : Operand} {d : TypeDesc} {i : TypeInfo} {b k e : Nat} {c l : List Value} (ho : o.op = .load t x) (ht : P.underlying t = some d) (hd : isRow d = true)
      (hi : P.info? t = some i) (hx : ev x = some (.pointer (some ⟨b, k, none⟩))) (hb : H b = some (.row e c)) (hk : (c.drop k).take i.size = l) (hl : l.length = i.size) :
      Step P lo ev n H o (.agg l.toArray) n H
  | store {o : Oper} {t : TypeId} {x y : Operand} {i : TypeInfo} {b k e : Nat} {c : List Value} {v : Value} (ho : o.op = .store t x y) (hi : P.info? t = some i)
      (hx : ev x = some (.pointer (some ⟨b, k, none⟩))) (hy : ev y = some v) (hs : (Cells v).length = i.size) (hb : H b = some (.row e c)) (hk : k + i.size ≤ c.length) (hlo : lo ≤ b) (hbn : b < n)
      (h1 : ∀ u ∈ Cells v, u.oneCell' = true) : Step P lo ev n H o undef n (H.set b (.row e (splice c k (Cells v))))
  | nilCheck {o : Oper} {x : Operand} {a : Addr} (ho : o.op = .nilCheck x) (hx : ev x = some (.pointer (some a))) : Step P lo ev n H o (.pointer (some a)) n H
  | nilCheckF {o : Oper} {x : Operand} {f : FuncId} {a c : Array Value} (ho : o.op = .nilCheck x) (hx : ev x = some (.func (.func f) a c)) : Step P lo ev n H o (.func (.func f) a c) n H
  | fieldAddr {o : Oper} {s : TypeId} {x : Operand} {j b k : Nat} {fs : Array Field} {f : Field} {i : TypeInfo} (ho : o.op = .fieldAddr s x j) (hs : P.underlying s = some (.struct fs)) (hf : fs[j]? = some f)
      (hi : P.info? f.type = some i) (h0 : (i.size == 0) = false) (hx : ev x = some (.pointer (some ⟨b, k, none⟩))) : Step P lo ev n H o (.pointer (some ⟨b, k + f.offset, none⟩)) n H
  | field1 {o : Oper} {s : TypeId} {x : Operand} {j : Nat} {fs : Array Field} {f : Field} {d : TypeDesc} {cs : Array Value} {v : Value} (ho : o.op = .field s x j) (hs : P.underlying s = some (.struct fs)) (hf : fs[j]? = some f)
      (ht : P.underlying f.type = some d) (hd : isRow d = false) (hx : ev x = some (.agg cs)) (hv : cs[f.offset]? = some v) : Step P lo ev n H o v n H
  | fieldN {o : Oper} {s : TypeId} {x : Operand} {j : Nat} {fs : Array Field} {f : Field} {d : TypeDesc} {i : TypeInfo} {cs : Array Value} (ho : o.op = .field s x j) (hs : P.underlying s = some (.struct fs)) (hf : fs[j]? = some f)
      (ht : P.underlying f.type = some d) (hd : isRow d = true) (hi : P.info? f.type = some i) (hx : ev x = some (.agg cs)) : Step P lo ev n H o (.agg (cs.extract f.offset (f.offset + i.size))) n H
  | indexAddrS {o : Oper} {t : TypeId} {x y : Operand} {el : TypeId} {i : TypeInfo} {b k len cap : Nat} {q : IntKind} {j : Int} (ho : o.op = .indexAddr t x y) (ht : P.underlying t = some (.slice el)) (hi : P.info? el = some i)
      (hx : ev x = some (.slice (some ⟨b, k, none⟩) len cap)) (hy : ev y = some (.int q j)) (h0 : 0 ≤ j) (hj : j < len) : Step P lo ev n H o (.pointer (some ⟨b, k + j.toNat * i.size, none⟩)) n H
  | indexAddrA {o : Oper} {t : TypeId} {x y : Operand} {el : TypeId} {i : TypeInfo} {b k len : Nat} {q : IntKind} {j : Int} (ho : o.op = .indexAddr t x y) (ht : P.underlying t = some (.array len el)) (hi : P.info? el = some i)
      (hx : ev x = some (.pointer (some ⟨b, k, none⟩))) (hy : ev y = some (.int q j)) (h0 : 0 ≤ j) (hj : j < len) : Step P lo ev n H o (.pointer (some ⟨b, k + j.toNat * i.size, none⟩)) n H
  | indexA1 {o : Oper} {t : TypeId} {x y : Operand} {el : TypeId} {d : TypeDesc} {i : TypeInfo} {len : Nat} {q : IntKind} {j : Int} {cs : Array Value} {v : Value} (ho : o.op = .index t x y) (ht : P.underlying t = some (.array len el)) (hi : P.info? el = some i)
      (hd : P.underlying el = some d) (hd1 : isRow d = false) (hx : ev x = some (.agg cs)) (hy : ev y = some (.int q j)) (h0 : 0 ≤ j) (hj : j < len) (hv : cs[j.toNat * i.size]? = some v) : Step P lo ev n H o v n H
  | extract {o : Oper} {x : Operand} {j : Nat} {vs : Array Value} {v : Value} (ho : o.op = .extract x j) (hx : ev x = some (.tuple vs)) (hv : vs[j]? = some v) : Step P lo ev n H o v n H
  | mkIface {o : Oper} {t : TypeId} {x : Operand} {d : TypeDesc} {v : Value} (ho : o.op = .makeInterface t x) (ht : P.underlying t = some d) (hd : ∀ ms, d ≠ .interface ms) (hx : ev x = some v) : Step P lo ev n H o (.iface t v) n H
  | mkFunc {o : Oper} {f : Fn} {xs ys : Array Operand} {a c : Array Value} (ho : o.op = .makeFunc f xs ys) (hx : xs.toList.mapM ev = some a.toList) (hy : ys.toList.mapM ev = some c.toList) : Step P lo ev n H o (.func f a c) n H
  | len {o : Oper} {t : TypeId} {x : Operand} {el : TypeId} {a : Option Addr} {len cap : Nat} (ho : o.op = .call { callee := .builtin .len, args := #[x], argTypes := #[t] }) (ht : P.underlying t = some (.slice el))
      (hx : ev x = some (.slice a len cap)) : Step P lo ev n H o (.int .i64 len) n H
  | assert {o : Oper} {x : Operand} {t s : TypeId} {ok : Bool} {d : TypeDesc} {v : Value} (ho : o.op = .typeAssert x t s ok) (ht : P.underlying s = some d) (hd : ∀ ms, d ≠ .interface ms) (hx : ev x = some (.iface s v)) :
      Step P lo ev n H o (if ok then .tuple #[v, .bool true] else v) n H
def EvR (ρ : Rho) (ev : Operand → Option Value) (evc : Operand → Value) : Prop := ∀ x v, ev x = some v → VR ρ v (evc x)
def Lands (P : Program) (β lo : Nat) (ρ : Rho) (n : Nat) (H : Heap) (w : World) (evc : Operand → Value) (o : Oper) (v : Value) (n' : Nat) (H' : Heap) : Prop :=
  ∃ v' w' ρ', ((execOp evc o).run P w = .ok (.value v') w' ∨ ((execOp evc o).run P w = .ok .skip w' ∧ v' = undef)) ∧ VR ρ' v v' ∧ Ok β lo ρ n H w ρ' n' H' w'
theorem VR.cells {ρ : Rho} {v v' : Value} (h : VR ρ v v') : (Cells v').length = (Cells v).length ∧ ∀ (k : Nat) u, (Cells v)[k]? = some u → ∃ u', (Cells v')[k]? = some u' ∧ VR ρ u u' := by
  have one : ∀ {a b : Value}, VR ρ a b → a.cells = #[a] → b.cells = #[b] → (Cells b).length = (Cells a).length ∧ ∀ (k : Nat) u, (Cells a)[k]? = some u → ∃ u', (Cells b)[k]? = some u' ∧ VR ρ u u' := by
    intro a b h ha hb
    simp only [Cells, ha, hb]
    refine ⟨rfl, fun k u hk => ?_⟩
    cases k with
    | zero => simp at hk; subst hk; exact ⟨b, rfl, h⟩
    | succ k => simp at hk
  cases h with
  | agg c c' hs h =>
    simp only [Cells, Value.cells, Array.length_toList]
    refine ⟨hs.symm, fun k u hk => ?_⟩
    simp only [Array.getElem?_toList] at hk ⊢
    obtain ⟨hk1, hk2⟩ := Array.getElem?_eq_some_iff.1 hk
    subst hk2
    exact ⟨c'[k]'(by omega), by rw [Array.getElem?_eq_getElem (by omega)], h k hk1 (by omega)⟩
  | tuple c c' hs h => exact one (.tuple c c' hs h) rfl rfl
  | bool b => exact one (.bool b) rfl rfl
  | int k n => exact one (.int k n) rfl rfl
  | string s => exact one (.string s) rfl rfl
  | nilp => exact one .nilp rfl rfl
  | ptr b o s h => exact one (.ptr b o s h) rfl rfl
  | nils => exact one .nils rfl rfl
  | sl b o len cap cap' s h hl hr hc => exact one (.sl b o len cap cap' s h hl hr hc) rfl rfl
  | sl0 b o x s h => exact one (.sl0 b o x s h) rfl rfl
  | nilm => exact one .nilm rfl rfl
  | map r s h => exact one (.map r s h) rfl rfl
  | nilf => exact one .nilf rfl rfl
  | func f a a' c c' ha hc hav hcv => exact one (.func f a a' c c' ha hc hav hcv) rfl rfl
  | nilIface => exact one .nilIface rfl rfl
  | iface t v v' h => exact one (.iface t v v' h) rfl rfl
theorem VR.oneCell {ρ : Rho} {v v' : Value} (h : VR ρ v v') (h1 : v.oneCell' = true) : v'.oneCell' = true := by
  cases h <;> first | rfl | exact h1
theorem isAgg_run {P : Program} {t : TypeId} {d : TypeDesc} (h : P.underlying t = some d) (w : World) : (isAgg t).run P w = .ok (isRow d) w := by
  simp only [isAgg, Sem.run_bind, run_underlying h, Result.andThen_ok]
  cases d <;> rfl
theorem add_off (b k j : Nat) : (⟨b, k, none⟩ : Addr).add j = ⟨b, k + j, none⟩ := by unfold Addr.add; split <;> simp_all
section
variable {P : Program} {β lo n : Nat} {ρ : Rho} {H : Heap} {w : World} {evc : Operand → Value}
theorem Lands.pure {o : Oper} {v v' : Value} (hs : Sim β ρ H w) (hr : (execOp evc o).run P w = .ok (.value v') w) (hV : VR ρ v v') : Lands P β lo ρ n H w evc o v n H :=
  ⟨v', w, ρ, .inl hr, hV, .refl hs⟩
theorem loadCells_sim (hs : Sim β ρ H w) {b e : Nat} {c : List Value} {s : Spot} (hb : H b = some (.row e c)) (hr : ρ b = some s) {k m : Nat} {l : List Value} (hk : (c.drop k).take m = l) (hl : l.length = m) :
    ∃ l' : List Value, (loadCells ⟨s.blk, s.off + k, none⟩ m).run P w = .ok l'.toArray w ∧ l'.length = m ∧ ∀ (j : Nat) u, l[j]? = some u → ∃ u', l'[j]? = some u' ∧ VR ρ u u' := by
  have hc : ∀ j, j < m → ∃ u u', l[j]? = some u ∧ w.cell? ⟨s.blk, s.off + k + j, none⟩ = some u' ∧ VR ρ u u' := by
    intro j hj
    have hj' : j < l.length := by omega
    have hlj : l[j]? = c[k + j]? := by rw [← hk, List.getElem?_take_of_lt hj, List.getElem?_drop]
    obtain ⟨u', h1, h2⟩ := hs.cell hb hr (k := k + j) (v := l[j]) (by rw [← hlj]; exact List.getElem?_eq_getElem hj')
    exact ⟨l[j], u', List.getElem?_eq_getElem hj', by rw [Nat.add_assoc]; exact h1, h2⟩
  refine ⟨(List.range m).map fun j => (w.cell? ⟨s.blk, s.off + k + j, none⟩).getD undef, ?_, by simp, fun j u hu => ?_⟩
  · exact run_loadCells w _ m _ fun j hj => by
      obtain ⟨u, u', _, h2, _⟩ := hc j hj
      rw [add_off, h2]; rfl
  · have hj : j < m := by rw [← hl]; exact (List.getElem?_eq_some_iff.1 hu).1
    obtain ⟨v, u', h1, h2, h3⟩ := hc j hj
    rw [hu] at h1
    obtain rfl := Option.some.inj h1
    exact ⟨u', by simp [hj, h2], h3⟩
theorem VR.ptr_inv {b k : Nat} {v' : Value} (h : VR ρ (.pointer (some ⟨b, k, none⟩)) v') : ∃ s, ρ b = some s ∧ v' = .pointer (some ⟨s.blk, s.off + k, none⟩) := by
  cases h with
  | ptr b o s h => exact ⟨s, h, rfl⟩
theorem VR.agg_inv {c : Array Value} {v' : Value} (h : VR ρ (.agg c) v') : ∃ c' : Array Value, v' = .agg c' ∧ c.size = c'.size ∧ ∀ (k : Nat) u, c[k]? = some u → ∃ u', c'[k]? = some u' ∧ VR ρ u u' := by
  cases h with
  | agg c c' hs h =>
    refine ⟨c', rfl, hs, fun k u hk => ?_⟩
    obtain ⟨hk1, hk2⟩ := Array.getElem?_eq_some_iff.1 hk
    subst hk2
    exact ⟨c'[k]'(by omega), by rw [Array.getElem?_eq_getElem (by omega)], h k hk1 (by omega)⟩
theorem VR.tuple_inv {c : Array Value} {v' : Value} (h : VR ρ (.tuple c) v') : ∃ c' : Array Value, v' = .tuple c' ∧ c.size = c'.size ∧ ∀ (k : Nat) u, c[k]? = some u → ∃ u', c'[k]? = some u' ∧ VR ρ u u' := by
  cases h with
  | tuple c c' hs h =>
    refine ⟨c', rfl, hs, fun k u hk => ?_⟩
    obtain ⟨hk1, hk2⟩ := Array.getElem?_eq_some_iff.1 hk
    subst hk2
    exact ⟨c'[k]'(by omega), by rw [Array.getElem?_eq_getElem (by omega)], h k hk1 (by omega)⟩
theorem VR.agg_of {c c' : Array Value} (hs : c.size = c'.size) (h : ∀ (k : Nat) u, c[k]? = some u → ∃ u', c'[k]? = some u' ∧ VR ρ u u') : VR ρ (.agg c) (.agg c') :=
  .agg c c' hs fun i h1 h2 => by
    obtain ⟨u', a, b⟩ := h i c[i] (Array.getElem?_eq_getElem h1)
    rw [Array.getElem?_eq_getElem h2] at a
    rw [Option.some.inj a]; exact b
theorem mapM_ev {ev : Operand → Option Value} (he : EvR ρ ev evc) : ∀ (xs : List Operand) (a : List Value), xs.mapM ev = some a → a.length = xs.length ∧ ∀ (k : Nat) u, a[k]? = some u → ∃ u', (xs.map evc)[k]? = some u' ∧ VR ρ u u'
  | [], a, h => by simp at h; subst h; simp
  | x :: xs, a, h => by
    simp only [List.mapM_cons, bind, pure, Option.bind_eq_some_iff] at h
    obtain ⟨v, hv, r, hr, ha⟩ := h
    obtain rfl := Option.some.inj ha
    obtain ⟨i1, i2⟩ := mapM_ev he xs r hr
    refine ⟨by simp [i1], fun k u hk => ?_⟩
    cases k with
    | zero => simp at hk; subst hk; exact ⟨evc x, by simp, he x v hv⟩
    | succ k => simpa using i2 k u (by simpa using hk)
set_option linter.unusedVariables false in
theorem Step.sound {ev : Operand → Option Value} {o : Oper} {v : Value} {n' : Nat} {H' : Heap} (h : Step P lo ev n H o v n' H') (hβ : β ≤ lo) (hlo : lo ≤ n) (he : EvR ρ ev evc) (hs : Sim β ρ H w)
    (hf : ∀ i, n ≤ i → i < n' → ρ i = none) : Lands P β lo ρ n H w evc o v n' H' := by
  obtain ⟨dst, op, ty, pos, after, guard⟩ := o
  cases h with
  | move ho hx =>
    rcases ho with ho | ho <;> (simp only at ho; subst ho) <;> exact .pure hs rfl (he _ _ hx)
  | ground hsel hv hg hr =>
    have : execOp evc ⟨dst, op, ty, pos, after, guard⟩ = execOp (fun x => (ev x).getD undef) ⟨dst, op, ty, pos, after, guard⟩ := execOp_congr _ hsel fun x hx => by
      obtain ⟨u, h1, h2⟩ := hv x hx
      rw [h1]; exact h2.1 ρ _ (he x u h1)
    exact .pure hs (by rw [this]; exact hr w) (hg.2 ρ)
  | pick ho hc hv =>
    rename_i c a b t
    simp only at ho; subst ho
    have hc' := he _ _ hc
    have hcc : evc c = .bool t := by generalize evc c = z at hc'; cases hc'; rfl
    refine .pure (v' := evc (if t then a else b)) hs ?_ (he _ _ hv)
    cases t <;> simp [execOp, hcc, asBool]
  | alloc e ho hi hz hg =>
    rename_i t i z
    simp only at ho; subst ho
    refine ⟨_, _, _, .inl (by simp [execOp, Instr.alloc, zeroValue, typeInfo, hi, hz, newVar, newRow]; exact ⟨rfl, rfl⟩), ?_,
      Ok.row hs hlo (hf n (Nat.le_refl _) (Nat.lt_succ_self _)) z.cells t (0, 0) rfl e (Cells z) (Cells z).length (Nat.le_refl _) (by simp [Cells]) (fun k v hk => ⟨v, by simpa [Cells] using hk, (hg v (List.mem_of_getElem? hk)).1.2 ρ⟩) (fun k _ => by simp) (fun v hv => (hg v hv).2)⟩
    exact .ptr n 0 ⟨w.heap.size, 0, (Cells z).length, e⟩ (Rho.set_same _ _ _)
  | box e ho hx hg =>
    rename_i t x v
    simp only at ho; subst ho
    obtain ⟨l1, l2⟩ := (he _ _ hx).cells
    refine ⟨_, _, _, .inl (by simp [execOp, Instr.box, newVar, newRow]; exact ⟨rfl, rfl⟩), ?_,
      Ok.row hs hlo (hf n (Nat.le_refl _) (Nat.lt_succ_self _)) (evc x).cells t (0, 0) rfl e (Cells v) (Cells v).length (Nat.le_refl _) (by rw [← l1]; simp [Cells]) (fun k u hk => by obtain ⟨u', a, b⟩ := l2 k u hk; exact ⟨u', by simpa [Cells] using a, b⟩) (fun k _ => by simp) hg⟩
    exact .ptr n 0 ⟨w.heap.size, 0, (Cells v).length, e⟩ (Rho.set_same _ _ _)
  | load1 ho ht hd hx hb hk =>
    simp only at ho; subst ho
    obtain ⟨s, hr, hxx⟩ := (he _ _ hx).ptr_inv
    obtain ⟨v', h1, h2⟩ := hs.cell hb hr hk
    exact .pure hs (by simp [execOp, Instr.loadAt, Instr.sureAddr, hxx, loadVar, isAgg_run ht, hd, h1]) h2
  | loadN ho ht hd hi hx hb hk hl =>
    rename_i t x d i b k e c l
    simp only at ho; subst ho
    obtain ⟨s, hr, hxx⟩ := (he _ _ hx).ptr_inv
    obtain ⟨l', h1, h2, h3⟩ := loadCells_sim (P := P) hs hb hr hk hl
    refine .pure (v' := .agg l'.toArray) hs (by simp [execOp, Instr.loadAt, Instr.sureAddr, hxx, loadVar, isAgg_run ht, hd, sizeOf, typeInfo, hi, h1]) (VR.agg_of (by simp [hl, h2]) fun k u hk => by simpa using h3 k u (by simpa using hk))
  | store ho hi hx hy hsz hb hk hlo' hbn h1 =>
    rename_i t x y i b k e c v
    simp only at ho; subst ho
    obtain ⟨s, hr, hxx⟩ := (he _ _ hx).ptr_inv
    obtain ⟨l1, l2⟩ := (he _ _ hy).cells
    obtain ⟨cc, T, fz, g1, g2, g3, g4, g5, g6, g7⟩ := hs.row b e c s hb hr
    refine ⟨undef, _, ρ, .inr ⟨?_, rfl⟩, gr_undef.2 ρ, Ok.store hs hβ hlo' hbn hb hr (o := k) (l := Cells v) (l' := Cells (evc y)) (by omega) l1 l2 h1⟩
    have hst := run_storeCells_cells (P := P) s.blk (s.off + k) (Cells (evc y)) 0 w
      (fun j hj => by
        simp only [World.cell?, Nat.add_zero, g1]
        rw [if_neg (by simp), Array.getElem?_eq_getElem (by omega)]; rfl)
      (fun j hj => by
        simp only [World.frozen?, g1, Nat.add_zero]
        have := g6 (by omega) (k + j) (by omega)
        rw [Bool.eq_false_iff]; intro hh
        simp only [Bool.and_eq_true, decide_eq_true_eq] at hh
        exact this ⟨by omega, by omega⟩)
      (fun u hu => by
        obtain ⟨j, hj⟩ := List.getElem?_of_mem hu
        have hjl : j < (Cells v).length := by have := (List.getElem?_eq_some_iff.1 hj).1; omega
        obtain ⟨u', a1, a2⟩ := l2 j (Cells v)[j] (List.getElem?_eq_getElem hjl)
        rw [hj] at a1
        obtain rfl := Option.some.inj a1
        exact a2.oneCell (h1 _ (List.getElem_mem hjl)))
    have hsz' : (evc y).cells.size = i.size := by rw [← hsz, ← l1]; simp [Cells]
    simp only [Cells, Nat.add_zero] at hst ⊢
    simp [execOp, Instr.storeAt, Instr.sureAddr, hxx, storeVar, sizeOf, typeInfo, hi, hsz', hst]
  | nilCheck ho hx =>
    rename_i x a
    simp only at ho; subst ho
    have hx' := he _ _ hx
    have h2 : ∃ a', evc x = .pointer (some a') := by generalize evc x = z at hx'; cases hx'; exact ⟨_, rfl⟩
    obtain ⟨a', h2⟩ := h2
    rw [h2] at hx'
    exact .pure hs (by simp [execOp, h2]) hx'
  | nilCheckF ho hx =>
    rename_i x f a c
    simp only at ho; subst ho
    have hx' := he _ _ hx
    have h2 : ∃ a' c', evc x = .func (.func f) a' c' := by generalize evc x = z at hx'; cases hx'; exact ⟨_, _, rfl⟩
    obtain ⟨a', c', h2⟩ := h2
    rw [h2] at hx'
    exact .pure hs (by simp [execOp, h2]) hx'
  | fieldAddr ho hst hfj hi h0 hx =>
    rename_i s x j b k fs f i
    simp only at ho; subst ho
    obtain ⟨s', hr, hxx⟩ := (he _ _ hx).ptr_inv
    refine .pure (v' := .pointer (some ⟨s'.blk, s'.off + (k + f.offset), none⟩)) hs ?_ (.ptr b _ s' hr)
    have h0' : ¬ (i.size = 0) := by simpa using h0
    simp [execOp, Instr.fieldAt, run_underlying hst, hfj, Instr.sureAddr, hxx, fieldPlace, sizeOf, typeInfo, hi, h0', add_off, Nat.add_assoc]
  | field1 ho hst hfj ht hd hx hv =>
    rename_i s x j fs f d cs
    simp only at ho; subst ho
    obtain ⟨c', h1, h2, h3⟩ := (he _ _ hx).agg_inv
    obtain ⟨u', a, b⟩ := h3 _ _ hv
    exact .pure hs (by simp [execOp, Instr.field, run_underlying hst, hfj, h1, asAgg, part, isAgg_run ht, hd, a]) b
  | fieldN ho hst hfj ht hd hi hx =>
    rename_i s x j fs f d i cs
    simp only at ho; subst ho
    obtain ⟨c', h1, h2, h3⟩ := (he _ _ hx).agg_inv
    refine .pure (v' := .agg (c'.extract f.offset (f.offset + i.size))) hs (by simp [execOp, Instr.field, run_underlying hst, hfj, h1, asAgg, part, isAgg_run ht, hd, sizeOf, typeInfo, hi]) (VR.agg_of (by simp [h2]) fun k u hk => ?_)
    rw [Array.getElem?_extract] at hk ⊢
    split at hk
    · rename_i hlt
      rw [if_pos (by omega)]
      exact h3 _ _ hk
    · cases hk
  | indexAddrS ho ht hi hx hy h0 hj =>
    rename_i t x y el i b k len cap q j
    simp only at ho; subst ho
    have hy' : evc y = .int q j := by have := he _ _ hy; generalize evc y = z at this; cases this; rfl
    have hx' := he _ _ hx
    have : ∃ s cap', ρ b = some s ∧ evc x = .slice (some ⟨s.blk, s.off + k, none⟩) len cap' := by
      generalize evc x = z at hx'
      cases hx' with
      | sl b o len cap cap' s h hl hr hc => exact ⟨s, cap', h, rfl⟩
      | sl0 => omega
    obtain ⟨s, cap', hr, hxx⟩ := this
    refine .pure (v' := .pointer (some ⟨s.blk, s.off + (k + j.toNat * i.size), none⟩)) hs ?_ (.ptr b _ s hr)
    simp [execOp, Instr.indexAt, run_underlying ht, asIntOf, hxx, hy', h0, hj, sizeOf, typeInfo, hi, add_off, Nat.add_assoc]
  | indexAddrA ho ht hi hx hy h0 hj =>
    rename_i t x y el i b k len q j
    simp only at ho; subst ho
    have hy' : evc y = .int q j := by have := he _ _ hy; generalize evc y = z at this; cases this; rfl
    obtain ⟨s, hr, hxx⟩ := (he _ _ hx).ptr_inv
    refine .pure (v' := .pointer (some ⟨s.blk, s.off + (k + j.toNat * i.size), none⟩)) hs ?_ (.ptr b _ s hr)
    simp [execOp, Instr.indexAt, run_underlying ht, asIntOf, hxx, hy', h0, hj, Instr.sureAddr, sizeOf, typeInfo, hi, add_off, Nat.add_assoc]
  | indexA1 ho ht hi hd hd1 hx hy h0 hj hv =>
    rename_i t x y el d i len q j cs
    simp only at ho; subst ho
    have hy' : evc y = .int q j := by have := he _ _ hy; generalize evc y = z at this; cases this; rfl
    obtain ⟨c', h1, h2, h3⟩ := (he _ _ hx).agg_inv
    obtain ⟨u', a, b⟩ := h3 _ _ hv
    exact .pure hs (by simp [execOp, Instr.index, run_underlying ht, h1, hy', asIntOf, h0, hj, part, isAgg_run hd, hd1, sizeOf, typeInfo, hi, a]) b
  | extract ho hx hv =>
    rename_i x j vs
    simp only at ho; subst ho
    obtain ⟨c', h1, h2, h3⟩ := (he _ _ hx).tuple_inv
    obtain ⟨u', a, b⟩ := h3 _ _ hv
    exact .pure hs (by simp [execOp, Instr.extract, h1, a]) b
  | mkIface ho ht hd hx =>
    rename_i t x d v
    simp only at ho; subst ho
    refine .pure hs ?_ (.iface t _ _ (he _ _ hx))
    simp only [execOp, Instr.makeInterface, Sem.run_bind, run_underlying ht, Result.andThen_ok]
    cases d <;> first | rfl | exact absurd rfl (hd _)
  | mkFunc ho hx hy =>
    rename_i f xs ys a c
    simp only at ho; subst ho
    obtain ⟨i1, i2⟩ := mapM_ev he _ _ hx
    obtain ⟨j1, j2⟩ := mapM_ev he _ _ hy
    refine .pure (v' := .func f (xs.map evc) (ys.map evc)) hs (by simp [execOp, Instr.makeFunc]) (.func f _ _ _ _ (by simpa using i1) (by simpa using j1) (fun i h1 h2 => ?_) (fun i h1 h2 => ?_))
    · obtain ⟨u', p, q⟩ := i2 i a[i] (by simp [h1])
      have : (xs.map evc)[i] = u' := by
        have := Array.getElem?_eq_getElem h2
        rw [← Array.getElem?_toList, Array.toList_map, p] at this
        exact (Option.some.inj this).symm
      rw [this]; exact q
    · obtain ⟨u', p, q⟩ := j2 i c[i] (by simp [h1])
      have : (ys.map evc)[i] = u' := by
        have := Array.getElem?_eq_getElem h2
        rw [← Array.getElem?_toList, Array.toList_map, p] at this
        exact (Option.some.inj this).symm
      rw [this]; exact q
  | len ho ht hx =>
    rename_i t x el a len cap
    simp only at ho; subst ho
    have hx' := he _ _ hx
    have : ∃ a' cap', evc x = .slice a' len cap' := by generalize evc x = z at hx'; cases hx' <;> exact ⟨_, _, rfl⟩
    obtain ⟨a', cap', hxx⟩ := this
    refine .pure (v' := .int .i64 len) hs ?_ (.int .i64 len)
    simp [execOp, resolve, invoke, builtin, Builtin.len_, run_underlying ht, hxx, goInt]
  | assert ho ht hd hx =>
    rename_i x t s ok d v
    simp only at ho; subst ho
    have hx' := he _ _ hx
    have : ∃ v', evc x = .iface s v' ∧ VR ρ v v' := by generalize evc x = z at hx'; cases hx' with | iface t v v' h => exact ⟨v', rfl, h⟩
    obtain ⟨v', hxx, hV⟩ := this
    refine .pure (v' := if ok then .tuple #[v', .bool true] else v') hs ?_ ?_
    · simp only [execOp, Instr.typeAssert, Sem.run_bind, run_underlying ht, Result.andThen_ok, hxx]
      cases d <;> first | (exact absurd rfl (hd _)) | (simp <;> cases ok <;> rfl)
    · cases ok
      · exact hV
      · refine .tuple _ _ rfl fun i h1 h2 => ?_
        match i, h1, h2 with
        | 0, _, _ => exact hV
        | 1, _, _ => exact .bool true
end
end Go.Proofs.YtlpcdcpcfeaecaaAb
end
section
namespace Go.Proofs.YtlpcdcpcfeaecaaAb
open Go
def isInt : TypeDesc → Bool
  | .int _ => true
  | _ => false
def u8 (b : UInt8) : Value := .int .u8 b.toNat
def lb (len cap : Nat) : Nat := max len (if UNK ≤ cap then cap - UNK else cap)
def Bnd (ev : Operand → Option Value) (o : Option Operand) (dflt r : Nat) : Prop :=
  match o with
  | none => r = dflt
  | some y => ∃ q, ev y = some (.int q (r : Int))
inductive Src (P : Program) (ev : Operand → Option Value) (H : Heap) (size : Nat) (u : TypeId) (y : Operand) : Nat → List Value → Prop
  | slice {d : TypeDesc} {b k m cap e : Nat} {c l : List Value} (hu : P.underlying u = some d) (hd : isInt d = false) (hy : ev y = some (.slice (some ⟨b, k, none⟩) m cap)) (hb : H b = some (.row e c))
      (hl : (c.drop k).take (m * size) = l) (hn : l.length = m * size) : Src P ev H size u y m l
  | nil {d : TypeDesc} (hu : P.underlying u = some d) (hd : isInt d = false) (hy : ev y = some (.slice none 0 0)) : Src P ev H size u y 0 []
  | str {d : TypeDesc} {s : ByteArray} (hu : P.underlying u = some d) (hd : isInt d = false) (hs : size = 1) (hy : ev y = some (.string s)) : Src P ev H size u y s.size (s.data.toList.map u8)
inductive StepM (P : Program) (lo : Nat) (ev : Operand → Option Value) (n : Nat) (H : Heap) : Oper → Value → Nat → Heap → Prop
  | slice {o : Oper} {t el : TypeId} {i : TypeInfo} {x : Operand} {low high mx : Option Operand} {b k len cap l h m e : Nat} {c : List Value} (ho : o.op = .slice t x low high mx) (ht : P.underlying t = some (.slice el)) (hi : P.info? el = some i)
      (hx : ev x = some (.slice (some ⟨b, k, none⟩) len cap)) (hb : H b = some (.row e c)) (he : e = i.size) (hm : Bnd ev mx (lb len cap) m) (hmm : m ≤ lb len cap) (hl : Bnd ev low 0 l) (hh : Bnd ev high len h) (hmx : mx.isSome → high.isSome) (hlh : l ≤ h) (hhm : h ≤ m) :
      StepM P lo ev n H o (.slice (some ⟨b, k + l * i.size, none⟩) (h - l) (UNK + (m - l))) n H
  | sliceNil {o : Oper} {t el : TypeId} {i : TypeInfo} {x : Operand} {low high : Option Operand} (ho : o.op = .slice t x low high none) (ht : P.underlying t = some (.slice el)) (hi : P.info? el = some i)
      (hx : ev x = some (.slice none 0 0)) (hl : Bnd ev low 0 0) (hh : Bnd ev high 0 0) : StepM P lo ev n H o (.slice none 0 0) n H
  | eqNil {o : Oper} {op : BinOp} {t u el : TypeId} {x y : Operand} {a : Option Addr} {len cap : Nat} (ho : o.op = .binOp op t x y u) (hop : op = .eql ∨ op = .neq) (ht : P.underlying t = some (.slice el)) (hx : ev x = some (.slice a len cap)) (hy : ev y = some (.slice none 0 0)) :
      StepM P lo ev n H o (.bool (if op = .eql then a.isNone else !a.isNone)) n H
  | capE {o : Oper} {t : TypeId} {x : Operand} {el : TypeId} {a : Option Addr} {len cap : Nat} (ho : o.op = .call { callee := .builtin .cap, args := #[x], argTypes := #[t] }) (ht : P.underlying t = some (.slice el))
      (hx : ev x = some (.slice a len cap)) (hc : cap < UNK) : StepM P lo ev n H o (.int .i64 cap) n H
  | make {o : Oper} {t el : TypeId} {i : TypeInfo} {z : Value} {x y : Operand} {q q' : IntKind} {l c : Nat} (ho : o.op = .makeSlice t x y) (ht : P.underlying t = some (.slice el)) (hi : P.info? el = some i) (hz : i.zero = some z)
      (hzs : (Cells z).length = i.size) (h0 : 0 < i.size) (hg : ∀ v ∈ Cells z, Gr v ∧ v.oneCell' = true) (hx : ev x = some (.int q (l : Int))) (hy : ev y = some (.int q' (c : Int))) (hlc : l ≤ c) (hb : i.bytes * c ≤ 281474976710656) (h63 : c < UNK) :
      StepM P lo ev n H o (.slice (some ⟨n, 0, none⟩) l c) (n + 1) (H.set n (.row i.size (List.replicate c (Cells z)).flatten))
  | build {o : Oper} {t : TypeId} {ps : Array (Nat × Operand)} {fs : Array Field} {parts : List (Nat × Value)} {places : List (Nat × Nat)} {z : Value} {iz : TypeInfo} {cells : Array Value} (ho : o.op = .build t ps) (ht : P.underlying t = some (.struct fs))
      (hi : P.info? t = some iz) (hz : iz.zero = some z) (hg : ∀ v ∈ Cells z, Gr v) (hp : ps.toList.mapM (fun p => (ev p.2).map fun v => (p.1, v)) = some parts)
      (hpl : fs.toList.mapM (fun f => (P.info? f.type).map fun i => (f.offset, i.size)) = some places) (hf : Instr.fill (places.toArray[·]?) z.cells parts = some cells) : StepM P lo ev n H o (.agg cells) n H
  | buildA {o : Oper} {t el : TypeId} {len : Nat} {ps : Array (Nat × Operand)} {parts : List (Nat × Value)} {z : Value} {iz i : TypeInfo} {cells : Array Value} (ho : o.op = .build t ps) (ht : P.underlying t = some (.array len el))
      (hi : P.info? t = some iz) (hz : iz.zero = some z) (hie : P.info? el = some i) (hg : ∀ v ∈ Cells z, Gr v) (hp : ps.toList.mapM (fun p => (ev p.2).map fun v => (p.1, v)) = some parts)
      (hf : Instr.fill (fun j => some (j * i.size, i.size)) z.cells parts = some cells) : StepM P lo ev n H o (.agg cells) n H
  | buildSlice {o : Oper} {t el : TypeId} {len : Nat} {ps : Array (Nat × Operand)} {parts : List (Nat × Value)} {z : Value} {i : TypeInfo} {cells : Array Value} (ho : o.op = .buildSlice t len ps) (ht : P.underlying t = some (.slice el)) (hi : P.info? el = some i) (hz : i.zero = some z)
      (hg : ∀ v ∈ Cells z, Gr v ∧ v.oneCell' = true) (hsz : len * i.size ≤ 16777216) (hlen : len < UNK) (hp : ps.toList.mapM (fun p => (ev p.2).map fun v => (p.1, v)) = some parts) (h1 : ∀ v ∈ cells.toList, v.oneCell' = true) (hzc : (Cells z).length = i.size)
      (hf : Instr.fill (fun j => some (j * i.size, i.size)) (madeCells z.cells (len * i.size)) parts = some cells) (hcs : cells.size = len * i.size) :
      StepM P lo ev n H o (.slice (some ⟨n, 0, none⟩) len len) (n + 1) (H.set n (.row i.size cells.toList))
  | append0 {o : Oper} {t u el : TypeId} {i : TypeInfo} {x y : Operand} {a : Option Addr} {len cap : Nat} (ho : o.op = .call { callee := .builtin .append, args := #[x, y], argTypes := #[t, u] }) (ht : P.underlying t = some (.slice el)) (hi : P.info? el = some i)
      (hx : ev x = some (.slice a len cap)) (hsrc : Src P ev H i.size u y 0 []) : StepM P lo ev n H o (.slice a len cap) n H
  | appendI {o : Oper} {t u el : TypeId} {i : TypeInfo} {x y : Operand} {b k len cap m e : Nat} {c news : List Value} (ho : o.op = .call { callee := .builtin .append, args := #[x, y], argTypes := #[t, u] }) (ht : P.underlying t = some (.slice el)) (hi : P.info? el = some i)
      (hx : ev x = some (.slice (some ⟨b, k, none⟩) len cap)) (hsrc : Src P ev H i.size u y m news) (hb : H b = some (.row e c)) (hlb : len + m ≤ lb len cap) (hfit : k + (len + m) * i.size ≤ c.length) (hlo : lo ≤ b) (hbn : b < n) (h1 : ∀ v ∈ news, v.oneCell' = true) (hm0 : 0 < m) :
      StepM P lo ev n H o (.slice (some ⟨b, k, none⟩) (len + m) cap) n (H.set b (.row e (splice c (k + len * i.size) news)))
  | appendN {o : Oper} {t u el : TypeId} {i : TypeInfo} {z : Value} {x y : Operand} {m : Nat} {news : List Value} (ho : o.op = .call { callee := .builtin .append, args := #[x, y], argTypes := #[t, u] }) (ht : P.underlying t = some (.slice el)) (hi : P.info? el = some i) (hz : i.zero = some z) (hzs : (Cells z).length = i.size)
      (hx : ev x = some (.slice none 0 0)) (hsrc : Src P ev H i.size u y m news) (h1 : ∀ v ∈ news, v.oneCell' = true) (hm0 : 0 < m) (hby : m * i.bytes ≤ 140737488355328) (h63 : m < UNK) :
      StepM P lo ev n H o (.slice (some ⟨n, 0, none⟩) m (UNK + m)) (n + 1) (H.set n (.row i.size news))
  | appendZ {o : Oper} {t u el : TypeId} {i : TypeInfo} {z : Value} {x y : Operand} {q qk : IntKind} {m : Nat} (ho : o.op = .call { callee := .builtin .append, args := #[x, y], argTypes := #[t, u] }) (ht : P.underlying t = some (.slice el)) (hu : P.underlying u = some (.int qk)) (hi : P.info? el = some i) (hz : i.zero = some z) (hzs : (Cells z).length = i.size) (h0 : 0 < i.size)
      (hg : ∀ v ∈ Cells z, Gr v ∧ v.oneCell' = true) (hx : ev x = some (.slice none 0 0)) (hy : ev y = some (.int q (m : Int))) (hm0 : 0 < m) (hby : m * i.bytes ≤ 140737488355328) (h63 : m < UNK) :
      StepM P lo ev n H o (.slice (some ⟨n, 0, none⟩) m (UNK + m)) (n + 1) (H.set n (.row i.size (List.replicate m (Cells z)).flatten))
  | appendG {o : Oper} {t u el : TypeId} {i : TypeInfo} {z : Value} {x y : Operand} {b k len cap m e : Nat} {c olds news : List Value} (ho : o.op = .call { callee := .builtin .append, args := #[x, y], argTypes := #[t, u] }) (ht : P.underlying t = some (.slice el)) (hi : P.info? el = some i) (hz : i.zero = some z) (hzs : (Cells z).length = i.size)
      (hx : ev x = some (.slice (some ⟨b, k, none⟩) len cap)) (hsrc : Src P ev H i.size u y m news) (hb : H b = some (.row e c)) (hol : (c.drop k).take (len * i.size) = olds) (holn : olds.length = len * i.size) (hcap : cap < UNK) (hgr : cap < len + m)
      (h1 : ∀ v ∈ olds ++ news, v.oneCell' = true) (hby : (len + m) * i.bytes ≤ 140737488355328) (h63 : len + m < UNK) :
      StepM P lo ev n H o (.slice (some ⟨n, 0, none⟩) (len + m) (UNK + (len + m))) (n + 1) (H.set n (.row i.size (olds ++ news)))
  | appendU {o : Oper} {t u el : TypeId} {i : TypeInfo} {z : Value} {x y : Operand} {b k len cap m e : Nat} {c olds news : List Value} (ho : o.op = .call { callee := .builtin .append, args := #[x, y], argTypes := #[t, u] }) (ht : P.underlying t = some (.slice el)) (hi : P.info? el = some i) (hz : i.zero = some z) (hzs : (Cells z).length = i.size)
      (hx : ev x = some (.slice (some ⟨b, k, none⟩) len cap)) (hsrc : Src P ev H i.size u y m news) (hb : H b = some (.row e c)) (he : e = i.size) (hol : (c.drop k).take (len * i.size) = olds) (holn : olds.length = len * i.size) (hcap : UNK ≤ cap) (hlo : lo ≤ b) (hbn : b < n) (hm0 : 0 < m)
      (h1 : ∀ v ∈ news, v.oneCell' = true) (hby : (len + m) * i.bytes ≤ 140737488355328) (h63 : len + m < UNK) (hk : k ≤ c.length) :
      StepM P lo ev n H o (.slice (some ⟨n, 0, none⟩) (len + m) (UNK + (len + m))) (n + 1) ((H.del b).set n (.row i.size (olds ++ news)))
  | copy {o : Oper} {t u el : TypeId} {i : TypeInfo} {x y : Operand} {b k len cap m e : Nat} {c news : List Value} (ho : o.op = .call { callee := .builtin .copy, args := #[x, y], argTypes := #[t, u] }) (ht : P.underlying t = some (.slice el)) (hi : P.info? el = some i)
      (hx : ev x = some (.slice (some ⟨b, k, none⟩) len cap)) (hsrc : Src P ev H i.size u y m news) (hb : H b = some (.row e c)) (hfit : k + (min m len) * i.size ≤ c.length) (hlo : lo ≤ b) (hbn : b < n) (h1 : ∀ v ∈ news, v.oneCell' = true) :
      StepM P lo ev n H o (.int .i64 ((min m len : Nat) : Int)) n (H.set b (.row e (splice c k (news.take ((min m len) * i.size)))))
  | clear {o : Oper} {t el : TypeId} {i : TypeInfo} {z : Value} {x : Operand} {b k len cap e : Nat} {c : List Value} (ho : o.op = .call { callee := .builtin .clear, args := #[x], argTypes := #[t] }) (ht : P.underlying t = some (.slice el)) (hi : P.info? el = some i) (hz : i.zero = some z) (hzs : (Cells z).length = i.size)
      (hx : ev x = some (.slice (some ⟨b, k, none⟩) len cap)) (hb : H b = some (.row e c)) (hfit : k + len * i.size ≤ c.length) (hlo : lo ≤ b) (hbn : b < n) (hg : ∀ v ∈ Cells z, Gr v ∧ v.oneCell' = true) (hl0 : 0 < len) :
      StepM P lo ev n H o undef n (H.set b (.row e (splice c k (List.replicate len (Cells z)).flatten)))
  | toBytes {o : Oper} {s t el : TypeId} {x : Operand} {y : ByteArray} (ho : o.op = .convert s t x) (hs : P.underlying s = some .string) (ht : P.underlying t = some (.slice el)) (hel : P.underlying el = some (.int .u8)) (hx : ev x = some (.string y)) (h63 : y.size < UNK) :
      StepM P lo ev n H o (.slice (some ⟨n, 0, none⟩) y.size (UNK + y.size)) (n + 1) (H.set n (.row 1 (y.data.toList.map u8)))
  | toStr {o : Oper} {s t el : TypeId} {x : Operand} {b k len cap e : Nat} {c : List Value} {l : List UInt8} (ho : o.op = .convert s t x) (hs : P.underlying s = some (.slice el)) (ht : P.underlying t = some .string) (hel : P.underlying el = some (.int .u8)) (hx : ev x = some (.slice (some ⟨b, k, none⟩) len cap))
      (hb : H b = some (.row e c)) (hl : (c.drop k).take len = l.map u8) (hn : l.length = len) : StepM P lo ev n H o (.string ⟨l.toArray⟩) n H
  | toStrNil {o : Oper} {s t el : TypeId} {x : Operand} (ho : o.op = .convert s t x) (hs : P.underlying s = some (.slice el)) (ht : P.underlying t = some .string) (hel : P.underlying el = some (.int .u8)) (hx : ev x = some (.slice none 0 0)) : StepM P lo ev n H o (.string ⟨#[]⟩) n H
section
variable {P : Program} {β lo n : Nat} {ρ : Rho} {H : Heap} {w : World} {evc : Operand → Value}
theorem VR.slice_inv {b k len cap : Nat} {v' : Value} (h : VR ρ (.slice (some ⟨b, k, none⟩) len cap) v') :
    ∃ s, ρ b = some s ∧ ((∃ cap', v' = .slice (some ⟨s.blk, s.off + k, none⟩) len cap' ∧ len ≤ cap' ∧ k + cap' * s.esz ≤ s.room ∧ (cap = cap' ∨ (UNK ≤ cap ∧ cap ≤ UNK + cap'))) ∨
      (len = 0 ∧ cap = UNK ∧ ∃ x, v' = .slice (some x) 0 0)) := by
  cases h with
  | sl b o len cap cap' s h hl hr hc => exact ⟨s, h, .inl ⟨cap', rfl, hl, hr, hc⟩⟩
  | sl0 b o x s h => exact ⟨s, h, .inr ⟨rfl, rfl, x, rfl⟩⟩
theorem bnd_run {ev : Operand → Option Value} (he : EvR ρ ev evc) {o : Option Operand} {d r : Nat} (h : Bnd ev o d r) :
    (o = none ∧ r = d) ∨ ∃ y q, o = some y ∧ evc y = .int q (r : Int) := by
  cases o with
  | none => exact .inl ⟨rfl, h⟩
  | some y =>
    obtain ⟨q, hq⟩ := h
    refine .inr ⟨y, q, rfl, ?_⟩
    have := he _ _ hq
    generalize evc y = z at this
    cases this; rfl
theorem run_sliceBound (k : IntKind) (i y : Nat) (code : BoundsCode) (h : i ≤ y) (w : World) : (Instr.sliceBound (.int k (i : Int)) y code).run P w = .ok i w := by
  have : (i : Int) ≤ (y : Int) := by omega
  simp [Instr.sliceBound, asIntOf, h]
theorem run_sliceBounds (isSlice : Bool) (len cap l h m : Nat) (low high mx : Option Value) (hm : (mx = none ∧ m = cap) ∨ ∃ q, mx = some (.int q (m : Int))) (hmc : m ≤ cap)
    (hh : (high = none ∧ h = len) ∨ ∃ q, high = some (.int q (h : Int))) (hl : (low = none ∧ l = 0) ∨ ∃ q, low = some (.int q (l : Int))) (hlh : l ≤ h) (hhm : h ≤ m) (hmx : mx.isSome → high.isSome) (w : World) :
    (Instr.sliceBounds isSlice len cap low high mx).run P w = .ok (l, h, m) w := by
  rcases hm with ⟨rfl, rfl⟩ | ⟨q, rfl⟩ <;> rcases hh with ⟨rfl, rfl⟩ | ⟨q', rfl⟩ <;> rcases hl with ⟨rfl, rfl⟩ | ⟨q'', rfl⟩ <;>
    first | (simp [Instr.sliceBounds, run_sliceBound, hlh, hhm, hmc]; done) | (simp [Instr.sliceBounds, run_sliceBound, hlh, hhm]; done) | (simp at hmx)
theorem src_run {ev : Operand → Option Value} (he : EvR ρ ev evc) (hs : Sim β ρ H w) {size m : Nat} {u : TypeId} {y : Operand} {news : List Value} (h : Src P ev H size u y m news) :
    ∃ d, P.underlying u = some d ∧ isInt d = false ∧ (∀ w, (Builtin.lenOf (evc y)).run P w = .ok m w) ∧ ∃ l' : List Value, (∀ w', w'.heap = w.heap → (Builtin.firstCells size m (evc y)).run P w' = .ok l'.toArray w') ∧ l'.length = news.length ∧ news.length = m * size ∧
      (∀ (j : Nat) v, news[j]? = some v → ∃ v', l'[j]? = some v' ∧ VR ρ v v') ∧ (∀ j, j ≤ m → ∀ w', w'.heap = w.heap → (Builtin.firstCells size j (evc y)).run P w' = .ok (l'.take (j * size)).toArray w') := by
  cases h with
  | slice hu hd hy hb hl hn =>
    rename_i d b k cap e c
    obtain ⟨s, hr, hx⟩ := (he _ _ hy).slice_inv
    rcases hx with ⟨cap', hv, h1, h2, h3⟩ | ⟨rfl, rfl, x, hv⟩
    · have key : ∀ w', w'.heap = w.heap → ∃ l' : List Value, (loadCells ⟨s.blk, s.off + k, none⟩ (m * size)).run P w' = .ok l'.toArray w' ∧ l'.length = m * size ∧ ∀ (j : Nat) u, news[j]? = some u → ∃ u', l'[j]? = some u' ∧ VR ρ u u' :=
        fun w' hw' => loadCells_sim (P := P) (hs.same_heap hw') hb hr hl hn
      have hc : ∀ j, j < m * size → ∃ u, w.cell? ⟨s.blk, s.off + k + j, none⟩ = some u ∧ ∃ x, news[j]? = some x ∧ VR ρ x u := by
        intro j hj
        have hj' : j < news.length := by omega
        have hlj : news[j]? = c[k + j]? := by rw [← hl, List.getElem?_take_of_lt hj, List.getElem?_drop]
        obtain ⟨u', a1, a2⟩ := hs.cell hb hr (k := k + j) (v := news[j]) (by rw [← hlj]; exact List.getElem?_eq_getElem hj')
        exact ⟨u', by rw [Nat.add_assoc]; exact a1, news[j], List.getElem?_eq_getElem hj', a2⟩
      have hload : ∀ q, q ≤ m * size → ∀ w', w'.heap = w.heap → (loadCells ⟨s.blk, s.off + k, none⟩ q).run P w' = .ok (((List.range (m * size)).map fun j => (w.cell? ⟨s.blk, s.off + k + j, none⟩).getD undef).take q).toArray w' := by
        intro q hq w' hw'
        have := run_loadCells (P := P) w' ⟨s.blk, s.off + k, none⟩ q (fun j => (w.cell? ⟨s.blk, s.off + k + j, none⟩).getD undef) (fun j hj => by
          obtain ⟨u, a1, _⟩ := hc j (by omega)
          rw [add_off, show w'.cell? ⟨s.blk, s.off + k + j, none⟩ = w.cell? ⟨s.blk, s.off + k + j, none⟩ by simp [World.cell?, hw'], a1]; rfl)
        rw [this]
        congr 2
        rw [← List.map_take, List.take_range, Nat.min_eq_left hq]
      refine ⟨d, hu, hd, fun w => by simp [hv, Builtin.lenOf], (List.range (m * size)).map fun j => (w.cell? ⟨s.blk, s.off + k + j, none⟩).getD undef, fun w' hw' => ?_, by simp [hn], hn, fun j v hj => ?_, fun j hj w' hw' => ?_⟩
      · have := hload (m * size) (Nat.le_refl _) w' hw'
        rw [List.take_of_length_le (by simp)] at this
        simpa [hv, Builtin.firstCells] using this
      · have hjm : j < m * size := by rw [← hn]; exact (List.getElem?_eq_some_iff.1 hj).1
        obtain ⟨u, a1, x, a2, a3⟩ := hc j hjm
        rw [hj] at a2
        obtain rfl := Option.some.inj a2
        exact ⟨u, by simp [hjm, a1], a3⟩
      · simpa [hv, Builtin.firstCells] using hload (j * size) (Nat.mul_le_mul_right _ hj) w' hw'
    · have hnil : news = [] := List.eq_nil_of_length_eq_zero (by simpa using hn)
      subst hnil
      refine ⟨d, hu, hd, fun w => by simp [hv, Builtin.lenOf], [], fun w' hw' => ?_, rfl, by simp, fun j v hj => by simp at hj, fun j hj w' hw' => ?_⟩
      · simp [hv, Builtin.firstCells, loadCells, loadCellsFrom]
      · obtain rfl : j = 0 := by omega
        simp [hv, Builtin.firstCells, loadCells, loadCellsFrom]
  | nil hu hd hy =>
    rename_i d
    have hv : evc y = .slice none 0 0 := by have := he _ _ hy; generalize evc y = z at this; cases this; rfl
    exact ⟨d, hu, hd, fun w => by simp [hv, Builtin.lenOf], [], fun w' hw' => by simp [hv, Builtin.firstCells], rfl, by simp, fun j v hj => by simp at hj, fun j hj w' hw' => by simp [hv, Builtin.firstCells]⟩
  | str hu hd hsz hy =>
    rename_i d s
    subst hsz
    have hv : evc y = .string s := by have := he _ _ hy; generalize evc y = z at this; cases this; rfl
    have hsd : s.size = s.data.toList.length := by cases s; rfl
    refine ⟨d, hu, hd, fun w => by simp [hv, Builtin.lenOf], s.data.toList.map u8, fun w' hw' => ?_, rfl, by rw [List.length_map, Nat.mul_one]; exact hsd.symm, fun j v hj => ⟨v, hj, ?_⟩, fun j hj w' hw' => ?_⟩
    · simp [hv, Builtin.firstCells]
      apply Array.ext'
      simp
      intro a _; rfl
    · simp only [List.getElem?_map, Option.map_eq_some_iff] at hj
      obtain ⟨b, _, rfl⟩ := hj
      exact .int .u8 _
    · simp [hv, Builtin.firstCells]
      apply Array.ext'
      simp
      rfl
end
end Go.Proofs.YtlpcdcpcfeaecaaAb
end
section
namespace Go.Proofs.YtlpcdcpcfeaecaaAb
open Go
section
variable {P : Program} {β lo n : Nat} {ρ : Rho} {H : Heap} {w : World} {evc : Operand → Value}
theorem int_inv {ev : Operand → Option Value} (he : EvR ρ ev evc) {y : Operand} {q : IntKind} {j : Int} (h : ev y = some (.int q j)) : evc y = .int q j := by
  have := he _ _ h; generalize evc y = z at this; cases this; rfl
theorem run_isInt {u : TypeId} {d : TypeDesc} (h : P.underlying u = some d) (hd : isInt d = false) (w : World) :
    (do pure ((← underlying u) matches .int _) : Sem Bool).run P w = .ok false w := by
  simp only [Sem.run_bind, run_underlying h, Result.andThen_ok]
  cases d <;> first | rfl | simp [isInt] at hd
theorem run_append_fit {t u ty e : TypeId} {i : TypeInfo} {d : TypeDesc} (ht : P.underlying t = some (.slice e)) (hu : P.underlying u = some d) (hd : isInt d = false) (hi : P.info? e = some i) {x : Value} {a : Addr} {sLen sCap m : Nat} {l : List Value} {w' : World}
    (hlen : (Builtin.lenOf x).run P w = .ok m w) (hfirst : (Builtin.firstCells i.size m x).run P w = .ok l.toArray w) (hst : (storeCells (a.add (sLen * i.size)) l).run P w = .ok () w') (hroom : sLen + m ≤ sCap) :
    (Builtin.append_ #[t, u] ty #[.slice (some a) sLen sCap, x]).run P w = .ok (.slice (some a) (sLen + m) sCap) w' := by
  have hz := run_isInt (P := P) hu hd w
  simp only [Sem.run_bind, run_underlying hu, Result.andThen_ok] at hz
  simp [Builtin.append_, run_underlying ht, sizeOf, typeInfo, hi, run_underlying hu]
  cases d <;> first | (simp [isInt] at hd; done) | simp [hlen, hroom, hfirst, hst]
theorem run_append_same {t u ty e : TypeId} {i : TypeInfo} {d : TypeDesc} (ht : P.underlying t = some (.slice e)) (hu : P.underlying u = some d) (hd : isInt d = false) (hi : P.info? e = some i) {x : Value} {a : Option Addr} {sLen sCap : Nat}
    (hlen : (Builtin.lenOf x).run P w = .ok 0 w) (hfirst : (Builtin.firstCells i.size 0 x).run P w = .ok #[] w) (hroom : sLen ≤ sCap) :
    (Builtin.append_ #[t, u] ty #[.slice a sLen sCap, x]).run P w = .ok (.slice a sLen sCap) w := by
  simp [Builtin.append_, run_underlying ht, sizeOf, typeInfo, hi, run_underlying hu]
  cases d <;> first | (simp [isInt] at hd; done) | (cases a <;> simp [hlen, hroom, hfirst, storeCells])
theorem run_append_new {t u ty e : TypeId} {i : TypeInfo} {z : Value} {d : TypeDesc} (ht : P.underlying t = some (.slice e)) (hu : P.underlying u = some d) (hd : isInt d = false) (hi : P.info? e = some i) (hz : i.zero = some z) {x : Value} {a : Option Addr} {sLen sCap m : Nat} {olds l : List Value}
    (hlen : (Builtin.lenOf x).run P w = .ok m w) (hfirst : (Builtin.firstCells i.size m x).run P w.drew = .ok l.toArray w.drew) (hold : (Builtin.firstCells i.size sLen (.slice a sLen sCap)).run P w.drew = .ok olds.toArray w.drew)
    (hgr : sCap < sLen + m) (hby : (sLen + m) * i.bytes ≤ 140737488355328) (h63 : sLen + m < UNK) :
    (Builtin.append_ #[t, u] ty #[.slice a sLen sCap, x]).run P w =
      .ok (.slice (some ⟨w.heap.size, 0, none⟩) (sLen + m) (grownCap w (sLen + m) sCap e)) (w.drew.alloc (.cells (olds.toArray ++ (l.toArray ++ Builtin.zeroCells z.cells (grownCap w (sLen + m) sCap e - (sLen + m)))) e)) := by
  have hn : ¬ (sLen + m ≤ sCap) := by omega
  have h63' : ¬ (9223372036854775807 < ((sLen : Int) + (m : Int))) := by unfold UNK at h63; omega
  have h48 := growslice_fits (bytes := i.bytes) hgr hby
  have h48' : ¬ (281474976710656 < Builtin.nextslicecap (sLen + m) sCap * i.bytes) := by omega
  simp [Builtin.append_, run_underlying ht, sizeOf, typeInfo, hi, run_underlying hu]
  cases d <;> first
    | (simp [isInt] at hd; done)
    | (simp [hlen, hn, h63', h48', Question.forced, hfirst, hold, zeroValue, typeInfo, hi, hz, newRow, grownCap])
theorem run_append_zeros {t u ty e : TypeId} {i : TypeInfo} {z : Value} {q qk : IntKind} (ht : P.underlying t = some (.slice e)) (hu : P.underlying u = some (.int qk)) (hi : P.info? e = some i) (hz : i.zero = some z) {m : Nat} (hm0 : 0 < m) (h0 : 0 < i.size) (hby : m * i.bytes ≤ 140737488355328) (h63 : m < UNK) :
    (Builtin.append_ #[t, u] ty #[.slice none 0 0, .int q (m : Int)]).run P w =
      .ok (.slice (some ⟨w.heap.size, 0, none⟩) m (grownCap w m 0 e)) (w.drew.alloc (.cells (([] : List Value).toArray ++ (Builtin.zeroCells z.cells m ++ Builtin.zeroCells z.cells (grownCap w m 0 e - m))) e)) := by
  have hm : m ≠ 0 := by omega
  have hw : IntKind.wrap .i64 (m : Int) = m := by
    have e1 : (2 : Int) ^ 64 = 18446744073709551616 := by decide
    have e2 : (2 : Int) ^ (64 - 1) = 9223372036854775808 := by decide
    unfold UNK at h63
    simp only [IntKind.wrap, IntKind.bits, IntKind.signed, Bool.true_and, e1, e2, decide_eq_true_eq]
    split <;> omega
  have h63' : ¬ (9223372036854775807 < (m : Int)) := by unfold UNK at h63; omega
  have hb' : ¬ (281474976710656 < (m : Int) * (i.bytes : Int)) := by
    have h1 : ((m * i.bytes : Nat) : Int) ≤ 140737488355328 := by omega
    rw [Int.natCast_mul] at h1; omega
  have hms : ¬ (m * i.size = 0) := by
    have := Nat.mul_pos hm0 h0; omega
  have h48 := growslice_fits (old := 0) (bytes := i.bytes) (need := m) hm0 hby
  have h48' : ¬ (281474976710656 < Builtin.nextslicecap m 0 * i.bytes) := by omega
  have hneg : ¬ ((m : Int) < 0) := by omega
  have hsz : ¬ (i.size = 0) := by omega
  simp [Builtin.append_, run_underlying ht, sizeOf, typeInfo, hi, run_underlying hu, asInt, asIntOf, hw, hneg, hb', hm, hsz, h63', h48', Question.forced, zeroValue, hz, newRow, grownCap, Builtin.firstCells]
  intro h; exact absurd h hms
theorem le_grownCap (w : World) (need old : Nat) (e : TypeId) : need ≤ grownCap w need old e := by
  unfold grownCap Question.cut
  simp
theorem fill_places (f g : Nat → Option (Nat × Nat)) (h : ∀ j, f j = g j) : ∀ (c : Array Value) (ps : List (Nat × Value)), Instr.fill f c ps = Instr.fill g c ps
  | c, [] => rfl
  | c, (i, v) :: r => by
    simp only [Instr.fill, h i]
    cases g i with
    | none => rfl
    | some p =>
      obtain ⟨o, s⟩ := p
      simp only
      split
      · rfl
      · exact fill_places f g h _ r
theorem foldl_set_rel {β : Type} : ∀ (l l' : List (Value × Nat)) (c c' : Array Value), c.size = c'.size → l.length = l'.length → (∀ (k : Nat) v v', c[k]? = some v → c'[k]? = some v' → VR ρ v v') →
    (∀ (k : Nat) p p', l[k]? = some p → l'[k]? = some p' → VR ρ p.1 p'.1 ∧ p.2 = p'.2) → ∀ o : Nat,
    (l.foldl (fun cs x => cs.setIfInBounds (o + x.2) x.1) c).size = (l'.foldl (fun cs x => cs.setIfInBounds (o + x.2) x.1) c').size ∧
      ∀ (k : Nat) v v', (l.foldl (fun cs x => cs.setIfInBounds (o + x.2) x.1) c)[k]? = some v → (l'.foldl (fun cs x => cs.setIfInBounds (o + x.2) x.1) c')[k]? = some v' → VR ρ v v'
  | [], [], c, c', hs, _, hc, _, o => ⟨hs, hc⟩
  | [], _ :: _, _, _, _, h, _, _, _ => by simp at h
  | _ :: _, [], _, _, _, h, _, _, _ => by simp at h
  | x :: l, x' :: l', c, c', hs, hl, hc, hp, o => by
    obtain ⟨h1, h2⟩ := hp 0 x x' rfl rfl
    refine foldl_set_rel (β := β) l l' (c.setIfInBounds (o + x.2) x.1) (c'.setIfInBounds (o + x'.2) x'.1) (by simp [hs]) (by simpa using hl) (fun k v v' hv hv' => ?_) (fun k p p' a b => hp (k + 1) p p' (by simpa using a) (by simpa using b)) o
    rw [← h2] at hv'
    rw [Array.getElem?_setIfInBounds] at hv hv'
    by_cases hk : o + x.2 = k
    · rw [if_pos hk] at hv hv'
      by_cases hin : o + x.2 < c.size
      · rw [if_pos hin] at hv
        rw [if_pos (by omega)] at hv'
        rw [← Option.some.inj hv, ← Option.some.inj hv']; exact h1
      · rw [if_neg hin] at hv; cases hv
    · rw [if_neg hk] at hv hv'
      exact hc k v v' hv hv'
theorem fill_rel (place : Nat → Option (Nat × Nat)) : ∀ (ps ps' : List (Nat × Value)) (c c' out : Array Value), c.size = c'.size → (∀ (k : Nat) v v', c[k]? = some v → c'[k]? = some v' → VR ρ v v') →
    ps.length = ps'.length → (∀ (k : Nat) p p', ps[k]? = some p → ps'[k]? = some p' → p.1 = p'.1 ∧ VR ρ p.2 p'.2) → Instr.fill place c ps = some out →
    ∃ out', Instr.fill place c' ps' = some out' ∧ out.size = out'.size ∧ ∀ (k : Nat) v v', out[k]? = some v → out'[k]? = some v' → VR ρ v v'
  | [], [], c, c', out, hs, hc, _, _, h => by simp [Instr.fill] at h ⊢; subst h; exact ⟨hs, hc⟩
  | [], _ :: _, _, _, _, _, _, h, _, _ => by simp at h
  | _ :: _, [], _, _, _, _, _, h, _, _ => by simp at h
  | (i, v) :: ps, (i', v') :: ps', c, c', out, hs, hc, hl, hp, h => by
    obtain ⟨h1, h2⟩ := hp 0 (i, v) (i', v') rfl rfl
    simp only at h1 h2
    subst h1
    obtain ⟨l1, l2⟩ := h2.cells
    have hsz : v'.cells.size = v.cells.size := by simpa [Cells] using l1
    simp only [Instr.fill] at h ⊢
    cases hpl : place i with
    | none => rw [hpl] at h; cases h
    | some q =>
      obtain ⟨off, size⟩ := q
      rw [hpl] at h
      simp only at h ⊢
      split at h
      · cases h
      · rename_i hcond
        rw [if_neg (by rw [hsz, ← hs]; exact hcond)]
        have hz : ∀ (k : Nat) (p p' : Value × Nat), v.cells.zipIdx.toList[k]? = some p → v'.cells.zipIdx.toList[k]? = some p' → VR ρ p.1 p'.1 ∧ p.2 = p'.2 := by
          intro k p p' hp hp'
          simp only [Array.toList_zipIdx, List.getElem?_zipIdx, Option.map_eq_some_iff] at hp hp'
          obtain ⟨a, ha, rfl⟩ := hp
          obtain ⟨a', ha', rfl⟩ := hp'
          obtain ⟨u', e1, e2⟩ := l2 k a (by simpa [Cells] using ha)
          have : a' = u' := by
            simp only [Cells] at e1
            rw [e1] at ha'; exact (Option.some.inj ha').symm
          exact ⟨by rw [this]; exact e2, rfl⟩
        have hfold := foldl_set_rel (β := Unit) v.cells.zipIdx.toList v'.cells.zipIdx.toList c c' hs (by simp [hsz]) hc hz off
        simp only [Array.foldl_toList] at hfold
        exact fill_rel place ps ps' _ _ out hfold.1 hfold.2 (by simpa using hl) (fun k p p' a b => hp (k + 1) p p' (by simpa using a) (by simpa using b)) h
theorem parts_rel {ev : Operand → Option Value} (he : EvR ρ ev evc) : ∀ (ps : List (Nat × Operand)) (parts : List (Nat × Value)), ps.mapM (fun p => (ev p.2).map fun v => (p.1, v)) = some parts →
    parts.length = ps.length ∧ ∀ (k : Nat) (p p' : Nat × Value), parts[k]? = some p → (ps.map fun x => (x.1, evc x.2))[k]? = some p' → p.1 = p'.1 ∧ VR ρ p.2 p'.2
  | [], parts, h => by simp at h; subst h; simp
  | x :: ps, parts, h => by
    simp only [List.mapM_cons, bind, pure, Option.bind_eq_some_iff, Option.map_eq_some_iff] at h
    obtain ⟨q, ⟨v, hv, rfl⟩, r, hr, ha⟩ := h
    obtain rfl := Option.some.inj ha
    obtain ⟨i1, i2⟩ := parts_rel he ps r hr
    refine ⟨by simp [i1], fun k p p' hk hk' => ?_⟩
    cases k with
    | zero => simp at hk hk'; subst hk; subst hk'; exact ⟨rfl, he _ _ hv⟩
    | succ k => exact i2 k p p' (by simpa using hk) (by simpa using hk')
theorem run_mapM_places {fs : List Field} : ∀ {l : List (Nat × Nat)}, fs.mapM (fun f => (P.info? f.type).map fun i => (f.offset, i.size)) = some l →
    ∀ w, (fs.mapM (fun (f : Field) => do pure (f.offset, ← sizeOf f.type) : Field → Sem (Nat × Nat))).run P w = .ok l w := by
  induction fs with
  | nil => intro l h w; simp at h; subst h; simp
  | cons f fs ih =>
    intro l h w
    simp only [List.mapM_cons, bind, pure, Option.bind_eq_some_iff, Option.map_eq_some_iff] at h
    obtain ⟨q, ⟨i, hi, rfl⟩, r, hr, ha⟩ := h
    obtain rfl := Option.some.inj ha
    have := ih hr w
    rw [List.mapM_cons]
    simp only [Sem.run_bind, sizeOf, typeInfo]
    simp [hi]
    simp only [sizeOf, typeInfo] at this
    simp at this
    simp [this]
end
end Go.Proofs.YtlpcdcpcfeaecaaAb
end
section
namespace Go.Proofs.YtlpcdcpcfeaecaaAb
open Go
section
variable {P : Program} {β lo n : Nat} {ρ : Rho} {H : Heap} {w : World} {evc : Operand → Value}
theorem opt_bnd {ev : Operand → Option Value} (he : EvR ρ ev evc) {o : Option Operand} {d r : Nat} (h : Bnd ev o d r) :
    (o.map evc = none ∧ r = d) ∨ ∃ q, o.map evc = some (.int q (r : Int)) := by
  rcases bnd_run he h with ⟨rfl, h2⟩ | ⟨y, q, rfl, h2⟩
  · exact .inl ⟨rfl, h2⟩
  · exact .inr ⟨q, by simp only [Option.map_some, h2]⟩
theorem getElem?_flat {z : List Value} {m : Nat} (c : Nat) {k : Nat} {v : Value} (h : (List.replicate c z).flatten[k]? = some v) : v ∈ z := by
  have : v ∈ (List.replicate c z).flatten := List.mem_of_getElem? h
  simp only [List.mem_flatten, List.mem_replicate] at this
  obtain ⟨l, ⟨_, rfl⟩, hv⟩ := this
  exact hv
theorem flat_get {z : List Value} (hz : 0 < z.length) : ∀ (c k : Nat), k < c * z.length → (List.replicate c z).flatten[k]? = z[k % z.length]?
  | 0, k, h => by simp at h
  | c + 1, k, h => by
    rw [List.replicate_succ, List.flatten_cons]
    by_cases hk : k < z.length
    · rw [List.getElem?_append_left hk, Nat.mod_eq_of_lt hk]
    · rw [List.getElem?_append_right (by omega), flat_get hz c (k - z.length) (by rw [Nat.succ_mul] at h; omega)]
      congr 1
      conv => rhs; rw [← Nat.sub_add_cancel (Nat.le_of_not_lt hk), Nat.add_mod_right]
theorem length_flat (z : List Value) (c : Nat) : (List.replicate c z).flatten.length = c * z.length := by
  induction c with
  | zero => simp
  | succ c ih => rw [List.replicate_succ, List.flatten_cons, List.length_append, ih, Nat.succ_mul, Nat.add_comm]
theorem madeCells_toList {z : Value} (c size : Nat) (hz : (Cells z).length = size) (h0 : 0 < size) : (madeCells z.cells (c * size)).toList = (List.replicate c (Cells z)).flatten := by
  apply List.ext_getElem?
  intro k
  have hzs : z.cells.size = size := by simpa [Cells] using hz
  by_cases hk : k < c * size
  · rw [flat_get (by omega) c k (by rw [hz]; exact hk)]
    have hm : k % size < z.cells.size := by rw [hzs]; exact Nat.mod_lt _ h0
    simp [madeCells, hk, Cells, hzs]
    rw [Array.getElem?_eq_getElem hm, getElem!_pos z.cells _ hm]
  · rw [List.getElem?_eq_none (l := (madeCells z.cells (c * size)).toList) (by simp [madeCells]; omega), List.getElem?_eq_none (by rw [length_flat, hz]; omega)]
theorem zeroCells_toList {z : Value} (c size : Nat) (hz : (Cells z).length = size) (h0 : 0 < size) : (Builtin.zeroCells z.cells c).toList = (List.replicate c (Cells z)).flatten := by
  have hzs : z.cells.size = size := by simpa [Cells] using hz
  rw [← madeCells_toList c size hz h0]
  simp only [Builtin.zeroCells, madeCells, hzs]
theorem Sim.del (h : Sim β ρ H w) (b : Nat) : Sim β ρ (H.del b) w := by
  have key : ∀ i o, (H.del b) i = some o → H i = some o := fun i o ho => by
    by_cases hi : i = b
    · subst hi; rw [Heap.del_same] at ho; cases ho
    · rwa [Heap.del_ne _ hi] at ho
  have live : ∀ i, ((H.del b) i).isSome → (H i).isSome := fun i hi => by
    obtain ⟨o, ho⟩ := Option.isSome_iff_exists.1 hi
    simp [key i o ho]
  exact ⟨fun i e c s ho hr => h.row i e c s (key _ _ ho) hr, fun i es s ho hr => h.mp i es s (key _ _ ho) hr, fun i j s s' hi hj hr hr' hb hβ => h.inj i j s s' (live i hi) (live j hj) hr hr' hb hβ⟩
theorem drew_heap (w : World) : w.drew.heap = w.heap := rfl
theorem Ok.grown {lo n : Nat} (h : Sim β ρ H w) (hlo : lo ≤ n) (hn : ρ n = none) {size : Nat} {T : TypeId} {olds news olds' news' : List Value} {zs : Array Value}
    (ho : olds'.length = olds.length) (hnl : news'.length = news.length) (hov : ∀ (k : Nat) v, olds[k]? = some v → ∃ v', olds'[k]? = some v' ∧ VR ρ v v') (hnv : ∀ (k : Nat) v, news[k]? = some v → ∃ v', news'[k]? = some v' ∧ VR ρ v v')
    (h1 : ∀ v ∈ olds ++ news, v.oneCell' = true) :
    Ok β lo ρ n H w (ρ.set n ⟨w.heap.size, 0, (olds'.toArray ++ (news'.toArray ++ zs)).size, size⟩) (n + 1) (H.set n (.row size (olds ++ news))) (w.drew.alloc (.cells (olds'.toArray ++ (news'.toArray ++ zs)) T)) := by
  refine Ok.row h hlo hn (olds'.toArray ++ (news'.toArray ++ zs)) T (0, 0) rfl size (olds ++ news) _ (by simp; omega) (Nat.le_refl _) (fun k v hk => ?_) (fun k _ => by simp) h1
  have hk' : k < olds.length + news.length := by have := (List.getElem?_eq_some_iff.1 hk).1; simpa using this
  by_cases hko : k < olds.length
  · rw [List.getElem?_append_left hko] at hk
    obtain ⟨v', a, b⟩ := hov k v hk
    refine ⟨v', ?_, b⟩
    rw [Array.getElem?_append, if_pos (by simp; omega)]
    simpa using a
  · rw [List.getElem?_append_right (by omega)] at hk
    obtain ⟨v', a, b⟩ := hnv _ v hk
    refine ⟨v', ?_, b⟩
    rw [Array.getElem?_append, if_neg (by simp; omega), Array.getElem?_append, if_pos (by simp; omega)]
    simpa [ho] using a
theorem run_stores (hs : Sim β ρ H w) {b e : Nat} {c : List Value} {s : Spot} (hb : H b = some (.row e c)) (hr : ρ b = some s) (hβ : β ≤ b) {o : Nat} {l l' : List Value} (hfit : o + l.length ≤ s.room) (hl : l'.length = l.length)
    (hV : ∀ (k : Nat) v, l[k]? = some v → ∃ v', l'[k]? = some v' ∧ VR ρ v v') (h1 : ∀ v ∈ l, v.oneCell' = true) :
    (storeCells ⟨s.blk, s.off + o, none⟩ l').run P w = .ok () (w.setCells s.blk (s.off + o) l') := by
  obtain ⟨cc, T, fz, g1, g2, g3, g4, g5, g6, g7⟩ := hs.row b e c s hb hr
  have := run_storeCells_cells (P := P) s.blk (s.off + o) l' 0 w
    (fun j hj => by
      simp only [World.cell?, Nat.add_zero, g1]
      rw [if_neg (by simp), Array.getElem?_eq_getElem (by omega)]; rfl)
    (fun j hj => by
      simp only [World.frozen?, g1, Nat.add_zero]
      have := g6 hβ (o + j) (by omega)
      rw [Bool.eq_false_iff]; intro hh
      simp only [Bool.and_eq_true, decide_eq_true_eq] at hh
      exact this ⟨by omega, by omega⟩)
    (fun u hu => by
      obtain ⟨j, hj⟩ := List.getElem?_of_mem hu
      have hjl : j < l.length := by have := (List.getElem?_eq_some_iff.1 hj).1; omega
      obtain ⟨u', a1, a2⟩ := hV j l[j] (List.getElem?_eq_getElem hjl)
      rw [hj] at a1
      obtain rfl := Option.some.inj a1
      exact a2.oneCell (h1 _ (List.getElem_mem hjl)))
  simpa using this
theorem Ok.inplace {lo n b e : Nat} {c : List Value} {s : Spot} (h : Sim β ρ H w) (hβ : β ≤ lo) (hlo : lo ≤ b) (hbn : b < n) (hn : ρ n = none) (hb : H b = some (.row e c)) (hr : ρ b = some s)
    {k size : Nat} {olds news news' : List Value} (hesz : s.esz = size) (hol : (c.drop k).take olds.length = olds) (hfit : k + olds.length + news.length ≤ s.room) (hnl : news'.length = news.length)
    (hV : ∀ (j : Nat) v, news[j]? = some v → ∃ v', news'[j]? = some v' ∧ VR ρ v v') (h1 : ∀ v ∈ news, v.oneCell' = true) :
    Ok β lo ρ n H w (ρ.set n ⟨s.blk, s.off + k, s.room - k, size⟩) (n + 1) ((H.del b).set n (.row size (olds ++ news))) (w.setCells s.blk (s.off + (k + olds.length)) news') := by
  obtain ⟨cc, T, fz, hbk, he, hlen, hroom, hcell, hfz, hone⟩ := h.row b e c s hb hr
  obtain ⟨⟨cc', b1, b2, b3⟩, b4, b5⟩ := heap_setCells s.blk T fz news' (s.off + (k + olds.length)) w cc hbk (by omega)
  have hle : ρ.le (ρ.set n ⟨s.blk, s.off + k, s.room - k, size⟩) := Rho.le_set hn
  have hother : ∀ j t, j ≠ b → (H j).isSome → ρ j = some t → t.blk ≠ s.blk := fun j t hj hl ht heq =>
    hj (h.inj b j s t (by simp [hb]) hl hr ht heq.symm (by omega)).symm
  have hdel : ∀ j o, j ≠ n → ((H.del b).set n (.row size (olds ++ news))) j = some o → H j = some o ∧ j ≠ b := fun j o hj ho => by
    rw [Heap.set_ne _ _ hj] at ho
    by_cases hjb : j = b
    · subst hjb; rw [Heap.del_same] at ho; cases ho
    · rw [Heap.del_ne _ hjb] at ho; exact ⟨ho, hjb⟩
  have hlive : ∀ j, j ≠ n → (((H.del b).set n (.row size (olds ++ news))) j).isSome → (H j).isSome ∧ j ≠ b := fun j hj hl => by
    obtain ⟨o, ho⟩ := Option.isSome_iff_exists.1 hl
    obtain ⟨a, b⟩ := hdel j o hj ho
    exact ⟨by simp [a], b⟩
  refine ⟨⟨fun j e' c' t ho' hr' => ?_, fun j es t ho' hr' => ?_, fun j q t t' hj hq hr1 hr2 hbb hjβ => ?_⟩, by omega, fun i hi => Rho.set_ne _ _ (by omega), fun i hi => Rho.set_ne _ _ (by omega),
    fun i hi => ?_, by rw [b5]; exact Nat.le_refl _, fun B hB hne => b4 B (fun heq => hne b s hlo hbn (by simp [hb]) hr heq.symm),
    fun i t h1 h2 hrt => .inr ⟨b, s, hlo, hbn, by simp [hb], hr, ?_⟩, fun i hi h => ?_, setCells_out _ _ _ _⟩
  · by_cases hj : j = n
    · subst hj
      rw [Heap.set_same] at ho'; rw [Rho.set_same] at hr'
      obtain ⟨rfl, rfl⟩ := Ob.row.inj (Option.some.inj ho')
      obtain rfl := Option.some.inj hr'
      refine ⟨cc', T, fz, b1, rfl, by simp; omega, by simp only; omega, fun q v hq => ?_, fun _ q hq => ?_, fun _ v hv => ?_⟩
      · simp only
        rw [b3]
        by_cases q1 : q < olds.length
        · rw [List.getElem?_append_left q1] at hq
          rw [if_pos (by omega)]
          rw [← hol, List.getElem?_take_of_lt q1, List.getElem?_drop] at hq
          obtain ⟨v', a, b⟩ := hcell _ v hq
          exact ⟨v', by rw [Nat.add_assoc]; exact a, b.mono hle⟩
        · rw [List.getElem?_append_right (by omega)] at hq
          have hq' := (List.getElem?_eq_some_iff.1 hq).1
          rw [if_neg (by omega), if_pos (by omega)]
          obtain ⟨v', a, b⟩ := hV _ v hq
          exact ⟨v', by rw [show s.off + k + q - (s.off + (k + olds.length)) = q - olds.length by omega]; exact a, b.mono hle⟩
      · simp only at hq ⊢
        have := hfz (by omega) (k + q) (by omega)
        rwa [← Nat.add_assoc] at this
      · rw [List.mem_append] at hv
        rcases hv with hv | hv
        · rw [← hol] at hv
          exact hone (by omega) v (List.mem_of_mem_drop (List.mem_of_mem_take hv))
        · exact h1 v hv
    · obtain ⟨ho2, hjb⟩ := hdel j _ hj ho'
      rw [Rho.set_ne _ _ hj] at hr'
      obtain ⟨cc2, T2, fz2, a1, a2, a3, a4, a5, a6, a7⟩ := h.row j e' c' t ho2 hr'
      exact ⟨cc2, T2, fz2, by rw [b4 _ (hother j t hjb (by simp [ho2]) hr')]; exact a1, a2, a3, a4, fun q v hq => by obtain ⟨v', x, y⟩ := a5 q v hq; exact ⟨v', x, y.mono hle⟩, a6, a7⟩
  · by_cases hj : j = n
    · subst hj; rw [Heap.set_same] at ho'; cases Option.some.inj ho'
    · obtain ⟨ho2, hjb⟩ := hdel j _ hj ho'
      rw [Rho.set_ne _ _ hj] at hr'
      obtain ⟨en, cl, a1, a2, a3⟩ := h.mp j es t ho2 hr'
      exact ⟨en, cl, by rw [b4 _ (hother j t hjb (by simp [ho2]) hr')]; exact a1, a2, fun q p hq => by obtain ⟨x, y1, y2, y3, y4⟩ := a3 q p hq; exact ⟨x, y1, y2, y3, y4.mono hle⟩⟩
  · by_cases hjn : j = n
    · by_cases hqn : q = n
      · rw [hjn, hqn]
      · exfalso
        subst hjn
        obtain ⟨l1, l2⟩ := hlive q hqn hq
        rw [Rho.set_same] at hr1; rw [Rho.set_ne _ _ hqn] at hr2
        obtain rfl := Option.some.inj hr1
        exact hother q t' l2 l1 hr2 hbb.symm
    · by_cases hqn : q = n
      · exfalso
        subst hqn
        obtain ⟨l1, l2⟩ := hlive j hjn hj
        rw [Rho.set_same] at hr2; rw [Rho.set_ne _ _ hjn] at hr1
        obtain rfl := Option.some.inj hr2
        exact hother j t l2 l1 hr1 hbb
      · rw [Rho.set_ne _ _ hjn] at hr1; rw [Rho.set_ne _ _ hqn] at hr2
        exact h.inj j q t t' (hlive j hjn hj).1 (hlive q hqn hq).1 hr1 hr2 hbb hjβ
  · rw [Heap.set_ne _ _ (by omega), Heap.del_ne _ (by omega)]
  · obtain rfl : i = n := by omega
    rw [Rho.set_same] at hrt
    obtain rfl := Option.some.inj hrt
    rfl
  · rw [Heap.set_ne _ _ (by omega)]
    by_cases hib : i = b
    · subst hib; exact Heap.del_same _ _
    · rw [Heap.del_ne _ hib]; exact h
theorem run_call_builtin {o : Oper} {b : Builtin} {args : Array Operand} {ts : Array TypeId} (ho : o.op = .call { callee := .builtin b, args := args, argTypes := ts }) (w : World) :
    (execOp evc o).run P w = (builtin b ts o.type (args.map fun | .const _ => true | _ => false) (args.map evc)).run P w := by
  obtain ⟨dst, op, ty, pos, after, guard⟩ := o
  simp only at ho; subst ho
  simp [execOp, resolve, invoke]
  rfl
theorem run_value {s : Sem Value} {v : Value} {w w' : World} (h : s.run P w = .ok v w') : (do pure (Next.value (← s)) : Sem Next).run P w = .ok (.value v) w' := by
  simp [h]
end
end Go.Proofs.YtlpcdcpcfeaecaaAb
end
section
namespace Go.Proofs.YtlpcdcpcfeaecaaAb
open Go
section
variable {P : Program} {β lo n : Nat} {ρ : Rho} {H : Heap} {w : World} {evc : Operand → Value}
theorem run_bytesToString_u8 (w : World) (a : Addr) (len cap : Nat) (l : List UInt8) (h : (loadCells a len).run P w = .ok (l.map u8).toArray w) :
    (Conv.bytesToString (.slice (some a) len cap)).run P w = .ok (.string ⟨l.toArray⟩) w := by
  have h' : (loadCells a len).run P w = .ok ((l.map (fun b => (b.toNat : Int))).map (Value.int .u8)).toArray w := by
    rw [h, List.map_map]; rfl
  rw [run_bytesToString w a len cap _ h', foldl_push_byteCells]
  have he0 : ByteArray.empty.data = #[] := rfl
  rw [he0]; simp
theorem map_u8_rel {l : List UInt8} {l' : List Value} (hl : l'.length = l.length) (h : ∀ (j : Nat) v, (l.map u8)[j]? = some v → ∃ v', l'[j]? = some v' ∧ VR ρ v v') : l' = l.map u8 := by
  apply List.ext_getElem?
  intro j
  by_cases hj : j < l.length
  · obtain ⟨v', a, b⟩ := h j (u8 l[j]) (by simp [hj])
    rw [a]
    have : v' = u8 l[j] := by unfold u8 at b ⊢; cases b; rfl
    rw [this]; simp [hj]
  · rw [List.getElem?_eq_none (by omega), List.getElem?_eq_none (by simp; omega)]
set_option maxHeartbeats 4000000 in
theorem StepM.sound {ev : Operand → Option Value} {o : Oper} {v : Value} {n' : Nat} {H' : Heap} (h : StepM P lo ev n H o v n' H') (hβ : β ≤ lo) (hlo : lo ≤ n) (he : EvR ρ ev evc) (hs : Sim β ρ H w)
    (hf : ∀ i, n ≤ i → i < n' → ρ i = none) : Lands P β lo ρ n H w evc o v n' H' := by
  cases h with
  | slice ho ht hi hx hb he' hm hmm hl hh hmx hlh hhm =>
    rename_i t el i x low high mx b k len cap l h m e c
    obtain ⟨dst, op, ty, pos, after, guard⟩ := o
    simp only at ho; subst ho
    subst he'
    obtain ⟨s, hr, hxx⟩ := (he _ _ hx).slice_inv
    obtain ⟨cc, T, fz, g1, g2, g3, g4, g5, g6, g7⟩ := hs.row b _ c s hb hr
    have hlow := opt_bnd (d := 0) he hl
    have hhigh := opt_bnd (d := len) he hh
    have hmxb := opt_bnd he hm
    have hlb : ∀ cap', len ≤ cap' → (cap = cap' ∨ (UNK ≤ cap ∧ cap ≤ UNK + cap')) → lb len cap ≤ cap' := fun cap' a b => by
      unfold lb
      rcases b with rfl | ⟨b1, b2⟩
      · split <;> omega
      · rw [if_pos b1]; omega
    rcases hxx with ⟨cap', hv, h1, h2, h3⟩ | ⟨rfl, rfl, x', hv⟩
    · have hcap := hlb cap' h1 h3
      obtain ⟨m', hm', hmm', hml⟩ : ∃ m', (Instr.sliceBounds true len cap' (low.map evc) (high.map evc) (mx.map evc)).run P w = .ok (l, h, m') w ∧ m ≤ m' ∧ m' ≤ cap' := by
        rcases hmxb with ⟨e1, e2⟩ | ⟨q, e1⟩
        · exact ⟨cap', run_sliceBounds true len cap' l h cap' _ _ _ (.inl ⟨e1, rfl⟩) (Nat.le_refl _) hhigh hlow hlh (by omega) (by rw [e1]; simp) w, by omega, Nat.le_refl _⟩
        · exact ⟨m, run_sliceBounds true len cap' l h m _ _ _ (.inr ⟨q, e1⟩) (by omega) hhigh hlow hlh hhm (by simpa using hmx) w, Nat.le_refl _, by omega⟩
      by_cases hml2 : m' = l
      · refine .pure (v' := .slice (some ⟨s.blk, s.off + k, none⟩) (h - l) (m' - l)) hs ?_ ?_
        · simp [execOp, Instr.sliceAt, Instr.slice, run_underlying ht, hv, hm', sizeOf, typeInfo, hi, hml2]
        · have e1 : h - l = 0 := by omega
          have e2 : m' - l = 0 := by omega
          have e3 : m - l = 0 := by omega
          rw [e1, e2, e3]
          exact .sl0 b _ _ s hr
      · refine .pure (v' := .slice (some ⟨s.blk, s.off + (k + l * i.size), none⟩) (h - l) (m' - l)) hs ?_ (.sl b _ _ _ _ s hr (by omega) ?_ (.inr ⟨by omega, by omega⟩))
        · simp [execOp, Instr.sliceAt, Instr.slice, run_underlying ht, hv, hm', sizeOf, typeInfo, hi, hml2, add_off, Nat.add_assoc]
        · rw [g2] at h2 ⊢
          have : l * i.size + (m' - l) * i.size ≤ cap' * i.size := by rw [← Nat.add_mul]; exact Nat.mul_le_mul_right _ (by omega)
          omega
    · have e0 : lb 0 UNK = 0 := by unfold lb; rw [if_pos (Nat.le_refl _)]; simp
      rw [e0] at hmm
      obtain rfl : m = 0 := by omega
      obtain rfl : h = 0 := by omega
      obtain rfl : l = 0 := by omega
      refine .pure (v' := .slice (some x') 0 0) hs ?_ ?_
      · have := run_sliceBounds (P := P) true 0 0 0 0 0 (low.map evc) (high.map evc) (mx.map evc) (by rcases hmxb with ⟨a, _⟩ | a; exact .inl ⟨a, rfl⟩; exact .inr a) (Nat.le_refl _) hhigh hlow (Nat.le_refl _) (Nat.le_refl _) (by simpa using hmx) w
        simp [execOp, Instr.sliceAt, Instr.slice, run_underlying ht, hv, this, sizeOf, typeInfo, hi]
      · exact .sl0 b _ _ s hr
  | sliceNil ho ht hi hx hl hh =>
    rename_i t el i x low high
    obtain ⟨dst, op, ty, pos, after, guard⟩ := o
    simp only at ho; subst ho
    have hv : evc x = .slice none 0 0 := by have := he _ _ hx; generalize evc x = z at this; cases this; rfl
    have hlow := opt_bnd (d := 0) he hl
    have hhigh := opt_bnd (d := 0) he hh
    have := run_sliceBounds (P := P) true 0 0 0 0 0 (low.map evc) (high.map evc) none (.inl ⟨rfl, rfl⟩) (Nat.le_refl _) hhigh hlow (Nat.le_refl _) (Nat.le_refl _) (by simp) w
    exact .pure hs (by simp [execOp, Instr.sliceAt, Instr.slice, run_underlying ht, hv, this, sizeOf, typeInfo, hi]) .nils
  | eqNil ho hop ht hx hy =>
    rename_i op t u el x y a len cap
    obtain ⟨dst, op', ty, pos, after, guard⟩ := o
    simp only at ho; subst ho
    have hv : evc y = .slice none 0 0 := by have := he _ _ hy; generalize evc y = z at this; cases this; rfl
    have hx' := he _ _ hx
    have : ∃ a' l' c', evc x = .slice a' l' c' ∧ a'.isNone = a.isNone := by generalize evc x = z at hx'; cases hx' <;> exact ⟨_, _, _, rfl, rfl⟩
    obtain ⟨a', l', c', hxx, hnone⟩ := this
    refine .pure (v' := .bool (if op = .eql then a.isNone else !a.isNone)) hs ?_ (.bool _)
    have hg : (eqGuard op t x y (evc x) (evc y)).run P w = .ok () w := by rw [hxx, hv]; rcases hop with rfl | rfl <;> rfl
    have hb : (binOp op t (evc x) (evc y)).run P w = .ok (.bool (if op = .eql then a'.isNone else !a'.isNone)) w := by
      rw [hxx, hv]
      rcases hop with rfl | rfl
      · exact Lib.run_eql_slice_nil w t el a' l' c' 0 0 ht
      · exact run_neq_slice_nil_any w t el a' l' c' 0 0 ht
    simp only [execOp]
    refine run_value ?_
    simp only [Sem.run_bind, hg, Result.andThen_ok, hb, hnone]
  | capE ho ht hx hc =>
    rename_i t x el a len cap
    have hx' := he _ _ hx
    have : ∃ a', evc x = .slice a' len cap := by
      generalize evc x = z at hx'
      cases hx' with
      | nils => exact ⟨_, rfl⟩
      | sl b o len cap cap' s h hl hr hcc => rcases hcc with rfl | ⟨h1, _⟩; exact ⟨_, rfl⟩; omega
      | sl0 => omega
    obtain ⟨a', hxx⟩ := this
    refine .pure (v' := .int .i64 cap) hs ?_ (.int .i64 cap)
    rw [run_call_builtin ho]
    simp [builtin, Builtin.cap_, run_underlying ht, hxx, goInt]
  | make ho ht hi hz hzs h0 hg hx hy hlc hb h63 =>
    rename_i t el i z x y q q' l c
    obtain ⟨dst, op, ty, pos, after, guard⟩ := o
    simp only at ho; subst ho
    have hxv := int_inv he hx
    have hyv := int_inv he hy
    have h63' : (c : Int) ≤ 9223372036854775807 := by unfold UNK at h63; omega
    have hb' : (i.bytes : Int) * (c : Int) ≤ 281474976710656 := by
      have h1 : ((i.bytes * c : Nat) : Int) ≤ 281474976710656 := by omega
      rwa [Int.natCast_mul] at h1
    have hrun := run_make (P := P) w t el i z ht hi hz q q' (l : Int) (c : Int) (by omega) (by omega) hb' h63'
    simp only [Int.toNat_natCast] at hrun
    have hml := madeCells_toList c i.size hzs h0
    refine ⟨_, _, _, .inl (by simp only [execOp, hxv, hyv]; exact run_value hrun), ?_,
      Ok.row hs hlo (hf n (Nat.le_refl _) (Nat.lt_succ_self _)) (madeCells z.cells (c * i.size)) el (0, 0) rfl i.size _ (c * i.size) (by rw [length_flat, hzs]; exact Nat.le_refl _) (by rw [size_madeCells]; exact Nat.le_refl _)
        (fun k v hk => ⟨v, by rw [← Array.getElem?_toList, hml]; exact hk, (hg v (getElem?_flat (m := 0) c hk)).1.2 ρ⟩) (fun k _ => by simp)
        (fun v hv => by obtain ⟨j, hj⟩ := List.getElem?_of_mem hv; exact (hg v (getElem?_flat (m := 0) c hj)).2)⟩
    exact .sl n 0 l c c ⟨w.heap.size, 0, c * i.size, i.size⟩ (Rho.set_same _ _ _) hlc (by simp) (.inl rfl)
  | build ho ht hi hz hg hp hpl hfl =>
    rename_i t ps fs parts places z iz cells
    obtain ⟨dst, op, ty, pos, after, guard⟩ := o
    simp only at ho; subst ho
    obtain ⟨q1, q2⟩ := parts_rel he _ _ hp
    obtain ⟨out', e1, e2, e3⟩ := fill_rel (ρ := ρ) (places.toArray[·]?) parts (ps.toList.map fun x => (x.1, evc x.2)) z.cells z.cells cells rfl (fun k v v' a b => by
      rw [a] at b; obtain rfl := Option.some.inj b; exact (hg v (List.mem_of_getElem? (by simpa [Cells] using a))).2 ρ) (by simpa using q1) q2 hfl
    refine .pure (v' := .agg out') hs ?_ (VR.agg_of e2 fun k u hk => ?_)
    · have hm := run_mapM_places (P := P) hpl w
      have hm2 : (fs.mapM (fun (f : Field) => do pure (f.offset, ← sizeOf f.type) : Field → Sem (Nat × Nat))).run P w = .ok places.toArray w := by
        rw [Array.mapM_eq_mapM_toList]
        rw [map_eq_pure_bind]
        rw [Sem.run_bind, hm]; rfl
      have hparts : (ps.map fun x => (x.1, evc x.2)).toList = ps.toList.map fun x => (x.1, evc x.2) := by simp
      simp only [execOp, Instr.build, Sem.run_bind, zeroValue, typeInfo]
      simp [hi, hz, run_underlying ht]
      simp at hm2
      rw [hm2]
      simp at e1
      simp [e1]
    · have hk1 := (Array.getElem?_eq_some_iff.1 hk).1
      exact ⟨out'[k]'(by omega), Array.getElem?_eq_getElem (by omega), e3 k u _ hk (Array.getElem?_eq_getElem (by omega))⟩
  | buildA ho ht hi hz hie hg hp hfl =>
    rename_i t el len ps parts z iz i cells
    obtain ⟨dst, op, ty, pos, after, guard⟩ := o
    simp only at ho; subst ho
    obtain ⟨q1, q2⟩ := parts_rel he _ _ hp
    obtain ⟨out', e1, e2, e3⟩ := fill_rel (ρ := ρ) _ parts (ps.toList.map fun x => (x.1, evc x.2)) z.cells z.cells cells rfl (fun k v v' a b => by
      rw [a] at b; obtain rfl := Option.some.inj b; exact (hg v (List.mem_of_getElem? (by simpa [Cells] using a))).2 ρ) (by simpa using q1) q2 hfl
    refine .pure (v' := .agg out') hs ?_ (VR.agg_of e2 fun k u hk => ?_)
    · simp only [execOp, Instr.build, Sem.run_bind, zeroValue, typeInfo]
      simp [hi, hz, run_underlying ht, sizeOf, typeInfo, hie, e1]
    · have hk1 := (Array.getElem?_eq_some_iff.1 hk).1
      exact ⟨out'[k]'(by omega), Array.getElem?_eq_getElem (by omega), e3 k u _ hk (Array.getElem?_eq_getElem (by omega))⟩
  | buildSlice ho ht hi hz hg hsz hlen hp h1 hzc hfl hcs =>
    rename_i t el len ps parts z i cells
    obtain ⟨dst, op, ty, pos, after, guard⟩ := o
    simp only at ho; subst ho
    obtain ⟨q1, q2⟩ := parts_rel he _ _ hp
    have hmade : ∀ (k : Nat) v, (madeCells z.cells (len * i.size))[k]? = some v → v ∈ Cells z := by
      intro k v hk
      simp only [madeCells, Array.getElem?_map, Option.map_eq_some_iff] at hk
      obtain ⟨a, ha, rfl⟩ := hk
      have hsz0 : 0 < z.cells.size := by
        have : z.cells.size = i.size := by simpa [Cells] using hzc
        rw [this]
        have := (Array.getElem?_eq_some_iff.1 ha).1
        simp at this
        by_cases h : i.size = 0
        · rw [h] at this; omega
        · omega
      have hlt := Nat.mod_lt a hsz0
      rw [getElem!_pos z.cells _ hlt]
      simp [Cells]
    obtain ⟨out', e1, e2, e3⟩ := fill_rel (ρ := ρ) _ parts (ps.toList.map fun x => (x.1, evc x.2)) (madeCells z.cells (len * i.size)) (madeCells z.cells (len * i.size)) cells rfl (fun k v v' a b => by
      rw [a] at b; obtain rfl := Option.some.inj b; exact (hg v (hmade k v a)).1.2 ρ) (by simpa using q1) q2 hfl
    have hn16 : ¬ (16777216 < len * i.size) := by omega
    refine ⟨.slice (some ⟨w.heap.size, 0, none⟩) len len, w.alloc (.cells out' el), _, .inl ?_, ?_,
      Ok.row hs hlo (hf n (Nat.le_refl _) (Nat.lt_succ_self _)) out' el (0, 0) rfl i.size cells.toList cells.size (by simp) (by omega) (fun k v hk => ?_) (fun k _ => by simp) h1⟩
    · have he1 : Instr.fill (fun j => some (j * i.size, i.size)) ((Array.range (len * i.size)).map (z.cells[· % z.cells.size]!)) (ps.toList.map fun x => (x.1, evc x.2)) = some out' := e1
      simp only [execOp, Instr.buildSlice, Sem.run_bind, sizeOf, typeInfo, zeroValue]
      by_cases h0 : len * i.size = 0
      · rw [h0] at he1
        simp only [Array.range_zero', List.map_toArray, List.map_nil, Array.map_empty] at he1
        simp [run_underlying ht, hi, h0, hn16, Array.range_zero', he1, newRow]
      · simp [run_underlying ht, hi, hz, h0, hn16, he1, newRow]
    · exact .sl n 0 len len len ⟨w.heap.size, 0, cells.size, i.size⟩ (Rho.set_same _ _ _) (Nat.le_refl _) (by simp [hcs]) (.inl rfl)
    · have hk' : cells[k]? = some v := by simpa using hk
      have hk1 := (Array.getElem?_eq_some_iff.1 hk').1
      exact ⟨out'[k]'(by omega), Array.getElem?_eq_getElem (by omega), e3 k v _ hk' (Array.getElem?_eq_getElem (by omega))⟩
  | append0 ho ht hi hx hsrc =>
    rename_i t u el i x y a len cap
    obtain ⟨d, hu, hd, hlen, l', hfirst, hl1, hl2, hV, _⟩ := src_run (P := P) he hs hsrc
    obtain rfl : l' = [] := List.eq_nil_of_length_eq_zero (by simpa using hl1)
    have hx' := he _ _ hx
    have : ∃ a' cap', evc x = .slice a' len cap' ∧ len ≤ cap' := by
      generalize evc x = z at hx'
      cases hx' with
      | nils => exact ⟨_, _, rfl, by omega⟩
      | sl b o len cap cap' s h hl hr hcc => exact ⟨_, _, rfl, hl⟩
      | sl0 => exact ⟨_, _, rfl, by omega⟩
    obtain ⟨a', cap', hxx, hle⟩ := this
    rw [hxx] at hx'
    refine .pure hs ?_ hx'
    rw [run_call_builtin ho]
    simp [builtin, hxx, run_append_same ht hu hd hi (hlen w) (hfirst w rfl) hle]
  | appendI ho ht hi hx hsrc hb hlb hfit hlo' hbn h1 hm0 =>
    rename_i t u el i x y b k len cap m e c news
    obtain ⟨d, hu, hd, hlen, l', hfirst, hl1, hl2, hV, _⟩ := src_run (P := P) he hs hsrc
    obtain ⟨s, hr, hxx⟩ := (he _ _ hx).slice_inv
    obtain ⟨cc, T, fz, g1, g2, g3, g4, g5, g6, g7⟩ := hs.row b e c s hb hr
    have hsum : k + len * i.size + news.length ≤ c.length := by rw [hl2, Nat.add_assoc, ← Nat.add_mul]; exact hfit
    have hst := run_stores (P := P) hs hb hr (by omega) (o := k + len * i.size) (by omega) hl1 hV h1
    rcases hxx with ⟨cap', hv, a1, a2, a3⟩ | ⟨rfl, rfl, x', hv⟩
    · have hroom : len + m ≤ cap' := by
        unfold lb at hlb
        rcases a3 with rfl | ⟨b1, b2⟩
        · split at hlb <;> omega
        · rw [if_pos b1] at hlb; omega
      refine ⟨.slice (some ⟨s.blk, s.off + k, none⟩) (len + m) cap', _, ρ, .inl ?_, ?_, Ok.store hs hβ hlo' hbn hb hr hsum hl1 hV h1⟩
      · rw [run_call_builtin ho]
        simp [builtin, hv, run_append_fit ht hu hd hi (hlen w) (hfirst w rfl) (by rw [add_off, Nat.add_assoc]; exact hst) hroom]
      · exact .sl b k _ _ cap' s hr hroom a2 a3
    · exfalso
      have e0 : lb 0 UNK = 0 := by unfold lb; rw [if_pos (Nat.le_refl _)]; simp
      omega
  | appendN ho ht hi hz hzs hx hsrc h1 hm0 hby h63 =>
    rename_i t u el i z x y m news
    obtain ⟨d, hu, hd, hlen, l', hfirst, hl1, hl2, hV, _⟩ := src_run (P := P) he hs hsrc
    have hv : evc x = .slice none 0 0 := by have := he _ _ hx; generalize evc x = z at this; cases this; rfl
    have hrun := run_append_new (P := P) (w := w) (ty := o.type) (olds := []) ht hu hd hi hz (hlen w) (hfirst w.drew rfl) (by simp [Builtin.firstCells]) (show (0 : Nat) < 0 + m by omega) (by simpa using hby) (by simpa using h63) (a := none) (sCap := 0)
    simp only [Nat.zero_add] at hrun
    have hok := Ok.grown (β := β) (lo := lo) (size := i.size) (T := el) (olds := []) (olds' := []) (zs := Builtin.zeroCells z.cells (grownCap w m 0 el - m)) hs hlo (hf n (Nat.le_refl _) (Nat.lt_succ_self _)) rfl hl1 (fun k v hk => by simp at hk) hV (by simpa using h1)
    refine ⟨_, _, _, .inl (by rw [run_call_builtin ho]; simp only [builtin, List.map_toArray, List.map_cons, List.map_nil, hv]; exact run_value hrun), ?_, by simpa using hok⟩
    have hcap := le_grownCap w m 0 el
    refine .sl n 0 m (UNK + m) _ _ (Rho.set_same _ _ _) hcap ?_ (.inr ⟨by omega, by omega⟩)
    have hzz : z.cells.size = i.size := by simpa [Cells] using hzs
    simp only [size_zeroCells, hzz, Array.size_append, List.size_toArray, hl1, hl2, Nat.zero_add, List.length_nil]
    have := le_grownCap w m 0 el
    rw [← Nat.add_mul]
    exact Nat.mul_le_mul_right _ (by omega)
  | appendZ ho ht hu hi hz hzs h0 hg hx hy hm0 hby h63 =>
    rename_i t u el i z x y q qk m
    have hv : evc x = .slice none 0 0 := by have := he _ _ hx; generalize evc x = z at this; cases this; rfl
    have hyv := int_inv he hy
    have hrun := run_append_zeros (P := P) (w := w) (t := t) (ty := o.type) (q := q) ht hu hi hz hm0 h0 hby h63
    have hzl := zeroCells_toList m i.size hzs h0
    have hok := Ok.grown (β := β) (lo := lo) (size := i.size) (T := el) (olds := []) (olds' := []) (news := (List.replicate m (Cells z)).flatten) (news' := (Builtin.zeroCells z.cells m).toList) (zs := Builtin.zeroCells z.cells (grownCap w m 0 el - m)) hs hlo (hf n (Nat.le_refl _) (Nat.lt_succ_self _)) rfl (by rw [hzl]) (fun k v hk => by simp at hk)
      (fun k v hk => ⟨v, by rw [hzl]; exact hk, (hg v (getElem?_flat (m := 0) m hk)).1.2 ρ⟩) (fun v hv => by simp only [List.nil_append] at hv; obtain ⟨j, hj⟩ := List.getElem?_of_mem hv; exact (hg v (getElem?_flat (m := 0) m hj)).2)
    simp only [Array.toArray_toList] at hok
    refine ⟨_, _, _, .inl (by rw [run_call_builtin ho]; simp only [builtin, List.map_toArray, List.map_cons, List.map_nil, hv, hyv]; exact run_value hrun), ?_, by simpa using hok⟩
    have hcap := le_grownCap w m 0 el
    refine .sl n 0 m (UNK + m) _ _ (Rho.set_same _ _ _) hcap ?_ (.inr ⟨by omega, by omega⟩)
    have hzz : z.cells.size = i.size := by simpa [Cells] using hzs
    simp only [size_zeroCells, hzz, Array.size_append, List.size_toArray, Nat.zero_add, List.length_nil]
    rw [← Nat.add_mul]
    exact Nat.mul_le_mul_right _ (by omega)
  | appendG ho ht hi hz hzs hx hsrc hb hol holn hcap hgr h1 hby h63 =>
    rename_i t u el i z x y b k len cap m e c olds news
    obtain ⟨d, hu, hd, hlen, l', hfirst, hl1, hl2, hV, _⟩ := src_run (P := P) he hs hsrc
    obtain ⟨s, hr, hxx⟩ := (he _ _ hx).slice_inv
    rcases hxx with ⟨cap', hv, a1, a2, a3⟩ | ⟨rfl, rfl, x', hv⟩
    · obtain rfl : cap = cap' := by rcases a3 with h | ⟨h, _⟩; exact h; omega
      obtain ⟨ol', o1, o2, o3⟩ := loadCells_sim (P := P) (hs.same_heap (drew_heap w)) hb hr hol holn
      have hrun := run_append_new (P := P) (w := w) (ty := o.type) (olds := ol') (a := some ⟨s.blk, s.off + k, none⟩) (sLen := len) (sCap := cap) ht hu hd hi hz (hlen w) (hfirst w.drew rfl) (by simpa [Builtin.firstCells] using o1) hgr hby h63
      have hok := Ok.grown (β := β) (lo := lo) (size := i.size) (T := el) (zs := Builtin.zeroCells z.cells (grownCap w (len + m) cap el - (len + m))) hs hlo (hf n (Nat.le_refl _) (Nat.lt_succ_self _)) (by omega) hl1 o3 hV h1
      refine ⟨_, _, _, .inl (by rw [run_call_builtin ho]; simp only [builtin, List.map_toArray, List.map_cons, List.map_nil, hv]; exact run_value hrun), ?_, hok⟩
      have hcapg := le_grownCap w (len + m) cap el
      refine .sl n 0 _ _ _ _ (Rho.set_same _ _ _) hcapg ?_ (.inr ⟨by omega, by omega⟩)
      have hzz : z.cells.size = i.size := by simpa [Cells] using hzs
      simp only [size_zeroCells, hzz, Array.size_append, List.size_toArray, hl1, hl2, o2, Nat.zero_add]
      rw [← Nat.add_mul, ← Nat.add_mul]
      exact Nat.mul_le_mul_right _ (by omega)
    · omega
  | appendU ho ht hi hz hzs hx hsrc hb he' hol holn hcap hlo' hbn hm0 h1 hby h63 hk =>
    rename_i t u el i z x y b k len cap m e c olds news
    subst he'
    obtain ⟨d, hu, hd, hlen, l', hfirst, hl1, hl2, hV, _⟩ := src_run (P := P) he hs hsrc
    obtain ⟨s, hr, hxx⟩ := (he _ _ hx).slice_inv
    obtain ⟨cc, T, fz, g1, g2, g3, g4, g5, g6, g7⟩ := hs.row b _ c s hb hr
    have hnn := hf n (Nat.le_refl _) (Nat.lt_succ_self _)
    have hzz : z.cells.size = i.size := by simpa [Cells] using hzs
    have hold1 : ∀ v ∈ olds ++ news, v.oneCell' = true := fun v hv => by
      rw [List.mem_append] at hv
      rcases hv with hv | hv
      · rw [← hol] at hv; exact g7 (by omega) v (List.mem_of_mem_drop (List.mem_of_mem_take hv))
      · exact h1 v hv
    have moved : ∀ (a : Addr) (cap' : Nat), evc x = .slice (some a) len cap' → cap' < len + m → (∃ ol' : List Value, (Builtin.firstCells i.size len (.slice (some a) len cap')).run P w.drew = .ok ol'.toArray w.drew ∧ ol'.length = olds.length ∧
        ∀ (j : Nat) v, olds[j]? = some v → ∃ v', ol'[j]? = some v' ∧ VR ρ v v') → Lands P β lo ρ n H w evc o (.slice (some ⟨n, 0, none⟩) (len + m) (UNK + (len + m))) (n + 1) ((H.del b).set n (.row i.size (olds ++ news))) := by
      intro a cap' hv hgr ⟨ol', o1, o2, o3⟩
      have hrun := run_append_new (P := P) (w := w) (ty := o.type) (olds := ol') (a := some a) (sLen := len) (sCap := cap') ht hu hd hi hz (hlen w) (hfirst w.drew rfl) o1 hgr hby h63
      have hok := Ok.grown (β := β) (lo := lo) (size := i.size) (T := el) (zs := Builtin.zeroCells z.cells (grownCap w (len + m) cap' el - (len + m))) (hs.del b) hlo hnn o2 hl1 o3 hV hold1
      refine ⟨_, _, _, .inl (by rw [run_call_builtin ho]; simp only [builtin, List.map_toArray, List.map_cons, List.map_nil, hv]; exact run_value hrun), ?_, ⟨hok.sim, hok.le, hok.old, hok.far, fun j hj => ?_, hok.size, fun B hB hne => hok.keep B hB fun j t a1 a2 a3 a4 => hne j t a1 a2 (by
        by_cases hjb : j = b
        · subst hjb; simp [hb]
        · rwa [Heap.del_ne _ hjb] at a3) a4, fun j t a1 a2 a3 => (hok.fresh j t a1 a2 a3).imp id fun ⟨q, r, b1, b2, b3, b4, b5⟩ => ⟨q, r, b1, b2, by
        by_cases hjb : q = b
        · subst hjb; simp [hb]
        · rwa [Heap.del_ne _ hjb] at b3, b4, b5⟩, fun j hj h => hok.dead j hj (by
        by_cases hjb : j = b
        · subst hjb; exact Heap.del_same _ _
        · rw [Heap.del_ne _ hjb]; exact h), hok.out⟩⟩
      · have hcapg := le_grownCap w (len + m) cap' el
        refine .sl n 0 _ _ _ _ (Rho.set_same _ _ _) hcapg ?_ (.inr ⟨by omega, by omega⟩)
        simp only [size_zeroCells, hzz, Array.size_append, List.size_toArray, hl1, hl2, o2, holn, Nat.zero_add]
        rw [← Nat.add_mul, ← Nat.add_mul]
        exact Nat.mul_le_mul_right _ (by omega)
      · rw [Heap.set_ne _ _ (by omega), Heap.del_ne _ (by omega)]
    rcases hxx with ⟨cap', hv, a1, a2, a3⟩ | ⟨rfl, rfl, x', hv⟩
    · by_cases hroom : len + m ≤ cap'
      · have hsum : k + (olds.length + news.length) ≤ s.room := by
          rw [holn, hl2, ← Nat.add_mul]
          rw [g2] at a2
          have : (len + m) * i.size ≤ cap' * i.size := Nat.mul_le_mul_right _ hroom
          omega
        have hst := run_stores (P := P) hs hb hr (by omega) (o := k + olds.length) (by omega) hl1 hV h1
        refine ⟨.slice (some ⟨s.blk, s.off + k, none⟩) (len + m) cap', _, _, .inl ?_, ?_, Ok.inplace hs hβ hlo' hbn hnn hb hr (size := i.size) g2 (by rw [holn]; exact hol) (by omega) hl1 hV h1⟩
        · rw [run_call_builtin ho]
          simp [builtin, hv, run_append_fit ht hu hd hi (hlen w) (hfirst w rfl) (by rw [add_off, ← holn, Nat.add_assoc]; exact hst) hroom]
        · have := VR.sl (ρ := ρ.set n ⟨s.blk, s.off + k, s.room - k, i.size⟩) n 0 (len + m) (UNK + (len + m)) cap' ⟨s.blk, s.off + k, s.room - k, i.size⟩ (Rho.set_same _ _ _) hroom (by simp only; rw [g2] at a2; omega) (.inr ⟨by omega, by omega⟩)
          simpa using this
      · obtain ⟨ol', o1, o2, o3⟩ := loadCells_sim (P := P) (hs.same_heap (drew_heap w)) hb hr hol holn
        exact moved _ cap' hv (by omega) ⟨ol', by simpa [Builtin.firstCells] using o1, by omega, o3⟩
    · have : olds = [] := List.eq_nil_of_length_eq_zero (by simpa using holn)
      subst this
      exact moved _ 0 hv (by omega) ⟨[], by simp [Builtin.firstCells, loadCells, loadCellsFrom], rfl, fun j v hj => by simp at hj⟩
  | copy ho ht hi hx hsrc hb hfit hlo' hbn h1 =>
    rename_i t u el i x y b k len cap m e c news
    obtain ⟨d, hu, hd, hlen, l', hfirst, hl1, hl2, hV, hpart⟩ := src_run (P := P) he hs hsrc
    obtain ⟨s, hr, hxx⟩ := (he _ _ hx).slice_inv
    obtain ⟨cc, T, fz, g1, g2, g3, g4, g5, g6, g7⟩ := hs.row b e c s hb hr
    have hmin : (min m len) * i.size ≤ m * i.size := Nat.mul_le_mul_right _ (Nat.min_le_left _ _)
    have htl : (news.take ((min m len) * i.size)).length = (min m len) * i.size := by rw [List.length_take]; omega
    have htl' : (l'.take ((min m len) * i.size)).length = (news.take ((min m len) * i.size)).length := by rw [htl, List.length_take]; omega
    have htV : ∀ (j : Nat) v, (news.take ((min m len) * i.size))[j]? = some v → ∃ v', (l'.take ((min m len) * i.size))[j]? = some v' ∧ VR ρ v v' := fun j v hj => by
      have hjl : j < (min m len) * i.size := by rw [← htl]; exact (List.getElem?_eq_some_iff.1 hj).1
      rw [List.getElem?_take_of_lt hjl] at hj ⊢
      exact hV j v hj
    have ht1 : ∀ v ∈ news.take ((min m len) * i.size), v.oneCell' = true := fun v hv => h1 v (List.mem_of_mem_take hv)
    have hok := Ok.store (β := β) (lo := lo) (n := n) hs hβ hlo' hbn hb hr (o := k) (by omega) htl' htV ht1
    rcases hxx with ⟨cap', hv, a1, a2, a3⟩ | ⟨rfl, rfl, x', hv⟩
    · have hst := run_stores (P := P) hs hb hr (by omega) (o := k) (by omega) htl' htV ht1
      refine ⟨.int .i64 ((min m len : Nat) : Int), _, ρ, .inl ?_, .int _ _, hok⟩
      rw [run_call_builtin ho]
      have hmm : Nat.min m len = min m len := rfl
      simp [builtin, Builtin.copy_, run_underlying ht, hv, hlen, sizeOf, typeInfo, hi, hpart (min m len) (Nat.min_le_left _ _) w rfl, hst, goInt, hmm]
    · refine ⟨.int .i64 ((min m 0 : Nat) : Int), w, ρ, .inl ?_, .int _ _, ?_⟩
      · rw [run_call_builtin ho]
        have hmm : Nat.min m 0 = 0 := Nat.min_zero m
        have := hpart 0 (Nat.zero_le _) w rfl
        simp at this
        simp [builtin, Builtin.copy_, run_underlying ht, hv, hlen, sizeOf, typeInfo, hi, this, goInt, hmm, storeCells]
      · have e0 : l'.take ((min m 0) * i.size) = [] := by simp
        have e1 : (w.setCells s.blk (s.off + k) []) = w := rfl
        rw [e0, e1] at hok
        exact hok
  | clear ho ht hi hz hzs hx hb hfit hlo' hbn hg hl0 =>
    rename_i t el i z x b k len cap e c
    obtain ⟨s, hr, hxx⟩ := (he _ _ hx).slice_inv
    obtain ⟨cc, T, fz, g1, g2, g3, g4, g5, g6, g7⟩ := hs.row b e c s hb hr
    have hfl : (List.replicate len (Cells z)).flatten.length = len * i.size := by rw [length_flat, hzs]
    have hV : ∀ (j : Nat) v, (List.replicate len (Cells z)).flatten[j]? = some v → ∃ v', (List.replicate len (Cells z)).flatten[j]? = some v' ∧ VR ρ v v' := fun j v hj => ⟨v, hj, (hg v (getElem?_flat (m := 0) len hj)).1.2 ρ⟩
    have h1 : ∀ v ∈ (List.replicate len (Cells z)).flatten, v.oneCell' = true := fun v hv => by obtain ⟨j, hj⟩ := List.getElem?_of_mem hv; exact (hg v (getElem?_flat (m := 0) len hj)).2
    rcases hxx with ⟨cap', hv, a1, a2, a3⟩ | ⟨rfl, rfl, x', hv⟩
    · refine ⟨undef, _, ρ, .inl ?_, gr_undef.2 ρ, Ok.store hs hβ hlo' hbn hb hr (o := k) (by omega) rfl hV h1⟩
      rw [run_call_builtin ho]
      have hst := run_stores (P := P) hs hb hr (by omega) (o := k) (by omega) rfl hV h1
      have hzt : (Builtin.zeroCells z.cells len).toList = (List.replicate len (Cells z)).flatten := by
        by_cases h0 : 0 < i.size
        · exact zeroCells_toList len i.size hzs h0
        · have e0 : i.size = 0 := by omega
          have hzz : z.cells.size = 0 := by rw [e0] at hzs; simpa [Cells] using hzs
          rw [List.eq_nil_of_length_eq_zero (l := (List.replicate len (Cells z)).flatten) (by rw [hfl, e0]; simp)]
          apply List.eq_nil_of_length_eq_zero
          simp [Builtin.zeroCells, hzz]
      have hlen0 : len ≠ 0 := by omega
      obtain ⟨len, rfl⟩ : ∃ q, len = q + 1 := ⟨len - 1, by omega⟩
      simp [builtin, Builtin.clear_, run_underlying ht, hv, zeroValue, typeInfo, hi, hz, hzt, hst, undef]
    · omega
  | toBytes ho hsr ht hel hx h63 =>
    rename_i s t el x y
    obtain ⟨dst, op, ty, pos, after, guard⟩ := o
    simp only at ho; subst ho
    have hv : evc x = .string y := by have := he _ _ hx; generalize evc x = z at this; cases this; rfl
    have hrun := run_bytes_of_string (P := P) w s t el y hsr ht hel
    have hyl : y.data.toList.length = y.size := by cases y; rfl
    have hcap := le_grownCap w y.size 0 el
    have hbs : (bytesRow y (grownCap w y.size 0 el)).size = grownCap w y.size 0 el := by
      simp [bytesRow]
      have : y.data.size = y.size := rfl
      omega
    refine ⟨_, _, _, .inl (by simp only [execOp, hv]; exact run_value hrun), ?_,
      Ok.row hs hlo (hf n (Nat.le_refl _) (Nat.lt_succ_self _)) (bytesRow y (grownCap w y.size 0 el)) el _ rfl 1 (y.data.toList.map u8) (grownCap w y.size 0 el) (by rw [List.length_map, hyl]; exact hcap) (by rw [hbs]; exact Nat.le_refl _) (fun k v hk => ?_) (fun k hk => by simp only [hbs]; omega) (fun v hv => ?_)⟩
    · exact .sl n 0 _ _ _ ⟨w.heap.size, 0, grownCap w y.size 0 el, 1⟩ (Rho.set_same _ _ _) hcap (by simp) (.inr ⟨by omega, by omega⟩)
    · simp only [List.getElem?_map, Option.map_eq_some_iff] at hk
      obtain ⟨b, hb, rfl⟩ := hk
      refine ⟨u8 b, ?_, .int .u8 _⟩
      have hkl : k < y.data.size := by have := (List.getElem?_eq_some_iff.1 hb).1; simpa using this
      rw [Array.getElem?_toList] at hb
      unfold bytesRow
      rw [Array.getElem?_append, if_pos (by simpa using hkl), Array.getElem?_map, hb]
      rfl
    · simp only [List.mem_map] at hv
      obtain ⟨b, _, rfl⟩ := hv
      rfl
  | toStr ho hsr ht hel hx hb hl hn =>
    rename_i s t el x b k len cap e c l
    obtain ⟨dst, op, ty, pos, after, guard⟩ := o
    simp only at ho; subst ho
    obtain ⟨sp, hr, hxx⟩ := (he _ _ hx).slice_inv
    obtain ⟨l', o1, o2, o3⟩ := loadCells_sim (P := P) hs hb hr hl (by rw [List.length_map]; exact hn)
    have hl' := map_u8_rel (by omega) o3
    subst hl'
    refine .pure (v' := .string ⟨l.toArray⟩) hs ?_ (.string _)
    rcases hxx with ⟨cap', hv, a1, a2, a3⟩ | ⟨rfl, rfl, x', hv⟩
    · simp only [execOp, hv]
      refine run_value ?_
      rw [run_convert_bytes_string w s t el _ _ _ hsr hel ht]
      exact run_bytesToString_u8 w _ _ _ l o1
    · have : l = [] := List.eq_nil_of_length_eq_zero (by omega)
      subst this
      simp only [execOp, hv]
      refine run_value ?_
      rw [run_convert_bytes_string w s t el _ _ _ hsr hel ht]
      exact run_bytesToString_u8 w _ _ _ [] (by simp [loadCells, loadCellsFrom])
  | toStrNil ho hsr ht hel hx =>
    rename_i s t el x
    obtain ⟨dst, op, ty, pos, after, guard⟩ := o
    simp only at ho; subst ho
    have hv : evc x = .slice none 0 0 := by have := he _ _ hx; generalize evc x = z at this; cases this; rfl
    refine .pure (v' := .string ⟨#[]⟩) hs ?_ (.string _)
    simp only [execOp, hv]
    refine run_value ?_
    rw [run_convert_bytes_string w s t el _ _ _ hsr hel ht]
    simp [Conv.bytesToString]
    rfl
end
end Go.Proofs.YtlpcdcpcfeaecaaAb
end
section
namespace Go.Proofs.YtlpcdcpcfeaecaaAb
open Go
theorem mapM_congr {ev ev' : Operand → Option Value} : ∀ (xs : List Operand), (∀ x ∈ xs, ev' x = ev x) → xs.mapM ev' = xs.mapM ev
  | [], _ => rfl
  | x :: xs, h => by simp only [List.mapM_cons]; rw [h x (by simp), mapM_congr xs (fun y hy => h y (by simp [hy]))]
theorem mapM_congr2 {ev ev' : Operand → Option Value} : ∀ (ps : List (Nat × Operand)), (∀ p ∈ ps, ev' p.2 = ev p.2) → ps.mapM (fun p => (ev' p.2).map fun v => (p.1, v)) = ps.mapM (fun p => (ev p.2).map fun v => (p.1, v))
  | [], _ => rfl
  | p :: ps, h => by simp only [List.mapM_cons]; rw [h p (by simp), mapM_congr2 ps (fun y hy => h y (by simp [hy]))]
section
variable {P : Program} {lo n n' : Nat} {H H' : Heap} {ev ev' : Operand → Option Value} {o : Oper} {v : Value}
theorem Bnd.congr {x : Option Operand} {d r : Nat} (h : Bnd ev x d r) (he : ∀ y, x = some y → ev' y = ev y) : Bnd ev' x d r := by
  cases x with
  | none => exact h
  | some y => obtain ⟨q, hq⟩ := h; exact ⟨q, by rw [he y rfl]; exact hq⟩
theorem Src.congr {size : Nat} {u : TypeId} {y : Operand} {m : Nat} {l : List Value} (h : Src P ev H size u y m l) (he : ev' y = ev y) : Src P ev' H size u y m l := by
  cases h with
  | slice hu hd hy hb hl hn => exact .slice hu hd (by rw [he]; exact hy) hb hl hn
  | nil hu hd hy => exact .nil hu hd (by rw [he]; exact hy)
  | str hu hd hs hy => exact .str hu hd hs (by rw [he]; exact hy)
theorem Step.restrict (h : Step P lo ev n H o v n' H') (he : ∀ x ∈ o.op.operands, ev' x = ev x) : Step P lo ev' n H o v n' H' := by
  obtain ⟨dst, op, ty, pos, after, guard⟩ := o
  simp only at he
  cases h with
  | ground hsel hv hg hr =>
    refine .ground hsel (fun x hx => by rw [he x hx]; exact hv x hx) hg (fun w => ?_)
    rw [← hr w]
    congr 1
    exact execOp_congr _ hsel fun x hx => by rw [he x hx]
  | move ho hx => rcases ho with ho | ho <;> (simp only at ho; subst ho) <;> simp [Op.operands] at he
                  · exact .move (.inl rfl) (by rw [he]; exact hx)
                  · exact .move (.inr rfl) (by rw [he]; exact hx)
  | pick ho hc hv =>
    rename_i c a b t
    simp only at ho; subst ho
    simp [Op.operands] at he
    exact .pick rfl (by rw [he.1]; exact hc) (by cases t <;> simp [he.2.1, he.2.2] at hv ⊢ <;> exact hv)
  | alloc e ho hi hz hg => exact .alloc e ho hi hz hg
  | box e ho hx hg => simp only at ho; subst ho; simp [Op.operands] at he; exact .box e rfl (by rw [he]; exact hx) hg
  | load1 ho ht hd hx hb hk => simp only at ho; subst ho; simp [Op.operands] at he; exact .load1 rfl ht hd (by rw [he]; exact hx) hb hk
  | loadN ho ht hd hi hx hb hk hl => simp only at ho; subst ho; simp [Op.operands] at he; exact .loadN rfl ht hd hi (by rw [he]; exact hx) hb hk hl
  | store ho hi hx hy hsz hb hk hlo hbn h1 => simp only at ho; subst ho; simp [Op.operands] at he; exact .store rfl hi (by rw [he.1]; exact hx) (by rw [he.2]; exact hy) hsz hb hk hlo hbn h1
  | nilCheck ho hx => simp only at ho; subst ho; simp [Op.operands] at he; exact .nilCheck rfl (by rw [he]; exact hx)
  | nilCheckF ho hx => simp only at ho; subst ho; simp [Op.operands] at he; exact .nilCheckF rfl (by rw [he]; exact hx)
  | fieldAddr ho hs hf hi h0 hx => simp only at ho; subst ho; simp [Op.operands] at he; exact .fieldAddr rfl hs hf hi h0 (by rw [he]; exact hx)
  | field1 ho hs hf ht hd hx hv => simp only at ho; subst ho; simp [Op.operands] at he; exact .field1 rfl hs hf ht hd (by rw [he]; exact hx) hv
  | fieldN ho hs hf ht hd hi hx => simp only at ho; subst ho; simp [Op.operands] at he; exact .fieldN rfl hs hf ht hd hi (by rw [he]; exact hx)
  | indexAddrS ho ht hi hx hy h0 hj => simp only at ho; subst ho; simp [Op.operands] at he; exact .indexAddrS rfl ht hi (by rw [he.1]; exact hx) (by rw [he.2]; exact hy) h0 hj
  | indexAddrA ho ht hi hx hy h0 hj => simp only at ho; subst ho; simp [Op.operands] at he; exact .indexAddrA rfl ht hi (by rw [he.1]; exact hx) (by rw [he.2]; exact hy) h0 hj
  | indexA1 ho ht hi hd hd1 hx hy h0 hj hv => simp only at ho; subst ho; simp [Op.operands] at he; exact .indexA1 rfl ht hi hd hd1 (by rw [he.1]; exact hx) (by rw [he.2]; exact hy) h0 hj hv
  | extract ho hx hv => simp only at ho; subst ho; simp [Op.operands] at he; exact .extract rfl (by rw [he]; exact hx) hv
  | mkIface ho ht hd hx => simp only at ho; subst ho; simp [Op.operands] at he; exact .mkIface rfl ht hd (by rw [he]; exact hx)
  | mkFunc ho hx hy =>
    simp only at ho; subst ho
    simp only [Op.operands, Array.mem_append] at he
    exact .mkFunc rfl (by rw [mapM_congr _ (fun x hx => he x (.inl (by simpa using hx)))]; exact hx) (by rw [mapM_congr _ (fun x hx => he x (.inr (by simpa using hx)))]; exact hy)
  | len ho ht hx => simp only at ho; subst ho; simp [Op.operands, Call.operands] at he; exact .len rfl ht (by rw [he]; exact hx)
  | assert ho ht hd hx => simp only at ho; subst ho; simp [Op.operands] at he; exact .assert rfl ht hd (by rw [he]; exact hx)
theorem StepM.restrict (h : StepM P lo ev n H o v n' H') (he : ∀ x ∈ o.op.operands, ev' x = ev x) : StepM P lo ev' n H o v n' H' := by
  obtain ⟨dst, op, ty, pos, after, guard⟩ := o
  simp only at he
  cases h with
  | slice ho ht hi hx hb he' hm hmm hl hh hmx hlh hhm =>
    rename_i t el i x low high mx b k len cap l h m e c
    simp only at ho; subst ho
    simp only [Op.operands, Array.mem_append] at he
    exact .slice rfl ht hi (by rw [he x (by simp)]; exact hx) hb he' (hm.congr fun y hy => he y (by simp [hy])) hmm (hl.congr fun y hy => he y (by simp [hy])) (hh.congr fun y hy => he y (by simp [hy])) hmx hlh hhm
  | sliceNil ho ht hi hx hl hh =>
    rename_i t el i x low high
    simp only at ho; subst ho
    simp only [Op.operands, Array.mem_append] at he
    exact .sliceNil rfl ht hi (by rw [he x (by simp)]; exact hx) (hl.congr fun y hy => he y (by simp [hy])) (hh.congr fun y hy => he y (by simp [hy]))
  | eqNil ho hop ht hx hy => simp only at ho; subst ho; simp [Op.operands] at he; exact .eqNil rfl hop ht (by rw [he.1]; exact hx) (by rw [he.2]; exact hy)
  | capE ho ht hx hc => simp only at ho; subst ho; simp [Op.operands, Call.operands] at he; exact .capE rfl ht (by rw [he]; exact hx) hc
  | make ho ht hi hz hzs h0 hg hx hy hlc hb h63 => simp only at ho; subst ho; simp [Op.operands] at he; exact .make rfl ht hi hz hzs h0 hg (by rw [he.1]; exact hx) (by rw [he.2]; exact hy) hlc hb h63
  | build ho ht hi hz hg hp hpl hfl =>
    rename_i t ps fs parts places z iz cells
    simp only at ho; subst ho
    exact .build rfl ht hi hz hg (by rw [mapM_congr2 (ev := ev) _ (fun p hp => he p.2 (by simp [Op.operands]; exact ⟨p.1, by simpa using hp⟩))]; exact hp) hpl hfl
  | buildA ho ht hi hz hie hg hp hfl =>
    rename_i t el len ps parts z iz i cells
    simp only at ho; subst ho
    exact .buildA rfl ht hi hz hie hg (by rw [mapM_congr2 (ev := ev) _ (fun p hp => he p.2 (by simp [Op.operands]; exact ⟨p.1, by simpa using hp⟩))]; exact hp) hfl
  | buildSlice ho ht hi hz hg hsz hlen hp h1 hzc hfl hcs =>
    rename_i t el len ps parts z i cells
    simp only at ho; subst ho
    exact .buildSlice rfl ht hi hz hg hsz hlen (by rw [mapM_congr2 (ev := ev) _ (fun p hp => he p.2 (by simp [Op.operands]; exact ⟨p.1, by simpa using hp⟩))]; exact hp) h1 hzc hfl hcs
  | append0 ho ht hi hx hsrc => simp only at ho; subst ho; simp [Op.operands, Call.operands] at he; exact .append0 rfl ht hi (by rw [he.1]; exact hx) (hsrc.congr he.2)
  | appendI ho ht hi hx hsrc hb hlb hfit hlo hbn h1 hm0 => simp only at ho; subst ho; simp [Op.operands, Call.operands] at he; exact .appendI rfl ht hi (by rw [he.1]; exact hx) (hsrc.congr he.2) hb hlb hfit hlo hbn h1 hm0
  | appendZ ho ht hu hi hz hzs h0 hg hx hy hm0 hby h63 => simp only at ho; subst ho; simp [Op.operands, Call.operands] at he; exact .appendZ rfl ht hu hi hz hzs h0 hg (by rw [he.1]; exact hx) (by rw [he.2]; exact hy) hm0 hby h63
  | appendN ho ht hi hz hzs hx hsrc h1 hm0 hby h63 => simp only at ho; subst ho; simp [Op.operands, Call.operands] at he; exact .appendN rfl ht hi hz hzs (by rw [he.1]; exact hx) (hsrc.congr he.2) h1 hm0 hby h63
  | appendG ho ht hi hz hzs hx hsrc hb hol holn hcap hgr h1 hby h63 => simp only at ho; subst ho; simp [Op.operands, Call.operands] at he; exact .appendG rfl ht hi hz hzs (by rw [he.1]; exact hx) (hsrc.congr he.2) hb hol holn hcap hgr h1 hby h63
  | appendU ho ht hi hz hzs hx hsrc hb he' hol holn hcap hlo hbn hm0 h1 hby h63 hk => simp only at ho; subst ho; simp [Op.operands, Call.operands] at he; exact .appendU rfl ht hi hz hzs (by rw [he.1]; exact hx) (hsrc.congr he.2) hb he' hol holn hcap hlo hbn hm0 h1 hby h63 hk
  | copy ho ht hi hx hsrc hb hfit hlo hbn h1 => simp only at ho; subst ho; simp [Op.operands, Call.operands] at he; exact .copy rfl ht hi (by rw [he.1]; exact hx) (hsrc.congr he.2) hb hfit hlo hbn h1
  | clear ho ht hi hz hzs hx hb hfit hlo hbn hg hl0 => simp only at ho; subst ho; simp [Op.operands, Call.operands] at he; exact .clear rfl ht hi hz hzs (by rw [he]; exact hx) hb hfit hlo hbn hg hl0
  | toBytes ho hs ht hel hx h63 => simp only at ho; subst ho; simp [Op.operands] at he; exact .toBytes rfl hs ht hel (by rw [he]; exact hx) h63
  | toStr ho hs ht hel hx hb hl hn => simp only at ho; subst ho; simp [Op.operands] at he; exact .toStr rfl hs ht hel (by rw [he]; exact hx) hb hl hn
  | toStrNil ho hs ht hel hx => simp only at ho; subst ho; simp [Op.operands] at he; exact .toStrNil rfl hs ht hel (by rw [he]; exact hx)
theorem Step.abs (h : Step P lo ev n H o v n' H') (hlo : lo ≤ n) : n ≤ n' ∧ (∀ i, i < lo → H' i = H i) ∧ ((∀ i, n ≤ i → H i = none) → ∀ i, n' ≤ i → H' i = none) ∧ ∀ i, i < n → H i = none → H' i = none := by
  cases h
  case alloc => exact ⟨by omega, fun i hi => Heap.set_ne _ _ (by omega), fun h i hi => by rw [Heap.set_ne _ _ (by omega)]; exact h i (by omega), fun i hi h => by rw [Heap.set_ne _ _ (by omega)]; exact h⟩
  case box => exact ⟨by omega, fun i hi => Heap.set_ne _ _ (by omega), fun h i hi => by rw [Heap.set_ne _ _ (by omega)]; exact h i (by omega), fun i hi h => by rw [Heap.set_ne _ _ (by omega)]; exact h⟩
  case store b _ _ _ _ _ _ _ _ _ hb _ _ _ _ =>
    exact ⟨by omega, fun i hi => Heap.set_ne _ _ (by omega), fun h i hi => by rw [Heap.set_ne _ _ (by omega)]; exact h i (by omega), fun i hi h => by rw [Heap.set_ne _ _ (fun e => by subst e; rw [hb] at h; cases h)]; exact h⟩
  all_goals exact ⟨Nat.le_refl _, fun _ _ => rfl, fun h => h, fun _ _ h => h⟩
theorem StepM.abs (h : StepM P lo ev n H o v n' H') (hlo : lo ≤ n) : n ≤ n' ∧ (∀ i, i < lo → H' i = H i) ∧ ((∀ i, n ≤ i → H i = none) → ∀ i, n' ≤ i → H' i = none) ∧ ∀ i, i < n → H i = none → H' i = none := by
  have new : ∀ ob, n ≤ n + 1 ∧ (∀ i, i < lo → (H.set n ob) i = H i) ∧ ((∀ i, n ≤ i → H i = none) → ∀ i, n + 1 ≤ i → (H.set n ob) i = none) ∧ ∀ i, i < n → H i = none → (H.set n ob) i = none :=
    fun ob => ⟨by omega, fun i hi => Heap.set_ne _ _ (by omega), fun h i hi => by rw [Heap.set_ne _ _ (by omega)]; exact h i (by omega), fun i hi h => by rw [Heap.set_ne _ _ (by omega)]; exact h⟩
  have upd : ∀ b ob ob', lo ≤ b → b < n → H b = some ob → n ≤ n ∧ (∀ i, i < lo → (H.set b ob') i = H i) ∧ ((∀ i, n ≤ i → H i = none) → ∀ i, n ≤ i → (H.set b ob') i = none) ∧ ∀ i, i < n → H i = none → (H.set b ob') i = none :=
    fun b ob ob' h1 h2 hb => ⟨Nat.le_refl _, fun i hi => Heap.set_ne _ _ (by omega), fun h i hi => by rw [Heap.set_ne _ _ (by omega)]; exact h i hi, fun i hi h => by rw [Heap.set_ne _ _ (fun e => by subst e; rw [hb] at h; cases h)]; exact h⟩
  cases h
  case make => exact new _
  case buildSlice => exact new _
  case appendN => exact new _
  case appendZ => exact new _
  case appendG => exact new _
  case toBytes => exact new _
  case appendI hb hlb hfit hlo' hbn h1 hm0 => exact upd _ _ _ hlo' hbn hb
  case copy hb hfit hlo' hbn h1 => exact upd _ _ _ hlo' hbn hb
  case clear hb hfit hlo' hbn hg hl0 => exact upd _ _ _ hlo' hbn hb
  case appendU hb he' hol holn hcap hlo' hbn hm0 h1 hby h63 hk =>
    refine ⟨by omega, fun i hi => by rw [Heap.set_ne _ _ (by omega), Heap.del_ne _ (by omega)], fun h i hi => by rw [Heap.set_ne _ _ (by omega), Heap.del_ne _ (by omega)]; exact h i (by omega), fun i hi h => ?_⟩
    rw [Heap.set_ne _ _ (by omega)]
    simp only [Heap.del]
    split
    · rfl
    · exact h
  all_goals exact ⟨Nat.le_refl _, fun _ _ => rfl, fun h => h, fun _ _ h => h⟩
end
end Go.Proofs.YtlpcdcpcfeaecaaAb
end
section
namespace Go.Proofs.YtlpcdcpcfeaecaaAb
open Go
inductive Ex where
  | norm
  | ret
  | ex (id : Nat)
  | pan (v : Value)
inductive En where
  | ret (v : Value)
  | pan (v : Value)
def Ex.out (id : Nat) : Ex → Ex
  | .ex id' => if id' = id then .norm else .ex id'
  | e => e
def wA (ops : Array Oper) (o : Oper) (fr : Fr) : Option Bool :=
  match o.guard with
  | none => some true
  | some (j, want) =>
    match (ops[j]?).bind (·.dst) with
    | none => some false
    | some t =>
      match fr.get t with
      | some (.bool b) => some (b == want)
      | some _ => some false
      | none => none
inductive ResV (P : Program) (H : Heap) (fr : Fr) : ResultVar → Value → Prop
  | tmp {t : Tmp} {v : Value} (h : fr.get t = some v) : ResV P H fr (.tmp t) v
  | cell1 {a : Tmp} {t : TypeId} {d : TypeDesc} {b k e : Nat} {c : List Value} {v : Value} (ha : fr.get a = some (.pointer (some ⟨b, k, none⟩))) (ht : P.underlying t = some d) (hd : isRow d = false) (hb : H b = some (.row e c)) (hk : c[k]? = some v) : ResV P H fr (.cell a t) v
  | cellN {a : Tmp} {t : TypeId} {d : TypeDesc} {i : TypeInfo} {b k e : Nat} {c l : List Value} (ha : fr.get a = some (.pointer (some ⟨b, k, none⟩))) (ht : P.underlying t = some d) (hd : isRow d = true) (hi : P.info? t = some i) (hb : H b = some (.row e c)) (hk : (c.drop k).take i.size = l) (hl : l.length = i.size) : ResV P H fr (.cell a t) (.agg l.toArray)
inductive ResL (P : Program) (H : Heap) (fr : Fr) : List ResultVar → List Value → Prop
  | nil : ResL P H fr [] []
  | cons {r : ResultVar} {v : Value} {rs : List ResultVar} {vs : List Value} (h : ResV P H fr r v) (hs : ResL P H fr rs vs) : ResL P H fr (r :: rs) (v :: vs)
def retV : List Value → Value
  | [v] => v
  | vs => .tuple vs.toArray
def argFr : Nat → List Value → Fr
  | _, [] => []
  | k, v :: vs => (k, v) :: argFr (k + 1) vs
def grB : Value → Bool
  | .bool _ | .int .. | .string _ | .pointer none | .slice none 0 0 | .map none | .nilFunc | .nilIface => true
  | _ => false
theorem gr_of_grB {v : Value} (h : grB v = true) : Gr v := by
  unfold grB at h
  split at h <;> first | (cases h; done) | exact gr_bool _ | exact gr_int _ _ | exact gr_string _ | exact gr_nilp | exact gr_nils | exact gr_nilm | exact gr_nilf | exact gr_nilIface
def opDst (sz : Nat) (o : Oper) : Bool := (match o.dst with | some d => decide (d < sz) | none => true) && o.op.operands.toList.all (fun | .const v => grB v | _ => true)
theorem opDst_lt {sz : Nat} {o : Oper} (h : opDst sz o = true) {d : Nat} (hd : o.dst = some d) : d < sz := by
  simp only [opDst, Bool.and_eq_true] at h
  rw [hd] at h
  simpa using h.1
theorem opDst_gr {sz : Nat} {o : Oper} (h : opDst sz o = true) {v : Value} (hv : Operand.const v ∈ o.op.operands) : Gr v := by
  simp only [opDst, Bool.and_eq_true, List.all_eq_true] at h
  exact gr_of_grB (h.2 (.const v) (by simpa using hv))
def dstsOK (sz : Nat) : Code → Bool
  | .region _ ops _ => ops.toList.all (opDst sz)
  | .seq a b => dstsOK sz a && dstsOK sz b
  | .cond _ a b => dstsOK sz a && dstsOK sz b
  | .block _ c => dstsOK sz c
  | .loop c => dstsOK sz c
  | _ => true
def edgeBits (acc : Array Nat) (o : Oper) : Nat := o.after.toList.foldl (fun s e => if Region.binds .any e then s ||| 2 ^ e.on ||| acc.getD e.on 0 else s) 0
def closL : List Oper → Array Nat → Array Nat
  | [], acc => acc
  | o :: l, acc => closL l (acc.push (edgeBits acc o))
def clos (ops : Array Oper) : Array Nat := closL ops.toList #[]
def depB (cl : Array Nat) (i j : Nat) : Bool := (cl.getD j 0).testBit i
def regOK (ops : Array Oper) (r : List Nat) (isW : Nat → Bool) : Bool :=
  let cl := clos ops
  let m := ops.size
  r.length == m && (List.range m).all (fun i => r.contains i) && r.all (fun i => decide (i < m)) &&
  (List.range m).all (fun k => (ops.getD (r.getD k 0) default).after.toList.all fun e => !Region.binds .any e || (r.take k).contains e.on) &&
  (List.range m).all (fun k => (List.range m).all fun j =>
    (decide (j = k) || r.getD j 0 != r.getD k 0) &&
    (!(depB cl (r.getD j 0) (r.getD k 0)) || decide (j < k)) &&
    (!(isW j && decide (j < k)) || depB cl (r.getD j 0) (r.getD k 0)) &&
    (decide (j = k) ||
      match (ops.getD (r.getD j 0) default).dst with
      | none => true
      | some t => ((ops.getD (r.getD k 0) default).dst != some t) &&
          (!((ops.getD (r.getD k 0) default).looksAt ops).contains t || depB cl (r.getD j 0) (r.getD k 0) || depB cl (r.getD k 0) (r.getD j 0))))
def floatsB (ops : Array Oper) (r : List Nat) (isW : Nat → Bool) (k c : Nat) : Bool :=
  let cl := clos ops
  (List.range c).any (fun j => decide (k < j) && isW j) && (List.range c).all (fun j => !(decide (k < j) && isW j) || !(depB cl (r.getD k 0) (r.getD j 0)))
def Heap.rm (H : Heap) (a b : Nat) : Heap := fun i => if a ≤ i ∧ i < b then none else H i
inductive J where
  | op (lo : Nat) (o : Oper) (fr : Fr) (n : Nat) (H : Heap) (v : Value) (n' : Nat) (H' : Heap)
  | ops (lo : Nat) (all : Array Oper) (l : List Oper) (fr : Fr) (n : Nat) (H : Heap) (e : Ex) (fr' : Fr) (n' : Nat) (H' : Heap)
  | code (lo : Nat) (c : Code) (fr : Fr) (n : Nat) (H : Heap) (e : Ex) (fr' : Fr) (n' : Nat) (H' : Heap)
  | call (lo : Nat) (f : FuncId) (args : List Value) (n : Nat) (H : Heap) (e : En) (n' : Nat) (H' : Heap)
abbrev Prims := Nat → FuncId → List Value → Nat → Heap → En → Nat → Heap → Prop
inductive D (P : Program) (Δ : Prims) : J → Prop
  | step {lo : Nat} {o : Oper} {fr : Fr} {n : Nat} {H : Heap} {v : Value} {n' : Nat} {H' : Heap} (h : Step P lo fr.eval n H o v n' H') : D P Δ (.op lo o fr n H v n' H')
  | stepM {lo : Nat} {o : Oper} {fr : Fr} {n : Nat} {H : Heap} {v : Value} {n' : Nat} {H' : Heap} (h : StepM P lo fr.eval n H o v n' H') : D P Δ (.op lo o fr n H v n' H')
  | callF {lo lo' : Nat} {o : Oper} {fr : Fr} {n : Nat} {H : Heap} {v : Value} {n' : Nat} {H' : Heap} {x : Operand} {xs : Array Operand} {ts : Array TypeId} {f : FuncId} {first cap : Array Value} {asx : List Value} {fn : Func}
      (ho : o.op = .call { callee := .value x, args := xs, argTypes := ts }) (hx : fr.eval x = some (.func (.func f) first cap)) (ha : xs.toList.mapM fr.eval = some asx)
      (hfn : P.funcs[f]? = some fn) (hname : (fn.name == "runtime.NumGoroutine") = false) (hbody : fn.body.isNone = false) (h1 : lo ≤ lo') (h2 : lo' ≤ n)
      (h : D P Δ (.call lo' f (first.toList ++ asx ++ cap.toList) n H (.ret v) n' H')) : D P Δ (.op lo o fr n H v n' H')
  | nil {lo : Nat} {all : Array Oper} {fr : Fr} {n : Nat} {H : Heap} : D P Δ (.ops lo all [] fr n H .norm fr n H)
  | skip {lo : Nat} {all : Array Oper} {o : Oper} {l : List Oper} {fr fr' : Fr} {n n' : Nat} {H H' : Heap} {e : Ex} (hw : wA all o fr = some false) (h : D P Δ (.ops lo all l (fr.put o.dst undef) n H e fr' n' H')) : D P Δ (.ops lo all (o :: l) fr n H e fr' n' H')
  | cons {lo : Nat} {all : Array Oper} {o : Oper} {l : List Oper} {fr fr' : Fr} {n n1 n' : Nat} {H H1 H' : Heap} {v : Value} {e : Ex} (hw : wA all o fr = some true) (h1 : D P Δ (.op lo o fr n H v n1 H1)) (h : D P Δ (.ops lo all l (fr.put o.dst v) n1 H1 e fr' n' H')) : D P Δ (.ops lo all (o :: l) fr n H e fr' n' H')
  | pan {lo : Nat} {all : Array Oper} {o : Oper} {l : List Oper} {fr : Fr} {n : Nat} {H : Heap} {x : Operand} {t : TypeId} {v : Value} (hw : wA all o fr = some true) (ho : o.op = .panic x) (hx : fr.eval x = some (.iface t v)) : D P Δ (.ops lo all (o :: l) fr n H (.pan (.iface t v)) fr n H)
  | panCall {lo lo' : Nat} {all : Array Oper} {o : Oper} {l : List Oper} {fr : Fr} {n : Nat} {H : Heap} {v : Value} {n' : Nat} {H' : Heap} {x : Operand} {xs : Array Operand} {ts : Array TypeId} {f : FuncId} {first cap : Array Value} {asx : List Value} {fn : Func}
      (hw : wA all o fr = some true) (ho : o.op = .call { callee := .value x, args := xs, argTypes := ts }) (hx : fr.eval x = some (.func (.func f) first cap)) (ha : xs.toList.mapM fr.eval = some asx)
      (hfn : P.funcs[f]? = some fn) (hname : (fn.name == "runtime.NumGoroutine") = false) (hbody : fn.body.isNone = false) (h1 : lo ≤ lo') (h2 : lo' ≤ n)
      (h : D P Δ (.call lo' f (first.toList ++ asx ++ cap.toList) n H (.pan v) n' H')) : D P Δ (.ops lo all (o :: l) fr n H (.pan v) fr n' H')
  | cskip {lo : Nat} {fr : Fr} {n : Nat} {H : Heap} : D P Δ (.code lo .skip fr n H .norm fr n H)
  | ret {lo : Nat} {fr : Fr} {n : Nat} {H : Heap} : D P Δ (.code lo .ret fr n H .ret fr n H)
  | exit {lo : Nat} {id : Nat} {fr : Fr} {n : Nat} {H : Heap} : D P Δ (.code lo (.exit id) fr n H (.ex id) fr n H)
  | seqN {lo : Nat} {a b : Code} {fr fr1 fr' : Fr} {n n1 n' : Nat} {H H1 H' : Heap} {e : Ex} (h1 : D P Δ (.code lo a fr n H .norm fr1 n1 H1)) (h2 : D P Δ (.code lo b fr1 n1 H1 e fr' n' H')) : D P Δ (.code lo (.seq a b) fr n H e fr' n' H')
  | seqE {lo : Nat} {a b : Code} {fr fr' : Fr} {n n' : Nat} {H H' : Heap} {e : Ex} (h1 : D P Δ (.code lo a fr n H e fr' n' H')) (he : e ≠ .norm) : D P Δ (.code lo (.seq a b) fr n H e fr' n' H')
  | cond {lo : Nat} {c : Operand} {a b : Code} {t : Bool} {fr fr' : Fr} {n n' : Nat} {H H' : Heap} {e : Ex} (hc : fr.eval c = some (.bool t)) (h : D P Δ (.code lo (if t then a else b) fr n H e fr' n' H')) : D P Δ (.code lo (.cond c a b) fr n H e fr' n' H')
  | block {lo : Nat} {id : Nat} {c : Code} {fr fr' : Fr} {n n' : Nat} {H H' : Heap} {e : Ex} (h : D P Δ (.code lo c fr n H e fr' n' H')) : D P Δ (.code lo (.block id c) fr n H (e.out id) fr' n' H')
  | loopN {lo : Nat} {c : Code} {fr fr1 fr' : Fr} {n n1 n' : Nat} {H H1 H' : Heap} {e : Ex} (h1 : D P Δ (.code lo c fr n H .norm fr1 n1 H1)) (h2 : D P Δ (.code lo (.loop c) fr1 n1 H1 e fr' n' H')) : D P Δ (.code lo (.loop c) fr n H e fr' n' H')
  | loopE {lo : Nat} {c : Code} {fr fr' : Fr} {n n' : Nat} {H H' : Heap} {e : Ex} (h1 : D P Δ (.code lo c fr n H e fr' n' H')) (he : e ≠ .norm) : D P Δ (.code lo (.loop c) fr n H e fr' n' H')
  | region {lo : Nat} {id : Nat} {ops : Array Oper} {fr fr' : Fr} {n n' : Nat} {H H' : Heap} {e : Ex} (h : D P Δ (.ops lo ops ops.toList fr n H e fr' n' H')) : D P Δ (.code lo (.region id ops false) fr n H e fr' n' H')
  | regionD {lo : Nat} {id : Nat} {ops : Array Oper} (r : List Nat) (isW wk : Nat → Bool) (fr : Nat → Fr) (n : Nat → Nat) (H : Nat → Heap) (v : Nat → Value) (hchk : regOK ops r isW = true)
      (hw : ∀ k, k < ops.size → wA ops (ops.getD (r.getD k 0) default) (fr k) = some (wk k))
      (hfr : ∀ k, k < ops.size → fr (k + 1) = (fr k).put (ops.getD (r.getD k 0) default).dst (v k))
      (hskip : ∀ k, k < ops.size → wk k = false → v k = undef ∧ n (k + 1) = n k ∧ H (k + 1) = H k)
      (hrun : ∀ k, k < ops.size → wk k = true → D P Δ (.op (if isW k then lo else n k) (ops.getD (r.getD k 0) default) (fr k) (n k) (H k) (v k) (n (k + 1)) (H (k + 1))))
      (hlate : ∀ k c, k < c → c ≤ ops.size → (c = ops.size ∨ isW c = true) → isW k = false → floatsB ops r isW k c = true → wk k = true →
        Step P (n k) (fr k).eval (n k) ((H c).rm (n k) (n (k + 1))) (ops.getD (r.getD k 0) default) (v k) (n (k + 1)) (H c) ∨ StepM P (n k) (fr k).eval (n k) ((H c).rm (n k) (n (k + 1))) (ops.getD (r.getD k 0) default) (v k) (n (k + 1)) (H c)) :
      D P Δ (.code lo (.region id ops true) (fr 0) (n 0) (H 0) .norm (fr ops.size) (n ops.size) (H ops.size))
  | weak {lo : Nat} {c : Code} {fr fr2 fr' : Fr} {n n' : Nat} {H H' : Heap} {e : Ex} (hle : Fr.le fr2 fr) (h : D P Δ (.code lo c fr2 n H e fr' n' H')) : D P Δ (.code lo c fr n H e fr' n' H')
  | drop {lo : Nat} {c : Code} {fr fr' fr2 : Fr} {n n' : Nat} {H H' : Heap} {e : Ex} (h : D P Δ (.code lo c fr n H e fr' n' H')) (hle : Fr.le fr2 fr') : D P Δ (.code lo c fr n H e fr2 n' H')
  | weakL {lo : Nat} {all : Array Oper} {l : List Oper} {fr fr2 fr' : Fr} {n n' : Nat} {H H' : Heap} {e : Ex} (hle : Fr.le fr2 fr) (h : D P Δ (.ops lo all l fr2 n H e fr' n' H')) : D P Δ (.ops lo all l fr n H e fr' n' H')
  | body {lo : Nat} {f : FuncId} {args : List Value} {n n' : Nat} {H H' : Heap} {fn : Func} {c : Code} {e : Ex} {fr' : Fr} {vs : List Value} (hfn : P.funcs[f]? = some fn) (hb : fn.body = some c) (hd : dstsOK fn.ntmps c = true)
      (h : D P Δ (.code lo c (argFr 0 args) n H e fr' n' H')) (he : e = .norm ∨ e = .ret) (hr : ResL P H' fr' fn.results.toList vs) : D P Δ (.call lo f args n H (.ret (retV vs)) n' H')
  | bodyPan {lo : Nat} {f : FuncId} {args : List Value} {n n' : Nat} {H H' : Heap} {fn : Func} {c : Code} {v : Value} {fr' : Fr} (hfn : P.funcs[f]? = some fn) (hb : fn.body = some c) (hd : dstsOK fn.ntmps c = true)
      (h : D P Δ (.code lo c (argFr 0 args) n H (.pan v) fr' n' H')) : D P Δ (.call lo f args n H (.pan v) n' H')
  | prim {lo : Nat} {f : FuncId} {args : List Value} {n n' : Nat} {H H' : Heap} {e : En} (h : Δ lo f args n H e n' H') : D P Δ (.call lo f args n H e n' H')
def AbsOk (lo n : Nat) (H : Heap) (n' : Nat) (H' : Heap) : Prop :=
  n ≤ n' ∧ (∀ i, i < lo → H' i = H i) ∧ ((∀ i, n ≤ i → H i = none) → ∀ i, n' ≤ i → H' i = none) ∧ ∀ i, i < n → H i = none → H' i = none
theorem AbsOk.refl (lo n : Nat) (H : Heap) : AbsOk lo n H n H := ⟨Nat.le_refl _, fun _ _ => rfl, fun h => h, fun _ _ h => h⟩
theorem AbsOk.trans {lo n n1 n2 : Nat} {H H1 H2 : Heap} (a : AbsOk lo n H n1 H1) (b : AbsOk lo n1 H1 n2 H2) : AbsOk lo n H n2 H2 :=
  ⟨Nat.le_trans a.1 b.1, fun i hi => (b.2.1 i hi).trans (a.2.1 i hi), fun h => b.2.2.1 (a.2.2.1 h), fun i hi h => b.2.2.2 i (by have := a.1; omega) (a.2.2.2 i hi h)⟩
theorem AbsOk.mono {lo lo' n n1 : Nat} {H H1 : Heap} (a : AbsOk lo' n H n1 H1) (h : lo ≤ lo') : AbsOk lo n H n1 H1 :=
  ⟨a.1, fun i hi => a.2.1 i (by omega), a.2.2.1, a.2.2.2⟩
def J.abs : J → Prop
  | .op lo _ _ n H _ n' H' => lo ≤ n → AbsOk lo n H n' H'
  | .ops lo _ _ _ n H _ _ n' H' => lo ≤ n → AbsOk lo n H n' H'
  | .code lo _ _ n H _ _ n' H' => lo ≤ n → AbsOk lo n H n' H'
  | .call lo _ _ n H _ n' H' => lo ≤ n → AbsOk lo n H n' H'
theorem D.abs {P : Program} {Δ : Prims} (hΔ : ∀ lo f args n H e n' H', Δ lo f args n H e n' H' → lo ≤ n → AbsOk lo n H n' H') {j : J} (h : D P Δ j) : j.abs := by
  induction h with
  | step h => exact fun hl => h.abs hl
  | stepM h => exact fun hl => h.abs hl
  | callF ho hx ha hfn hname hbody h1 h2 h ih => exact fun hl => (ih h2).mono h1
  | nil => exact fun _ => .refl _ _ _
  | skip hw h ih => exact ih
  | cons hw h1 h ih1 ih => exact fun hl => (ih1 hl).trans (ih (by have := (ih1 hl).1; omega))
  | pan hw ho hx => exact fun _ => .refl _ _ _
  | panCall hw ho hx ha hfn hname hbody h1 h2 h ih => exact fun hl => (ih h2).mono h1
  | cskip => exact fun _ => .refl _ _ _
  | ret => exact fun _ => .refl _ _ _
  | exit => exact fun _ => .refl _ _ _
  | seqN h1 h2 i1 i2 => exact fun hl => (i1 hl).trans (i2 (by have := (i1 hl).1; omega))
  | seqE h1 he ih => exact ih
  | cond hc h ih => exact ih
  | block h ih => exact ih
  | loopN h1 h2 i1 i2 => exact fun hl => (i1 hl).trans (i2 (by have := (i1 hl).1; omega))
  | loopE h1 he ih => exact ih
  | region h ih => exact ih
  | regionD r isW wk fr n H v hchk hw hfr hskip hrun hlate ih =>
    rename_i lo id ops
    intro hl
    have key : ∀ k, k ≤ ops.size → AbsOk lo (n 0) (H 0) (n k) (H k) := by
      intro k
      induction k with
      | zero => exact fun _ => .refl _ _ _
      | succ k ihk =>
        intro hk
        have h0 := ihk (by omega)
        refine h0.trans ?_
        cases hwk : wk k with
        | false =>
          obtain ⟨_, a, b⟩ := hskip k (by omega) hwk
          rw [a, b]; exact .refl _ _ _
        | true =>
          have := ih k (by omega) hwk
          simp only [J.abs] at this
          have hle := h0.1
          cases hisW : isW k with
          | true => rw [hisW, if_pos rfl] at this; exact this (by omega)
          | false =>
            rw [hisW, if_neg (by decide)] at this
            exact (this (Nat.le_refl _)).mono (by omega)
    exact key _ (Nat.le_refl _)
  | weak hle h ih => exact ih
  | drop h hle ih => exact ih
  | weakL hle h ih => exact ih
  | body hfn hb hd h he hr ih => exact ih
  | bodyPan hfn hb hd h ih => exact ih
  | prim h => exact fun hl => hΔ _ _ _ _ _ _ _ _ h hl
end Go.Proofs.YtlpcdcpcfeaecaaAb
end
section
namespace Go.Proofs.YtlpcdcpcfeaecaaAb
open Go
inductive Reach (ops : Array Oper) : Nat → Nat → Prop
  | edge {i j : Nat} {o : Oper} {e : Edge} (ho : ops[j]? = some o) (he : e ∈ o.after) (hb : Region.binds .any e = true) (hi : e.on = i) : Reach ops i j
  | more {i k j : Nat} {o : Oper} {e : Edge} (h : Reach ops i k) (ho : ops[j]? = some o) (he : e ∈ o.after) (hb : Region.binds .any e = true) (hi : e.on = k) : Reach ops i j
theorem edgeBits_bit (acc : Array Nat) (i : Nat) : ∀ (l : List Edge) (s : Nat), (l.foldl (fun s e => if Region.binds .any e then s ||| 2 ^ e.on ||| acc.getD e.on 0 else s) s).testBit i = true →
    s.testBit i = true ∨ ∃ e ∈ l, Region.binds .any e = true ∧ (e.on = i ∨ (acc.getD e.on 0).testBit i = true)
  | [], s, h => .inl h
  | e :: l, s, h => by
    simp only [List.foldl_cons] at h
    rcases edgeBits_bit acc i l _ h with h | ⟨e', h1, h2, h3⟩
    · split at h
      · rename_i hb
        simp only [Nat.testBit_or, Bool.or_eq_true, Nat.testBit_two_pow, decide_eq_true_eq] at h
        rcases h with (h | h) | h
        · exact .inl h
        · exact .inr ⟨e, by simp, hb, .inl h⟩
        · exact .inr ⟨e, by simp, hb, .inr h⟩
      · exact .inl h
    · exact .inr ⟨e', by simp [h1], h2, h3⟩
theorem closL_reach (ops : Array Oper) : ∀ (l : List Oper) (acc : Array Nat), (∀ k, l[k]? = ops[acc.size + k]?) → (∀ j i, (acc.getD j 0).testBit i = true → Reach ops i j) → ∀ j i, ((closL l acc).getD j 0).testBit i = true → Reach ops i j
  | [], acc, _, h => h
  | o :: l, acc, hl, h => by
    refine closL_reach ops l _ (fun k => ?_) (fun j i hb => ?_)
    · have := hl (k + 1)
      rw [Array.size_push, List.getElem?_cons_succ] at *
      rw [this]; congr 1; omega
    · by_cases hj : j < acc.size
      · have : (acc.push (edgeBits acc o)).getD j 0 = acc.getD j 0 := by
          simp [Array.getD_eq_getD_getElem?, Array.getElem?_push, Nat.ne_of_lt hj]
        rw [this] at hb
        exact h j i hb
      · by_cases hj2 : j = acc.size
        · subst hj2
          have : (acc.push (edgeBits acc o)).getD acc.size 0 = edgeBits acc o := by simp [Array.getD_eq_getD_getElem?]
          rw [this] at hb
          have ho : ops[acc.size]? = some o := by simpa using (hl 0).symm
          rcases edgeBits_bit acc i o.after.toList 0 hb with h0 | ⟨e, h1, h2, h3⟩
          · simp at h0
          · rcases h3 with h3 | h3
            · exact .edge ho (by simpa using h1) h2 h3
            · exact .more (h _ _ h3) ho (by simpa using h1) h2 rfl
        · have : (acc.push (edgeBits acc o)).getD j 0 = 0 := by
            rw [Array.getD_eq_getD_getElem?, Array.getElem?_eq_none (by simp; omega)]; rfl
          rw [this] at hb
          simp at hb
theorem reach_of_depB {ops : Array Oper} {i j : Nat} (h : depB (clos ops) i j = true) : Reach ops i j :=
  closL_reach ops ops.toList #[] (fun k => by simp) (fun j i hb => by simp at hb) j i h
def Closed (ops : Array Oper) (listed : Array Bool) : Prop := ∀ j o, ops[j]? = some o → listed.getD j false = true → ∀ e ∈ o.after, Region.binds .any e = true → listed.getD e.on false = true
theorem Reach.listed {ops : Array Oper} {listed : Array Bool} (hc : Closed ops listed) {i j : Nat} (h : Reach ops i j) : listed.getD j false = true → listed.getD i false = true := by
  induction h with
  | edge ho he hb hi => intro hj; rw [← hi]; exact hc _ _ ho hj _ he hb
  | more h ho he hb hi ih => intro hj; exact ih (by rw [← hi]; exact hc _ _ ho hj _ he hb)
theorem Reach.ready {ops : Array Oper} {listed : Array Bool} (hc : Closed ops listed) {i j : Nat} (h : Reach ops i j) (hr : j ∈ Region.ready .any ops listed) : listed.getD i false = true := by
  obtain ⟨_, o', ho', hall⟩ := mem_ready.1 hr
  cases h with
  | edge ho he hb hi =>
    rw [ho] at ho'; obtain rfl := Option.some.inj ho'
    rw [← hi]; exact hall _ he hb
  | more h ho he hb hi =>
    rw [ho] at ho'; obtain rfl := Option.some.inj ho'
    exact h.listed hc (by rw [← hi]; exact hall _ he hb)
section
variable {ops : Array Oper} {r : List Nat} {isW : Nat → Bool}
structure RegFacts (ops : Array Oper) (r : List Nat) (isW : Nat → Bool) : Prop where
  onto : ∀ i, i < ops.size → ∃ k, k < ops.size ∧ r.getD k 0 = i
  into : ∀ k, k < ops.size → r.getD k 0 < ops.size
  inj : ∀ k j, k < ops.size → j < ops.size → r.getD j 0 = r.getD k 0 → j = k
  direct : ∀ k, k < ops.size → ∀ e ∈ (ops.getD (r.getD k 0) default).after, Region.binds .any e = true → ∃ j, j < k ∧ r.getD j 0 = e.on
  ahead : ∀ k j, k < ops.size → j < ops.size → depB (clos ops) (r.getD j 0) (r.getD k 0) = true → j < k
  writer : ∀ k j, k < ops.size → j < ops.size → isW j = true → j < k → depB (clos ops) (r.getD j 0) (r.getD k 0) = true
  slots : ∀ k j, k < ops.size → j < ops.size → j ≠ k → ∀ t, (ops.getD (r.getD j 0) default).dst = some t →
    (ops.getD (r.getD k 0) default).dst ≠ some t ∧ (t ∈ (ops.getD (r.getD k 0) default).looksAt ops → depB (clos ops) (r.getD j 0) (r.getD k 0) = true ∨ depB (clos ops) (r.getD k 0) (r.getD j 0) = true)
theorem regFacts (h : regOK ops r isW = true) : RegFacts ops r isW := by
  simp only [regOK, Bool.and_eq_true, List.all_eq_true, List.mem_range, beq_iff_eq, decide_eq_true_eq, Bool.or_eq_true, Bool.not_eq_true', bne_iff_ne, Bool.not_eq_eq_eq_not, Bool.not_true] at h
  obtain ⟨⟨⟨⟨h1, h2⟩, h3⟩, h4⟩, h5⟩ := h
  have hget : ∀ k, k < ops.size → r[k]? = some (r.getD k 0) := fun k hk => by
    rw [List.getElem?_eq_getElem (by omega)]; simp [List.getD, List.getElem?_eq_getElem (show k < r.length by omega)]
  refine ⟨fun i hi => ?_, fun k hk => ?_, fun k j hk hj e => ?_, fun k hk e he hb => ?_, fun k j hk hj hd => ?_, fun k j hk hj hw hjk => ?_, fun k j hk hj hne t ht => ?_⟩
  · have := h2 i hi
    rw [List.contains_iff_mem] at this
    obtain ⟨k, hk⟩ := List.getElem?_of_mem this
    have hkl := (List.getElem?_eq_some_iff.1 hk).1
    exact ⟨k, by omega, by rw [hget k (by omega)] at hk; exact Option.some.inj hk⟩
  · exact h3 _ (List.mem_of_getElem? (hget k hk))
  · rcases (h5 k hk j hj).1.1.1 with h | h
    · exact h
    · exact absurd e h
  · rcases h4 k hk e (by simpa using he) with h | h
    · rw [hb] at h; cases h
    · rw [List.contains_iff_mem] at h
      obtain ⟨j, hj⟩ := List.getElem?_of_mem h
      have hjl := (List.getElem?_eq_some_iff.1 hj).1
      rw [List.length_take] at hjl
      rw [List.getElem?_take_of_lt (by omega), hget j (by omega)] at hj
      exact ⟨j, by omega, Option.some.inj hj⟩
  · rcases (h5 k hk j hj).1.1.2 with h | h
    · rw [hd] at h; cases h
    · exact h
  · rcases (h5 k hk j hj).1.2 with h | h
    · simp [hw, hjk] at h
    · exact h
  · rcases (h5 k hk j hj).2 with h | h
    · exact absurd h hne
    · rw [ht] at h
      simp only [Bool.and_eq_true, bne_iff_ne, ne_eq, Bool.or_eq_true, Bool.not_eq_true', ← Bool.not_eq_true, List.contains_iff_mem] at h
      refine ⟨h.1, fun hl => ?_⟩
      rcases h.2 with (h | h) | h
      · exact absurd hl h
      · exact .inl h
      · exact .inr h
end
def OpSnd (P : Program) (β lo : Nat) (o : Oper) (fr : Fr) (n : Nat) (H : Heap) (v : Value) (n' : Nat) (H' : Heap) : Prop :=
  ∀ (ρ : Rho) (a : Act) (w : World), (∀ x ∈ o.op.operands, ∀ u, fr.eval x = some u → VR ρ u (a.eval x)) → Sim β ρ H w → (∀ i, n ≤ i → H i = none) → (∀ i, n ≤ i → i < n' → ρ i = none) →
    ∀ (K : Act → World → Prop) (Q : Exit → Act → World → Prop), (∀ ρ' v' w', VR ρ' v v' → Ok β lo ρ n H w ρ' n' H' w' → K (a.put o.dst v') w') → o.wp P a w K Q
def OpSnd0 (P : Program) (β lo : Nat) (o : Oper) (fr : Fr) (n : Nat) (H : Heap) (v : Value) (n' : Nat) (H' : Heap) : Prop :=
  ∀ (ρ : Rho) (a : Act) (w : World), (∀ x ∈ o.op.operands, ∀ u, fr.eval x = some u → VR ρ u (a.eval x)) → Sim β ρ H w → (∀ i, n ≤ i → i < n' → ρ i = none) →
    ∀ (K : Act → World → Prop) (Q : Exit → Act → World → Prop), (∀ ρ' v' w', VR ρ' v v' → Ok β lo ρ n H w ρ' n' H' w' → K (a.put o.dst v') w') → o.wp P a w K Q
theorem Sim.of_same {β : Nat} {ρ : Rho} {H H' : Heap} {w : World} (h : Sim β ρ H w) (he : ∀ i s o, ρ i = some s → H' i = some o → H i = some o) : Sim β ρ H' w := by
  have live : ∀ i s, ρ i = some s → (H' i).isSome → (H i).isSome := fun i s hr hl => by
    obtain ⟨o, ho⟩ := Option.isSome_iff_exists.1 hl
    simp [he i s o hr ho]
  exact ⟨fun i e c s ho hr => h.row i e c s (he i s _ hr ho) hr, fun i es s ho hr => h.mp i es s (he i s _ hr ho) hr,
    fun i j s s' hi hj hr hr' hb hβ => h.inj i j s s' (live i s hr hi) (live j s' hr' hj) hr hr' hb hβ⟩
theorem Sim.join {β : Nat} {ρ ρ' : Rho} {H K H' : Heap} {w w' : World} {a b : Nat} (h : Sim β ρ H w) (h' : Sim β ρ' K w') (hle : ρ.le ρ') (heq : ∀ i, (i < a ∨ b ≤ i) → ρ' i = ρ i)
    (hkeep : ∀ B, B < w.heap.size → w'.heap[B]? = w.heap[B]?) (hnew : ∀ i s, a ≤ i → i < b → ρ' i = some s → w.heap.size ≤ s.blk)
    (hK : ∀ i s o, a ≤ i → i < b → ρ' i = some s → H' i = some o → K i = some o) (hH : ∀ i s o, (i < a ∨ b ≤ i) → ρ i = some s → H' i = some o → H i = some o) : Sim β ρ' H' w' := by
  have cases : ∀ i, (a ≤ i ∧ i < b) ∨ (i < a ∨ b ≤ i) := fun i => by omega
  refine ⟨fun i e c s ho hr => ?_, fun i es s ho hr => ?_, fun i j s s' hi hj hr hr' hb hβ => ?_⟩
  · rcases cases i with ⟨h1, h2⟩ | h1
    · exact h'.row i e c s (hK i s _ h1 h2 hr ho) hr
    · rw [heq i h1] at hr
      obtain ⟨cc, T, fz, a1, a2, a3, a4, a5, a6, a7⟩ := h.row i e c s (hH i s _ h1 hr ho) hr
      exact ⟨cc, T, fz, by rw [hkeep _ (Array.getElem?_eq_some_iff.1 a1).1]; exact a1, a2, a3, a4, fun k v hk => by obtain ⟨v', x, y⟩ := a5 k v hk; exact ⟨v', x, y.mono hle⟩, a6, a7⟩
  · rcases cases i with ⟨h1, h2⟩ | h1
    · exact h'.mp i es s (hK i s _ h1 h2 hr ho) hr
    · rw [heq i h1] at hr
      obtain ⟨en, cl, a1, a2, a3⟩ := h.mp i es s (hH i s _ h1 hr ho) hr
      exact ⟨en, cl, by rw [hkeep _ (Array.getElem?_eq_some_iff.1 a1).1]; exact a1, a2, fun k p hk => by obtain ⟨x, y1, y2, y3, y4⟩ := a3 k p hk; exact ⟨x, y1, y2, y3, y4.mono hle⟩⟩
  · obtain ⟨oi, hoi⟩ := Option.isSome_iff_exists.1 hi
    obtain ⟨oj, hoj⟩ := Option.isSome_iff_exists.1 hj
    rcases cases i with ⟨h1, h2⟩ | h1
    · rcases cases j with ⟨k1, k2⟩ | k1
      · exact h'.inj i j s s' (by simp [hK i s _ h1 h2 hr hoi]) (by simp [hK j s' _ k1 k2 hr' hoj]) hr hr' hb hβ
      · exfalso
        have hn := hnew i s h1 h2 hr
        rw [heq j k1] at hr'
        have := h.lt (by simp [hH j s' _ k1 hr' hoj]) hr'
        omega
    · rcases cases j with ⟨k1, k2⟩ | k1
      · exfalso
        have hn := hnew j s' k1 k2 hr'
        rw [heq i h1] at hr
        have := h.lt (by simp [hH i s _ h1 hr hoi]) hr
        omega
      · rw [heq i h1] at hr; rw [heq j k1] at hr'
        exact h.inj i j s s' (by simp [hH i s _ h1 hr hoi]) (by simp [hH j s' _ k1 hr' hoj]) hr hr' hb hβ
end Go.Proofs.YtlpcdcpcfeaecaaAb
end
section
namespace Go.Proofs.YtlpcdcpcfeaecaaAb
open Go
structure Reg (P : Program) (β lo : Nat) (ops : Array Oper) (r : List Nat) (isW wk : Nat → Bool) (fr : Nat → Fr) (n : Nat → Nat) (H : Nat → Heap) (v : Nat → Value) : Prop where
  facts : RegFacts ops r isW
  hw : ∀ k, k < ops.size → wA ops (ops.getD (r.getD k 0) default) (fr k) = some (wk k)
  hfr : ∀ k, k < ops.size → fr (k + 1) = (fr k).put (ops.getD (r.getD k 0) default).dst (v k)
  hskip : ∀ k, k < ops.size → wk k = false → v k = undef ∧ n (k + 1) = n k ∧ H (k + 1) = H k
  hrun : ∀ k, k < ops.size → wk k = true → OpSnd P β (if isW k then lo else n k) (ops.getD (r.getD k 0) default) (fr k) (n k) (H k) (v k) (n (k + 1)) (H (k + 1))
  hlate : ∀ k c, k < c → c ≤ ops.size → (c = ops.size ∨ isW c = true) → isW k = false → floatsB ops r isW k c = true → wk k = true → OpSnd0 P β (n k) (ops.getD (r.getD k 0) default) (fr k) (n k) ((H c).rm (n k) (n (k + 1))) (v k) (n (k + 1)) (H c)
  habs : ∀ k, k < ops.size → AbsOk (if isW k then lo else n k) (n k) (H k) (n (k + 1)) (H (k + 1))
  hlo : lo ≤ n 0
  hHB : ∀ i, n 0 ≤ i → H 0 i = none
section
variable {P : Program} {β lo : Nat} {ops : Array Oper} {r : List Nat} {isW wk : Nat → Bool} {fr : Nat → Fr} {n : Nat → Nat} {H : Nat → Heap} {v : Nat → Value}
theorem Reg.abs (g : Reg P β lo ops r isW wk fr n H v) : ∀ k, k ≤ ops.size → AbsOk lo (n 0) (H 0) (n k) (H k) ∧ lo ≤ n k := by
  intro k
  induction k with
  | zero => exact fun _ => ⟨.refl _ _ _, g.hlo⟩
  | succ k ih =>
    intro hk
    obtain ⟨h0, h1⟩ := ih (by omega)
    have h2 := g.habs k (by omega)
    have h3 : AbsOk lo (n k) (H k) (n (k + 1)) (H (k + 1)) := h2.mono (by cases isW k <;> simp <;> omega)
    exact ⟨h0.trans h3, by have := h3.1; omega⟩
theorem Reg.mono (g : Reg P β lo ops r isW wk fr n H v) : ∀ a b, a ≤ b → b ≤ ops.size → n a ≤ n b := by
  intro a b hab
  induction b with
  | zero => intro _; rw [show a = 0 by omega]; exact Nat.le_refl _
  | succ b ih =>
    intro hb
    by_cases h : a = b + 1
    · rw [h]; exact Nat.le_refl _
    · exact Nat.le_trans (ih (by omega) (by omega)) (g.habs b (by omega)).1
theorem Reg.hb (g : Reg P β lo ops r isW wk fr n H v) (k : Nat) (hk : k ≤ ops.size) : ∀ i, n k ≤ i → H k i = none := (g.abs k hk).1.2.2.1 g.hHB
theorem Reg.quiet (g : Reg P β lo ops r isW wk fr n H v) : ∀ a b, a ≤ b → b ≤ ops.size → (∀ k, a ≤ k → k < b → isW k = false) → ∀ i, i < n a → H b i = H a i := by
  intro a b hab
  induction b with
  | zero => intro _ _ i _; rw [show a = 0 by omega]
  | succ b ih =>
    intro hb hq i hi
    by_cases h : a = b + 1
    · rw [h]
    · have h1 := g.habs b (by omega)
      rw [hq b (by omega) (by omega)] at h1
      rw [h1.2.1 i (by have := g.mono a b (by omega) (by omega); simp; omega)]
      exact ih (by omega) (by omega) (fun k x y => hq k x (by omega)) i hi
theorem next_writer (isW : Nat → Bool) (m : Nat) : ∀ d c0, m - c0 = d → c0 ≤ m → ∃ c, c0 ≤ c ∧ c ≤ m ∧ (c = m ∨ isW c = true) ∧ ∀ k, c0 ≤ k → k < c → isW k = false := by
  intro d
  induction d with
  | zero => intro c0 h1 h2; exact ⟨c0, Nat.le_refl _, h2, .inl (by omega), fun k a b => by omega⟩
  | succ d ih =>
    intro c0 h1 h2
    by_cases hc : isW c0 = true
    · exact ⟨c0, Nat.le_refl _, h2, .inr hc, fun k a b => by omega⟩
    · obtain ⟨c, a1, a2, a3, a4⟩ := ih (c0 + 1) (by omega) (by omega)
      exact ⟨c, by omega, a2, a3, fun k x y => by
        by_cases hk : k = c0
        · subst hk; simpa using hc
        · exact a4 k (by omega) y⟩
theorem fr_get (hfr : ∀ k, k < ops.size → fr (k + 1) = (fr k).put (ops.getD (r.getD k 0) default).dst (v k)) : ∀ k, k ≤ ops.size → ∀ t u, (fr k).get t = some u →
    (∃ j, j < k ∧ (ops.getD (r.getD j 0) default).dst = some t ∧ u = v j) ∨ ((∀ j, j < k → (ops.getD (r.getD j 0) default).dst ≠ some t) ∧ (fr 0).get t = some u) := by
  intro k
  induction k with
  | zero => intro _ t u h; exact .inr ⟨fun j hj => by omega, h⟩
  | succ k ih =>
    intro hk t u h
    rw [hfr k (by omega)] at h
    by_cases hd : (ops.getD (r.getD k 0) default).dst = some t
    · rw [hd] at h
      simp only [Fr.put, Fr.get, if_true] at h
      exact .inl ⟨k, by omega, hd, (Option.some.inj h).symm⟩
    · have h' : (fr k).get t = some u := by
        revert h
        cases hdd : (ops.getD (r.getD k 0) default).dst with
        | none => exact fun h => h
        | some d =>
          rw [hdd] at hd
          simp only [Fr.put, Fr.get]
          rw [if_neg (by simpa using hd)]
          exact fun h => h
      rcases ih (by omega) t u h' with ⟨j, a, b, c⟩ | ⟨a, b⟩
      · exact .inl ⟨j, by omega, b, c⟩
      · refine .inr ⟨fun j hj => ?_, b⟩
        by_cases hjk : j = k
        · subst hjk; exact hd
        · exact a j (by omega)
structure Inv (β lo : Nat) (ops : Array Oper) (r : List Nat) (isW : Nat → Bool) (fr : Nat → Fr) (n : Nat → Nat) (H : Nat → Heap) (v : Nat → Value) (ρ0 : Rho) (a0 : Act) (w0 : World)
    (listed : Array Bool) (a : Act) (w : World) (ρ : Rho) (c : Nat) : Prop where
  lsize : listed.size = ops.size
  closed : Closed ops listed
  cle : c ≤ ops.size
  cw : c = ops.size ∨ isW c = true
  cun : c < ops.size → listed.getD (r.getD c 0) false = false
  wdone : ∀ k, k < c → isW k = true → listed.getD (r.getD k 0) false = true
  below : ∀ k, k < ops.size → listed.getD (r.getD k 0) false = true → k < c
  s1 : ∀ k, k < ops.size → listed.getD (r.getD k 0) false = true → ∀ t, (ops.getD (r.getD k 0) default).dst = some t → t < a.tmps.size ∧ VR ρ (v k) (a.tmps.getD t undef)
  s2 : ∀ t u, (∀ k, k < ops.size → listed.getD (r.getD k 0) false = true → (ops.getD (r.getD k 0) default).dst ≠ some t) → (fr 0).get t = some u → t < a.tmps.size ∧ VR ρ u (a.tmps.getD t undef)
  dom : ∀ i s, n 0 ≤ i → i < n ops.size → ρ i = some s → ∃ k, k < ops.size ∧ listed.getD (r.getD k 0) false = true ∧ n k ≤ i ∧ i < n (k + 1)
  old : ∀ i, i < n 0 → ρ i = ρ0 i
  sim : Sim β ρ (H c) w
  keep : ∀ B, B < w0.heap.size → (∀ i s, lo ≤ i → i < n 0 → (H 0 i).isSome → ρ0 i = some s → s.blk ≠ B) → w.heap[B]? = w0.heap[B]?
  far : ∀ i, n ops.size ≤ i → ρ i = ρ0 i
  fresh : ∀ i s, n 0 ≤ i → i < n ops.size → ρ i = some s → w0.heap.size ≤ s.blk ∨ ∃ j t, lo ≤ j ∧ j < n 0 ∧ (H 0 j).isSome ∧ ρ0 j = some t ∧ t.blk = s.blk
  size : w0.heap.size ≤ w.heap.size
  defers : a.defers = a0.defers
  tsize : a.tmps.size = a0.tmps.size
  out : SameOut w0 w
theorem getD_set (listed : Array Bool) (i j : Nat) (hi : i < listed.size) : (listed.setIfInBounds i true).getD j false = (decide (i = j) || listed.getD j false) := by
  simp only [Array.getD_eq_getD_getElem?, Array.getElem?_setIfInBounds]
  by_cases h : i = j
  · subst h; simp [hi]
  · simp [h]
theorem getD_true_false {listed : Array Bool} {i : Nat} (hi : i < listed.size) : listed.getD i true = listed.getD i false := by
  simp [Array.getD_eq_getD_getElem?, hi]
theorem Inv.next (g : Reg P β lo ops r isW wk fr n H v) {ρ0 : Rho} {a0 : Act} {w0 : World} {listed : Array Bool} {a : Act} {w : World} {ρ : Rho} {c : Nat} (I : Inv β lo ops r isW fr n H v ρ0 a0 w0 listed a w ρ c)
    {k : Nat} (hk : k < ops.size) (hready : r.getD k 0 ∈ Region.ready .any ops listed) (hdst : opDst a.tmps.size (ops.getD (r.getD k 0) default) = true)
    {ρ' : Rho} {v' : Value} {w' : World} {c' : Nat} (hc' : (k < c ∧ c' = c) ∨ (k = c ∧ c + 1 ≤ c' ∧ c' ≤ ops.size ∧ (c' = ops.size ∨ isW c' = true) ∧ ∀ j, c + 1 ≤ j → j < c' → isW j = false))
    (hV : VR ρ' (v k) v') (hsim : Sim β ρ' (H c') w') (heq : ∀ i, (i < n k ∨ n (k + 1) ≤ i) → ρ' i = ρ i) (hnone : ∀ i, n k ≤ i → i < n (k + 1) → ρ i = none) (hsz : w.heap.size ≤ w'.heap.size) (hout : SameOut w w')
    (hkeep : ∀ B, B < w.heap.size → (∀ i s, lo ≤ i → (H c i).isSome → ρ i = some s → s.blk ≠ B) → w'.heap[B]? = w.heap[B]?)
    (hfresh : ∀ i s, n k ≤ i → i < n (k + 1) → ρ' i = some s → w.heap.size ≤ s.blk ∨ ∃ j t, lo ≤ j ∧ (H c j).isSome ∧ ρ j = some t ∧ t.blk = s.blk) :
    Inv β lo ops r isW fr n H v ρ0 a0 w0 (listed.setIfInBounds (r.getD k 0) true) (a.put (ops.getD (r.getD k 0) default).dst v') w' ρ' c' := by
  have hF := g.facts
  have hrk := hF.into k hk
  have hlt : r.getD k 0 < listed.size := by rw [I.lsize]; exact hrk
  obtain ⟨hun, ok, hok, hall⟩ := mem_ready.1 hready
  have hokd : ops.getD (r.getD k 0) default = ok := by rw [Array.getD_eq_getD_getElem?, hok]; rfl
  have hunk : listed.getD (r.getD k 0) false = false := by rw [← getD_true_false hlt]; exact hun
  have hle : ρ.le ρ' := fun i s hs => by
    by_cases h1 : i < n k ∨ n (k + 1) ≤ i
    · rw [heq i h1]; exact hs
    · rw [hnone i (by omega) (by omega)] at hs; cases hs
  have hn0k := g.mono 0 k (by omega) (by omega)
  have hset : ∀ j, j < ops.size → (listed.setIfInBounds (r.getD k 0) true).getD (r.getD j 0) false = (decide (j = k) || listed.getD (r.getD j 0) false) := fun j hj => by
    rw [getD_set _ _ _ hlt]
    congr 1
    by_cases h : j = k
    · subst h; simp
    · have : r.getD k 0 ≠ r.getD j 0 := fun e => h (hF.inj k j hk hj e.symm)
      simp only [h, decide_false, decide_eq_false_iff_not]; exact this
  have hwrk : isW k = true → k = c := fun hwk => by
    rcases hc' with ⟨h1, _⟩ | ⟨h1, _⟩
    · have := I.wdone k h1 hwk; rw [hunk] at this; cases this
    · exact h1
  have hputs : (a.put (ops.getD (r.getD k 0) default).dst v').tmps.size = a.tmps.size := by
    cases (ops.getD (r.getD k 0) default).dst <;> simp [Act.put]
  have hputne : ∀ t, (ops.getD (r.getD k 0) default).dst ≠ some t → (a.put (ops.getD (r.getD k 0) default).dst v').tmps.getD t undef = a.tmps.getD t undef := fun t ht => by
    cases hd : (ops.getD (r.getD k 0) default).dst with
    | none => rfl
    | some d =>
      rw [hd] at ht
      simp only [Act.put, Array.getD_eq_getD_getElem?]
      rw [Array.getElem?_setIfInBounds_ne (fun e => ht (by rw [e]))]
  have hkm := g.mono (k + 1) ops.size (by omega) (Nat.le_refl _)
  have hlive : ∀ i, (H c i).isSome → i < n ops.size := fun i hl => by
    rcases Nat.lt_or_ge i (n c) with h | h
    · have := g.mono c ops.size I.cle (Nat.le_refl _); omega
    · rw [g.hb c I.cle i h] at hl; cases hl
  refine ⟨by simp [I.lsize], ?_, ?_, ?_, ?_, ?_, ?_, ?_, ?_, ?_, ?_, hsim, ?_, fun i hi => by rw [heq i (.inr (by omega))]; exact I.far i hi, ?_, by have := I.size; omega, ?_, ?_, I.out.trans hout⟩
  ·
    intro j o hj hl e he hb
    rw [getD_set _ _ _ hlt] at hl ⊢
    by_cases hjk : r.getD k 0 = j
    · rw [← hjk, hok] at hj
      obtain rfl := Option.some.inj hj
      have := hall e he hb
      simp [this]
    · simp only [hjk, decide_false, Bool.false_or] at hl
      have := I.closed j o hj hl e he hb
      simp [this]
  · rcases hc' with ⟨_, rfl⟩ | ⟨_, _, h, _⟩; exact I.cle; exact h
  · rcases hc' with ⟨_, rfl⟩ | ⟨_, _, _, h, _⟩; exact I.cw; exact h
  · intro hcl
    rw [hset c' hcl]
    rcases hc' with ⟨h1, rfl⟩ | ⟨h1, h2, h3, h4, h5⟩
    · simp only [I.cun hcl, Bool.or_false, decide_eq_false_iff_not]; omega
    · have hne : c' ≠ k := by omega
      simp only [hne, decide_false, Bool.false_or]
      cases hl : listed.getD (r.getD c' 0) false with
      | false => rfl
      | true => have := I.below c' hcl hl; omega
  · intro j hj hwj
    have hjm : j < ops.size := by rcases hc' with ⟨_, rfl⟩ | ⟨_, _, h, _⟩; have := I.cle; omega; omega
    rw [hset j hjm]
    rcases hc' with ⟨h1, rfl⟩ | ⟨h1, h2, h3, h4, h5⟩
    · rw [I.wdone j hj hwj]; simp
    · by_cases hjc : j < c
      · rw [I.wdone j hjc hwj]; simp
      · by_cases hje : j = c
        · simp [hje, h1]
        · have := h5 j (by omega) hj; rw [hwj] at this; cases this
  · intro j hj hl
    rw [hset j hj] at hl
    by_cases hjk : j = k
    · subst hjk; rcases hc' with ⟨h1, rfl⟩ | ⟨h1, h2, _⟩; exact h1; omega
    · simp only [hjk, decide_false, Bool.false_or] at hl
      have := I.below j hj hl
      rcases hc' with ⟨_, rfl⟩ | ⟨h1, h2, _⟩; exact this; omega
  ·
    intro j hj hl t ht
    rw [hset j hj] at hl
    by_cases hjk : j = k
    · subst hjk
      have hts : t < a.tmps.size := opDst_lt hdst ht
      rw [ht]
      refine ⟨by simp [Act.put]; exact hts, ?_⟩
      simp only [Act.put, Array.getD_eq_getD_getElem?]
      rw [Array.getElem?_setIfInBounds_self_of_lt hts]
      exact hV
    · simp only [hjk, decide_false, Bool.false_or] at hl
      obtain ⟨x1, x2⟩ := I.s1 j hj hl t ht
      have hne := (hF.slots k j hk hj hjk t ht).1
      exact ⟨by rw [hputs]; exact x1, by rw [hputne t hne]; exact x2.mono hle⟩
  ·
    intro t u hno hu
    have hne : (ops.getD (r.getD k 0) default).dst ≠ some t := hno k hk (by rw [hset k hk]; simp)
    obtain ⟨x1, x2⟩ := I.s2 t u (fun j hj hl => hno j hj (by rw [hset j hj, hl]; simp)) hu
    exact ⟨by rw [hputs]; exact x1, by rw [hputne t hne]; exact x2.mono hle⟩
  ·
    intro i s hi him hr
    by_cases h1 : i < n k ∨ n (k + 1) ≤ i
    · rw [heq i h1] at hr
      obtain ⟨j, a1, a2, a3, a4⟩ := I.dom i s hi him hr
      exact ⟨j, a1, by rw [hset j a1, a2]; simp, a3, a4⟩
    · exact ⟨k, hk, by rw [hset k hk]; simp, by omega, by omega⟩
  · intro i hi
    rw [heq i (.inl (by omega))]; exact I.old i hi
  ·
    intro B hB hne
    rw [hkeep B (by have := I.size; omega) ?_]
    · exact I.keep B hB hne
    · intro i s hi hl hr
      by_cases hi0 : i < n 0
      · rw [I.old i hi0] at hr
        refine hne i s hi hi0 ?_ hr
        cases h0 : H 0 i with
        | none => have := (g.abs c I.cle).1.2.2.2 i hi0 h0; rw [this] at hl; cases hl
        | some o => rfl
      · rcases I.fresh i s (by omega) (hlive i hl) hr with h | ⟨j, t, b1, b2, b3, b4, b5⟩
        · omega
        · rw [← b5]; exact hne j t b1 b2 b3 b4
  ·
    intro i s hi him hr
    by_cases h1 : i < n k ∨ n (k + 1) ≤ i
    · rw [heq i h1] at hr; exact I.fresh i s hi him hr
    · rcases hfresh i s (by omega) (by omega) hr with h | ⟨j, t, b1, b2, b3, b4⟩
      · exact .inl (by have := I.size; omega)
      · by_cases hj0 : j < n 0
        · refine .inr ⟨j, t, b1, hj0, ?_, by rw [← I.old j hj0]; exact b3, b4⟩
          cases h0 : H 0 j with
          | none => have := (g.abs c I.cle).1.2.2.2 j hj0 h0; rw [this] at b2; cases b2
          | some o => rfl
        · rcases I.fresh j t (by omega) (hlive j b2) b3 with h | ⟨q, x, d1, d2, d3, d4, d5⟩
          · exact .inl (by omega)
          · exact .inr ⟨q, x, d1, d2, d3, d4, by rw [d5, b4]⟩
  · cases (ops.getD (r.getD k 0) default).dst <;> simp [Act.put, I.defers]
  · rw [hputs]; exact I.tsize
end
end Go.Proofs.YtlpcdcpcfeaecaaAb
end
section
namespace Go.Proofs.YtlpcdcpcfeaecaaAb
open Go
section
variable {P : Program} {β lo : Nat} {ops : Array Oper} {r : List Nat} {isW wk : Nat → Bool} {fr : Nat → Fr} {n : Nat → Nat} {H : Nat → Heap} {v : Nat → Value}
  {ρ0 : Rho} {a0 : Act} {w0 : World} {listed : Array Bool} {a : Act} {w : World} {ρ : Rho} {c : Nat}
theorem Inv.reads (g : Reg P β lo ops r isW wk fr n H v) (I : Inv β lo ops r isW fr n H v ρ0 a0 w0 listed a w ρ c) {k : Nat} (hk : k < ops.size) (hready : r.getD k 0 ∈ Region.ready .any ops listed) :
    ∀ t ∈ (ops.getD (r.getD k 0) default).looksAt ops, ∀ u, (fr k).get t = some u → t < a.tmps.size ∧ VR ρ u (a.tmps.getD t undef) := by
  intro t ht u hu
  have hF := g.facts
  have hlt : r.getD k 0 < listed.size := by rw [I.lsize]; exact hF.into k hk
  have hunk : listed.getD (r.getD k 0) false = false := by rw [← getD_true_false hlt]; exact (mem_ready.1 hready).1
  rcases fr_get g.hfr k (by omega) t u hu with ⟨j, hj, hd, rfl⟩ | ⟨hno, h0⟩
  · have hjm : j < ops.size := by omega
    rcases (hF.slots k j hk hjm (by omega) t hd).2 ht with hdep | hdep
    · have := (reach_of_depB hdep).ready I.closed hready
      exact I.s1 j hjm this t hd
    · have := hF.ahead j k hjm hk hdep
      omega
  · refine I.s2 t u (fun j hj hl hd => ?_) h0
    have hjk : j ≠ k := fun e => by subst e; rw [hunk] at hl; cases hl
    by_cases hlt2 : j < k
    · exact hno j hlt2 hd
    · rcases (hF.slots k j hk hj hjk t hd).2 ht with hdep | hdep
      · have := hF.ahead k j hk hj hdep; omega
      · have := (reach_of_depB hdep).listed I.closed hl
        rw [hunk] at this; cases this
theorem wanted_eq {o : Oper} {fr : Fr} {a : Act} {ρ : Rho} {b : Bool} (h : wA ops o fr = some b) (hr : ∀ t ∈ o.looksAt ops, ∀ u, fr.get t = some u → t < a.tmps.size ∧ VR ρ u (a.tmps.getD t undef)) :
    Region.wanted o (yielded ops a.tmps) = b := by
  unfold wA at h
  unfold Region.wanted
  cases hg : o.guard with
  | none => rw [hg] at h; exact Option.some.inj h
  | some p =>
    obtain ⟨j, want⟩ := p
    rw [hg] at h
    simp only at h ⊢
    cases hd : (ops[j]?).bind (·.dst) with
    | none =>
      rw [hd] at h
      simp only at h
      have : yielded ops a.tmps j = none := by simp [yielded, hd]
      rw [this, ← Option.some.inj h]; rfl
    | some t =>
      rw [hd] at h
      simp only at h
      cases hu : fr.get t with
      | none => rw [hu] at h; cases h
      | some u =>
        rw [hu] at h
        obtain ⟨h1, h2⟩ := hr t (by simp [Oper.looksAt, hg, hd]) u hu
        have hget : a.tmps[t]? = some (a.tmps.getD t undef) := by simp [Array.getD_eq_getD_getElem?, h1]
        have hy : yielded ops a.tmps j = match a.tmps.getD t undef with | .bool b => some b | _ => none := by
          simp only [yielded, hd, Option.bind_some, hget]
          cases a.tmps.getD t undef <;> rfl
        rw [hy]
        generalize a.tmps.getD t undef = z at h2
        cases h2 <;> simp only at h <;> rw [← Option.some.inj h] <;> first | rfl | simp
theorem eval_rel {o : Oper} {fr : Fr} {a : Act} {ρ : Rho} (hr : ∀ t ∈ o.looksAt ops, ∀ u, fr.get t = some u → t < a.tmps.size ∧ VR ρ u (a.tmps.getD t undef)) (hg : ∀ v, Operand.const v ∈ o.op.operands → Gr v) :
    ∀ x ∈ o.op.operands, ∀ u, fr.eval x = some u → VR ρ u (a.eval x) := by
  intro x hx u hu
  cases x with
  | tmp t =>
    have : t ∈ o.looksAt ops := List.mem_append_left _ (List.mem_filterMap.2 ⟨.tmp t, by simpa using hx, rfl⟩)
    exact (hr t this u hu).2
  | const v => simp only [Fr.eval] at hu; obtain rfl := Option.some.inj hu; exact (hg v hx).2 ρ
  | global g => simp [Fr.eval] at hu
  | func f => simp only [Fr.eval] at hu; obtain rfl := Option.some.inj hu; exact (gr_func f).2 ρ
end
end Go.Proofs.YtlpcdcpcfeaecaaAb
end
section
namespace Go.Proofs.YtlpcdcpcfeaecaaAb
open Go
def unl (ops : Array Oper) (r : List Nat) (listed : Array Bool) : Nat := ((List.range ops.size).filter fun k => !listed.getD (r.getD k 0) false).length
section
variable {P : Program} {β lo : Nat} {ops : Array Oper} {r : List Nat} {isW wk : Nat → Bool} {fr : Nat → Fr} {n : Nat → Nat} {H : Nat → Heap} {v : Nat → Value}
  {ρ0 : Rho} {a0 : Act} {w0 : World}
theorem unl_set (hF : RegFacts ops r isW) {listed : Array Bool} (hs : listed.size = ops.size) {k : Nat} (hk : k < ops.size) (hun : listed.getD (r.getD k 0) false = false) :
    unl ops r (listed.setIfInBounds (r.getD k 0) true) + 1 = unl ops r listed := by
  unfold unl
  have hlt : r.getD k 0 < listed.size := by rw [hs]; exact hF.into k hk
  have hmem : k ∈ (List.range ops.size).filter (fun j => !listed.getD (r.getD j 0) false) := by
    rw [List.mem_filter, List.mem_range]; exact ⟨hk, by rw [hun]; rfl⟩
  have hnd : ((List.range ops.size).filter (fun j => !listed.getD (r.getD j 0) false)).Nodup := List.Pairwise.filter _ List.nodup_range
  have he : (List.range ops.size).filter (fun j => !(listed.setIfInBounds (r.getD k 0) true).getD (r.getD j 0) false) = ((List.range ops.size).filter (fun j => !listed.getD (r.getD j 0) false)).erase k := by
    rw [hnd.erase_eq_filter, List.filter_filter]
    apply List.filter_congr
    intro j hj
    rw [List.mem_range] at hj
    rw [getD_set _ _ _ hlt]
    by_cases hjk : j = k
    · subst hjk; simp
    · have : r.getD k 0 ≠ r.getD j 0 := fun e => hjk (hF.inj k j hk hj e.symm)
      have h1 : (j != k) = true := by simpa using hjk
      simp only [this, decide_false, Bool.false_or, h1, Bool.true_and]
  rw [he, List.length_erase_of_mem hmem]
  have : 0 < ((List.range ops.size).filter (fun j => !listed.getD (r.getD j 0) false)).length := List.length_pos_of_mem hmem
  omega
theorem all_listed {listed : Array Bool} (hF : RegFacts ops r isW) (hs : listed.size = ops.size) (h : Region.ready .any ops listed = []) : ∀ k, k < ops.size → listed.getD (r.getD k 0) false = true := by
  intro k
  induction k using Nat.strongRecOn with
  | _ k ih =>
    intro hk
    have hlt : r.getD k 0 < listed.size := by rw [hs]; exact hF.into k hk
    cases hl : listed.getD (r.getD k 0) false with
    | true => rfl
    | false =>
      exfalso
      have hin : r.getD k 0 ∈ Region.ready .any ops listed := by
        rw [mem_ready]
        have hri := hF.into k hk
        refine ⟨by rw [getD_true_false hlt]; exact hl, ops.getD (r.getD k 0) default, ?_, fun e he hb => ?_⟩
        · rw [Array.getD_eq_getD_getElem?, Array.getElem?_eq_getElem hri]; rfl
        · obtain ⟨j, hj, hje⟩ := hF.direct k hk e he hb
          rw [← hje]; exact ih j hj (by omega)
      rw [h] at hin; cases hin
theorem Reg.wpAny (g : Reg P β lo ops r isW wk fr n H v) (hdst : ∀ k, k < ops.size → opDst a0.tmps.size (ops.getD (r.getD k 0) default) = true) {Q : Exit → Act → World → Prop}
    (hQ : ∀ listed a w ρ, Inv β lo ops r isW fr n H v ρ0 a0 w0 listed a w ρ ops.size → (∀ k, k < ops.size → listed.getD (r.getD k 0) false = true) → Q .normal a w) :
    ∀ (fuel : Nat) (listed : Array Bool) (a : Act) (w : World) (ρ : Rho) (c : Nat), Inv β lo ops r isW fr n H v ρ0 a0 w0 listed a w ρ c → unl ops r listed = fuel → Go.wpAny P .any ops Q fuel listed a w := by
  have hF := g.facts
  have done : ∀ (listed : Array Bool) (a : Act) (w : World) (ρ : Rho) (c : Nat), Inv β lo ops r isW fr n H v ρ0 a0 w0 listed a w ρ c → Region.ready .any ops listed = [] → Q .normal a w := by
    intro listed a w ρ c I hr
    have hall := all_listed hF I.lsize hr
    have hc : c = ops.size := by
      rcases Nat.lt_or_ge c ops.size with h | h
      · have h1 := I.cun h; rw [hall c h] at h1; cases h1
      · have := I.cle; omega
    subst hc
    exact hQ listed a w ρ I hall
  intro fuel
  induction fuel with
  | zero =>
    intro listed a w ρ c I hu
    have hr : Region.ready .any ops listed = [] := by
      apply List.eq_nil_iff_forall_not_mem.2
      intro i hi
      obtain ⟨hun, o, ho, _⟩ := mem_ready.1 hi
      have hlt := (Array.getElem?_eq_some_iff.1 ho).1
      obtain ⟨k, hk, rfl⟩ := hF.onto i hlt
      have hmem : k ∈ (List.range ops.size).filter (fun j => !listed.getD (r.getD j 0) false) := by
        rw [List.mem_filter, List.mem_range]
        exact ⟨hk, by rw [← getD_true_false (by rw [I.lsize]; exact hlt), hun]; rfl⟩
      have := List.length_pos_of_mem hmem
      unfold unl at hu
      omega
    exact ⟨hr, done listed a w ρ c I hr⟩
  | succ fuel ih =>
    intro listed a w ρ c I hu
    refine ⟨done listed a w ρ c I, fun i hi => ?_⟩
    obtain ⟨hun, o, ho, hall⟩ := mem_ready.1 hi
    have hlt := (Array.getElem?_eq_some_iff.1 ho).1
    obtain ⟨k, hk, rfl⟩ := hF.onto i hlt
    have hll : r.getD k 0 < listed.size := by rw [I.lsize]; exact hlt
    have hunk : listed.getD (r.getD k 0) false = false := by rw [← getD_true_false hll]; exact hun
    have hod : ops.getD (r.getD k 0) default = o := by rw [Array.getD_eq_getD_getElem?, ho]; rfl
    have hdk : opDst a.tmps.size (ops.getD (r.getD k 0) default) = true := by rw [I.tsize]; exact hdst k hk
    have hreads := I.reads g hk hi
    have hwant := wanted_eq (g.hw k hk) hreads
    have hev := eval_rel (a := a) hreads (fun v hv => opDst_gr hdk hv)
    have hkc : k ≤ c := by
      rcases Nat.lt_or_ge c k with h | h
      · exfalso
        have hcm : c < ops.size := by omega
        have hwc : isW c = true := by rcases I.cw with h | h; omega; exact h
        have := (reach_of_depB (hF.writer k c hk hcm hwc h)).ready I.closed hi
        rw [I.cun hcm] at this; cases this
      · exact h
    have hunl := unl_set hF I.lsize hk hunk
    have hn0k := g.mono 0 k (by omega) (by omega)
    have habs := g.habs k hk
    have hrange : ∀ i s, n 0 ≤ i → i < n ops.size → ρ i = some s → i < n c := fun i s hi him hr => by
      obtain ⟨j, j1, j2, j3, j4⟩ := I.dom i s hi him hr
      have := g.mono (j + 1) c (by have := I.below j j1 j2; omega) I.cle
      omega
    have hnone : ∀ i, n k ≤ i → i < n (k + 1) → ρ i = none := fun i h1 h2 => by
      cases hr : ρ i with
      | none => rfl
      | some s =>
        exfalso
        have hkm := g.mono (k + 1) ops.size (by omega) (Nat.le_refl _)
        obtain ⟨j, j1, j2, j3, j4⟩ := I.dom i s (by omega) (by omega) hr
        by_cases hjk : j = k
        · subst hjk; rw [hunk] at j2; cases j2
        · by_cases hlt2 : j < k
          · have := g.mono (j + 1) k (by omega) (by omega); omega
          · have := g.mono (k + 1) j (by omega) (by omega); omega
    have cont : ∀ ρ' v' w' c', ((k < c ∧ c' = c) ∨ (k = c ∧ c + 1 ≤ c' ∧ c' ≤ ops.size ∧ (c' = ops.size ∨ isW c' = true) ∧ ∀ j, c + 1 ≤ j → j < c' → isW j = false)) → VR ρ' (v k) v' → Sim β ρ' (H c') w' →
        (∀ i, (i < n k ∨ n (k + 1) ≤ i) → ρ' i = ρ i) → w.heap.size ≤ w'.heap.size → SameOut w w' →
        (∀ B, B < w.heap.size → (∀ i s, lo ≤ i → (H c i).isSome → ρ i = some s → s.blk ≠ B) → w'.heap[B]? = w.heap[B]?) →
        (∀ i s, n k ≤ i → i < n (k + 1) → ρ' i = some s → w.heap.size ≤ s.blk ∨ ∃ j t, lo ≤ j ∧ (H c j).isSome ∧ ρ j = some t ∧ t.blk = s.blk) →
        Go.wpAny P .any ops Q fuel (listed.setIfInBounds (r.getD k 0) true) (a.put o.dst v') w' := by
      intro ρ' v' w' c' h1 h2 h3 h4 h5 hso h6 h7
      have I' := I.next g hk hi hdk h1 h2 h3 h4 hnone h5 hso h6 h7
      rw [hod] at I'
      exact ih _ _ _ ρ' c' I' (by omega)
    unfold wpOp
    simp only [ho]
    rw [← hod, hwant, hod]
    cases hwk : wk k with
    | false =>
      obtain ⟨e1, e2, e3⟩ := g.hskip k hk hwk
      simp only [Bool.false_eq_true, if_false]
      by_cases hkc2 : k < c
      · exact cont ρ undef w c (.inl ⟨hkc2, rfl⟩) (by rw [e1]; exact gr_undef.2 ρ) I.sim (fun _ _ => rfl) (Nat.le_refl _) (.refl _) (fun _ _ _ => rfl) (fun i s h1 h2 => by omega)
      · obtain rfl : k = c := by omega
        obtain ⟨c', d1, d2, d3, d4⟩ := next_writer isW ops.size _ (k + 1) rfl (by omega)
        refine cont ρ undef w c' (.inr ⟨rfl, d1, d2, d3, d4⟩) (by rw [e1]; exact gr_undef.2 ρ) (I.sim.of_same fun i s o hr ho' => ?_) (fun _ _ => rfl) (Nat.le_refl _) (.refl _) (fun _ _ _ => rfl) (fun i s h1 h2 => by omega)
        have him : i < n ops.size := by
          rcases Nat.lt_or_ge i (n c') with h | h
          · have := g.mono c' ops.size d2 (Nat.le_refl _); omega
          · rw [g.hb c' d2 i h] at ho'; cases ho'
        by_cases hi0 : n 0 ≤ i
        · have := hrange i s hi0 him hr
          rw [g.quiet (k + 1) c' d1 d2 d4 i (by omega), e3] at ho'; exact ho'
        · rw [g.quiet (k + 1) c' d1 d2 d4 i (by omega), e3] at ho'; exact ho'
    | true =>
      simp only [if_true]
      refine .inl ?_
      rw [← hod]
      by_cases hkc2 : k < c
      · have hwn : isW k = false := by
          cases h : isW k with
          | false => rfl
          | true => have h2 := I.wdone k hkc2 h; rw [hunk] at h2; cases h2
        by_cases hB : ∀ j, k < j → j < c → isW j = false
        ·
          have hsnd := g.hrun k hk hwk
          rw [hwn] at hsnd habs
          simp only [Bool.false_eq_true, if_false] at hsnd habs
          have hq : ∀ j, k ≤ j → j < c → isW j = false := fun j h1 h2 => by
            by_cases e : j = k
            · subst e; exact hwn
            · exact hB j (by omega) h2
          refine hsnd ρ a w hev (I.sim.of_same fun i s o hr ho' => ?_) (g.hb k (by omega)) hnone _ Q fun ρ' v' w' hV hok => ?_
          · have hik : i < n k := by
              rcases Nat.lt_or_ge i (n k) with h | h
              · exact h
              · rw [g.hb k (by omega) i h] at ho'; cases ho'
            rw [g.quiet k c (by omega) I.cle hq i hik]; exact ho'
          · rw [hod]
            refine cont ρ' v' w' c (.inl ⟨hkc2, rfl⟩) hV ?_ (fun i h => h.elim (hok.old i) (hok.far i)) hok.size hok.out (fun B hB2 _ => hok.keep B hB2 fun i s h1 h2 => by omega) (fun i s h1 h2 hr => (hok.fresh i s h1 h2 hr).imp id fun ⟨j, t, b1, b2, _⟩ => by omega)
            refine Sim.join (H := H c) (K := H (k + 1)) (a := n k) (b := n (k + 1)) I.sim hok.sim (hok.rho hnone) (fun i h => h.elim (hok.old i) (hok.far i)) (fun B hB2 => hok.keep B hB2 fun i s h1 h2 => by omega)
              (fun i s h1 h2 hr => (hok.fresh i s h1 h2 hr).elim id fun ⟨j, t, b1, b2, _⟩ => by omega) (fun i s o h1 h2 hr ho' => ?_) (fun i s o _ _ ho' => ho')
            rw [← g.quiet (k + 1) c (by omega) I.cle (fun j h1 h2 => hq j (by omega) h2) i h2]; exact ho'
        ·
          have hfl : floatsB ops r isW k c = true := by
            simp only [floatsB, Bool.and_eq_true, List.any_eq_true, List.mem_range, List.all_eq_true, decide_eq_true_eq, Bool.or_eq_true, Bool.not_eq_true', Bool.and_eq_false_iff, decide_eq_false_iff_not]
            refine ⟨?_, fun j hj => ?_⟩
            · apply Classical.byContradiction
              intro hno
              apply hB
              intro j h1 h2
              cases h : isW j with
              | false => rfl
              | true => exact absurd ⟨j, h2, h1, h⟩ hno
            · by_cases h1 : k < j ∧ isW j = true
              · refine .inr ?_
                cases hd : depB (clos ops) (r.getD k 0) (r.getD j 0) with
                | false => rfl
                | true =>
                  have h3 := (reach_of_depB hd).listed I.closed (I.wdone j hj h1.2)
                  rw [hunk] at h3; cases h3
              · refine .inl ?_
                rcases Classical.em (k < j) with h2 | h2
                · refine .inr ?_
                  cases h : isW j with
                  | false => rfl
                  | true => exact absurd ⟨h2, h⟩ h1
                · exact .inl h2
          have hsnd := g.hlate k c hkc2 I.cle I.cw hwn hfl hwk
          refine hsnd ρ a w hev (I.sim.of_same fun i s o hr ho' => ?_) hnone _ Q fun ρ' v' w' hV hok => ?_
          · simp only [Heap.rm] at ho'
            split at ho'
            · cases ho'
            · exact ho'
          · rw [hod]
            exact cont ρ' v' w' c (.inl ⟨hkc2, rfl⟩) hV hok.sim (fun i h => h.elim (hok.old i) (hok.far i)) hok.size hok.out (fun B hB2 _ => hok.keep B hB2 fun i s h1 h2 => by omega) (fun i s h1 h2 hr => (hok.fresh i s h1 h2 hr).imp id fun ⟨j, t, b1, b2, _⟩ => by omega)
      ·
        obtain rfl : k = c := by omega
        have hwc : isW k = true := by rcases I.cw with h | h; omega; exact h
        have hsnd := g.hrun k hk hwk
        rw [hwc] at hsnd habs
        simp only [if_true] at hsnd habs
        obtain ⟨c', d1, d2, d3, d4⟩ := next_writer isW ops.size _ (k + 1) rfl (by omega)
        refine hsnd ρ a w hev I.sim (g.hb k (by omega)) hnone _ Q fun ρ' v' w' hV hok => ?_
        rw [hod]
        refine cont ρ' v' w' c' (.inr ⟨rfl, d1, d2, d3, d4⟩) hV (hok.sim.of_same fun i s o hr ho' => ?_) (fun i h => h.elim (hok.old i) (hok.far i)) hok.size hok.out
          (fun B hB2 hne => hok.keep B hB2 fun i s h1 h2 h3 h4 => hne i s h1 h3 h4) (fun i s h1 h2 hr => (hok.fresh i s h1 h2 hr).imp id fun ⟨j, t, b1, b2, b3, b4, b5⟩ => ⟨j, t, b1, b3, b4, b5⟩)
        have hik : i < n (k + 1) := by
          rcases Nat.lt_or_ge i (n (k + 1)) with h | h
          · exact h
          · exfalso
            rw [hok.far i h] at hr
            have him : i < n ops.size := by
              rcases Nat.lt_or_ge i (n c') with h | h
              · have := g.mono c' ops.size d2 (Nat.le_refl _); omega
              · rw [g.hb c' d2 i h] at ho'; cases ho'
            have := hrange i s (by have := habs.1; omega) him hr
            have := habs.1
            omega
        rw [g.quiet (k + 1) c' d1 d2 d4 i hik] at ho'; exact ho'
end
end Go.Proofs.YtlpcdcpcfeaecaaAb
end
section
namespace Go.Proofs.YtlpcdcpcfeaecaaAb
open Go
def FrR (ρ : Rho) (fr : Fr) (tmps : Array Value) : Prop := ∀ t u, fr.get t = some u → t < tmps.size ∧ VR ρ u (tmps.getD t undef)
theorem FrR.mono {ρ ρ' : Rho} (h : ρ.le ρ') {fr : Fr} {tmps : Array Value} (hf : FrR ρ fr tmps) : FrR ρ' fr tmps := fun t u hu => ⟨(hf t u hu).1, (hf t u hu).2.mono h⟩
theorem FrR.put {ρ : Rho} {fr : Fr} {a : Act} (hf : FrR ρ fr a.tmps) {dst : Option Tmp} {v v' : Value} (hd : ∀ d, dst = some d → d < a.tmps.size) (hV : VR ρ v v') : FrR ρ (fr.put dst v) (a.put dst v').tmps := by
  cases dst with
  | none => exact hf
  | some d =>
    intro t u hu
    simp only [Fr.put, Fr.get] at hu
    simp only [Act.put, Array.size_setIfInBounds]
    by_cases h : d = t
    · rw [if_pos h] at hu
      obtain rfl := Option.some.inj hu
      subst h
      refine ⟨hd _ rfl, ?_⟩
      simp only [Array.getD_eq_getD_getElem?]
      rw [Array.getElem?_setIfInBounds_self_of_lt (hd _ rfl)]
      exact hV
    · rw [if_neg h] at hu
      obtain ⟨h1, h2⟩ := hf t u hu
      refine ⟨h1, ?_⟩
      simp only [Array.getD_eq_getD_getElem?] at h2 ⊢
      rw [Array.getElem?_setIfInBounds_ne h]
      exact h2
theorem Act.put_size (a : Act) (dst : Option Tmp) (v : Value) : (a.put dst v).tmps.size = a.tmps.size := by cases dst <;> simp [Act.put]
theorem Act.put_def (a : Act) (dst : Option Tmp) (v : Value) : (a.put dst v).defers = a.defers := by cases dst <;> rfl
inductive ExR (ρ : Rho) : Ex → Exit → Prop
  | norm : ExR ρ .norm .normal
  | ret : ExR ρ .ret .ret
  | ex (id : Nat) : ExR ρ (.ex id) (.exit id)
  | pan (v v' : Value) (h : VR ρ v v') : ExR ρ (.pan v) (.panic [{ v := v', recovered := false }])
inductive EnR (ρ : Rho) : En → Ending → Prop
  | ret (v v' : Value) (h : VR ρ v v') : EnR ρ (.ret v) (.returned v')
  | pan (v v' : Value) (h : VR ρ v v') : EnR ρ (.pan v) (.panicked [{ v := v', recovered := false }])
theorem Ok.trans {β lo : Nat} {ρ ρ1 ρ2 : Rho} {n n1 n2 : Nat} {H H1 H2 : Heap} {w w1 w2 : World} (hlo : lo ≤ n) (a : Ok β lo ρ n H w ρ1 n1 H1 w1) (b : Ok β lo ρ1 n1 H1 w1 ρ2 n2 H2 w2) : Ok β lo ρ n H w ρ2 n2 H2 w2 := by
  have h1 := a.le
  have h2 := b.le
  refine ⟨b.sim, by omega, fun i hi => by rw [b.old i (by omega)]; exact a.old i hi, fun i hi => by rw [b.far i hi]; exact a.far i (by omega), fun i hi => by rw [b.low i hi]; exact a.low i hi,
    by have := a.size; have := b.size; omega, fun B hB hne => ?_, fun i s hi hi2 hr => ?_, fun i hi h => b.dead i (by omega) (a.dead i hi h), a.out.trans b.out⟩
  · rw [b.keep B (by have := a.size; omega) ?_]
    · exact a.keep B hB hne
    · intro i s hi hi1 hl hr
      by_cases hin : i < n
      · rw [a.old i hin] at hr
        refine hne i s hi hin ?_ hr
        cases h0 : H i with
        | none => rw [a.dead i hin h0] at hl; cases hl
        | some o => rfl
      · rcases a.fresh i s (by omega) hi1 hr with h | ⟨j, t, c1, c2, c3, c4, c5⟩
        · omega
        · rw [← c5]; exact hne j t c1 c2 c3 c4
  · by_cases hi1 : i < n1
    · rw [b.old i hi1] at hr; exact a.fresh i s hi hi1 hr
    · rcases b.fresh i s (by omega) hi2 hr with h | ⟨j, t, c1, c2, c3, c4, c5⟩
      · exact .inl (by have := a.size; omega)
      · by_cases hjn : j < n
        · refine .inr ⟨j, t, c1, hjn, ?_, by rw [← a.old j hjn]; exact c4, c5⟩
          cases h0 : H j with
          | none => rw [a.dead j hjn h0] at c3; cases c3
          | some o => rfl
        · rcases a.fresh j t (by omega) c2 c4 with h | ⟨q, x, d1, d2, d3, d4, d5⟩
          · exact .inl (by omega)
          · exact .inr ⟨q, x, d1, d2, d3, d4, by rw [d5, c5]⟩
theorem Ok.lower {β lo lo' : Nat} {ρ ρ1 : Rho} {n n1 : Nat} {H H1 : Heap} {w w1 : World} (h : lo ≤ lo') (a : Ok β lo' ρ n H w ρ1 n1 H1 w1) : Ok β lo ρ n H w ρ1 n1 H1 w1 :=
  ⟨a.sim, a.le, a.old, a.far, fun i hi => a.low i (by omega), a.size, fun B hB hne => a.keep B hB fun i s h1 h2 h3 h4 => hne i s (by omega) h2 h3 h4,
    fun i s h1 h2 h3 => (a.fresh i s h1 h2 h3).imp id fun ⟨j, t, c1, c2, c3, c4, c5⟩ => ⟨j, t, by omega, c2, c3, c4, c5⟩, a.dead, a.out⟩
def CallSnd (P : Program) (β lo : Nat) (f : FuncId) (args : List Value) (n : Nat) (H : Heap) (e : En) (n' : Nat) (H' : Heap) : Prop :=
  ∀ (ρ : Rho) (w : World) (cargs : Array Value), cargs.size = args.length → (∀ (k : Nat) u, args[k]? = some u → ∃ u', cargs[k]? = some u' ∧ VR ρ u u') → Sim β ρ H w → (∀ i, n ≤ i → H i = none) → (∀ i, n ≤ i → i < n' → ρ i = none) →
    ∀ R : Ending → World → Prop, (∀ ρ' e' w', EnR ρ' e e' → Ok β lo ρ n H w ρ' n' H' w' → R e' w') → Calls P f cargs w R
def loopWp (P : Program) (c : Code) (Q : Exit → Act → World → Prop) (a : Act) (w : World) : Prop :=
  ∀ (b : Frame) (k : List Item) (cs : List Frame), ∃ e a' w', Q e a' w' ∧ Arrives P (lone (b.at a (.code c :: .inLoop c :: k)) cs w) b k cs e a' w'
def Wq (P : Program) : Code → (Exit → Act → World → Prop) → Act → World → Prop
  | .loop c => loopWp P c
  | c => c.wp P
theorem loopWp.wp {P : Program} {c : Code} {Q : Exit → Act → World → Prop} {a : Act} {w : World} (h : loopWp P c Q a w) : (Code.loop c).wp P Q a w :=
  fun b k cs => let ⟨e, a', w', q, r⟩ := h b k cs; ⟨e, a', w', q, .of_steps (.one step_loop) r⟩
theorem Wq.wp {P : Program} {c : Code} {Q : Exit → Act → World → Prop} {a : Act} {w : World} (h : Wq P c Q a w) : c.wp P Q a w := by
  cases c <;> first | exact loopWp.wp h | exact h
theorem loopWp_round {P : Program} {c : Code} {Q : Exit → Act → World → Prop} {a : Act} {w : World} (h : c.wp P (Exit.then (loopWp P c Q) Q) a w) : loopWp P c Q a w := by
  intro b k cs
  obtain ⟨e, a₁, w₁, hq, harr⟩ := h b (.inLoop c :: k) cs
  cases e with
  | normal =>
    obtain ⟨e₂, a₂, w₂, hq₂, harr₂⟩ := hq b k cs
    exact ⟨e₂, a₂, w₂, hq₂, .of_steps (Steps.trans harr (.one step_inLoop)) harr₂⟩
  | exit id => exact ⟨_, a₁, w₁, hq, .pass (x := .inLoop c) rfl (fun _ _ => .inl (by simp)) harr⟩
  | goto l => exact ⟨_, a₁, w₁, hq, .pass (x := .inLoop c) rfl (fun _ _ => .inl (by simp)) harr⟩
  | ret => exact ⟨_, a₁, w₁, hq, .pass (x := .inLoop c) rfl (fun _ _ => .inl (by simp)) harr⟩
  | panic ch => exact ⟨_, a₁, w₁, hq, .pass (x := .inLoop c) rfl (fun _ _ => .inl (by simp)) harr⟩
  | outgrown => exact ⟨_, a₁, w₁, hq, .pass (x := .inLoop c) rfl (fun _ _ => .inl (by simp)) harr⟩
def J.Snd (P : Program) (β : Nat) : J → Prop
  | .op lo o fr n H v n' H' => β ≤ lo → lo ≤ n → OpSnd P β lo o fr n H v n' H'
  | .ops lo all l fr n H e fr' n' H' => β ≤ lo → lo ≤ n → ∀ (ρ : Rho) (a : Act) (w : World), FrR ρ fr a.tmps → Sim β ρ H w → (∀ i, n ≤ i → H i = none) → (∀ i, n ≤ i → i < n' → ρ i = none) → (∀ o ∈ l, opDst a.tmps.size o = true) →
      ∀ Q : Exit → Act → World → Prop, (∀ ρ' e' a' w', ExR ρ' e e' → Ok β lo ρ n H w ρ' n' H' w' → FrR ρ' fr' a'.tmps → a'.tmps.size = a.tmps.size → a'.defers = a.defers → Q e' a' w') → wpList P all Q l a w
  | .code lo c fr n H e fr' n' H' => β ≤ lo → lo ≤ n → ∀ (ρ : Rho) (a : Act) (w : World), FrR ρ fr a.tmps → Sim β ρ H w → (∀ i, n ≤ i → H i = none) → (∀ i, n ≤ i → i < n' → ρ i = none) → dstsOK a.tmps.size c = true →
      ∀ Q : Exit → Act → World → Prop, (∀ ρ' e' a' w', ExR ρ' e e' → Ok β lo ρ n H w ρ' n' H' w' → FrR ρ' fr' a'.tmps → a'.tmps.size = a.tmps.size → a'.defers = a.defers → Q e' a' w') → Wq P c Q a w
  | .call lo f args n H e n' H' => β ≤ lo → lo ≤ n → CallSnd P β lo f args n H e n' H'
section
variable {P : Program} {β : Nat}
noncomputable def only (o : Oper) (ev : Operand → Option Value) : Operand → Option Value := fun x => open Classical in if x ∈ o.op.operands then ev x else none
theorem only_in {o : Oper} {ev : Operand → Option Value} {x : Operand} (h : x ∈ o.op.operands) : only o ev x = ev x := by simp [only, h]
theorem lands_wp {lo : Nat} {ρ : Rho} {n : Nat} {H : Heap} {w : World} {a : Act} {o : Oper} {v : Value} {n' : Nat} {H' : Heap} (h : Lands P β lo ρ n H w a.eval o v n' H') {K : Act → World → Prop} {Q : Exit → Act → World → Prop}
    (hK : ∀ ρ' v' w', VR ρ' v v' → Ok β lo ρ n H w ρ' n' H' w' → K (a.put o.dst v') w') : o.wp P a w K Q := by
  obtain ⟨v', w', ρ', hr, hV, hok⟩ := h
  unfold Oper.wp
  rcases hr with hr | ⟨hr, rfl⟩
  · rw [hr]; exact hK ρ' v' w' hV hok
  · rw [hr]; exact hK ρ' undef w' hV hok
theorem step_snd {lo : Nat} {o : Oper} {fr : Fr} {n : Nat} {H : Heap} {v : Value} {n' : Nat} {H' : Heap} (h : Step P lo fr.eval n H o v n' H') (hβ : β ≤ lo) (hlo : lo ≤ n) : OpSnd0 P β lo o fr n H v n' H' := by
  intro ρ a w hev hs hf K Q hK
  have h' := h.restrict (ev' := only o fr.eval) (fun x hx => only_in hx)
  exact lands_wp (h'.sound hβ hlo (fun x u hu => by
    unfold only at hu
    split at hu
    · rename_i hx; exact hev x hx u hu
    · cases hu) hs hf) hK
theorem stepM_snd {lo : Nat} {o : Oper} {fr : Fr} {n : Nat} {H : Heap} {v : Value} {n' : Nat} {H' : Heap} (h : StepM P lo fr.eval n H o v n' H') (hβ : β ≤ lo) (hlo : lo ≤ n) : OpSnd0 P β lo o fr n H v n' H' := by
  intro ρ a w hev hs hf K Q hK
  have h' := h.restrict (ev' := only o fr.eval) (fun x hx => only_in hx)
  exact lands_wp (h'.sound hβ hlo (fun x u hu => by
    unfold only at hu
    split at hu
    · rename_i hx; exact hev x hx u hu
    · cases hu) hs hf) hK
theorem frr_reads {ρ : Rho} {fr : Fr} {a : Act} (hf : FrR ρ fr a.tmps) {ops : Array Oper} {o : Oper} : ∀ t ∈ o.looksAt ops, ∀ u, fr.get t = some u → t < a.tmps.size ∧ VR ρ u (a.tmps.getD t undef) := fun t _ u hu => hf t u hu
theorem call_run {o : Oper} {x : Operand} {xs : Array Operand} {ts : Array TypeId} (ho : o.op = .call { callee := .value x, args := xs, argTypes := ts }) {evc : Operand → Value} {f : FuncId} {first cap : Array Value} {fn : Func}
    (hx : evc x = .func (.func f) first cap) (hfn : P.funcs[f]? = some fn) (hname : (fn.name == "runtime.NumGoroutine") = false) (hbody : fn.body.isNone = false) (w : World) :
    (execOp evc o).run P w = .ok (.enter f (first ++ xs.map evc ++ cap)) w := by
  obtain ⟨dst, op, ty, pos, after, guard⟩ := o
  simp only at ho; subst ho
  have h1 : ¬ fn.name = "runtime.NumGoroutine" := by simpa using hname
  have h2 : ¬ fn.body = none := by intro h; rw [h] at hbody; cases hbody
  simp [execOp, resolve, hx, Deferred.ofValue, invoke, callFunc, hfn, h1, h2]
theorem call_args {ρ : Rho} {ev : Operand → Option Value} {evc : Operand → Value} {xs : Array Operand} {asx : List Value} (hev : ∀ x ∈ xs, ∀ u, ev x = some u → VR ρ u (evc x)) (ha : xs.toList.mapM ev = some asx) {f : Fn} {first cap first' cap' : Array Value}
    (hF : VR ρ (.func f first cap) (.func f first' cap')) :
    (first' ++ xs.map evc ++ cap').size = (first.toList ++ asx ++ cap.toList).length ∧ ∀ (k : Nat) u, (first.toList ++ asx ++ cap.toList)[k]? = some u → ∃ u', (first' ++ xs.map evc ++ cap')[k]? = some u' ∧ VR ρ u u' := by
  cases hF with
  | func f a a' c c' h1 h2 h3 h4 =>
    have key : ∀ (l : List Operand) (asx : List Value), (∀ x ∈ l, ∀ u, ev x = some u → VR ρ u (evc x)) → l.mapM ev = some asx → asx.length = l.length ∧ ∀ (k : Nat) u, asx[k]? = some u → ∃ u', (l.map evc)[k]? = some u' ∧ VR ρ u u' := by
      intro l
      induction l with
      | nil => intro asx _ h; simp at h; subst h; simp
      | cons x l ih =>
        intro asx hx h
        simp only [List.mapM_cons, bind, pure, Option.bind_eq_some_iff] at h
        obtain ⟨v, hv, r, hr, hc⟩ := h
        obtain rfl := Option.some.inj hc
        obtain ⟨i1, i2⟩ := ih r (fun y hy => hx y (by simp [hy])) hr
        refine ⟨by simp [i1], fun k u hk => ?_⟩
        cases k with
        | zero => simp at hk; subst hk; exact ⟨evc x, by simp, hx x (by simp) v hv⟩
        | succ k => simpa using i2 k u (by simpa using hk)
    obtain ⟨l1, l2⟩ := key xs.toList asx (fun x hx => hev x (by simpa using hx)) ha
    refine ⟨by simp [l1, h1, h2], fun k u hk => ?_⟩
    have hlen : asx.length = xs.size := by simpa using l1
    rw [Array.getElem?_append, Array.getElem?_append]
    by_cases hk1 : k < first.size
    · rw [List.append_assoc, List.getElem?_append_left (by simpa using hk1)] at hk
      have hk2 : first[k]? = some u := by simpa using hk
      rw [if_pos (by simp; omega), if_pos (by omega)]
      rw [Array.getElem?_eq_getElem hk1] at hk2
      obtain rfl := Option.some.inj hk2
      exact ⟨first'[k]'(by omega), Array.getElem?_eq_getElem (by omega), h3 k hk1 (by omega)⟩
    · by_cases hk2 : k < first.size + asx.length
      · rw [List.append_assoc, List.getElem?_append_right (by simpa using (by omega : first.size ≤ k)), List.getElem?_append_left (by simp; omega)] at hk
        rw [if_pos (by simp; omega), if_neg (by omega)]
        obtain ⟨u', p, q⟩ := l2 _ u hk
        refine ⟨u', ?_, q⟩
        rw [← p]
        simp only [Array.getElem?_map, List.getElem?_map, Array.getElem?_toList, Array.length_toList, h1]
      · rw [List.getElem?_append_right (by simp; omega)] at hk
        rw [if_neg (by simp; omega)]
        have hk3 : cap[k - (first.size + asx.length)]? = some u := by
          simp only [List.length_append, Array.length_toList] at hk
          simpa using hk
        obtain ⟨hk4, hk5⟩ := Array.getElem?_eq_some_iff.1 hk3
        subst hk5
        refine ⟨cap'[k - (first.size + asx.length)]'(by omega), ?_, h4 _ hk4 (by omega)⟩
        rw [Array.getElem?_eq_getElem (by simp; omega)]
        congr 1
        simp [h1, hlen]
theorem resV_run {ρ : Rho} {H : Heap} {w : World} {fr : Fr} {tmps : Array Value} (hs : Sim β ρ H w) (hf : FrR ρ fr tmps) {r : ResultVar} {v : Value} (h : ResV P H fr r v) :
    ∃ v', ((match r with | .tmp t => pure (tmps.getD t undef) | .cell a t => (do loadVar t (← asAddr (tmps.getD a undef))) : Sem Value)).run P w = .ok v' w ∧ VR ρ v v' := by
  cases h with
  | tmp h => exact ⟨_, rfl, (hf _ _ h).2⟩
  | cell1 ha ht hd hb hk =>
    obtain ⟨s, hr, hx⟩ := (hf _ _ ha).2.ptr_inv
    obtain ⟨v', h1, h2⟩ := hs.cell hb hr hk
    exact ⟨v', by simp [hx, asAddr, loadVar, isAgg_run ht, hd, h1], h2⟩
  | cellN ha ht hd hi hb hk hl =>
    obtain ⟨s, hr, hx⟩ := (hf _ _ ha).2.ptr_inv
    obtain ⟨l', h1, h2, h3⟩ := loadCells_sim (P := P) hs hb hr hk hl
    exact ⟨.agg l'.toArray, by simp [hx, asAddr, loadVar, isAgg_run ht, hd, sizeOf, typeInfo, hi, h1], VR.agg_of (by simp [hl, h2]) fun k u hk => by simpa using h3 k u (by simpa using hk)⟩
theorem resL_run {ρ : Rho} {H : Heap} {w : World} {fr : Fr} {tmps : Array Value} (hs : Sim β ρ H w) (hf : FrR ρ fr tmps) : ∀ {rs : List ResultVar} {vs : List Value}, ResL P H fr rs vs →
    ∃ vs', (rs.mapM (fun r => (match r with | .tmp t => pure (tmps.getD t undef) | .cell a t => (do loadVar t (← asAddr (tmps.getD a undef))) : Sem Value))).run P w = .ok vs' w ∧ vs'.length = vs.length ∧ ∀ (k : Nat) u, vs[k]? = some u → ∃ u', vs'[k]? = some u' ∧ VR ρ u u' := by
  intro rs vs h
  induction h with
  | nil => exact ⟨[], by simp, rfl, fun k u hk => by simp at hk⟩
  | cons h hs' ih =>
    obtain ⟨v', h1, h2⟩ := resV_run hs hf h
    obtain ⟨vs', h3, h4, h5⟩ := ih
    refine ⟨v' :: vs', ?_, by simp [h4], fun k u hk => ?_⟩
    · rw [List.mapM_cons, Sem.run_bind, h1]
      simp only [Result.andThen_ok, Sem.run_bind, h3]
      rfl
    · cases k with
      | zero => simp at hk; subst hk; exact ⟨v', rfl, h2⟩
      | succ k => simpa using h5 k u (by simpa using hk)
theorem results_run {ρ : Rho} {H : Heap} {w : World} {fr : Fr} {tmps : Array Value} (hs : Sim β ρ H w) (hf : FrR ρ fr tmps) {fn : Func} {vs : List Value} (h : ResL P H fr fn.results.toList vs) :
    ∃ v', (results fn tmps).run P w = .ok v' w ∧ VR ρ (retV vs) v' := by
  obtain ⟨vs', h1, h2, h3⟩ := resL_run hs hf h
  refine ⟨if h : vs'.toArray.size = 1 then vs'.toArray[0] else .tuple vs'.toArray, ?_, ?_⟩
  · unfold results
    rw [Sem.run_bind, Array.mapM_eq_mapM_toList, map_eq_pure_bind, Sem.run_bind]
    erw [h1]
    rfl
  · match vs, vs', h2, h3 with
    | [v], [v'], _, h3 => obtain ⟨u', a, b⟩ := h3 0 v rfl; simp at a; subst a; exact b
    | [], [], _, h3 => exact .tuple _ _ rfl fun i h => absurd h (by simp)
    | v1 :: v2 :: vs, v1' :: v2' :: vs', h2, h3 =>
      have hne : ¬ ((v1' :: v2' :: vs').toArray.size = 1) := by simp
      rw [dif_neg hne]
      refine .tuple _ _ (by simpa using h2.symm) fun i a b => ?_
      obtain ⟨u', p, q⟩ := h3 i ((v1 :: v2 :: vs).toArray[i]) (by rw [← List.getElem?_toArray]; exact Array.getElem?_eq_getElem a)
      rw [← List.getElem?_toArray, Array.getElem?_eq_getElem b] at p
      rw [Option.some.inj p]; exact q
theorem argFr_get : ∀ (args : List Value) (k t : Nat) (u : Value), (argFr k args).get t = some u → k ≤ t ∧ args[t - k]? = some u
  | [], k, t, u, h => by simp [argFr, Fr.get] at h
  | v :: vs, k, t, u, h => by
    simp only [argFr, Fr.get] at h
    split at h
    · rename_i hk; subst hk; exact ⟨Nat.le_refl _, by simpa using h⟩
    · obtain ⟨h1, h2⟩ := argFr_get vs (k + 1) t u h
      refine ⟨by omega, ?_⟩
      rw [show t - k = (t - (k + 1)) + 1 by omega]
      simpa using h2
theorem Ex.out_rel {ρ : Rho} {id : Nat} {e : Ex} {e' : Exit} (h : ExR ρ e e') {Q : Exit → Act → World → Prop} {a : Act} {w : World} (hQ : ∀ e'', ExR ρ (e.out id) e'' → Q e'' a w) : Exit.inBlock id Q e' a w := by
  cases h with
  | norm => exact hQ _ .norm
  | ret => exact hQ _ .ret
  | ex id' =>
    simp only [Exit.inBlock]
    by_cases hid : id' = id
    · rw [if_pos hid]; exact hQ _ (by simp only [Ex.out, hid, if_true]; exact .norm)
    · rw [if_neg hid]; exact hQ _ (by simp only [Ex.out, hid, if_false]; exact .ex id')
  | pan v v' h => exact hQ _ (.pan v v' h)
theorem wanted_run {ρ : Rho} {fr : Fr} {all : Array Oper} {o : Oper} {b : Bool} {a : Act} (hf : FrR ρ fr a.tmps) (hw : wA all o fr = some b) : Region.wanted o (yielded all a.tmps) = b :=
  wanted_eq hw (frr_reads hf)
end
end Go.Proofs.YtlpcdcpcfeaecaaAb
end
section
namespace Go.Proofs.YtlpcdcpcfeaecaaAb
open Go
section
variable {P : Program} {β : Nat} {Δ : Prims}
theorem Sim.drawn {ρ : Rho} {H : Heap} {w : World} (h : Sim β ρ H w) (d : Nat) : Sim β ρ H { w with drawn := d } := (Ok.same (lo := 0) (n := 0) (w' := { w with drawn := d }) h rfl ⟨rfl, rfl, rfl⟩).sim
theorem dstsOK_mono {a b : Nat} (hab : a ≤ b) : ∀ c, dstsOK a c = true → dstsOK b c = true := by
  intro c
  induction c with
  | region id ops d =>
    simp only [dstsOK, List.all_eq_true]
    intro h o ho
    have := h o ho
    simp only [opDst, Bool.and_eq_true] at this ⊢
    refine ⟨?_, this.2⟩
    cases hd : o.dst with
    | none => rfl
    | some d => have h3 := this.1; rw [hd] at h3; exact decide_eq_true (Nat.lt_of_lt_of_le (of_decide_eq_true h3) hab)
  | seq x y ih1 ih2 => simp only [dstsOK, Bool.and_eq_true]; exact fun h => ⟨ih1 h.1, ih2 h.2⟩
  | cond o x y ih1 ih2 => simp only [dstsOK, Bool.and_eq_true]; exact fun h => ⟨ih1 h.1, ih2 h.2⟩
  | block id c ih => exact ih
  | loop c ih => exact ih
  | _ => intro _; rfl
theorem func_inv {ρ : Rho} {f : Fn} {a b : Array Value} {v : Value} (h : VR ρ (.func f a b) v) : ∃ a' b', v = .func f a' b' := by cases h <;> exact ⟨_, _, rfl⟩
theorem iface_inv {ρ : Rho} {t : TypeId} {u v : Value} (h : VR ρ (.iface t u) v) : ∃ u', v = .iface t u' := by cases h <;> exact ⟨_, rfl⟩
theorem bool_inv {ρ : Rho} {b : Bool} {v : Value} (h : VR ρ (.bool b) v) : v = .bool b := by cases h; rfl
theorem ops_rel {ρ : Rho} {fr : Fr} {a : Act} {o : Oper} {all : Array Oper} (hf : FrR ρ fr a.tmps) (ho : opDst a.tmps.size o = true) : ∀ x ∈ o.op.operands, ∀ u, fr.eval x = some u → VR ρ u (a.eval x) :=
  eval_rel (ops := all) (frr_reads hf) (fun v hv => opDst_gr ho hv)
theorem Exit.then_rel {ρ : Rho} {e : Ex} {e' : Exit} (h : ExR ρ e e') (hne : e ≠ .norm) {K : Act → World → Prop} {Q : Exit → Act → World → Prop} {a : Act} {w : World} (hQ : Q e' a w) : Exit.then K Q e' a w := by
  cases h with
  | norm => exact absurd rfl hne
  | ret => exact hQ
  | ex id => exact hQ
  | pan v v' h => exact hQ
theorem panic_run {o : Oper} {x : Operand} {t : TypeId} {v : Value} {ev : Operand → Value} {w : World} (ho : o.op = .panic x) (hx : ev x = .iface t v) : (execOp ev o).run P w = .halt (.panic (.iface t v)) w := by
  obtain ⟨dst, op, ty, pos, after, guard⟩ := o
  simp only at ho; subst ho
  simp [execOp, hx]
  rfl
theorem cond_eval {ρ : Rho} {fr : Fr} {a : Act} (hf : FrR ρ fr a.tmps) {c : Operand} {t : Bool} (hc : fr.eval c = some (.bool t)) : a.eval c = .bool t := by
  cases c with
  | tmp x => exact bool_inv (hf x _ hc).2
  | const v => simp only [Fr.eval] at hc; exact Option.some.inj hc
  | global g => cases hc
  | func f => cases Option.some.inj hc
theorem mixed_frames {ops : Array Oper} {r : List Nat} {fr : Nat → Fr} {v : Nat → Value} (hfr : ∀ k, k < ops.size → fr (k + 1) = (fr k).put (ops.getD (r.getD k 0) default).dst (v k)) :
    ∀ m, m ≤ ops.size → ∀ t u, (fr m).get t = some u → (∃ k, k < m ∧ (ops.getD (r.getD k 0) default).dst = some t ∧ v k = u) ∨ ((∀ k, k < m → (ops.getD (r.getD k 0) default).dst ≠ some t) ∧ (fr 0).get t = some u) := by
  intro m
  induction m with
  | zero => intro _ t u h; exact .inr ⟨fun k hk => by omega, h⟩
  | succ m ih =>
    intro hm t u h
    rw [hfr m (by omega)] at h
    cases hd : (ops.getD (r.getD m 0) default).dst with
    | none =>
      rw [hd] at h
      rcases ih (by omega) t u h with ⟨k, k1, k2, k3⟩ | ⟨h1, h2⟩
      · exact .inl ⟨k, by omega, k2, k3⟩
      · refine .inr ⟨fun k hk => ?_, h2⟩
        by_cases e : k = m
        · subst e; rw [hd]; simp
        · exact h1 k (by omega)
    | some d =>
      rw [hd] at h
      simp only [Fr.put, Fr.get] at h
      by_cases e : d = t
      · rw [if_pos e] at h
        exact .inl ⟨m, by omega, by rw [hd, e], Option.some.inj h⟩
      · rw [if_neg e] at h
        rcases ih (by omega) t u h with ⟨k, k1, k2, k3⟩ | ⟨h1, h2⟩
        · exact .inl ⟨k, by omega, k2, k3⟩
        · refine .inr ⟨fun k hk => ?_, h2⟩
          by_cases e' : k = m
          · subst e'; rw [hd]; simp [e]
          · exact h1 k (by omega)
theorem D.sound (hm : P.follows .mixedOrders = true) (hΔ : ∀ lo f args n H e n' H', Δ lo f args n H e n' H' → β ≤ lo → lo ≤ n → CallSnd P β lo f args n H e n' H') (hΔa : ∀ lo f args n H e n' H', Δ lo f args n H e n' H' → lo ≤ n → AbsOk lo n H n' H')
    {j : J} (h : D P Δ j) : j.Snd P β := by
  induction h with
  | step h => exact fun h1 h2 ρ a w e1 e2 _ e4 => step_snd h h1 h2 ρ a w e1 e2 e4
  | stepM h => exact fun h1 h2 ρ a w e1 e2 _ e4 => stepM_snd h h1 h2 ρ a w e1 e2 e4
  | callF ho hx ha hfn hname hbody h1 h2 h ih =>
    intro hβ hlo ρ a w hev hs hn hr K Q hK
    have hF := hev _ (by rw [ho]; simp [Op.operands, Call.operands]) _ hx
    obtain ⟨c, c', hF'⟩ := func_inv hF
    rw [hF'] at hF
    obtain ⟨ca1, ca2⟩ := call_args (evc := a.eval) (fun y hy => hev y (by rw [ho]; simp [Op.operands, Call.operands, hy])) ha hF
    unfold Oper.wp
    rw [call_run ho hF' hfn hname hbody w, Oper.upon_enter]
    refine ih (by omega) h2 ρ w _ ca1 ca2 hs hn hr _ fun ρ' e' w' he hok => ?_
    cases he with
    | ret v v' hv => exact hK ρ' v' w' hv (hok.lower h1)
  | nil =>
    intro hβ hlo ρ a w hf hs hn hr hd Q hQ
    exact hQ ρ .normal a w .norm (.refl hs) hf rfl rfl
  | skip hw h ih =>
    intro hβ hlo ρ a w hf hs hn hr hd Q hQ
    unfold wpList
    rw [wanted_run hf hw, if_neg (by simp)]
    have hd0 := hd _ (List.mem_cons_self ..)
    refine ih hβ hlo ρ _ w (hf.put (fun d e => opDst_lt hd0 e) (gr_undef.2 ρ)) hs hn hr (fun o ho => by rw [Act.put_size]; exact hd o (List.mem_cons_of_mem _ ho)) Q fun ρ' e' a' w' h1 h2 h3 h4 h5 => ?_
    exact hQ ρ' e' a' w' h1 h2 h3 (by rw [h4, Act.put_size]) (by rw [h5, Act.put_def])
  | cons hw h1 h ih1 ih =>
    intro hβ hlo ρ a w hf hs hn hr hd Q hQ
    unfold wpList
    rw [wanted_run hf hw, if_pos rfl]
    have hd0 := hd _ (List.mem_cons_self ..)
    have ab1 := (h1.abs hΔa) hlo
    have ab2 := (h.abs hΔa) (Nat.le_trans hlo ab1.1)
    refine .inl (ih1 hβ hlo ρ a w (ops_rel (all := #[]) hf hd0) hs hn (fun i h1 h2 => hr i h1 (by have := ab2.1; omega)) _ Q fun ρ1 v1 w1 hv hok => ?_)
    refine ih hβ (Nat.le_trans hlo ab1.1) ρ1 _ w1 ((hf.mono (hok.rho fun i h1 h2 => hr i h1 (by have := ab2.1; omega))).put (fun d e => opDst_lt hd0 e) hv) hok.sim (ab1.2.2.1 hn)
      (fun i h1 h2 => by rw [hok.far i h1]; exact hr i (by have := ab1.1; omega) h2) (fun o ho => by rw [Act.put_size]; exact hd o (List.mem_cons_of_mem _ ho)) Q fun ρ' e' a' w' h1 h2 h3 h4 h5 => ?_
    exact hQ ρ' e' a' w' h1 (hok.trans hlo h2) h3 (by rw [h4, Act.put_size]) (by rw [h5, Act.put_def])
  | pan hw ho hx =>
    intro hβ hlo ρ a w hf hs hn hr hd Q hQ
    unfold wpList
    rw [wanted_run hf hw, if_pos rfl]
    have hd0 := hd _ (List.mem_cons_self ..)
    have hv := ops_rel (all := #[]) hf hd0 _ (by rw [ho]; simp [Op.operands]) _ hx
    obtain ⟨u', hv'⟩ := iface_inv hv
    rw [hv'] at hv
    refine .inl ?_
    unfold Oper.wp
    rw [panic_run ho hv', Oper.upon_panic]
    exact hQ ρ _ a w (.pan _ _ hv) (.refl hs) hf rfl rfl
  | panCall hw ho hx ha hfn hname hbody h1 h2 h ih =>
    intro hβ hlo ρ a w hf hs hn hr hd Q hQ
    unfold wpList
    rw [wanted_run hf hw, if_pos rfl]
    have hd0 := hd _ (List.mem_cons_self ..)
    have hev := ops_rel (all := #[]) hf hd0
    have hF := hev _ (by rw [ho]; simp [Op.operands, Call.operands]) _ hx
    obtain ⟨c, c', hF'⟩ := func_inv hF
    rw [hF'] at hF
    obtain ⟨ca1, ca2⟩ := call_args (evc := a.eval) (fun y hy => hev y (by rw [ho]; simp [Op.operands, Call.operands, hy])) ha hF
    refine .inl ?_
    unfold Oper.wp
    rw [call_run ho hF' hfn hname hbody w, Oper.upon_enter]
    refine ih (by omega) h2 ρ w _ ca1 ca2 hs hn hr _ fun ρ' e' w' he hok => ?_
    cases he with
    | pan _ v' hv => exact hQ ρ' _ a w' (.pan _ v' hv) (hok.lower h1) (hf.mono (hok.rho hr)) rfl rfl
  | cskip =>
    intro hβ hlo ρ a w hf hs hn hr hd Q hQ
    exact wp_skip (hQ ρ .normal a w .norm (.refl hs) hf rfl rfl)
  | ret =>
    intro hβ hlo ρ a w hf hs hn hr hd Q hQ
    exact wp_ret (hQ ρ .ret a w .ret (.refl hs) hf rfl rfl)
  | exit =>
    intro hβ hlo ρ a w hf hs hn hr hd Q hQ
    exact wp_exit (hQ ρ _ a w (.ex _) (.refl hs) hf rfl rfl)
  | seqN h1 h2 i1 i2 =>
    intro hβ hlo ρ a w hf hs hn hr hd Q hQ
    simp only [dstsOK, Bool.and_eq_true] at hd
    have ab1 := (h1.abs hΔa) hlo
    have ab2 := (h2.abs hΔa) (Nat.le_trans hlo ab1.1)
    have hr1 : ∀ i, _ ≤ i → i < _ → ρ i = none := fun i h1 h2 => hr i h1 (Nat.lt_of_lt_of_le h2 ab2.1)
    refine wp_seq (Wq.wp (i1 hβ hlo ρ a w hf hs hn hr1 hd.1 _ fun ρ1 e1 a1 w1 he hok hf1 hsz hdf => ?_))
    cases he
    refine Wq.wp (i2 hβ (Nat.le_trans hlo ab1.1) ρ1 a1 w1 hf1 hok.sim (ab1.2.2.1 hn) (fun i h1 h2 => by rw [hok.far i h1]; exact hr i (by have := ab1.1; omega) h2) (by rw [hsz]; exact hd.2) Q fun ρ' e' a' w' h1 h2 h3 h4 h5 => ?_)
    exact hQ ρ' e' a' w' h1 (hok.trans hlo h2) h3 (by rw [h4, hsz]) (by rw [h5, hdf])
  | seqE h1 he ih =>
    intro hβ hlo ρ a w hf hs hn hr hd Q hQ
    simp only [dstsOK, Bool.and_eq_true] at hd
    exact wp_seq (Wq.wp (ih hβ hlo ρ a w hf hs hn hr hd.1 _ fun ρ1 e1 a1 w1 he1 hok hf1 hsz hdf => Exit.then_rel he1 he (hQ ρ1 e1 a1 w1 he1 hok hf1 hsz hdf)))
  | cond hc h ih =>
    intro hβ hlo ρ a w hf hs hn hr hd Q hQ
    simp only [dstsOK, Bool.and_eq_true] at hd
    have hc' := cond_eval hf hc
    refine wp_cond hc' (Wq.wp (ih hβ hlo ρ a w hf hs hn hr (by split; exact hd.1; exact hd.2) Q hQ))
  | block h ih =>
    intro hβ hlo ρ a w hf hs hn hr hd Q hQ
    exact wp_block (Wq.wp (ih hβ hlo ρ a w hf hs hn hr hd _ fun ρ1 e1 a1 w1 he hok hf1 hsz hdf => Ex.out_rel he fun e'' he'' => hQ ρ1 e'' a1 w1 he'' hok hf1 hsz hdf))
  | loopN h1 h2 i1 i2 =>
    intro hβ hlo ρ a w hf hs hn hr hd Q hQ
    simp only [dstsOK] at hd
    have ab1 := (h1.abs hΔa) hlo
    have ab2 := (h2.abs hΔa) (Nat.le_trans hlo ab1.1)
    have hr1 : ∀ i, _ ≤ i → i < _ → ρ i = none := fun i h1 h2 => hr i h1 (Nat.lt_of_lt_of_le h2 ab2.1)
    refine loopWp_round (Wq.wp (i1 hβ hlo ρ a w hf hs hn hr1 hd _ fun ρ1 e1 a1 w1 he hok hf1 hsz hdf => ?_))
    cases he
    refine i2 hβ (Nat.le_trans hlo ab1.1) ρ1 a1 w1 hf1 hok.sim (ab1.2.2.1 hn) (fun i h1 h2 => by rw [hok.far i h1]; exact hr i (by have := ab1.1; omega) h2) (by rw [hsz]; exact hd) Q fun ρ' e' a' w' h1 h2 h3 h4 h5 => ?_
    exact hQ ρ' e' a' w' h1 (hok.trans hlo h2) h3 (by rw [h4, hsz]) (by rw [h5, hdf])
  | loopE h1 he ih =>
    intro hβ hlo ρ a w hf hs hn hr hd Q hQ
    simp only [dstsOK] at hd
    exact loopWp_round (Wq.wp (ih hβ hlo ρ a w hf hs hn hr hd _ fun ρ1 e1 a1 w1 he1 hok hf1 hsz hdf => Exit.then_rel he1 he (hQ ρ1 e1 a1 w1 he1 hok hf1 hsz hdf)))
  | region h ih =>
    intro hβ hlo ρ a w hf hs hn hr hd Q hQ
    simp only [dstsOK, List.all_eq_true] at hd
    exact wp_region_list (ih hβ hlo ρ a w hf hs hn hr hd Q hQ)
  | @regionD lo id ops r isW wk fr n H v hchk hw hfr hskip hrun hlate ih =>
    intro hβ hlo ρ a w hf hs hn hr hd Q hQ
    simp only [dstsOK, List.all_eq_true] at hd
    have hF := regFacts hchk
    have hdst : ∀ k, k < ops.size → opDst a.tmps.size (ops.getD (r.getD k 0) default) = true := fun k hk => by
      have h1 := hF.into k hk
      refine hd _ ?_
      rw [Array.getD_eq_getD_getElem?, Array.getElem?_eq_getElem h1]
      exact Array.getElem_mem_toList _
    have hmono : ∀ k, k ≤ ops.size → n 0 ≤ n k ∧ lo ≤ n k := by
      intro k
      induction k with
      | zero => intro _; exact ⟨Nat.le_refl _, hlo⟩
      | succ k ihk =>
        intro hk
        obtain ⟨h1, h2⟩ := ihk (by omega)
        have : n k ≤ n (k + 1) := by
          cases hwk : wk k with
          | false => rw [(hskip k (by omega) hwk).2.1]; exact Nat.le_refl _
          | true =>
            have := (hrun k (by omega) hwk).abs hΔa
            simp only [J.abs] at this
            exact (this (by cases isW k <;> simp <;> omega)).1
        omega
    have g : Reg P β lo ops r isW wk fr n H v := by
      refine ⟨hF, hw, hfr, hskip, fun k hk hwk => ?_, fun k c h1 h2 h3 h4 h5 h6 => ?_, fun k hk => ?_, hlo, hn⟩
      · have := hmono k (by omega)
        exact ih k hk hwk (by cases isW k <;> simp <;> omega) (by cases isW k <;> simp <;> omega)
      · have := hmono k (by omega)
        rcases hlate k c h1 h2 h3 h4 h5 h6 with h | h
        · exact step_snd h (by omega) (Nat.le_refl _)
        · exact stepM_snd h (by omega) (Nat.le_refl _)
      · cases hwk : wk k with
        | false => obtain ⟨_, e1, e2⟩ := hskip k hk hwk; rw [e1, e2]; exact .refl _ _ _
        | true =>
          have := hmono k (by omega)
          exact (hrun k hk hwk).abs hΔa (by cases isW k <;> simp <;> omega)
    refine wp_region_any hm ?_
    obtain ⟨c, c1, c2, c3, c4⟩ := next_writer isW ops.size _ 0 rfl (by omega)
    have hun : ∀ k, (Array.replicate ops.size false).getD k false = false := fun k => by
      rw [Array.getD_eq_getD_getElem?, Array.getElem?_replicate]; split <;> rfl
    have I0 : Inv β lo ops r isW fr n H v ρ a { w with drawn := w.drawn + 1 } (Array.replicate ops.size false) a { w with drawn := w.drawn + 1 } ρ c := by
      refine ⟨by simp, fun j o ho hl => (by rw [hun] at hl; cases hl), c2, c3, fun _ => hun _, fun k hk hwk => (by rw [c4 k (by omega) hk] at hwk; cases hwk), fun k hk hl => (by rw [hun] at hl; cases hl),
        fun k hk hl => (by rw [hun] at hl; cases hl), fun t u _ hu => hf t u hu, fun i s h1 h2 h3 => (by rw [hr i h1 h2] at h3; cases h3), fun _ _ => rfl, ?_, fun _ _ _ => rfl, fun _ _ => rfl,
        fun i s h1 h2 h3 => (by rw [hr i h1 h2] at h3; cases h3), Nat.le_refl _, rfl, rfl, .refl _⟩
      refine (hs.drawn _).of_same fun i s o hr' ho' => ?_
      have hi : i < n 0 := by
        rcases Nat.lt_or_ge i (n 0) with h | h
        · exact h
        · exfalso
          rcases Nat.lt_or_ge i (n ops.size) with h' | h'
          · rw [hr i h h'] at hr'; cases hr'
          · have := g.mono c ops.size c2 (Nat.le_refl _)
            rw [g.hb c c2 i (by omega)] at ho'; cases ho'
      rw [← g.quiet 0 c c1 c2 c4 i hi]; exact ho'
    refine g.wpAny hdst (fun listed a' w' ρ' I hall => ?_) _ _ _ _ _ c I0 (by
      unfold unl
      rw [List.filter_eq_self.2 (fun k _ => by rw [hun]; rfl), List.length_range])
    have hle : ρ.le ρ' := fun i s h => by
      rcases Nat.lt_or_ge i (n 0) with h1 | h1
      · rw [I.old i h1]; exact h
      · rcases Nat.lt_or_ge i (n ops.size) with h2 | h2
        · rw [hr i h1 h2] at h; cases h
        · rw [I.far i h2]; exact h
    have habs := (g.abs ops.size (Nat.le_refl _)).1
    refine hQ ρ' .normal a' w' .norm ⟨I.sim, habs.1, I.old, I.far, habs.2.1, I.size, I.keep, I.fresh, habs.2.2.2, I.out⟩ (fun t u hu => ?_) I.tsize I.defers
    rcases mixed_frames hfr ops.size (Nat.le_refl _) t u hu with ⟨k, k1, k2, k3⟩ | ⟨h1, h2⟩
    · rw [← k3]; exact I.s1 k k1 (hall k k1) t k2
    · obtain ⟨h3, h4⟩ := I.s2 t u (fun k hk _ => h1 k hk) h2
      exact ⟨h3, h4⟩
  | weak hle h ih =>
    intro hβ hlo ρ a w hf hs hn hr hd Q hQ
    exact ih hβ hlo ρ a w (fun t u hu => hf t u (hle t u hu)) hs hn hr hd Q hQ
  | drop h hle ih =>
    intro hβ hlo ρ a w hf hs hn hr hd Q hQ
    exact ih hβ hlo ρ a w hf hs hn hr hd Q fun ρ' e' a' w' h1 h2 h3 h4 h5 => hQ ρ' e' a' w' h1 h2 (fun t u hu => h3 t u (hle t u hu)) h4 h5
  | weakL hle h ih =>
    intro hβ hlo ρ a w hf hs hn hr hd Q hQ
    exact ih hβ hlo ρ a w (fun t u hu => hf t u (hle t u hu)) hs hn hr hd Q hQ
  | @body lo f args n n' H H' fn c e fr' vs hfn hb hd h he hres ih =>
    intro hβ hlo ρ w cargs hsz hargs hs hn hr R hR
    refine calls_of_wp hfn hb (Wq.wp (ih hβ hlo ρ _ w (fun t u hu => ?_) hs hn hr ?_ _ fun ρ1 e1 a1 w1 he1 hok hf1 hsz1 hdf => ?_))
    · obtain ⟨_, h2⟩ := argFr_get args 0 t u hu
      obtain ⟨u', h3, h4⟩ := hargs _ u h2
      have ht := (Array.getElem?_eq_some_iff.1 h3).1
      refine ⟨by simp; omega, ?_⟩
      have : (cargs ++ Array.replicate (fn.ntmps - cargs.size) undef)[t]? = some u' := by rw [Array.getElem?_append, if_pos (by simpa using ht)]; simpa using h3
      rw [Array.getD_eq_getD_getElem?, this]; exact h4
    · refine dstsOK_mono ?_ _ hd
      simp; omega
    · obtain ⟨v', r1, r2⟩ := results_run (P := P) hok.sim hf1 hres
      rcases he with rfl | rfl
      · cases he1; exact ⟨hdf, v', r1, hR ρ1 _ w1 (.ret _ _ r2) hok⟩
      · cases he1; exact ⟨hdf, v', r1, hR ρ1 _ w1 (.ret _ _ r2) hok⟩
  | @bodyPan lo f args n n' H H' fn c v fr' hfn hb hd h ih =>
    intro hβ hlo ρ w cargs hsz hargs hs hn hr R hR
    refine calls_of_wp hfn hb (Wq.wp (ih hβ hlo ρ _ w (fun t u hu => ?_) hs hn hr ?_ _ fun ρ1 e1 a1 w1 he1 hok hf1 hsz1 hdf => ?_))
    · obtain ⟨_, h2⟩ := argFr_get args 0 t u hu
      obtain ⟨u', h3, h4⟩ := hargs _ u h2
      have ht := (Array.getElem?_eq_some_iff.1 h3).1
      refine ⟨by simp; omega, ?_⟩
      have : (cargs ++ Array.replicate (fn.ntmps - cargs.size) undef)[t]? = some u' := by rw [Array.getElem?_append, if_pos (by simpa using ht)]; simpa using h3
      rw [Array.getD_eq_getD_getElem?, this]; exact h4
    · refine dstsOK_mono ?_ _ hd
      simp; omega
    · cases he1 with
      | pan v v' hv => exact ⟨hdf, hR ρ1 _ w1 (.pan _ _ hv) hok⟩
  | prim h => exact fun h1 h2 => hΔ _ _ _ _ _ _ _ _ h h1 h2
end
end Go.Proofs.YtlpcdcpcfeaecaaAb
end
section
namespace Go.Proofs.YtlpcdcpcfeaecaaAb
open Go
abbrev Post := Ex → Fr → Nat → Heap → Prop
structure W (P : Program) (Δ : Prims) (lo : Nat) (c : Code) (fr : Fr) (n : Nat) (H : Heap) (Q : Post) : Prop where
  out : ∃ e fr' n' H', D P Δ (.code lo c fr n H e fr' n' H') ∧ Q e fr' n' H'
inductive IsFl : List Bool → Nat → Nat → Nat → List Bool → Prop
  | nil {lo n : Nat} : IsFl [] lo n lo []
  | w {lo n : Nat} {fl : List Bool} : IsFl (true :: fl) lo n lo fl
  | r {lo n : Nat} {fl : List Bool} : IsFl (false :: fl) lo n n fl
def Fr.same (a b : Fr) : Prop := ∀ t, Fr.get a t = Fr.get b t
theorem Fr.same_known {fr : Fr} {t : Nat} {v : Value} (h : fr.get t = some v) : Fr.same ((t, v) :: fr) fr := by
  intro t'
  simp only [Fr.get]
  split
  · rename_i e; subst e; exact h.symm
  · rfl
theorem Fr.same_refl (a : Fr) : Fr.same a a := fun _ => rfl
theorem Fr.same_put {a b : Fr} (h : Fr.same a b) (d : Option Tmp) (v : Value) : Fr.same (a.put d v) (b.put d v) := by
  intro t
  cases d with
  | none => exact h t
  | some d => simp only [Fr.put, Fr.get]; split; rfl; exact h t
theorem Fr.same_eval {a b : Fr} (h : Fr.same a b) : a.eval = b.eval := by
  funext x
  cases x <;> first | exact h _ | rfl
theorem Fr.same_wanted {a b : Fr} (h : Fr.same a b) (ops : Array Oper) (o : Oper) : wA ops o a = wA ops o b := by
  unfold wA
  cases o.guard with
  | none => rfl
  | some p =>
    obtain ⟨j, want⟩ := p
    simp only
    cases (ops[j]?).bind (·.dst) with
    | none => rfl
    | some t => simp only [h t]
inductive TR (P : Program) (Δ : Prims) (lo : Nat) (all : Array Oper) : List Bool → List Oper → Fr → Nat → Heap → Ex → Fr → Nat → Heap → Prop
  | nil {fl : List Bool} {fr : Fr} {n : Nat} {H : Heap} : TR P Δ lo all fl [] fr n H .norm fr n H
  | skip {fl fl2 : List Bool} {lw : Nat} {o : Oper} {l : List Oper} {fr fr' : Fr} {n n' : Nat} {H H' : Heap} {e : Ex} (hfl : IsFl fl lo n lw fl2) (hw : wA all o fr = some false) (h : TR P Δ lo all fl2 l (fr.put o.dst undef) n H e fr' n' H') : TR P Δ lo all fl (o :: l) fr n H e fr' n' H'
  | cons {fl fl2 : List Bool} {lw : Nat} {o : Oper} {l : List Oper} {fr fr' : Fr} {n n1 n' : Nat} {H H1 H' : Heap} {v : Value} {e : Ex} (hfl : IsFl fl lo n lw fl2) (hw : wA all o fr = some true) (h1 : D P Δ (.op lw o fr n H v n1 H1)) (h : TR P Δ lo all fl2 l (fr.put o.dst v) n1 H1 e fr' n' H') : TR P Δ lo all fl (o :: l) fr n H e fr' n' H'
  | eqv {fl : List Bool} {l : List Oper} {fr fr2 fr' : Fr} {n n' : Nat} {H H' : Heap} {e : Ex} (hs : Fr.same fr2 fr) (h : TR P Δ lo all fl l fr2 n H e fr' n' H') : TR P Δ lo all fl l fr n H e fr' n' H'
  | ops {l : List Oper} {fr fr' : Fr} {n n' : Nat} {H H' : Heap} {e : Ex} (hne : l ≠ []) (h : D P Δ (.ops lo all l fr n H e fr' n' H')) : TR P Δ lo all [] l fr n H e fr' n' H'
theorem TR.toD {P : Program} {Δ : Prims} {lo : Nat} {all : Array Oper} {fl : List Bool} {l : List Oper} {fr fr' : Fr} {n n' : Nat} {H H' : Heap} {e : Ex} (h : TR P Δ lo all fl l fr n H e fr' n' H') : fl = [] → D P Δ (.ops lo all l fr n H e fr' n' H') := by
  induction h with
  | nil => exact fun _ => .nil
  | skip hfl hw h ih => intro hf; subst hf; cases hfl; exact .skip hw (ih rfl)
  | cons hfl hw h1 h ih => intro hf; subst hf; cases hfl; exact .cons hw h1 (ih rfl)
  | eqv hs h ih => exact fun hf => .weakL (fun t v h' => by rw [← hs t]; exact h') (ih hf)
  | ops hne h => exact fun _ => h
structure WL (P : Program) (Δ : Prims) (lo : Nat) (fl : List Bool) (all : Array Oper) (l : List Oper) (fr : Fr) (n : Nat) (H : Heap) (Q : Post) : Prop where
  out : ∃ e fr' n' H', TR P Δ lo all fl l fr n H e fr' n' H' ∧ Q e fr' n' H'
structure C (P : Program) (Δ : Prims) (lo : Nat) (f : FuncId) (args : List Value) (n : Nat) (H : Heap) (R : Value → Nat → Heap → Prop) : Prop where
  out : ∃ v n' H', D P Δ (.call lo f args n H (.ret v) n' H') ∧ R v n' H'
structure Good (P : Program) (Δ : Prims) : Prop where
  abs : ∀ lo f args n H e n' H', Δ lo f args n H e n' H' → lo ≤ n → AbsOk lo n H n' H'
section
variable {P : Program} {Δ : Prims} {lo : Nat} {fr : Fr} {n : Nat} {H : Heap} {Q : Post}
theorem Fr.le_nil {fr : Fr} : Fr.le [] fr := fun t v h => by simp [Fr.get] at h
theorem Fr.le_cons {fr fr2 : Fr} {t : Nat} {v : Value} (h : fr.get t = some v) (h2 : Fr.le fr2 fr) : Fr.le ((t, v) :: fr2) fr := by
  intro t' v' h'
  simp only [Fr.get] at h'
  split at h'
  · rename_i e; subst e; rw [← h']; exact h
  · exact h2 t' v' h'
theorem Fr.le_refl (fr : Fr) : Fr.le fr fr := fun _ _ h => h
theorem C.mono {f : FuncId} {args : List Value} {R R' : Value → Nat → Heap → Prop} (h : C P Δ lo f args n H R) (hR : ∀ v n' H', R v n' H' → R' v n' H') : C P Δ lo f args n H R' :=
  let ⟨v, n', H', d, r⟩ := h; ⟨v, n', H', d, hR _ _ _ r⟩
theorem C.use (g : Good P Δ) {f : FuncId} {args : List Value} {R R' : Value → Nat → Heap → Prop} (hlo : lo ≤ n) (h : C P Δ lo f args n H R) (hR : ∀ v n' H', AbsOk lo n H n' H' → R v n' H' → R' v n' H') : C P Δ lo f args n H R' :=
  let ⟨v, n', H', d, r⟩ := h; ⟨v, n', H', d, hR _ _ _ (d.abs g.abs hlo) r⟩
theorem W.mono {c : Code} {Q' : Post} (h : W P Δ lo c fr n H Q') (hq : ∀ e fr' n' H', Q' e fr' n' H' → Q e fr' n' H') : W P Δ lo c fr n H Q :=
  let ⟨e, fr', n', H', d, q⟩ := h; ⟨e, fr', n', H', d, hq _ _ _ _ q⟩
theorem W.weak {c : Code} {fr2 : Fr} (hle : Fr.le fr2 fr) (h : W P Δ lo c fr2 n H Q) : W P Δ lo c fr n H Q :=
  let ⟨e, fr', n', H', d, q⟩ := h; ⟨e, fr', n', H', .weak hle d, q⟩
theorem WL.weak {all : Array Oper} {o : Oper} {l : List Oper} {fr2 : Fr} (hle : Fr.le fr2 fr) (h : WL P Δ lo [] all (o :: l) fr2 n H Q) : WL P Δ lo [] all (o :: l) fr n H Q :=
  let ⟨e, fr', n', H', d, q⟩ := h; ⟨e, fr', n', H', .ops (by simp) (.weakL hle (d.toD rfl)), q⟩
theorem WL.same {fl : List Bool} {all : Array Oper} {l : List Oper} {fr2 : Fr} (hle : Fr.same fr2 fr) (h : WL P Δ lo fl all l fr2 n H Q) : WL P Δ lo fl all l fr n H Q :=
  let ⟨e, fr', n', H', d, q⟩ := h; ⟨e, fr', n', H', .eqv hle d, q⟩
theorem W.skip (h : Q .norm fr n H) : W P Δ lo .skip fr n H Q := ⟨_, _, _, _, .cskip, h⟩
theorem W.ret (h : Q .ret fr n H) : W P Δ lo .ret fr n H Q := ⟨_, _, _, _, .ret, h⟩
theorem W.exit {id : Nat} (h : Q (.ex id) fr n H) : W P Δ lo (.exit id) fr n H Q := ⟨_, _, _, _, .exit, h⟩
def Ex.thn (K : Fr → Nat → Heap → Prop) (Q : Post) : Post := fun e fr n H => match e with | .norm => K fr n H | e => Q e fr n H
theorem W.seq {a b : Code} (h : W P Δ lo a fr n H (Ex.thn (fun fr1 n1 H1 => W P Δ lo b fr1 n1 H1 Q) Q)) : W P Δ lo (.seq a b) fr n H Q := by
  obtain ⟨e, fr1, n1, H1, d, q⟩ := h
  cases e with
  | norm => obtain ⟨e2, fr2, n2, H2, d2, q2⟩ := q; exact ⟨e2, fr2, n2, H2, .seqN d d2, q2⟩
  | ret => exact ⟨_, _, _, _, .seqE d (by intro h; cases h), q⟩
  | ex id => exact ⟨_, _, _, _, .seqE d (by intro h; cases h), q⟩
  | pan v => exact ⟨_, _, _, _, .seqE d (by intro h; cases h), q⟩
theorem W.cond {c : Operand} {a b : Code} {t : Bool} (hc : fr.eval c = some (.bool t)) (ha : t = true → W P Δ lo a fr n H Q) (hb : t = false → W P Δ lo b fr n H Q) : W P Δ lo (.cond c a b) fr n H Q := by
  cases t with
  | true => obtain ⟨e, fr1, n1, H1, d, q⟩ := ha rfl; exact ⟨e, fr1, n1, H1, .cond hc d, q⟩
  | false => obtain ⟨e, fr1, n1, H1, d, q⟩ := hb rfl; exact ⟨e, fr1, n1, H1, .cond hc d, q⟩
def Ex.blk (id : Nat) (Q : Post) : Post := fun e fr n H => Q (e.out id) fr n H
theorem W.block {id : Nat} {c : Code} (h : W P Δ lo c fr n H (Ex.blk id Q)) : W P Δ lo (.block id c) fr n H Q :=
  let ⟨e, fr', n', H', d, q⟩ := h; ⟨_, fr', n', H', .block d, q⟩
theorem W.loop {c : Code} (h : W P Δ lo c fr n H (Ex.thn (fun fr1 n1 H1 => W P Δ lo (.loop c) fr1 n1 H1 Q) Q)) : W P Δ lo (.loop c) fr n H Q := by
  obtain ⟨e, fr1, n1, H1, d, q⟩ := h
  cases e with
  | norm => obtain ⟨e2, fr2, n2, H2, d2, q2⟩ := q; exact ⟨e2, fr2, n2, H2, .loopN d d2, q2⟩
  | ret => exact ⟨_, _, _, _, .loopE d (by intro h; cases h), q⟩
  | ex id => exact ⟨_, _, _, _, .loopE d (by intro h; cases h), q⟩
  | pan v => exact ⟨_, _, _, _, .loopE d (by intro h; cases h), q⟩
theorem W.region {id : Nat} {l : List Oper} (h : WL P Δ lo [] l.toArray l fr n H Q) : W P Δ lo (.region id l.toArray false) fr n H Q :=
  let ⟨e, fr', n', H', d, q⟩ := h; ⟨e, fr', n', H', .region (by simpa using d.toD rfl), q⟩
theorem W.drop {c : Code} {Q' : Post} (h : W P Δ lo c fr n H Q') (hq : ∀ e fr' n' H', Q' e fr' n' H' → ∃ fr2, Fr.le fr2 fr' ∧ Q e fr2 n' H') : W P Δ lo c fr n H Q :=
  let ⟨e, fr', n', H', d, q⟩ := h; let ⟨fr2, hle, q2⟩ := hq _ _ _ _ q; ⟨e, fr2, n', H', .drop d hle, q2⟩
theorem C.body {f : FuncId} {args : List Value} {fn : Func} {c : Code} {R : Value → Nat → Heap → Prop} (hfn : P.funcs[f]? = some fn) (hb : fn.body = some c) (hd : dstsOK fn.ntmps c = true)
    (h : W P Δ lo c (argFr 0 args) n H (fun e fr' n' H' => (e = .norm ∨ e = .ret) ∧ ∃ vs, ResL P H' fr' fn.results.toList vs ∧ R (retV vs) n' H')) : C P Δ lo f args n H R :=
  let ⟨e, fr', n', H', d, he, vs, hr, q⟩ := h; ⟨_, n', H', .body hfn hb hd d he hr, q⟩
section ops
variable {all : Array Oper} {l : List Oper} {o : Oper} {d : Nat}
theorem WL.nil {fl : List Bool} (h : Q .norm fr n H) : WL P Δ lo fl all [] fr n H Q := ⟨_, _, _, _, .nil, h⟩
theorem WL.skip {fl fl2 : List Bool} {lw : Nat} (hfl : IsFl fl lo n lw fl2) (hd : o.dst = some d) (hw : wA all o fr = some false) (k : WL P Δ lo fl2 all l ((d, undef) :: fr) n H Q) : WL P Δ lo fl all (o :: l) fr n H Q := by
  obtain ⟨e, fr', n', H', dd, q⟩ := k
  refine ⟨e, fr', n', H', .skip hfl hw ?_, q⟩
  rw [hd]; exact dd
theorem WL.split {fl : List Bool} {j : Nat} {b want : Bool} {t : Nat} (hg : o.guard = some (j, want)) (hj : (all[j]?).bind (·.dst) = some t) (hv : fr.get t = some (.bool b))
    (h1 : b = want → ∀ _ : wA all o fr = some true, WL P Δ lo fl all (o :: l) fr n H Q) (h0 : b = (!want) → ∀ _ : wA all o fr = some false, WL P Δ lo fl all (o :: l) fr n H Q) : WL P Δ lo fl all (o :: l) fr n H Q := by
  have hw : wA all o fr = some (b == want) := by simp only [wA, hg, hj, hv]
  cases b <;> cases want
  · exact h1 rfl hw
  · exact h0 rfl hw
  · exact h0 rfl hw
  · exact h1 rfl hw
theorem WL.guard {fl : List Bool} {j : Nat} {b want : Bool} {t : Nat} (hg : o.guard = some (j, want)) (hj : (all[j]?).bind (·.dst) = some t) (hv : fr.get t = some (.bool b))
    (h1 : b = true → WL P Δ lo fl all (o :: l) ((t, .bool true) :: fr) n H Q) (h0 : b = false → WL P Δ lo fl all (o :: l) ((t, .bool false) :: fr) n H Q) : WL P Δ lo fl all (o :: l) fr n H Q := by
  cases b with
  | true => exact WL.same (Fr.same_known hv) (h1 rfl)
  | false => exact WL.same (Fr.same_known hv) (h0 rfl)
theorem Ex.thn_norm {K : Fr → Nat → Heap → Prop} (h : K fr n H) : Ex.thn K Q .norm fr n H := h
theorem Ex.thn_ex {K : Fr → Nat → Heap → Prop} {id : Nat} (h : Q (.ex id) fr n H) : Ex.thn K Q (.ex id) fr n H := h
theorem Ex.blk_norm {id : Nat} (h : Q .norm fr n H) : Ex.blk id Q .norm fr n H := h
theorem Ex.blk_here {id : Nat} (h : Q .norm fr n H) : Ex.blk id Q (.ex id) fr n H := by simp only [Ex.blk, Ex.out, if_true]; exact h
theorem WL.step {fl fl2 : List Bool} {lw : Nat} (hfl : IsFl fl lo n lw fl2) {v : Value} {n1 : Nat} {H1 : Heap} (h : D P Δ (.op lw o fr n H v n1 H1)) (hd : o.dst = some d) (hw : wA all o fr = some true) (k : WL P Δ lo fl2 all l ((d, v) :: fr) n1 H1 Q) : WL P Δ lo fl all (o :: l) fr n H Q := by
  obtain ⟨e, fr', n', H', dd, q⟩ := k
  refine ⟨e, fr', n', H', .cons hfl hw h ?_, q⟩
  rw [hd]; exact dd
theorem WL.step0 {fl fl2 : List Bool} {lw : Nat} (hfl : IsFl fl lo n lw fl2) {v : Value} {n1 : Nat} {H1 : Heap} (h : D P Δ (.op lw o fr n H v n1 H1)) (hd : o.dst = none) (hw : wA all o fr = some true) (k : WL P Δ lo fl2 all l fr n1 H1 Q) : WL P Δ lo fl all (o :: l) fr n H Q := by
  obtain ⟨e, fr', n', H', dd, q⟩ := k
  refine ⟨e, fr', n', H', .cons hfl hw h ?_, q⟩
  rw [hd]; exact dd
theorem WL.move {fl fl2 : List Bool} {lw : Nat} (hfl : IsFl fl lo n lw fl2) {x : Operand} {v : Value} (ho : o.op = .move x) (hd : o.dst = some d) (hw : wA all o fr = some true) (hx : fr.eval x = some v) (k : WL P Δ lo fl2 all l ((d, v) :: fr) n H Q) : WL P Δ lo fl all (o :: l) fr n H Q :=
  WL.step hfl (.step (.move (.inl ho) hx)) hd hw k
theorem WL.assign {fl fl2 : List Bool} {lw : Nat} (hfl : IsFl fl lo n lw fl2) {x : Operand} {v : Value} (ho : o.op = .assign x) (hd : o.dst = some d) (hw : wA all o fr = some true) (hx : fr.eval x = some v) (k : WL P Δ lo fl2 all l ((d, v) :: fr) n H Q) : WL P Δ lo fl all (o :: l) fr n H Q :=
  WL.step hfl (.step (.move (.inr ho) hx)) hd hw k
theorem WL.pick {fl fl2 : List Bool} {lw : Nat} (hfl : IsFl fl lo n lw fl2) {c a b : Operand} {t : Bool} {v : Value} (ho : o.op = .pick c a b) (hd : o.dst = some d) (hw : wA all o fr = some true) (hc : fr.eval c = some (.bool t)) (hv : fr.eval (if t then a else b) = some v) (k : WL P Δ lo fl2 all l ((d, v) :: fr) n H Q) : WL P Δ lo fl all (o :: l) fr n H Q :=
  WL.step hfl (.step (.pick ho hc hv)) hd hw k
def binI (op : BinOp) (k : IntKind) (a : Int) (k' : IntKind) (b : Int) : Option Value :=
  match op with
  | .shl => if b < 0 then none else some (.int k (k.wrap (a * 2 ^ (min b.toNat k.bits))))
  | .shr => if b < 0 then none else some (.int k (a.fdiv (2 ^ (min b.toNat k.bits))))
  | .add => if k = k' then some (.int k (k.wrap (a + b))) else none
  | .sub => if k = k' then some (.int k (k.wrap (a - b))) else none
  | .mul => if k = k' then some (.int k (k.wrap (a * b))) else none
  | .quo => if k = k' then if b = 0 then none else some (.int k (k.wrap (a.tdiv b))) else none
  | .rem => if k = k' then if b = 0 then none else some (.int k (a.tmod b)) else none
  | .and => if k = k' then some (.int k (k.wrap (BitVec.ofInt k.bits a &&& BitVec.ofInt k.bits b).toNat)) else none
  | .or => if k = k' then some (.int k (k.wrap (BitVec.ofInt k.bits a ||| BitVec.ofInt k.bits b).toNat)) else none
  | .xor => if k = k' then some (.int k (k.wrap (BitVec.ofInt k.bits a ^^^ BitVec.ofInt k.bits b).toNat)) else none
  | .andNot => if k = k' then some (.int k (k.wrap (BitVec.ofInt k.bits a &&& ~~~ BitVec.ofInt k.bits b).toNat)) else none
  | .eql => if k = k' then some (.bool (decide (a = b))) else none
  | .neq => if k = k' then some (.bool (!decide (a = b))) else none
  | .lss => if k = k' then some (.bool (decide (a < b))) else none
  | .leq => if k = k' then some (.bool (decide (a ≤ b))) else none
  | .gtr => if k = k' then some (.bool (decide (b < a))) else none
  | .geq => if k = k' then some (.bool (decide (b ≤ a))) else none
theorem gr_binI {op : BinOp} {k k' : IntKind} {a b : Int} {v : Value} (h : binI op k a k' b = some v) : Gr v := by
  cases op <;> simp only [binI] at h <;> repeat' split at h
  all_goals first | (cases h; done) | (obtain rfl := Option.some.inj h; first | exact gr_int _ _ | exact gr_bool _)
theorem binI_run {op : BinOp} {t t' : TypeId} {k k' : IntKind} {a b : Int} {v : Value} (h : binI op k a k' b = some v) {o : Oper} {x y : Operand} (ho : o.op = .binOp op t x y t') {ev : Operand → Value} (hx : ev x = .int k a) (hy : ev y = .int k' b) (w : World) :
    (execOp ev o).run P w = .ok (.value v) w := by
  obtain ⟨dst, op', ty, pos, after, guard⟩ := o
  simp only at ho; subst ho
  cases op <;> simp only [binI] at h <;> repeat' split at h
  all_goals first
    | (cases h; done)
    | (subst_vars
       obtain rfl := Option.some.inj h
       simp_all [execOp, eqGuard, binOp, Op.intArith, Op.intDiv, Op.intBits, Op.intCmp, Op.shift, Int.not_lt]
       done)
    | (subst_vars
       obtain rfl := Option.some.inj h
       simp_all [execOp, eqGuard, binOp, Op.intArith, Op.intDiv, Op.intBits, Op.intCmp, Op.shift, Int.not_lt]
       first | rfl | (intro hh; omega))
theorem WL.bin {fl fl2 : List Bool} {lw : Nat} (hfl : IsFl fl lo n lw fl2) {op : BinOp} {t t' : TypeId} {x y : Operand} {k k' : IntKind} {a b : Int} {v : Value} (ho : o.op = .binOp op t x y t') (hd : o.dst = some d) (hw : wA all o fr = some true) (hx : fr.eval x = some (.int k a)) (hy : fr.eval y = some (.int k' b))
    (hv : binI op k a k' b = some v) (kk : WL P Δ lo fl2 all l ((d, v) :: fr) n H Q) : WL P Δ lo fl all (o :: l) fr n H Q := by
  refine WL.step hfl (.step (.ground (fun cs b h => by rw [ho] at h; cases h) (fun z hz => ?_) (gr_binI hv) (fun w => binI_run hv ho (by rw [hx]; rfl) (by rw [hy]; rfl) w))) hd hw kk
  rw [ho] at hz
  simp only [Op.operands] at hz
  have : z = x ∨ z = y := by simpa using hz
  rcases this with rfl | rfl
  · exact ⟨_, hx, gr_int _ _⟩
  · exact ⟨_, hy, gr_int _ _⟩
end ops
end
end Go.Proofs.YtlpcdcpcfeaecaaAb
end
section
namespace Go.Proofs.YtlpcdcpcfeaecaaAb
open Go
theorem AbsOk.eq {lo n n' : Nat} {H H' : Heap} (h : AbsOk lo n H n' H') {i : Nat} (hi : i < lo) : H' i = H i := h.2.1 i hi
theorem AbsOk.le {lo n n' : Nat} {H H' : Heap} (h : AbsOk lo n H n' H') : n ≤ n' := h.1
def str (l : List UInt8) : Value := .string ⟨l.toArray⟩
def grZ : Value → Bool
  | .bool _ | .int .. | .string _ | .pointer none | .slice none 0 0 | .map none | .nilFunc | .nilIface => true
  | _ => false
theorem grZ_spec {v : Value} (h : grZ v = true) : Gr v ∧ v.oneCell' = true := by
  refine ⟨gr_of_grB h, ?_⟩
  unfold grZ at h
  split at h <;> first | (cases h; done) | rfl
theorem equalIn_bool {P : Program} {t : TypeId} (ht : P.underlying t = some .bool) (d : Nat) (a b : Bool) (w : World) : (Op.equalIn (d + 1) t (.bool a) (.bool b)).run P w = .ok (a == b) w := by
  simp [Op.equalIn, run_underlying ht]
theorem equal_bool {P : Program} {t : TypeId} (ht : P.underlying t = some .bool) (a b : Bool) (w : World) : (Op.equal t (.bool a) (.bool b)).run P w = .ok (a == b) w := equalIn_bool ht 9999 a b w
section
variable {P : Program} {Δ : Prims} {lo : Nat} {fr : Fr} {n : Nat} {H : Heap} {Q : Post} {all : Array Oper} {l : List Oper} {o : Oper} {d : Nat}
theorem WL.call {fl fl2 : List Bool} {lw : Nat} (hfl : IsFl fl lo n lw fl2) {x : Operand} {xs : Array Operand} {ts : Array TypeId} {f : FuncId} {first cap : Array Value} {asx : List Value} {fn : Func} (lo' : Nat) (ho : o.op = .call { callee := .value x, args := xs, argTypes := ts }) (hd : o.dst = some d) (hw : wA all o fr = some true)
    (hx : fr.eval x = some (.func (.func f) first cap)) (ha : xs.toList.mapM fr.eval = some asx) (hfn : P.funcs[f]? = some fn) (hname : (fn.name == "runtime.NumGoroutine") = false) (hbody : fn.body.isNone = false) (h1 : lw ≤ lo') (h2 : lo' ≤ n)
    (h : C P Δ lo' f (first.toList ++ asx ++ cap.toList) n H (fun v n' H' => WL P Δ lo fl2 all l ((d, v) :: fr) n' H' Q)) : WL P Δ lo fl all (o :: l) fr n H Q := by
  obtain ⟨v, n', H', dd, k⟩ := h
  exact WL.step hfl (.callF ho hx ha hfn hname hbody h1 h2 dd) hd hw k
theorem WL.alloc {fl fl2 : List Bool} {lw : Nat} (hfl : IsFl fl lo n lw fl2) {t : TypeId} {i : TypeInfo} {z : Value} (e : Nat) (ho : o.op = .alloc t) (hd : o.dst = some d) (hw : wA all o fr = some true) (hi : P.info? t = some i) (hz : i.zero = some z) (hg : (Cells z).all grZ = true)
    (k : WL P Δ lo fl2 all l ((d, .pointer (some ⟨n, 0, none⟩)) :: fr) (n + 1) (H.set n (.row e (Cells z))) Q) : WL P Δ lo fl all (o :: l) fr n H Q := by
  refine WL.step hfl (.step (.alloc e ho hi hz ?_)) hd hw k
  intro v hv
  exact grZ_spec (List.all_eq_true.1 hg v hv)
theorem WL.box {fl fl2 : List Bool} {lw : Nat} (hfl : IsFl fl lo n lw fl2) {t : TypeId} {x : Operand} {v : Value} (e : Nat) (ho : o.op = .box t x) (hd : o.dst = some d) (hw : wA all o fr = some true) (hx : fr.eval x = some v) (hg : ∀ u ∈ Cells v, u.oneCell' = true)
    (k : WL P Δ lo fl2 all l ((d, .pointer (some ⟨n, 0, none⟩)) :: fr) (n + 1) (H.set n (.row e (Cells v))) Q) : WL P Δ lo fl all (o :: l) fr n H Q :=
  WL.step hfl (.step (.box e ho hx hg)) hd hw k
theorem WL.load1 {fl fl2 : List Bool} {lw : Nat} (hfl : IsFl fl lo n lw fl2) {t : TypeId} {x : Operand} {dd : TypeDesc} {b k e : Nat} {c : List Value} {v : Value} (ho : o.op = .load t x) (hd : o.dst = some d) (hw : wA all o fr = some true) (ht : P.underlying t = some dd) (hr : isRow dd = false)
    (hx : fr.eval x = some (.pointer (some ⟨b, k, none⟩))) (hb : H b = some (.row e c)) (hk : c[k]? = some v) (kk : WL P Δ lo fl2 all l ((d, v) :: fr) n H Q) : WL P Δ lo fl all (o :: l) fr n H Q :=
  WL.step hfl (.step (.load1 ho ht hr hx hb hk)) hd hw kk
theorem WL.loadN {fl fl2 : List Bool} {lw : Nat} (hfl : IsFl fl lo n lw fl2) {t : TypeId} {x : Operand} {dd : TypeDesc} {i : TypeInfo} {b k e : Nat} {c l' : List Value} (ho : o.op = .load t x) (hd : o.dst = some d) (hw : wA all o fr = some true) (ht : P.underlying t = some dd) (hr : isRow dd = true) (hi : P.info? t = some i)
    (hx : fr.eval x = some (.pointer (some ⟨b, k, none⟩))) (hb : H b = some (.row e c)) (hk : (c.drop k).take i.size = l') (hl : l'.length = i.size) (kk : WL P Δ lo fl2 all l ((d, .agg l'.toArray) :: fr) n H Q) : WL P Δ lo fl all (o :: l) fr n H Q :=
  WL.step hfl (.step (.loadN ho ht hr hi hx hb hk hl)) hd hw kk
theorem WL.store {fl fl2 : List Bool} {lw : Nat} (hfl : IsFl fl lo n lw fl2) {t : TypeId} {x y : Operand} {i : TypeInfo} {b k e : Nat} {c : List Value} {v : Value} (ho : o.op = .store t x y) (hd : o.dst = none) (hw : wA all o fr = some true) (hi : P.info? t = some i)
    (hx : fr.eval x = some (.pointer (some ⟨b, k, none⟩))) (hy : fr.eval y = some v) (hs : (Cells v).length = i.size) (hb : H b = some (.row e c)) (hk : k + i.size ≤ c.length) (hlo : lw ≤ b) (hbn : b < n) (h1 : ∀ u ∈ Cells v, u.oneCell' = true)
    (kk : WL P Δ lo fl2 all l fr n (H.set b (.row e (splice c k (Cells v)))) Q) : WL P Δ lo fl all (o :: l) fr n H Q :=
  WL.step0 hfl (.step (.store ho hi hx hy hs hb hk hlo hbn h1)) hd hw kk
theorem WL.nilCheck {fl fl2 : List Bool} {lw : Nat} (hfl : IsFl fl lo n lw fl2) {x : Operand} {a : Addr} (ho : o.op = .nilCheck x) (hd : o.dst = some d) (hw : wA all o fr = some true) (hx : fr.eval x = some (.pointer (some a))) (kk : WL P Δ lo fl2 all l ((d, .pointer (some a)) :: fr) n H Q) : WL P Δ lo fl all (o :: l) fr n H Q :=
  WL.step hfl (.step (.nilCheck ho hx)) hd hw kk
theorem WL.fieldAddr {fl fl2 : List Bool} {lw : Nat} (hfl : IsFl fl lo n lw fl2) {s : TypeId} {x : Operand} {j b k : Nat} {fs : Array Field} {f : Field} {i : TypeInfo} (ho : o.op = .fieldAddr s x j) (hd : o.dst = some d) (hw : wA all o fr = some true) (hs : P.underlying s = some (.struct fs)) (hf : fs[j]? = some f)
    (hi : P.info? f.type = some i) (h0 : (i.size == 0) = false) (hx : fr.eval x = some (.pointer (some ⟨b, k, none⟩))) (kk : WL P Δ lo fl2 all l ((d, .pointer (some ⟨b, k + f.offset, none⟩)) :: fr) n H Q) : WL P Δ lo fl all (o :: l) fr n H Q :=
  WL.step hfl (.step (.fieldAddr ho hs hf hi h0 hx)) hd hw kk
theorem WL.indexS {fl fl2 : List Bool} {lw : Nat} (hfl : IsFl fl lo n lw fl2) {t : TypeId} {x y : Operand} {el : TypeId} {i : TypeInfo} {b k len cap : Nat} {q : IntKind} {j : Int} (ho : o.op = .indexAddr t x y) (hd : o.dst = some d) (hw : wA all o fr = some true) (ht : P.underlying t = some (.slice el)) (hi : P.info? el = some i)
    (hx : fr.eval x = some (.slice (some ⟨b, k, none⟩) len cap)) (hy : fr.eval y = some (.int q j)) (h0 : 0 ≤ j) (hj : j < len) (kk : WL P Δ lo fl2 all l ((d, .pointer (some ⟨b, k + j.toNat * i.size, none⟩)) :: fr) n H Q) : WL P Δ lo fl all (o :: l) fr n H Q :=
  WL.step hfl (.step (.indexAddrS ho ht hi hx hy h0 hj)) hd hw kk
theorem WL.extract {fl fl2 : List Bool} {lw : Nat} (hfl : IsFl fl lo n lw fl2) {x : Operand} {j : Nat} {vs : Array Value} {v : Value} (ho : o.op = .extract x j) (hd : o.dst = some d) (hw : wA all o fr = some true) (hx : fr.eval x = some (.tuple vs)) (hv : vs[j]? = some v) (kk : WL P Δ lo fl2 all l ((d, v) :: fr) n H Q) : WL P Δ lo fl all (o :: l) fr n H Q :=
  WL.step hfl (.step (.extract ho hx hv)) hd hw kk
theorem WL.mkFunc {fl fl2 : List Bool} {lw : Nat} (hfl : IsFl fl lo n lw fl2) {f : Fn} {xs ys : Array Operand} {a c : List Value} (ho : o.op = .makeFunc f xs ys) (hd : o.dst = some d) (hw : wA all o fr = some true) (hx : xs.toList.mapM fr.eval = some a) (hy : ys.toList.mapM fr.eval = some c) (kk : WL P Δ lo fl2 all l ((d, .func f a.toArray c.toArray) :: fr) n H Q) : WL P Δ lo fl all (o :: l) fr n H Q :=
  WL.step hfl (.step (.mkFunc ho (by simpa using hx) (by simpa using hy))) hd hw kk
theorem WL.len {fl fl2 : List Bool} {lw : Nat} (hfl : IsFl fl lo n lw fl2) {t : TypeId} {x : Operand} {el : TypeId} {a : Option Addr} {len cap : Nat} (ho : o.op = .call { callee := .builtin .len, args := #[x], argTypes := #[t] }) (hd : o.dst = some d) (hw : wA all o fr = some true) (ht : P.underlying t = some (.slice el))
    (hx : fr.eval x = some (.slice a len cap)) (kk : WL P Δ lo fl2 all l ((d, .int .i64 len) :: fr) n H Q) : WL P Δ lo fl all (o :: l) fr n H Q :=
  WL.step hfl (.step (.len ho ht hx)) hd hw kk
theorem WL.slice {fl fl2 : List Bool} {lw : Nat} (hfl : IsFl fl lo n lw fl2) {t el : TypeId} {i : TypeInfo} {x : Operand} {low high mx : Option Operand} {b k len cap lw h m e : Nat} {c : List Value} (ho : o.op = .slice t x low high mx) (hd : o.dst = some d) (hw : wA all o fr = some true) (ht : P.underlying t = some (.slice el)) (hi : P.info? el = some i)
    (hx : fr.eval x = some (.slice (some ⟨b, k, none⟩) len cap)) (hb : H b = some (.row e c)) (he : e = i.size) (hm : Bnd fr.eval mx (lb len cap) m) (hl : Bnd fr.eval low 0 lw) (hh : Bnd fr.eval high len h) (hmm : m ≤ lb len cap) (hmx : mx.isSome → high.isSome) (hlh : lw ≤ h) (hhm : h ≤ m)
    (kk : WL P Δ lo fl2 all l ((d, .slice (some ⟨b, k + lw * i.size, none⟩) (h - lw) (UNK + (m - lw))) :: fr) n H Q) : WL P Δ lo fl all (o :: l) fr n H Q :=
  WL.step hfl (.stepM (.slice ho ht hi hx hb he hm hmm hl hh hmx hlh hhm)) hd hw kk
theorem WL.sliceNil {fl fl2 : List Bool} {lw : Nat} (hfl : IsFl fl lo n lw fl2) {t el : TypeId} {i : TypeInfo} {x : Operand} {low high : Option Operand} (ho : o.op = .slice t x low high none) (hd : o.dst = some d) (hw : wA all o fr = some true) (ht : P.underlying t = some (.slice el)) (hi : P.info? el = some i)
    (hx : fr.eval x = some (.slice none 0 0)) (hl : Bnd fr.eval low 0 0) (hh : Bnd fr.eval high 0 0) (kk : WL P Δ lo fl2 all l ((d, .slice none 0 0) :: fr) n H Q) : WL P Δ lo fl all (o :: l) fr n H Q :=
  WL.step hfl (.stepM (.sliceNil ho ht hi hx hl hh)) hd hw kk
theorem WL.eqNil {fl fl2 : List Bool} {lw : Nat} (hfl : IsFl fl lo n lw fl2) {op : BinOp} {t u el : TypeId} {x y : Operand} {a : Option Addr} {len cap : Nat} (ho : o.op = .binOp op t x y u) (hd : o.dst = some d) (hw : wA all o fr = some true) (hop : op = .eql ∨ op = .neq) (ht : P.underlying t = some (.slice el)) (hx : fr.eval x = some (.slice a len cap)) (hy : fr.eval y = some (.slice none 0 0))
    (kk : WL P Δ lo fl2 all l ((d, .bool (if op = .eql then a.isNone else !a.isNone)) :: fr) n H Q) : WL P Δ lo fl all (o :: l) fr n H Q :=
  WL.step hfl (.stepM (.eqNil ho hop ht hx hy)) hd hw kk
theorem WL.make {fl fl2 : List Bool} {lw : Nat} (hfl : IsFl fl lo n lw fl2) {t el : TypeId} {i : TypeInfo} {z : Value} {x y : Operand} {q q' : IntKind} {l' c : Nat} (ho : o.op = .makeSlice t x y) (hd : o.dst = some d) (hw : wA all o fr = some true) (ht : P.underlying t = some (.slice el)) (hi : P.info? el = some i) (hz : i.zero = some z)
    (hzs : (Cells z).length = i.size) (h0 : 0 < i.size) (hg : (Cells z).all grZ = true) (hx : fr.eval x = some (.int q (l' : Int))) (hy : fr.eval y = some (.int q' (c : Int))) (hlc : l' ≤ c) (hb : i.bytes * c ≤ 281474976710656) (h63 : c < UNK)
    (kk : WL P Δ lo fl2 all l ((d, .slice (some ⟨n, 0, none⟩) l' c) :: fr) (n + 1) (H.set n (.row i.size (List.replicate c (Cells z)).flatten)) Q) : WL P Δ lo fl all (o :: l) fr n H Q :=
  WL.step hfl (.stepM (.make ho ht hi hz hzs h0 (fun v hv => grZ_spec (List.all_eq_true.1 hg v hv)) hx hy hlc hb h63)) hd hw kk
theorem WL.build {fl fl2 : List Bool} {lw : Nat} (hfl : IsFl fl lo n lw fl2) {t : TypeId} {ps : Array (Nat × Operand)} {fs : Array Field} {parts : List (Nat × Value)} {places : List (Nat × Nat)} {z : Value} {iz : TypeInfo} {cells : Array Value} (ho : o.op = .build t ps) (hd : o.dst = some d) (hw : wA all o fr = some true) (ht : P.underlying t = some (.struct fs))
    (hi : P.info? t = some iz) (hz : iz.zero = some z) (hg : (Cells z).all grZ = true) (hpl : fs.toList.mapM (fun f => (P.info? f.type).map fun i => (f.offset, i.size)) = some places) (hp : ps.toList.mapM (fun p => (fr.eval p.2).map fun v => (p.1, v)) = some parts)
    (hf : Instr.fill (places.toArray[·]?) z.cells parts = some cells) (kk : WL P Δ lo fl2 all l ((d, .agg cells) :: fr) n H Q) : WL P Δ lo fl all (o :: l) fr n H Q :=
  WL.step hfl (.stepM (.build ho ht hi hz (fun v hv => (grZ_spec (List.all_eq_true.1 hg v hv)).1) hp hpl hf)) hd hw kk
theorem WL.buildSlice {fl fl2 : List Bool} {lw : Nat} (hfl : IsFl fl lo n lw fl2) {t el : TypeId} {len : Nat} {ps : Array (Nat × Operand)} {parts : List (Nat × Value)} {z : Value} {i : TypeInfo} {cells : Array Value} (ho : o.op = .buildSlice t len ps) (hd : o.dst = some d) (hw : wA all o fr = some true) (ht : P.underlying t = some (.slice el)) (hi : P.info? el = some i) (hz : i.zero = some z)
    (hg : (Cells z).all grZ = true) (hsz : len * i.size ≤ 16777216) (hlen : len < UNK) (hp : ps.toList.mapM (fun p => (fr.eval p.2).map fun v => (p.1, v)) = some parts) (hzc : (Cells z).length = i.size)
    (hf : Instr.fill (fun j => some (j * i.size, i.size)) (madeCells z.cells (len * i.size)) parts = some cells) (h1 : ∀ v ∈ cells.toList, v.oneCell' = true) (hcs : cells.size = len * i.size)
    (kk : WL P Δ lo fl2 all l ((d, .slice (some ⟨n, 0, none⟩) len len) :: fr) (n + 1) (H.set n (.row i.size cells.toList)) Q) : WL P Δ lo fl all (o :: l) fr n H Q :=
  WL.step hfl (.stepM (.buildSlice ho ht hi hz (fun v hv => grZ_spec (List.all_eq_true.1 hg v hv)) hsz hlen hp h1 hzc hf hcs)) hd hw kk
theorem WL.append0 {fl fl2 : List Bool} {lw : Nat} (hfl : IsFl fl lo n lw fl2) {t u el : TypeId} {i : TypeInfo} {x y : Operand} {a : Option Addr} {len cap : Nat} (ho : o.op = .call { callee := .builtin .append, args := #[x, y], argTypes := #[t, u] }) (hd : o.dst = some d) (hw : wA all o fr = some true) (ht : P.underlying t = some (.slice el)) (hi : P.info? el = some i)
    (hx : fr.eval x = some (.slice a len cap)) (hsrc : Src P fr.eval H i.size u y 0 []) (kk : WL P Δ lo fl2 all l ((d, .slice a len cap) :: fr) n H Q) : WL P Δ lo fl all (o :: l) fr n H Q :=
  WL.step hfl (.stepM (.append0 ho ht hi hx hsrc)) hd hw kk
theorem WL.appendI {fl fl2 : List Bool} {lw : Nat} (hfl : IsFl fl lo n lw fl2) {t u el : TypeId} {i : TypeInfo} {x y : Operand} {b k len cap m e : Nat} {c news : List Value} (ho : o.op = .call { callee := .builtin .append, args := #[x, y], argTypes := #[t, u] }) (hd : o.dst = some d) (hw : wA all o fr = some true) (ht : P.underlying t = some (.slice el)) (hi : P.info? el = some i)
    (hx : fr.eval x = some (.slice (some ⟨b, k, none⟩) len cap)) (hsrc : Src P fr.eval H i.size u y m news) (hb : H b = some (.row e c)) (hlb : len + m ≤ lb len cap) (hfit : k + (len + m) * i.size ≤ c.length) (hlo : lw ≤ b) (hbn : b < n) (h1 : ∀ v ∈ news, v.oneCell' = true) (hm0 : 0 < m)
    (kk : WL P Δ lo fl2 all l ((d, .slice (some ⟨b, k, none⟩) (len + m) cap) :: fr) n (H.set b (.row e (splice c (k + len * i.size) news))) Q) : WL P Δ lo fl all (o :: l) fr n H Q :=
  WL.step hfl (.stepM (.appendI ho ht hi hx hsrc hb hlb hfit hlo hbn h1 hm0)) hd hw kk
theorem WL.appendN {fl fl2 : List Bool} {lw : Nat} (hfl : IsFl fl lo n lw fl2) {t u el : TypeId} {i : TypeInfo} {z : Value} {x y : Operand} {m : Nat} {news : List Value} (ho : o.op = .call { callee := .builtin .append, args := #[x, y], argTypes := #[t, u] }) (hd : o.dst = some d) (hw : wA all o fr = some true) (ht : P.underlying t = some (.slice el)) (hi : P.info? el = some i) (hz : i.zero = some z) (hzs : (Cells z).length = i.size)
    (hx : fr.eval x = some (.slice none 0 0)) (hsrc : Src P fr.eval H i.size u y m news) (h1 : ∀ v ∈ news, v.oneCell' = true) (hm0 : 0 < m) (hby : m * i.bytes ≤ 140737488355328) (h63 : m < UNK)
    (kk : WL P Δ lo fl2 all l ((d, .slice (some ⟨n, 0, none⟩) m (UNK + m)) :: fr) (n + 1) (H.set n (.row i.size news)) Q) : WL P Δ lo fl all (o :: l) fr n H Q :=
  WL.step hfl (.stepM (.appendN ho ht hi hz hzs hx hsrc h1 hm0 hby h63)) hd hw kk
theorem WL.appendG {fl fl2 : List Bool} {lw : Nat} (hfl : IsFl fl lo n lw fl2) {t u el : TypeId} {i : TypeInfo} {z : Value} {x y : Operand} {b k len cap m e : Nat} {c olds news : List Value} (ho : o.op = .call { callee := .builtin .append, args := #[x, y], argTypes := #[t, u] }) (hd : o.dst = some d) (hw : wA all o fr = some true) (ht : P.underlying t = some (.slice el)) (hi : P.info? el = some i) (hz : i.zero = some z) (hzs : (Cells z).length = i.size)
    (hx : fr.eval x = some (.slice (some ⟨b, k, none⟩) len cap)) (hsrc : Src P fr.eval H i.size u y m news) (hb : H b = some (.row e c)) (hol : (c.drop k).take (len * i.size) = olds) (holn : olds.length = len * i.size) (hcap : cap < UNK) (hgr : cap < len + m)
    (h1 : ∀ v ∈ olds ++ news, v.oneCell' = true) (hby : (len + m) * i.bytes ≤ 140737488355328) (h63 : len + m < UNK)
    (kk : WL P Δ lo fl2 all l ((d, .slice (some ⟨n, 0, none⟩) (len + m) (UNK + (len + m))) :: fr) (n + 1) (H.set n (.row i.size (olds ++ news))) Q) : WL P Δ lo fl all (o :: l) fr n H Q :=
  WL.step hfl (.stepM (.appendG ho ht hi hz hzs hx hsrc hb hol holn hcap hgr h1 hby h63)) hd hw kk
theorem WL.appendU {fl fl2 : List Bool} {lw : Nat} (hfl : IsFl fl lo n lw fl2) {t u el : TypeId} {i : TypeInfo} {z : Value} {x y : Operand} {b k len cap m e : Nat} {c olds news : List Value} (ho : o.op = .call { callee := .builtin .append, args := #[x, y], argTypes := #[t, u] }) (hd : o.dst = some d) (hw : wA all o fr = some true) (ht : P.underlying t = some (.slice el)) (hi : P.info? el = some i) (hz : i.zero = some z) (hzs : (Cells z).length = i.size)
    (hx : fr.eval x = some (.slice (some ⟨b, k, none⟩) len cap)) (hsrc : Src P fr.eval H i.size u y m news) (hb : H b = some (.row e c)) (he : e = i.size) (hol : (c.drop k).take (len * i.size) = olds) (holn : olds.length = len * i.size) (hcap : UNK ≤ cap) (hlo : lw ≤ b) (hbn : b < n) (hm0 : 0 < m)
    (h1 : ∀ v ∈ news, v.oneCell' = true) (hby : (len + m) * i.bytes ≤ 140737488355328) (h63 : len + m < UNK) (hk : k ≤ c.length)
    (kk : WL P Δ lo fl2 all l ((d, .slice (some ⟨n, 0, none⟩) (len + m) (UNK + (len + m))) :: fr) (n + 1) ((H.del b).set n (.row i.size (olds ++ news))) Q) : WL P Δ lo fl all (o :: l) fr n H Q :=
  WL.step hfl (.stepM (.appendU ho ht hi hz hzs hx hsrc hb he hol holn hcap hlo hbn hm0 h1 hby h63 hk)) hd hw kk
theorem WL.toStr {fl fl2 : List Bool} {lw : Nat} (hfl : IsFl fl lo n lw fl2) {s t el : TypeId} {x : Operand} {b k len cap e : Nat} {c : List Value} {bs : List UInt8} (ho : o.op = .convert s t x) (hd : o.dst = some d) (hw : wA all o fr = some true) (hs : P.underlying s = some (.slice el)) (ht : P.underlying t = some .string) (hel : P.underlying el = some (.int .u8)) (hx : fr.eval x = some (.slice (some ⟨b, k, none⟩) len cap))
    (hb : H b = some (.row e c)) (hl : (c.drop k).take len = bs.map u8) (hn : bs.length = len) (kk : WL P Δ lo fl2 all l ((d, str bs) :: fr) n H Q) : WL P Δ lo fl all (o :: l) fr n H Q :=
  WL.step hfl (.stepM (.toStr ho hs ht hel hx hb hl hn)) hd hw kk
theorem WL.toStrNil {fl fl2 : List Bool} {lw : Nat} (hfl : IsFl fl lo n lw fl2) {s t el : TypeId} {x : Operand} (ho : o.op = .convert s t x) (hd : o.dst = some d) (hw : wA all o fr = some true) (hs : P.underlying s = some (.slice el)) (ht : P.underlying t = some .string) (hel : P.underlying el = some (.int .u8)) (hx : fr.eval x = some (.slice none 0 0))
    (kk : WL P Δ lo fl2 all l ((d, str []) :: fr) n H Q) : WL P Δ lo fl all (o :: l) fr n H Q :=
  WL.step hfl (.stepM (.toStrNil ho hs ht hel hx)) hd hw kk
theorem WL.ground1 {fl fl2 : List Bool} {lw : Nat} (hfl : IsFl fl lo n lw fl2) {x : Operand} {u v : Value} (hd : o.dst = some d) (hw : wA all o fr = some true) (hs : ∀ cs b, o.op ≠ .select cs b) (hops : o.op.operands = #[x]) (hx : fr.eval x = some u) (hgu : Gr u) (hgv : Gr v)
    (hr : ∀ (ev : Operand → Value) w, ev x = u → (execOp ev o).run P w = .ok (.value v) w) (kk : WL P Δ lo fl2 all l ((d, v) :: fr) n H Q) : WL P Δ lo fl all (o :: l) fr n H Q := by
  refine WL.step hfl (.step (.ground hs (fun z hz => ?_) hgv (fun w => hr _ w (by rw [hx]; rfl)))) hd hw kk
  rw [hops] at hz
  obtain rfl : z = x := by simpa using hz
  exact ⟨_, hx, hgu⟩
theorem WL.ground2 {fl fl2 : List Bool} {lw : Nat} (hfl : IsFl fl lo n lw fl2) {x y : Operand} {u u' v : Value} (hd : o.dst = some d) (hw : wA all o fr = some true) (hs : ∀ cs b, o.op ≠ .select cs b) (hops : o.op.operands = #[x, y]) (hx : fr.eval x = some u) (hy : fr.eval y = some u') (hgu : Gr u) (hgu' : Gr u') (hgv : Gr v)
    (hr : ∀ (ev : Operand → Value) w, ev x = u → ev y = u' → (execOp ev o).run P w = .ok (.value v) w) (kk : WL P Δ lo fl2 all l ((d, v) :: fr) n H Q) : WL P Δ lo fl all (o :: l) fr n H Q := by
  refine WL.step hfl (.step (.ground hs (fun z hz => ?_) hgv (fun w => hr _ w (by rw [hx]; rfl) (by rw [hy]; rfl)))) hd hw kk
  rw [hops] at hz
  have : z = x ∨ z = y := by simpa using hz
  rcases this with rfl | rfl
  · exact ⟨_, hx, hgu⟩
  · exact ⟨_, hy, hgu'⟩
theorem WL.not {fl fl2 : List Bool} {lw : Nat} (hfl : IsFl fl lo n lw fl2) {t : TypeId} {x : Operand} {b : Bool} (ho : o.op = .unOp .not t x) (hd : o.dst = some d) (hw : wA all o fr = some true) (hx : fr.eval x = some (.bool b)) (kk : WL P Δ lo fl2 all l ((d, .bool (!b)) :: fr) n H Q) : WL P Δ lo fl all (o :: l) fr n H Q :=
  WL.ground1 hfl hd hw (by rw [ho]; intro _ _ h; cases h) (by rw [ho]; rfl) hx (gr_bool _) (gr_bool _) (fun ev w h => by
    obtain ⟨dst, op, ty, pos, after, guard⟩ := o
    simp only at ho; subst ho
    simp [execOp, Op.unary, h]) kk
theorem WL.convI {fl fl2 : List Bool} {lw : Nat} (hfl : IsFl fl lo n lw fl2) {s t : TypeId} {ds : TypeDesc} {x : Operand} {q k : IntKind} {a : Int} (ho : o.op = .convert s t x) (hd : o.dst = some d) (hw : wA all o fr = some true) (hs : P.underlying s = some ds) (ht : P.underlying t = some (.int k)) (hx : fr.eval x = some (.int q a)) (kk : WL P Δ lo fl2 all l ((d, .int k (k.wrap a)) :: fr) n H Q) : WL P Δ lo fl all (o :: l) fr n H Q :=
  WL.ground1 hfl hd hw (by rw [ho]; intro _ _ h; cases h) (by rw [ho]; rfl) hx (gr_int _ _) (gr_int _ _) (fun ev w h => by
    obtain ⟨dst, op, ty, pos, after, guard⟩ := o
    simp only at ho; subst ho
    simp [execOp, Go.convert, Conv.intToInt, run_underlying hs, run_underlying ht, h]) kk
theorem WL.lenStr {fl fl2 : List Bool} {lw : Nat} (hfl : IsFl fl lo n lw fl2) {t : TypeId} {x : Operand} {s : ByteArray} (ho : o.op = .call { callee := .builtin .len, args := #[x], argTypes := #[t] }) (hd : o.dst = some d) (hw : wA all o fr = some true) (ht : P.underlying t = some .string) (hx : fr.eval x = some (.string s)) (kk : WL P Δ lo fl2 all l ((d, .int .i64 s.size) :: fr) n H Q) : WL P Δ lo fl all (o :: l) fr n H Q :=
  WL.ground1 hfl hd hw (by rw [ho]; intro _ _ h; cases h) (by rw [ho]; rfl) hx (gr_string _) (gr_int _ _) (fun ev w h => by
    obtain ⟨dst, op, ty, pos, after, guard⟩ := o
    simp only at ho; subst ho
    simp [execOp, resolve, invoke, builtin, Builtin.len_, run_underlying ht, goInt, h]) kk
theorem WL.min2 {fl fl2 : List Bool} {lw : Nat} (hfl : IsFl fl lo n lw fl2) {t t' : TypeId} {x y : Operand} {q q' : IntKind} {a b : Int} (ho : o.op = .call { callee := .builtin .min, args := #[x, y], argTypes := #[t, t'] }) (hd : o.dst = some d) (hw : wA all o fr = some true) (hx : fr.eval x = some (.int q a)) (hy : fr.eval y = some (.int q' b)) (kk : WL P Δ lo fl2 all l ((d, .int q (if b < a then b else a)) :: fr) n H Q) : WL P Δ lo fl all (o :: l) fr n H Q :=
  WL.ground2 hfl hd hw (by rw [ho]; intro _ _ h; cases h) (by rw [ho]; rfl) hx hy (gr_int _ _) (gr_int _ _) (gr_int _ _) (fun ev w h h' => by
    obtain ⟨dst, op, ty, pos, after, guard⟩ := o
    simp only at ho; subst ho
    simp [execOp, resolve, invoke, builtin, Builtin.min_, Builtin.min2, h, h']) kk
theorem WL.max2 {fl fl2 : List Bool} {lw : Nat} (hfl : IsFl fl lo n lw fl2) {t t' : TypeId} {x y : Operand} {q q' : IntKind} {a b : Int} (ho : o.op = .call { callee := .builtin .max, args := #[x, y], argTypes := #[t, t'] }) (hd : o.dst = some d) (hw : wA all o fr = some true) (hx : fr.eval x = some (.int q a)) (hy : fr.eval y = some (.int q' b)) (kk : WL P Δ lo fl2 all l ((d, .int q (if b > a then b else a)) :: fr) n H Q) : WL P Δ lo fl all (o :: l) fr n H Q :=
  WL.ground2 hfl hd hw (by rw [ho]; intro _ _ h; cases h) (by rw [ho]; rfl) hx hy (gr_int _ _) (gr_int _ _) (gr_int _ _) (fun ev w h h' => by
    obtain ⟨dst, op, ty, pos, after, guard⟩ := o
    simp only at ho; subst ho
    simp [execOp, resolve, invoke, builtin, Builtin.max_, Builtin.max2, h, h']) kk
theorem WL.eqBool {fl fl2 : List Bool} {lw : Nat} (hfl : IsFl fl lo n lw fl2) {op : BinOp} {t t' : TypeId} {x y : Operand} {a b : Bool} (ho : o.op = .binOp op t x y t') (hd : o.dst = some d) (hw : wA all o fr = some true) (hop : op = .eql ∨ op = .neq) (ht : P.underlying t = some .bool) (hx : fr.eval x = some (.bool a)) (hy : fr.eval y = some (.bool b)) (kk : WL P Δ lo fl2 all l ((d, .bool (if op = .eql then a == b else a != b)) :: fr) n H Q) : WL P Δ lo fl all (o :: l) fr n H Q :=
  WL.ground2 hfl hd hw (by rw [ho]; intro _ _ h; cases h) (by rw [ho]; rfl) hx hy (gr_bool _) (gr_bool _) (gr_bool _) (fun ev w h h' => by
    obtain ⟨dst, op', ty, pos, after, guard⟩ := o
    simp only at ho; subst ho
    rcases hop with rfl | rfl <;> simp [execOp, eqGuard, binOp, h, h', equal_bool ht] <;> cases a <;> cases b <;> rfl) kk
end
end Go.Proofs.YtlpcdcpcfeaecaaAb
end
section
namespace Go.Proofs.YtlpcdcpcfeaecaaAb
open Go
theorem wrap_i64 {x : Int} (h : -9223372036854775808 ≤ x ∧ x < 9223372036854775808) : IntKind.wrap .i64 x = x := by
  have e : (2 : Int) ^ 64 = 18446744073709551616 := by decide
  have e2 : (2 : Int) ^ (64 - 1) = 9223372036854775808 := by decide
  simp only [IntKind.wrap, IntKind.bits, IntKind.signed, Bool.true_and, e, e2, decide_eq_true_eq]
  split <;> omega
theorem wrap_u8 {x : Int} (h : 0 ≤ x ∧ x < 256) : IntKind.wrap .u8 x = x := by
  have e : (2 : Int) ^ 8 = 256 := by decide
  simp only [IntKind.wrap, IntKind.bits, IntKind.signed, Bool.false_and, e, Bool.false_eq_true, if_false]
  omega
theorem wrap_u8_mod (x : Int) : IntKind.wrap .u8 x = x % 256 := by
  simp [IntKind.wrap, IntKind.bits, IntKind.signed]
section
variable {P : Program} {Δ : Prims} {lo : Nat} {fr : Fr} {n : Nat} {H : Heap} {Q : Post}
theorem W.condF {c : Operand} {a b : Code} (hc : fr.eval c = some (.bool false)) (h : W P Δ lo b fr n H Q) : W P Δ lo (.cond c a b) fr n H Q := W.cond hc (fun h => by cases h) (fun _ => h)
theorem W.condD {c : Operand} {a b : Code} {p : Prop} [Decidable p] (hc : fr.eval c = some (.bool (decide p))) (ha : p → W P Δ lo a fr n H Q) (hb : ¬ p → W P Δ lo b fr n H Q) : W P Δ lo (.cond c a b) fr n H Q :=
  W.cond hc (fun h => ha (of_decide_eq_true h)) (fun h => hb (of_decide_eq_false h))
theorem W.condN {c : Operand} {a b : Code} {p : Prop} [Decidable p] (hc : fr.eval c = some (.bool (!decide p))) (ha : ¬ p → W P Δ lo a fr n H Q) (hb : p → W P Δ lo b fr n H Q) : W P Δ lo (.cond c a b) fr n H Q :=
  W.cond hc (fun h => ha (by simpa using h)) (fun h => hb (by simpa using h))
section ops
variable {all : Array Oper} {l : List Oper} {o : Oper} {d : Nat}
theorem WL.guardD {fl : List Bool} {j : Nat} {p : Prop} [Decidable p] {want : Bool} {t : Nat} (hg : o.guard = some (j, want)) (hj : (all[j]?).bind (·.dst) = some t) (hv : fr.get t = some (.bool (decide p)))
    (h1 : p → WL P Δ lo fl all (o :: l) ((t, .bool true) :: fr) n H Q) (h0 : ¬ p → WL P Δ lo fl all (o :: l) ((t, .bool false) :: fr) n H Q) : WL P Δ lo fl all (o :: l) fr n H Q :=
  WL.guard hg hj hv (fun h => h1 (of_decide_eq_true h)) (fun h => h0 (of_decide_eq_false h))
theorem WL.guardN {fl : List Bool} {j : Nat} {p : Prop} [Decidable p] {want : Bool} {t : Nat} (hg : o.guard = some (j, want)) (hj : (all[j]?).bind (·.dst) = some t) (hv : fr.get t = some (.bool (!decide p)))
    (h1 : ¬ p → WL P Δ lo fl all (o :: l) ((t, .bool true) :: fr) n H Q) (h0 : p → WL P Δ lo fl all (o :: l) ((t, .bool false) :: fr) n H Q) : WL P Δ lo fl all (o :: l) fr n H Q :=
  WL.guard hg hj hv (fun h => h1 (by simpa using h)) (fun h => h0 (by simpa using h))
theorem WL.addI {fl fl2 : List Bool} {lw : Nat} (hfl : IsFl fl lo n lw fl2) {t t' : TypeId} {x y : Operand} {a b : Int} (ho : o.op = .binOp .add t x y t') (hd : o.dst = some d) (hw : wA all o fr = some true) (hx : fr.eval x = some (.int .i64 a)) (hy : fr.eval y = some (.int .i64 b))
    (h1 : -9223372036854775808 ≤ a + b) (h2 : a + b < 9223372036854775808) (kk : WL P Δ lo fl2 all l ((d, .int .i64 (a + b)) :: fr) n H Q) : WL P Δ lo fl all (o :: l) fr n H Q :=
  WL.bin hfl ho hd hw hx hy (by simp only [binI, if_true]; rw [wrap_i64 ⟨h1, h2⟩]) kk
theorem WL.subI {fl fl2 : List Bool} {lw : Nat} (hfl : IsFl fl lo n lw fl2) {t t' : TypeId} {x y : Operand} {a b : Int} (ho : o.op = .binOp .sub t x y t') (hd : o.dst = some d) (hw : wA all o fr = some true) (hx : fr.eval x = some (.int .i64 a)) (hy : fr.eval y = some (.int .i64 b))
    (h1 : -9223372036854775808 ≤ a - b) (h2 : a - b < 9223372036854775808) (kk : WL P Δ lo fl2 all l ((d, .int .i64 (a - b)) :: fr) n H Q) : WL P Δ lo fl all (o :: l) fr n H Q :=
  WL.bin hfl ho hd hw hx hy (by simp only [binI, if_true]; rw [wrap_i64 ⟨h1, h2⟩]) kk
theorem WL.mulI {fl fl2 : List Bool} {lw : Nat} (hfl : IsFl fl lo n lw fl2) {t t' : TypeId} {x y : Operand} {a b : Int} (ho : o.op = .binOp .mul t x y t') (hd : o.dst = some d) (hw : wA all o fr = some true) (hx : fr.eval x = some (.int .i64 a)) (hy : fr.eval y = some (.int .i64 b))
    (h1 : -9223372036854775808 ≤ a * b) (h2 : a * b < 9223372036854775808) (kk : WL P Δ lo fl2 all l ((d, .int .i64 (a * b)) :: fr) n H Q) : WL P Δ lo fl all (o :: l) fr n H Q :=
  WL.bin hfl ho hd hw hx hy (by simp only [binI, if_true]; rw [wrap_i64 ⟨h1, h2⟩]) kk
theorem WL.quoI {fl fl2 : List Bool} {lw : Nat} (hfl : IsFl fl lo n lw fl2) {t t' : TypeId} {x y : Operand} {a b : Int} (ho : o.op = .binOp .quo t x y t') (hd : o.dst = some d) (hw : wA all o fr = some true) (hx : fr.eval x = some (.int .i64 a)) (hy : fr.eval y = some (.int .i64 b))
    (h1 : 0 ≤ a) (h2 : a < 9223372036854775808) (h3 : 0 < b) (kk : WL P Δ lo fl2 all l ((d, .int .i64 (a / b)) :: fr) n H Q) : WL P Δ lo fl all (o :: l) fr n H Q := by
  refine WL.bin hfl (v := .int .i64 (a / b)) ho hd hw hx hy ?_ kk
  have e : a.tdiv b = a / b := Int.tdiv_eq_ediv_of_nonneg h1
  have h4 : a / b ≤ a := Int.ediv_le_self _ h1
  have h5 : 0 ≤ a / b := Int.ediv_nonneg h1 (by omega)
  simp only [binI, if_true]
  rw [if_neg (by omega), e, wrap_i64 ⟨by omega, by omega⟩]
theorem WL.remI {fl fl2 : List Bool} {lw : Nat} (hfl : IsFl fl lo n lw fl2) {t t' : TypeId} {x y : Operand} {a b : Int} (ho : o.op = .binOp .rem t x y t') (hd : o.dst = some d) (hw : wA all o fr = some true) (hx : fr.eval x = some (.int .i64 a)) (hy : fr.eval y = some (.int .i64 b))
    (h1 : 0 ≤ a) (h3 : 0 < b) (kk : WL P Δ lo fl2 all l ((d, .int .i64 (a % b)) :: fr) n H Q) : WL P Δ lo fl all (o :: l) fr n H Q := by
  refine WL.bin hfl (v := .int .i64 (a % b)) ho hd hw hx hy ?_ kk
  have e : a.tmod b = a % b := Int.tmod_eq_emod_of_nonneg h1
  simp only [binI, if_true]
  rw [if_neg (by omega), e]
theorem WL.shrI {fl fl2 : List Bool} {lw : Nat} (hfl : IsFl fl lo n lw fl2) {t t' : TypeId} {x y : Operand} {k k' : IntKind} {a b : Int} (ho : o.op = .binOp .shr t x y t') (hd : o.dst = some d) (hw : wA all o fr = some true) (hx : fr.eval x = some (.int k a)) (hy : fr.eval y = some (.int k' b))
    (h0 : 0 ≤ b) (kk : WL P Δ lo fl2 all l ((d, .int k (a.fdiv (2 ^ (min b.toNat k.bits)))) :: fr) n H Q) : WL P Δ lo fl all (o :: l) fr n H Q :=
  WL.bin hfl ho hd hw hx hy (by simp only [binI]; rw [if_neg (by omega)]) kk
def OwnS (lo n : Nat) (H : Heap) (sz : Nat) (v : Value) (len : Nat) (cs : List Value) : Prop :=
  (v = .slice none 0 0 ∧ len = 0 ∧ cs = []) ∨
  ∃ b k cap c, v = .slice (some ⟨b, k, none⟩) len cap ∧ H b = some (.row sz c) ∧ (c.drop k).take (len * sz) = cs ∧ cs.length = len * sz ∧ lo ≤ b ∧ b < n ∧ k ≤ c.length ∧ (cap = len ∧ cap < UNK ∨ UNK ≤ cap)
def idOf : Value → Option Nat
  | .slice (some a) _ _ => some a.block
  | .pointer (some a) => some a.block
  | .map (some r) => some r
  | _ => none
end ops
end
end Go.Proofs.YtlpcdcpcfeaecaaAb
end
