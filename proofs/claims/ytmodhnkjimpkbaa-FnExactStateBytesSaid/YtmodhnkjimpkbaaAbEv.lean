import Derived.Test.YtmodhnkjimpkbaaAbRestrict
set_option linter.all false
namespace Go.Proofs.YtmodhnkjimpkbaaAb
open Go
inductive Ex where
  | norm
  | ret
  | ex (id : Nat)
  | pan (v : Value)
inductive En where
  | ret (v : Value)
  | pan (v : Value)
def Ex.out (id : Nat) : Ex → Ex
  | .ex id' => if id' = id then .norm else .ex id'
  | e => e
def wantedA (ops : Array Oper) (o : Oper) (fr : Fr) : Option Bool :=
  match o.guard with
  | none => some true
  | some (j, want) =>
    match (ops[j]?).bind (·.dst) with
    | none => some false
    | some t =>
      match fr.get t with
      | some (.bool b) => some (b == want)
      | some _ => some false
      | none => none
inductive ResV (P : Program) (H : Heap) (fr : Fr) : ResultVar → Value → Prop
  | tmp {t : Tmp} {v : Value} (h : fr.get t = some v) : ResV P H fr (.tmp t) v
  | cell1 {a : Tmp} {t : TypeId} {d : TypeDesc} {b k e : Nat} {c : List Value} {v : Value} (ha : fr.get a = some (.pointer (some ⟨b, k, none⟩))) (ht : P.underlying t = some d) (hd : isRow d = false) (hb : H b = some (.row e c)) (hk : c[k]? = some v) : ResV P H fr (.cell a t) v
  | cellN {a : Tmp} {t : TypeId} {d : TypeDesc} {i : TypeInfo} {b k e : Nat} {c l : List Value} (ha : fr.get a = some (.pointer (some ⟨b, k, none⟩))) (ht : P.underlying t = some d) (hd : isRow d = true) (hi : P.info? t = some i) (hb : H b = some (.row e c)) (hk : (c.drop k).take i.size = l) (hl : l.length = i.size) : ResV P H fr (.cell a t) (.agg l.toArray)
inductive ResL (P : Program) (H : Heap) (fr : Fr) : List ResultVar → List Value → Prop
  | nil : ResL P H fr [] []
  | cons {r : ResultVar} {v : Value} {rs : List ResultVar} {vs : List Value} (h : ResV P H fr r v) (hs : ResL P H fr rs vs) : ResL P H fr (r :: rs) (v :: vs)
def retV : List Value → Value
  | [v] => v
  | vs => .tuple vs.toArray
def argFr : Nat → List Value → Fr
  | _, [] => []
  | k, v :: vs => (k, v) :: argFr (k + 1) vs
def grB : Value → Bool
  | .bool _ | .int .. | .string _ | .pointer none | .slice none 0 0 | .map none | .nilFunc | .nilIface => true
  | _ => false
theorem gr_of_grB {v : Value} (h : grB v = true) : Gr v := by
  unfold grB at h
  split at h <;> first | (cases h; done) | exact gr_bool _ | exact gr_int _ _ | exact gr_string _ | exact gr_nilp | exact gr_nils | exact gr_nilm | exact gr_nilf | exact gr_nilIface
def opDst (sz : Nat) (o : Oper) : Bool := (match o.dst with | some d => decide (d < sz) | none => true) && o.op.operands.toList.all (fun | .const v => grB v | _ => true)
theorem opDst_lt {sz : Nat} {o : Oper} (h : opDst sz o = true) {d : Nat} (hd : o.dst = some d) : d < sz := by
  simp only [opDst, Bool.and_eq_true] at h
  rw [hd] at h
  simpa using h.1
theorem opDst_gr {sz : Nat} {o : Oper} (h : opDst sz o = true) {v : Value} (hv : Operand.const v ∈ o.op.operands) : Gr v := by
  simp only [opDst, Bool.and_eq_true, List.all_eq_true] at h
  exact gr_of_grB (h.2 (.const v) (by simpa using hv))
def dstsOK (sz : Nat) : Code → Bool
  | .region _ ops _ => ops.toList.all (opDst sz)
  | .seq a b => dstsOK sz a && dstsOK sz b
  | .cond _ a b => dstsOK sz a && dstsOK sz b
  | .block _ c => dstsOK sz c
  | .loop c => dstsOK sz c
  | _ => true
def edgeBits (acc : Array Nat) (o : Oper) : Nat := o.after.toList.foldl (fun s e => if Region.binds .any e then s ||| 2 ^ e.on ||| acc.getD e.on 0 else s) 0
def closL : List Oper → Array Nat → Array Nat
  | [], acc => acc
  | o :: l, acc => closL l (acc.push (edgeBits acc o))
def clos (ops : Array Oper) : Array Nat := closL ops.toList #[]
def depB (cl : Array Nat) (i j : Nat) : Bool := (cl.getD j 0).testBit i
def regOK (ops : Array Oper) (r : List Nat) (isW : Nat → Bool) : Bool :=
  let cl := clos ops
  let m := ops.size
  r.length == m && (List.range m).all (fun i => r.contains i) && r.all (fun i => decide (i < m)) &&
  (List.range m).all (fun k => (ops.getD (r.getD k 0) default).after.toList.all fun e => !Region.binds .any e || (r.take k).contains e.on) &&
  (List.range m).all (fun k => (List.range m).all fun j =>
    (decide (j = k) || r.getD j 0 != r.getD k 0) &&
    (!(depB cl (r.getD j 0) (r.getD k 0)) || decide (j < k)) &&
    (!(isW j && decide (j < k)) || depB cl (r.getD j 0) (r.getD k 0)) &&
    (decide (j = k) ||
      match (ops.getD (r.getD j 0) default).dst with
      | none => true
      | some t => ((ops.getD (r.getD k 0) default).dst != some t) &&
          (!((ops.getD (r.getD k 0) default).looksAt ops).contains t || depB cl (r.getD j 0) (r.getD k 0) || depB cl (r.getD k 0) (r.getD j 0))))
def floatsB (ops : Array Oper) (r : List Nat) (isW : Nat → Bool) (k c : Nat) : Bool :=
  let cl := clos ops
  (List.range c).any (fun j => decide (k < j) && isW j) && (List.range c).all (fun j => !(decide (k < j) && isW j) || !(depB cl (r.getD k 0) (r.getD j 0)))
def Heap.rm (H : Heap) (a b : Nat) : Heap := fun i => if a ≤ i ∧ i < b then none else H i
inductive J where
  | op (lo : Nat) (o : Oper) (fr : Fr) (n : Nat) (H : Heap) (v : Value) (n' : Nat) (H' : Heap)
  | ops (lo : Nat) (all : Array Oper) (l : List Oper) (fr : Fr) (n : Nat) (H : Heap) (e : Ex) (fr' : Fr) (n' : Nat) (H' : Heap)
  | code (lo : Nat) (c : Code) (fr : Fr) (n : Nat) (H : Heap) (e : Ex) (fr' : Fr) (n' : Nat) (H' : Heap)
  | call (lo : Nat) (f : FuncId) (args : List Value) (n : Nat) (H : Heap) (e : En) (n' : Nat) (H' : Heap)
abbrev Prims := Nat → FuncId → List Value → Nat → Heap → En → Nat → Heap → Prop
inductive D (P : Program) (Δ : Prims) : J → Prop
  | step {lo : Nat} {o : Oper} {fr : Fr} {n : Nat} {H : Heap} {v : Value} {n' : Nat} {H' : Heap} (h : Step P lo fr.eval n H o v n' H') : D P Δ (.op lo o fr n H v n' H')
  | stepM {lo : Nat} {o : Oper} {fr : Fr} {n : Nat} {H : Heap} {v : Value} {n' : Nat} {H' : Heap} (h : StepM P lo fr.eval n H o v n' H') : D P Δ (.op lo o fr n H v n' H')
  | callF {lo lo' : Nat} {o : Oper} {fr : Fr} {n : Nat} {H : Heap} {v : Value} {n' : Nat} {H' : Heap} {x : Operand} {xs : Array Operand} {ts : Array TypeId} {f : FuncId} {first cap : Array Value} {as : List Value} {fn : Func}
      (ho : o.op = .call { callee := .value x, args := xs, argTypes := ts }) (hx : fr.eval x = some (.func (.func f) first cap)) (ha : xs.toList.mapM fr.eval = some as)
      (hfn : P.funcs[f]? = some fn) (hname : (fn.name == "runtime.NumGoroutine") = false) (hbody : fn.body.isNone = false) (h1 : lo ≤ lo') (h2 : lo' ≤ n)
      (h : D P Δ (.call lo' f (first.toList ++ as ++ cap.toList) n H (.ret v) n' H')) : D P Δ (.op lo o fr n H v n' H')
  | nil {lo : Nat} {all : Array Oper} {fr : Fr} {n : Nat} {H : Heap} : D P Δ (.ops lo all [] fr n H .norm fr n H)
  | skip {lo : Nat} {all : Array Oper} {o : Oper} {l : List Oper} {fr fr' : Fr} {n n' : Nat} {H H' : Heap} {e : Ex} (hw : wantedA all o fr = some false) (h : D P Δ (.ops lo all l (fr.put o.dst undef) n H e fr' n' H')) : D P Δ (.ops lo all (o :: l) fr n H e fr' n' H')
  | cons {lo : Nat} {all : Array Oper} {o : Oper} {l : List Oper} {fr fr' : Fr} {n n1 n' : Nat} {H H1 H' : Heap} {v : Value} {e : Ex} (hw : wantedA all o fr = some true) (h1 : D P Δ (.op lo o fr n H v n1 H1)) (h : D P Δ (.ops lo all l (fr.put o.dst v) n1 H1 e fr' n' H')) : D P Δ (.ops lo all (o :: l) fr n H e fr' n' H')
  | pan {lo : Nat} {all : Array Oper} {o : Oper} {l : List Oper} {fr : Fr} {n : Nat} {H : Heap} {x : Operand} {t : TypeId} {v : Value} (hw : wantedA all o fr = some true) (ho : o.op = .panic x) (hx : fr.eval x = some (.iface t v)) : D P Δ (.ops lo all (o :: l) fr n H (.pan (.iface t v)) fr n H)
  | panCall {lo lo' : Nat} {all : Array Oper} {o : Oper} {l : List Oper} {fr : Fr} {n : Nat} {H : Heap} {v : Value} {n' : Nat} {H' : Heap} {x : Operand} {xs : Array Operand} {ts : Array TypeId} {f : FuncId} {first cap : Array Value} {as : List Value} {fn : Func}
      (hw : wantedA all o fr = some true) (ho : o.op = .call { callee := .value x, args := xs, argTypes := ts }) (hx : fr.eval x = some (.func (.func f) first cap)) (ha : xs.toList.mapM fr.eval = some as)
      (hfn : P.funcs[f]? = some fn) (hname : (fn.name == "runtime.NumGoroutine") = false) (hbody : fn.body.isNone = false) (h1 : lo ≤ lo') (h2 : lo' ≤ n)
      (h : D P Δ (.call lo' f (first.toList ++ as ++ cap.toList) n H (.pan v) n' H')) : D P Δ (.ops lo all (o :: l) fr n H (.pan v) fr n' H')
  | cskip {lo : Nat} {fr : Fr} {n : Nat} {H : Heap} : D P Δ (.code lo .skip fr n H .norm fr n H)
  | ret {lo : Nat} {fr : Fr} {n : Nat} {H : Heap} : D P Δ (.code lo .ret fr n H .ret fr n H)
  | exit {lo : Nat} {id : Nat} {fr : Fr} {n : Nat} {H : Heap} : D P Δ (.code lo (.exit id) fr n H (.ex id) fr n H)
  | seqN {lo : Nat} {a b : Code} {fr fr1 fr' : Fr} {n n1 n' : Nat} {H H1 H' : Heap} {e : Ex} (h1 : D P Δ (.code lo a fr n H .norm fr1 n1 H1)) (h2 : D P Δ (.code lo b fr1 n1 H1 e fr' n' H')) : D P Δ (.code lo (.seq a b) fr n H e fr' n' H')
  | seqE {lo : Nat} {a b : Code} {fr fr' : Fr} {n n' : Nat} {H H' : Heap} {e : Ex} (h1 : D P Δ (.code lo a fr n H e fr' n' H')) (he : e ≠ .norm) : D P Δ (.code lo (.seq a b) fr n H e fr' n' H')
  | cond {lo : Nat} {c : Operand} {a b : Code} {t : Bool} {fr fr' : Fr} {n n' : Nat} {H H' : Heap} {e : Ex} (hc : fr.eval c = some (.bool t)) (h : D P Δ (.code lo (if t then a else b) fr n H e fr' n' H')) : D P Δ (.code lo (.cond c a b) fr n H e fr' n' H')
  | block {lo : Nat} {id : Nat} {c : Code} {fr fr' : Fr} {n n' : Nat} {H H' : Heap} {e : Ex} (h : D P Δ (.code lo c fr n H e fr' n' H')) : D P Δ (.code lo (.block id c) fr n H (e.out id) fr' n' H')
  | loopN {lo : Nat} {c : Code} {fr fr1 fr' : Fr} {n n1 n' : Nat} {H H1 H' : Heap} {e : Ex} (h1 : D P Δ (.code lo c fr n H .norm fr1 n1 H1)) (h2 : D P Δ (.code lo (.loop c) fr1 n1 H1 e fr' n' H')) : D P Δ (.code lo (.loop c) fr n H e fr' n' H')
  | loopE {lo : Nat} {c : Code} {fr fr' : Fr} {n n' : Nat} {H H' : Heap} {e : Ex} (h1 : D P Δ (.code lo c fr n H e fr' n' H')) (he : e ≠ .norm) : D P Δ (.code lo (.loop c) fr n H e fr' n' H')
  | region {lo : Nat} {id : Nat} {ops : Array Oper} {fr fr' : Fr} {n n' : Nat} {H H' : Heap} {e : Ex} (h : D P Δ (.ops lo ops ops.toList fr n H e fr' n' H')) : D P Δ (.code lo (.region id ops false) fr n H e fr' n' H')
  | regionD {lo : Nat} {id : Nat} {ops : Array Oper} (r : List Nat) (isW wk : Nat → Bool) (fr : Nat → Fr) (n : Nat → Nat) (H : Nat → Heap) (v : Nat → Value) (hchk : regOK ops r isW = true)
      (hw : ∀ k, k < ops.size → wantedA ops (ops.getD (r.getD k 0) default) (fr k) = some (wk k))
      (hfr : ∀ k, k < ops.size → fr (k + 1) = (fr k).put (ops.getD (r.getD k 0) default).dst (v k))
      (hskip : ∀ k, k < ops.size → wk k = false → v k = undef ∧ n (k + 1) = n k ∧ H (k + 1) = H k)
      (hrun : ∀ k, k < ops.size → wk k = true → D P Δ (.op (if isW k then lo else n k) (ops.getD (r.getD k 0) default) (fr k) (n k) (H k) (v k) (n (k + 1)) (H (k + 1))))
      (hlate : ∀ k c, k < c → c ≤ ops.size → (c = ops.size ∨ isW c = true) → isW k = false → floatsB ops r isW k c = true → wk k = true →
        Step P (n k) (fr k).eval (n k) ((H c).rm (n k) (n (k + 1))) (ops.getD (r.getD k 0) default) (v k) (n (k + 1)) (H c) ∨ StepM P (n k) (fr k).eval (n k) ((H c).rm (n k) (n (k + 1))) (ops.getD (r.getD k 0) default) (v k) (n (k + 1)) (H c)) :
      D P Δ (.code lo (.region id ops true) (fr 0) (n 0) (H 0) .norm (fr ops.size) (n ops.size) (H ops.size))
  | weak {lo : Nat} {c : Code} {fr fr2 fr' : Fr} {n n' : Nat} {H H' : Heap} {e : Ex} (hle : Fr.le fr2 fr) (h : D P Δ (.code lo c fr2 n H e fr' n' H')) : D P Δ (.code lo c fr n H e fr' n' H')
  | drop {lo : Nat} {c : Code} {fr fr' fr2 : Fr} {n n' : Nat} {H H' : Heap} {e : Ex} (h : D P Δ (.code lo c fr n H e fr' n' H')) (hle : Fr.le fr2 fr') : D P Δ (.code lo c fr n H e fr2 n' H')
  | weakL {lo : Nat} {all : Array Oper} {l : List Oper} {fr fr2 fr' : Fr} {n n' : Nat} {H H' : Heap} {e : Ex} (hle : Fr.le fr2 fr) (h : D P Δ (.ops lo all l fr2 n H e fr' n' H')) : D P Δ (.ops lo all l fr n H e fr' n' H')
  | body {lo : Nat} {f : FuncId} {args : List Value} {n n' : Nat} {H H' : Heap} {fn : Func} {c : Code} {e : Ex} {fr' : Fr} {vs : List Value} (hfn : P.funcs[f]? = some fn) (hb : fn.body = some c) (hd : dstsOK fn.ntmps c = true)
      (h : D P Δ (.code lo c (argFr 0 args) n H e fr' n' H')) (he : e = .norm ∨ e = .ret) (hr : ResL P H' fr' fn.results.toList vs) : D P Δ (.call lo f args n H (.ret (retV vs)) n' H')
  | bodyPan {lo : Nat} {f : FuncId} {args : List Value} {n n' : Nat} {H H' : Heap} {fn : Func} {c : Code} {v : Value} {fr' : Fr} (hfn : P.funcs[f]? = some fn) (hb : fn.body = some c) (hd : dstsOK fn.ntmps c = true)
      (h : D P Δ (.code lo c (argFr 0 args) n H (.pan v) fr' n' H')) : D P Δ (.call lo f args n H (.pan v) n' H')
  | prim {lo : Nat} {f : FuncId} {args : List Value} {n n' : Nat} {H H' : Heap} {e : En} (h : Δ lo f args n H e n' H') : D P Δ (.call lo f args n H e n' H')
def AbsOk (lo n : Nat) (H : Heap) (n' : Nat) (H' : Heap) : Prop :=
  n ≤ n' ∧ (∀ i, i < lo → H' i = H i) ∧ ((∀ i, n ≤ i → H i = none) → ∀ i, n' ≤ i → H' i = none) ∧ ∀ i, i < n → H i = none → H' i = none
theorem AbsOk.refl (lo n : Nat) (H : Heap) : AbsOk lo n H n H := ⟨Nat.le_refl _, fun _ _ => rfl, fun h => h, fun _ _ h => h⟩
theorem AbsOk.trans {lo n n1 n2 : Nat} {H H1 H2 : Heap} (a : AbsOk lo n H n1 H1) (b : AbsOk lo n1 H1 n2 H2) : AbsOk lo n H n2 H2 :=
  ⟨Nat.le_trans a.1 b.1, fun i hi => (b.2.1 i hi).trans (a.2.1 i hi), fun h => b.2.2.1 (a.2.2.1 h), fun i hi h => b.2.2.2 i (by have := a.1; omega) (a.2.2.2 i hi h)⟩
theorem AbsOk.mono {lo lo' n n1 : Nat} {H H1 : Heap} (a : AbsOk lo' n H n1 H1) (h : lo ≤ lo') : AbsOk lo n H n1 H1 :=
  ⟨a.1, fun i hi => a.2.1 i (by omega), a.2.2.1, a.2.2.2⟩
def J.abs : J → Prop
  | .op lo _ _ n H _ n' H' => lo ≤ n → AbsOk lo n H n' H'
  | .ops lo _ _ _ n H _ _ n' H' => lo ≤ n → AbsOk lo n H n' H'
  | .code lo _ _ n H _ _ n' H' => lo ≤ n → AbsOk lo n H n' H'
  | .call lo _ _ n H _ n' H' => lo ≤ n → AbsOk lo n H n' H'
theorem D.abs {P : Program} {Δ : Prims} (hΔ : ∀ lo f args n H e n' H', Δ lo f args n H e n' H' → lo ≤ n → AbsOk lo n H n' H') {j : J} (h : D P Δ j) : j.abs := by
  induction h with
  | step h => exact fun hl => h.abs hl
  | stepM h => exact fun hl => h.abs hl
  | callF ho hx ha hfn hname hbody h1 h2 h ih => exact fun hl => (ih h2).mono h1
  | nil => exact fun _ => .refl _ _ _
  | skip hw h ih => exact ih
  | cons hw h1 h ih1 ih => exact fun hl => (ih1 hl).trans (ih (by have := (ih1 hl).1; omega))
  | pan hw ho hx => exact fun _ => .refl _ _ _
  | panCall hw ho hx ha hfn hname hbody h1 h2 h ih => exact fun hl => (ih h2).mono h1
  | cskip => exact fun _ => .refl _ _ _
  | ret => exact fun _ => .refl _ _ _
  | exit => exact fun _ => .refl _ _ _
  | seqN h1 h2 i1 i2 => exact fun hl => (i1 hl).trans (i2 (by have := (i1 hl).1; omega))
  | seqE h1 he ih => exact ih
  | cond hc h ih => exact ih
  | block h ih => exact ih
  | loopN h1 h2 i1 i2 => exact fun hl => (i1 hl).trans (i2 (by have := (i1 hl).1; omega))
  | loopE h1 he ih => exact ih
  | region h ih => exact ih
  | regionD r isW wk fr n H v hchk hw hfr hskip hrun hlate ih =>
    rename_i lo id ops
    intro hl
    have key : ∀ k, k ≤ ops.size → AbsOk lo (n 0) (H 0) (n k) (H k) := by
      intro k
      induction k with
      | zero => exact fun _ => .refl _ _ _
      | succ k ihk =>
        intro hk
        have h0 := ihk (by omega)
        refine h0.trans ?_
        cases hwk : wk k with
        | false =>
          obtain ⟨_, a, b⟩ := hskip k (by omega) hwk
          rw [a, b]; exact .refl _ _ _
        | true =>
          have := ih k (by omega) hwk
          simp only [J.abs] at this
          have hle := h0.1
          cases hisW : isW k with
          | true => rw [hisW, if_pos rfl] at this; exact this (by omega)
          | false =>
            rw [hisW, if_neg (by decide)] at this
            exact (this (Nat.le_refl _)).mono (by omega)
    exact key _ (Nat.le_refl _)
  | weak hle h ih => exact ih
  | drop h hle ih => exact ih
  | weakL hle h ih => exact ih
  | body hfn hb hd h he hr ih => exact ih
  | bodyPan hfn hb hd h ih => exact ih
  | prim h => exact fun hl => hΔ _ _ _ _ _ _ _ _ h hl
end Go.Proofs.YtmodhnkjimpkbaaAb
