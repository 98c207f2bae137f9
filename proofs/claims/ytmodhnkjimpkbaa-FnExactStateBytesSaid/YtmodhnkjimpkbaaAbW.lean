import Derived.Test.YtmodhnkjimpkbaaAbSound2
set_option linter.all false
namespace Go.Proofs.YtmodhnkjimpkbaaAb
open Go
abbrev Post := Ex → Fr → Nat → Heap → Prop
structure W (P : Program) (Δ : Prims) (lo : Nat) (c : Code) (fr : Fr) (n : Nat) (H : Heap) (Q : Post) : Prop where
  out : ∃ e fr' n' H', D P Δ (.code lo c fr n H e fr' n' H') ∧ Q e fr' n' H'
inductive IsFl : List Bool → Nat → Nat → Nat → List Bool → Prop
  | nil {lo n : Nat} : IsFl [] lo n lo []
  | w {lo n : Nat} {fl : List Bool} : IsFl (true :: fl) lo n lo fl
  | r {lo n : Nat} {fl : List Bool} : IsFl (false :: fl) lo n n fl
def Fr.same (a b : Fr) : Prop := ∀ t, Fr.get a t = Fr.get b t
theorem Fr.same_known {fr : Fr} {t : Nat} {v : Value} (h : fr.get t = some v) : Fr.same ((t, v) :: fr) fr := by
  intro t'
  simp only [Fr.get]
  split
  · rename_i e; subst e; exact h.symm
  · rfl
theorem Fr.same_refl (a : Fr) : Fr.same a a := fun _ => rfl
theorem Fr.same_put {a b : Fr} (h : Fr.same a b) (d : Option Tmp) (v : Value) : Fr.same (a.put d v) (b.put d v) := by
  intro t
  cases d with
  | none => exact h t
  | some d => simp only [Fr.put, Fr.get]; split; rfl; exact h t
theorem Fr.same_eval {a b : Fr} (h : Fr.same a b) : a.eval = b.eval := by
  funext x
  cases x <;> first | exact h _ | rfl
theorem Fr.same_wanted {a b : Fr} (h : Fr.same a b) (ops : Array Oper) (o : Oper) : wantedA ops o a = wantedA ops o b := by
  unfold wantedA
  cases o.guard with
  | none => rfl
  | some p =>
    obtain ⟨j, want⟩ := p
    simp only
    cases (ops[j]?).bind (·.dst) with
    | none => rfl
    | some t => simp only [h t]
inductive TR (P : Program) (Δ : Prims) (lo : Nat) (all : Array Oper) : List Bool → List Oper → Fr → Nat → Heap → Ex → Fr → Nat → Heap → Prop
  | nil {fl : List Bool} {fr : Fr} {n : Nat} {H : Heap} : TR P Δ lo all fl [] fr n H .norm fr n H
  | skip {fl fl2 : List Bool} {lw : Nat} {o : Oper} {l : List Oper} {fr fr' : Fr} {n n' : Nat} {H H' : Heap} {e : Ex} (hfl : IsFl fl lo n lw fl2) (hw : wantedA all o fr = some false) (h : TR P Δ lo all fl2 l (fr.put o.dst undef) n H e fr' n' H') : TR P Δ lo all fl (o :: l) fr n H e fr' n' H'
  | cons {fl fl2 : List Bool} {lw : Nat} {o : Oper} {l : List Oper} {fr fr' : Fr} {n n1 n' : Nat} {H H1 H' : Heap} {v : Value} {e : Ex} (hfl : IsFl fl lo n lw fl2) (hw : wantedA all o fr = some true) (h1 : D P Δ (.op lw o fr n H v n1 H1)) (h : TR P Δ lo all fl2 l (fr.put o.dst v) n1 H1 e fr' n' H') : TR P Δ lo all fl (o :: l) fr n H e fr' n' H'
  | eqv {fl : List Bool} {l : List Oper} {fr fr2 fr' : Fr} {n n' : Nat} {H H' : Heap} {e : Ex} (hs : Fr.same fr2 fr) (h : TR P Δ lo all fl l fr2 n H e fr' n' H') : TR P Δ lo all fl l fr n H e fr' n' H'
  | ops {l : List Oper} {fr fr' : Fr} {n n' : Nat} {H H' : Heap} {e : Ex} (hne : l ≠ []) (h : D P Δ (.ops lo all l fr n H e fr' n' H')) : TR P Δ lo all [] l fr n H e fr' n' H'
theorem TR.toD {P : Program} {Δ : Prims} {lo : Nat} {all : Array Oper} {fl : List Bool} {l : List Oper} {fr fr' : Fr} {n n' : Nat} {H H' : Heap} {e : Ex} (h : TR P Δ lo all fl l fr n H e fr' n' H') : fl = [] → D P Δ (.ops lo all l fr n H e fr' n' H') := by
  induction h with
  | nil => exact fun _ => .nil
  | skip hfl hw h ih => intro hf; subst hf; cases hfl; exact .skip hw (ih rfl)
  | cons hfl hw h1 h ih => intro hf; subst hf; cases hfl; exact .cons hw h1 (ih rfl)
  | eqv hs h ih => exact fun hf => .weakL (fun t v h' => by rw [← hs t]; exact h') (ih hf)
  | ops hne h => exact fun _ => h
structure WL (P : Program) (Δ : Prims) (lo : Nat) (fl : List Bool) (all : Array Oper) (l : List Oper) (fr : Fr) (n : Nat) (H : Heap) (Q : Post) : Prop where
  out : ∃ e fr' n' H', TR P Δ lo all fl l fr n H e fr' n' H' ∧ Q e fr' n' H'
structure C (P : Program) (Δ : Prims) (lo : Nat) (f : FuncId) (args : List Value) (n : Nat) (H : Heap) (R : Value → Nat → Heap → Prop) : Prop where
  out : ∃ v n' H', D P Δ (.call lo f args n H (.ret v) n' H') ∧ R v n' H'
structure Good (P : Program) (Δ : Prims) : Prop where
  abs : ∀ lo f args n H e n' H', Δ lo f args n H e n' H' → lo ≤ n → AbsOk lo n H n' H'
section
variable {P : Program} {Δ : Prims} {lo : Nat} {fr : Fr} {n : Nat} {H : Heap} {Q : Post}
theorem Fr.le_nil {fr : Fr} : Fr.le [] fr := fun t v h => by simp [Fr.get] at h
theorem Fr.le_cons {fr fr2 : Fr} {t : Nat} {v : Value} (h : fr.get t = some v) (h2 : Fr.le fr2 fr) : Fr.le ((t, v) :: fr2) fr := by
  intro t' v' h'
  simp only [Fr.get] at h'
  split at h'
  · rename_i e; subst e; rw [← h']; exact h
  · exact h2 t' v' h'
theorem Fr.le_refl (fr : Fr) : Fr.le fr fr := fun _ _ h => h
theorem C.mono {f : FuncId} {args : List Value} {R R' : Value → Nat → Heap → Prop} (h : C P Δ lo f args n H R) (hR : ∀ v n' H', R v n' H' → R' v n' H') : C P Δ lo f args n H R' :=
  let ⟨v, n', H', d, r⟩ := h; ⟨v, n', H', d, hR _ _ _ r⟩
theorem C.use (g : Good P Δ) {f : FuncId} {args : List Value} {R R' : Value → Nat → Heap → Prop} (hlo : lo ≤ n) (h : C P Δ lo f args n H R) (hR : ∀ v n' H', AbsOk lo n H n' H' → R v n' H' → R' v n' H') : C P Δ lo f args n H R' :=
  let ⟨v, n', H', d, r⟩ := h; ⟨v, n', H', d, hR _ _ _ (d.abs g.abs hlo) r⟩
theorem W.mono {c : Code} {Q' : Post} (h : W P Δ lo c fr n H Q') (hq : ∀ e fr' n' H', Q' e fr' n' H' → Q e fr' n' H') : W P Δ lo c fr n H Q :=
  let ⟨e, fr', n', H', d, q⟩ := h; ⟨e, fr', n', H', d, hq _ _ _ _ q⟩
theorem W.use (g : Good P Δ) {c : Code} {Q' : Post} (hlo : lo ≤ n) (h : W P Δ lo c fr n H Q') (hq : ∀ e fr' n' H', AbsOk lo n H n' H' → Q' e fr' n' H' → Q e fr' n' H') : W P Δ lo c fr n H Q :=
  let ⟨e, fr', n', H', d, q⟩ := h; ⟨e, fr', n', H', d, hq _ _ _ _ (d.abs g.abs hlo) q⟩
theorem W.weak {c : Code} {fr2 : Fr} (hle : Fr.le fr2 fr) (h : W P Δ lo c fr2 n H Q) : W P Δ lo c fr n H Q :=
  let ⟨e, fr', n', H', d, q⟩ := h; ⟨e, fr', n', H', .weak hle d, q⟩
theorem WL.weak {all : Array Oper} {o : Oper} {l : List Oper} {fr2 : Fr} (hle : Fr.le fr2 fr) (h : WL P Δ lo [] all (o :: l) fr2 n H Q) : WL P Δ lo [] all (o :: l) fr n H Q :=
  let ⟨e, fr', n', H', d, q⟩ := h; ⟨e, fr', n', H', .ops (by simp) (.weakL hle (d.toD rfl)), q⟩
theorem WL.same {fl : List Bool} {all : Array Oper} {l : List Oper} {fr2 : Fr} (hle : Fr.same fr2 fr) (h : WL P Δ lo fl all l fr2 n H Q) : WL P Δ lo fl all l fr n H Q :=
  let ⟨e, fr', n', H', d, q⟩ := h; ⟨e, fr', n', H', .eqv hle d, q⟩
theorem W.skip (h : Q .norm fr n H) : W P Δ lo .skip fr n H Q := ⟨_, _, _, _, .cskip, h⟩
theorem W.ret (h : Q .ret fr n H) : W P Δ lo .ret fr n H Q := ⟨_, _, _, _, .ret, h⟩
theorem W.exit {id : Nat} (h : Q (.ex id) fr n H) : W P Δ lo (.exit id) fr n H Q := ⟨_, _, _, _, .exit, h⟩
def Ex.thn (K : Fr → Nat → Heap → Prop) (Q : Post) : Post := fun e fr n H => match e with | .norm => K fr n H | e => Q e fr n H
theorem W.seq {a b : Code} (h : W P Δ lo a fr n H (Ex.thn (fun fr1 n1 H1 => W P Δ lo b fr1 n1 H1 Q) Q)) : W P Δ lo (.seq a b) fr n H Q := by
  obtain ⟨e, fr1, n1, H1, d, q⟩ := h
  cases e with
  | norm => obtain ⟨e2, fr2, n2, H2, d2, q2⟩ := q; exact ⟨e2, fr2, n2, H2, .seqN d d2, q2⟩
  | ret => exact ⟨_, _, _, _, .seqE d (by intro h; cases h), q⟩
  | ex id => exact ⟨_, _, _, _, .seqE d (by intro h; cases h), q⟩
  | pan v => exact ⟨_, _, _, _, .seqE d (by intro h; cases h), q⟩
theorem W.cond {c : Operand} {a b : Code} {t : Bool} (hc : fr.eval c = some (.bool t)) (ha : t = true → W P Δ lo a fr n H Q) (hb : t = false → W P Δ lo b fr n H Q) : W P Δ lo (.cond c a b) fr n H Q := by
  cases t with
  | true => obtain ⟨e, fr1, n1, H1, d, q⟩ := ha rfl; exact ⟨e, fr1, n1, H1, .cond hc d, q⟩
  | false => obtain ⟨e, fr1, n1, H1, d, q⟩ := hb rfl; exact ⟨e, fr1, n1, H1, .cond hc d, q⟩
def Ex.blk (id : Nat) (Q : Post) : Post := fun e fr n H => Q (e.out id) fr n H
theorem W.block {id : Nat} {c : Code} (h : W P Δ lo c fr n H (Ex.blk id Q)) : W P Δ lo (.block id c) fr n H Q :=
  let ⟨e, fr', n', H', d, q⟩ := h; ⟨_, fr', n', H', .block d, q⟩
theorem W.loop {c : Code} (h : W P Δ lo c fr n H (Ex.thn (fun fr1 n1 H1 => W P Δ lo (.loop c) fr1 n1 H1 Q) Q)) : W P Δ lo (.loop c) fr n H Q := by
  obtain ⟨e, fr1, n1, H1, d, q⟩ := h
  cases e with
  | norm => obtain ⟨e2, fr2, n2, H2, d2, q2⟩ := q; exact ⟨e2, fr2, n2, H2, .loopN d d2, q2⟩
  | ret => exact ⟨_, _, _, _, .loopE d (by intro h; cases h), q⟩
  | ex id => exact ⟨_, _, _, _, .loopE d (by intro h; cases h), q⟩
  | pan v => exact ⟨_, _, _, _, .loopE d (by intro h; cases h), q⟩
theorem W.region {id : Nat} {l : List Oper} (h : WL P Δ lo [] l.toArray l fr n H Q) : W P Δ lo (.region id l.toArray false) fr n H Q :=
  let ⟨e, fr', n', H', d, q⟩ := h; ⟨e, fr', n', H', .region (by simpa using d.toD rfl), q⟩
theorem W.drop {c : Code} {Q' : Post} (h : W P Δ lo c fr n H Q') (hq : ∀ e fr' n' H', Q' e fr' n' H' → ∃ fr2, Fr.le fr2 fr' ∧ Q e fr2 n' H') : W P Δ lo c fr n H Q :=
  let ⟨e, fr', n', H', d, q⟩ := h; let ⟨fr2, hle, q2⟩ := hq _ _ _ _ q; ⟨e, fr2, n', H', .drop d hle, q2⟩
theorem C.body {f : FuncId} {args : List Value} {fn : Func} {c : Code} {R : Value → Nat → Heap → Prop} (hfn : P.funcs[f]? = some fn) (hb : fn.body = some c) (hd : dstsOK fn.ntmps c = true)
    (h : W P Δ lo c (argFr 0 args) n H (fun e fr' n' H' => (e = .norm ∨ e = .ret) ∧ ∃ vs, ResL P H' fr' fn.results.toList vs ∧ R (retV vs) n' H')) : C P Δ lo f args n H R :=
  let ⟨e, fr', n', H', d, he, vs, hr, q⟩ := h; ⟨_, n', H', .body hfn hb hd d he hr, q⟩
section ops
variable {all : Array Oper} {l : List Oper} {o : Oper} {d : Nat}
theorem WL.nil {fl : List Bool} (h : Q .norm fr n H) : WL P Δ lo fl all [] fr n H Q := ⟨_, _, _, _, .nil, h⟩
theorem WL.skip {fl fl2 : List Bool} {lw : Nat} (hfl : IsFl fl lo n lw fl2) (hd : o.dst = some d) (hw : wantedA all o fr = some false) (k : WL P Δ lo fl2 all l ((d, undef) :: fr) n H Q) : WL P Δ lo fl all (o :: l) fr n H Q := by
  obtain ⟨e, fr', n', H', dd, q⟩ := k
  refine ⟨e, fr', n', H', .skip hfl hw ?_, q⟩
  rw [hd]; exact dd
theorem WL.skip0 {fl fl2 : List Bool} {lw : Nat} (hfl : IsFl fl lo n lw fl2) (hd : o.dst = none) (hw : wantedA all o fr = some false) (k : WL P Δ lo fl2 all l fr n H Q) : WL P Δ lo fl all (o :: l) fr n H Q := by
  obtain ⟨e, fr', n', H', dd, q⟩ := k
  refine ⟨e, fr', n', H', .skip hfl hw ?_, q⟩
  rw [hd]; exact dd
theorem WL.split {fl : List Bool} {j : Nat} {b want : Bool} {t : Nat} (hg : o.guard = some (j, want)) (hj : (all[j]?).bind (·.dst) = some t) (hv : fr.get t = some (.bool b))
    (h1 : b = want → ∀ _ : wantedA all o fr = some true, WL P Δ lo fl all (o :: l) fr n H Q) (h0 : b = (!want) → ∀ _ : wantedA all o fr = some false, WL P Δ lo fl all (o :: l) fr n H Q) : WL P Δ lo fl all (o :: l) fr n H Q := by
  have hw : wantedA all o fr = some (b == want) := by simp only [wantedA, hg, hj, hv]
  cases b <;> cases want
  · exact h1 rfl hw
  · exact h0 rfl hw
  · exact h0 rfl hw
  · exact h1 rfl hw
theorem WL.guard {fl : List Bool} {j : Nat} {b want : Bool} {t : Nat} (hg : o.guard = some (j, want)) (hj : (all[j]?).bind (·.dst) = some t) (hv : fr.get t = some (.bool b))
    (h1 : b = true → WL P Δ lo fl all (o :: l) ((t, .bool true) :: fr) n H Q) (h0 : b = false → WL P Δ lo fl all (o :: l) ((t, .bool false) :: fr) n H Q) : WL P Δ lo fl all (o :: l) fr n H Q := by
  cases b with
  | true => exact WL.same (Fr.same_known hv) (h1 rfl)
  | false => exact WL.same (Fr.same_known hv) (h0 rfl)
theorem WL.known {fl : List Bool} (hw : wantedA all o fr = some true) (k : WL P Δ lo fl all (o :: l) fr n H Q) : WL P Δ lo fl all (o :: l) fr n H Q := k
theorem Ex.thn_norm {K : Fr → Nat → Heap → Prop} (h : K fr n H) : Ex.thn K Q .norm fr n H := h
theorem Ex.thn_ret {K : Fr → Nat → Heap → Prop} (h : Q .ret fr n H) : Ex.thn K Q .ret fr n H := h
theorem Ex.thn_ex {K : Fr → Nat → Heap → Prop} {id : Nat} (h : Q (.ex id) fr n H) : Ex.thn K Q (.ex id) fr n H := h
theorem Ex.blk_norm {id : Nat} (h : Q .norm fr n H) : Ex.blk id Q .norm fr n H := h
theorem Ex.blk_ret {id : Nat} (h : Q .ret fr n H) : Ex.blk id Q .ret fr n H := h
theorem Ex.blk_ex {id id' : Nat} (h : Q (if id' = id then .norm else .ex id') fr n H) : Ex.blk id Q (.ex id') fr n H := h
theorem Ex.blk_here {id : Nat} (h : Q .norm fr n H) : Ex.blk id Q (.ex id) fr n H := by simp only [Ex.blk, Ex.out, if_true]; exact h
theorem Ex.blk_out {id id' : Nat} (hne : id' ≠ id) (h : Q (.ex id') fr n H) : Ex.blk id Q (.ex id') fr n H := by simp only [Ex.blk, Ex.out, hne, if_false]; exact h
theorem WL.step {fl fl2 : List Bool} {lw : Nat} (hfl : IsFl fl lo n lw fl2) {v : Value} {n1 : Nat} {H1 : Heap} (h : D P Δ (.op lw o fr n H v n1 H1)) (hd : o.dst = some d) (hw : wantedA all o fr = some true) (k : WL P Δ lo fl2 all l ((d, v) :: fr) n1 H1 Q) : WL P Δ lo fl all (o :: l) fr n H Q := by
  obtain ⟨e, fr', n', H', dd, q⟩ := k
  refine ⟨e, fr', n', H', .cons hfl hw h ?_, q⟩
  rw [hd]; exact dd
theorem WL.step0 {fl fl2 : List Bool} {lw : Nat} (hfl : IsFl fl lo n lw fl2) {v : Value} {n1 : Nat} {H1 : Heap} (h : D P Δ (.op lw o fr n H v n1 H1)) (hd : o.dst = none) (hw : wantedA all o fr = some true) (k : WL P Δ lo fl2 all l fr n1 H1 Q) : WL P Δ lo fl all (o :: l) fr n H Q := by
  obtain ⟨e, fr', n', H', dd, q⟩ := k
  refine ⟨e, fr', n', H', .cons hfl hw h ?_, q⟩
  rw [hd]; exact dd
theorem WL.move {fl fl2 : List Bool} {lw : Nat} (hfl : IsFl fl lo n lw fl2) {x : Operand} {v : Value} (ho : o.op = .move x) (hd : o.dst = some d) (hw : wantedA all o fr = some true) (hx : fr.eval x = some v) (k : WL P Δ lo fl2 all l ((d, v) :: fr) n H Q) : WL P Δ lo fl all (o :: l) fr n H Q :=
  WL.step hfl (.step (.move (.inl ho) hx)) hd hw k
theorem WL.assign {fl fl2 : List Bool} {lw : Nat} (hfl : IsFl fl lo n lw fl2) {x : Operand} {v : Value} (ho : o.op = .assign x) (hd : o.dst = some d) (hw : wantedA all o fr = some true) (hx : fr.eval x = some v) (k : WL P Δ lo fl2 all l ((d, v) :: fr) n H Q) : WL P Δ lo fl all (o :: l) fr n H Q :=
  WL.step hfl (.step (.move (.inr ho) hx)) hd hw k
theorem WL.pick {fl fl2 : List Bool} {lw : Nat} (hfl : IsFl fl lo n lw fl2) {c a b : Operand} {t : Bool} {v : Value} (ho : o.op = .pick c a b) (hd : o.dst = some d) (hw : wantedA all o fr = some true) (hc : fr.eval c = some (.bool t)) (hv : fr.eval (if t then a else b) = some v) (k : WL P Δ lo fl2 all l ((d, v) :: fr) n H Q) : WL P Δ lo fl all (o :: l) fr n H Q :=
  WL.step hfl (.step (.pick ho hc hv)) hd hw k
def binI (op : BinOp) (k : IntKind) (a : Int) (k' : IntKind) (b : Int) : Option Value :=
  match op with
  | .shl => if b < 0 then none else some (.int k (k.wrap (a * 2 ^ (min b.toNat k.bits))))
  | .shr => if b < 0 then none else some (.int k (a.fdiv (2 ^ (min b.toNat k.bits))))
  | .add => if k = k' then some (.int k (k.wrap (a + b))) else none
  | .sub => if k = k' then some (.int k (k.wrap (a - b))) else none
  | .mul => if k = k' then some (.int k (k.wrap (a * b))) else none
  | .quo => if k = k' then if b = 0 then none else some (.int k (k.wrap (a.tdiv b))) else none
  | .rem => if k = k' then if b = 0 then none else some (.int k (a.tmod b)) else none
  | .and => if k = k' then some (.int k (k.wrap (BitVec.ofInt k.bits a &&& BitVec.ofInt k.bits b).toNat)) else none
  | .or => if k = k' then some (.int k (k.wrap (BitVec.ofInt k.bits a ||| BitVec.ofInt k.bits b).toNat)) else none
  | .xor => if k = k' then some (.int k (k.wrap (BitVec.ofInt k.bits a ^^^ BitVec.ofInt k.bits b).toNat)) else none
  | .andNot => if k = k' then some (.int k (k.wrap (BitVec.ofInt k.bits a &&& ~~~ BitVec.ofInt k.bits b).toNat)) else none
  | .eql => if k = k' then some (.bool (decide (a = b))) else none
  | .neq => if k = k' then some (.bool (!decide (a = b))) else none
  | .lss => if k = k' then some (.bool (decide (a < b))) else none
  | .leq => if k = k' then some (.bool (decide (a ≤ b))) else none
  | .gtr => if k = k' then some (.bool (decide (b < a))) else none
  | .geq => if k = k' then some (.bool (decide (b ≤ a))) else none
theorem gr_binI {op : BinOp} {k k' : IntKind} {a b : Int} {v : Value} (h : binI op k a k' b = some v) : Gr v := by
  cases op <;> simp only [binI] at h <;> repeat' split at h
  all_goals first | (cases h; done) | (obtain rfl := Option.some.inj h; first | exact gr_int _ _ | exact gr_bool _)
theorem binI_run {op : BinOp} {t t' : TypeId} {k k' : IntKind} {a b : Int} {v : Value} (h : binI op k a k' b = some v) {o : Oper} {x y : Operand} (ho : o.op = .binOp op t x y t') {ev : Operand → Value} (hx : ev x = .int k a) (hy : ev y = .int k' b) (w : World) :
    (execOp ev o).run P w = .ok (.value v) w := by
  obtain ⟨dst, op', ty, pos, after, guard⟩ := o
  simp only at ho; subst ho
  cases op <;> simp only [binI] at h <;> repeat' split at h
  all_goals first
    | (cases h; done)
    | (subst_vars
       obtain rfl := Option.some.inj h
       simp_all [execOp, eqGuard, binOp, Op.intArith, Op.intDiv, Op.intBits, Op.intCmp, Op.shift, Int.not_lt]
       done)
    | (subst_vars
       obtain rfl := Option.some.inj h
       simp_all [execOp, eqGuard, binOp, Op.intArith, Op.intDiv, Op.intBits, Op.intCmp, Op.shift, Int.not_lt]
       first | rfl | (intro hh; omega))
theorem WL.bin {fl fl2 : List Bool} {lw : Nat} (hfl : IsFl fl lo n lw fl2) {op : BinOp} {t t' : TypeId} {x y : Operand} {k k' : IntKind} {a b : Int} {v : Value} (ho : o.op = .binOp op t x y t') (hd : o.dst = some d) (hw : wantedA all o fr = some true) (hx : fr.eval x = some (.int k a)) (hy : fr.eval y = some (.int k' b))
    (hv : binI op k a k' b = some v) (kk : WL P Δ lo fl2 all l ((d, v) :: fr) n H Q) : WL P Δ lo fl all (o :: l) fr n H Q := by
  refine WL.step hfl (.step (.ground (fun cs b h => by rw [ho] at h; cases h) (fun z hz => ?_) (gr_binI hv) (fun w => binI_run hv ho (by rw [hx]; rfl) (by rw [hy]; rfl) w))) hd hw kk
  rw [ho] at hz
  simp only [Op.operands] at hz
  have : z = x ∨ z = y := by simpa using hz
  rcases this with rfl | rfl
  · exact ⟨_, hx, gr_int _ _⟩
  · exact ⟨_, hy, gr_int _ _⟩
end ops
end
end Go.Proofs.YtmodhnkjimpkbaaAb
