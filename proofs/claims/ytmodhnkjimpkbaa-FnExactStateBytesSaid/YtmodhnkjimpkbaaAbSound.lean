import Derived.Test.YtmodhnkjimpkbaaAbReg4
set_option linter.all false
namespace Go.Proofs.YtmodhnkjimpkbaaAb
open Go
def FrR (ρ : Rho) (fr : Fr) (tmps : Array Value) : Prop := ∀ t u, fr.get t = some u → t < tmps.size ∧ VR ρ u (tmps.getD t undef)
theorem FrR.mono {ρ ρ' : Rho} (h : ρ.le ρ') {fr : Fr} {tmps : Array Value} (hf : FrR ρ fr tmps) : FrR ρ' fr tmps := fun t u hu => ⟨(hf t u hu).1, (hf t u hu).2.mono h⟩
theorem FrR.put {ρ : Rho} {fr : Fr} {a : Act} (hf : FrR ρ fr a.tmps) {dst : Option Tmp} {v v' : Value} (hd : ∀ d, dst = some d → d < a.tmps.size) (hV : VR ρ v v') : FrR ρ (fr.put dst v) (a.put dst v').tmps := by
  cases dst with
  | none => exact hf
  | some d =>
    intro t u hu
    simp only [Fr.put, Fr.get] at hu
    simp only [Act.put, Array.size_setIfInBounds]
    by_cases h : d = t
    · rw [if_pos h] at hu
      obtain rfl := Option.some.inj hu
      subst h
      refine ⟨hd _ rfl, ?_⟩
      simp only [Array.getD_eq_getD_getElem?]
      rw [Array.getElem?_setIfInBounds_self_of_lt (hd _ rfl)]
      exact hV
    · rw [if_neg h] at hu
      obtain ⟨h1, h2⟩ := hf t u hu
      refine ⟨h1, ?_⟩
      simp only [Array.getD_eq_getD_getElem?] at h2 ⊢
      rw [Array.getElem?_setIfInBounds_ne h]
      exact h2
theorem Act.put_size (a : Act) (dst : Option Tmp) (v : Value) : (a.put dst v).tmps.size = a.tmps.size := by cases dst <;> simp [Act.put]
theorem Act.put_def (a : Act) (dst : Option Tmp) (v : Value) : (a.put dst v).defers = a.defers := by cases dst <;> rfl
inductive ExR (ρ : Rho) : Ex → Exit → Prop
  | norm : ExR ρ .norm .normal
  | ret : ExR ρ .ret .ret
  | ex (id : Nat) : ExR ρ (.ex id) (.exit id)
  | pan (v v' : Value) (h : VR ρ v v') : ExR ρ (.pan v) (.panic [{ v := v', recovered := false }])
inductive EnR (ρ : Rho) : En → Ending → Prop
  | ret (v v' : Value) (h : VR ρ v v') : EnR ρ (.ret v) (.returned v')
  | pan (v v' : Value) (h : VR ρ v v') : EnR ρ (.pan v) (.panicked [{ v := v', recovered := false }])
theorem Ok.trans {β lo : Nat} {ρ ρ1 ρ2 : Rho} {n n1 n2 : Nat} {H H1 H2 : Heap} {w w1 w2 : World} (hlo : lo ≤ n) (a : Ok β lo ρ n H w ρ1 n1 H1 w1) (b : Ok β lo ρ1 n1 H1 w1 ρ2 n2 H2 w2) : Ok β lo ρ n H w ρ2 n2 H2 w2 := by
  have h1 := a.le
  have h2 := b.le
  refine ⟨b.sim, by omega, fun i hi => by rw [b.old i (by omega)]; exact a.old i hi, fun i hi => by rw [b.far i hi]; exact a.far i (by omega), fun i hi => by rw [b.low i hi]; exact a.low i hi,
    by have := a.size; have := b.size; omega, fun B hB hne => ?_, fun i s hi hi2 hr => ?_, fun i hi h => b.dead i (by omega) (a.dead i hi h), a.out.trans b.out⟩
  · rw [b.keep B (by have := a.size; omega) ?_]
    · exact a.keep B hB hne
    · intro i s hi hi1 hl hr
      by_cases hin : i < n
      · rw [a.old i hin] at hr
        refine hne i s hi hin ?_ hr
        cases h0 : H i with
        | none => rw [a.dead i hin h0] at hl; cases hl
        | some o => rfl
      · rcases a.fresh i s (by omega) hi1 hr with h | ⟨j, t, c1, c2, c3, c4, c5⟩
        · omega
        · rw [← c5]; exact hne j t c1 c2 c3 c4
  · by_cases hi1 : i < n1
    · rw [b.old i hi1] at hr; exact a.fresh i s hi hi1 hr
    · rcases b.fresh i s (by omega) hi2 hr with h | ⟨j, t, c1, c2, c3, c4, c5⟩
      · exact .inl (by have := a.size; omega)
      · by_cases hjn : j < n
        · refine .inr ⟨j, t, c1, hjn, ?_, by rw [← a.old j hjn]; exact c4, c5⟩
          cases h0 : H j with
          | none => rw [a.dead j hjn h0] at c3; cases c3
          | some o => rfl
        · rcases a.fresh j t (by omega) c2 c4 with h | ⟨q, x, d1, d2, d3, d4, d5⟩
          · exact .inl (by omega)
          · exact .inr ⟨q, x, d1, d2, d3, d4, by rw [d5, c5]⟩
theorem Ok.lower {β lo lo' : Nat} {ρ ρ1 : Rho} {n n1 : Nat} {H H1 : Heap} {w w1 : World} (h : lo ≤ lo') (a : Ok β lo' ρ n H w ρ1 n1 H1 w1) : Ok β lo ρ n H w ρ1 n1 H1 w1 :=
  ⟨a.sim, a.le, a.old, a.far, fun i hi => a.low i (by omega), a.size, fun B hB hne => a.keep B hB fun i s h1 h2 h3 h4 => hne i s (by omega) h2 h3 h4,
    fun i s h1 h2 h3 => (a.fresh i s h1 h2 h3).imp id fun ⟨j, t, c1, c2, c3, c4, c5⟩ => ⟨j, t, by omega, c2, c3, c4, c5⟩, a.dead, a.out⟩
def CallSnd (P : Program) (β lo : Nat) (f : FuncId) (args : List Value) (n : Nat) (H : Heap) (e : En) (n' : Nat) (H' : Heap) : Prop :=
  ∀ (ρ : Rho) (w : World) (cargs : Array Value), cargs.size = args.length → (∀ (k : Nat) u, args[k]? = some u → ∃ u', cargs[k]? = some u' ∧ VR ρ u u') → Sim β ρ H w → (∀ i, n ≤ i → H i = none) → (∀ i, n ≤ i → i < n' → ρ i = none) →
    ∀ R : Ending → World → Prop, (∀ ρ' e' w', EnR ρ' e e' → Ok β lo ρ n H w ρ' n' H' w' → R e' w') → Calls P f cargs w R
def loopWp (P : Program) (c : Code) (Q : Exit → Act → World → Prop) (a : Act) (w : World) : Prop :=
  ∀ (b : Frame) (k : List Item) (cs : List Frame), ∃ e a' w', Q e a' w' ∧ Arrives P (lone (b.at a (.code c :: .inLoop c :: k)) cs w) b k cs e a' w'
def Wq (P : Program) : Code → (Exit → Act → World → Prop) → Act → World → Prop
  | .loop c => loopWp P c
  | c => c.wp P
theorem loopWp.wp {P : Program} {c : Code} {Q : Exit → Act → World → Prop} {a : Act} {w : World} (h : loopWp P c Q a w) : (Code.loop c).wp P Q a w :=
  fun b k cs => let ⟨e, a', w', q, r⟩ := h b k cs; ⟨e, a', w', q, .of_steps (.one step_loop) r⟩
theorem Wq.wp {P : Program} {c : Code} {Q : Exit → Act → World → Prop} {a : Act} {w : World} (h : Wq P c Q a w) : c.wp P Q a w := by
  cases c <;> first | exact loopWp.wp h | exact h
theorem loopWp_round {P : Program} {c : Code} {Q : Exit → Act → World → Prop} {a : Act} {w : World} (h : c.wp P (Exit.then (loopWp P c Q) Q) a w) : loopWp P c Q a w := by
  intro b k cs
  obtain ⟨e, a₁, w₁, hq, harr⟩ := h b (.inLoop c :: k) cs
  cases e with
  | normal =>
    obtain ⟨e₂, a₂, w₂, hq₂, harr₂⟩ := hq b k cs
    exact ⟨e₂, a₂, w₂, hq₂, .of_steps (Steps.trans harr (.one step_inLoop)) harr₂⟩
  | exit id => exact ⟨_, a₁, w₁, hq, .pass (x := .inLoop c) rfl (fun _ _ => .inl (by simp)) harr⟩
  | goto l => exact ⟨_, a₁, w₁, hq, .pass (x := .inLoop c) rfl (fun _ _ => .inl (by simp)) harr⟩
  | ret => exact ⟨_, a₁, w₁, hq, .pass (x := .inLoop c) rfl (fun _ _ => .inl (by simp)) harr⟩
  | panic ch => exact ⟨_, a₁, w₁, hq, .pass (x := .inLoop c) rfl (fun _ _ => .inl (by simp)) harr⟩
  | outgrown => exact ⟨_, a₁, w₁, hq, .pass (x := .inLoop c) rfl (fun _ _ => .inl (by simp)) harr⟩
def J.Snd (P : Program) (β : Nat) : J → Prop
  | .op lo o fr n H v n' H' => β ≤ lo → lo ≤ n → OpSnd P β lo o fr n H v n' H'
  | .ops lo all l fr n H e fr' n' H' => β ≤ lo → lo ≤ n → ∀ (ρ : Rho) (a : Act) (w : World), FrR ρ fr a.tmps → Sim β ρ H w → (∀ i, n ≤ i → H i = none) → (∀ i, n ≤ i → i < n' → ρ i = none) → (∀ o ∈ l, opDst a.tmps.size o = true) →
      ∀ Q : Exit → Act → World → Prop, (∀ ρ' e' a' w', ExR ρ' e e' → Ok β lo ρ n H w ρ' n' H' w' → FrR ρ' fr' a'.tmps → a'.tmps.size = a.tmps.size → a'.defers = a.defers → Q e' a' w') → wpList P all Q l a w
  | .code lo c fr n H e fr' n' H' => β ≤ lo → lo ≤ n → ∀ (ρ : Rho) (a : Act) (w : World), FrR ρ fr a.tmps → Sim β ρ H w → (∀ i, n ≤ i → H i = none) → (∀ i, n ≤ i → i < n' → ρ i = none) → dstsOK a.tmps.size c = true →
      ∀ Q : Exit → Act → World → Prop, (∀ ρ' e' a' w', ExR ρ' e e' → Ok β lo ρ n H w ρ' n' H' w' → FrR ρ' fr' a'.tmps → a'.tmps.size = a.tmps.size → a'.defers = a.defers → Q e' a' w') → Wq P c Q a w
  | .call lo f args n H e n' H' => β ≤ lo → lo ≤ n → CallSnd P β lo f args n H e n' H'
section
variable {P : Program} {β : Nat}
noncomputable def only (o : Oper) (ev : Operand → Option Value) : Operand → Option Value := fun x => open Classical in if x ∈ o.op.operands then ev x else none
theorem only_in {o : Oper} {ev : Operand → Option Value} {x : Operand} (h : x ∈ o.op.operands) : only o ev x = ev x := by simp [only, h]
theorem lands_wp {lo : Nat} {ρ : Rho} {n : Nat} {H : Heap} {w : World} {a : Act} {o : Oper} {v : Value} {n' : Nat} {H' : Heap} (h : Lands P β lo ρ n H w a.eval o v n' H') {K : Act → World → Prop} {Q : Exit → Act → World → Prop}
    (hK : ∀ ρ' v' w', VR ρ' v v' → Ok β lo ρ n H w ρ' n' H' w' → K (a.put o.dst v') w') : o.wp P a w K Q := by
  obtain ⟨v', w', ρ', hr, hV, hok⟩ := h
  unfold Oper.wp
  rcases hr with hr | ⟨hr, rfl⟩
  · rw [hr]; exact hK ρ' v' w' hV hok
  · rw [hr]; exact hK ρ' undef w' hV hok
theorem step_snd {lo : Nat} {o : Oper} {fr : Fr} {n : Nat} {H : Heap} {v : Value} {n' : Nat} {H' : Heap} (h : Step P lo fr.eval n H o v n' H') (hβ : β ≤ lo) (hlo : lo ≤ n) : OpSnd0 P β lo o fr n H v n' H' := by
  intro ρ a w hev hs hf K Q hK
  have h' := h.restrict (ev' := only o fr.eval) (fun x hx => only_in hx)
  exact lands_wp (h'.sound hβ hlo (fun x u hu => by
    unfold only at hu
    split at hu
    · rename_i hx; exact hev x hx u hu
    · cases hu) hs hf) hK
theorem stepM_snd {lo : Nat} {o : Oper} {fr : Fr} {n : Nat} {H : Heap} {v : Value} {n' : Nat} {H' : Heap} (h : StepM P lo fr.eval n H o v n' H') (hβ : β ≤ lo) (hlo : lo ≤ n) : OpSnd0 P β lo o fr n H v n' H' := by
  intro ρ a w hev hs hf K Q hK
  have h' := h.restrict (ev' := only o fr.eval) (fun x hx => only_in hx)
  exact lands_wp (h'.sound hβ hlo (fun x u hu => by
    unfold only at hu
    split at hu
    · rename_i hx; exact hev x hx u hu
    · cases hu) hs hf) hK
theorem frr_reads {ρ : Rho} {fr : Fr} {a : Act} (hf : FrR ρ fr a.tmps) {ops : Array Oper} {o : Oper} : ∀ t ∈ o.looksAt ops, ∀ u, fr.get t = some u → t < a.tmps.size ∧ VR ρ u (a.tmps.getD t undef) := fun t _ u hu => hf t u hu
theorem call_run {o : Oper} {x : Operand} {xs : Array Operand} {ts : Array TypeId} (ho : o.op = .call { callee := .value x, args := xs, argTypes := ts }) {evc : Operand → Value} {f : FuncId} {first cap : Array Value} {fn : Func}
    (hx : evc x = .func (.func f) first cap) (hfn : P.funcs[f]? = some fn) (hname : (fn.name == "runtime.NumGoroutine") = false) (hbody : fn.body.isNone = false) (w : World) :
    (execOp evc o).run P w = .ok (.enter f (first ++ xs.map evc ++ cap)) w := by
  obtain ⟨dst, op, ty, pos, after, guard⟩ := o
  simp only at ho; subst ho
  have h1 : ¬ fn.name = "runtime.NumGoroutine" := by simpa using hname
  have h2 : ¬ fn.body = none := by intro h; rw [h] at hbody; cases hbody
  simp [execOp, resolve, hx, Deferred.ofValue, invoke, callFunc, hfn, h1, h2]
theorem call_args {ρ : Rho} {ev : Operand → Option Value} {evc : Operand → Value} {xs : Array Operand} {as : List Value} (hev : ∀ x ∈ xs, ∀ u, ev x = some u → VR ρ u (evc x)) (ha : xs.toList.mapM ev = some as) {f : Fn} {first cap first' cap' : Array Value}
    (hF : VR ρ (.func f first cap) (.func f first' cap')) :
    (first' ++ xs.map evc ++ cap').size = (first.toList ++ as ++ cap.toList).length ∧ ∀ (k : Nat) u, (first.toList ++ as ++ cap.toList)[k]? = some u → ∃ u', (first' ++ xs.map evc ++ cap')[k]? = some u' ∧ VR ρ u u' := by
  cases hF with
  | func f a a' c c' h1 h2 h3 h4 =>
    have key : ∀ (l : List Operand) (as : List Value), (∀ x ∈ l, ∀ u, ev x = some u → VR ρ u (evc x)) → l.mapM ev = some as → as.length = l.length ∧ ∀ (k : Nat) u, as[k]? = some u → ∃ u', (l.map evc)[k]? = some u' ∧ VR ρ u u' := by
      intro l
      induction l with
      | nil => intro as _ h; simp at h; subst h; simp
      | cons x l ih =>
        intro as hx h
        simp only [List.mapM_cons, bind, pure, Option.bind_eq_some_iff] at h
        obtain ⟨v, hv, r, hr, hc⟩ := h
        obtain rfl := Option.some.inj hc
        obtain ⟨i1, i2⟩ := ih r (fun y hy => hx y (by simp [hy])) hr
        refine ⟨by simp [i1], fun k u hk => ?_⟩
        cases k with
        | zero => simp at hk; subst hk; exact ⟨evc x, by simp, hx x (by simp) v hv⟩
        | succ k => simpa using i2 k u (by simpa using hk)
    obtain ⟨l1, l2⟩ := key xs.toList as (fun x hx => hev x (by simpa using hx)) ha
    refine ⟨by simp [l1, h1, h2], fun k u hk => ?_⟩
    have hlen : as.length = xs.size := by simpa using l1
    rw [Array.getElem?_append, Array.getElem?_append]
    by_cases hk1 : k < first.size
    · rw [List.append_assoc, List.getElem?_append_left (by simpa using hk1)] at hk
      have hk2 : first[k]? = some u := by simpa using hk
      rw [if_pos (by simp; omega), if_pos (by omega)]
      rw [Array.getElem?_eq_getElem hk1] at hk2
      obtain rfl := Option.some.inj hk2
      exact ⟨first'[k]'(by omega), Array.getElem?_eq_getElem (by omega), h3 k hk1 (by omega)⟩
    · by_cases hk2 : k < first.size + as.length
      · rw [List.append_assoc, List.getElem?_append_right (by simpa using (by omega : first.size ≤ k)), List.getElem?_append_left (by simp; omega)] at hk
        rw [if_pos (by simp; omega), if_neg (by omega)]
        obtain ⟨u', p, q⟩ := l2 _ u hk
        refine ⟨u', ?_, q⟩
        rw [← p]
        simp only [Array.getElem?_map, List.getElem?_map, Array.getElem?_toList, Array.length_toList, h1]
      · rw [List.getElem?_append_right (by simp; omega)] at hk
        rw [if_neg (by simp; omega)]
        have hk3 : cap[k - (first.size + as.length)]? = some u := by
          simp only [List.length_append, Array.length_toList] at hk
          simpa using hk
        obtain ⟨hk4, hk5⟩ := Array.getElem?_eq_some_iff.1 hk3
        subst hk5
        refine ⟨cap'[k - (first.size + as.length)]'(by omega), ?_, h4 _ hk4 (by omega)⟩
        rw [Array.getElem?_eq_getElem (by simp; omega)]
        congr 1
        simp [h1, hlen]
theorem resV_run {ρ : Rho} {H : Heap} {w : World} {fr : Fr} {tmps : Array Value} (hs : Sim β ρ H w) (hf : FrR ρ fr tmps) {r : ResultVar} {v : Value} (h : ResV P H fr r v) :
    ∃ v', ((match r with | .tmp t => pure (tmps.getD t undef) | .cell a t => (do loadVar t (← asAddr (tmps.getD a undef))) : Sem Value)).run P w = .ok v' w ∧ VR ρ v v' := by
  cases h with
  | tmp h => exact ⟨_, rfl, (hf _ _ h).2⟩
  | cell1 ha ht hd hb hk =>
    obtain ⟨s, hr, hx⟩ := (hf _ _ ha).2.ptr_inv
    obtain ⟨v', h1, h2⟩ := hs.cell hb hr hk
    exact ⟨v', by simp [hx, asAddr, loadVar, isAgg_run ht, hd, h1], h2⟩
  | cellN ha ht hd hi hb hk hl =>
    obtain ⟨s, hr, hx⟩ := (hf _ _ ha).2.ptr_inv
    obtain ⟨l', h1, h2, h3⟩ := loadCells_sim (P := P) hs hb hr hk hl
    exact ⟨.agg l'.toArray, by simp [hx, asAddr, loadVar, isAgg_run ht, hd, sizeOf, typeInfo, hi, h1], VR.agg_of (by simp [hl, h2]) fun k u hk => by simpa using h3 k u (by simpa using hk)⟩
theorem resL_run {ρ : Rho} {H : Heap} {w : World} {fr : Fr} {tmps : Array Value} (hs : Sim β ρ H w) (hf : FrR ρ fr tmps) : ∀ {rs : List ResultVar} {vs : List Value}, ResL P H fr rs vs →
    ∃ vs', (rs.mapM (fun r => (match r with | .tmp t => pure (tmps.getD t undef) | .cell a t => (do loadVar t (← asAddr (tmps.getD a undef))) : Sem Value))).run P w = .ok vs' w ∧ vs'.length = vs.length ∧ ∀ (k : Nat) u, vs[k]? = some u → ∃ u', vs'[k]? = some u' ∧ VR ρ u u' := by
  intro rs vs h
  induction h with
  | nil => exact ⟨[], by simp, rfl, fun k u hk => by simp at hk⟩
  | cons h hs' ih =>
    obtain ⟨v', h1, h2⟩ := resV_run hs hf h
    obtain ⟨vs', h3, h4, h5⟩ := ih
    refine ⟨v' :: vs', ?_, by simp [h4], fun k u hk => ?_⟩
    · rw [List.mapM_cons, Sem.run_bind, h1]
      simp only [Result.andThen_ok, Sem.run_bind, h3]
      rfl
    · cases k with
      | zero => simp at hk; subst hk; exact ⟨v', rfl, h2⟩
      | succ k => simpa using h5 k u (by simpa using hk)
theorem results_run {ρ : Rho} {H : Heap} {w : World} {fr : Fr} {tmps : Array Value} (hs : Sim β ρ H w) (hf : FrR ρ fr tmps) {fn : Func} {vs : List Value} (h : ResL P H fr fn.results.toList vs) :
    ∃ v', (results fn tmps).run P w = .ok v' w ∧ VR ρ (retV vs) v' := by
  obtain ⟨vs', h1, h2, h3⟩ := resL_run hs hf h
  refine ⟨if h : vs'.toArray.size = 1 then vs'.toArray[0] else .tuple vs'.toArray, ?_, ?_⟩
  · unfold results
    rw [Sem.run_bind, Array.mapM_eq_mapM_toList, map_eq_pure_bind, Sem.run_bind]
    erw [h1]
    rfl
  · match vs, vs', h2, h3 with
    | [v], [v'], _, h3 => obtain ⟨u', a, b⟩ := h3 0 v rfl; simp at a; subst a; exact b
    | [], [], _, h3 => exact .tuple _ _ rfl fun i h => absurd h (by simp)
    | v1 :: v2 :: vs, v1' :: v2' :: vs', h2, h3 =>
      have hne : ¬ ((v1' :: v2' :: vs').toArray.size = 1) := by simp
      rw [dif_neg hne]
      refine .tuple _ _ (by simpa using h2.symm) fun i a b => ?_
      obtain ⟨u', p, q⟩ := h3 i ((v1 :: v2 :: vs).toArray[i]) (by rw [← List.getElem?_toArray]; exact Array.getElem?_eq_getElem a)
      rw [← List.getElem?_toArray, Array.getElem?_eq_getElem b] at p
      rw [Option.some.inj p]; exact q
theorem argFr_get : ∀ (args : List Value) (k t : Nat) (u : Value), (argFr k args).get t = some u → k ≤ t ∧ args[t - k]? = some u
  | [], k, t, u, h => by simp [argFr, Fr.get] at h
  | v :: vs, k, t, u, h => by
    simp only [argFr, Fr.get] at h
    split at h
    · rename_i hk; subst hk; exact ⟨Nat.le_refl _, by simpa using h⟩
    · obtain ⟨h1, h2⟩ := argFr_get vs (k + 1) t u h
      refine ⟨by omega, ?_⟩
      rw [show t - k = (t - (k + 1)) + 1 by omega]
      simpa using h2
theorem Ex.out_rel {ρ : Rho} {id : Nat} {e : Ex} {e' : Exit} (h : ExR ρ e e') {Q : Exit → Act → World → Prop} {a : Act} {w : World} (hQ : ∀ e'', ExR ρ (e.out id) e'' → Q e'' a w) : Exit.inBlock id Q e' a w := by
  cases h with
  | norm => exact hQ _ .norm
  | ret => exact hQ _ .ret
  | ex id' =>
    simp only [Exit.inBlock]
    by_cases hid : id' = id
    · rw [if_pos hid]; exact hQ _ (by simp only [Ex.out, hid, if_true]; exact .norm)
    · rw [if_neg hid]; exact hQ _ (by simp only [Ex.out, hid, if_false]; exact .ex id')
  | pan v v' h => exact hQ _ (.pan v v' h)
theorem wanted_run {ρ : Rho} {fr : Fr} {all : Array Oper} {o : Oper} {b : Bool} {a : Act} (hf : FrR ρ fr a.tmps) (hw : wantedA all o fr = some b) : Region.wanted o (yielded all a.tmps) = b :=
  wanted_eq hw (frr_reads hf)
end
end Go.Proofs.YtmodhnkjimpkbaaAb
