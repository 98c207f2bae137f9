import Derived.Test.YtmodhnkjimpkbaaAbReg2
set_option linter.all false
namespace Go.Proofs.YtmodhnkjimpkbaaAb
open Go
section
variable {P : Program} {β lo : Nat} {ops : Array Oper} {r : List Nat} {isW wk : Nat → Bool} {fr : Nat → Fr} {n : Nat → Nat} {H : Nat → Heap} {v : Nat → Value}
  {ρ0 : Rho} {a0 : Act} {w0 : World} {listed : Array Bool} {a : Act} {w : World} {ρ : Rho} {c : Nat}
theorem Inv.reads (g : Reg P β lo ops r isW wk fr n H v) (I : Inv β lo ops r isW fr n H v ρ0 a0 w0 listed a w ρ c) {k : Nat} (hk : k < ops.size) (hready : r.getD k 0 ∈ Region.ready .any ops listed) :
    ∀ t ∈ (ops.getD (r.getD k 0) default).looksAt ops, ∀ u, (fr k).get t = some u → t < a.tmps.size ∧ VR ρ u (a.tmps.getD t undef) := by
  intro t ht u hu
  have hF := g.facts
  have hlt : r.getD k 0 < listed.size := by rw [I.lsize]; exact hF.into k hk
  have hunk : listed.getD (r.getD k 0) false = false := by rw [← getD_true_false hlt]; exact (mem_ready.1 hready).1
  rcases fr_get g.hfr k (by omega) t u hu with ⟨j, hj, hd, rfl⟩ | ⟨hno, h0⟩
  · have hjm : j < ops.size := by omega
    rcases (hF.slots k j hk hjm (by omega) t hd).2 ht with hdep | hdep
    · have := (reach_of_depB hdep).ready I.closed hready
      exact I.s1 j hjm this t hd
    · have := hF.ahead j k hjm hk hdep
      omega
  · refine I.s2 t u (fun j hj hl hd => ?_) h0
    have hjk : j ≠ k := fun e => by subst e; rw [hunk] at hl; cases hl
    by_cases hlt2 : j < k
    · exact hno j hlt2 hd
    · rcases (hF.slots k j hk hj hjk t hd).2 ht with hdep | hdep
      · have := hF.ahead k j hk hj hdep; omega
      · have := (reach_of_depB hdep).listed I.closed hl
        rw [hunk] at this; cases this
theorem wanted_eq {o : Oper} {fr : Fr} {a : Act} {ρ : Rho} {b : Bool} (h : wantedA ops o fr = some b) (hr : ∀ t ∈ o.looksAt ops, ∀ u, fr.get t = some u → t < a.tmps.size ∧ VR ρ u (a.tmps.getD t undef)) :
    Region.wanted o (yielded ops a.tmps) = b := by
  unfold wantedA at h
  unfold Region.wanted
  cases hg : o.guard with
  | none => rw [hg] at h; exact Option.some.inj h
  | some p =>
    obtain ⟨j, want⟩ := p
    rw [hg] at h
    simp only at h ⊢
    cases hd : (ops[j]?).bind (·.dst) with
    | none =>
      rw [hd] at h
      simp only at h
      have : yielded ops a.tmps j = none := by simp [yielded, hd]
      rw [this, ← Option.some.inj h]; rfl
    | some t =>
      rw [hd] at h
      simp only at h
      cases hu : fr.get t with
      | none => rw [hu] at h; cases h
      | some u =>
        rw [hu] at h
        obtain ⟨h1, h2⟩ := hr t (by simp [Oper.looksAt, hg, hd]) u hu
        have hget : a.tmps[t]? = some (a.tmps.getD t undef) := by simp [Array.getD_eq_getD_getElem?, h1]
        have hy : yielded ops a.tmps j = match a.tmps.getD t undef with | .bool b => some b | _ => none := by
          simp only [yielded, hd, Option.bind_some, hget]
          cases a.tmps.getD t undef <;> rfl
        rw [hy]
        generalize a.tmps.getD t undef = z at h2
        cases h2 <;> simp only at h <;> rw [← Option.some.inj h] <;> first | rfl | simp
theorem eval_rel {o : Oper} {fr : Fr} {a : Act} {ρ : Rho} (hr : ∀ t ∈ o.looksAt ops, ∀ u, fr.get t = some u → t < a.tmps.size ∧ VR ρ u (a.tmps.getD t undef)) (hg : ∀ v, Operand.const v ∈ o.op.operands → Gr v) :
    ∀ x ∈ o.op.operands, ∀ u, fr.eval x = some u → VR ρ u (a.eval x) := by
  intro x hx u hu
  cases x with
  | tmp t =>
    have : t ∈ o.looksAt ops := List.mem_append_left _ (List.mem_filterMap.2 ⟨.tmp t, by simpa using hx, rfl⟩)
    exact (hr t this u hu).2
  | const v => simp only [Fr.eval] at hu; obtain rfl := Option.some.inj hu; exact (hg v hx).2 ρ
  | global g => simp [Fr.eval] at hu
  | func f => simp only [Fr.eval] at hu; obtain rfl := Option.some.inj hu; exact (gr_func f).2 ρ
end
end Go.Proofs.YtmodhnkjimpkbaaAb
