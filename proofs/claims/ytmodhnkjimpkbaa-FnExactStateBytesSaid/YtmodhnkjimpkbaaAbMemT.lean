import Derived.Test.YtmodhnkjimpkbaaAbMemS
set_option linter.all false
namespace Go.Proofs.YtmodhnkjimpkbaaAb
open Go
section
variable {P : Program} {β lo n : Nat} {ρ : Rho} {H : Heap} {w : World} {evc : Operand → Value}
theorem opt_bnd {ev : Operand → Option Value} (he : EvR ρ ev evc) {o : Option Operand} {d r : Nat} (h : Bnd ev o d r) :
    (o.map evc = none ∧ r = d) ∨ ∃ q, o.map evc = some (.int q (r : Int)) := by
  rcases bnd_run he h with ⟨rfl, h2⟩ | ⟨y, q, rfl, h2⟩
  · exact .inl ⟨rfl, h2⟩
  · exact .inr ⟨q, by simp only [Option.map_some, h2]⟩
theorem getElem?_flat {z : List Value} {m : Nat} (c : Nat) {k : Nat} {v : Value} (h : (List.replicate c z).flatten[k]? = some v) : v ∈ z := by
  have : v ∈ (List.replicate c z).flatten := List.mem_of_getElem? h
  simp only [List.mem_flatten, List.mem_replicate] at this
  obtain ⟨l, ⟨_, rfl⟩, hv⟩ := this
  exact hv
theorem flat_get {z : List Value} (hz : 0 < z.length) : ∀ (c k : Nat), k < c * z.length → (List.replicate c z).flatten[k]? = z[k % z.length]?
  | 0, k, h => by simp at h
  | c + 1, k, h => by
    rw [List.replicate_succ, List.flatten_cons]
    by_cases hk : k < z.length
    · rw [List.getElem?_append_left hk, Nat.mod_eq_of_lt hk]
    · rw [List.getElem?_append_right (by omega), flat_get hz c (k - z.length) (by rw [Nat.succ_mul] at h; omega)]
      congr 1
      conv => rhs; rw [← Nat.sub_add_cancel (Nat.le_of_not_lt hk), Nat.add_mod_right]
theorem length_flat (z : List Value) (c : Nat) : (List.replicate c z).flatten.length = c * z.length := by
  induction c with
  | zero => simp
  | succ c ih => rw [List.replicate_succ, List.flatten_cons, List.length_append, ih, Nat.succ_mul, Nat.add_comm]
theorem madeCells_toList {z : Value} (c size : Nat) (hz : (Cells z).length = size) (h0 : 0 < size) : (madeCells z.cells (c * size)).toList = (List.replicate c (Cells z)).flatten := by
  apply List.ext_getElem?
  intro k
  have hzs : z.cells.size = size := by simpa [Cells] using hz
  by_cases hk : k < c * size
  · rw [flat_get (by omega) c k (by rw [hz]; exact hk)]
    have hm : k % size < z.cells.size := by rw [hzs]; exact Nat.mod_lt _ h0
    simp [madeCells, hk, Cells, hzs]
    rw [Array.getElem?_eq_getElem hm, getElem!_pos z.cells _ hm]
  · rw [List.getElem?_eq_none (l := (madeCells z.cells (c * size)).toList) (by simp [madeCells]; omega), List.getElem?_eq_none (by rw [length_flat, hz]; omega)]
theorem zeroCells_toList {z : Value} (c size : Nat) (hz : (Cells z).length = size) (h0 : 0 < size) : (Builtin.zeroCells z.cells c).toList = (List.replicate c (Cells z)).flatten := by
  have hzs : z.cells.size = size := by simpa [Cells] using hz
  rw [← madeCells_toList c size hz h0]
  simp only [Builtin.zeroCells, madeCells, hzs]
theorem Sim.del (h : Sim β ρ H w) (b : Nat) : Sim β ρ (H.del b) w := by
  have key : ∀ i o, (H.del b) i = some o → H i = some o := fun i o ho => by
    by_cases hi : i = b
    · subst hi; rw [Heap.del_same] at ho; cases ho
    · rwa [Heap.del_ne _ hi] at ho
  have live : ∀ i, ((H.del b) i).isSome → (H i).isSome := fun i hi => by
    obtain ⟨o, ho⟩ := Option.isSome_iff_exists.1 hi
    simp [key i o ho]
  exact ⟨fun i e c s ho hr => h.row i e c s (key _ _ ho) hr, fun i es s ho hr => h.mp i es s (key _ _ ho) hr, fun i j s s' hi hj hr hr' hb hβ => h.inj i j s s' (live i hi) (live j hj) hr hr' hb hβ⟩
theorem drew_heap (w : World) : w.drew.heap = w.heap := rfl
theorem Ok.grown {lo n : Nat} (h : Sim β ρ H w) (hlo : lo ≤ n) (hn : ρ n = none) {size : Nat} {T : TypeId} {olds news olds' news' : List Value} {zs : Array Value}
    (ho : olds'.length = olds.length) (hnl : news'.length = news.length) (hov : ∀ (k : Nat) v, olds[k]? = some v → ∃ v', olds'[k]? = some v' ∧ VR ρ v v') (hnv : ∀ (k : Nat) v, news[k]? = some v → ∃ v', news'[k]? = some v' ∧ VR ρ v v')
    (h1 : ∀ v ∈ olds ++ news, v.oneCell' = true) :
    Ok β lo ρ n H w (ρ.set n ⟨w.heap.size, 0, (olds'.toArray ++ (news'.toArray ++ zs)).size, size⟩) (n + 1) (H.set n (.row size (olds ++ news))) (w.drew.alloc (.cells (olds'.toArray ++ (news'.toArray ++ zs)) T)) := by
  refine Ok.row h hlo hn (olds'.toArray ++ (news'.toArray ++ zs)) T (0, 0) rfl size (olds ++ news) _ (by simp; omega) (Nat.le_refl _) (fun k v hk => ?_) (fun k _ => by simp) h1
  have hk' : k < olds.length + news.length := by have := (List.getElem?_eq_some_iff.1 hk).1; simpa using this
  by_cases hko : k < olds.length
  · rw [List.getElem?_append_left hko] at hk
    obtain ⟨v', a, b⟩ := hov k v hk
    refine ⟨v', ?_, b⟩
    rw [Array.getElem?_append, if_pos (by simp; omega)]
    simpa using a
  · rw [List.getElem?_append_right (by omega)] at hk
    obtain ⟨v', a, b⟩ := hnv _ v hk
    refine ⟨v', ?_, b⟩
    rw [Array.getElem?_append, if_neg (by simp; omega), Array.getElem?_append, if_pos (by simp; omega)]
    simpa [ho] using a
theorem run_stores (hs : Sim β ρ H w) {b e : Nat} {c : List Value} {s : Spot} (hb : H b = some (.row e c)) (hr : ρ b = some s) (hβ : β ≤ b) {o : Nat} {l l' : List Value} (hfit : o + l.length ≤ s.room) (hl : l'.length = l.length)
    (hV : ∀ (k : Nat) v, l[k]? = some v → ∃ v', l'[k]? = some v' ∧ VR ρ v v') (h1 : ∀ v ∈ l, v.oneCell' = true) :
    (storeCells ⟨s.blk, s.off + o, none⟩ l').run P w = .ok () (w.setCells s.blk (s.off + o) l') := by
  obtain ⟨cc, T, fz, g1, g2, g3, g4, g5, g6, g7⟩ := hs.row b e c s hb hr
  have := run_storeCells_cells (P := P) s.blk (s.off + o) l' 0 w
    (fun j hj => by
      simp only [World.cell?, Nat.add_zero, g1]
      rw [if_neg (by simp), Array.getElem?_eq_getElem (by omega)]; rfl)
    (fun j hj => by
      simp only [World.frozen?, g1, Nat.add_zero]
      have := g6 hβ (o + j) (by omega)
      rw [Bool.eq_false_iff]; intro hh
      simp only [Bool.and_eq_true, decide_eq_true_eq] at hh
      exact this ⟨by omega, by omega⟩)
    (fun u hu => by
      obtain ⟨j, hj⟩ := List.getElem?_of_mem hu
      have hjl : j < l.length := by have := (List.getElem?_eq_some_iff.1 hj).1; omega
      obtain ⟨u', a1, a2⟩ := hV j l[j] (List.getElem?_eq_getElem hjl)
      rw [hj] at a1
      obtain rfl := Option.some.inj a1
      exact a2.oneCell (h1 _ (List.getElem_mem hjl)))
  simpa using this
theorem Ok.inplace {lo n b e : Nat} {c : List Value} {s : Spot} (h : Sim β ρ H w) (hβ : β ≤ lo) (hlo : lo ≤ b) (hbn : b < n) (hn : ρ n = none) (hb : H b = some (.row e c)) (hr : ρ b = some s)
    {k size : Nat} {olds news news' : List Value} (hesz : s.esz = size) (hol : (c.drop k).take olds.length = olds) (hfit : k + olds.length + news.length ≤ s.room) (hnl : news'.length = news.length)
    (hV : ∀ (j : Nat) v, news[j]? = some v → ∃ v', news'[j]? = some v' ∧ VR ρ v v') (h1 : ∀ v ∈ news, v.oneCell' = true) :
    Ok β lo ρ n H w (ρ.set n ⟨s.blk, s.off + k, s.room - k, size⟩) (n + 1) ((H.del b).set n (.row size (olds ++ news))) (w.setCells s.blk (s.off + (k + olds.length)) news') := by
  obtain ⟨cc, T, fz, hbk, he, hlen, hroom, hcell, hfz, hone⟩ := h.row b e c s hb hr
  obtain ⟨⟨cc', b1, b2, b3⟩, b4, b5⟩ := heap_setCells s.blk T fz news' (s.off + (k + olds.length)) w cc hbk (by omega)
  have hle : ρ.le (ρ.set n ⟨s.blk, s.off + k, s.room - k, size⟩) := Rho.le_set hn
  have hother : ∀ j t, j ≠ b → (H j).isSome → ρ j = some t → t.blk ≠ s.blk := fun j t hj hl ht heq =>
    hj (h.inj b j s t (by simp [hb]) hl hr ht heq.symm (by omega)).symm
  have hdel : ∀ j o, j ≠ n → ((H.del b).set n (.row size (olds ++ news))) j = some o → H j = some o ∧ j ≠ b := fun j o hj ho => by
    rw [Heap.set_ne _ _ hj] at ho
    by_cases hjb : j = b
    · subst hjb; rw [Heap.del_same] at ho; cases ho
    · rw [Heap.del_ne _ hjb] at ho; exact ⟨ho, hjb⟩
  have hlive : ∀ j, j ≠ n → (((H.del b).set n (.row size (olds ++ news))) j).isSome → (H j).isSome ∧ j ≠ b := fun j hj hl => by
    obtain ⟨o, ho⟩ := Option.isSome_iff_exists.1 hl
    obtain ⟨a, b⟩ := hdel j o hj ho
    exact ⟨by simp [a], b⟩
  refine ⟨⟨fun j e' c' t ho' hr' => ?_, fun j es t ho' hr' => ?_, fun j q t t' hj hq hr1 hr2 hbb hjβ => ?_⟩, by omega, fun i hi => Rho.set_ne _ _ (by omega), fun i hi => Rho.set_ne _ _ (by omega),
    fun i hi => ?_, by rw [b5]; exact Nat.le_refl _, fun B hB hne => b4 B (fun heq => hne b s hlo hbn (by simp [hb]) hr heq.symm),
    fun i t h1 h2 hrt => .inr ⟨b, s, hlo, hbn, by simp [hb], hr, ?_⟩, fun i hi h => ?_, setCells_out _ _ _ _⟩
  · by_cases hj : j = n
    · subst hj
      rw [Heap.set_same] at ho'; rw [Rho.set_same] at hr'
      obtain ⟨rfl, rfl⟩ := Ob.row.inj (Option.some.inj ho')
      obtain rfl := Option.some.inj hr'
      refine ⟨cc', T, fz, b1, rfl, by simp; omega, by simp only; omega, fun q v hq => ?_, fun _ q hq => ?_, fun _ v hv => ?_⟩
      · simp only
        rw [b3]
        by_cases q1 : q < olds.length
        · rw [List.getElem?_append_left q1] at hq
          rw [if_pos (by omega)]
          rw [← hol, List.getElem?_take_of_lt q1, List.getElem?_drop] at hq
          obtain ⟨v', a, b⟩ := hcell _ v hq
          exact ⟨v', by rw [Nat.add_assoc]; exact a, b.mono hle⟩
        · rw [List.getElem?_append_right (by omega)] at hq
          have hq' := (List.getElem?_eq_some_iff.1 hq).1
          rw [if_neg (by omega), if_pos (by omega)]
          obtain ⟨v', a, b⟩ := hV _ v hq
          exact ⟨v', by rw [show s.off + k + q - (s.off + (k + olds.length)) = q - olds.length by omega]; exact a, b.mono hle⟩
      · simp only at hq ⊢
        have := hfz (by omega) (k + q) (by omega)
        rwa [← Nat.add_assoc] at this
      · rw [List.mem_append] at hv
        rcases hv with hv | hv
        · rw [← hol] at hv
          exact hone (by omega) v (List.mem_of_mem_drop (List.mem_of_mem_take hv))
        · exact h1 v hv
    · obtain ⟨ho2, hjb⟩ := hdel j _ hj ho'
      rw [Rho.set_ne _ _ hj] at hr'
      obtain ⟨cc2, T2, fz2, a1, a2, a3, a4, a5, a6, a7⟩ := h.row j e' c' t ho2 hr'
      exact ⟨cc2, T2, fz2, by rw [b4 _ (hother j t hjb (by simp [ho2]) hr')]; exact a1, a2, a3, a4, fun q v hq => by obtain ⟨v', x, y⟩ := a5 q v hq; exact ⟨v', x, y.mono hle⟩, a6, a7⟩
  · by_cases hj : j = n
    · subst hj; rw [Heap.set_same] at ho'; cases Option.some.inj ho'
    · obtain ⟨ho2, hjb⟩ := hdel j _ hj ho'
      rw [Rho.set_ne _ _ hj] at hr'
      obtain ⟨en, cl, a1, a2, a3⟩ := h.mp j es t ho2 hr'
      exact ⟨en, cl, by rw [b4 _ (hother j t hjb (by simp [ho2]) hr')]; exact a1, a2, fun q p hq => by obtain ⟨x, y1, y2, y3, y4⟩ := a3 q p hq; exact ⟨x, y1, y2, y3, y4.mono hle⟩⟩
  · by_cases hjn : j = n
    · by_cases hqn : q = n
      · rw [hjn, hqn]
      · exfalso
        subst hjn
        obtain ⟨l1, l2⟩ := hlive q hqn hq
        rw [Rho.set_same] at hr1; rw [Rho.set_ne _ _ hqn] at hr2
        obtain rfl := Option.some.inj hr1
        exact hother q t' l2 l1 hr2 hbb.symm
    · by_cases hqn : q = n
      · exfalso
        subst hqn
        obtain ⟨l1, l2⟩ := hlive j hjn hj
        rw [Rho.set_same] at hr2; rw [Rho.set_ne _ _ hjn] at hr1
        obtain rfl := Option.some.inj hr2
        exact hother j t l2 l1 hr1 hbb
      · rw [Rho.set_ne _ _ hjn] at hr1; rw [Rho.set_ne _ _ hqn] at hr2
        exact h.inj j q t t' (hlive j hjn hj).1 (hlive q hqn hq).1 hr1 hr2 hbb hjβ
  · rw [Heap.set_ne _ _ (by omega), Heap.del_ne _ (by omega)]
  · obtain rfl : i = n := by omega
    rw [Rho.set_same] at hrt
    obtain rfl := Option.some.inj hrt
    rfl
  · rw [Heap.set_ne _ _ (by omega)]
    by_cases hib : i = b
    · subst hib; exact Heap.del_same _ _
    · rw [Heap.del_ne _ hib]; exact h
theorem run_call_builtin {o : Oper} {b : Builtin} {args : Array Operand} {ts : Array TypeId} (ho : o.op = .call { callee := .builtin b, args := args, argTypes := ts }) (w : World) :
    (execOp evc o).run P w = (builtin b ts o.type (args.map fun | .const _ => true | _ => false) (args.map evc)).run P w := by
  obtain ⟨dst, op, ty, pos, after, guard⟩ := o
  simp only at ho; subst ho
  simp [execOp, resolve, invoke]
  rfl
theorem run_value {s : Sem Value} {v : Value} {w w' : World} (h : s.run P w = .ok v w') : (do pure (Next.value (← s)) : Sem Next).run P w = .ok (.value v) w' := by
  simp [h]
end
end Go.Proofs.YtmodhnkjimpkbaaAb
