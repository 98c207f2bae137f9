import Derived.Test.YtmodhnkjimpkbaaAbStore
set_option linter.all false
namespace Go.Proofs.YtmodhnkjimpkbaaAb
open Go
def isRow : TypeDesc → Bool
  | .struct _ | .array _ _ => true
  | _ => false
def Cells (v : Value) : List Value := v.cells.toList
inductive Step (P : Program) (lo : Nat) (ev : Operand → Option Value) (n : Nat) (H : Heap) : Oper → Value → Nat → Heap → Prop
  | move {o : Oper} {x : Operand} {v : Value} (ho : o.op = .move x ∨ o.op = .assign x) (hx : ev x = some v) : Step P lo ev n H o v n H
  | ground {o : Oper} {v : Value} (hs : ∀ cs b, o.op ≠ .select cs b) (hv : ∀ x ∈ o.op.operands, ∃ u, ev x = some u ∧ Gr u) (hg : Gr v)
      (hr : ∀ w, (execOp (fun x => (ev x).getD undef) o).run P w = .ok (.value v) w) : Step P lo ev n H o v n H
  | pick {o : Oper} {c a b : Operand} {t : Bool} {v : Value} (ho : o.op = .pick c a b) (hc : ev c = some (.bool t)) (hv : ev (if t then a else b) = some v) : Step P lo ev n H o v n H
  | alloc {o : Oper} {t : TypeId} {i : TypeInfo} {z : Value} (e : Nat) (ho : o.op = .alloc t) (hi : P.info? t = some i) (hz : i.zero = some z) (hg : ∀ v ∈ Cells z, Gr v ∧ v.oneCell' = true) :
      Step P lo ev n H o (.pointer (some ⟨n, 0, none⟩)) (n + 1) (H.set n (.row e (Cells z)))
  | box {o : Oper} {t : TypeId} {x : Operand} {v : Value} (e : Nat) (ho : o.op = .box t x) (hx : ev x = some v) (hg : ∀ u ∈ Cells v, u.oneCell' = true) :
      Step P lo ev n H o (.pointer (some ⟨n, 0, none⟩)) (n + 1) (H.set n (.row e (Cells v)))
  | load1 {o : Oper} {t : TypeId} {x : Operand} {d : TypeDesc} {b k e : Nat} {c : List Value} {v : Value} (ho : o.op = .load t x) (ht : P.underlying t = some d) (hd : isRow d = false)
      (hx : ev x = some (.pointer (some ⟨b, k, none⟩))) (hb : H b = some (.row e c)) (hk : c[k]? = some v) : Step P lo ev n H o v n H
  | loadN {o : Oper} {t : TypeId} {x : Operand} {d : TypeDesc} {i : TypeInfo} {b k e : Nat} {c l : List Value} (ho : o.op = .load t x) (ht : P.underlying t = some d) (hd : isRow d = true)
      (hi : P.info? t = some i) (hx : ev x = some (.pointer (some ⟨b, k, none⟩))) (hb : H b = some (.row e c)) (hk : (c.drop k).take i.size = l) (hl : l.length = i.size) :
      Step P lo ev n H o (.agg l.toArray) n H
  | store {o : Oper} {t : TypeId} {x y : Operand} {i : TypeInfo} {b k e : Nat} {c : List Value} {v : Value} (ho : o.op = .store t x y) (hi : P.info? t = some i)
      (hx : ev x = some (.pointer (some ⟨b, k, none⟩))) (hy : ev y = some v) (hs : (Cells v).length = i.size) (hb : H b = some (.row e c)) (hk : k + i.size ≤ c.length) (hlo : lo ≤ b) (hbn : b < n)
      (h1 : ∀ u ∈ Cells v, u.oneCell' = true) : Step P lo ev n H o undef n (H.set b (.row e (splice c k (Cells v))))
  | nilCheck {o : Oper} {x : Operand} {a : Addr} (ho : o.op = .nilCheck x) (hx : ev x = some (.pointer (some a))) : Step P lo ev n H o (.pointer (some a)) n H
  | nilCheckF {o : Oper} {x : Operand} {f : FuncId} {a c : Array Value} (ho : o.op = .nilCheck x) (hx : ev x = some (.func (.func f) a c)) : Step P lo ev n H o (.func (.func f) a c) n H
  | fieldAddr {o : Oper} {s : TypeId} {x : Operand} {j b k : Nat} {fs : Array Field} {f : Field} {i : TypeInfo} (ho : o.op = .fieldAddr s x j) (hs : P.underlying s = some (.struct fs)) (hf : fs[j]? = some f)
      (hi : P.info? f.type = some i) (h0 : (i.size == 0) = false) (hx : ev x = some (.pointer (some ⟨b, k, none⟩))) : Step P lo ev n H o (.pointer (some ⟨b, k + f.offset, none⟩)) n H
  | field1 {o : Oper} {s : TypeId} {x : Operand} {j : Nat} {fs : Array Field} {f : Field} {d : TypeDesc} {cs : Array Value} {v : Value} (ho : o.op = .field s x j) (hs : P.underlying s = some (.struct fs)) (hf : fs[j]? = some f)
      (ht : P.underlying f.type = some d) (hd : isRow d = false) (hx : ev x = some (.agg cs)) (hv : cs[f.offset]? = some v) : Step P lo ev n H o v n H
  | fieldN {o : Oper} {s : TypeId} {x : Operand} {j : Nat} {fs : Array Field} {f : Field} {d : TypeDesc} {i : TypeInfo} {cs : Array Value} (ho : o.op = .field s x j) (hs : P.underlying s = some (.struct fs)) (hf : fs[j]? = some f)
      (ht : P.underlying f.type = some d) (hd : isRow d = true) (hi : P.info? f.type = some i) (hx : ev x = some (.agg cs)) : Step P lo ev n H o (.agg (cs.extract f.offset (f.offset + i.size))) n H
  | indexAddrS {o : Oper} {t : TypeId} {x y : Operand} {el : TypeId} {i : TypeInfo} {b k len cap : Nat} {q : IntKind} {j : Int} (ho : o.op = .indexAddr t x y) (ht : P.underlying t = some (.slice el)) (hi : P.info? el = some i)
      (hx : ev x = some (.slice (some ⟨b, k, none⟩) len cap)) (hy : ev y = some (.int q j)) (h0 : 0 ≤ j) (hj : j < len) : Step P lo ev n H o (.pointer (some ⟨b, k + j.toNat * i.size, none⟩)) n H
  | indexAddrA {o : Oper} {t : TypeId} {x y : Operand} {el : TypeId} {i : TypeInfo} {b k len : Nat} {q : IntKind} {j : Int} (ho : o.op = .indexAddr t x y) (ht : P.underlying t = some (.array len el)) (hi : P.info? el = some i)
      (hx : ev x = some (.pointer (some ⟨b, k, none⟩))) (hy : ev y = some (.int q j)) (h0 : 0 ≤ j) (hj : j < len) : Step P lo ev n H o (.pointer (some ⟨b, k + j.toNat * i.size, none⟩)) n H
  | indexA1 {o : Oper} {t : TypeId} {x y : Operand} {el : TypeId} {d : TypeDesc} {i : TypeInfo} {len : Nat} {q : IntKind} {j : Int} {cs : Array Value} {v : Value} (ho : o.op = .index t x y) (ht : P.underlying t = some (.array len el)) (hi : P.info? el = some i)
      (hd : P.underlying el = some d) (hd1 : isRow d = false) (hx : ev x = some (.agg cs)) (hy : ev y = some (.int q j)) (h0 : 0 ≤ j) (hj : j < len) (hv : cs[j.toNat * i.size]? = some v) : Step P lo ev n H o v n H
  | extract {o : Oper} {x : Operand} {j : Nat} {vs : Array Value} {v : Value} (ho : o.op = .extract x j) (hx : ev x = some (.tuple vs)) (hv : vs[j]? = some v) : Step P lo ev n H o v n H
  | mkIface {o : Oper} {t : TypeId} {x : Operand} {d : TypeDesc} {v : Value} (ho : o.op = .makeInterface t x) (ht : P.underlying t = some d) (hd : ∀ ms, d ≠ .interface ms) (hx : ev x = some v) : Step P lo ev n H o (.iface t v) n H
  | mkFunc {o : Oper} {f : Fn} {xs ys : Array Operand} {a c : Array Value} (ho : o.op = .makeFunc f xs ys) (hx : xs.toList.mapM ev = some a.toList) (hy : ys.toList.mapM ev = some c.toList) : Step P lo ev n H o (.func f a c) n H
  | len {o : Oper} {t : TypeId} {x : Operand} {el : TypeId} {a : Option Addr} {len cap : Nat} (ho : o.op = .call { callee := .builtin .len, args := #[x], argTypes := #[t] }) (ht : P.underlying t = some (.slice el))
      (hx : ev x = some (.slice a len cap)) : Step P lo ev n H o (.int .i64 len) n H
  | assert {o : Oper} {x : Operand} {t s : TypeId} {ok : Bool} {d : TypeDesc} {v : Value} (ho : o.op = .typeAssert x t s ok) (ht : P.underlying s = some d) (hd : ∀ ms, d ≠ .interface ms) (hx : ev x = some (.iface s v)) :
      Step P lo ev n H o (if ok then .tuple #[v, .bool true] else v) n H
def EvR (ρ : Rho) (ev : Operand → Option Value) (evc : Operand → Value) : Prop := ∀ x v, ev x = some v → VR ρ v (evc x)
def Lands (P : Program) (β lo : Nat) (ρ : Rho) (n : Nat) (H : Heap) (w : World) (evc : Operand → Value) (o : Oper) (v : Value) (n' : Nat) (H' : Heap) : Prop :=
  ∃ v' w' ρ', ((execOp evc o).run P w = .ok (.value v') w' ∨ ((execOp evc o).run P w = .ok .skip w' ∧ v' = undef)) ∧ VR ρ' v v' ∧ Ok β lo ρ n H w ρ' n' H' w'
theorem VR.cells {ρ : Rho} {v v' : Value} (h : VR ρ v v') : (Cells v').length = (Cells v).length ∧ ∀ (k : Nat) u, (Cells v)[k]? = some u → ∃ u', (Cells v')[k]? = some u' ∧ VR ρ u u' := by
  have one : ∀ {a b : Value}, VR ρ a b → a.cells = #[a] → b.cells = #[b] → (Cells b).length = (Cells a).length ∧ ∀ (k : Nat) u, (Cells a)[k]? = some u → ∃ u', (Cells b)[k]? = some u' ∧ VR ρ u u' := by
    intro a b h ha hb
    simp only [Cells, ha, hb]
    refine ⟨rfl, fun k u hk => ?_⟩
    cases k with
    | zero => simp at hk; subst hk; exact ⟨b, rfl, h⟩
    | succ k => simp at hk
  cases h with
  | agg c c' hs h =>
    simp only [Cells, Value.cells, Array.length_toList]
    refine ⟨hs.symm, fun k u hk => ?_⟩
    simp only [Array.getElem?_toList] at hk ⊢
    obtain ⟨hk1, hk2⟩ := Array.getElem?_eq_some_iff.1 hk
    subst hk2
    exact ⟨c'[k]'(by omega), by rw [Array.getElem?_eq_getElem (by omega)], h k hk1 (by omega)⟩
  | tuple c c' hs h => exact one (.tuple c c' hs h) rfl rfl
  | bool b => exact one (.bool b) rfl rfl
  | int k n => exact one (.int k n) rfl rfl
  | string s => exact one (.string s) rfl rfl
  | nilp => exact one .nilp rfl rfl
  | ptr b o s h => exact one (.ptr b o s h) rfl rfl
  | nils => exact one .nils rfl rfl
  | sl b o len cap cap' s h hl hr hc => exact one (.sl b o len cap cap' s h hl hr hc) rfl rfl
  | sl0 b o x s h => exact one (.sl0 b o x s h) rfl rfl
  | nilm => exact one .nilm rfl rfl
  | map r s h => exact one (.map r s h) rfl rfl
  | nilf => exact one .nilf rfl rfl
  | func f a a' c c' ha hc hav hcv => exact one (.func f a a' c c' ha hc hav hcv) rfl rfl
  | nilIface => exact one .nilIface rfl rfl
  | iface t v v' h => exact one (.iface t v v' h) rfl rfl
theorem VR.oneCell {ρ : Rho} {v v' : Value} (h : VR ρ v v') (h1 : v.oneCell' = true) : v'.oneCell' = true := by
  cases h <;> first | rfl | exact h1
theorem isAgg_run {P : Program} {t : TypeId} {d : TypeDesc} (h : P.underlying t = some d) (w : World) : (isAgg t).run P w = .ok (isRow d) w := by
  simp only [isAgg, Sem.run_bind, run_underlying h, Result.andThen_ok]
  cases d <;> rfl
theorem add_off (b k j : Nat) : (⟨b, k, none⟩ : Addr).add j = ⟨b, k + j, none⟩ := by unfold Addr.add; split <;> simp_all
section
variable {P : Program} {β lo n : Nat} {ρ : Rho} {H : Heap} {w : World} {evc : Operand → Value}
theorem Lands.pure {o : Oper} {v v' : Value} (hs : Sim β ρ H w) (hr : (execOp evc o).run P w = .ok (.value v') w) (hV : VR ρ v v') : Lands P β lo ρ n H w evc o v n H :=
  ⟨v', w, ρ, .inl hr, hV, .refl hs⟩
theorem loadCells_sim (hs : Sim β ρ H w) {b e : Nat} {c : List Value} {s : Spot} (hb : H b = some (.row e c)) (hr : ρ b = some s) {k m : Nat} {l : List Value} (hk : (c.drop k).take m = l) (hl : l.length = m) :
    ∃ l' : List Value, (loadCells ⟨s.blk, s.off + k, none⟩ m).run P w = .ok l'.toArray w ∧ l'.length = m ∧ ∀ (j : Nat) u, l[j]? = some u → ∃ u', l'[j]? = some u' ∧ VR ρ u u' := by
  have hc : ∀ j, j < m → ∃ u u', l[j]? = some u ∧ w.cell? ⟨s.blk, s.off + k + j, none⟩ = some u' ∧ VR ρ u u' := by
    intro j hj
    have hj' : j < l.length := by omega
    have hlj : l[j]? = c[k + j]? := by rw [← hk, List.getElem?_take_of_lt hj, List.getElem?_drop]
    obtain ⟨u', h1, h2⟩ := hs.cell hb hr (k := k + j) (v := l[j]) (by rw [← hlj]; exact List.getElem?_eq_getElem hj')
    exact ⟨l[j], u', List.getElem?_eq_getElem hj', by rw [Nat.add_assoc]; exact h1, h2⟩
  refine ⟨(List.range m).map fun j => (w.cell? ⟨s.blk, s.off + k + j, none⟩).getD undef, ?_, by simp, fun j u hu => ?_⟩
  · exact run_loadCells w _ m _ fun j hj => by
      obtain ⟨u, u', _, h2, _⟩ := hc j hj
      rw [add_off, h2]; rfl
  · have hj : j < m := by rw [← hl]; exact (List.getElem?_eq_some_iff.1 hu).1
    obtain ⟨v, u', h1, h2, h3⟩ := hc j hj
    rw [hu] at h1
    obtain rfl := Option.some.inj h1
    exact ⟨u', by simp [hj, h2], h3⟩
theorem VR.ptr_inv {b k : Nat} {v' : Value} (h : VR ρ (.pointer (some ⟨b, k, none⟩)) v') : ∃ s, ρ b = some s ∧ v' = .pointer (some ⟨s.blk, s.off + k, none⟩) := by
  cases h with
  | ptr b o s h => exact ⟨s, h, rfl⟩
theorem VR.agg_inv {c : Array Value} {v' : Value} (h : VR ρ (.agg c) v') : ∃ c' : Array Value, v' = .agg c' ∧ c.size = c'.size ∧ ∀ (k : Nat) u, c[k]? = some u → ∃ u', c'[k]? = some u' ∧ VR ρ u u' := by
  cases h with
  | agg c c' hs h =>
    refine ⟨c', rfl, hs, fun k u hk => ?_⟩
    obtain ⟨hk1, hk2⟩ := Array.getElem?_eq_some_iff.1 hk
    subst hk2
    exact ⟨c'[k]'(by omega), by rw [Array.getElem?_eq_getElem (by omega)], h k hk1 (by omega)⟩
theorem VR.tuple_inv {c : Array Value} {v' : Value} (h : VR ρ (.tuple c) v') : ∃ c' : Array Value, v' = .tuple c' ∧ c.size = c'.size ∧ ∀ (k : Nat) u, c[k]? = some u → ∃ u', c'[k]? = some u' ∧ VR ρ u u' := by
  cases h with
  | tuple c c' hs h =>
    refine ⟨c', rfl, hs, fun k u hk => ?_⟩
    obtain ⟨hk1, hk2⟩ := Array.getElem?_eq_some_iff.1 hk
    subst hk2
    exact ⟨c'[k]'(by omega), by rw [Array.getElem?_eq_getElem (by omega)], h k hk1 (by omega)⟩
theorem VR.agg_of {c c' : Array Value} (hs : c.size = c'.size) (h : ∀ (k : Nat) u, c[k]? = some u → ∃ u', c'[k]? = some u' ∧ VR ρ u u') : VR ρ (.agg c) (.agg c') :=
  .agg c c' hs fun i h1 h2 => by
    obtain ⟨u', a, b⟩ := h i c[i] (Array.getElem?_eq_getElem h1)
    rw [Array.getElem?_eq_getElem h2] at a
    rw [Option.some.inj a]; exact b
theorem mapM_ev {ev : Operand → Option Value} (he : EvR ρ ev evc) : ∀ (xs : List Operand) (a : List Value), xs.mapM ev = some a → a.length = xs.length ∧ ∀ (k : Nat) u, a[k]? = some u → ∃ u', (xs.map evc)[k]? = some u' ∧ VR ρ u u'
  | [], a, h => by simp at h; subst h; simp
  | x :: xs, a, h => by
    simp only [List.mapM_cons, bind, pure, Option.bind_eq_some_iff] at h
    obtain ⟨v, hv, r, hr, ha⟩ := h
    obtain rfl := Option.some.inj ha
    obtain ⟨i1, i2⟩ := mapM_ev he xs r hr
    refine ⟨by simp [i1], fun k u hk => ?_⟩
    cases k with
    | zero => simp at hk; subst hk; exact ⟨evc x, by simp, he x v hv⟩
    | succ k => simpa using i2 k u (by simpa using hk)
set_option linter.unusedVariables false in
theorem Step.sound {ev : Operand → Option Value} {o : Oper} {v : Value} {n' : Nat} {H' : Heap} (h : Step P lo ev n H o v n' H') (hβ : β ≤ lo) (hlo : lo ≤ n) (he : EvR ρ ev evc) (hs : Sim β ρ H w)
    (hf : ∀ i, n ≤ i → i < n' → ρ i = none) : Lands P β lo ρ n H w evc o v n' H' := by
  obtain ⟨dst, op, ty, pos, after, guard⟩ := o
  cases h with
  | move ho hx =>
    rcases ho with ho | ho <;> (simp only at ho; subst ho) <;> exact .pure hs rfl (he _ _ hx)
  | ground hsel hv hg hr =>
    have : execOp evc ⟨dst, op, ty, pos, after, guard⟩ = execOp (fun x => (ev x).getD undef) ⟨dst, op, ty, pos, after, guard⟩ := execOp_congr _ hsel fun x hx => by
      obtain ⟨u, h1, h2⟩ := hv x hx
      rw [h1]; exact h2.1 ρ _ (he x u h1)
    exact .pure hs (by rw [this]; exact hr w) (hg.2 ρ)
  | pick ho hc hv =>
    rename_i c a b t
    simp only at ho; subst ho
    have hc' := he _ _ hc
    have hcc : evc c = .bool t := by generalize evc c = z at hc'; cases hc'; rfl
    refine .pure (v' := evc (if t then a else b)) hs ?_ (he _ _ hv)
    cases t <;> simp [execOp, hcc, asBool]
  | alloc e ho hi hz hg =>
    rename_i t i z
    simp only at ho; subst ho
    refine ⟨_, _, _, .inl (by simp [execOp, Instr.alloc, zeroValue, typeInfo, hi, hz, newVar, newRow]; exact ⟨rfl, rfl⟩), ?_,
      Ok.row hs hlo (hf n (Nat.le_refl _) (Nat.lt_succ_self _)) z.cells t (0, 0) rfl e (Cells z) (Cells z).length (Nat.le_refl _) (by simp [Cells]) (fun k v hk => ⟨v, by simpa [Cells] using hk, (hg v (List.mem_of_getElem? hk)).1.2 ρ⟩) (fun k _ => by simp) (fun v hv => (hg v hv).2)⟩
    exact .ptr n 0 ⟨w.heap.size, 0, (Cells z).length, e⟩ (Rho.set_same _ _ _)
  | box e ho hx hg =>
    rename_i t x v
    simp only at ho; subst ho
    obtain ⟨l1, l2⟩ := (he _ _ hx).cells
    refine ⟨_, _, _, .inl (by simp [execOp, Instr.box, newVar, newRow]; exact ⟨rfl, rfl⟩), ?_,
      Ok.row hs hlo (hf n (Nat.le_refl _) (Nat.lt_succ_self _)) (evc x).cells t (0, 0) rfl e (Cells v) (Cells v).length (Nat.le_refl _) (by rw [← l1]; simp [Cells]) (fun k u hk => by obtain ⟨u', a, b⟩ := l2 k u hk; exact ⟨u', by simpa [Cells] using a, b⟩) (fun k _ => by simp) hg⟩
    exact .ptr n 0 ⟨w.heap.size, 0, (Cells v).length, e⟩ (Rho.set_same _ _ _)
  | load1 ho ht hd hx hb hk =>
    simp only at ho; subst ho
    obtain ⟨s, hr, hxx⟩ := (he _ _ hx).ptr_inv
    obtain ⟨v', h1, h2⟩ := hs.cell hb hr hk
    exact .pure hs (by simp [execOp, Instr.loadAt, Instr.sureAddr, hxx, loadVar, isAgg_run ht, hd, h1]) h2
  | loadN ho ht hd hi hx hb hk hl =>
    rename_i t x d i b k e c l
    simp only at ho; subst ho
    obtain ⟨s, hr, hxx⟩ := (he _ _ hx).ptr_inv
    obtain ⟨l', h1, h2, h3⟩ := loadCells_sim (P := P) hs hb hr hk hl
    refine .pure (v' := .agg l'.toArray) hs (by simp [execOp, Instr.loadAt, Instr.sureAddr, hxx, loadVar, isAgg_run ht, hd, sizeOf, typeInfo, hi, h1]) (VR.agg_of (by simp [hl, h2]) fun k u hk => by simpa using h3 k u (by simpa using hk))
  | store ho hi hx hy hsz hb hk hlo' hbn h1 =>
    rename_i t x y i b k e c v
    simp only at ho; subst ho
    obtain ⟨s, hr, hxx⟩ := (he _ _ hx).ptr_inv
    obtain ⟨l1, l2⟩ := (he _ _ hy).cells
    obtain ⟨cc, T, fz, g1, g2, g3, g4, g5, g6, g7⟩ := hs.row b e c s hb hr
    refine ⟨undef, _, ρ, .inr ⟨?_, rfl⟩, gr_undef.2 ρ, Ok.store hs hβ hlo' hbn hb hr (o := k) (l := Cells v) (l' := Cells (evc y)) (by omega) l1 l2 h1⟩
    have hst := run_storeCells_cells (P := P) s.blk (s.off + k) (Cells (evc y)) 0 w
      (fun j hj => by
        simp only [World.cell?, Nat.add_zero, g1]
        rw [if_neg (by simp), Array.getElem?_eq_getElem (by omega)]; rfl)
      (fun j hj => by
        simp only [World.frozen?, g1, Nat.add_zero]
        have := g6 (by omega) (k + j) (by omega)
        rw [Bool.eq_false_iff]; intro hh
        simp only [Bool.and_eq_true, decide_eq_true_eq] at hh
        exact this ⟨by omega, by omega⟩)
      (fun u hu => by
        obtain ⟨j, hj⟩ := List.getElem?_of_mem hu
        have hjl : j < (Cells v).length := by have := (List.getElem?_eq_some_iff.1 hj).1; omega
        obtain ⟨u', a1, a2⟩ := l2 j (Cells v)[j] (List.getElem?_eq_getElem hjl)
        rw [hj] at a1
        obtain rfl := Option.some.inj a1
        exact a2.oneCell (h1 _ (List.getElem_mem hjl)))
    have hsz' : (evc y).cells.size = i.size := by rw [← hsz, ← l1]; simp [Cells]
    simp only [Cells, Nat.add_zero] at hst ⊢
    simp [execOp, Instr.storeAt, Instr.sureAddr, hxx, storeVar, sizeOf, typeInfo, hi, hsz', hst]
  | nilCheck ho hx =>
    rename_i x a
    simp only at ho; subst ho
    have hx' := he _ _ hx
    have h2 : ∃ a', evc x = .pointer (some a') := by generalize evc x = z at hx'; cases hx'; exact ⟨_, rfl⟩
    obtain ⟨a', h2⟩ := h2
    rw [h2] at hx'
    exact .pure hs (by simp [execOp, h2]) hx'
  | nilCheckF ho hx =>
    rename_i x f a c
    simp only at ho; subst ho
    have hx' := he _ _ hx
    have h2 : ∃ a' c', evc x = .func (.func f) a' c' := by generalize evc x = z at hx'; cases hx'; exact ⟨_, _, rfl⟩
    obtain ⟨a', c', h2⟩ := h2
    rw [h2] at hx'
    exact .pure hs (by simp [execOp, h2]) hx'
  | fieldAddr ho hst hfj hi h0 hx =>
    rename_i s x j b k fs f i
    simp only at ho; subst ho
    obtain ⟨s', hr, hxx⟩ := (he _ _ hx).ptr_inv
    refine .pure (v' := .pointer (some ⟨s'.blk, s'.off + (k + f.offset), none⟩)) hs ?_ (.ptr b _ s' hr)
    have h0' : ¬ (i.size = 0) := by simpa using h0
    simp [execOp, Instr.fieldAt, run_underlying hst, hfj, Instr.sureAddr, hxx, fieldPlace, sizeOf, typeInfo, hi, h0', add_off, Nat.add_assoc]
  | field1 ho hst hfj ht hd hx hv =>
    rename_i s x j fs f d cs
    simp only at ho; subst ho
    obtain ⟨c', h1, h2, h3⟩ := (he _ _ hx).agg_inv
    obtain ⟨u', a, b⟩ := h3 _ _ hv
    exact .pure hs (by simp [execOp, Instr.field, run_underlying hst, hfj, h1, asAgg, part, isAgg_run ht, hd, a]) b
  | fieldN ho hst hfj ht hd hi hx =>
    rename_i s x j fs f d i cs
    simp only at ho; subst ho
    obtain ⟨c', h1, h2, h3⟩ := (he _ _ hx).agg_inv
    refine .pure (v' := .agg (c'.extract f.offset (f.offset + i.size))) hs (by simp [execOp, Instr.field, run_underlying hst, hfj, h1, asAgg, part, isAgg_run ht, hd, sizeOf, typeInfo, hi]) (VR.agg_of (by simp [h2]) fun k u hk => ?_)
    rw [Array.getElem?_extract] at hk ⊢
    split at hk
    · rename_i hlt
      rw [if_pos (by omega)]
      exact h3 _ _ hk
    · cases hk
  | indexAddrS ho ht hi hx hy h0 hj =>
    rename_i t x y el i b k len cap q j
    simp only at ho; subst ho
    have hy' : evc y = .int q j := by have := he _ _ hy; generalize evc y = z at this; cases this; rfl
    have hx' := he _ _ hx
    have : ∃ s cap', ρ b = some s ∧ evc x = .slice (some ⟨s.blk, s.off + k, none⟩) len cap' := by
      generalize evc x = z at hx'
      cases hx' with
      | sl b o len cap cap' s h hl hr hc => exact ⟨s, cap', h, rfl⟩
      | sl0 => omega
    obtain ⟨s, cap', hr, hxx⟩ := this
    refine .pure (v' := .pointer (some ⟨s.blk, s.off + (k + j.toNat * i.size), none⟩)) hs ?_ (.ptr b _ s hr)
    simp [execOp, Instr.indexAt, run_underlying ht, asIntOf, hxx, hy', h0, hj, sizeOf, typeInfo, hi, add_off, Nat.add_assoc]
  | indexAddrA ho ht hi hx hy h0 hj =>
    rename_i t x y el i b k len q j
    simp only at ho; subst ho
    have hy' : evc y = .int q j := by have := he _ _ hy; generalize evc y = z at this; cases this; rfl
    obtain ⟨s, hr, hxx⟩ := (he _ _ hx).ptr_inv
    refine .pure (v' := .pointer (some ⟨s.blk, s.off + (k + j.toNat * i.size), none⟩)) hs ?_ (.ptr b _ s hr)
    simp [execOp, Instr.indexAt, run_underlying ht, asIntOf, hxx, hy', h0, hj, Instr.sureAddr, sizeOf, typeInfo, hi, add_off, Nat.add_assoc]
  | indexA1 ho ht hi hd hd1 hx hy h0 hj hv =>
    rename_i t x y el d i len q j cs
    simp only at ho; subst ho
    have hy' : evc y = .int q j := by have := he _ _ hy; generalize evc y = z at this; cases this; rfl
    obtain ⟨c', h1, h2, h3⟩ := (he _ _ hx).agg_inv
    obtain ⟨u', a, b⟩ := h3 _ _ hv
    exact .pure hs (by simp [execOp, Instr.index, run_underlying ht, h1, hy', asIntOf, h0, hj, part, isAgg_run hd, hd1, sizeOf, typeInfo, hi, a]) b
  | extract ho hx hv =>
    rename_i x j vs
    simp only at ho; subst ho
    obtain ⟨c', h1, h2, h3⟩ := (he _ _ hx).tuple_inv
    obtain ⟨u', a, b⟩ := h3 _ _ hv
    exact .pure hs (by simp [execOp, Instr.extract, h1, a]) b
  | mkIface ho ht hd hx =>
    rename_i t x d v
    simp only at ho; subst ho
    refine .pure hs ?_ (.iface t _ _ (he _ _ hx))
    simp only [execOp, Instr.makeInterface, Sem.run_bind, run_underlying ht, Result.andThen_ok]
    cases d <;> first | rfl | exact absurd rfl (hd _)
  | mkFunc ho hx hy =>
    rename_i f xs ys a c
    simp only at ho; subst ho
    obtain ⟨i1, i2⟩ := mapM_ev he _ _ hx
    obtain ⟨j1, j2⟩ := mapM_ev he _ _ hy
    refine .pure (v' := .func f (xs.map evc) (ys.map evc)) hs (by simp [execOp, Instr.makeFunc]) (.func f _ _ _ _ (by simpa using i1) (by simpa using j1) (fun i h1 h2 => ?_) (fun i h1 h2 => ?_))
    · obtain ⟨u', p, q⟩ := i2 i a[i] (by simp [h1])
      have : (xs.map evc)[i] = u' := by
        have := Array.getElem?_eq_getElem h2
        rw [← Array.getElem?_toList, Array.toList_map, p] at this
        exact (Option.some.inj this).symm
      rw [this]; exact q
    · obtain ⟨u', p, q⟩ := j2 i c[i] (by simp [h1])
      have : (ys.map evc)[i] = u' := by
        have := Array.getElem?_eq_getElem h2
        rw [← Array.getElem?_toList, Array.toList_map, p] at this
        exact (Option.some.inj this).symm
      rw [this]; exact q
  | len ho ht hx =>
    rename_i t x el a len cap
    simp only at ho; subst ho
    have hx' := he _ _ hx
    have : ∃ a' cap', evc x = .slice a' len cap' := by generalize evc x = z at hx'; cases hx' <;> exact ⟨_, _, rfl⟩
    obtain ⟨a', cap', hxx⟩ := this
    refine .pure (v' := .int .i64 len) hs ?_ (.int .i64 len)
    simp [execOp, resolve, invoke, builtin, Builtin.len_, run_underlying ht, hxx, goInt]
  | assert ho ht hd hx =>
    rename_i x t s ok d v
    simp only at ho; subst ho
    have hx' := he _ _ hx
    have : ∃ v', evc x = .iface s v' ∧ VR ρ v v' := by generalize evc x = z at hx'; cases hx' with | iface t v v' h => exact ⟨v', rfl, h⟩
    obtain ⟨v', hxx, hV⟩ := this
    refine .pure (v' := if ok then .tuple #[v', .bool true] else v') hs ?_ ?_
    · simp only [execOp, Instr.typeAssert, Sem.run_bind, run_underlying ht, Result.andThen_ok, hxx]
      cases d <;> first | (exact absurd rfl (hd _)) | (simp <;> cases ok <;> rfl)
    · cases ok
      · exact hV
      · refine .tuple _ _ rfl fun i h1 h2 => ?_
        match i, h1, h2 with
        | 0, _, _ => exact hV
        | 1, _, _ => exact .bool true
end
end Go.Proofs.YtmodhnkjimpkbaaAb
