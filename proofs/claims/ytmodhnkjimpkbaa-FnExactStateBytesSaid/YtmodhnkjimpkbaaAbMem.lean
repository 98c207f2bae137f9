import Derived.Test.YtmodhnkjimpkbaaAbStep
import Derived.Laws.IdiomStrings
import Derived.Laws.OwnMore
set_option linter.all false
namespace Go.Proofs.YtmodhnkjimpkbaaAb
open Go
def isInt : TypeDesc → Bool
  | .int _ => true
  | _ => false
def u8 (b : UInt8) : Value := .int .u8 b.toNat
def lb (len cap : Nat) : Nat := max len (if UNK ≤ cap then cap - UNK else cap)
def Bnd (ev : Operand → Option Value) (o : Option Operand) (dflt r : Nat) : Prop :=
  match o with
  | none => r = dflt
  | some y => ∃ q, ev y = some (.int q (r : Int))
inductive Src (P : Program) (ev : Operand → Option Value) (H : Heap) (size : Nat) (u : TypeId) (y : Operand) : Nat → List Value → Prop
  | slice {d : TypeDesc} {b k m cap e : Nat} {c l : List Value} (hu : P.underlying u = some d) (hd : isInt d = false) (hy : ev y = some (.slice (some ⟨b, k, none⟩) m cap)) (hb : H b = some (.row e c))
      (hl : (c.drop k).take (m * size) = l) (hn : l.length = m * size) : Src P ev H size u y m l
  | nil {d : TypeDesc} (hu : P.underlying u = some d) (hd : isInt d = false) (hy : ev y = some (.slice none 0 0)) : Src P ev H size u y 0 []
  | str {d : TypeDesc} {s : ByteArray} (hu : P.underlying u = some d) (hd : isInt d = false) (hs : size = 1) (hy : ev y = some (.string s)) : Src P ev H size u y s.size (s.data.toList.map u8)
inductive StepM (P : Program) (lo : Nat) (ev : Operand → Option Value) (n : Nat) (H : Heap) : Oper → Value → Nat → Heap → Prop
  | slice {o : Oper} {t el : TypeId} {i : TypeInfo} {x : Operand} {low high mx : Option Operand} {b k len cap l h m e : Nat} {c : List Value} (ho : o.op = .slice t x low high mx) (ht : P.underlying t = some (.slice el)) (hi : P.info? el = some i)
      (hx : ev x = some (.slice (some ⟨b, k, none⟩) len cap)) (hb : H b = some (.row e c)) (he : e = i.size) (hm : Bnd ev mx (lb len cap) m) (hmm : m ≤ lb len cap) (hl : Bnd ev low 0 l) (hh : Bnd ev high len h) (hmx : mx.isSome → high.isSome) (hlh : l ≤ h) (hhm : h ≤ m) :
      StepM P lo ev n H o (.slice (some ⟨b, k + l * i.size, none⟩) (h - l) (UNK + (m - l))) n H
  | sliceNil {o : Oper} {t el : TypeId} {i : TypeInfo} {x : Operand} {low high : Option Operand} (ho : o.op = .slice t x low high none) (ht : P.underlying t = some (.slice el)) (hi : P.info? el = some i)
      (hx : ev x = some (.slice none 0 0)) (hl : Bnd ev low 0 0) (hh : Bnd ev high 0 0) : StepM P lo ev n H o (.slice none 0 0) n H
  | eqNil {o : Oper} {op : BinOp} {t u el : TypeId} {x y : Operand} {a : Option Addr} {len cap : Nat} (ho : o.op = .binOp op t x y u) (hop : op = .eql ∨ op = .neq) (ht : P.underlying t = some (.slice el)) (hx : ev x = some (.slice a len cap)) (hy : ev y = some (.slice none 0 0)) :
      StepM P lo ev n H o (.bool (if op = .eql then a.isNone else !a.isNone)) n H
  | capE {o : Oper} {t : TypeId} {x : Operand} {el : TypeId} {a : Option Addr} {len cap : Nat} (ho : o.op = .call { callee := .builtin .cap, args := #[x], argTypes := #[t] }) (ht : P.underlying t = some (.slice el))
      (hx : ev x = some (.slice a len cap)) (hc : cap < UNK) : StepM P lo ev n H o (.int .i64 cap) n H
  | make {o : Oper} {t el : TypeId} {i : TypeInfo} {z : Value} {x y : Operand} {q q' : IntKind} {l c : Nat} (ho : o.op = .makeSlice t x y) (ht : P.underlying t = some (.slice el)) (hi : P.info? el = some i) (hz : i.zero = some z)
      (hzs : (Cells z).length = i.size) (h0 : 0 < i.size) (hg : ∀ v ∈ Cells z, Gr v ∧ v.oneCell' = true) (hx : ev x = some (.int q (l : Int))) (hy : ev y = some (.int q' (c : Int))) (hlc : l ≤ c) (hb : i.bytes * c ≤ 281474976710656) (h63 : c < UNK) :
      StepM P lo ev n H o (.slice (some ⟨n, 0, none⟩) l c) (n + 1) (H.set n (.row i.size (List.replicate c (Cells z)).flatten))
  | build {o : Oper} {t : TypeId} {ps : Array (Nat × Operand)} {fs : Array Field} {parts : List (Nat × Value)} {places : List (Nat × Nat)} {z : Value} {iz : TypeInfo} {cells : Array Value} (ho : o.op = .build t ps) (ht : P.underlying t = some (.struct fs))
      (hi : P.info? t = some iz) (hz : iz.zero = some z) (hg : ∀ v ∈ Cells z, Gr v) (hp : ps.toList.mapM (fun p => (ev p.2).map fun v => (p.1, v)) = some parts)
      (hpl : fs.toList.mapM (fun f => (P.info? f.type).map fun i => (f.offset, i.size)) = some places) (hf : Instr.fill (places.toArray[·]?) z.cells parts = some cells) : StepM P lo ev n H o (.agg cells) n H
  | buildA {o : Oper} {t el : TypeId} {len : Nat} {ps : Array (Nat × Operand)} {parts : List (Nat × Value)} {z : Value} {iz i : TypeInfo} {cells : Array Value} (ho : o.op = .build t ps) (ht : P.underlying t = some (.array len el))
      (hi : P.info? t = some iz) (hz : iz.zero = some z) (hie : P.info? el = some i) (hg : ∀ v ∈ Cells z, Gr v) (hp : ps.toList.mapM (fun p => (ev p.2).map fun v => (p.1, v)) = some parts)
      (hf : Instr.fill (fun j => some (j * i.size, i.size)) z.cells parts = some cells) : StepM P lo ev n H o (.agg cells) n H
  | buildSlice {o : Oper} {t el : TypeId} {len : Nat} {ps : Array (Nat × Operand)} {parts : List (Nat × Value)} {z : Value} {i : TypeInfo} {cells : Array Value} (ho : o.op = .buildSlice t len ps) (ht : P.underlying t = some (.slice el)) (hi : P.info? el = some i) (hz : i.zero = some z)
      (hg : ∀ v ∈ Cells z, Gr v ∧ v.oneCell' = true) (hsz : len * i.size ≤ 16777216) (hlen : len < UNK) (hp : ps.toList.mapM (fun p => (ev p.2).map fun v => (p.1, v)) = some parts) (h1 : ∀ v ∈ cells.toList, v.oneCell' = true) (hzc : (Cells z).length = i.size)
      (hf : Instr.fill (fun j => some (j * i.size, i.size)) (madeCells z.cells (len * i.size)) parts = some cells) (hcs : cells.size = len * i.size) :
      StepM P lo ev n H o (.slice (some ⟨n, 0, none⟩) len len) (n + 1) (H.set n (.row i.size cells.toList))
  | append0 {o : Oper} {t u el : TypeId} {i : TypeInfo} {x y : Operand} {a : Option Addr} {len cap : Nat} (ho : o.op = .call { callee := .builtin .append, args := #[x, y], argTypes := #[t, u] }) (ht : P.underlying t = some (.slice el)) (hi : P.info? el = some i)
      (hx : ev x = some (.slice a len cap)) (hsrc : Src P ev H i.size u y 0 []) : StepM P lo ev n H o (.slice a len cap) n H
  | appendI {o : Oper} {t u el : TypeId} {i : TypeInfo} {x y : Operand} {b k len cap m e : Nat} {c news : List Value} (ho : o.op = .call { callee := .builtin .append, args := #[x, y], argTypes := #[t, u] }) (ht : P.underlying t = some (.slice el)) (hi : P.info? el = some i)
      (hx : ev x = some (.slice (some ⟨b, k, none⟩) len cap)) (hsrc : Src P ev H i.size u y m news) (hb : H b = some (.row e c)) (hlb : len + m ≤ lb len cap) (hfit : k + (len + m) * i.size ≤ c.length) (hlo : lo ≤ b) (hbn : b < n) (h1 : ∀ v ∈ news, v.oneCell' = true) (hm0 : 0 < m) (hcu : UNK ≤ cap → cap < 2 * UNK) :
      StepM P lo ev n H o (.slice (some ⟨b, k, none⟩) (len + m) cap) n (H.set b (.row e (splice c (k + len * i.size) news)))
  | appendN {o : Oper} {t u el : TypeId} {i : TypeInfo} {z : Value} {x y : Operand} {m : Nat} {news : List Value} (ho : o.op = .call { callee := .builtin .append, args := #[x, y], argTypes := #[t, u] }) (ht : P.underlying t = some (.slice el)) (hi : P.info? el = some i) (hz : i.zero = some z) (hzs : (Cells z).length = i.size)
      (hx : ev x = some (.slice none 0 0)) (hsrc : Src P ev H i.size u y m news) (h1 : ∀ v ∈ news, v.oneCell' = true) (hm0 : 0 < m) (hby : m * i.bytes ≤ 140737488355328) (h63 : m < UNK) :
      StepM P lo ev n H o (.slice (some ⟨n, 0, none⟩) m (UNK + m)) (n + 1) (H.set n (.row i.size news))
  | appendZ {o : Oper} {t u el : TypeId} {i : TypeInfo} {z : Value} {x y : Operand} {q qk : IntKind} {m : Nat} (ho : o.op = .call { callee := .builtin .append, args := #[x, y], argTypes := #[t, u] }) (ht : P.underlying t = some (.slice el)) (hu : P.underlying u = some (.int qk)) (hi : P.info? el = some i) (hz : i.zero = some z) (hzs : (Cells z).length = i.size) (h0 : 0 < i.size)
      (hg : ∀ v ∈ Cells z, Gr v ∧ v.oneCell' = true) (hx : ev x = some (.slice none 0 0)) (hy : ev y = some (.int q (m : Int))) (hm0 : 0 < m) (hby : m * i.bytes ≤ 140737488355328) (h63 : m < UNK) :
      StepM P lo ev n H o (.slice (some ⟨n, 0, none⟩) m (UNK + m)) (n + 1) (H.set n (.row i.size (List.replicate m (Cells z)).flatten))
  | appendG {o : Oper} {t u el : TypeId} {i : TypeInfo} {z : Value} {x y : Operand} {b k len cap m e : Nat} {c olds news : List Value} (ho : o.op = .call { callee := .builtin .append, args := #[x, y], argTypes := #[t, u] }) (ht : P.underlying t = some (.slice el)) (hi : P.info? el = some i) (hz : i.zero = some z) (hzs : (Cells z).length = i.size)
      (hx : ev x = some (.slice (some ⟨b, k, none⟩) len cap)) (hsrc : Src P ev H i.size u y m news) (hb : H b = some (.row e c)) (hol : (c.drop k).take (len * i.size) = olds) (holn : olds.length = len * i.size) (hcap : cap < UNK) (hgr : cap < len + m)
      (h1 : ∀ v ∈ olds ++ news, v.oneCell' = true) (hby : (len + m) * i.bytes ≤ 140737488355328) (h63 : len + m < UNK) :
      StepM P lo ev n H o (.slice (some ⟨n, 0, none⟩) (len + m) (UNK + (len + m))) (n + 1) (H.set n (.row i.size (olds ++ news)))
  | appendU {o : Oper} {t u el : TypeId} {i : TypeInfo} {z : Value} {x y : Operand} {b k len cap m e : Nat} {c olds news : List Value} (ho : o.op = .call { callee := .builtin .append, args := #[x, y], argTypes := #[t, u] }) (ht : P.underlying t = some (.slice el)) (hi : P.info? el = some i) (hz : i.zero = some z) (hzs : (Cells z).length = i.size)
      (hx : ev x = some (.slice (some ⟨b, k, none⟩) len cap)) (hsrc : Src P ev H i.size u y m news) (hb : H b = some (.row e c)) (he : e = i.size) (hol : (c.drop k).take (len * i.size) = olds) (holn : olds.length = len * i.size) (hcap : UNK ≤ cap) (hlo : lo ≤ b) (hbn : b < n) (hm0 : 0 < m)
      (h1 : ∀ v ∈ news, v.oneCell' = true) (hby : (len + m) * i.bytes ≤ 140737488355328) (h63 : len + m < UNK) (hk : k ≤ c.length) :
      StepM P lo ev n H o (.slice (some ⟨n, 0, none⟩) (len + m) (UNK + (len + m))) (n + 1) ((H.del b).set n (.row i.size (olds ++ news)))
  | copy {o : Oper} {t u el : TypeId} {i : TypeInfo} {x y : Operand} {b k len cap m e : Nat} {c news : List Value} (ho : o.op = .call { callee := .builtin .copy, args := #[x, y], argTypes := #[t, u] }) (ht : P.underlying t = some (.slice el)) (hi : P.info? el = some i)
      (hx : ev x = some (.slice (some ⟨b, k, none⟩) len cap)) (hsrc : Src P ev H i.size u y m news) (hb : H b = some (.row e c)) (hfit : k + (min m len) * i.size ≤ c.length) (hlo : lo ≤ b) (hbn : b < n) (h1 : ∀ v ∈ news, v.oneCell' = true) :
      StepM P lo ev n H o (.int .i64 ((min m len : Nat) : Int)) n (H.set b (.row e (splice c k (news.take ((min m len) * i.size)))))
  | clear {o : Oper} {t el : TypeId} {i : TypeInfo} {z : Value} {x : Operand} {b k len cap e : Nat} {c : List Value} (ho : o.op = .call { callee := .builtin .clear, args := #[x], argTypes := #[t] }) (ht : P.underlying t = some (.slice el)) (hi : P.info? el = some i) (hz : i.zero = some z) (hzs : (Cells z).length = i.size)
      (hx : ev x = some (.slice (some ⟨b, k, none⟩) len cap)) (hb : H b = some (.row e c)) (hfit : k + len * i.size ≤ c.length) (hlo : lo ≤ b) (hbn : b < n) (hg : ∀ v ∈ Cells z, Gr v ∧ v.oneCell' = true) (hl0 : 0 < len) :
      StepM P lo ev n H o undef n (H.set b (.row e (splice c k (List.replicate len (Cells z)).flatten)))
  | toBytes {o : Oper} {s t el : TypeId} {x : Operand} {y : ByteArray} (ho : o.op = .convert s t x) (hs : P.underlying s = some .string) (ht : P.underlying t = some (.slice el)) (hel : P.underlying el = some (.int .u8)) (hx : ev x = some (.string y)) (h63 : y.size < UNK) :
      StepM P lo ev n H o (.slice (some ⟨n, 0, none⟩) y.size (UNK + y.size)) (n + 1) (H.set n (.row 1 (y.data.toList.map u8)))
  | toStr {o : Oper} {s t el : TypeId} {x : Operand} {b k len cap e : Nat} {c : List Value} {l : List UInt8} (ho : o.op = .convert s t x) (hs : P.underlying s = some (.slice el)) (ht : P.underlying t = some .string) (hel : P.underlying el = some (.int .u8)) (hx : ev x = some (.slice (some ⟨b, k, none⟩) len cap))
      (hb : H b = some (.row e c)) (hl : (c.drop k).take len = l.map u8) (hn : l.length = len) : StepM P lo ev n H o (.string ⟨l.toArray⟩) n H
  | toStrNil {o : Oper} {s t el : TypeId} {x : Operand} (ho : o.op = .convert s t x) (hs : P.underlying s = some (.slice el)) (ht : P.underlying t = some .string) (hel : P.underlying el = some (.int .u8)) (hx : ev x = some (.slice none 0 0)) : StepM P lo ev n H o (.string ⟨#[]⟩) n H
section
variable {P : Program} {β lo n : Nat} {ρ : Rho} {H : Heap} {w : World} {evc : Operand → Value}
theorem VR.slice_inv {b k len cap : Nat} {v' : Value} (h : VR ρ (.slice (some ⟨b, k, none⟩) len cap) v') :
    ∃ s, ρ b = some s ∧ ((∃ cap', v' = .slice (some ⟨s.blk, s.off + k, none⟩) len cap' ∧ len ≤ cap' ∧ k + cap' * s.esz ≤ s.room ∧ (cap = cap' ∨ (UNK ≤ cap ∧ cap ≤ UNK + cap'))) ∨
      (len = 0 ∧ cap = UNK ∧ ∃ x, v' = .slice (some x) 0 0)) := by
  cases h with
  | sl b o len cap cap' s h hl hr hc => exact ⟨s, h, .inl ⟨cap', rfl, hl, hr, hc⟩⟩
  | sl0 b o x s h => exact ⟨s, h, .inr ⟨rfl, rfl, x, rfl⟩⟩
theorem bnd_run {ev : Operand → Option Value} (he : EvR ρ ev evc) {o : Option Operand} {d r : Nat} (h : Bnd ev o d r) :
    (o = none ∧ r = d) ∨ ∃ y q, o = some y ∧ evc y = .int q (r : Int) := by
  cases o with
  | none => exact .inl ⟨rfl, h⟩
  | some y =>
    obtain ⟨q, hq⟩ := h
    refine .inr ⟨y, q, rfl, ?_⟩
    have := he _ _ hq
    generalize evc y = z at this
    cases this; rfl
theorem run_sliceBound (k : IntKind) (i y : Nat) (code : BoundsCode) (h : i ≤ y) (w : World) : (Instr.sliceBound (.int k (i : Int)) y code).run P w = .ok i w := by
  have : (i : Int) ≤ (y : Int) := by omega
  simp [Instr.sliceBound, asIntOf, h]
theorem run_sliceBounds (isSlice : Bool) (len cap l h m : Nat) (low high mx : Option Value) (hm : (mx = none ∧ m = cap) ∨ ∃ q, mx = some (.int q (m : Int))) (hmc : m ≤ cap)
    (hh : (high = none ∧ h = len) ∨ ∃ q, high = some (.int q (h : Int))) (hl : (low = none ∧ l = 0) ∨ ∃ q, low = some (.int q (l : Int))) (hlh : l ≤ h) (hhm : h ≤ m) (hmx : mx.isSome → high.isSome) (w : World) :
    (Instr.sliceBounds isSlice len cap low high mx).run P w = .ok (l, h, m) w := by
  rcases hm with ⟨rfl, rfl⟩ | ⟨q, rfl⟩ <;> rcases hh with ⟨rfl, rfl⟩ | ⟨q', rfl⟩ <;> rcases hl with ⟨rfl, rfl⟩ | ⟨q'', rfl⟩ <;>
    first | (simp [Instr.sliceBounds, run_sliceBound, hlh, hhm, hmc]; done) | (simp [Instr.sliceBounds, run_sliceBound, hlh, hhm]; done) | (simp at hmx)
theorem src_run {ev : Operand → Option Value} (he : EvR ρ ev evc) (hs : Sim β ρ H w) {size m : Nat} {u : TypeId} {y : Operand} {news : List Value} (h : Src P ev H size u y m news) :
    ∃ d, P.underlying u = some d ∧ isInt d = false ∧ (∀ w, (Builtin.lenOf (evc y)).run P w = .ok m w) ∧ ∃ l' : List Value, (∀ w', w'.heap = w.heap → (Builtin.firstCells size m (evc y)).run P w' = .ok l'.toArray w') ∧ l'.length = news.length ∧ news.length = m * size ∧
      (∀ (j : Nat) v, news[j]? = some v → ∃ v', l'[j]? = some v' ∧ VR ρ v v') ∧ (∀ j, j ≤ m → ∀ w', w'.heap = w.heap → (Builtin.firstCells size j (evc y)).run P w' = .ok (l'.take (j * size)).toArray w') := by
  cases h with
  | slice hu hd hy hb hl hn =>
    rename_i d b k cap e c
    obtain ⟨s, hr, hx⟩ := (he _ _ hy).slice_inv
    rcases hx with ⟨cap', hv, h1, h2, h3⟩ | ⟨rfl, rfl, x, hv⟩
    · have key : ∀ w', w'.heap = w.heap → ∃ l' : List Value, (loadCells ⟨s.blk, s.off + k, none⟩ (m * size)).run P w' = .ok l'.toArray w' ∧ l'.length = m * size ∧ ∀ (j : Nat) u, news[j]? = some u → ∃ u', l'[j]? = some u' ∧ VR ρ u u' :=
        fun w' hw' => loadCells_sim (P := P) (hs.same_heap hw') hb hr hl hn
      have hc : ∀ j, j < m * size → ∃ u, w.cell? ⟨s.blk, s.off + k + j, none⟩ = some u ∧ ∃ x, news[j]? = some x ∧ VR ρ x u := by
        intro j hj
        have hj' : j < news.length := by omega
        have hlj : news[j]? = c[k + j]? := by rw [← hl, List.getElem?_take_of_lt hj, List.getElem?_drop]
        obtain ⟨u', a1, a2⟩ := hs.cell hb hr (k := k + j) (v := news[j]) (by rw [← hlj]; exact List.getElem?_eq_getElem hj')
        exact ⟨u', by rw [Nat.add_assoc]; exact a1, news[j], List.getElem?_eq_getElem hj', a2⟩
      have hload : ∀ q, q ≤ m * size → ∀ w', w'.heap = w.heap → (loadCells ⟨s.blk, s.off + k, none⟩ q).run P w' = .ok (((List.range (m * size)).map fun j => (w.cell? ⟨s.blk, s.off + k + j, none⟩).getD undef).take q).toArray w' := by
        intro q hq w' hw'
        have := run_loadCells (P := P) w' ⟨s.blk, s.off + k, none⟩ q (fun j => (w.cell? ⟨s.blk, s.off + k + j, none⟩).getD undef) (fun j hj => by
          obtain ⟨u, a1, _⟩ := hc j (by omega)
          rw [add_off, show w'.cell? ⟨s.blk, s.off + k + j, none⟩ = w.cell? ⟨s.blk, s.off + k + j, none⟩ by simp [World.cell?, hw'], a1]; rfl)
        rw [this]
        congr 2
        rw [← List.map_take, List.take_range, Nat.min_eq_left hq]
      refine ⟨d, hu, hd, fun w => by simp [hv, Builtin.lenOf], (List.range (m * size)).map fun j => (w.cell? ⟨s.blk, s.off + k + j, none⟩).getD undef, fun w' hw' => ?_, by simp [hn], hn, fun j v hj => ?_, fun j hj w' hw' => ?_⟩
      · have := hload (m * size) (Nat.le_refl _) w' hw'
        rw [List.take_of_length_le (by simp)] at this
        simpa [hv, Builtin.firstCells] using this
      · have hjm : j < m * size := by rw [← hn]; exact (List.getElem?_eq_some_iff.1 hj).1
        obtain ⟨u, a1, x, a2, a3⟩ := hc j hjm
        rw [hj] at a2
        obtain rfl := Option.some.inj a2
        exact ⟨u, by simp [hjm, a1], a3⟩
      · simpa [hv, Builtin.firstCells] using hload (j * size) (Nat.mul_le_mul_right _ hj) w' hw'
    · have hnil : news = [] := List.eq_nil_of_length_eq_zero (by simpa using hn)
      subst hnil
      refine ⟨d, hu, hd, fun w => by simp [hv, Builtin.lenOf], [], fun w' hw' => ?_, rfl, by simp, fun j v hj => by simp at hj, fun j hj w' hw' => ?_⟩
      · simp [hv, Builtin.firstCells, loadCells, loadCellsFrom]
      · obtain rfl : j = 0 := by omega
        simp [hv, Builtin.firstCells, loadCells, loadCellsFrom]
  | nil hu hd hy =>
    rename_i d
    have hv : evc y = .slice none 0 0 := by have := he _ _ hy; generalize evc y = z at this; cases this; rfl
    exact ⟨d, hu, hd, fun w => by simp [hv, Builtin.lenOf], [], fun w' hw' => by simp [hv, Builtin.firstCells], rfl, by simp, fun j v hj => by simp at hj, fun j hj w' hw' => by simp [hv, Builtin.firstCells]⟩
  | str hu hd hsz hy =>
    rename_i d s
    subst hsz
    have hv : evc y = .string s := by have := he _ _ hy; generalize evc y = z at this; cases this; rfl
    have hsd : s.size = s.data.toList.length := by cases s; rfl
    refine ⟨d, hu, hd, fun w => by simp [hv, Builtin.lenOf], s.data.toList.map u8, fun w' hw' => ?_, rfl, by rw [List.length_map, Nat.mul_one]; exact hsd.symm, fun j v hj => ⟨v, hj, ?_⟩, fun j hj w' hw' => ?_⟩
    · simp [hv, Builtin.firstCells]
      apply Array.ext'
      simp
      intro a _; rfl
    · simp only [List.getElem?_map, Option.map_eq_some_iff] at hj
      obtain ⟨b, _, rfl⟩ := hj
      exact .int .u8 _
    · simp [hv, Builtin.firstCells]
      apply Array.ext'
      simp
      rfl
end
end Go.Proofs.YtmodhnkjimpkbaaAb
