import Derived.Test.YtmodhnkjimpkbaaAbMemT
import Derived.WalkSpells
set_option linter.all false
namespace Go.Proofs.YtmodhnkjimpkbaaAb
open Go
section
variable {P : Program} {β lo n : Nat} {ρ : Rho} {H : Heap} {w : World} {evc : Operand → Value}
theorem run_bytesToString_u8 (w : World) (a : Addr) (len cap : Nat) (l : List UInt8) (h : (loadCells a len).run P w = .ok (l.map u8).toArray w) :
    (Conv.bytesToString (.slice (some a) len cap)).run P w = .ok (.string ⟨l.toArray⟩) w := by
  have h' : (loadCells a len).run P w = .ok ((l.map (fun b => (b.toNat : Int))).map (Value.int .u8)).toArray w := by
    rw [h, List.map_map]; rfl
  rw [run_bytesToString w a len cap _ h', foldl_push_byteCells]
  have he0 : ByteArray.empty.data = #[] := rfl
  rw [he0]; simp
theorem map_u8_rel {l : List UInt8} {l' : List Value} (hl : l'.length = l.length) (h : ∀ (j : Nat) v, (l.map u8)[j]? = some v → ∃ v', l'[j]? = some v' ∧ VR ρ v v') : l' = l.map u8 := by
  apply List.ext_getElem?
  intro j
  by_cases hj : j < l.length
  · obtain ⟨v', a, b⟩ := h j (u8 l[j]) (by simp [hj])
    rw [a]
    have : v' = u8 l[j] := by unfold u8 at b ⊢; cases b; rfl
    rw [this]; simp [hj]
  · rw [List.getElem?_eq_none (by omega), List.getElem?_eq_none (by simp; omega)]
set_option maxHeartbeats 4000000 in
theorem StepM.sound {ev : Operand → Option Value} {o : Oper} {v : Value} {n' : Nat} {H' : Heap} (h : StepM P lo ev n H o v n' H') (hβ : β ≤ lo) (hlo : lo ≤ n) (he : EvR ρ ev evc) (hs : Sim β ρ H w)
    (hf : ∀ i, n ≤ i → i < n' → ρ i = none) : Lands P β lo ρ n H w evc o v n' H' := by
  cases h with
  | slice ho ht hi hx hb he' hm hmm hl hh hmx hlh hhm =>
    rename_i t el i x low high mx b k len cap l h m e c
    obtain ⟨dst, op, ty, pos, after, guard⟩ := o
    simp only at ho; subst ho
    subst he'
    obtain ⟨s, hr, hxx⟩ := (he _ _ hx).slice_inv
    obtain ⟨cc, T, fz, g1, g2, g3, g4, g5, g6, g7⟩ := hs.row b _ c s hb hr
    have hlow := opt_bnd (d := 0) he hl
    have hhigh := opt_bnd (d := len) he hh
    have hmxb := opt_bnd he hm
    have hlb : ∀ cap', len ≤ cap' → (cap = cap' ∨ (UNK ≤ cap ∧ cap ≤ UNK + cap')) → lb len cap ≤ cap' := fun cap' a b => by
      unfold lb
      rcases b with rfl | ⟨b1, b2⟩
      · split <;> omega
      · rw [if_pos b1]; omega
    rcases hxx with ⟨cap', hv, h1, h2, h3⟩ | ⟨rfl, rfl, x', hv⟩
    · have hcap := hlb cap' h1 h3
      obtain ⟨m', hm', hmm', hml⟩ : ∃ m', (Instr.sliceBounds true len cap' (low.map evc) (high.map evc) (mx.map evc)).run P w = .ok (l, h, m') w ∧ m ≤ m' ∧ m' ≤ cap' := by
        rcases hmxb with ⟨e1, e2⟩ | ⟨q, e1⟩
        · exact ⟨cap', run_sliceBounds true len cap' l h cap' _ _ _ (.inl ⟨e1, rfl⟩) (Nat.le_refl _) hhigh hlow hlh (by omega) (by rw [e1]; simp) w, by omega, Nat.le_refl _⟩
        · exact ⟨m, run_sliceBounds true len cap' l h m _ _ _ (.inr ⟨q, e1⟩) (by omega) hhigh hlow hlh hhm (by simpa using hmx) w, Nat.le_refl _, by omega⟩
      by_cases hml2 : m' = l
      · refine .pure (v' := .slice (some ⟨s.blk, s.off + k, none⟩) (h - l) (m' - l)) hs ?_ ?_
        · simp [execOp, Instr.sliceAt, Instr.slice, run_underlying ht, hv, hm', sizeOf, typeInfo, hi, hml2]
        · have e1 : h - l = 0 := by omega
          have e2 : m' - l = 0 := by omega
          have e3 : m - l = 0 := by omega
          rw [e1, e2, e3]
          exact .sl0 b _ _ s hr
      · refine .pure (v' := .slice (some ⟨s.blk, s.off + (k + l * i.size), none⟩) (h - l) (m' - l)) hs ?_ (.sl b _ _ _ _ s hr (by omega) ?_ (.inr ⟨by omega, by omega⟩))
        · simp [execOp, Instr.sliceAt, Instr.slice, run_underlying ht, hv, hm', sizeOf, typeInfo, hi, hml2, add_off, Nat.add_assoc]
        · rw [g2] at h2 ⊢
          have : l * i.size + (m' - l) * i.size ≤ cap' * i.size := by rw [← Nat.add_mul]; exact Nat.mul_le_mul_right _ (by omega)
          omega
    · have e0 : lb 0 UNK = 0 := by unfold lb; rw [if_pos (Nat.le_refl _)]; simp
      rw [e0] at hmm
      obtain rfl : m = 0 := by omega
      obtain rfl : h = 0 := by omega
      obtain rfl : l = 0 := by omega
      refine .pure (v' := .slice (some x') 0 0) hs ?_ ?_
      · have := run_sliceBounds (P := P) true 0 0 0 0 0 (low.map evc) (high.map evc) (mx.map evc) (by rcases hmxb with ⟨a, _⟩ | a; exact .inl ⟨a, rfl⟩; exact .inr a) (Nat.le_refl _) hhigh hlow (Nat.le_refl _) (Nat.le_refl _) (by simpa using hmx) w
        simp [execOp, Instr.sliceAt, Instr.slice, run_underlying ht, hv, this, sizeOf, typeInfo, hi]
      · exact .sl0 b _ _ s hr
  | sliceNil ho ht hi hx hl hh =>
    rename_i t el i x low high
    obtain ⟨dst, op, ty, pos, after, guard⟩ := o
    simp only at ho; subst ho
    have hv : evc x = .slice none 0 0 := by have := he _ _ hx; generalize evc x = z at this; cases this; rfl
    have hlow := opt_bnd (d := 0) he hl
    have hhigh := opt_bnd (d := 0) he hh
    have := run_sliceBounds (P := P) true 0 0 0 0 0 (low.map evc) (high.map evc) none (.inl ⟨rfl, rfl⟩) (Nat.le_refl _) hhigh hlow (Nat.le_refl _) (Nat.le_refl _) (by simp) w
    exact .pure hs (by simp [execOp, Instr.sliceAt, Instr.slice, run_underlying ht, hv, this, sizeOf, typeInfo, hi]) .nils
  | eqNil ho hop ht hx hy =>
    rename_i op t u el x y a len cap
    obtain ⟨dst, op', ty, pos, after, guard⟩ := o
    simp only at ho; subst ho
    have hv : evc y = .slice none 0 0 := by have := he _ _ hy; generalize evc y = z at this; cases this; rfl
    have hx' := he _ _ hx
    have : ∃ a' l' c', evc x = .slice a' l' c' ∧ a'.isNone = a.isNone := by generalize evc x = z at hx'; cases hx' <;> exact ⟨_, _, _, rfl, rfl⟩
    obtain ⟨a', l', c', hxx, hnone⟩ := this
    refine .pure (v' := .bool (if op = .eql then a.isNone else !a.isNone)) hs ?_ (.bool _)
    have hg : (eqGuard op t x y (evc x) (evc y)).run P w = .ok () w := by rw [hxx, hv]; rcases hop with rfl | rfl <;> rfl
    have hb : (binOp op t (evc x) (evc y)).run P w = .ok (.bool (if op = .eql then a'.isNone else !a'.isNone)) w := by
      rw [hxx, hv]
      rcases hop with rfl | rfl
      · exact Lib.run_eql_slice_nil w t el a' l' c' 0 0 ht
      · exact run_neq_slice_nil_any w t el a' l' c' 0 0 ht
    simp only [execOp]
    refine run_value ?_
    simp only [Sem.run_bind, hg, Result.andThen_ok, hb, hnone]
  | capE ho ht hx hc =>
    rename_i t x el a len cap
    have hx' := he _ _ hx
    have : ∃ a', evc x = .slice a' len cap := by
      generalize evc x = z at hx'
      cases hx' with
      | nils => exact ⟨_, rfl⟩
      | sl b o len cap cap' s h hl hr hcc => rcases hcc with rfl | ⟨h1, _⟩; exact ⟨_, rfl⟩; omega
      | sl0 => omega
    obtain ⟨a', hxx⟩ := this
    refine .pure (v' := .int .i64 cap) hs ?_ (.int .i64 cap)
    rw [run_call_builtin ho]
    simp [builtin, Builtin.cap_, run_underlying ht, hxx, goInt]
  | make ho ht hi hz hzs h0 hg hx hy hlc hb h63 =>
    rename_i t el i z x y q q' l c
    obtain ⟨dst, op, ty, pos, after, guard⟩ := o
    simp only at ho; subst ho
    have hxv := int_inv he hx
    have hyv := int_inv he hy
    have h63' : (c : Int) ≤ 9223372036854775807 := by unfold UNK at h63; omega
    have hb' : (i.bytes : Int) * (c : Int) ≤ 281474976710656 := by
      have h1 : ((i.bytes * c : Nat) : Int) ≤ 281474976710656 := by omega
      rwa [Int.natCast_mul] at h1
    have hrun := run_make (P := P) w t el i z ht hi hz q q' (l : Int) (c : Int) (by omega) (by omega) hb' h63'
    simp only [Int.toNat_natCast] at hrun
    have hml := madeCells_toList c i.size hzs h0
    refine ⟨_, _, _, .inl (by simp only [execOp, hxv, hyv]; exact run_value hrun), ?_,
      Ok.row hs hlo (hf n (Nat.le_refl _) (Nat.lt_succ_self _)) (madeCells z.cells (c * i.size)) el (0, 0) rfl i.size _ (c * i.size) (by rw [length_flat, hzs]; exact Nat.le_refl _) (by rw [size_madeCells]; exact Nat.le_refl _)
        (fun k v hk => ⟨v, by rw [← Array.getElem?_toList, hml]; exact hk, (hg v (getElem?_flat (m := 0) c hk)).1.2 ρ⟩) (fun k _ => by simp)
        (fun v hv => by obtain ⟨j, hj⟩ := List.getElem?_of_mem hv; exact (hg v (getElem?_flat (m := 0) c hj)).2)⟩
    exact .sl n 0 l c c ⟨w.heap.size, 0, c * i.size, i.size⟩ (Rho.set_same _ _ _) hlc (by simp) (.inl rfl)
  | build ho ht hi hz hg hp hpl hfl =>
    rename_i t ps fs parts places z iz cells
    obtain ⟨dst, op, ty, pos, after, guard⟩ := o
    simp only at ho; subst ho
    obtain ⟨q1, q2⟩ := parts_rel he _ _ hp
    obtain ⟨out', e1, e2, e3⟩ := fill_rel (ρ := ρ) (places.toArray[·]?) parts (ps.toList.map fun x => (x.1, evc x.2)) z.cells z.cells cells rfl (fun k v v' a b => by
      rw [a] at b; obtain rfl := Option.some.inj b; exact (hg v (List.mem_of_getElem? (by simpa [Cells] using a))).2 ρ) (by simpa using q1) q2 hfl
    refine .pure (v' := .agg out') hs ?_ (VR.agg_of e2 fun k u hk => ?_)
    · have hm := run_mapM_places (P := P) hpl w
      have hm2 : (fs.mapM (fun (f : Field) => do pure (f.offset, ← sizeOf f.type) : Field → Sem (Nat × Nat))).run P w = .ok places.toArray w := by
        rw [Array.mapM_eq_mapM_toList]
        rw [map_eq_pure_bind]
        rw [Sem.run_bind, hm]; rfl
      have hparts : (ps.map fun x => (x.1, evc x.2)).toList = ps.toList.map fun x => (x.1, evc x.2) := by simp
      simp only [execOp, Instr.build, Sem.run_bind, zeroValue, typeInfo]
      simp [hi, hz, run_underlying ht]
      simp at hm2
      rw [hm2]
      simp at e1
      simp [e1]
    · have hk1 := (Array.getElem?_eq_some_iff.1 hk).1
      exact ⟨out'[k]'(by omega), Array.getElem?_eq_getElem (by omega), e3 k u _ hk (Array.getElem?_eq_getElem (by omega))⟩
  | buildA ho ht hi hz hie hg hp hfl =>
    rename_i t el len ps parts z iz i cells
    obtain ⟨dst, op, ty, pos, after, guard⟩ := o
    simp only at ho; subst ho
    obtain ⟨q1, q2⟩ := parts_rel he _ _ hp
    obtain ⟨out', e1, e2, e3⟩ := fill_rel (ρ := ρ) _ parts (ps.toList.map fun x => (x.1, evc x.2)) z.cells z.cells cells rfl (fun k v v' a b => by
      rw [a] at b; obtain rfl := Option.some.inj b; exact (hg v (List.mem_of_getElem? (by simpa [Cells] using a))).2 ρ) (by simpa using q1) q2 hfl
    refine .pure (v' := .agg out') hs ?_ (VR.agg_of e2 fun k u hk => ?_)
    · simp only [execOp, Instr.build, Sem.run_bind, zeroValue, typeInfo]
      simp [hi, hz, run_underlying ht, sizeOf, typeInfo, hie, e1]
    · have hk1 := (Array.getElem?_eq_some_iff.1 hk).1
      exact ⟨out'[k]'(by omega), Array.getElem?_eq_getElem (by omega), e3 k u _ hk (Array.getElem?_eq_getElem (by omega))⟩
  | buildSlice ho ht hi hz hg hsz hlen hp h1 hzc hfl hcs =>
    rename_i t el len ps parts z i cells
    obtain ⟨dst, op, ty, pos, after, guard⟩ := o
    simp only at ho; subst ho
    obtain ⟨q1, q2⟩ := parts_rel he _ _ hp
    have hmade : ∀ (k : Nat) v, (madeCells z.cells (len * i.size))[k]? = some v → v ∈ Cells z := by
      intro k v hk
      simp only [madeCells, Array.getElem?_map, Option.map_eq_some_iff] at hk
      obtain ⟨a, ha, rfl⟩ := hk
      have hsz0 : 0 < z.cells.size := by
        have : z.cells.size = i.size := by simpa [Cells] using hzc
        rw [this]
        have := (Array.getElem?_eq_some_iff.1 ha).1
        simp at this
        by_cases h : i.size = 0
        · rw [h] at this; omega
        · omega
      have hlt := Nat.mod_lt a hsz0
      rw [getElem!_pos z.cells _ hlt]
      simp [Cells]
    obtain ⟨out', e1, e2, e3⟩ := fill_rel (ρ := ρ) _ parts (ps.toList.map fun x => (x.1, evc x.2)) (madeCells z.cells (len * i.size)) (madeCells z.cells (len * i.size)) cells rfl (fun k v v' a b => by
      rw [a] at b; obtain rfl := Option.some.inj b; exact (hg v (hmade k v a)).1.2 ρ) (by simpa using q1) q2 hfl
    have hn16 : ¬ (16777216 < len * i.size) := by omega
    refine ⟨.slice (some ⟨w.heap.size, 0, none⟩) len len, w.alloc (.cells out' el), _, .inl ?_, ?_,
      Ok.row hs hlo (hf n (Nat.le_refl _) (Nat.lt_succ_self _)) out' el (0, 0) rfl i.size cells.toList cells.size (by simp) (by omega) (fun k v hk => ?_) (fun k _ => by simp) h1⟩
    · have he1 : Instr.fill (fun j => some (j * i.size, i.size)) ((Array.range (len * i.size)).map (z.cells[· % z.cells.size]!)) (ps.toList.map fun x => (x.1, evc x.2)) = some out' := e1
      simp only [execOp, Instr.buildSlice, Sem.run_bind, sizeOf, typeInfo, zeroValue]
      by_cases h0 : len * i.size = 0
      · rw [h0] at he1
        simp only [Array.range_zero', List.map_toArray, List.map_nil, Array.map_empty] at he1
        simp [run_underlying ht, hi, h0, hn16, Array.range_zero', he1, newRow]
      · simp [run_underlying ht, hi, hz, h0, hn16, he1, newRow]
    · exact .sl n 0 len len len ⟨w.heap.size, 0, cells.size, i.size⟩ (Rho.set_same _ _ _) (Nat.le_refl _) (by simp [hcs]) (.inl rfl)
    · have hk' : cells[k]? = some v := by simpa using hk
      have hk1 := (Array.getElem?_eq_some_iff.1 hk').1
      exact ⟨out'[k]'(by omega), Array.getElem?_eq_getElem (by omega), e3 k v _ hk' (Array.getElem?_eq_getElem (by omega))⟩
  | append0 ho ht hi hx hsrc =>
    rename_i t u el i x y a len cap
    obtain ⟨d, hu, hd, hlen, l', hfirst, hl1, hl2, hV, _⟩ := src_run (P := P) he hs hsrc
    obtain rfl : l' = [] := List.eq_nil_of_length_eq_zero (by simpa using hl1)
    have hx' := he _ _ hx
    have : ∃ a' cap', evc x = .slice a' len cap' ∧ len ≤ cap' := by
      generalize evc x = z at hx'
      cases hx' with
      | nils => exact ⟨_, _, rfl, by omega⟩
      | sl b o len cap cap' s h hl hr hcc => exact ⟨_, _, rfl, hl⟩
      | sl0 => exact ⟨_, _, rfl, by omega⟩
    obtain ⟨a', cap', hxx, hle⟩ := this
    rw [hxx] at hx'
    refine .pure hs ?_ hx'
    rw [run_call_builtin ho]
    simp [builtin, hxx, run_append_same ht hu hd hi (hlen w) (hfirst w rfl) hle]
  | appendI ho ht hi hx hsrc hb hlb hfit hlo' hbn h1 hm0 hcu =>
    rename_i t u el i x y b k len cap m e c news
    obtain ⟨d, hu, hd, hlen, l', hfirst, hl1, hl2, hV, _⟩ := src_run (P := P) he hs hsrc
    obtain ⟨s, hr, hxx⟩ := (he _ _ hx).slice_inv
    obtain ⟨cc, T, fz, g1, g2, g3, g4, g5, g6, g7⟩ := hs.row b e c s hb hr
    have hsum : k + len * i.size + news.length ≤ c.length := by rw [hl2, Nat.add_assoc, ← Nat.add_mul]; exact hfit
    have hst := run_stores (P := P) hs hb hr (by omega) (o := k + len * i.size) (by omega) hl1 hV h1
    rcases hxx with ⟨cap', hv, a1, a2, a3⟩ | ⟨rfl, rfl, x', hv⟩
    · have hroom : len + m ≤ cap' := by
        unfold lb at hlb
        rcases a3 with rfl | ⟨b1, b2⟩
        · split at hlb <;> omega
        · rw [if_pos b1] at hlb; omega
      refine ⟨.slice (some ⟨s.blk, s.off + k, none⟩) (len + m) cap', _, ρ, .inl ?_, ?_, Ok.store hs hβ hlo' hbn hb hr hsum hl1 hV h1⟩
      · rw [run_call_builtin ho]
        simp [builtin, hv, run_append_fit ht hu hd hi (hlen w) (hfirst w rfl) (by rw [add_off, Nat.add_assoc]; exact hst) hroom]
      · exact .sl b k _ _ cap' s hr hroom a2 a3
    · exfalso
      have e0 : lb 0 UNK = 0 := by unfold lb; rw [if_pos (Nat.le_refl _)]; simp
      omega
  | appendN ho ht hi hz hzs hx hsrc h1 hm0 hby h63 =>
    rename_i t u el i z x y m news
    obtain ⟨d, hu, hd, hlen, l', hfirst, hl1, hl2, hV, _⟩ := src_run (P := P) he hs hsrc
    have hv : evc x = .slice none 0 0 := by have := he _ _ hx; generalize evc x = z at this; cases this; rfl
    have hrun := run_append_new (P := P) (w := w) (ty := o.type) (olds := []) ht hu hd hi hz (hlen w) (hfirst w.drew rfl) (by simp [Builtin.firstCells]) (show (0 : Nat) < 0 + m by omega) (by simpa using hby) (by simpa using h63) (a := none) (sCap := 0)
    simp only [Nat.zero_add] at hrun
    have hok := Ok.grown (β := β) (lo := lo) (size := i.size) (T := el) (olds := []) (olds' := []) (zs := Builtin.zeroCells z.cells (grownCap w m 0 el - m)) hs hlo (hf n (Nat.le_refl _) (Nat.lt_succ_self _)) rfl hl1 (fun k v hk => by simp at hk) hV (by simpa using h1)
    refine ⟨_, _, _, .inl (by rw [run_call_builtin ho]; simp only [builtin, List.map_toArray, List.map_cons, List.map_nil, hv]; exact run_value hrun), ?_, by simpa using hok⟩
    have hcap := le_grownCap w m 0 el
    refine .sl n 0 m (UNK + m) _ _ (Rho.set_same _ _ _) hcap ?_ (.inr ⟨by omega, by omega⟩)
    have hzz : z.cells.size = i.size := by simpa [Cells] using hzs
    simp only [size_zeroCells, hzz, Array.size_append, List.size_toArray, hl1, hl2, Nat.zero_add, List.length_nil]
    have := le_grownCap w m 0 el
    rw [← Nat.add_mul]
    exact Nat.mul_le_mul_right _ (by omega)
  | appendZ ho ht hu hi hz hzs h0 hg hx hy hm0 hby h63 =>
    rename_i t u el i z x y q qk m
    have hv : evc x = .slice none 0 0 := by have := he _ _ hx; generalize evc x = z at this; cases this; rfl
    have hyv := int_inv he hy
    have hrun := run_append_zeros (P := P) (w := w) (t := t) (ty := o.type) (q := q) ht hu hi hz hm0 h0 hby h63
    have hzl := zeroCells_toList m i.size hzs h0
    have hok := Ok.grown (β := β) (lo := lo) (size := i.size) (T := el) (olds := []) (olds' := []) (news := (List.replicate m (Cells z)).flatten) (news' := (Builtin.zeroCells z.cells m).toList) (zs := Builtin.zeroCells z.cells (grownCap w m 0 el - m)) hs hlo (hf n (Nat.le_refl _) (Nat.lt_succ_self _)) rfl (by rw [hzl]) (fun k v hk => by simp at hk)
      (fun k v hk => ⟨v, by rw [hzl]; exact hk, (hg v (getElem?_flat (m := 0) m hk)).1.2 ρ⟩) (fun v hv => by simp only [List.nil_append] at hv; obtain ⟨j, hj⟩ := List.getElem?_of_mem hv; exact (hg v (getElem?_flat (m := 0) m hj)).2)
    simp only [Array.toArray_toList] at hok
    refine ⟨_, _, _, .inl (by rw [run_call_builtin ho]; simp only [builtin, List.map_toArray, List.map_cons, List.map_nil, hv, hyv]; exact run_value hrun), ?_, by simpa using hok⟩
    have hcap := le_grownCap w m 0 el
    refine .sl n 0 m (UNK + m) _ _ (Rho.set_same _ _ _) hcap ?_ (.inr ⟨by omega, by omega⟩)
    have hzz : z.cells.size = i.size := by simpa [Cells] using hzs
    simp only [size_zeroCells, hzz, Array.size_append, List.size_toArray, Nat.zero_add, List.length_nil]
    rw [← Nat.add_mul]
    exact Nat.mul_le_mul_right _ (by omega)
  | appendG ho ht hi hz hzs hx hsrc hb hol holn hcap hgr h1 hby h63 =>
    rename_i t u el i z x y b k len cap m e c olds news
    obtain ⟨d, hu, hd, hlen, l', hfirst, hl1, hl2, hV, _⟩ := src_run (P := P) he hs hsrc
    obtain ⟨s, hr, hxx⟩ := (he _ _ hx).slice_inv
    rcases hxx with ⟨cap', hv, a1, a2, a3⟩ | ⟨rfl, rfl, x', hv⟩
    · obtain rfl : cap = cap' := by rcases a3 with h | ⟨h, _⟩; exact h; omega
      obtain ⟨ol', o1, o2, o3⟩ := loadCells_sim (P := P) (hs.same_heap (drew_heap w)) hb hr hol holn
      have hrun := run_append_new (P := P) (w := w) (ty := o.type) (olds := ol') (a := some ⟨s.blk, s.off + k, none⟩) (sLen := len) (sCap := cap) ht hu hd hi hz (hlen w) (hfirst w.drew rfl) (by simpa [Builtin.firstCells] using o1) hgr hby h63
      have hok := Ok.grown (β := β) (lo := lo) (size := i.size) (T := el) (zs := Builtin.zeroCells z.cells (grownCap w (len + m) cap el - (len + m))) hs hlo (hf n (Nat.le_refl _) (Nat.lt_succ_self _)) (by omega) hl1 o3 hV h1
      refine ⟨_, _, _, .inl (by rw [run_call_builtin ho]; simp only [builtin, List.map_toArray, List.map_cons, List.map_nil, hv]; exact run_value hrun), ?_, hok⟩
      have hcapg := le_grownCap w (len + m) cap el
      refine .sl n 0 _ _ _ _ (Rho.set_same _ _ _) hcapg ?_ (.inr ⟨by omega, by omega⟩)
      have hzz : z.cells.size = i.size := by simpa [Cells] using hzs
      simp only [size_zeroCells, hzz, Array.size_append, List.size_toArray, hl1, hl2, o2, Nat.zero_add]
      rw [← Nat.add_mul, ← Nat.add_mul]
      exact Nat.mul_le_mul_right _ (by omega)
    · omega
  | appendU ho ht hi hz hzs hx hsrc hb he' hol holn hcap hlo' hbn hm0 h1 hby h63 hk =>
    rename_i t u el i z x y b k len cap m e c olds news
    subst he'
    obtain ⟨d, hu, hd, hlen, l', hfirst, hl1, hl2, hV, _⟩ := src_run (P := P) he hs hsrc
    obtain ⟨s, hr, hxx⟩ := (he _ _ hx).slice_inv
    obtain ⟨cc, T, fz, g1, g2, g3, g4, g5, g6, g7⟩ := hs.row b _ c s hb hr
    have hnn := hf n (Nat.le_refl _) (Nat.lt_succ_self _)
    have hzz : z.cells.size = i.size := by simpa [Cells] using hzs
    have hold1 : ∀ v ∈ olds ++ news, v.oneCell' = true := fun v hv => by
      rw [List.mem_append] at hv
      rcases hv with hv | hv
      · rw [← hol] at hv; exact g7 (by omega) v (List.mem_of_mem_drop (List.mem_of_mem_take hv))
      · exact h1 v hv
    have moved : ∀ (a : Addr) (cap' : Nat), evc x = .slice (some a) len cap' → cap' < len + m → (∃ ol' : List Value, (Builtin.firstCells i.size len (.slice (some a) len cap')).run P w.drew = .ok ol'.toArray w.drew ∧ ol'.length = olds.length ∧
        ∀ (j : Nat) v, olds[j]? = some v → ∃ v', ol'[j]? = some v' ∧ VR ρ v v') → Lands P β lo ρ n H w evc o (.slice (some ⟨n, 0, none⟩) (len + m) (UNK + (len + m))) (n + 1) ((H.del b).set n (.row i.size (olds ++ news))) := by
      intro a cap' hv hgr ⟨ol', o1, o2, o3⟩
      have hrun := run_append_new (P := P) (w := w) (ty := o.type) (olds := ol') (a := some a) (sLen := len) (sCap := cap') ht hu hd hi hz (hlen w) (hfirst w.drew rfl) o1 hgr hby h63
      have hok := Ok.grown (β := β) (lo := lo) (size := i.size) (T := el) (zs := Builtin.zeroCells z.cells (grownCap w (len + m) cap' el - (len + m))) (hs.del b) hlo hnn o2 hl1 o3 hV hold1
      refine ⟨_, _, _, .inl (by rw [run_call_builtin ho]; simp only [builtin, List.map_toArray, List.map_cons, List.map_nil, hv]; exact run_value hrun), ?_, ⟨hok.sim, hok.le, hok.old, hok.far, fun j hj => ?_, hok.size, fun B hB hne => hok.keep B hB fun j t a1 a2 a3 a4 => hne j t a1 a2 (by
        by_cases hjb : j = b
        · subst hjb; simp [hb]
        · rwa [Heap.del_ne _ hjb] at a3) a4, fun j t a1 a2 a3 => (hok.fresh j t a1 a2 a3).imp id fun ⟨q, r, b1, b2, b3, b4, b5⟩ => ⟨q, r, b1, b2, by
        by_cases hjb : q = b
        · subst hjb; simp [hb]
        · rwa [Heap.del_ne _ hjb] at b3, b4, b5⟩, fun j hj h => hok.dead j hj (by
        by_cases hjb : j = b
        · subst hjb; exact Heap.del_same _ _
        · rw [Heap.del_ne _ hjb]; exact h), hok.out⟩⟩
      · have hcapg := le_grownCap w (len + m) cap' el
        refine .sl n 0 _ _ _ _ (Rho.set_same _ _ _) hcapg ?_ (.inr ⟨by omega, by omega⟩)
        simp only [size_zeroCells, hzz, Array.size_append, List.size_toArray, hl1, hl2, o2, holn, Nat.zero_add]
        rw [← Nat.add_mul, ← Nat.add_mul]
        exact Nat.mul_le_mul_right _ (by omega)
      · rw [Heap.set_ne _ _ (by omega), Heap.del_ne _ (by omega)]
    rcases hxx with ⟨cap', hv, a1, a2, a3⟩ | ⟨rfl, rfl, x', hv⟩
    · by_cases hroom : len + m ≤ cap'
      · have hsum : k + (olds.length + news.length) ≤ s.room := by
          rw [holn, hl2, ← Nat.add_mul]
          rw [g2] at a2
          have : (len + m) * i.size ≤ cap' * i.size := Nat.mul_le_mul_right _ hroom
          omega
        have hst := run_stores (P := P) hs hb hr (by omega) (o := k + olds.length) (by omega) hl1 hV h1
        refine ⟨.slice (some ⟨s.blk, s.off + k, none⟩) (len + m) cap', _, _, .inl ?_, ?_, Ok.inplace hs hβ hlo' hbn hnn hb hr (size := i.size) g2 (by rw [holn]; exact hol) (by omega) hl1 hV h1⟩
        · rw [run_call_builtin ho]
          simp [builtin, hv, run_append_fit ht hu hd hi (hlen w) (hfirst w rfl) (by rw [add_off, ← holn, Nat.add_assoc]; exact hst) hroom]
        · have := VR.sl (ρ := ρ.set n ⟨s.blk, s.off + k, s.room - k, i.size⟩) n 0 (len + m) (UNK + (len + m)) cap' ⟨s.blk, s.off + k, s.room - k, i.size⟩ (Rho.set_same _ _ _) hroom (by simp only; rw [g2] at a2; omega) (.inr ⟨by omega, by omega⟩)
          simpa using this
      · obtain ⟨ol', o1, o2, o3⟩ := loadCells_sim (P := P) (hs.same_heap (drew_heap w)) hb hr hol holn
        exact moved _ cap' hv (by omega) ⟨ol', by simpa [Builtin.firstCells] using o1, by omega, o3⟩
    · have : olds = [] := List.eq_nil_of_length_eq_zero (by simpa using holn)
      subst this
      exact moved _ 0 hv (by omega) ⟨[], by simp [Builtin.firstCells, loadCells, loadCellsFrom], rfl, fun j v hj => by simp at hj⟩
  | copy ho ht hi hx hsrc hb hfit hlo' hbn h1 =>
    rename_i t u el i x y b k len cap m e c news
    obtain ⟨d, hu, hd, hlen, l', hfirst, hl1, hl2, hV, hpart⟩ := src_run (P := P) he hs hsrc
    obtain ⟨s, hr, hxx⟩ := (he _ _ hx).slice_inv
    obtain ⟨cc, T, fz, g1, g2, g3, g4, g5, g6, g7⟩ := hs.row b e c s hb hr
    have hmin : (min m len) * i.size ≤ m * i.size := Nat.mul_le_mul_right _ (Nat.min_le_left _ _)
    have htl : (news.take ((min m len) * i.size)).length = (min m len) * i.size := by rw [List.length_take]; omega
    have htl' : (l'.take ((min m len) * i.size)).length = (news.take ((min m len) * i.size)).length := by rw [htl, List.length_take]; omega
    have htV : ∀ (j : Nat) v, (news.take ((min m len) * i.size))[j]? = some v → ∃ v', (l'.take ((min m len) * i.size))[j]? = some v' ∧ VR ρ v v' := fun j v hj => by
      have hjl : j < (min m len) * i.size := by rw [← htl]; exact (List.getElem?_eq_some_iff.1 hj).1
      rw [List.getElem?_take_of_lt hjl] at hj ⊢
      exact hV j v hj
    have ht1 : ∀ v ∈ news.take ((min m len) * i.size), v.oneCell' = true := fun v hv => h1 v (List.mem_of_mem_take hv)
    have hok := Ok.store (β := β) (lo := lo) (n := n) hs hβ hlo' hbn hb hr (o := k) (by omega) htl' htV ht1
    rcases hxx with ⟨cap', hv, a1, a2, a3⟩ | ⟨rfl, rfl, x', hv⟩
    · have hst := run_stores (P := P) hs hb hr (by omega) (o := k) (by omega) htl' htV ht1
      refine ⟨.int .i64 ((min m len : Nat) : Int), _, ρ, .inl ?_, .int _ _, hok⟩
      rw [run_call_builtin ho]
      have hmm : Nat.min m len = min m len := rfl
      simp [builtin, Builtin.copy_, run_underlying ht, hv, hlen, sizeOf, typeInfo, hi, hpart (min m len) (Nat.min_le_left _ _) w rfl, hst, goInt, hmm]
    · refine ⟨.int .i64 ((min m 0 : Nat) : Int), w, ρ, .inl ?_, .int _ _, ?_⟩
      · rw [run_call_builtin ho]
        have hmm : Nat.min m 0 = 0 := Nat.min_zero m
        have := hpart 0 (Nat.zero_le _) w rfl
        simp at this
        simp [builtin, Builtin.copy_, run_underlying ht, hv, hlen, sizeOf, typeInfo, hi, this, goInt, hmm, storeCells]
      · have e0 : l'.take ((min m 0) * i.size) = [] := by simp
        have e1 : (w.setCells s.blk (s.off + k) []) = w := rfl
        rw [e0, e1] at hok
        exact hok
  | clear ho ht hi hz hzs hx hb hfit hlo' hbn hg hl0 =>
    rename_i t el i z x b k len cap e c
    obtain ⟨s, hr, hxx⟩ := (he _ _ hx).slice_inv
    obtain ⟨cc, T, fz, g1, g2, g3, g4, g5, g6, g7⟩ := hs.row b e c s hb hr
    have hfl : (List.replicate len (Cells z)).flatten.length = len * i.size := by rw [length_flat, hzs]
    have hV : ∀ (j : Nat) v, (List.replicate len (Cells z)).flatten[j]? = some v → ∃ v', (List.replicate len (Cells z)).flatten[j]? = some v' ∧ VR ρ v v' := fun j v hj => ⟨v, hj, (hg v (getElem?_flat (m := 0) len hj)).1.2 ρ⟩
    have h1 : ∀ v ∈ (List.replicate len (Cells z)).flatten, v.oneCell' = true := fun v hv => by obtain ⟨j, hj⟩ := List.getElem?_of_mem hv; exact (hg v (getElem?_flat (m := 0) len hj)).2
    rcases hxx with ⟨cap', hv, a1, a2, a3⟩ | ⟨rfl, rfl, x', hv⟩
    · refine ⟨undef, _, ρ, .inl ?_, gr_undef.2 ρ, Ok.store hs hβ hlo' hbn hb hr (o := k) (by omega) rfl hV h1⟩
      rw [run_call_builtin ho]
      have hst := run_stores (P := P) hs hb hr (by omega) (o := k) (by omega) rfl hV h1
      have hzt : (Builtin.zeroCells z.cells len).toList = (List.replicate len (Cells z)).flatten := by
        by_cases h0 : 0 < i.size
        · exact zeroCells_toList len i.size hzs h0
        · have e0 : i.size = 0 := by omega
          have hzz : z.cells.size = 0 := by rw [e0] at hzs; simpa [Cells] using hzs
          rw [List.eq_nil_of_length_eq_zero (l := (List.replicate len (Cells z)).flatten) (by rw [hfl, e0]; simp)]
          apply List.eq_nil_of_length_eq_zero
          simp [Builtin.zeroCells, hzz]
      have hlen0 : len ≠ 0 := by omega
      obtain ⟨len, rfl⟩ : ∃ q, len = q + 1 := ⟨len - 1, by omega⟩
      simp [builtin, Builtin.clear_, run_underlying ht, hv, zeroValue, typeInfo, hi, hz, hzt, hst, undef]
    · omega
  | toBytes ho hsr ht hel hx h63 =>
    rename_i s t el x y
    obtain ⟨dst, op, ty, pos, after, guard⟩ := o
    simp only at ho; subst ho
    have hv : evc x = .string y := by have := he _ _ hx; generalize evc x = z at this; cases this; rfl
    have hrun := run_bytes_of_string (P := P) w s t el y hsr ht hel
    have hyl : y.data.toList.length = y.size := by cases y; rfl
    have hcap := le_grownCap w y.size 0 el
    have hbs : (bytesRow y (grownCap w y.size 0 el)).size = grownCap w y.size 0 el := by
      simp [bytesRow]
      have : y.data.size = y.size := rfl
      omega
    refine ⟨_, _, _, .inl (by simp only [execOp, hv]; exact run_value hrun), ?_,
      Ok.row hs hlo (hf n (Nat.le_refl _) (Nat.lt_succ_self _)) (bytesRow y (grownCap w y.size 0 el)) el _ rfl 1 (y.data.toList.map u8) (grownCap w y.size 0 el) (by rw [List.length_map, hyl]; exact hcap) (by rw [hbs]; exact Nat.le_refl _) (fun k v hk => ?_) (fun k hk => by simp only [hbs]; omega) (fun v hv => ?_)⟩
    · exact .sl n 0 _ _ _ ⟨w.heap.size, 0, grownCap w y.size 0 el, 1⟩ (Rho.set_same _ _ _) hcap (by simp) (.inr ⟨by omega, by omega⟩)
    · simp only [List.getElem?_map, Option.map_eq_some_iff] at hk
      obtain ⟨b, hb, rfl⟩ := hk
      refine ⟨u8 b, ?_, .int .u8 _⟩
      have hkl : k < y.data.size := by have := (List.getElem?_eq_some_iff.1 hb).1; simpa using this
      rw [Array.getElem?_toList] at hb
      unfold bytesRow
      rw [Array.getElem?_append, if_pos (by simpa using hkl), Array.getElem?_map, hb]
      rfl
    · simp only [List.mem_map] at hv
      obtain ⟨b, _, rfl⟩ := hv
      rfl
  | toStr ho hsr ht hel hx hb hl hn =>
    rename_i s t el x b k len cap e c l
    obtain ⟨dst, op, ty, pos, after, guard⟩ := o
    simp only at ho; subst ho
    obtain ⟨sp, hr, hxx⟩ := (he _ _ hx).slice_inv
    obtain ⟨l', o1, o2, o3⟩ := loadCells_sim (P := P) hs hb hr hl (by rw [List.length_map]; exact hn)
    have hl' := map_u8_rel (by omega) o3
    subst hl'
    refine .pure (v' := .string ⟨l.toArray⟩) hs ?_ (.string _)
    rcases hxx with ⟨cap', hv, a1, a2, a3⟩ | ⟨rfl, rfl, x', hv⟩
    · simp only [execOp, hv]
      refine run_value ?_
      rw [run_convert_bytes_string w s t el _ _ _ hsr hel ht]
      exact run_bytesToString_u8 w _ _ _ l o1
    · have : l = [] := List.eq_nil_of_length_eq_zero (by omega)
      subst this
      simp only [execOp, hv]
      refine run_value ?_
      rw [run_convert_bytes_string w s t el _ _ _ hsr hel ht]
      exact run_bytesToString_u8 w _ _ _ [] (by simp [loadCells, loadCellsFrom])
  | toStrNil ho hsr ht hel hx =>
    rename_i s t el x
    obtain ⟨dst, op, ty, pos, after, guard⟩ := o
    simp only at ho; subst ho
    have hv : evc x = .slice none 0 0 := by have := he _ _ hx; generalize evc x = z at this; cases this; rfl
    refine .pure (v' := .string ⟨#[]⟩) hs ?_ (.string _)
    simp only [execOp, hv]
    refine run_value ?_
    rw [run_convert_bytes_string w s t el _ _ _ hsr hel ht]
    simp [Conv.bytesToString]
    rfl
end
end Go.Proofs.YtmodhnkjimpkbaaAb
