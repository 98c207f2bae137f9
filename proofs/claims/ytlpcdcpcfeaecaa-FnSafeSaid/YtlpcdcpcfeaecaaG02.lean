import Derived.Test.YtlpcdcpcfeaecaaG01
import Derived.KernelRfl
import Derived.Test.YtlpcdcpcfeaecaaProg
set_option linter.all false
section
namespace Go.Proofs.YtlpcdcpcfeaecaaAb
open Go
theorem Sat.join {F : Heap} {B : List Item} {b : Heap} : ∀ {A : List Item} {a : Heap}, Dj a b → Sat F A a → Sat F B b → Sat F (A ++ B) (a.or b)
  | [], a, d, _, t => t.up (Heap.le_orr d)
  | i :: r, a, d, ⟨a1, b1, d1, l1, l2, hi, hr⟩, t =>
    have d2 : Dj b1 b := d.mono l2 (.refl _)
    ⟨a1, b1.or b, Dj.orr d1 (d.mono l1 (.refl _)), l1.trans Heap.le_orl, Heap.or_le (l2.trans Heap.le_orl) (Heap.le_orr d), hi, Sat.join d2 hr t⟩
theorem RL.replicate {α : Type} {r : Rep α} {F : Heap} {cs : List Value} {z : α} (h : r.R F cs z nilH) (m : Nat) : RL r F (List.replicate m cs).flatten (List.replicate m z) nilH := by
  induction m with
  | zero => exact .nil
  | succ m ih => rw [List.replicate_succ, List.flatten_cons, List.replicate_succ]; exact .cons .nil (.refl _) (.refl _) h ih
section
variable {P : Program} {Δ : Prims} {fr : Fr} {A A1 A2 : List Item} {Q : TPost} {fl : List Bool} {all : Array Oper} {l : List Oper} {o : Oper} {d : Nat}
variable {α : Type} {r : Rep α} {xs ys : List α}
theorem TL.lit [Rp α] {t : TypeId} {len sz : Nat} {ps : Array (Nat × Operand)} {vs cs : List Value} (h : (o.op, o.dst, wA all o fr) = (.buildSlice t len ps, some d, some true)) [s : LtT P t sz] (hp : ps.toList.mapM (fun p => fr.eval p.2) = some vs) (hix : ps.toList.map (·.1) = List.range' 0 len) (hcs : vs.flatMap Cells = cs)
    (xs : List α) (hR : ∀ lo n F H, Wf lo n F A H → RA F cs xs) (kk : ∀ v, TL P Δ fl.tail all l ((d, v) :: fr) (ow (rC α) v xs :: A) Q) (hvs : vs.map (fun v => (Cells v).length) = List.replicate len sz := by rfl) (hxl : xs.length = len := by rfl) (hsz : sz = Rp.sz α := by rfl) (hlen : len * sz ≤ 16777216 ∧ len < 1000000 := by decide) : TL P Δ fl all (o :: l) fr A Q := fun lo n H F w => by
  simp only [Prod.mk.injEq] at h
  obtain ⟨lw, hfl, _, _⟩ := IsFl.tl fl w.low
  obtain ⟨el, i, z, t1, t2, t3, t4, t5, t6, t7, rfl⟩ := s.out
  have hra := hR lo n F H w
  refine WL.lit hfl h.1 h.2.1 h.2.2 t1 t2 t3 t4 t5 hlen.1 hlen.2 hp hix hvs hcs hra.one (kk _ lo (n + 1) _ F (w.new ⟨_, rfl, ?_⟩))
  rw [hsz]
  have := OS.new (r := rC α) (F := F) (g := nilH) (n := n) (len := len) (cap := len) hxl.symm (by have := hlen.2; unfold UNK; omega) (.inl ⟨rfl, by have := hlen.2; unfold UNK; omega⟩) rfl (RL.ofRA hra)
  exact this.up (Heap.or_le (.refl _) Heap.nil_le)
theorem TL.lit1 {u : α} {t : TypeId} {sz : Nat} {y : Operand} {w0 : Value} {cs : List Value} (h : (o.op, o.dst, wA all o fr, fr.eval y) = (.buildSlice t 1 #[(0, y)], some d, some true, some w0)) [s : LtT P t sz] (hcs : Cells w0 = cs) (p1 : Pk A (vl r cs u) A1)
    (kk : ∀ v, TL P Δ fl.tail all l ((d, v) :: fr) (ow r v [u] :: A1) Q) (hsz : sz = r.sz := by rfl) (hlen : sz ≤ 16777216 := by decide) : TL P Δ fl all (o :: l) fr A Q := fun lo n H F w => by
  simp only [Prod.mk.injEq] at h
  obtain ⟨lw, hfl, _, _⟩ := IsFl.tl fl w.low
  obtain ⟨el, i, z, t1, t2, t3, t4, t5, t6, t7, rfl⟩ := s.out
  obtain ⟨a, b, pt⟩ := w.part p1
  have e : r.R F cs u a := pt.hi
  refine WL.lit (vs := [w0]) (cs := cs) hfl h.1 h.2.1 h.2.2.1 t1 t2 t3 t4 t5 (by omega) (by decide) (by simp [h.2.2.2]) (by simp) (by simp [hcs, hsz, r.len e]) (by simp [hcs]) (fun v hv => r.one e v hv) (kk _ lo (n + 1) _ F (w.move pt (g := a) (.refl _) (Heap.set_same _ _ _) (fun k hk _ => Heap.set_ne _ _ (by omega)) (fun k hk => by rw [Heap.set_ne _ _ (by omega)]; exact w.hb k (by omega)) ⟨_, rfl, ?_⟩))
  rw [hsz]
  exact OS.new (len := 1) rfl (by decide) (.inl ⟨rfl, by decide⟩) (pt.la.none (w.hb n (Nat.le_refl _))) (RL.single e)
theorem TL.mk {t : TypeId} {sz : Nat} {x y : Operand} {q q' : IntKind} {m : Int} {zc : List Value} (h : (o.op, o.dst, wA all o fr, fr.eval x, fr.eval y) = (.makeSlice t x y, some d, some true, some (.int q m), some (.int q' m))) [s : LtT P t sz] [sz' : ZrT P t zc] (u : α) (hR : ∀ F, r.R F zc u nilH) (hm0 : 0 ≤ m) (hm : m ≤ 68719476736)
    (kk : ∀ v, TL P Δ fl.tail all l ((d, v) :: fr) (ow r v (List.replicate m.toNat u) :: A) Q) (hsz : sz = r.sz := by rfl) : TL P Δ fl all (o :: l) fr A Q := fun lo n H F w => by
  simp only [Prod.mk.injEq] at h
  obtain ⟨lw, hfl, _, _⟩ := IsFl.tl fl w.low
  obtain ⟨el, i, z, t1, t2, t3, t4, t5, t6, t7, rfl⟩ := s.out
  obtain ⟨el2, i2, z2, u1, u2, u3, rfl⟩ := sz'.out
  rw [t1] at u1; cases u1
  rw [t2] at u2; cases u2
  rw [t3] at u3; cases u3
  have hmn : ((m.toNat : Nat) : Int) = m := Int.toNat_of_nonneg hm0
  refine WL.make hfl h.1 h.2.1 h.2.2.1 t1 t2 t3 t5 t7 t4 (by rw [hmn]; exact h.2.2.2.1) (by rw [hmn]; exact h.2.2.2.2) (Nat.le_refl _) (Nat.le_trans (Nat.mul_le_mul t6 (show m.toNat ≤ 68719476736 by omega)) (by decide)) (by unfold UNK; omega) (kk _ lo (n + 1) _ F (w.new ⟨_, rfl, ?_⟩))
  rw [hsz]
  exact (OS.new (r := r) (F := F) (g := nilH) (n := n) (len := m.toNat) (cap := m.toNat) (xs := List.replicate m.toNat u) (by simp) (by unfold UNK; omega) (.inl ⟨rfl, by unfold UNK; omega⟩) rfl (RL.replicate (hR F) _)).up (Heap.or_le (.refl _) Heap.nil_le)
theorem OS.put [Rp α] {F a : Heap} {v : Value} {j : Int} {b e : Nat} {vc : List Value} {yy : α} (s : OS (rC α) F v xs a) (he : El (Rp.sz α) v j b e) (hj : j.toNat < xs.length) (hy : Rp.R F vc yy) :
    ∃ c, a b = some (.row (Rp.sz α) c) ∧ e + Rp.sz α ≤ c.length ∧ OS (rC α) F v (setI xs j yy) (a.set b (.row (Rp.sz α) (splice c e vc))) := by
  obtain ⟨h0, ⟨rfl, rfl⟩ | ⟨b2, k, cap, c, g, o⟩⟩ := s
  · simp at hj
  · obtain ⟨_, k2, len, cap2, hv2, rfl⟩ := he
    have hv := o.hv
    rw [hv2] at hv
    cases hv
    have hel := o.el.length
    have hsz : (rC α).sz = Rp.sz α := rfl
    have hk : k + xs.length * Rp.sz α ≤ c.length := by
      have hel' := hel
      rw [List.length_take, List.length_drop] at hel'
      rw [hsz] at hel'
      have := o.hk
      by_cases hz : xs.length * Rp.sz α = 0
      · omega
      · omega
    have h1 : (j.toNat + 1) * Rp.sz α ≤ xs.length * Rp.sz α := Nat.mul_le_mul_right _ hj
    have h2 : (j.toNat + 1) * Rp.sz α = j.toNat * Rp.sz α + Rp.sz α := Nat.succ_mul _ _
    have hvl : vc.length = Rp.sz α := Rp.len hy
    have hl : (setI xs j yy).length = xs.length := by unfold setI; rw [List.length_set]
    refine ⟨c, o.hb, by omega, by rw [hl]; exact h0, .inr ⟨b, k, cap, _, g, by rw [hl]; exact hv2, Heap.set_same _ _ _, by rw [length_splice (by omega)]; exact o.hk, by rw [hl]; exact o.hcap, Heap.leSet o.hg o.gb _, o.gb, ?_⟩⟩
    rw [hl, hsz, take_drop_splice hk (by omega)]
    exact RL.ofRA ((o.el.toRA).set hj hy)
theorem TL.ste [Rp α] {t : TypeId} {x y : Operand} {v vv : Value} {b e sz : Nat} {j : Int} {vc : List Value} {yy u : α} (h : (o.op, o.dst, wA all o fr, fr.eval x, fr.eval y) = (.store t x y, none, some true, some (.pointer (some ⟨b, e, none⟩)), some vv)) [s : SzT P t sz] (hv : Cells vv = vc) (m : Rk A (ow (rC α) v xs) (ow (rC α) v (setI xs j yy)) A1) (he : El (Rp.sz α) v j b e) (hu : idx xs j = some u)
    (hR : ∀ lo n F H, Wf lo n F A H → Rp.R F vc yy) (kk : TL P Δ fl.tail all l fr A1 Q) (hsz : sz = Rp.sz α := by rfl) (hw : wOK fl = true := by rfl) : TL P Δ fl all (o :: l) fr A Q := fun lo n H F w => by
  have hy := hR lo n F H w
  simp only [Prod.mk.injEq] at h
  obtain ⟨i, q1, rfl⟩ := s.out
  obtain ⟨B, pk, back⟩ := m.wf
  obtain ⟨a, b', pt⟩ := w.part pk
  obtain ⟨vv', ev, os⟩ := pt.hi
  obtain rfl : v = vv' := by simpa using ev
  obtain ⟨h0, h1, hj, hxj⟩ := idx_inv hu
  obtain ⟨c, hb, hle, o2⟩ := os.put he hj hy
  exact WL.storeL (IsFl.wr hw) h.1 h.2.1 h.2.2.1 q1 h.2.2.2.1 h.2.2.2.2 hv (by rw [hsz]; exact Rp.len hy) (pt.la _ _ hb) (by rw [hsz]; exact hle) (pt.pos hb) (Heap.leLt pt.la w.hb hb) (fun u hu => Rp.one hy u hu) rfl (kk lo n _ F (back (w.put pt hb _ ⟨v, rfl, o2⟩)))
theorem Rdb.sub [Rp α] {X : Item} {v : Value} (c : Rdb X v xs) {b k len cap cap' : Nat} {l' h : Int} (hv : v = .slice (some ⟨b, k, none⟩) len cap) (hy : slc xs l' h = some ys) :
    Rdb X (.slice (some ⟨b, k + l'.toNat * Rp.sz α, none⟩) (h.toNat - l'.toNat) cap') ys := ⟨fun {F g H} hX hF hg => by
  obtain ⟨h0, h1, h2, rfl⟩ := slc_inv hy
  obtain ⟨hlt, cs, hs, hra⟩ := c.out hX hF hg
  have elen : ((xs.take h.toNat).drop l'.toNat).length = h.toNat - l'.toNat := by simp; omega
  refine ⟨by rw [elen]; omega, _, ?_, (hra.take h.toNat).drop l'.toNat⟩
  rcases hs with ⟨e1, _⟩ | ⟨b2, k2, cap2, cc, e1, hb, hc, hcl⟩
  · rw [hv] at e1; cases e1
  · rw [hv] at e1; cases e1
    rw [elen]
    exact SL.part (v := .slice none 0 0) (cap := 0) hb hc hcl (by omega) (by omega) _⟩
theorem TL.slr [Rp α] {t : TypeId} {x : Operand} {low high : Option Operand} {v : Value} {sz : Nat} {l' h' : Int} {X : Item} (h : (o.op, o.dst, wA all o fr, fr.eval x) = (.slice t x low high none, some d, some true, some v)) [s : SlT P t sz] (mm : Mm A X) [c : Rdb X v xs] (hl : BndI fr.eval low 0 l') (hh : BndI fr.eval high xs.length h') (hy : slc xs l' h' = some ys)
    (kk : ∀ v' [Rdb X v' ys] [Hdr X v' ys.length], TL P Δ fl.tail all l ((d, v') :: fr) A Q) (hsz : sz = Rp.sz α := by rfl) : TL P Δ fl all (o :: l) fr A Q := fun lo n H F w => by
  simp only [Prod.mk.injEq] at h
  obtain ⟨lw, hfl, _, _⟩ := IsFl.tl fl w.low
  obtain ⟨el, i, t1, t2, rfl⟩ := s.out
  obtain ⟨g, lg, hX⟩ := w.get mm
  obtain ⟨hlt, cs, hs, hra⟩ := c.out hX w.fh lg
  have hy' := hy
  obtain ⟨h0, h1, h2, e⟩ := slc_inv hy'
  have hl' := hl.nat h0
  have hh' := hh.nat (by omega)
  have elen : ys.length = h'.toNat - l'.toNat := by rw [← e]; simp; omega
  rcases hs with ⟨rfl, e1, e2⟩ | ⟨b, k, cap, cc, rfl, hb, hc, hcl⟩
  · have e3 : h'.toNat = 0 := by omega
    have e4 : l'.toNat = 0 := by omega
    rw [e3, e1] at hh'; rw [e4] at hl'
    have hx0 : xs = [] := List.eq_nil_of_length_eq_zero e1
    have hy0 : ys = [] := List.eq_nil_of_length_eq_zero (by omega)
    subst hx0; subst hy0
    exact WL.sliceNil hfl h.1 h.2.1 h.2.2.1 t1 t2 h.2.2.2 hl' hh' (@kk _ c ⟨fun _ => .inl ⟨rfl, rfl⟩⟩ lo n H F w)
  · have c2 := c.sub (cap' := UNK + (lb xs.length cap - l'.toNat)) rfl hy
    refine WL.slice hfl h.1 h.2.1 h.2.2.1 t1 t2 h.2.2.2 hb hsz.symm rfl hl' hh' (Nat.le_refl _) (by intro h; cases h) (by omega) (by unfold lb; omega) ?_
    rw [hsz]
    exact @kk _ c2 ⟨fun _ => .inr ⟨_, _, _, by rw [elen]⟩⟩ lo n H F w
theorem fzOf [Rp α] {F h : Heap} {v v' : Value} (s : SR F v xs) (c : Rdb (fz v xs) v' ys) : (fz v' ys).P F h := by
  obtain ⟨h0, cs, hs, hra⟩ := c.out (F := F) (h := nilH) (H := F) ⟨v, rfl, s⟩ (.refl _) Heap.nil_le
  exact ⟨v', rfl, h0, cs, hs, hra⟩
theorem TL.slz [Rp α] {t : TypeId} {x : Operand} {low high : Option Operand} {v : Value} {sz : Nat} {l' h' : Int} (h : (o.op, o.dst, wA all o fr, fr.eval x) = (.slice t x low high none, some d, some true, some v)) [s : SlT P t sz] (mm : Mm A (fz v xs)) (hl : BndI fr.eval low 0 l') (hh : BndI fr.eval high xs.length h') (hy : slc xs l' h' = some ys)
    (kk : ∀ v', TL P Δ fl.tail all l ((d, v') :: fr) (fz v' ys :: A) Q) (hsz : sz = Rp.sz α := by rfl) : TL P Δ fl all (o :: l) fr A Q :=
  TL.slr h mm hl hh hy (fun v' c _ lo n H F w => by
    obtain ⟨g, lg, u, eu, hs⟩ := w.get mm
    obtain rfl : v = u := by simpa using eu
    obtain ⟨gg, q1, q2, q3, q4⟩ := w.sat
    exact kk v' lo n H F ⟨w.low, w.hb, w.fh, gg, q1, q2, q3, nilH, gg, .nil, Heap.nil_le, .refl _, fzOf hs c, q4⟩) hsz
theorem Ent.nilO : Ent A (ow r (.slice none 0 0) [] :: A) := fun F h s => ⟨nilH, h, .nil, Heap.nil_le, .refl _, ⟨_, rfl, OS.nil⟩, s⟩
theorem Ent.nilZ [Rp α] : Ent A (fz (.slice none 0 0) ([] : List α) :: A) := fun F h s => ⟨nilH, h, .nil, Heap.nil_le, .refl _, ⟨_, rfl, SR.nil⟩, s⟩
theorem Pers.rC [Rp α] {cs : List Value} {u : α} : Pers (vl (rC α) cs u) := fun F h e => e
theorem HT.frz [Rp α] {B : Nat → Nat → Heap → Heap → Prop} {v : Value} (hmono : ∀ lo n H F F', F.Le F' → B lo n H F' → B lo n H F) (k : HT (fz v xs :: A) B) : HT (ow (rC α) v xs :: A) B := fun lo n H F w => by
  obtain ⟨a, b, pt⟩ := w.part .z
  obtain ⟨u, eu, os⟩ := pt.hi
  obtain rfl : v = u := by simpa using eu
  have hle : F.Le (F.or a) := Heap.le_orl
  refine hmono lo n H F (F.or a) hle (k lo n H (F.or a) ⟨w.low, w.hb, Heap.or_le w.fh pt.la, b, pt.lb, Dj.or pt.fb pt.d, pt.nb, nilH, b, .nil, Heap.nil_le, .refl _, ⟨v, rfl, ?_⟩, pt.hr.mono hle⟩)
  obtain ⟨h0, ⟨rfl, rfl⟩ | ⟨b, k, cap, c, g, o⟩⟩ := os
  · exact SR.nil
  · refine ⟨h0, _, .inr ⟨b, k, cap, c, o.hv, Heap.le_orr pt.fa _ _ o.hb, rfl, o.el.length⟩, o.el.toRA.mono hle⟩
theorem TL.c {x : Operand} {asx : Array Operand} {ts : Array TypeId} {f : FuncId} {first cap : Array Value} {avs args : List Value} {R : Value → List Item → Prop} (h : (o.op, o.dst, wA all o fr, fr.eval x) = (.call { callee := .value x, args := asx, argTypes := ts }, some d, some true, some (.func (.func f) first cap))) (ha : asx.toList.mapM fr.eval = some avs) (hargs : first.toList ++ avs ++ cap.toList = args) [c : FnT P f]
    (hs : Sp P Δ f args A R) (kk : ∀ v A', R v A' → TL P Δ fl.tail all l ((d, v) :: fr) A' Q) (hw : wOK fl = true := by rfl) : TL P Δ fl all (o :: l) fr A Q := fun lo n H F w => by
  simp only [Prod.mk.injEq] at h
  obtain ⟨fn, h1, h2, h3⟩ := c.out
  refine WL.call (IsFl.wr hw) lo h.1 h.2.1 h.2.2.1 h.2.2.2 ha h1 h2 h3 (Nat.le_refl _) w.low ?_
  rw [hargs]
  exact C.mono (hs lo n H F w) fun v n' H' ⟨G, A', q1, q2, q3⟩ => by
    obtain ⟨e, fr', n2, H2, tr, q⟩ := kk v A' q3 lo n' H' G q2
    exact ⟨e, fr', n2, H2, tr, Fin.le q1 q⟩
theorem TL.callR (g : Env P Δ) {x : Operand} {asx : Array Operand} {ts : Array TypeId} {f : FuncId} {first cap : Array Value} {avs args : List Value} {A0 : List Item} {R : Value → List Item → Prop} (h : (o.op, o.dst, wA all o fr, fr.eval x) = (.call { callee := .value x, args := asx, argTypes := ts }, some d, some true, some (.func (.func f) first cap))) (ha : asx.toList.mapM fr.eval = some avs) (hargs : first.toList ++ avs ++ cap.toList = args) [c : FnT P f]
    (hC : ∀ F h, Sat F A h → Sat F A0 nilH) (hs : Sp P Δ f args A0 R) (kk : ∀ v A', R v A' → TL P Δ fl.tail all l ((d, v) :: fr) (A' ++ A) Q) : TL P Δ fl all (o :: l) fr A Q := fun lo n H F w => by
  simp only [Prod.mk.injEq] at h
  obtain ⟨lw, hfl, hlw1, hlw2⟩ := IsFl.tl fl w.low
  obtain ⟨fn, h1, h2, h3⟩ := c.out
  obtain ⟨hh, l1, d1, n1, s1⟩ := w.sat
  let S : Nat → Prop := fun i => (F i).isSome = true
  have hvF : F.Le (H.vis n S) := fun i ob hi => by rw [vis_in (show S i by show (F i).isSome = true; rw [hi]; rfl)]; exact w.fh i ob hi
  have wc : Wf n n F A0 (H.vis n S) := ⟨Nat.le_refl _, fun k hk => by rw [vis_new hk]; exact w.hb k hk, hvF, nilH, Heap.nil_le, Dj.nil.symm, fun _ _ => rfl, hC F hh s1⟩
  refine WL.call hfl n h.1 h.2.1 h.2.2.1 h.2.2.2 ha h1 h2 h3 hlw2 (Nat.le_refl _) ?_
  rw [hargs]
  refine C.mono (C.frame g.good g.framed S (Nat.le_refl _) (hs n n (H.vis n S) F wc)) fun v n' H' ⟨H1, ⟨G, A', q1, q2, q3⟩, r1, r2, r3, r4, r5, r6⟩ => ?_
  obtain ⟨k1, k2, k3, k4, k5⟩ := q2.sat
  have out : ∀ {i : Nat} {ob : Ob}, hh i = some ob → i < n ∧ H1 i = none := fun {i ob} hi =>
    have hn : i < n := Heap.leLt l1 w.hb hi
    ⟨hn, r5 i hn (fun hS => by have := d1.symm.none hi; simp [S, this] at hS)⟩
  have keep : hh.Le H' := fun i ob hi => by rw [r6 i (out hi).1]; exact l1 i ob hi
  have dk : ∀ {K : Heap}, K.Le H1 → Dj K hh := fun {K} hK i => by
    cases e : hh i with
    | none => exact .inr rfl
    | some ob => exact .inl (hK.none (out e).2)
  obtain ⟨e, fr', n2, H2, tr, q⟩ := kk v A' q3 lo n' H' G ⟨by have := w.low; omega, fun k hk => by rw [r4 k (by omega)]; exact q2.hb k hk, q2.fh.trans r2, k1.or hh, Heap.or_le (k2.trans r2) keep, Dj.orr k3 (dk q2.fh), fun k hk => Heap.or_none.2 ⟨k4 k (by have := w.low; omega), n1 k hk⟩, Sat.join (dk k2) k5 (s1.mono q1)⟩
  exact ⟨e, fr', n2, H2, tr, Fin.le q1 q⟩
end
end Go.Proofs.YtlpcdcpcfeaecaaAb
end
section
namespace Go.Proofs.YtlpcdcpcfeaecaaAb
open Go
structure Gh (A A' : List Item) : Prop where
  out : ∀ {lo n : Nat} {F H : Heap}, Wf lo n F A H → ∃ F', F.Le F' ∧ Wf lo n F' A' H
theorem Gh.refl (A : List Item) : Gh A A := ⟨fun w => ⟨_, .refl _, w⟩⟩
theorem Gh.ent {A A' : List Item} (h : Ent A A') : Gh A A' := ⟨fun w => ⟨_, .refl _, h.wf w⟩⟩
theorem Gh.trans {A B C : List Item} (a : Gh A B) (b : Gh B C) : Gh A C := ⟨fun w => let ⟨_, h1, w1⟩ := a.out w; let ⟨_, h2, w2⟩ := b.out w1; ⟨_, h1.trans h2, w2⟩⟩
inductive Sl : List Item → List Item → Prop
  | e {A : List Item} : Sl A A
  | d {x : Item} {A B : List Item} (h : Sl A B) : Sl (x :: A) B
  | p {i : Item} {A A1 B : List Item} (k : Pk A i A1) (h : Sl A1 B) : Sl A (i :: B)
  | c {i : Item} {A B : List Item} (m : Mm A i) (hp : Pers i) (h : Sl A B) : Sl A (i :: B)
theorem Mm.pick {A : List Item} {i : Item} (m : Mm A i) : ∃ A', Pk A i A' := by
  induction m with
  | z => exact ⟨_, .z⟩
  | s m ih => obtain ⟨A', h⟩ := ih; exact ⟨_, .s h⟩
theorem Sl.ent {A B : List Item} (h : Sl A B) : Ent A B := by
  induction h with
  | e => exact .refl _
  | d h ih => exact Ent.trans Ent.drop ih
  | p k h ih => exact k.ent.trans (Ent.cons _ ih)
  | c m hp h ih =>
    obtain ⟨A', pk⟩ := m.pick
    exact (pk.ent.trans (Ent.dup hp)).trans ((Ent.cons _ pk.back).trans (Ent.cons _ ih))
theorem Gh.sl {A B : List Item} (h : Sl A B) : Gh A B := .ent h.ent
theorem Gh.cons {A A' : List Item} {i : Item} (h : Ent A A') : Gh (i :: A) (i :: A') := .ent (Ent.cons i h)
theorem Gh.frz {α : Type} [Rp α] {A A1 : List Item} {v : Value} {xs : List α} (p : Pk A (ow (rC α) v xs) A1) : Gh A (fz v xs :: A1) := Gh.trans (.ent p.ent) ⟨fun {lo n F H} w =>
  HT.frz (B := fun lo n H F => ∃ F', F.Le F' ∧ Wf lo n F' (fz v xs :: A1) H) (fun lo n H F F' hle ⟨G, h1, h2⟩ => ⟨G, hle.trans h1, h2⟩) (fun lo n H F w => ⟨F, .refl _, w⟩) lo n H F w⟩
theorem Gh.nilO {α : Type} {A : List Item} (r : Rep α) : Gh A (ow r (.slice none 0 0) [] :: A) := .ent Ent.nilO
theorem Gh.nilZ {A : List Item} (α : Type) [Rp α] : Gh A (fz (.slice none 0 0) ([] : List α) :: A) := .ent Ent.nilZ
section
variable {P : Program} {Δ : Prims} {fr : Fr} {A A' : List Item} {Q : TPost} {fl : List Bool} {all : Array Oper} {l : List Oper}
theorem T.gh {c : Code} (g : Gh A A') (k : T P Δ c fr A' Q) : T P Δ c fr A Q := fun lo n H F w => let ⟨F', h, w'⟩ := g.out w; W.mono (k lo n H F' w') fun _ _ _ _ q => Fin.le h q
theorem TL.gh (g : Gh A A') (k : TL P Δ fl all l fr A' Q) : TL P Δ fl all l fr A Q := fun lo n H F w =>
  let ⟨F', h, w'⟩ := g.out w; let ⟨e, fr', n', H', tr, q⟩ := k lo n H F' w'; ⟨e, fr', n', H', tr, Fin.le h q⟩
abbrev rch (I : Fr → List Item → Prop) (fr : Fr) (A : List Item) : Prop := ∃ fr2 A2, Fr.le fr2 fr ∧ Gh A A2 ∧ I fr2 A2
theorem T.rweak {c : Code} {I : Fr → List Item → Prop} (h : rch I fr A) (hc : ∀ fr A, I fr A → T P Δ c fr A Q) : T P Δ c fr A Q :=
  let ⟨_, _, h1, h2, h3⟩ := h; T.weak h1 (T.gh h2 (hc _ _ h3))
theorem T.lp {c : Code} (I : Nat → Fr → List Item → Prop) (k0 : Nat) (h0 : rch (I k0) fr A) (hz : ∀ fr A, ¬ I 0 fr A)
    (step : ∀ k fr A, I (k + 1) fr A → T P Δ c fr A (thn (rch (I k)) Q)) : T P Δ (.loop c) fr A Q := by
  refine T.rweak h0 (fun fr A h0 => ?_)
  refine T.loop (fun k fr A => ∃ A2, Gh A A2 ∧ I k fr A2) k0 (Fr.le_refl _) ⟨A, .refl _, h0⟩ (fun fr A ⟨_, _, h⟩ => hz _ _ h) (fun k fr A ⟨A2, g, h⟩ => T.gh g (T.mono (step k fr A2 h) fun e fr A q => ?_))
  cases e with
  | norm => obtain ⟨fr2, A3, h1, h2, h3⟩ := q; exact ⟨fr2, h1, A3, h2, h3⟩
  | ret => exact q
  | ex id => exact q
  | pan v => exact q
theorem T.ct {a b : Code} {Q2 : TPost} (I : Fr → List Item → Prop) (hA : T P Δ a fr A (thn (rch I) Q)) (hB : ∀ fr A, I fr A → T P Δ b fr A Q2) : T P Δ a fr A (thn (fun fr1 A1 => T P Δ b fr1 A1 Q2) Q) :=
  T.mono hA fun e fr' A' q => by
    cases e with
    | norm => exact T.rweak q hB
    | ret => exact q
    | ex id => exact q
    | pan v => exact q
abbrev fn (P : Program) (rs : List ResultVar) (R : Value → List Item → Prop) : TPost := fun e fr A => (e = .norm ∨ e = .ret) ∧ ∃ vs A2, Res P rs fr A vs ∧ Gh A A2 ∧ R (retV vs) A2
theorem Sp.bd {f : FuncId} {args : List Value} {fd : Func} {c : Code} {R : Value → List Item → Prop} (hfn : P.funcs[f]? = some fd) (hb : fd.body = some c) (hd : dstsOK fd.ntmps c = true) (h : T P Δ c (argFr 0 args) A (fn P fd.results.toList R)) : Sp P Δ f args A R := fun lo n H F w =>
  C.body hfn hb hd (W.mono (h lo n H F w) fun e fr' n' H' ⟨G, A1, h1, h2, h3, vs, A2, h4, h5, h6⟩ => let ⟨G2, g1, g2⟩ := h5.out h2; ⟨h3, vs, h4 lo n' H' G h2, G2, A2, h1.trans g1, g2, h6⟩)
theorem TL.callIn {o : Oper} {d : Nat} {x : Operand} {asx : Array Operand} {ts : Array TypeId} {f : FuncId} {first cap : Array Value} {avs args : List Value} {fd : Func} {c : Code} (h : (o.op, o.dst, wA all o fr, fr.eval x) = (.call { callee := .value x, args := asx, argTypes := ts }, some d, some true, some (.func (.func f) first cap))) (ha : asx.toList.mapM fr.eval = some avs) (hargs : first.toList ++ avs ++ cap.toList = args) [cf : FnT P f]
    (hfn : P.funcs[f]? = some fd) (hb : fd.body = some c) (hd : dstsOK fd.ntmps c = true) (kk : T P Δ c (argFr 0 args) A (fn P fd.results.toList (fun v A' => TL P Δ fl.tail all l ((d, v) :: fr) A' Q))) (hw : wOK fl = true := by rfl) : TL P Δ fl all (o :: l) fr A Q :=
  TL.c h ha hargs (Sp.bd hfn hb hd kk) (fun _ _ r => r) hw
end
theorem a0 {i : Item} {r : List Item} : Mm (i :: r) i := .z
theorem p0 {i : Item} {r : List Item} : Pk (i :: r) i (r) := .z
theorem e0 {i j : Item} {r : List Item} : Rk (i :: r) i j (j :: r) := .z
theorem a1 {x0 : Item} {i : Item} {r : List Item} : Mm (x0 :: i :: r) i := .s (.z)
theorem p1 {x0 : Item} {i : Item} {r : List Item} : Pk (x0 :: i :: r) i (x0 :: r) := .s (.z)
theorem e1 {x0 : Item} {i j : Item} {r : List Item} : Rk (x0 :: i :: r) i j (x0 :: j :: r) := .s (.z)
theorem a2 {x0 x1 : Item} {i : Item} {r : List Item} : Mm (x0 :: x1 :: i :: r) i := .s (.s (.z))
theorem p2 {x0 x1 : Item} {i : Item} {r : List Item} : Pk (x0 :: x1 :: i :: r) i (x0 :: x1 :: r) := .s (.s (.z))
theorem e2 {x0 x1 : Item} {i j : Item} {r : List Item} : Rk (x0 :: x1 :: i :: r) i j (x0 :: x1 :: j :: r) := .s (.s (.z))
theorem a3 {x0 x1 x2 : Item} {i : Item} {r : List Item} : Mm (x0 :: x1 :: x2 :: i :: r) i := .s (.s (.s (.z)))
theorem p3 {x0 x1 x2 : Item} {i : Item} {r : List Item} : Pk (x0 :: x1 :: x2 :: i :: r) i (x0 :: x1 :: x2 :: r) := .s (.s (.s (.z)))
theorem e3 {x0 x1 x2 : Item} {i j : Item} {r : List Item} : Rk (x0 :: x1 :: x2 :: i :: r) i j (x0 :: x1 :: x2 :: j :: r) := .s (.s (.s (.z)))
theorem a4 {x0 x1 x2 x3 : Item} {i : Item} {r : List Item} : Mm (x0 :: x1 :: x2 :: x3 :: i :: r) i := .s (.s (.s (.s (.z))))
theorem p4 {x0 x1 x2 x3 : Item} {i : Item} {r : List Item} : Pk (x0 :: x1 :: x2 :: x3 :: i :: r) i (x0 :: x1 :: x2 :: x3 :: r) := .s (.s (.s (.s (.z))))
theorem e4 {x0 x1 x2 x3 : Item} {i j : Item} {r : List Item} : Rk (x0 :: x1 :: x2 :: x3 :: i :: r) i j (x0 :: x1 :: x2 :: x3 :: j :: r) := .s (.s (.s (.s (.z))))
theorem a5 {x0 x1 x2 x3 x4 : Item} {i : Item} {r : List Item} : Mm (x0 :: x1 :: x2 :: x3 :: x4 :: i :: r) i := .s (.s (.s (.s (.s (.z)))))
theorem p5 {x0 x1 x2 x3 x4 : Item} {i : Item} {r : List Item} : Pk (x0 :: x1 :: x2 :: x3 :: x4 :: i :: r) i (x0 :: x1 :: x2 :: x3 :: x4 :: r) := .s (.s (.s (.s (.s (.z)))))
theorem e5 {x0 x1 x2 x3 x4 : Item} {i j : Item} {r : List Item} : Rk (x0 :: x1 :: x2 :: x3 :: x4 :: i :: r) i j (x0 :: x1 :: x2 :: x3 :: x4 :: j :: r) := .s (.s (.s (.s (.s (.z)))))
theorem a6 {x0 x1 x2 x3 x4 x5 : Item} {i : Item} {r : List Item} : Mm (x0 :: x1 :: x2 :: x3 :: x4 :: x5 :: i :: r) i := .s (.s (.s (.s (.s (.s (.z))))))
theorem p6 {x0 x1 x2 x3 x4 x5 : Item} {i : Item} {r : List Item} : Pk (x0 :: x1 :: x2 :: x3 :: x4 :: x5 :: i :: r) i (x0 :: x1 :: x2 :: x3 :: x4 :: x5 :: r) := .s (.s (.s (.s (.s (.s (.z))))))
theorem e6 {x0 x1 x2 x3 x4 x5 : Item} {i j : Item} {r : List Item} : Rk (x0 :: x1 :: x2 :: x3 :: x4 :: x5 :: i :: r) i j (x0 :: x1 :: x2 :: x3 :: x4 :: x5 :: j :: r) := .s (.s (.s (.s (.s (.s (.z))))))
theorem a7 {x0 x1 x2 x3 x4 x5 x6 : Item} {i : Item} {r : List Item} : Mm (x0 :: x1 :: x2 :: x3 :: x4 :: x5 :: x6 :: i :: r) i := .s (.s (.s (.s (.s (.s (.s (.z)))))))
theorem p7 {x0 x1 x2 x3 x4 x5 x6 : Item} {i : Item} {r : List Item} : Pk (x0 :: x1 :: x2 :: x3 :: x4 :: x5 :: x6 :: i :: r) i (x0 :: x1 :: x2 :: x3 :: x4 :: x5 :: x6 :: r) := .s (.s (.s (.s (.s (.s (.s (.z)))))))
theorem e7 {x0 x1 x2 x3 x4 x5 x6 : Item} {i j : Item} {r : List Item} : Rk (x0 :: x1 :: x2 :: x3 :: x4 :: x5 :: x6 :: i :: r) i j (x0 :: x1 :: x2 :: x3 :: x4 :: x5 :: x6 :: j :: r) := .s (.s (.s (.s (.s (.s (.s (.z)))))))
theorem a8 {x0 x1 x2 x3 x4 x5 x6 x7 : Item} {i : Item} {r : List Item} : Mm (x0 :: x1 :: x2 :: x3 :: x4 :: x5 :: x6 :: x7 :: i :: r) i := .s (.s (.s (.s (.s (.s (.s (.s (.z))))))))
theorem p8 {x0 x1 x2 x3 x4 x5 x6 x7 : Item} {i : Item} {r : List Item} : Pk (x0 :: x1 :: x2 :: x3 :: x4 :: x5 :: x6 :: x7 :: i :: r) i (x0 :: x1 :: x2 :: x3 :: x4 :: x5 :: x6 :: x7 :: r) := .s (.s (.s (.s (.s (.s (.s (.s (.z))))))))
theorem e8 {x0 x1 x2 x3 x4 x5 x6 x7 : Item} {i j : Item} {r : List Item} : Rk (x0 :: x1 :: x2 :: x3 :: x4 :: x5 :: x6 :: x7 :: i :: r) i j (x0 :: x1 :: x2 :: x3 :: x4 :: x5 :: x6 :: x7 :: j :: r) := .s (.s (.s (.s (.s (.s (.s (.s (.z))))))))
theorem a9 {x0 x1 x2 x3 x4 x5 x6 x7 x8 : Item} {i : Item} {r : List Item} : Mm (x0 :: x1 :: x2 :: x3 :: x4 :: x5 :: x6 :: x7 :: x8 :: i :: r) i := .s (.s (.s (.s (.s (.s (.s (.s (.s (.z)))))))))
theorem p9 {x0 x1 x2 x3 x4 x5 x6 x7 x8 : Item} {i : Item} {r : List Item} : Pk (x0 :: x1 :: x2 :: x3 :: x4 :: x5 :: x6 :: x7 :: x8 :: i :: r) i (x0 :: x1 :: x2 :: x3 :: x4 :: x5 :: x6 :: x7 :: x8 :: r) := .s (.s (.s (.s (.s (.s (.s (.s (.s (.z)))))))))
theorem e9 {x0 x1 x2 x3 x4 x5 x6 x7 x8 : Item} {i j : Item} {r : List Item} : Rk (x0 :: x1 :: x2 :: x3 :: x4 :: x5 :: x6 :: x7 :: x8 :: i :: r) i j (x0 :: x1 :: x2 :: x3 :: x4 :: x5 :: x6 :: x7 :: x8 :: j :: r) := .s (.s (.s (.s (.s (.s (.s (.s (.s (.z)))))))))
theorem a10 {x0 x1 x2 x3 x4 x5 x6 x7 x8 x9 : Item} {i : Item} {r : List Item} : Mm (x0 :: x1 :: x2 :: x3 :: x4 :: x5 :: x6 :: x7 :: x8 :: x9 :: i :: r) i := .s (.s (.s (.s (.s (.s (.s (.s (.s (.s (.z))))))))))
theorem p10 {x0 x1 x2 x3 x4 x5 x6 x7 x8 x9 : Item} {i : Item} {r : List Item} : Pk (x0 :: x1 :: x2 :: x3 :: x4 :: x5 :: x6 :: x7 :: x8 :: x9 :: i :: r) i (x0 :: x1 :: x2 :: x3 :: x4 :: x5 :: x6 :: x7 :: x8 :: x9 :: r) := .s (.s (.s (.s (.s (.s (.s (.s (.s (.s (.z))))))))))
theorem a11 {x0 x1 x2 x3 x4 x5 x6 x7 x8 x9 x10 : Item} {i : Item} {r : List Item} : Mm (x0 :: x1 :: x2 :: x3 :: x4 :: x5 :: x6 :: x7 :: x8 :: x9 :: x10 :: i :: r) i := .s (.s (.s (.s (.s (.s (.s (.s (.s (.s (.s (.z)))))))))))
theorem p11 {x0 x1 x2 x3 x4 x5 x6 x7 x8 x9 x10 : Item} {i : Item} {r : List Item} : Pk (x0 :: x1 :: x2 :: x3 :: x4 :: x5 :: x6 :: x7 :: x8 :: x9 :: x10 :: i :: r) i (x0 :: x1 :: x2 :: x3 :: x4 :: x5 :: x6 :: x7 :: x8 :: x9 :: x10 :: r) := .s (.s (.s (.s (.s (.s (.s (.s (.s (.s (.s (.z)))))))))))
theorem a12 {x0 x1 x2 x3 x4 x5 x6 x7 x8 x9 x10 x11 : Item} {i : Item} {r : List Item} : Mm (x0 :: x1 :: x2 :: x3 :: x4 :: x5 :: x6 :: x7 :: x8 :: x9 :: x10 :: x11 :: i :: r) i := .s (.s (.s (.s (.s (.s (.s (.s (.s (.s (.s (.s (.z))))))))))))
theorem p12 {x0 x1 x2 x3 x4 x5 x6 x7 x8 x9 x10 x11 : Item} {i : Item} {r : List Item} : Pk (x0 :: x1 :: x2 :: x3 :: x4 :: x5 :: x6 :: x7 :: x8 :: x9 :: x10 :: x11 :: i :: r) i (x0 :: x1 :: x2 :: x3 :: x4 :: x5 :: x6 :: x7 :: x8 :: x9 :: x10 :: x11 :: r) := .s (.s (.s (.s (.s (.s (.s (.s (.s (.s (.s (.s (.z))))))))))))
theorem e12 {x0 x1 x2 x3 x4 x5 x6 x7 x8 x9 x10 x11 : Item} {i j : Item} {r : List Item} : Rk (x0 :: x1 :: x2 :: x3 :: x4 :: x5 :: x6 :: x7 :: x8 :: x9 :: x10 :: x11 :: i :: r) i j (x0 :: x1 :: x2 :: x3 :: x4 :: x5 :: x6 :: x7 :: x8 :: x9 :: x10 :: x11 :: j :: r) := .s (.s (.s (.s (.s (.s (.s (.s (.s (.s (.s (.s (.z))))))))))))
theorem a13 {x0 x1 x2 x3 x4 x5 x6 x7 x8 x9 x10 x11 x12 : Item} {i : Item} {r : List Item} : Mm (x0 :: x1 :: x2 :: x3 :: x4 :: x5 :: x6 :: x7 :: x8 :: x9 :: x10 :: x11 :: x12 :: i :: r) i := .s (.s (.s (.s (.s (.s (.s (.s (.s (.s (.s (.s (.s (.z)))))))))))))
theorem a14 {x0 x1 x2 x3 x4 x5 x6 x7 x8 x9 x10 x11 x12 x13 : Item} {i : Item} {r : List Item} : Mm (x0 :: x1 :: x2 :: x3 :: x4 :: x5 :: x6 :: x7 :: x8 :: x9 :: x10 :: x11 :: x12 :: x13 :: i :: r) i := .s (.s (.s (.s (.s (.s (.s (.s (.s (.s (.s (.s (.s (.s (.z))))))))))))))
theorem p14 {x0 x1 x2 x3 x4 x5 x6 x7 x8 x9 x10 x11 x12 x13 : Item} {i : Item} {r : List Item} : Pk (x0 :: x1 :: x2 :: x3 :: x4 :: x5 :: x6 :: x7 :: x8 :: x9 :: x10 :: x11 :: x12 :: x13 :: i :: r) i (x0 :: x1 :: x2 :: x3 :: x4 :: x5 :: x6 :: x7 :: x8 :: x9 :: x10 :: x11 :: x12 :: x13 :: r) := .s (.s (.s (.s (.s (.s (.s (.s (.s (.s (.s (.s (.s (.s (.z))))))))))))))
theorem e14 {x0 x1 x2 x3 x4 x5 x6 x7 x8 x9 x10 x11 x12 x13 : Item} {i j : Item} {r : List Item} : Rk (x0 :: x1 :: x2 :: x3 :: x4 :: x5 :: x6 :: x7 :: x8 :: x9 :: x10 :: x11 :: x12 :: x13 :: i :: r) i j (x0 :: x1 :: x2 :: x3 :: x4 :: x5 :: x6 :: x7 :: x8 :: x9 :: x10 :: x11 :: x12 :: x13 :: j :: r) := .s (.s (.s (.s (.s (.s (.s (.s (.s (.s (.s (.s (.s (.s (.z))))))))))))))
theorem a15 {x0 x1 x2 x3 x4 x5 x6 x7 x8 x9 x10 x11 x12 x13 x14 : Item} {i : Item} {r : List Item} : Mm (x0 :: x1 :: x2 :: x3 :: x4 :: x5 :: x6 :: x7 :: x8 :: x9 :: x10 :: x11 :: x12 :: x13 :: x14 :: i :: r) i := .s (.s (.s (.s (.s (.s (.s (.s (.s (.s (.s (.s (.s (.s (.s (.z)))))))))))))))
theorem p15 {x0 x1 x2 x3 x4 x5 x6 x7 x8 x9 x10 x11 x12 x13 x14 : Item} {i : Item} {r : List Item} : Pk (x0 :: x1 :: x2 :: x3 :: x4 :: x5 :: x6 :: x7 :: x8 :: x9 :: x10 :: x11 :: x12 :: x13 :: x14 :: i :: r) i (x0 :: x1 :: x2 :: x3 :: x4 :: x5 :: x6 :: x7 :: x8 :: x9 :: x10 :: x11 :: x12 :: x13 :: x14 :: r) := .s (.s (.s (.s (.s (.s (.s (.s (.s (.s (.s (.s (.s (.s (.s (.z)))))))))))))))
theorem a16 {x0 x1 x2 x3 x4 x5 x6 x7 x8 x9 x10 x11 x12 x13 x14 x15 : Item} {i : Item} {r : List Item} : Mm (x0 :: x1 :: x2 :: x3 :: x4 :: x5 :: x6 :: x7 :: x8 :: x9 :: x10 :: x11 :: x12 :: x13 :: x14 :: x15 :: i :: r) i := .s (.s (.s (.s (.s (.s (.s (.s (.s (.s (.s (.s (.s (.s (.s (.s (.z))))))))))))))))
theorem p16 {x0 x1 x2 x3 x4 x5 x6 x7 x8 x9 x10 x11 x12 x13 x14 x15 : Item} {i : Item} {r : List Item} : Pk (x0 :: x1 :: x2 :: x3 :: x4 :: x5 :: x6 :: x7 :: x8 :: x9 :: x10 :: x11 :: x12 :: x13 :: x14 :: x15 :: i :: r) i (x0 :: x1 :: x2 :: x3 :: x4 :: x5 :: x6 :: x7 :: x8 :: x9 :: x10 :: x11 :: x12 :: x13 :: x14 :: x15 :: r) := .s (.s (.s (.s (.s (.s (.s (.s (.s (.s (.s (.s (.s (.s (.s (.s (.z))))))))))))))))
theorem a17 {x0 x1 x2 x3 x4 x5 x6 x7 x8 x9 x10 x11 x12 x13 x14 x15 x16 : Item} {i : Item} {r : List Item} : Mm (x0 :: x1 :: x2 :: x3 :: x4 :: x5 :: x6 :: x7 :: x8 :: x9 :: x10 :: x11 :: x12 :: x13 :: x14 :: x15 :: x16 :: i :: r) i := .s (.s (.s (.s (.s (.s (.s (.s (.s (.s (.s (.s (.s (.s (.s (.s (.s (.z)))))))))))))))))
theorem p17 {x0 x1 x2 x3 x4 x5 x6 x7 x8 x9 x10 x11 x12 x13 x14 x15 x16 : Item} {i : Item} {r : List Item} : Pk (x0 :: x1 :: x2 :: x3 :: x4 :: x5 :: x6 :: x7 :: x8 :: x9 :: x10 :: x11 :: x12 :: x13 :: x14 :: x15 :: x16 :: i :: r) i (x0 :: x1 :: x2 :: x3 :: x4 :: x5 :: x6 :: x7 :: x8 :: x9 :: x10 :: x11 :: x12 :: x13 :: x14 :: x15 :: x16 :: r) := .s (.s (.s (.s (.s (.s (.s (.s (.s (.s (.s (.s (.s (.s (.s (.s (.s (.z)))))))))))))))))
theorem a21 {x0 x1 x2 x3 x4 x5 x6 x7 x8 x9 x10 x11 x12 x13 x14 x15 x16 x17 x18 x19 x20 : Item} {i : Item} {r : List Item} : Mm (x0 :: x1 :: x2 :: x3 :: x4 :: x5 :: x6 :: x7 :: x8 :: x9 :: x10 :: x11 :: x12 :: x13 :: x14 :: x15 :: x16 :: x17 :: x18 :: x19 :: x20 :: i :: r) i := .s (.s (.s (.s (.s (.s (.s (.s (.s (.s (.s (.s (.s (.s (.s (.s (.s (.s (.s (.s (.s (.z)))))))))))))))))))))
theorem p21 {x0 x1 x2 x3 x4 x5 x6 x7 x8 x9 x10 x11 x12 x13 x14 x15 x16 x17 x18 x19 x20 : Item} {i : Item} {r : List Item} : Pk (x0 :: x1 :: x2 :: x3 :: x4 :: x5 :: x6 :: x7 :: x8 :: x9 :: x10 :: x11 :: x12 :: x13 :: x14 :: x15 :: x16 :: x17 :: x18 :: x19 :: x20 :: i :: r) i (x0 :: x1 :: x2 :: x3 :: x4 :: x5 :: x6 :: x7 :: x8 :: x9 :: x10 :: x11 :: x12 :: x13 :: x14 :: x15 :: x16 :: x17 :: x18 :: x19 :: x20 :: r) := .s (.s (.s (.s (.s (.s (.s (.s (.s (.s (.s (.s (.s (.s (.s (.s (.s (.s (.s (.s (.s (.z)))))))))))))))))))))
theorem a22 {x0 x1 x2 x3 x4 x5 x6 x7 x8 x9 x10 x11 x12 x13 x14 x15 x16 x17 x18 x19 x20 x21 : Item} {i : Item} {r : List Item} : Mm (x0 :: x1 :: x2 :: x3 :: x4 :: x5 :: x6 :: x7 :: x8 :: x9 :: x10 :: x11 :: x12 :: x13 :: x14 :: x15 :: x16 :: x17 :: x18 :: x19 :: x20 :: x21 :: i :: r) i := .s (.s (.s (.s (.s (.s (.s (.s (.s (.s (.s (.s (.s (.s (.s (.s (.s (.s (.s (.s (.s (.s (.z))))))))))))))))))))))
theorem c0 {a v : Value} {r : List Value} : St1 (a :: r) 0 v (v :: r) := .z
theorem c1 {x0 : Value} {a v : Value} {r : List Value} : St1 (x0 :: a :: r) 1 v (x0 :: v :: r) := .s (.z)
theorem c2 {x0 x1 : Value} {a v : Value} {r : List Value} : St1 (x0 :: x1 :: a :: r) 2 v (x0 :: x1 :: v :: r) := .s (.s (.z))
theorem c3 {x0 x1 x2 : Value} {a v : Value} {r : List Value} : St1 (x0 :: x1 :: x2 :: a :: r) 3 v (x0 :: x1 :: x2 :: v :: r) := .s (.s (.s (.z)))
theorem c4 {x0 x1 x2 x3 : Value} {a v : Value} {r : List Value} : St1 (x0 :: x1 :: x2 :: x3 :: a :: r) 4 v (x0 :: x1 :: x2 :: x3 :: v :: r) := .s (.s (.s (.s (.z))))
theorem c5 {x0 x1 x2 x3 x4 : Value} {a v : Value} {r : List Value} : St1 (x0 :: x1 :: x2 :: x3 :: x4 :: a :: r) 5 v (x0 :: x1 :: x2 :: x3 :: x4 :: v :: r) := .s (.s (.s (.s (.s (.z)))))
theorem c6 {x0 x1 x2 x3 x4 x5 : Value} {a v : Value} {r : List Value} : St1 (x0 :: x1 :: x2 :: x3 :: x4 :: x5 :: a :: r) 6 v (x0 :: x1 :: x2 :: x3 :: x4 :: x5 :: v :: r) := .s (.s (.s (.s (.s (.s (.z))))))
theorem c7 {x0 x1 x2 x3 x4 x5 x6 : Value} {a v : Value} {r : List Value} : St1 (x0 :: x1 :: x2 :: x3 :: x4 :: x5 :: x6 :: a :: r) 7 v (x0 :: x1 :: x2 :: x3 :: x4 :: x5 :: x6 :: v :: r) := .s (.s (.s (.s (.s (.s (.s (.z)))))))
theorem c8 {x0 x1 x2 x3 x4 x5 x6 x7 : Value} {a v : Value} {r : List Value} : St1 (x0 :: x1 :: x2 :: x3 :: x4 :: x5 :: x6 :: x7 :: a :: r) 8 v (x0 :: x1 :: x2 :: x3 :: x4 :: x5 :: x6 :: x7 :: v :: r) := .s (.s (.s (.s (.s (.s (.s (.s (.z))))))))
end Go.Proofs.YtlpcdcpcfeaecaaAb
end
section
namespace Go.Proofs.YtlpcdcpcfeaecaaAb
open Go
inductive Ol (A : List Item) : List Value → Prop
  | n : Ol A []
  | s {v : Value} {vs : List Value} (h : v.oneCell' = true) (t : Ol A vs) : Ol A (v :: vs)
  | h {v : Value} {vs : List Value} {X : Item} {m : Nat} (mm : Mm A X) (c : Hdr X v m) (t : Ol A vs) : Ol A (v :: vs)
theorem Hdr.one1 {X : Item} {v : Value} {m : Nat} (c : Hdr X v m) {F h : Heap} (e : X.P F h) : v.oneCell' = true := by
  rcases c.out e with ⟨rfl, _⟩ | ⟨b, k, cap, rfl⟩ <;> rfl
theorem Ol.out {A : List Item} {vs : List Value} (o : Ol A vs) {lo n : Nat} {F H : Heap} (w : Wf lo n F A H) : ∀ u ∈ vs, u.oneCell' = true := by
  induction o with
  | n => intro u hu; cases hu
  | s h t ih => intro u hu; rcases List.mem_cons.1 hu with rfl | hu; exact h; exact ih u hu
  | h mm c t ih => intro u hu; rcases List.mem_cons.1 hu with rfl | hu; exact c.one1 (w.get mm).choose_spec.2; exact ih u hu
def fel (b e : Nat) (cs : List Value) : Item := ⟨fun F _ => ∃ s c, F b = some (.row s c) ∧ (c.drop e).take cs.length = cs, fun hle ⟨s, c, h1, h2⟩ => ⟨s, c, hle _ _ h1, h2⟩, fun _ h => h⟩
theorem Pers.fel {b e : Nat} {cs : List Value} : Pers (fel b e cs) := fun _ _ h => h
def setL (places : List (Nat × Nat)) : List Value → List (Nat × Value) → Option (List Value)
  | c, [] => some c
  | c, (j, v) :: ps => match places[j]? with
    | some (off, 1) => if off < c.length then setL places (c.set off v) ps else none
    | _ => none
theorem setL.fill {places : List (Nat × Nat)} : ∀ {ps : List (Nat × Value)} {c cells : List Value}, setL places c ps = some cells → (∀ u ∈ ps.map (·.2), u.oneCell' = true) → fillL (fun j => places[j]?) c ps = some cells
  | [], c, cells, h, _ => by simpa [setL, fillL] using h
  | (j, v) :: ps, c, cells, h, ho => by
    unfold setL at h
    split at h
    · rename_i off heq
      split at h
      · rename_i hlt
        have h1 : Cells v = [v] := Cells.one (ho v (by simp))
        have ih := setL.fill h (fun u hu => ho u (by simp only [List.map_cons, List.mem_cons]; exact .inr hu))
        have hsp : splice c off [v] = c.set off v := by
          unfold splice; rw [List.set_eq_take_append_cons_drop, if_pos hlt]; simp
        unfold fillL
        simp only [heq, h1]
        simpa [hsp, hlt, Nat.succ_le_of_lt] using ih
      · cases h
    · cases h
section
variable {P : Program} {Δ : Prims} {fr : Fr} {A A1 A' : List Item} {Q : TPost} {fl : List Bool} {all : Array Oper} {l : List Oper} {o : Oper} {d : Nat}
theorem TL.bxo {t : TypeId} {x : Operand} {v : Value} {vc : List Value} (h : (o.op, o.dst, wA all o fr, fr.eval x) = (.box t x, some d, some true, some v)) (hv : Cells v = vc) (ol : Ol A vc)
    (kk : ∀ p, TL P Δ fl.tail all l ((d, .pointer (some ⟨p, 0, none⟩)) :: fr) (box p vc :: A) Q) : TL P Δ fl all (o :: l) fr A Q := fun lo n H F w => TL.bx h hv (ol.out w) kk lo n H F w
theorem TL.sto {t : TypeId} {x y : Operand} {p k sz : Nat} {c vc c' : List Value} {v : Value} (h : (o.op, o.dst, wA all o fr, fr.eval x, fr.eval y) = (.store t x y, none, some true, some (.pointer (some ⟨p, k, none⟩)), some v)) [s : SzT P t sz] (hv : Cells v = vc) (hs : vc.length = sz) (ol : Ol A vc) (m : Rk A (box p c) (box p c') A') (hc : splice c k vc = c') (hk : k + sz ≤ c.length)
    (kk : TL P Δ fl.tail all l fr A' Q) (hw : wOK fl = true := by rfl) : TL P Δ fl all (o :: l) fr A Q := fun lo n H F w => TL.stc h hv hs (ol.out w) m hk hc hw kk lo n H F w
theorem TL.stf0 {α : Type} {r : Rep α} {xs : List α} {t : TypeId} {x y : Operand} {v vv : Value} {b e sz : Nat} {j : Int} {cs vc cs' : List Value} (h : (o.op, o.dst, wA all o fr, fr.eval x, fr.eval y) = (.store t x y, none, some true, some (.pointer (some ⟨b, e, none⟩)), some vv)) [s : SzT P t sz] (hv : Cells vv = vc) (hs : vc.length = sz) (ol : Ol A vc)
    (mm : Rk A (foc r v xs j b e cs) (foc r v xs j b e cs') A') (hc : splice cs 0 vc = cs') (hm : sz ≤ r.sz) (kk : TL P Δ fl.tail all l fr A' Q) (hw : wOK fl = true := by rfl) : TL P Δ fl all (o :: l) fr A Q := fun lo n H F w => TL.stfc (m := 0) h hv hs (ol.out w) mm (by omega) hc hw kk lo n H F w
theorem TL.bld {t : TypeId} {ps : Array (Nat × Operand)} {fs : Array Field} {parts : List (Nat × Value)} {places : List (Nat × Nat)} {z : Value} {iz : TypeInfo} {zc cells : List Value} (h : (o.op, o.dst, wA all o fr) = (.build t ps, some d, some true)) (ht : P.underlying t = some (.struct fs)) (hi : P.info? t = some iz)
    (hz : iz.zero = some z) (hzc : Cells z = zc) (hg : zc.all grZ = true) (hpl : fs.toList.mapM (fun f => (P.info? f.type).map fun i => (f.offset, i.size)) = some places) (hp : ps.toList.mapM (fun p => (fr.eval p.2).map fun v => (p.1, v)) = some parts) (ol : Ol A (parts.map (·.2))) (hf : setL places zc parts = some cells)
    (kk : TL P Δ fl.tail all l ((d, .agg cells.toArray) :: fr) A Q) : TL P Δ fl all (o :: l) fr A Q := fun lo n H F w => by
  simp only [Prod.mk.injEq] at h
  obtain ⟨lw, hfl, _, _⟩ := IsFl.tl fl w.low
  exact WL.buildL hfl h.1 h.2.1 h.2.2 ht hi hz hzc hg hpl hp (setL.fill hf (ol.out w)) (kk lo n H F w)
theorem HT.ex {α : Type} [Rp α] {xs : List α} {B : Nat → Nat → Heap → Heap → Prop} {v : Value} {j : Int} {b e : Nat} {x : α} (m : Mm A (fz v xs)) (he : El (Rp.sz α) v j b e) (hx : idx xs j = some x) (k : ∀ cs, cs.length = Rp.sz α → (∀ F h, Sat F A h → Rp.R F cs x → True) → HT (fel b e cs :: vl (rC α) cs x :: A) B) : HT A B := fun lo n H F w => by
  obtain ⟨g, lg, u, eu, hs⟩ := w.get m
  obtain rfl : v = u := by simpa using eu
  obtain ⟨cs, cc, hb, hcs, hR⟩ := (rdbFz (v := v) (xs := xs)).cell (F := F) (h := nilH) (H := F) ⟨v, rfl, hs⟩ (.refl _) Heap.nil_le he hx
  obtain ⟨gg, q1, q2, q3, q4⟩ := w.sat
  have hl : cs.length = Rp.sz α := Rp.len hR
  exact k cs hl (fun _ _ _ _ => trivial) lo n H F ⟨w.low, w.hb, w.fh, gg, q1, q2, q3, nilH, gg, .nil, Heap.nil_le, .refl _, ⟨_, cc, hb, by rw [hl]; exact hcs⟩, nilH, gg, .nil, Heap.nil_le, .refl _, hR, q4⟩
theorem TL.ldg {t : TypeId} {x : Operand} {b e k m : Nat} {cs : List Value} {vv : Value} (h : (o.op, o.dst, wA all o fr, fr.eval x) = (.load t x, some d, some true, some (.pointer (some ⟨b, k, none⟩)))) [s : Sg P t] (mm : Mm A (fel b e cs)) (hk : k = e + m) (hc : cs[m]? = some vv)
    (kk : TL P Δ fl.tail all l ((d, vv) :: fr) A Q) : TL P Δ fl all (o :: l) fr A Q := fun lo n H F w => by
  simp only [Prod.mk.injEq] at h
  obtain ⟨lw, hfl, _, _⟩ := IsFl.tl fl w.low
  obtain ⟨dd, h1, h2⟩ := s.out
  obtain ⟨g, l, s', c, hb, hw⟩ := w.get mm
  subst hk
  exact WL.load1 hfl h.1 h.2.1 h.2.2.1 h1 h2 h.2.2.2 (w.fh _ _ hb) ((win_get hw (List.getElem?_eq_some_iff.1 hc).1).trans hc) (kk lo n H F w)
theorem TL.ldgN {t : TypeId} {x : Operand} {b e sz : Nat} {cs : List Value} (h : (o.op, o.dst, wA all o fr, fr.eval x) = (.load t x, some d, some true, some (.pointer (some ⟨b, e, none⟩)))) [s : StT P t sz] (mm : Mm A (fel b e cs)) (hl : cs.length = sz)
    (kk : TL P Δ fl.tail all l ((d, .agg cs.toArray) :: fr) A Q) : TL P Δ fl all (o :: l) fr A Q := fun lo n H F w => by
  simp only [Prod.mk.injEq] at h
  obtain ⟨lw, hfl, _, _⟩ := IsFl.tl fl w.low
  obtain ⟨dd, i, h1, h2, h3, rfl⟩ := s.out
  obtain ⟨g, l, s', c, hb, hw⟩ := w.get mm
  exact WL.loadN hfl h.1 h.2.1 h.2.2.1 h1 h2 h3 h.2.2.2 (w.fh _ _ hb) (by rw [← hl]; exact hw) hl (kk lo n H F w)
theorem TL.lk {α : Type} {r : Rep α} {xs : List α} {t : TypeId} {x : Operand} {v vv : Value} {b e k m : Nat} {j : Int} {cs : List Value} (h : (o.op, o.dst, wA all o fr, fr.eval x) = (.load t x, some d, some true, some (.pointer (some ⟨b, k, none⟩)))) [s : Sg P t] (mm : Mm A (foc r v xs j b e cs)) (hk : k = e + m) (hc : cs[m]? = some vv) (hm : m < r.sz)
    (kk : TL P Δ fl.tail all l ((d, vv) :: fr) A Q) : TL P Δ fl all (o :: l) fr A Q := by subst hk; exact TL.ldf h mm hm hc kk
theorem TL.ldek {α : Type} [Rp α] {X : Item} {xs : List α} {u : α} {t : TypeId} {x : Operand} {v vv : Value} {b e k m : Nat} {j : Int} (h : (o.op, o.dst, wA all o fr, fr.eval x) = (.load t x, some d, some true, some (.pointer (some ⟨b, k, none⟩)))) [s : Sg P t] (mm : Mm A X) [c : Rdb X v xs] (he : El (Rp.sz α) v j b e) (hu : idx xs j = some u)
    (hf : ∀ {F : Heap} {cs : List Value}, Rp.R F cs u → cs[m]? = some vv) (hk : k = e + m) (kk : TL P Δ fl.tail all l ((d, vv) :: fr) A Q) (hm : m < Rp.sz α := by decide) : TL P Δ fl all (o :: l) fr A Q := by subst hk; exact TL.lde h mm he hu hm hf kk
inductive Pz (A : List Item) : List Item → Prop
  | n : Pz A []
  | c {i : Item} {B : List Item} (m : Mm A i) (hp : Pers i) (t : Pz A B) : Pz A (i :: B)
theorem Pz.out {B : List Item} (p : Pz A B) : ∀ F h, Sat F A h → Sat F B nilH := by
  induction p with
  | n => exact fun _ _ _ => trivial
  | c m hp t ih => exact fun F h s => let ⟨a, _, e⟩ := m.get s; ⟨nilH, nilH, .nil, .refl _, .refl _, hp _ _ e, ih F h s⟩
theorem El.nil {sz : Nat} {j : Int} {b e : Nat} : ¬ El sz (.slice none 0 0) j b e := fun ⟨_, _, _, _, h, _⟩ => by cases h
end
end Go.Proofs.YtlpcdcpcfeaecaaAb
end
section
namespace Go.Proofs.YtlpcdcpcfeaecaaAb
open Go
theorem Sat.split {F : Heap} {A : List Item} : ∀ {Bs : List Item} {h : Heap}, Sat F (Bs ++ A) h → ∃ a b, Dj a b ∧ a.Le h ∧ b.Le h ∧ Sat F Bs a ∧ Sat F A b
  | [], h, s => ⟨nilH, h, .nil, Heap.nil_le, .refl _, trivial, s⟩
  | i :: r, h, ⟨a, b, d, l1, l2, hi, hr⟩ => by
    obtain ⟨a2, b2, d2, m1, m2, s1, s2⟩ := Sat.split hr
    have d3 : Dj a a2 := d.mono (.refl _) m1
    have d4 : Dj a b2 := d.mono (.refl _) m2
    exact ⟨a.or a2, b2, Dj.or d4 d2, Heap.or_le l1 (m1.trans l2), m2.trans l2, ⟨a, a2, d3, Heap.le_orl, Heap.le_orr d3, hi, s1⟩, s2⟩
theorem Ent.col {i : Item} {Bs A : List Item} (h : ∀ F a, Sat F Bs a → i.P F a) : Ent (Bs ++ A) (i :: A) := fun F g s =>
  let ⟨a, b, d, l1, l2, s1, s2⟩ := s.split; ⟨a, b, d, l1, l2, h F a s1, s2⟩
theorem HT.exp {ι : Type} {i : Item} {A : List Item} {B : Nat → Nat → Heap → Heap → Prop} {C : ι → Prop} (Bs : ι → List Item) (h : ∀ F a, i.P F a → ∃ t, C t ∧ Sat F (Bs t) a) (k : ∀ t, C t → HT (Bs t ++ A) B) : HT (i :: A) B := fun lo n H F w => by
  obtain ⟨g, h1, h2, h3, a, b, d, l1, l2, hi, hr⟩ := w.sat
  obtain ⟨t, hc, hs⟩ := h F a hi
  exact k t hc lo n H F ⟨w.low, w.hb, w.fh, g, h1, h2, h3, (Sat.join d hs hr).up (Heap.or_le l1 l2)⟩
theorem Ent.swap {i j : Item} {A : List Item} : Ent (i :: j :: A) (j :: i :: A) := fun _ _ s => s.swap
theorem SR.form1 {α : Type} [Rp α] {F : Heap} {v : Value} {xs : List α} (h : SR F v xs) : ∃ a cap, v = .slice a xs.length cap := by
  obtain ⟨_, cs, hs, _⟩ := h
  exact hs.form
theorem fzP {α : Type} [Rp α] {F h : Heap} {v : Value} {xs : List α} : (fz v xs).P F h ↔ SR F v xs := by
  constructor
  · intro ⟨u, e, s⟩
    obtain rfl : v = u := by simpa using e
    exact s
  · exact fun s => ⟨v, rfl, s⟩
theorem Sat.one {F h : Heap} {i : Item} {r : List Item} (s : Sat F (i :: r) h) : i.P F h ∧ Sat F r h := let ⟨a, b, d, l1, l2, hi, hr⟩ := s; ⟨i.up l1 hi, hr.up l2⟩
theorem Sat.ofPers {F h : Heap} {i : Item} {r : List Item} (hi : i.P F nilH) (hr : Sat F r h) : Sat F (i :: r) h := ⟨nilH, h, .nil, Heap.nil_le, .refl _, hi, hr⟩
theorem fz0 {α : Type} [Rp α] {F : Heap} {v : Value} {xs : List α} (s : SR F v xs) : (fz v xs).P F nilH := ⟨v, rfl, s⟩
section
variable {A A1 : List Item} {α : Type} {r : Rep α} {xs : List α} {v : Value} {j : Int} {b e : Nat} {x y : α} {cs : List Value} {B : Nat → Nat → Heap → Heap → Prop}
theorem HT.refoc {z : α} (he : El r.sz v j b e) (hz : idx xs j = some z) (k : ∀ cs, HT (foc r v xs j b e cs :: vl r cs y :: A) B) : HT (ow r v (setI xs j y) :: A) B := by
  obtain ⟨h0, h1, hj, hxj⟩ := idx_inv hz
  have hl : (setI xs j y).length = xs.length := by unfold setI; rw [List.length_set]
  refine HT.focus he (x := y) (by unfold setI; rw [idx_pos h0 (by rw [List.length_set]; exact h1), List.getElem_set_self]) fun cs => HT.ent (fun F h s => ?_) (k cs)
  obtain ⟨a, b', d, l1, l2, ⟨kk, cap, c, g1, g2, f⟩, hr⟩ := s
  refine ⟨a, b', d, l1, l2, ⟨kk, cap, c, g1, g2, ⟨by rw [← hl]; exact f.lt, f.j0, hj, by rw [← hl]; exact f.hv, f.he, f.hb, by rw [← hl]; exact f.hk, by rw [← hl]; exact f.hcap, f.hcs, f.d, f.l1, f.l2, f.b1, f.b2, ?_, ?_⟩⟩, hr⟩
  · have := f.ah; unfold setI at this; rw [List.take_set_of_le (by omega)] at this; exact this
  · have := f.be; rw [hl] at this; unfold setI at this; rw [List.drop_set_of_lt (by omega)] at this; exact this
theorem Ent.setSame (hx : idx xs j = some x) : Ent (ow r v (setI xs j x) :: A) (ow r v xs :: A) := by
  obtain ⟨h0, h1, hj, hxj⟩ := idx_inv hx
  have e : setI xs j x = xs := by unfold setI; rw [← hxj, List.set_getElem_self]
  rw [e]; exact .refl _
end
end Go.Proofs.YtlpcdcpcfeaecaaAb
end
section
namespace Go.Proofs.YtlpcdcpcfeaecaaAb
open Go
abbrev pt (b k : Nat) : Value := .pointer (some ⟨b, k, none⟩)
abbrev iv (x : Int) : Value := .int .i64 x
def bl {n m : Nat} := @Nat.le_of_ble_eq_true n m
section
variable {P : Program} {Δ : Prims} {fr : Fr} {A A1 A' : List Item} {Q : TPost} {fl : List Bool} {all : Array Oper} {l : List Oper} {o : Oper} {d : Nat}
theorem T.condT {c : Operand} {a b : Code} (hc : fr.eval c = some (.bool true)) (h : T P Δ a fr A Q) : T P Δ (.cond c a b) fr A Q := T.cond hc (fun _ => h) (fun e => by cases e)
theorem T.condF {c : Operand} {a b : Code} (hc : fr.eval c = some (.bool false)) (h : T P Δ b fr A Q) : T P Δ (.cond c a b) fr A Q := T.cond hc (fun e => by cases e) (fun _ => h)
theorem TL.guard {j : Nat} {b want : Bool} {t : Nat} (hg : o.guard = some (j, want)) (hj : (all[j]?).bind (·.dst) = some t) (hv : fr.get t = some (.bool b))
    (h1 : b = true → TL P Δ fl all (o :: l) ((t, .bool true) :: fr) A Q) (h0 : b = false → TL P Δ fl all (o :: l) ((t, .bool false) :: fr) A Q) : TL P Δ fl all (o :: l) fr A Q := fun lo n H F w =>
  WL.guard hg hj hv (fun e => h1 e lo n H F w) (fun e => h0 e lo n H F w)
theorem TL.ad {t t' : TypeId} {x y : Operand} {a b : Int} (h : (o.op, o.dst, wA all o fr, fr.eval x, fr.eval y) = (.binOp .add t x y t', some d, some true, some (.int .i64 a), some (.int .i64 b))) (hc : -9223372036854775808 ≤ a + b ∧ a + b < 9223372036854775808) (kk : TL P Δ fl.tail all l ((d, .int .i64 (a + b)) :: fr) A Q) : TL P Δ fl all (o :: l) fr A Q := by
  simp only [Prod.mk.injEq] at h; exact TL.of (fun f k => WL.addI f h.1 h.2.1 h.2.2.1 h.2.2.2.1 h.2.2.2.2 hc.1 hc.2 k) kk
theorem TL.su {t t' : TypeId} {x y : Operand} {a b : Int} (h : (o.op, o.dst, wA all o fr, fr.eval x, fr.eval y) = (.binOp .sub t x y t', some d, some true, some (.int .i64 a), some (.int .i64 b))) (hc : -9223372036854775808 ≤ a - b ∧ a - b < 9223372036854775808) (kk : TL P Δ fl.tail all l ((d, .int .i64 (a - b)) :: fr) A Q) : TL P Δ fl all (o :: l) fr A Q := by
  simp only [Prod.mk.injEq] at h; exact TL.of (fun f k => WL.subI f h.1 h.2.1 h.2.2.1 h.2.2.2.1 h.2.2.2.2 hc.1 hc.2 k) kk
theorem TL.mu {t t' : TypeId} {x y : Operand} {a b : Int} (h : (o.op, o.dst, wA all o fr, fr.eval x, fr.eval y) = (.binOp .mul t x y t', some d, some true, some (.int .i64 a), some (.int .i64 b))) (hc : -9223372036854775808 ≤ a * b ∧ a * b < 9223372036854775808) (kk : TL P Δ fl.tail all l ((d, .int .i64 (a * b)) :: fr) A Q) : TL P Δ fl all (o :: l) fr A Q := by
  simp only [Prod.mk.injEq] at h; exact TL.of (fun f k => WL.mulI f h.1 h.2.1 h.2.2.1 h.2.2.2.1 h.2.2.2.2 hc.1 hc.2 k) kk
theorem Res.cellN {a : Nat} {t : TypeId} {p k sz : Nat} {c l' : List Value} {rs : List ResultVar} {vs : List Value} (h : fr.get a = some (.pointer (some ⟨p, k, none⟩))) [s : StT P t sz] (m : Mm A (box p c)) (hk : (c.drop k).take sz = l') (hl : l'.length = sz) (hs : Res P rs fr A vs) : Res P (.cell a t :: rs) fr A (.agg l'.toArray :: vs) := fun lo n H F w => by
  obtain ⟨dd, i, h1, h2, h3, rfl⟩ := s.out
  obtain ⟨g, l, e, hb⟩ := w.get m
  exact .cons (.cellN h h1 h2 h3 (l _ _ hb) hk hl) (hs lo n H F w)
end
theorem Ent.add {A : List Item} {i : Item} (h : ∀ F g, Sat F A g → i.P F nilH) : Ent A (i :: A) := fun F g s => ⟨nilH, g, .nil, Heap.nil_le, .refl _, h F g s, s⟩
theorem kr {p : Prop} (h : p := by kernel_rfl) : p := h
abbrev r1 : List Nat := [0]
abbrev f1 : List Bool := [false]
abbrev r2 : List Nat := [0, 1]
abbrev f2 : List Bool := [false, false]
abbrev r3 : List Nat := [0, 1, 2]
abbrev r4 : List Nat := [0, 1, 2, 3]
abbrev r5 : List Nat := [0, 1, 2, 3, 4]
abbrev r6 : List Nat := [0, 1, 2, 3, 4, 5]
abbrev f6 : List Bool := [false, false, false, false, false, false]
abbrev r7 : List Nat := [0, 1, 2, 3, 4, 5, 6]
abbrev f7 : List Bool := [false, false, false, false, false, false, false]
abbrev r8 : List Nat := [0, 1, 2, 3, 4, 5, 6, 7]
abbrev f8 : List Bool := [false, false, false, false, false, false, false, false]
abbrev r9 : List Nat := [0, 1, 2, 3, 4, 5, 6, 7, 8]
abbrev f9 : List Bool := [false, false, false, false, false, false, false, false, false]
abbrev r10 : List Nat := [0, 1, 2, 3, 4, 5, 6, 7, 8, 9]
abbrev f10 : List Bool := [false, false, false, false, false, false, false, false, false, false]
abbrev r11 : List Nat := [0, 1, 2, 3, 4, 5, 6, 7, 8, 9, 10]
abbrev f11 : List Bool := [false, false, false, false, false, false, false, false, false, false, false]
abbrev r12 : List Nat := [0, 1, 2, 3, 4, 5, 6, 7, 8, 9, 10, 11]
abbrev f12 : List Bool := [false, false, false, false, false, false, false, false, false, false, false, false]
abbrev r13 : List Nat := [0, 1, 2, 3, 4, 5, 6, 7, 8, 9, 10, 11, 12]
abbrev f13 : List Bool := [false, false, false, false, false, false, false, false, false, false, false, false, false]
abbrev r14 : List Nat := [0, 1, 2, 3, 4, 5, 6, 7, 8, 9, 10, 11, 12, 13]
abbrev f14 : List Bool := [false, false, false, false, false, false, false, false, false, false, false, false, false, false]
abbrev r15 : List Nat := [0, 1, 2, 3, 4, 5, 6, 7, 8, 9, 10, 11, 12, 13, 14]
abbrev f15 : List Bool := [false, false, false, false, false, false, false, false, false, false, false, false, false, false, false]
abbrev r16 : List Nat := [0, 1, 2, 3, 4, 5, 6, 7, 8, 9, 10, 11, 12, 13, 14, 15]
abbrev r17 : List Nat := [0, 1, 2, 3, 4, 5, 6, 7, 8, 9, 10, 11, 12, 13, 14, 15, 16]
abbrev f17 : List Bool := [false, false, false, false, false, false, false, false, false, false, false, false, false, false, false, false, false]
abbrev r18 : List Nat := [0, 1, 2, 3, 4, 5, 6, 7, 8, 9, 10, 11, 12, 13, 14, 15, 16, 17]
abbrev f18 : List Bool := [false, false, false, false, false, false, false, false, false, false, false, false, false, false, false, false, false, false]
abbrev r19 : List Nat := [0, 1, 2, 3, 4, 5, 6, 7, 8, 9, 10, 11, 12, 13, 14, 15, 16, 17, 18]
abbrev f19 : List Bool := [false, false, false, false, false, false, false, false, false, false, false, false, false, false, false, false, false, false, false]
abbrev r20 : List Nat := [0, 1, 2, 3, 4, 5, 6, 7, 8, 9, 10, 11, 12, 13, 14, 15, 16, 17, 18, 19]
abbrev r21 : List Nat := [0, 1, 2, 3, 4, 5, 6, 7, 8, 9, 10, 11, 12, 13, 14, 15, 16, 17, 18, 19, 20]
abbrev r22 : List Nat := [0, 1, 2, 3, 4, 5, 6, 7, 8, 9, 10, 11, 12, 13, 14, 15, 16, 17, 18, 19, 20, 21]
abbrev r23 : List Nat := [0, 1, 2, 3, 4, 5, 6, 7, 8, 9, 10, 11, 12, 13, 14, 15, 16, 17, 18, 19, 20, 21, 22]
abbrev r24 : List Nat := [0, 1, 2, 3, 4, 5, 6, 7, 8, 9, 10, 11, 12, 13, 14, 15, 16, 17, 18, 19, 20, 21, 22, 23]
theorem mP {p : Prop} (h : p := by (conv => lhs; simp only [r1, r2, r3, r4, r5, r6, r7, r8, r9, r10, r11, r12, r13, r14, r15, r16, r17, r18, r19, r20, r21, r22, r23, r24, List.map_cons, List.map_nil, List.getD_cons_zero, List.getD_cons_succ]) <;> rfl) : p := h
theorem fl1 {fr : Fr} {t0 : Nat} {v0 : Value} (h0 : fr.get t0 = some v0 := by rfl) : Fr.le [(t0, v0)] fr := (Fr.le_cons h0 Fr.le_nil)
theorem fl2 {fr : Fr} {t0 : Nat} {v0 : Value} {t1 : Nat} {v1 : Value} (h0 : fr.get t0 = some v0 := by rfl) (h1 : fr.get t1 = some v1 := by rfl) : Fr.le [(t0, v0), (t1, v1)] fr := (Fr.le_cons h0 (Fr.le_cons h1 Fr.le_nil))
theorem fl3 {fr : Fr} {t0 : Nat} {v0 : Value} {t1 : Nat} {v1 : Value} {t2 : Nat} {v2 : Value} (h0 : fr.get t0 = some v0 := by rfl) (h1 : fr.get t1 = some v1 := by rfl) (h2 : fr.get t2 = some v2 := by rfl) : Fr.le [(t0, v0), (t1, v1), (t2, v2)] fr := (Fr.le_cons h0 (Fr.le_cons h1 (Fr.le_cons h2 Fr.le_nil)))
theorem fl4 {fr : Fr} {t0 : Nat} {v0 : Value} {t1 : Nat} {v1 : Value} {t2 : Nat} {v2 : Value} {t3 : Nat} {v3 : Value} (h0 : fr.get t0 = some v0 := by rfl) (h1 : fr.get t1 = some v1 := by rfl) (h2 : fr.get t2 = some v2 := by rfl) (h3 : fr.get t3 = some v3 := by rfl) : Fr.le [(t0, v0), (t1, v1), (t2, v2), (t3, v3)] fr := (Fr.le_cons h0 (Fr.le_cons h1 (Fr.le_cons h2 (Fr.le_cons h3 Fr.le_nil))))
theorem fl5 {fr : Fr} {t0 : Nat} {v0 : Value} {t1 : Nat} {v1 : Value} {t2 : Nat} {v2 : Value} {t3 : Nat} {v3 : Value} {t4 : Nat} {v4 : Value} (h0 : fr.get t0 = some v0 := by rfl) (h1 : fr.get t1 = some v1 := by rfl) (h2 : fr.get t2 = some v2 := by rfl) (h3 : fr.get t3 = some v3 := by rfl) (h4 : fr.get t4 = some v4 := by rfl) : Fr.le [(t0, v0), (t1, v1), (t2, v2), (t3, v3), (t4, v4)] fr := (Fr.le_cons h0 (Fr.le_cons h1 (Fr.le_cons h2 (Fr.le_cons h3 (Fr.le_cons h4 Fr.le_nil)))))
theorem fl6 {fr : Fr} {t0 : Nat} {v0 : Value} {t1 : Nat} {v1 : Value} {t2 : Nat} {v2 : Value} {t3 : Nat} {v3 : Value} {t4 : Nat} {v4 : Value} {t5 : Nat} {v5 : Value} (h0 : fr.get t0 = some v0 := by rfl) (h1 : fr.get t1 = some v1 := by rfl) (h2 : fr.get t2 = some v2 := by rfl) (h3 : fr.get t3 = some v3 := by rfl) (h4 : fr.get t4 = some v4 := by rfl) (h5 : fr.get t5 = some v5 := by rfl) : Fr.le [(t0, v0), (t1, v1), (t2, v2), (t3, v3), (t4, v4), (t5, v5)] fr := (Fr.le_cons h0 (Fr.le_cons h1 (Fr.le_cons h2 (Fr.le_cons h3 (Fr.le_cons h4 (Fr.le_cons h5 Fr.le_nil))))))
theorem fl7 {fr : Fr} {t0 : Nat} {v0 : Value} {t1 : Nat} {v1 : Value} {t2 : Nat} {v2 : Value} {t3 : Nat} {v3 : Value} {t4 : Nat} {v4 : Value} {t5 : Nat} {v5 : Value} {t6 : Nat} {v6 : Value} (h0 : fr.get t0 = some v0 := by rfl) (h1 : fr.get t1 = some v1 := by rfl) (h2 : fr.get t2 = some v2 := by rfl) (h3 : fr.get t3 = some v3 := by rfl) (h4 : fr.get t4 = some v4 := by rfl) (h5 : fr.get t5 = some v5 := by rfl) (h6 : fr.get t6 = some v6 := by rfl) : Fr.le [(t0, v0), (t1, v1), (t2, v2), (t3, v3), (t4, v4), (t5, v5), (t6, v6)] fr := (Fr.le_cons h0 (Fr.le_cons h1 (Fr.le_cons h2 (Fr.le_cons h3 (Fr.le_cons h4 (Fr.le_cons h5 (Fr.le_cons h6 Fr.le_nil)))))))
theorem fl8 {fr : Fr} {t0 : Nat} {v0 : Value} {t1 : Nat} {v1 : Value} {t2 : Nat} {v2 : Value} {t3 : Nat} {v3 : Value} {t4 : Nat} {v4 : Value} {t5 : Nat} {v5 : Value} {t6 : Nat} {v6 : Value} {t7 : Nat} {v7 : Value} (h0 : fr.get t0 = some v0 := by rfl) (h1 : fr.get t1 = some v1 := by rfl) (h2 : fr.get t2 = some v2 := by rfl) (h3 : fr.get t3 = some v3 := by rfl) (h4 : fr.get t4 = some v4 := by rfl) (h5 : fr.get t5 = some v5 := by rfl) (h6 : fr.get t6 = some v6 := by rfl) (h7 : fr.get t7 = some v7 := by rfl) : Fr.le [(t0, v0), (t1, v1), (t2, v2), (t3, v3), (t4, v4), (t5, v5), (t6, v6), (t7, v7)] fr := (Fr.le_cons h0 (Fr.le_cons h1 (Fr.le_cons h2 (Fr.le_cons h3 (Fr.le_cons h4 (Fr.le_cons h5 (Fr.le_cons h6 (Fr.le_cons h7 Fr.le_nil))))))))
theorem fl9 {fr : Fr} {t0 : Nat} {v0 : Value} {t1 : Nat} {v1 : Value} {t2 : Nat} {v2 : Value} {t3 : Nat} {v3 : Value} {t4 : Nat} {v4 : Value} {t5 : Nat} {v5 : Value} {t6 : Nat} {v6 : Value} {t7 : Nat} {v7 : Value} {t8 : Nat} {v8 : Value} (h0 : fr.get t0 = some v0 := by rfl) (h1 : fr.get t1 = some v1 := by rfl) (h2 : fr.get t2 = some v2 := by rfl) (h3 : fr.get t3 = some v3 := by rfl) (h4 : fr.get t4 = some v4 := by rfl) (h5 : fr.get t5 = some v5 := by rfl) (h6 : fr.get t6 = some v6 := by rfl) (h7 : fr.get t7 = some v7 := by rfl) (h8 : fr.get t8 = some v8 := by rfl) : Fr.le [(t0, v0), (t1, v1), (t2, v2), (t3, v3), (t4, v4), (t5, v5), (t6, v6), (t7, v7), (t8, v8)] fr := (Fr.le_cons h0 (Fr.le_cons h1 (Fr.le_cons h2 (Fr.le_cons h3 (Fr.le_cons h4 (Fr.le_cons h5 (Fr.le_cons h6 (Fr.le_cons h7 (Fr.le_cons h8 Fr.le_nil)))))))))
theorem fl10 {fr : Fr} {t0 : Nat} {v0 : Value} {t1 : Nat} {v1 : Value} {t2 : Nat} {v2 : Value} {t3 : Nat} {v3 : Value} {t4 : Nat} {v4 : Value} {t5 : Nat} {v5 : Value} {t6 : Nat} {v6 : Value} {t7 : Nat} {v7 : Value} {t8 : Nat} {v8 : Value} {t9 : Nat} {v9 : Value} (h0 : fr.get t0 = some v0 := by rfl) (h1 : fr.get t1 = some v1 := by rfl) (h2 : fr.get t2 = some v2 := by rfl) (h3 : fr.get t3 = some v3 := by rfl) (h4 : fr.get t4 = some v4 := by rfl) (h5 : fr.get t5 = some v5 := by rfl) (h6 : fr.get t6 = some v6 := by rfl) (h7 : fr.get t7 = some v7 := by rfl) (h8 : fr.get t8 = some v8 := by rfl) (h9 : fr.get t9 = some v9 := by rfl) : Fr.le [(t0, v0), (t1, v1), (t2, v2), (t3, v3), (t4, v4), (t5, v5), (t6, v6), (t7, v7), (t8, v8), (t9, v9)] fr := (Fr.le_cons h0 (Fr.le_cons h1 (Fr.le_cons h2 (Fr.le_cons h3 (Fr.le_cons h4 (Fr.le_cons h5 (Fr.le_cons h6 (Fr.le_cons h7 (Fr.le_cons h8 (Fr.le_cons h9 Fr.le_nil))))))))))
theorem d1 {x0 : Item} {A : List Item} : Sl (x0 :: A) A := .d (.e)
theorem d2 {x0 x1 : Item} {A : List Item} : Sl (x0 :: x1 :: A) A := .d (.d (.e))
theorem d3 {x0 x1 x2 : Item} {A : List Item} : Sl (x0 :: x1 :: x2 :: A) A := .d (.d (.d (.e)))
theorem d4 {x0 x1 x2 x3 : Item} {A : List Item} : Sl (x0 :: x1 :: x2 :: x3 :: A) A := .d (.d (.d (.d (.e))))
theorem d5 {x0 x1 x2 x3 x4 : Item} {A : List Item} : Sl (x0 :: x1 :: x2 :: x3 :: x4 :: A) A := .d (.d (.d (.d (.d (.e)))))
theorem d6 {x0 x1 x2 x3 x4 x5 : Item} {A : List Item} : Sl (x0 :: x1 :: x2 :: x3 :: x4 :: x5 :: A) A := .d (.d (.d (.d (.d (.d (.e))))))
theorem d7 {x0 x1 x2 x3 x4 x5 x6 : Item} {A : List Item} : Sl (x0 :: x1 :: x2 :: x3 :: x4 :: x5 :: x6 :: A) A := .d (.d (.d (.d (.d (.d (.d (.e)))))))
theorem d8 {x0 x1 x2 x3 x4 x5 x6 x7 : Item} {A : List Item} : Sl (x0 :: x1 :: x2 :: x3 :: x4 :: x5 :: x6 :: x7 :: A) A := .d (.d (.d (.d (.d (.d (.d (.d (.e))))))))
theorem d10 {x0 x1 x2 x3 x4 x5 x6 x7 x8 x9 : Item} {A : List Item} : Sl (x0 :: x1 :: x2 :: x3 :: x4 :: x5 :: x6 :: x7 :: x8 :: x9 :: A) A := .d (.d (.d (.d (.d (.d (.d (.d (.d (.d (.e))))))))))
theorem d11 {x0 x1 x2 x3 x4 x5 x6 x7 x8 x9 x10 : Item} {A : List Item} : Sl (x0 :: x1 :: x2 :: x3 :: x4 :: x5 :: x6 :: x7 :: x8 :: x9 :: x10 :: A) A := .d (.d (.d (.d (.d (.d (.d (.d (.d (.d (.d (.e)))))))))))
theorem d12 {x0 x1 x2 x3 x4 x5 x6 x7 x8 x9 x10 x11 : Item} {A : List Item} : Sl (x0 :: x1 :: x2 :: x3 :: x4 :: x5 :: x6 :: x7 :: x8 :: x9 :: x10 :: x11 :: A) A := .d (.d (.d (.d (.d (.d (.d (.d (.d (.d (.d (.d (.e))))))))))))
theorem d16 {x0 x1 x2 x3 x4 x5 x6 x7 x8 x9 x10 x11 x12 x13 x14 x15 : Item} {A : List Item} : Sl (x0 :: x1 :: x2 :: x3 :: x4 :: x5 :: x6 :: x7 :: x8 :: x9 :: x10 :: x11 :: x12 :: x13 :: x14 :: x15 :: A) A := .d (.d (.d (.d (.d (.d (.d (.d (.d (.d (.d (.d (.d (.d (.d (.d (.e))))))))))))))))
theorem d21 {x0 x1 x2 x3 x4 x5 x6 x7 x8 x9 x10 x11 x12 x13 x14 x15 x16 x17 x18 x19 x20 : Item} {A : List Item} : Sl (x0 :: x1 :: x2 :: x3 :: x4 :: x5 :: x6 :: x7 :: x8 :: x9 :: x10 :: x11 :: x12 :: x13 :: x14 :: x15 :: x16 :: x17 :: x18 :: x19 :: x20 :: A) A := .d (.d (.d (.d (.d (.d (.d (.d (.d (.d (.d (.d (.d (.d (.d (.d (.d (.d (.d (.d (.d (.e)))))))))))))))))))))
theorem d28 {x0 x1 x2 x3 x4 x5 x6 x7 x8 x9 x10 x11 x12 x13 x14 x15 x16 x17 x18 x19 x20 x21 x22 x23 x24 x25 x26 x27 : Item} {A : List Item} : Sl (x0 :: x1 :: x2 :: x3 :: x4 :: x5 :: x6 :: x7 :: x8 :: x9 :: x10 :: x11 :: x12 :: x13 :: x14 :: x15 :: x16 :: x17 :: x18 :: x19 :: x20 :: x21 :: x22 :: x23 :: x24 :: x25 :: x26 :: x27 :: A) A := .d (.d (.d (.d (.d (.d (.d (.d (.d (.d (.d (.d (.d (.d (.d (.d (.d (.d (.d (.d (.d (.d (.d (.d (.d (.d (.d (.d (.e))))))))))))))))))))))))))))
end Go.Proofs.YtlpcdcpcfeaecaaAb
end
section
namespace Go.Proofs.YtlpcdcpcfeaecaaAb
open Go
class BsT (P : Program) (s t : TypeId) : Prop where
  out : ∃ el, P.underlying s = some (.slice el) ∧ P.underlying t = some .string ∧ P.underlying el = some (.int .u8)
class Dn (i : Item) : Prop where
  out : ∀ {F F' h : Heap}, F.Le F' → i.P F' h → i.P F h
instance {p : Nat} {c : List Value} : Dn (box p c) := ⟨fun _ h => h⟩
instance {α : Type} [Rp α] [Fl α] {v : Value} {xs : List α} : Dn (ow (rC α) v xs) := ⟨fun {F F' h} hle ⟨u, e, s⟩ => by
  refine ⟨u, e, s.1, s.2.imp id fun ⟨b, k, cap, c, g, o⟩ => ⟨b, k, cap, c, g, o.hv, o.hb, o.hk, o.hcap, o.hg, o.gb, ?_⟩⟩
  exact RL.ofRA o.el.toRA.flat⟩
inductive DnL : List Item → Prop
  | n : DnL []
  | c {i : Item} {A : List Item} (h : Dn i) (t : DnL A) : DnL (i :: A)
theorem DnL.out {A : List Item} (d : DnL A) {F F' : Heap} (hle : F.Le F') : ∀ {h : Heap}, Sat F' A h → Sat F A h := by
  induction d with
  | n => exact fun _ => trivial
  | c h t ih => exact fun ⟨a, b, d, l1, l2, hi, hr⟩ => ⟨a, b, d, l1, l2, h.out hle hi, ih hr⟩
inductive Ln (A : List Item) : List Item → Prop
  | n : Ln A []
  | z {α : Type} [Rp α] {X : Item} {v : Value} {xs : List α} {B : List Item} (m : Mm A X) (c : Rdb X v xs) (t : Ln A B) : Ln A (fz v xs :: B)
  | f {α : Type} {r : Rep α} {v : Value} {xs : List α} {j : Int} {b e : Nat} {cs : List Value} {B : List Item} (m : Mm A (foc r v xs j b e cs)) (hl : cs.length = r.sz) (t : Ln A B) : Ln A (fel b e cs :: B)
  | e {b e : Nat} {cs : List Value} {B : List Item} (m : Mm A (fel b e cs)) (t : Ln A B) : Ln A (fel b e cs :: B)
theorem Ln.out {A B : List Item} (l : Ln A B) {F h : Heap} (d : Dj F h) (s : Sat F A h) : Sat (F.or h) B nilH := by
  induction l with
  | n => trivial
  | @z α _ X v xs B m c t ih =>
    obtain ⟨a, la, hX⟩ := m.get s
    obtain ⟨h0, cs, h1, h2⟩ := c.out (H := F.or h) hX Heap.le_orl (la.trans (Heap.le_orr d))
    exact Sat.ofPers ⟨v, rfl, h0, cs, h1, h2.mono Heap.le_orl⟩ ih
  | @f α r v xs j b e cs B m hl t ih =>
    obtain ⟨a, la, k, cap, c, g1, g2, f⟩ := m.get s
    exact Sat.ofPers ⟨_, c, Heap.le_orr d _ _ (la _ _ f.hb), by rw [hl]; exact f.hcs⟩ ih
  | @e b e cs B m t ih =>
    obtain ⟨a, la, s', c, h1, h2⟩ := m.get s
    exact Sat.ofPers ⟨s', c, Heap.le_orl _ _ h1, h2⟩ ih
section
variable {P : Program} {Δ : Prims} {fr : Fr} {A A1 A' : List Item} {Q : TPost} {fl : List Bool} {all : Array Oper} {l : List Oper} {o : Oper} {d : Nat}
theorem TL.toStr {X : Item} {v : Value} {ys : List UInt8} {s t : TypeId} {x : Operand} (h : (o.op, o.dst, wA all o fr, fr.eval x) = (.convert s t x, some d, some true, some v)) [b : BsT P s t] (mm : Mm A X) [c : Rdb X v ys] (kk : TL P Δ fl.tail all l ((d, str ys) :: fr) A Q) : TL P Δ fl all (o :: l) fr A Q := fun lo n H F w => by
  simp only [Prod.mk.injEq] at h
  obtain ⟨lw, hfl, _, _⟩ := IsFl.tl fl w.low
  obtain ⟨el, t1, t2, t3⟩ := b.out
  obtain ⟨g, lg, hX⟩ := w.get mm
  obtain ⟨h0, cs, h1, h2⟩ := c.out hX w.fh lg
  exact GL.toStr hfl h.1 h.2.1 h.2.2.1 t1 t2 t3 h.2.2.2 (G := H) ⟨h0, cs, h1, h2.mono w.fh⟩ (.refl _) (kk lo n H F w)
theorem TL.isNil {X : Item} {v : Value} {m sz : Nat} {t u : TypeId} {x y : Operand} (h : (o.op, o.dst, wA all o fr, fr.eval x, fr.eval y) = (.binOp .eql t x y u, some d, some true, some v, some (.slice none 0 0))) [s : SlT P t sz] (mm : Mm A X) [c : Hdr X v m]
    (k1 : m = 0 → TL P Δ fl.tail all l ((d, .bool true) :: fr) A Q) (k0 : TL P Δ fl.tail all l ((d, .bool false) :: fr) A Q) : TL P Δ fl all (o :: l) fr A Q := fun lo n H F w => by
  simp only [Prod.mk.injEq] at h
  obtain ⟨lw, hfl, _, _⟩ := IsFl.tl fl w.low
  obtain ⟨el, i, t1, t2, t3⟩ := s.out
  obtain ⟨g, lg, hX⟩ := w.get mm
  rcases c.out hX with ⟨rfl, e⟩ | ⟨b, k, cap, rfl⟩
  · exact WL.eqNil hfl h.1 h.2.1 h.2.2.1 (.inl rfl) t1 h.2.2.2.1 h.2.2.2.2 (k1 e lo n H F w)
  · exact WL.eqNil hfl h.1 h.2.1 h.2.2.1 (.inl rfl) t1 h.2.2.2.1 h.2.2.2.2 (k0 lo n H F w)
theorem TL.callL (g : Env P Δ) {x : Operand} {asx : Array Operand} {ts : Array TypeId} {f : FuncId} {first cap : Array Value} {avs args : List Value} {A0 : List Item} {R : Value → List Item → Prop} {R2 : Value → List Item → Prop} (h : (o.op, o.dst, wA all o fr, fr.eval x) = (.call { callee := .value x, args := asx, argTypes := ts }, some d, some true, some (.func (.func f) first cap))) (ha : asx.toList.mapM fr.eval = some avs) (hargs : first.toList ++ avs ++ cap.toList = args) [c : FnT P f]
    (hl : Ln A A0) (hs : Sp P Δ f args A0 R) (hd : ∀ v A', R v A' → ∃ A2, Ent A' A2 ∧ DnL A2 ∧ R2 v A2) (kk : ∀ v A', R2 v A' → TL P Δ fl.tail all l ((d, v) :: fr) (A' ++ A) Q) : TL P Δ fl all (o :: l) fr A Q := fun lo n H F w => by
  simp only [Prod.mk.injEq] at h
  obtain ⟨lw, hfl, hlw1, hlw2⟩ := IsFl.tl fl w.low
  obtain ⟨fn, h1, h2, h3⟩ := c.out
  obtain ⟨hh, l1, d1, n1, s1⟩ := w.sat
  let S : Nat → Prop := fun i => ((F.or hh) i).isSome = true
  have hFH : (F.or hh).Le H := Heap.or_le w.fh l1
  have hvF : (F.or hh).Le (H.vis n S) := fun i ob hi => by rw [vis_in (show S i by show ((F.or hh) i).isSome = true; rw [hi]; rfl)]; exact hFH i ob hi
  have wc : Wf n n (F.or hh) A0 (H.vis n S) := ⟨Nat.le_refl _, fun k hk => by rw [vis_new hk]; exact w.hb k hk, hvF, nilH, Heap.nil_le, Dj.nil.symm, fun _ _ => rfl, hl.out d1 s1⟩
  refine WL.call hfl n h.1 h.2.1 h.2.2.1 h.2.2.2 ha h1 h2 h3 hlw2 (Nat.le_refl _) ?_
  rw [hargs]
  refine C.mono (C.frame g.good g.framed S (Nat.le_refl _) (hs n n (H.vis n S) _ wc)) fun v n' H' ⟨H1, ⟨G, A', q1, q2, q3⟩, r1, r2, r3, r4, r5, r6⟩ => ?_
  obtain ⟨A2, e1, e2, e3⟩ := hd v A' q3
  obtain ⟨k1, k2, k3, k4, k5⟩ := q2.sat
  have hhH : hh.Le H' := fun i ob hi => by rw [r6 i (Heap.leLt l1 w.hb hi)]; exact l1 i ob hi
  have hFH' : F.Le H' := fun i ob hi => by rw [r6 i (Heap.leLt w.fh w.hb hi)]; exact w.fh i ob hi
  have dG : ∀ {K : Heap}, K.Le (F.or hh) → Dj k1 K := fun {K} hK => (k3.mono (hK.trans q1) (.refl _)).symm
  obtain ⟨e, fr', n2, H2, tr, q⟩ := kk v A2 e3 lo n' H' F ⟨by have := w.low; omega, fun k hk => by rw [r4 k (by omega)]; exact q2.hb k hk, hFH', k1.or hh, Heap.or_le (k2.trans r2) hhH, Dj.orr (dG Heap.le_orl).symm d1, fun k hk => Heap.or_none.2 ⟨k4 k (by have := w.low; omega), n1 k hk⟩, Sat.join (dG (Heap.le_orr d1)) (e2.out (Heap.le_orl.trans q1) (e1 _ _ k5)) s1⟩
  exact ⟨e, fr', n2, H2, tr, q⟩
end
end Go.Proofs.YtlpcdcpcfeaecaaAb
end
section
namespace Go.Proofs.YtlpcdcpcfeaecaaAb
open Go
abbrev Jl := List (Heap → Prop)
def wB (p : Nat) (c : List Value) : Heap → Prop := fun H => ∃ e, H p = some (.row e c)
def wF (b e : Nat) (cs : List Value) : Heap → Prop := fun H => ∃ s c, H b = some (.row s c) ∧ (c.drop e).take cs.length = cs
def wR (b e : Nat) (c : List Value) : Heap → Prop := fun H => H b = some (.row e c)
def wS (v : Value) (sz : Nat) : Heap → Prop := fun H => ∀ b k m cap, v = .slice (some ⟨b, k, none⟩) m cap → ∃ c, H b = some (.row sz c)
def JH (J : Jl) (H : Heap) : Prop := ∀ q ∈ J, q H
def brw (b e : Nat) (c : List Value) : Item := ⟨fun _ h => h b = some (.row e c), fun _ h => h, fun hle h => hle _ _ h⟩
inductive Jm (A : List Item) : Jl → Prop
  | n : Jm A []
  | b {p : Nat} {c : List Value} {J : Jl} (m : Mm A (box p c)) (t : Jm A J) : Jm A (wB p c :: J)
  | f {α : Type} {r : Rep α} {v : Value} {xs : List α} {j : Int} {b e : Nat} {cs : List Value} {J : Jl} (m : Mm A (foc r v xs j b e cs)) (hl : cs.length = r.sz) (t : Jm A J) : Jm A (wF b e cs :: J)
  | r {b e : Nat} {c : List Value} {J : Jl} (m : Mm A (brw b e c)) (t : Jm A J) : Jm A (wR b e c :: J)
  | s {α : Type} [Rp α] {v : Value} {X : Item} {xs : List α} {J : Jl} (m : Mm A X) (c : Rdb X v xs) (t : Jm A J) : Jm A (wS v (Rp.sz α) :: J)
theorem Jm.out {A : List Item} {J : Jl} (j : Jm A J) {lo n : Nat} {F H : Heap} (w : Wf lo n F A H) : JH J H := by
  induction j with
  | n => intro q hq; cases hq
  | b m t ih =>
    intro q hq
    rcases List.mem_cons.1 hq with rfl | hq
    · obtain ⟨g, l, e, h⟩ := w.get m; exact ⟨e, l _ _ h⟩
    · exact ih q hq
  | f m hl t ih =>
    intro q hq
    rcases List.mem_cons.1 hq with rfl | hq
    · obtain ⟨g, l, k, cap, c, g1, g2, f⟩ := w.get m; exact ⟨_, c, l _ _ f.hb, by rw [hl]; exact f.hcs⟩
    · exact ih q hq
  | r m t ih =>
    intro q hq
    rcases List.mem_cons.1 hq with rfl | hq
    · obtain ⟨g, l, h⟩ := w.get m; exact l _ _ h
    · exact ih q hq
  | s m c t ih =>
    intro q hq
    rcases List.mem_cons.1 hq with rfl | hq
    · intro b k mm cap e
      obtain ⟨g, l, h⟩ := w.get m
      obtain ⟨_, cs, hs, _⟩ := c.out h w.fh l
      rcases hs with ⟨e1, _, _⟩ | ⟨b2, k2, cap2, cc, e1, hb, _, _⟩
      · rw [e1] at e; cases e
      · rw [e1] at e; cases e; exact ⟨cc, hb⟩
    · exact ih q hq
inductive Jx : Jl → (Heap → Prop) → Prop
  | z {q : Heap → Prop} {J : Jl} : Jx (q :: J) q
  | s {q x : Heap → Prop} {J : Jl} (h : Jx J q) : Jx (x :: J) q
theorem Jx.mem {J : Jl} {q : Heap → Prop} (j : Jx J q) : q ∈ J := by induction j with
  | z => exact List.mem_cons_self
  | s h ih => exact List.mem_cons_of_mem _ ih
abbrev TI (P : Program) (Δ : Prims) (J : Jl) (n : Nat) (fl : List (Bool × Bool × Bool)) (nde : Bool) (all : Array Oper) (l : List Oper) (fr : Fr) (A : List Item) (Q : TPost) : Prop :=
  ∀ lo H F, Wf lo n F A H → WLI P Δ lo all (JH J) fl nde l fr n H (fun fr' n' H' => Fin lo F Q .norm fr' n' H')
section
variable {P : Program} {Δ : Prims} {J : Jl} {n : Nat} {fr : Fr} {A A1 A' : List Item} {Q : TPost} {fl : List (Bool × Bool × Bool)} {nde nd b : Bool} {all : Array Oper} {l : List Oper} {o : Oper} {d : Nat}
theorem T.regionI {id : Nat} {l : List Oper} (J : Nat → Jl) (r : List Nat) (fl : List (Bool × Bool × Bool)) (nde : Bool) (hrl : r.length = l.length) (hchk : regOK l.toArray r (fun k => (fl.getD k (true, false, false)).1) = true) (hlate : lateB l.toArray r fl nde = true)
    {pl : List Oper} (hpl : r.map (fun i => l.getD i default) = pl) (h : ∀ n, TI P Δ (J n) n fl nde l.toArray pl fr A Q) : T P Δ (.region id l.toArray true) fr A Q := fun lo n H F w => W.regionI (JH (J n)) r fl nde hrl hchk hlate hpl (h n lo H F w)
def Nd (nd : Bool) (A : List Item) (J : Jl) : Prop := nd = true → Jm A J
theorem Nd.f {A : List Item} {J : Jl} : Nd false A J := fun h => by cases h
theorem Nd.t {A : List Item} {J : Jl} {b : Bool} (h : Jm A J) : Nd b A J := fun _ => h
theorem TI.nil (hI : Nd nde A J) (h : Q .norm fr A) : TI P Δ J n [] nde all [] fr A Q := fun lo H F w => WLI.nil (fun e => (hI e).out w) (Fin.mk0 w h)
theorem TI.op (hI : Nd nd A J) (h : TL P Δ [b] all [o] fr A (fun e fr1 A1 => e = .norm ∧ ∀ n', TI P Δ J n' fl nde all l fr1 A1 Q)) : TI P Δ J n ((b, false, nd) :: fl) nde all (o :: l) fr A Q := fun lo H F w => by
  obtain ⟨e, fr', n', H', tr, G, A1, h1, h2, h3, h4⟩ := h lo n H F w
  refine WLI.op (fun e => (hI e).out w) ⟨e, fr', n', H', tr, h3, ?_⟩
  obtain ⟨fr2, n2, H2, t2, q⟩ := h4 n' lo H' G h2
  exact ⟨fr2, n2, H2, t2, Fin.le h1 q⟩
theorem TI.lt {v : Value} (hI : Nd nd A J) (h : (o.dst, wA all o fr) = (some d, some true)) (hs : ∀ {H2 : Heap}, Step P n fr.eval n H2 o v n H2) (k : TI P Δ J n fl nde all l ((d, v) :: fr) A Q) : TI P Δ J n ((false, true, nd) :: fl) nde all (o :: l) fr A Q := fun lo H F w => by
  simp only [Prod.mk.injEq] at h
  exact WLI.late (fun e => (hI e).out w) h.1 h.2 (fun _ _ => hs) (k lo H F w)
theorem TI.lfa {s : TypeId} {x : Operand} {j b k off : Nat} (hI : Nd nd A J) (h : (o.op, o.dst, wA all o fr, fr.eval x) = (.fieldAddr s x j, some d, some true, some (.pointer (some ⟨b, k, none⟩)))) [c : FdT P s j off] (kk : TI P Δ J n fl nde all l ((d, .pointer (some ⟨b, k + off, none⟩)) :: fr) A Q) : TI P Δ J n ((false, true, nd) :: fl) nde all (o :: l) fr A Q := by
  simp only [Prod.mk.injEq] at h
  obtain ⟨fs, f, i, h1, h2, h3, h4, rfl⟩ := c.out
  exact TI.lt hI (by simp [h]) (.fieldAddr h.1 h1 h2 h3 h4 h.2.2.2) kk
theorem TI.lld {t : TypeId} {x : Operand} {b k e m : Nat} {cs : List Value} {v : Value} (hI : Nd nd A J) (h : (o.op, o.dst, wA all o fr, fr.eval x) = (.load t x, some d, some true, some (.pointer (some ⟨b, k, none⟩)))) [s : Sg P t] {α : Type} {r : Rep α} {vv : Value} {xs : List α} {jj : Int} (mm : Mm A (foc r vv xs jj b e cs)) (hl : cs.length = r.sz) (jx : Jx J (wF b e cs)) (hk : k = e + m) (hc : cs[m]? = some v)
    (kk : TI P Δ J n fl nde all l ((d, v) :: fr) A Q) : TI P Δ J n ((false, true, nd) :: fl) nde all (o :: l) fr A Q := fun lo H F w => by
  simp only [Prod.mk.injEq] at h
  obtain ⟨dd, h1, h2⟩ := s.out
  subst hk
  refine WLI.late (fun e => (hI e).out w) h.2.1 h.2.2.1 (fun H2 hh => ?_) (kk lo H F w)
  have : wF b e cs H2 := by
    rcases hh with rfl | hh
    · obtain ⟨g, l, k, cap, c, g1, g2, f⟩ := w.get mm; exact ⟨_, c, l _ _ f.hb, by rw [hl]; exact f.hcs⟩
    · exact hh _ jx.mem
  obtain ⟨s', c, hb, hw⟩ := this
  exact .load1 h.1 h1 h2 h.2.2.2 hb ((win_get hw (List.getElem?_eq_some_iff.1 hc).1).trans hc)
theorem TI.llb {t : TypeId} {x : Operand} {p k : Nat} {c : List Value} {v : Value} (hI : Nd nd A J) (h : (o.op, o.dst, wA all o fr, fr.eval x) = (.load t x, some d, some true, some (.pointer (some ⟨p, k, none⟩)))) [s : Sg P t] (mm : Mm A (box p c)) (jx : Jx J (wB p c)) (hc : c[k]? = some v)
    (kk : TI P Δ J n fl nde all l ((d, v) :: fr) A Q) : TI P Δ J n ((false, true, nd) :: fl) nde all (o :: l) fr A Q := fun lo H F w => by
  simp only [Prod.mk.injEq] at h
  obtain ⟨dd, h1, h2⟩ := s.out
  refine WLI.late (fun e => (hI e).out w) h.2.1 h.2.2.1 (fun H2 hh => ?_) (kk lo H F w)
  have : wB p c H2 := by
    rcases hh with rfl | hh
    · obtain ⟨g, l, e, h⟩ := w.get mm; exact ⟨e, l _ _ h⟩
    · exact hh _ jx.mem
  obtain ⟨e, hb⟩ := this
  exact .load1 h.1 h1 h2 h.2.2.2 hb hc
theorem TI.llr {t : TypeId} {x : Operand} {p k e : Nat} {c : List Value} {v : Value} (hI : Nd nd A J) (h : (o.op, o.dst, wA all o fr, fr.eval x) = (.load t x, some d, some true, some (.pointer (some ⟨p, k, none⟩)))) [s : Sg P t] (mm : Mm A (brw p e c)) (jx : Jx J (wR p e c)) (hc : c[k]? = some v)
    (kk : TI P Δ J n fl nde all l ((d, v) :: fr) A Q) : TI P Δ J n ((false, true, nd) :: fl) nde all (o :: l) fr A Q := fun lo H F w => by
  simp only [Prod.mk.injEq] at h
  obtain ⟨dd, h1, h2⟩ := s.out
  refine WLI.late (fun e => (hI e).out w) h.2.1 h.2.2.1 (fun H2 hh => ?_) (kk lo H F w)
  have hb : wR p e c H2 := by
    rcases hh with rfl | hh
    · obtain ⟨g, l, h⟩ := w.get mm; exact l _ _ h
    · exact hh _ jx.mem
  exact .load1 h.1 h1 h2 h.2.2.2 hb hc
theorem TI.lln {t : TypeId} {x : Operand} {v : Value} {m sz : Nat} {X : Item} (hI : Nd nd A J) (h : (o.op, o.dst, wA all o fr, fr.eval x) = (.call { callee := .builtin .len, args := #[x], argTypes := #[t] }, some d, some true, some v)) [s : SlT P t sz] (mm : Mm A X) [hd : Hdr X v m]
    (kk : TI P Δ J n fl nde all l ((d, .int .i64 m) :: fr) A Q) : TI P Δ J n ((false, true, nd) :: fl) nde all (o :: l) fr A Q := fun lo H F w => by
  simp only [Prod.mk.injEq] at h
  obtain ⟨el, i, h1, _, _⟩ := s.out
  obtain ⟨g, l, hX⟩ := w.get mm
  rcases hd.out hX with ⟨rfl, rfl⟩ | ⟨b, k, cap, rfl⟩
  · exact WLI.late (fun e => (hI e).out w) h.2.1 h.2.2.1 (fun H2 _ => .len h.1 h1 h.2.2.2) (kk lo H F w)
  · exact WLI.late (fun e => (hI e).out w) h.2.1 h.2.2.1 (fun H2 _ => .len h.1 h1 h.2.2.2) (kk lo H F w)
theorem TI.llit {α : Type} [Rp α] {t : TypeId} {len sz : Nat} {ps : Array (Nat × Operand)} {vs cs : List Value} (hI : Nd nd A J) (h : (o.op, o.dst, wA all o fr) = (.buildSlice t len ps, some d, some true)) [s : LtT P t sz] (hp : ps.toList.mapM (fun p => fr.eval p.2) = some vs) (hix : ps.toList.map (·.1) = List.range' 0 len) (hcs : vs.flatMap Cells = cs)
    (h1 : ∀ v ∈ cs, v.oneCell' = true) (jx : Jx J (wR n sz cs)) (kk : TI P Δ J (n + 1) fl nde all l ((d, .slice (some ⟨n, 0, none⟩) len len) :: fr) (brw n sz cs :: A) Q) (hvs : vs.map (fun v => (Cells v).length) = List.replicate len sz := by rfl) (hlen : len * sz ≤ 16777216 ∧ len < 1000000 := by decide) : TI P Δ J n ((false, true, nd) :: fl) nde all (o :: l) fr A Q := fun lo H F w => by
  simp only [Prod.mk.injEq] at h
  obtain ⟨el, i, z, t1, t2, t3, t4, t5, t6, t7, rfl⟩ := s.out
  have hstep : ∀ H0 : Heap, StepM P n fr.eval n H0 o (.slice (some ⟨n, 0, none⟩) len len) (n + 1) (H0.set n (.row i.size cs)) := fun H0 => StepM.litL h.1 t1 t2 t3 t4 t5 hlen.1 hlen.2 hp hix hvs hcs h1
  refine WLI.lateX (fun e => (hI e).out w) h.2.1 h.2.2 (.inr (hstep H)) (fun H2 h2 => .inr ?_) (kk lo _ F (w.new (show (brw n i.size cs).P F _ from oneH_same)))
  have h3 := hstep (H2.rm n (n + 1))
  have e : (H2.rm n (n + 1)).set n (.row i.size cs) = H2 := by
    funext k
    by_cases hk : k = n
    · subst hk; rw [Heap.set_same]; exact (h2 _ jx.mem).symm
    · rw [Heap.set_ne _ _ hk]; simp only [Heap.rm]; rw [if_neg (by omega)]
  rw [e] at h3; exact h3
theorem TI.lmk {t : TypeId} {sz : Nat} {x y : Operand} {q q' : IntKind} {m : Int} {zc : List Value} (hI : Nd nd A J) (h : (o.op, o.dst, wA all o fr, fr.eval x, fr.eval y) = (.makeSlice t x y, some d, some true, some (.int q m), some (.int q' m))) [s : LtT P t sz] [sz' : ZrT P t zc] (hm0 : 0 ≤ m) (hm : m ≤ 68719476736)
    (jx : Jx J (wR n sz (List.replicate m.toNat zc).flatten)) (kk : TI P Δ J (n + 1) fl nde all l ((d, .slice (some ⟨n, 0, none⟩) m.toNat m.toNat) :: fr) (brw n sz (List.replicate m.toNat zc).flatten :: A) Q) : TI P Δ J n ((false, true, nd) :: fl) nde all (o :: l) fr A Q := fun lo H F w => by
  simp only [Prod.mk.injEq] at h
  obtain ⟨el, i, z, t1, t2, t3, t4, t5, t6, t7, rfl⟩ := s.out
  obtain ⟨el2, i2, z2, u1, u2, u3, rfl⟩ := sz'.out
  rw [t1] at u1; cases u1
  rw [t2] at u2; cases u2
  rw [t3] at u3; cases u3
  have hmn : ((m.toNat : Nat) : Int) = m := Int.toNat_of_nonneg hm0
  have hstep : ∀ H0 : Heap, StepM P n fr.eval n H0 o (.slice (some ⟨n, 0, none⟩) m.toNat m.toNat) (n + 1) (H0.set n (.row i.size (List.replicate m.toNat (Cells z)).flatten)) := fun H0 =>
    .make h.1 t1 t2 t3 t5 t7 (fun v hv => grZ_spec (List.all_eq_true.1 t4 v hv)) (by rw [hmn]; exact h.2.2.2.1) (by rw [hmn]; exact h.2.2.2.2) (Nat.le_refl _) (Nat.le_trans (Nat.mul_le_mul t6 (show m.toNat ≤ 68719476736 by omega)) (by decide)) (by unfold UNK; omega)
  refine WLI.lateX (fun e => (hI e).out w) h.2.1 h.2.2.1 (.inr (hstep H)) (fun H2 h2 => .inr ?_) (kk lo _ F (w.new (show (brw n i.size _).P F _ from oneH_same)))
  have h3 := hstep (H2.rm n (n + 1))
  have e : (H2.rm n (n + 1)).set n (.row i.size (List.replicate m.toNat (Cells z)).flatten) = H2 := by
    funext k
    by_cases hk : k = n
    · subst hk; rw [Heap.set_same]; exact (h2 _ jx.mem).symm
    · rw [Heap.set_ne _ _ hk]; simp only [Heap.rm]; rw [if_neg (by omega)]
  rw [e] at h3; exact h3
theorem Gh.brw {α : Type} {r : Rep α} {xs : List α} {b len : Nat} {cs : List Value} (p : Pk A (brw b r.sz cs) A1) (hl : xs.length = len) (hlt : len < UNK) (hR : ∀ F, RL r F cs xs nilH) : Gh A (ow r (.slice (some ⟨b, 0, none⟩) len len) xs :: A1) := .ent (p.ent.trans (Ent.rep fun F a h => ⟨_, rfl, by
  have := OS.new (r := r) (F := F) (g := nilH) (n := b) (len := len) (cap := len) (xs := xs) hl.symm hlt (.inl ⟨rfl, hlt⟩) rfl (hR F)
  exact this.up (Heap.or_le (oneH_le h) Heap.nil_le)⟩))
instance hdrC {X : Item} {b k m cap : Nat} : Hdr X (.slice (some ⟨b, k, none⟩) m cap) m := ⟨fun _ => .inr ⟨b, k, cap, rfl⟩⟩
end
end Go.Proofs.YtlpcdcpcfeaecaaAb
end
section
namespace Go.Proofs.YtlpcdcpcfeaecaaAb
open Go
section
variable {α : Type} [Rp α] {xs : List α} {F H : Heap} {v : Value} {lo n : Nat}
theorem OS.ow {a : Heap} (s : OS (rC α) F v xs a) (la : a.Le H) (hb : ∀ k, n ≤ k → H k = none) (na : ∀ k, k < lo → a k = none) (fa : Dj F a) : OW lo n H F v xs := by
  obtain ⟨cs, g, o, l, m, b⟩ := s.own la hb na
  refine ⟨s.1, fun i hi => ?_, cs, o, l.toRA⟩
  obtain ⟨_, h⟩ := b i hi
  rcases fa i with e | e
  · exact e
  · exact absurd e h
theorem OW.os (o : OW lo n H F v xs) : ∃ a : Heap, a.Le H ∧ Dj F a ∧ (∀ k, k < lo → a k = none) ∧ (∀ k, a k ≠ none → idOf v = some k) ∧ OS (rC α) F v xs a := by
  obtain ⟨h0, hf, cs, hs, hra⟩ := o
  rcases hs with ⟨rfl, e1, e2⟩ | ⟨b, k, cap, c, rfl, hb, hc, hcl, hlo, hbn, hk, hcap⟩
  · exact ⟨nilH, Heap.nil_le, Dj.nil.symm, fun _ _ => rfl, fun k h => absurd rfl h, h0, .inl ⟨rfl, List.eq_nil_of_length_eq_zero e1⟩⟩
  · refine ⟨oneH b (.row (Rp.sz α) c), oneH_le hb, (Dj.one.2 (hf b rfl)).symm, fun q hq => ?_, fun q hq => ?_, h0, .inr ⟨b, k, cap, c, nilH, rfl, oneH_same, hk, hcap, Heap.nil_le, rfl, RL.ofRA ?_⟩⟩
    · unfold oneH; rw [if_neg (by omega)]
    · unfold oneH at hq
      by_cases e : q = b
      · subst e; rfl
      · rw [if_neg e] at hq; exact absurd rfl hq
    · show RA F ((c.drop k).take (xs.length * Rp.sz α)) xs
      rw [hc]; exact hra
end
section
variable {P : Program} {Δ : Prims} {fr : Fr} {A A1 A' : List Item} {Q : TPost} {fl : List Bool} {all : Array Oper} {l : List Oper} {o : Oper} {d : Nat}
variable {α : Type} [Rp α] {xs res : List α}
theorem TL.callN (g : Env P Δ) {x : Operand} {asx : Array Operand} {ts : Array TypeId} {f : FuncId} {first cap : Array Value} {avs args : List Value} (h : (o.op, o.dst, wA all o fr, fr.eval x) = (.call { callee := .value x, args := asx, argTypes := ts }, some d, some true, some (.func (.func f) first cap))) (ha : asx.toList.mapM fr.eval = some avs) (hargs : first.toList ++ avs ++ cap.toList = args) [c : FnT P f]
    (hs : ∀ lo n H F, Wf lo n F A H → C P Δ n f args n H (fun v n' H' => St n n' H' F ∧ OW n n' H' F v res)) (kk : ∀ v, TL P Δ fl.tail all l ((d, v) :: fr) (ow (rC α) v res :: A) Q) : TL P Δ fl all (o :: l) fr A Q := fun lo n H F w => by
  simp only [Prod.mk.injEq] at h
  obtain ⟨lw, hfl, hlw1, hlw2⟩ := IsFl.tl fl w.low
  obtain ⟨fn, h1, h2, h3⟩ := c.out
  obtain ⟨hh, l1, d1, n1, s1⟩ := w.sat
  refine WL.call hfl n h.1 h.2.1 h.2.2.1 h.2.2.2 ha h1 h2 h3 hlw2 (Nat.le_refl _) ?_
  rw [hargs]
  refine C.use g.good (Nat.le_refl _) (hs lo n H F w) fun v n' H' ab ⟨hS, hO⟩ => ?_
  obtain ⟨a, la, fa, na, _, os⟩ := hO.os
  have keep : hh.Le H' := fun i ob hi => by rw [ab.2.1 i (Heap.leLt l1 w.hb hi)]; exact l1 i ob hi
  have da : Dj a hh := fun i => by
    rcases Nat.lt_or_ge i n with hi | hi
    · exact .inl (na i hi)
    · exact .inr (l1.none (w.hb i hi))
  exact kk v lo n' H' F ⟨by have := w.low; have := ab.1; omega, hS.hb, hS.fh, a.or hh, Heap.or_le la keep, Dj.orr fa d1, fun k hk => Heap.or_none.2 ⟨na k (by have := w.low; omega), n1 k hk⟩, a, hh, da, Heap.le_orl, Heap.le_orr da, ⟨v, rfl, os⟩, s1⟩
theorem TL.callD {x : Operand} {asx : Array Operand} {ts : Array TypeId} {f : FuncId} {first cap : Array Value} {avs args : List Value} {wv : Value} (h : (o.op, o.dst, wA all o fr, fr.eval x) = (.call { callee := .value x, args := asx, argTypes := ts }, some d, some true, some (.func (.func f) first cap))) (ha : asx.toList.mapM fr.eval = some avs) (hargs : first.toList ++ avs ++ cap.toList = args) [c : FnT P f] (p : Pk A (ow (rC α) wv xs) A1)
    (hs : ∀ lo n H F, St lo n H F → OW lo n H F wv xs → C P Δ lo f args n H (fun v n' H' => n' = n ∧ St lo n H' F ∧ OW lo n H' F v res ∧ (∀ i, idOf wv ≠ some i → H' i = H i) ∧ ∀ b, idOf v = some b → idOf wv = some b)) (kk : ∀ v, TL P Δ fl.tail all l ((d, v) :: fr) (ow (rC α) v res :: A1) Q) (hw : wOK fl = true := by rfl) : TL P Δ fl all (o :: l) fr A Q := fun lo n H F w => by
  simp only [Prod.mk.injEq] at h
  obtain ⟨fn, h1, h2, h3⟩ := c.out
  obtain ⟨a, b, pt⟩ := w.part p
  obtain ⟨u, eu, os⟩ := pt.hi
  obtain rfl : wv = u := by simpa using eu
  refine WL.call (IsFl.wr hw) lo h.1 h.2.1 h.2.2.1 h.2.2.2 ha h1 h2 h3 (Nat.le_refl _) w.low ?_
  rw [hargs]
  refine C.mono (hs lo n H F ⟨w.low, w.hb, w.fh⟩ (os.ow pt.la w.hb pt.na pt.fa)) fun v n' H' ⟨e, hS, hO, hk, hid⟩ => ?_
  subst e
  obtain ⟨a2, la, fa, na, ida, os2⟩ := hO.os
  obtain ⟨_, _, _, _, _, bb⟩ := os.own pt.la w.hb pt.na
  have kb : b.Le H' := fun i ob hi => by
    rw [hk i (fun e => by have := (bb i e).2; rcases pt.d i with h | h; exact this h; rw [h] at hi; cases hi)]; exact pt.lb i ob hi
  have d2 : Dj a2 b := fun i => by
    by_cases e : a2 i = none
    · exact .inl e
    · have := (bb i (hid i (ida i e))).2
      rcases pt.d i with h | h
      · exact absurd h this
      · exact .inr h
  exact kk v lo n' H' F (Part.wf hS.lo hS.hb hS.fh ⟨d2, la, kb, fa, pt.fb, na, pt.nb, ⟨v, rfl, os2⟩, pt.hr⟩)
end
end Go.Proofs.YtlpcdcpcfeaecaaAb
end
section
namespace Go.Proofs.YtlpcdcpcfeaecaaAb
open Go
theorem a26 {x0 x1 x2 x3 x4 x5 x6 x7 x8 x9 x10 x11 x12 x13 x14 x15 x16 x17 x18 x19 x20 x21 x22 x23 x24 x25 i : Item} {r : List Item} : Mm (x0 :: x1 :: x2 :: x3 :: x4 :: x5 :: x6 :: x7 :: x8 :: x9 :: x10 :: x11 :: x12 :: x13 :: x14 :: x15 :: x16 :: x17 :: x18 :: x19 :: x20 :: x21 :: x22 :: x23 :: x24 :: x25 :: i :: r) i := .s (.s (.s (.s (.s (.s (.s (.s (.s (.s (.s (.s (.s (.s (.s (.s (.s (.s (.s (.s (.s (.s (.s (.s (.s (.s (.z))))))))))))))))))))))))))
theorem p28 {x0 x1 x2 x3 x4 x5 x6 x7 x8 x9 x10 x11 x12 x13 x14 x15 x16 x17 x18 x19 x20 x21 x22 x23 x24 x25 x26 x27 i : Item} {r : List Item} : Pk (x0 :: x1 :: x2 :: x3 :: x4 :: x5 :: x6 :: x7 :: x8 :: x9 :: x10 :: x11 :: x12 :: x13 :: x14 :: x15 :: x16 :: x17 :: x18 :: x19 :: x20 :: x21 :: x22 :: x23 :: x24 :: x25 :: x26 :: x27 :: i :: r) i (x0 :: x1 :: x2 :: x3 :: x4 :: x5 :: x6 :: x7 :: x8 :: x9 :: x10 :: x11 :: x12 :: x13 :: x14 :: x15 :: x16 :: x17 :: x18 :: x19 :: x20 :: x21 :: x22 :: x23 :: x24 :: x25 :: x26 :: x27 :: r) := .s (.s (.s (.s (.s (.s (.s (.s (.s (.s (.s (.s (.s (.s (.s (.s (.s (.s (.s (.s (.s (.s (.s (.s (.s (.s (.s (.s (.z))))))))))))))))))))))))))))
theorem p31 {x0 x1 x2 x3 x4 x5 x6 x7 x8 x9 x10 x11 x12 x13 x14 x15 x16 x17 x18 x19 x20 x21 x22 x23 x24 x25 x26 x27 x28 x29 x30 i : Item} {r : List Item} : Pk (x0 :: x1 :: x2 :: x3 :: x4 :: x5 :: x6 :: x7 :: x8 :: x9 :: x10 :: x11 :: x12 :: x13 :: x14 :: x15 :: x16 :: x17 :: x18 :: x19 :: x20 :: x21 :: x22 :: x23 :: x24 :: x25 :: x26 :: x27 :: x28 :: x29 :: x30 :: i :: r) i (x0 :: x1 :: x2 :: x3 :: x4 :: x5 :: x6 :: x7 :: x8 :: x9 :: x10 :: x11 :: x12 :: x13 :: x14 :: x15 :: x16 :: x17 :: x18 :: x19 :: x20 :: x21 :: x22 :: x23 :: x24 :: x25 :: x26 :: x27 :: x28 :: x29 :: x30 :: r) := .s (.s (.s (.s (.s (.s (.s (.s (.s (.s (.s (.s (.s (.s (.s (.s (.s (.s (.s (.s (.s (.s (.s (.s (.s (.s (.s (.s (.s (.s (.s (.z)))))))))))))))))))))))))))))))
theorem p32 {x0 x1 x2 x3 x4 x5 x6 x7 x8 x9 x10 x11 x12 x13 x14 x15 x16 x17 x18 x19 x20 x21 x22 x23 x24 x25 x26 x27 x28 x29 x30 x31 i : Item} {r : List Item} : Pk (x0 :: x1 :: x2 :: x3 :: x4 :: x5 :: x6 :: x7 :: x8 :: x9 :: x10 :: x11 :: x12 :: x13 :: x14 :: x15 :: x16 :: x17 :: x18 :: x19 :: x20 :: x21 :: x22 :: x23 :: x24 :: x25 :: x26 :: x27 :: x28 :: x29 :: x30 :: x31 :: i :: r) i (x0 :: x1 :: x2 :: x3 :: x4 :: x5 :: x6 :: x7 :: x8 :: x9 :: x10 :: x11 :: x12 :: x13 :: x14 :: x15 :: x16 :: x17 :: x18 :: x19 :: x20 :: x21 :: x22 :: x23 :: x24 :: x25 :: x26 :: x27 :: x28 :: x29 :: x30 :: x31 :: r) := .s (.s (.s (.s (.s (.s (.s (.s (.s (.s (.s (.s (.s (.s (.s (.s (.s (.s (.s (.s (.s (.s (.s (.s (.s (.s (.s (.s (.s (.s (.s (.s (.z))))))))))))))))))))))))))))))))
theorem lnE {m n : Nat} (h : m = n := by first | with_reducible rfl | with_reducible assumption | (simp only [sIL]; first | done | with_reducible assumption)) : m = n := h
inductive VL {α : Type} [Rp α] : List Item → List Value → List α → List Item → Prop
  | n {A : List Item} : VL A [] [] A
  | s {A B : List Item} {c cs : List Value} {x : α} {xs : List α} (h : VL A cs xs B) : VL (vl (rC α) c x :: A) (c ++ cs) (x :: xs) B
section
variable {α : Type} [Rp α]
theorem VL.ra {A B : List Item} {cs : List Value} {xs : List α} (v : VL A cs xs B) {F h : Heap} (s : Sat F A h) : RA F cs xs := by
  induction v generalizing h with
  | n => exact .nil
  | s v ih => obtain ⟨a, b, _, _, _, hi, hr⟩ := s; exact .cons hi (ih hr)
theorem VL.sl {A B : List Item} {cs : List Value} {xs : List α} (v : VL A cs xs B) : Sl A B := by
  induction v with
  | n => exact .e
  | s v ih => exact .d ih
variable {P : Program} {Δ : Prims} {fr : Fr} {A A1 : List Item} {Q : TPost} {fl : List Bool} {all : Array Oper} {l : List Oper} {o : Oper} {d : Nat}
theorem TL.litV {xs : List α} {t : TypeId} {len sz : Nat} {ps : Array (Nat × Operand)} {vs cs : List Value} (h : (o.op, o.dst, wA all o fr) = (.buildSlice t len ps, some d, some true)) [s : LtT P t sz] (hp : ps.toList.mapM (fun p => fr.eval p.2) = some vs) (hix : ps.toList.map (·.1) = List.range' 0 len) (hcs : vs.flatMap Cells = cs)
    (hv : VL A cs xs A1) (kk : ∀ v, TL P Δ fl.tail all l ((d, v) :: fr) (ow (rC α) v xs :: A1) Q) (hvs : vs.map (fun v => (Cells v).length) = List.replicate len sz := by rfl) (hxl : xs.length = len := by rfl) (hsz : sz = Rp.sz α := by rfl) (hlen : len * sz ≤ 16777216 ∧ len < 1000000 := by decide) : TL P Δ fl all (o :: l) fr A Q :=
  TL.lit h (s := s) hp hix hcs xs (fun lo n F H w => let ⟨_, _, _, _, e⟩ := w.sat; hv.ra e) (fun v => TL.gh (.sl (.p .z hv.sl)) (kk v)) hvs hxl hsz hlen
theorem Wf.rep {lo n : Nat} {F H a b : Heap} {A B : List Item} (w : Wf lo n F A H) {i j : Item} (p : Part lo n F i B H a b) (hj : j.P F a) : Wf lo n F (j :: B) H :=
  Part.wf w.low w.hb w.fh ⟨p.d, p.la, p.lb, p.fa, p.fb, p.na, p.nb, hj, p.hr⟩
end
section
variable {α : Type} {r : Rep α} {xs ys : List α} {F h : Heap} {cs : List Value}
theorem RL.drop (s : RL r F cs xs h) : ∀ m, RL r F (cs.drop (m * r.sz)) (xs.drop m) h := by
  induction s with
  | nil => intro m; simpa using RL.nil
  | cons d l1 l2 e t ih =>
    intro m
    cases m with
    | zero => simpa using RL.cons d l1 l2 e t
    | succ m =>
      rw [List.drop_succ_cons, List.drop_append, List.drop_eq_nil_of_le (by rw [r.len e, Nat.succ_mul]; omega), List.nil_append, show (m + 1) * r.sz - _ = m * r.sz by rw [r.len e, Nat.succ_mul]; omega]
      exact (ih m).up l2
theorem RL.take (s : RL r F cs xs h) : ∀ m, RL r F (cs.take (m * r.sz)) (xs.take m) h := by
  induction s with
  | nil => intro m; simpa using RL.nil
  | cons d l1 l2 e t ih =>
    intro m
    cases m with
    | zero => simpa using RL.nil
    | succ m =>
      rw [List.take_succ_cons, List.take_append, List.take_of_length_le (by rw [r.len e, Nat.succ_mul]; omega), show (m + 1) * r.sz - _ = m * r.sz by rw [r.len e, Nat.succ_mul]; omega]
      exact .cons d l1 l2 e (ih m)
variable {P : Program} {Δ : Prims} {fr : Fr} {A A1 : List Item} {Q : TPost} {fl : List Bool} {all : Array Oper} {l : List Oper} {o : Oper} {d : Nat}
theorem TL.slt {t : TypeId} {x : Operand} {low high : Option Operand} {v : Value} {sz : Nat} {l' h' : Int} (h : (o.op, o.dst, wA all o fr, fr.eval x) = (.slice t x low high none, some d, some true, some v)) [s : SlT P t sz] (p : Pk A (ow r v xs) A1) (hl : BndI fr.eval low 0 l') (hh : BndI fr.eval high xs.length h') (hy : slc xs l' h' = some ys)
    (kk : ∀ v', TL P Δ fl.tail all l ((d, v') :: fr) (ow r v' ys :: A1) Q) (hsz : sz = r.sz := by rfl) : TL P Δ fl all (o :: l) fr A Q := fun lo n H F w => by
  simp only [Prod.mk.injEq] at h
  obtain ⟨lw, hfl, _, _⟩ := IsFl.tl fl w.low
  obtain ⟨el, i, t1, t2, rfl⟩ := s.out
  obtain ⟨a, b', pt⟩ := w.part p
  obtain ⟨u, eu, os⟩ := pt.hi
  obtain rfl : v = u := by simpa using eu
  obtain ⟨h0, h1, h2, e⟩ := slc_inv hy
  have hl' := hl.nat h0
  have hh' := hh.nat (by omega)
  have elen : ys.length = h'.toNat - l'.toNat := by rw [← e]; simp; omega
  obtain ⟨hlt, ⟨rfl, e1⟩ | ⟨b, k, cap, c, g, q⟩⟩ := os
  · subst e1
    have e3 : h'.toNat = 0 := by simp at h2; omega
    have e4 : l'.toNat = 0 := by omega
    rw [e3] at hh'; rw [e4] at hl'
    have hy0 : ys = [] := List.eq_nil_of_length_eq_zero (by omega)
    subst hy0
    exact WL.sliceNil hfl h.1 h.2.1 h.2.2.1 t1 t2 h.2.2.2 hl' hh' (kk _ lo n H F (w.rep pt ⟨_, rfl, OS.nil⟩))
  · obtain rfl := q.hv
    refine WL.slice hfl h.1 h.2.1 h.2.2.1 t1 t2 h.2.2.2 (pt.la _ _ q.hb) hsz.symm rfl hl' hh' (Nat.le_refl _) (by intro h; cases h) (by omega) (by unfold lb; omega) ?_
    rw [hsz]
    refine kk _ lo n H F (w.rep pt ⟨_, rfl, by omega, .inr ⟨b, k + l'.toNat * r.sz, UNK + (lb xs.length cap - l'.toNat), c, g, ?_⟩⟩)
    have hlen := q.el.length
    rw [List.length_take, List.length_drop] at hlen
    have hle : l'.toNat * r.sz ≤ xs.length * r.sz := Nat.mul_le_mul_right _ (by omega)
    refine ⟨by rw [elen], q.hb, by have := q.hk; omega, .inr (by omega), q.hg, q.gb, ?_⟩
    have := (q.el.take h'.toNat).drop l'.toNat
    rw [e] at this
    rw [List.take_take, Nat.min_eq_left (Nat.mul_le_mul_right _ (by omega)), List.drop_take, List.drop_drop, ← Nat.sub_mul, ← elen] at this
    exact this
theorem TL.appS {xs ys : List UInt8} {t u : TypeId} {x y : Operand} {v : Value} {sz : Nat} (h : (o.op, o.dst, wA all o fr, fr.eval x, fr.eval y) = (.call { callee := .builtin .append, args := #[x, y], argTypes := #[t, u] }, some d, some true, some v, some (str ys))) [s : ApT P t u sz] (p1 : Pk A (ow (rC UInt8) v xs) A1) (hlen : (xs.length : Int) + ys.length ≤ 68719476736)
    (kk : ∀ v', TL P Δ fl.tail all l ((d, v') :: fr) (ow (rC UInt8) v' (xs ++ ys) :: A1) Q) (hsz : sz = 1 := by rfl) (hw : wOK fl = true := by rfl) : TL P Δ fl all (o :: l) fr A Q := fun lo n H F w => by
  simp only [Prod.mk.injEq] at h
  obtain ⟨el, i, z, dd, t1, t2, t3, t4, t5, t6, t7, rfl⟩ := s.out
  have w1 := p1.ent.wf w
  obtain ⟨a, b, pt⟩ := w1.part .z
  obtain ⟨u1, e1, s1⟩ := pt.hi
  obtain rfl : v = u1 := by simpa using e1
  obtain ⟨cs1, g1, o1, l1, m1, b1⟩ := s1.own pt.la w.hb pt.na
  have hsrc : Src P fr.eval H i.size u y ys.length (ys.map u8) := Src.str (s := ⟨ys.toArray⟩) t2 t3 hsz h.2.2.2.2
  have l2 : RA F (ys.map u8) ys := RA.ofSc F ys
  have hsz' : i.size = Rp.sz UInt8 := hsz
  have hlt := s1.1
  by_cases hm : ys.length = 0
  · have hn : ys = [] := List.eq_nil_of_length_eq_zero hm
    subst hn
    obtain ⟨c, cap, hv⟩ := s1.form
    have := kk v lo n H F (by rw [List.append_nil]; exact w1)
    subst hv
    exact WL.append0 (IsFl.wr hw) h.1 h.2.1 h.2.2.1 t1 t4 h.2.2.2.1 hsrc this
  · have hlx : (xs ++ ys).length = xs.length + ys.length := List.length_append
    refine WL.app' (IsFl.wr hw) h.1 h.2.1 h.2.2.1 t1 t4 t5 t6 h.2.2.2.1 (by rw [hsz']; exact o1) hsrc (by omega) l2.one l1.one ?_ (by unfold UNK; omega) (fun H' q1 q2 q3 q4 => ?_) (by rw [hsz']; exact l2.length)
    · have h1 : (xs.length + ys.length) ≤ 68719476736 := by omega
      exact Nat.le_trans (Nat.mul_le_mul h1 t7) (by decide)
    · refine kk _ lo (n + 1) H' F (w.move pt (g := nilH) Heap.nil_le q1 (fun k hk hg => q2 k hk fun hid => ?_) (fun k hk => by rw [q3 k hk]; exact w.hb k (by omega)) ⟨_, rfl, ?_⟩)
      · obtain ⟨x1, x2⟩ := b1 k hid
        rcases hg with hg | hg
        · exact hg rfl
        · exact x2 hg
      · have hs' : i.size = (rC UInt8).sz := hsz'
        rw [hs']
        exact OS.new hlx.symm (by unfold UNK; omega) (.inr (by omega)) rfl (RL.ofRA (l1.toRA.append l2))
variable {J : Jl} {n : Nat} {Q : TPost} {fi : List (Bool × Bool × Bool)} {nde nd : Bool}
theorem TI.stp {v : Value} (hI : Nd nd A J) (h : (o.dst, wA all o fr) = (some d, some true)) (hs : ∀ lo H F, Wf lo n F A H → Step P n fr.eval n H o v n H) (k : TI P Δ J n fi nde all l ((d, v) :: fr) A Q) : TI P Δ J n ((false, false, nd) :: fi) nde all (o :: l) fr A Q := fun lo H F w => by
  simp only [Prod.mk.injEq] at h
  exact WLI.op (fun e => (hI e).out w) (WL.step .r (.step (hs lo H F w)) h.1 h.2 (WL.nil ⟨rfl, k lo H F w⟩))
theorem TI.st0 {v : Value} (hI : Nd nd A J) (h : (o.dst, wA all o fr) = (some d, some true)) (hs : ∀ {H : Heap}, Step P n fr.eval n H o v n H) (k : TI P Δ J n fi nde all l ((d, v) :: fr) A Q) : TI P Δ J n ((false, false, nd) :: fi) nde all (o :: l) fr A Q := TI.stp hI h (fun _ _ _ _ => hs) k
theorem TI.fa0 {s : TypeId} {x : Operand} {j b k off : Nat} (hI : Nd nd A J) (h : (o.op, o.dst, wA all o fr, fr.eval x) = (.fieldAddr s x j, some d, some true, some (.pointer (some ⟨b, k, none⟩)))) [c : FdT P s j off] (kk : TI P Δ J n fi nde all l ((d, .pointer (some ⟨b, k + off, none⟩)) :: fr) A Q) : TI P Δ J n ((false, false, nd) :: fi) nde all (o :: l) fr A Q := by
  simp only [Prod.mk.injEq] at h
  obtain ⟨fs, f, i, h1, h2, h3, h4, rfl⟩ := c.out
  exact TI.st0 hI (by simp [h]) (.fieldAddr h.1 h1 h2 h3 h4 h.2.2.2) kk
theorem TI.lb0 {t : TypeId} {x : Operand} {p k : Nat} {c : List Value} {v : Value} (hI : Nd nd A J) (h : (o.op, o.dst, wA all o fr, fr.eval x) = (.load t x, some d, some true, some (.pointer (some ⟨p, k, none⟩)))) [s : Sg P t] (mm : Mm A (box p c)) (hc : c[k]? = some v)
    (kk : TI P Δ J n fi nde all l ((d, v) :: fr) A Q) : TI P Δ J n ((false, false, nd) :: fi) nde all (o :: l) fr A Q := by
  simp only [Prod.mk.injEq] at h
  obtain ⟨dd, h1, h2⟩ := s.out
  refine TI.stp hI (by simp [h]) (fun lo H F w => ?_) kk
  obtain ⟨g, l, e, hb⟩ := w.get mm
  exact .load1 h.1 h1 h2 h.2.2.2 (l _ _ hb) hc
theorem TL.lenE {t : TypeId} {x : Operand} {v : Value} {m k sz : Nat} {X : Item} (h : (o.op, o.dst, wA all o fr, fr.eval x) = (.call { callee := .builtin .len, args := #[x], argTypes := #[t] }, some d, some true, some v)) [s : SlT P t sz] (mm : Mm A X) [hd : Hdr X v k] (hl : m = k)
    (kk : TL P Δ fl.tail all l ((d, .int .i64 m) :: fr) A Q) : TL P Δ fl all (o :: l) fr A Q := by subst hl; exact TL.len h mm kk
instance hdrFoc {v : Value} {j : Int} {b e : Nat} {cs : List Value} : Hdr (foc r v xs j b e cs) v xs.length := ⟨fun {F h} ⟨k, cap, c, g1, g2, f⟩ => .inr ⟨b, k, cap, f.hv⟩⟩
def Hv (v : Value) (n : Nat) : Prop := (v = .slice none 0 0 ∧ n = 0) ∨ ∃ b k cap, v = .slice (some ⟨b, k, none⟩) n cap
theorem Hv.eq {v : Value} {m n : Nat} (h1 : Hv v m) (h2 : Hv v n) : m = n := by
  rcases h1 with ⟨rfl, rfl⟩ | ⟨b, k, cap, rfl⟩
  · rcases h2 with ⟨_, rfl⟩ | ⟨b2, k2, cap2, e⟩
    · rfl
    · cases e
  · rcases h2 with ⟨e, _⟩ | ⟨b2, k2, cap2, e⟩
    · cases e
    · cases e; rfl
theorem TL.hv {X : Item} {v : Value} {k : Nat} (mm : Mm A X) [hd : Hdr X v k] (kk : Hv v k → TL P Δ fl all l fr A Q) : TL P Δ fl all l fr A Q := fun lo n H F w =>
  let ⟨_, _, hX⟩ := w.get mm; kk (hd.out hX) lo n H F w
theorem TI.lal {t : TypeId} {zc : List Value} (hI : Nd nd A J) (h : (o.op, o.dst, wA all o fr) = (.alloc t, some d, some true)) [s : AlT P t zc] (jx : Jx J (wB n zc)) (kk : TI P Δ J (n + 1) fi nde all l ((d, .pointer (some ⟨n, 0, none⟩)) :: fr) (box n zc :: A) Q) : TI P Δ J n ((false, true, nd) :: fi) nde all (o :: l) fr A Q := fun lo H F w => by
  simp only [Prod.mk.injEq] at h
  obtain ⟨i, z, h1, h2, h3, h4⟩ := s.out
  subst h3
  have hstep : ∀ (e : Nat) (H0 : Heap), Step P n fr.eval n H0 o (.pointer (some ⟨n, 0, none⟩)) (n + 1) (H0.set n (.row e (Cells z))) := fun e H0 => .alloc e h.1 h1 h2 (fun v hv => grZ_spec (List.all_eq_true.1 h4 v hv))
  refine WLI.lateX (fun e => (hI e).out w) h.2.1 h.2.2 (.inl (hstep 1 H)) (fun H2 h2' => .inl ?_) (kk lo _ F (w.new ⟨1, oneH_same⟩))
  obtain ⟨e, he⟩ := h2' _ jx.mem
  have h5 := hstep e (H2.rm n (n + 1))
  have e6 : (H2.rm n (n + 1)).set n (.row e (Cells z)) = H2 := by
    funext k
    by_cases hk : k = n
    · subst hk; rw [Heap.set_same]; exact he.symm
    · rw [Heap.set_ne _ _ hk]; simp only [Heap.rm]; rw [if_neg (by omega)]
  rw [e6] at h5; exact h5
theorem Gh.fore {v : Value} {xs : List α} {j : Int} {b e b' e' sz : Nat} {cs : List Value} (p : Pk A (foc r v xs j b e cs) A1) (h : El sz v j b' e') (hs : sz = r.sz := by rfl) : Gh A (foc r v xs j b' e' cs :: A1) := .ent (p.ent.trans (Ent.rep fun F a ⟨k, cap, c, g1, g2, f⟩ => by
  subst hs
  obtain ⟨_, k2, len, cap2, hv, he⟩ := h
  have := f.hv
  rw [hv] at this; cases this
  have h2 := f.he
  subst h2; subst he
  exact ⟨_, _, _, _, _, f⟩))
theorem TL.lit0 {α : Type} [Rp α] {t : TypeId} {sz : Nat} (h : (o.op, o.dst, wA all o fr) = (.buildSlice t 0 #[], some d, some true)) [s : LtT P t sz]
    (kk : ∀ p, TL P Δ fl.tail all l ((d, .slice (some ⟨p, 0, none⟩) 0 0) :: fr) (ow (rC α) (.slice (some ⟨p, 0, none⟩) 0 0) ([] : List α) :: A) Q) (hsz : sz = Rp.sz α := by rfl) : TL P Δ fl all (o :: l) fr A Q := fun lo n H F w => by
  simp only [Prod.mk.injEq] at h
  obtain ⟨lw, hfl, _, _⟩ := IsFl.tl fl w.low
  obtain ⟨el, i, z, t1, t2, t3, t4, t5, t6, t7, rfl⟩ := s.out
  refine WL.lit hfl h.1 h.2.1 h.2.2 t1 t2 t3 t4 t5 (by simp) (by decide) (vs := []) (cs := []) rfl rfl rfl rfl (by intro v hv; cases hv) (kk _ lo (n + 1) _ F (w.new ⟨_, rfl, ?_⟩))
  rw [hsz]
  have := OS.new (r := rC α) (F := F) (g := nilH) (n := n) (len := 0) (cap := 0) (xs := ([] : List α)) (cs := []) rfl (by decide) (.inl ⟨rfl, by decide⟩) rfl .nil
  exact this.up (Heap.or_le (.refl _) Heap.nil_le)
theorem TL.appZ {α : Type} [Rp α] {ys : List α} {t u : TypeId} {x y : Operand} {p : Nat} {v2 : Value} {sz : Nat} {X : Item} (h : (o.op, o.dst, wA all o fr, fr.eval x, fr.eval y) = (.call { callee := .builtin .append, args := #[x, y], argTypes := #[t, u] }, some d, some true, some (.slice (some ⟨p, 0, none⟩) 0 0), some v2)) [s : ApT P t u sz] (p1 : Pk A (ow (rC α) (.slice (some ⟨p, 0, none⟩) 0 0) ([] : List α)) A1) (mm : Mm A1 X) [c : Rdb X v2 ys] (hlen : ((([] : List α).length : Nat) : Int) + ys.length ≤ 68719476736)
    (kk : ∀ v', TL P Δ fl.tail all l ((d, v') :: fr) (ow (rC α) v' (([] : List α) ++ ys) :: A1) Q) (hsz : sz = Rp.sz α := by rfl) : TL P Δ fl all (o :: l) fr A Q := fun lo n H F w => by
  simp only [Prod.mk.injEq] at h
  obtain ⟨lw, hfl, _, _⟩ := IsFl.tl fl w.low
  obtain ⟨el, i, z, dd, t1, t2, t3, t4, t5, t6, t7, rfl⟩ := s.out
  have w1 := p1.ent.wf w
  have w2 : Wf lo n F A1 H := Ent.drop.wf w1
  obtain ⟨hX, lX, eX⟩ := w2.get mm
  obtain ⟨_, cs2, o2, l2⟩ := c.out eX w.fh lX
  obtain ⟨a, b, pt⟩ := w1.part .z
  obtain ⟨u1, e1, s1⟩ := pt.hi
  obtain rfl : Value.slice (some ⟨p, 0, none⟩) 0 0 = u1 := by simpa using e1
  have hsrc := Src.ofSL (P := P) (ev := fr.eval) (u := u) (y := y) t2 t3 h.2.2.2.2 o2
  have hl0 : ((ys.length : Nat) : Int) ≤ 68719476736 := by simpa using hlen
  by_cases hm : ys.length = 0
  · have hn : ys = [] := List.eq_nil_of_length_eq_zero hm
    subst hn
    have hn2 : cs2 = [] := List.eq_nil_of_length_eq_zero (by have := l2.length; simpa using this)
    subst hn2
    exact WL.append0 hfl h.1 h.2.1 h.2.2.1 t1 t4 h.2.2.2.1 (by rw [hsz]; exact hsrc) (kk _ lo n H F w1)
  · obtain ⟨_, ⟨e2, _⟩ | ⟨b2, k2, cap2, c2, g2, q⟩⟩ := s1
    · cases e2
    · have hv := q.hv
      cases hv
      have hb := pt.la _ _ q.hb
      refine WL.appendG hfl h.1 h.2.1 h.2.2.1 t1 t4 t5 t6 h.2.2.2.1 (by rw [hsz]; exact hsrc) hb (olds := []) (by simp) (by simp) (by decide) (by omega) (by simpa using l2.one) (Nat.le_trans (Nat.mul_le_mul (show 0 + ys.length ≤ 68719476736 by omega) t7) (by decide)) (by unfold UNK; omega) ?_
      rw [List.nil_append]
      refine kk _ lo (n + 1) _ F (w2.new ⟨_, rfl, ?_⟩)
      have hs' : i.size = (rC α).sz := hsz
      rw [hs']
      have := OS.new (r := rC α) (F := F) (g := nilH) (n := n) (len := 0 + ys.length) (cap := UNK + (0 + ys.length)) (xs := ([] : List α) ++ ys) (by simp) (by unfold UNK; omega) (.inr (by omega)) rfl (RL.ofRA l2)
      exact this.up (Heap.or_le (.refl _) Heap.nil_le)
inductive FzL : List Item → List Item → Prop
  | n : FzL [] []
  | c {α : Type} [Rp α] {v : Value} {xs : List α} {A B : List Item} (t : FzL A B) : FzL (ow (rC α) v xs :: A) (fz v xs :: B)
theorem OS.sr {α : Type} [Rp α] {v : Value} {xs : List α} {F a : Heap} (d : Dj F a) (os : OS (rC α) F v xs a) : SR (F.or a) v xs := by
  obtain ⟨h0, ⟨rfl, rfl⟩ | ⟨b, k, cap, c, g, o⟩⟩ := os
  · exact SR.nil
  · exact ⟨h0, _, .inr ⟨b, k, cap, c, o.hv, Heap.le_orr d _ _ o.hb, rfl, o.el.length⟩, o.el.toRA.mono Heap.le_orl⟩
theorem Heap.or_mono {F a b : Heap} (d : Dj F b) (h : a.Le b) : (F.or a).Le (F.or b) := Heap.or_le Heap.le_orl (h.trans (Heap.le_orr d))
theorem FzL.out {F : Heap} {A B : List Item} (f : FzL A B) : ∀ {a : Heap}, Dj F a → Sat F A a → Sat (F.or a) B nilH := by
  induction f with
  | n => exact fun _ _ => trivial
  | c t ih =>
    intro a d s
    obtain ⟨a1, b1, d1, l1, l2, ⟨u, eu, os⟩, hr⟩ := s
    have e1 : Dj F a1 := (d.symm.mono l1 (.refl _)).symm
    have e2 : Dj F b1 := (d.symm.mono l2 (.refl _)).symm
    exact ⟨nilH, nilH, .nil, .refl _, .refl _, ⟨u, eu, (OS.sr e1 os).mono (Heap.or_mono d l1)⟩, (ih e2 hr).mono (Heap.or_mono d l2)⟩
class Frz {α : Type} [Rp α] (r : Rep α) : Prop where
  sz : r.sz = Rp.sz α
  fr : ∀ {F a : Heap} {cs : List Value} {x : α}, Dj F a → r.R F cs x a → Rp.R (F.or a) cs x
theorem RL.frz {α : Type} [Rp α] {r : Rep α} [c : Frz r] {F g : Heap} {cs : List Value} {xs : List α} (h : RL r F cs xs g) (d : Dj F g) : RA (F.or g) cs xs := by
  induction h with
  | nil => exact .nil
  | cons d0 l1 l2 e t ih =>
    have e1 := (d.symm.mono l1 (.refl _)).symm
    have e2 := (d.symm.mono l2 (.refl _)).symm
    exact .cons (Rp.mono (c.fr e1 e) (Heap.or_mono d l1)) ((ih e2).mono (Heap.or_mono d l2))
theorem Gh.frzD {α : Type} [Rp α] {r : Rep α} [c : Frz r] {v : Value} {xs : List α} (p : Pk A (ow r v xs) A1) : Gh A (fz v xs :: A1) := Gh.trans (.ent p.ent) ⟨fun {lo n F H} w => by
  obtain ⟨a, b, pt⟩ := w.part .z
  obtain ⟨u, eu, os⟩ := pt.hi
  obtain rfl : v = u := by simpa using eu
  refine ⟨F.or a, Heap.le_orl, w.low, w.hb, Heap.or_le w.fh pt.la, b, pt.lb, Dj.or pt.fb pt.d, pt.nb, nilH, b, .nil, Heap.nil_le, .refl _, ⟨v, rfl, ?_⟩, pt.hr.mono Heap.le_orl⟩
  obtain ⟨h0, ⟨rfl, rfl⟩ | ⟨b2, k, cap, cc, g, o⟩⟩ := os
  · exact SR.nil
  · have es := c.sz
    have hb := o.hb
    have hl := o.el.length
    rw [es] at hb hl
    have hg : Dj F g := (pt.fa.symm.mono o.hg (.refl _)).symm
    refine ⟨h0, _, .inr ⟨b2, k, cap, cc, o.hv, Heap.le_orr pt.fa _ _ hb, rfl, hl⟩, ?_⟩
    rw [← es]
    exact (o.el.frz hg).mono (Heap.or_mono pt.fa o.hg)⟩
end
end Go.Proofs.YtlpcdcpcfeaecaaAb
end
section
namespace Go.Proofs.YtlpcdcpcfeaecaaAb
open Go Go.Proofs
theorem info3 : Try.prog.info? 3 = some Try.t3 := by kernel_rfl
theorem info4 : Try.prog.info? 4 = some Try.t4 := by kernel_rfl
theorem info5 : Try.prog.info? 5 = some Try.t5 := by kernel_rfl
theorem info9 : Try.prog.info? 9 = some Try.t9 := by kernel_rfl
theorem info22 : Try.prog.info? 22 = some Try.t22 := by kernel_rfl
theorem info24 : Try.prog.info? 24 = some Try.t24 := by kernel_rfl
theorem info26 : Try.prog.info? 26 = some Try.t26 := by kernel_rfl
theorem info27 : Try.prog.info? 27 = some Try.t27 := by kernel_rfl
theorem info28 : Try.prog.info? 28 = some Try.t28 := by kernel_rfl
theorem info30 : Try.prog.info? 30 = some Try.t30 := by kernel_rfl
theorem info31 : Try.prog.info? 31 = some Try.t31 := by kernel_rfl
theorem info35 : Try.prog.info? 35 = some Try.t35 := by kernel_rfl
theorem info40 : Try.prog.info? 40 = some Try.t40 := by kernel_rfl
theorem info42 : Try.prog.info? 42 = some Try.t42 := by kernel_rfl
theorem info71 : Try.prog.info? 71 = some Try.t71 := by kernel_rfl
theorem info85 : Try.prog.info? 85 = some Try.t85 := by kernel_rfl
theorem info88 : Try.prog.info? 88 = some Try.t88 := by kernel_rfl
theorem info96 : Try.prog.info? 96 = some Try.t96 := by kernel_rfl
theorem info100 : Try.prog.info? 100 = some Try.t100 := by kernel_rfl
end Go.Proofs.YtlpcdcpcfeaecaaAb
end
section
set_option maxRecDepth 20000
namespace Go.Proofs.YtlpcdcpcfeaecaaAb
open Go Go.Proofs
theorem GE.opn {F a : Heap} {cs : List Value} {x : GE} (h : (vl (rC GE) cs x).P F a) : ∃ t : Value, cs = [iv x.Kind, iv x.N, t] ∧ Sat F [fz t x.Data] a := by
  obtain ⟨a1, c1, e, h1⟩ := GE.ofR h
  exact ⟨.slice a1 x.Data.length c1, e, (Sat.ofPers (fz0 h1) trivial)⟩
theorem GE.cls {F a : Heap} {w1 : Value} {l1 : List UInt8} {s0 : Int} {s1 : Int} (s : Sat F [fz w1 l1] a) : (vl (rC GE) [iv s0, iv s1, w1] ({ Kind := s0, N := s1, Data := l1 } : GE)).P F a := by
  obtain ⟨a1, c1, e1⟩ := (fzP.1 s.one.1).form1
  have h1 := fzP.1 s.one.1
  subst e1
  exact GE.toR (x := ({ Kind := s0, N := s1, Data := l1 } : GE)) h1
theorem GE.ex {A : List Item} {B : Nat → Nat → Heap → Heap → Prop} {v : Value} {xs : List GE} {j : Int} {b e : Nat} {x : GE} (m : Mm A (fz v xs)) (he : El (Rp.sz GE) v j b e) (hx : idx xs j = some x) (k : ∀ w1, HT (fel b e [iv x.Kind, iv x.N, w1] :: fz w1 x.Data :: A) B) : HT A B :=
  HT.ex m he hx fun cs _ _ => HT.ent Ent.swap (HT.exp (fun (t : Value) => [fz t x.Data]) (fun F a h => GE.opn h) fun t hc => by subst hc; exact HT.ent (Sl.ent (.p p1 .e)) (k t))
theorem GE.f0 {F : Heap} {cs : List Value} {x : GE} (h : Rp.R F cs x) : cs[0]? = some (iv x.Kind) := by obtain ⟨a1, c1, rfl, _⟩ := GE.ofR h; rfl
theorem GE.f1 {F : Heap} {cs : List Value} {x : GE} (h : Rp.R F cs x) : cs[1]? = some (iv x.N) := by obtain ⟨a1, c1, rfl, _⟩ := GE.ofR h; rfl
theorem GE.z2 {F : Heap} {cs : List Value} {x : GE} (h : Rp.R F cs x) : ∃ z, cs[2]? = some z ∧ SR F z x.Data := by obtain ⟨a1, c1, rfl, h1⟩ := GE.ofR h; exact ⟨_, rfl, h1⟩
theorem GE.fo {A : List Item} {B : Nat → Nat → Heap → Heap → Prop} {v : Value} {xs : List GE} {j : Int} {b e : Nat} {x : GE} (he : El (Rp.sz GE) v j b e) (hx : idx xs j = some x) (k : ∀ w1, HT (foc (rC GE) v xs j b e [iv x.Kind, iv x.N, w1] :: fz w1 x.Data :: A) B) : HT (ow (rC GE) v xs :: A) B :=
  HT.focus he hx fun cs => HT.ent Ent.swap (HT.exp (fun (t : Value) => [fz t x.Data]) (fun F a h => GE.opn h) fun t hc => by subst hc; exact HT.ent (Sl.ent (.p p1 .e)) (k t))
theorem GE.mkV {A1 : List Item} {w1 : Value} {l1 : List UInt8} {s0 : Int} {s1 : Int} (m1 : Mm A1 (fz w1 l1)) : Gh A1 (vl (rC GE) [iv s0, iv s1, w1] ({ Kind := s0, N := s1, Data := l1 } : GE) :: A1) := .ent (Ent.add fun F h s => GE.cls (Pz.out (.c m1 Pers.rC .n) F h s))
theorem GE.un {A A1 : List Item} {v : Value} {xs : List GE} {j : Int} {b e : Nat} {w1 : Value} {l1 : List UInt8} {s0 : Int} {s1 : Int} (p : Pk A (foc (rC GE) v xs j b e [iv s0, iv s1, w1]) A1) (m1 : Mm A1 (fz w1 l1)) : Gh A (ow (rC GE) v (setI xs j ({ Kind := s0, N := s1, Data := l1 } : GE)) :: A1) := .ent (p.ent.trans ((Ent.cons _ (Ent.add fun F h s => GE.cls (Pz.out (.c m1 Pers.rC .n) F h s))).trans Ent.unfoc))
theorem GE.u0 {A A1 : List Item} {v : Value} {xs : List GE} {j : Int} {b e : Nat} {w1 : Value} {x : GE} (hx : idx xs j = some x) (p : Pk A (foc (rC GE) v xs j b e [iv x.Kind, iv x.N, w1]) A1) (m1 : Mm A1 (fz w1 x.Data)) : Gh A (ow (rC GE) v xs :: A1) := .ent (p.ent.trans ((Ent.cons _ (Ent.add fun F h s => GE.cls (Pz.out (.c m1 Pers.rC .n) F h s))).trans (Ent.unfoc.trans (Ent.setSame hx))))
theorem GS.opn {F a : Heap} {cs : List Value} {x : GS} (h : (vl (rC GS) cs x).P F a) : ∃ t : Value, cs = [t, iv x.at_, iv x.seed] ∧ Sat F [fz t x.code] a := by
  obtain ⟨a1, c1, e, h1⟩ := GS.ofR h
  exact ⟨.slice a1 x.code.length c1, e, (Sat.ofPers (fz0 h1) trivial)⟩
theorem GS.ex {A : List Item} {B : Nat → Nat → Heap → Heap → Prop} {v : Value} {xs : List GS} {j : Int} {b e : Nat} {x : GS} (m : Mm A (fz v xs)) (he : El (Rp.sz GS) v j b e) (hx : idx xs j = some x) (k : ∀ w1, HT (fel b e [w1, iv x.at_, iv x.seed] :: fz w1 x.code :: A) B) : HT A B :=
  HT.ex m he hx fun cs _ _ => HT.ent Ent.swap (HT.exp (fun (t : Value) => [fz t x.code]) (fun F a h => GS.opn h) fun t hc => by subst hc; exact HT.ent (Sl.ent (.p p1 .e)) (k t))
theorem GS.f1 {F : Heap} {cs : List Value} {x : GS} (h : Rp.R F cs x) : cs[1]? = some (iv x.at_) := by obtain ⟨a1, c1, rfl, _⟩ := GS.ofR h; rfl
theorem GJob.opn {F a : Heap} {cs : List Value} {x : GJob} (h : (vl (rC GJob) cs x).P F a) : ∃ t : Unit, cs = [iv x.Client, iv x.Seq, str x.File, iv x.Version, str x.Script, str x.Text, .bool x.Ere, .bool x.Quiet] ∧ Sat F [] a := by
  have e := GJob.ofR h
  exact ⟨(()), e, trivial⟩
theorem GJob.ex {A : List Item} {B : Nat → Nat → Heap → Heap → Prop} {v : Value} {xs : List GJob} {j : Int} {b e : Nat} {x : GJob} (m : Mm A (fz v xs)) (he : El (Rp.sz GJob) v j b e) (hx : idx xs j = some x) (k : HT (fel b e [iv x.Client, iv x.Seq, str x.File, iv x.Version, str x.Script, str x.Text, .bool x.Ere, .bool x.Quiet] :: A) B) : HT A B :=
  HT.ex m he hx fun cs _ _ => HT.ent Ent.swap (HT.exp (fun (t : Unit) => []) (fun F a h => GJob.opn h) fun t hc => by subst hc; exact HT.ent (Sl.ent (.p p0 .e)) (k))
theorem GJob.f0 {F : Heap} {cs : List Value} {x : GJob} (h : Rp.R F cs x) : cs[0]? = some (iv x.Client) := by obtain rfl := GJob.ofR h; rfl
theorem GJob.f1 {F : Heap} {cs : List Value} {x : GJob} (h : Rp.R F cs x) : cs[1]? = some (iv x.Seq) := by obtain rfl := GJob.ofR h; rfl
theorem GJob.f6 {F : Heap} {cs : List Value} {x : GJob} (h : Rp.R F cs x) : cs[6]? = some (.bool x.Ere) := by obtain rfl := GJob.ofR h; rfl
theorem GR.opn {F a : Heap} {cs : List Value} {x : GR} (h : (vl (rC GR) cs x).P F a) : ∃ t : Value, cs = [iv x.Term, iv x.Index, t] ∧ Sat F [fz t x.Data] a := by
  obtain ⟨a1, c1, e, h1⟩ := GR.ofR h
  exact ⟨.slice a1 x.Data.length c1, e, (Sat.ofPers (fz0 h1) trivial)⟩
theorem GR.cls {F a : Heap} {w1 : Value} {l1 : List UInt8} {s0 : Int} {s1 : Int} (s : Sat F [fz w1 l1] a) : (vl (rC GR) [iv s0, iv s1, w1] ({ Term := s0, Index := s1, Data := l1 } : GR)).P F a := by
  obtain ⟨a1, c1, e1⟩ := (fzP.1 s.one.1).form1
  have h1 := fzP.1 s.one.1
  subst e1
  exact GR.toR (x := ({ Term := s0, Index := s1, Data := l1 } : GR)) h1
theorem GR.ex {A : List Item} {B : Nat → Nat → Heap → Heap → Prop} {v : Value} {xs : List GR} {j : Int} {b e : Nat} {x : GR} (m : Mm A (fz v xs)) (he : El (Rp.sz GR) v j b e) (hx : idx xs j = some x) (k : ∀ w1, HT (fel b e [iv x.Term, iv x.Index, w1] :: fz w1 x.Data :: A) B) : HT A B :=
  HT.ex m he hx fun cs _ _ => HT.ent Ent.swap (HT.exp (fun (t : Value) => [fz t x.Data]) (fun F a h => GR.opn h) fun t hc => by subst hc; exact HT.ent (Sl.ent (.p p1 .e)) (k t))
theorem GR.ldE {P : Program} {Δ : Prims} {fr : Fr} {A : List Item} {Q : TPost} {fl : List Bool} {all : Array Oper} {l : List Oper} {o : Oper} {d sz : Nat} {X : Item} {xs : List GR} {x : GR} {t0 : TypeId} {y : Operand} {v : Value} {b e : Nat} {j : Int} (h : (o.op, o.dst, wA all o fr, fr.eval y) = (.load t0 y, some d, some true, some (.pointer (some ⟨b, e, none⟩)))) [s : StT P t0 sz] (mm : Mm A X) [c : Rdb X v xs] (he : El (Rp.sz GR) v j b e) (hu : idx xs j = some x) (kk : ∀ w1, TL P Δ fl.tail all l ((d, .agg [iv x.Term, iv x.Index, w1].toArray) :: fr) (fz w1 x.Data :: A) Q) (hm : sz = Rp.sz GR := by rfl) : TL P Δ fl all (o :: l) fr A Q :=
  TL.ldE h mm he hu hm fun cs => HT.exp (fun (t : Value) => [fz t x.Data]) (fun F a h => GR.opn h) fun t hc => by subst hc; exact kk t
theorem GR.f0 {F : Heap} {cs : List Value} {x : GR} (h : Rp.R F cs x) : cs[0]? = some (iv x.Term) := by obtain ⟨a1, c1, rfl, _⟩ := GR.ofR h; rfl
theorem GR.f1 {F : Heap} {cs : List Value} {x : GR} (h : Rp.R F cs x) : cs[1]? = some (iv x.Index) := by obtain ⟨a1, c1, rfl, _⟩ := GR.ofR h; rfl
theorem GR.z2 {F : Heap} {cs : List Value} {x : GR} (h : Rp.R F cs x) : ∃ z, cs[2]? = some z ∧ SR F z x.Data := by obtain ⟨a1, c1, rfl, h1⟩ := GR.ofR h; exact ⟨_, rfl, h1⟩
theorem GR.fo {A : List Item} {B : Nat → Nat → Heap → Heap → Prop} {v : Value} {xs : List GR} {j : Int} {b e : Nat} {x : GR} (he : El (Rp.sz GR) v j b e) (hx : idx xs j = some x) (k : ∀ w1, HT (foc (rC GR) v xs j b e [iv x.Term, iv x.Index, w1] :: fz w1 x.Data :: A) B) : HT (ow (rC GR) v xs :: A) B :=
  HT.focus he hx fun cs => HT.ent Ent.swap (HT.exp (fun (t : Value) => [fz t x.Data]) (fun F a h => GR.opn h) fun t hc => by subst hc; exact HT.ent (Sl.ent (.p p1 .e)) (k t))
theorem GR.mkV {A1 : List Item} {w1 : Value} {l1 : List UInt8} {s0 : Int} {s1 : Int} (m1 : Mm A1 (fz w1 l1)) : Gh A1 (vl (rC GR) [iv s0, iv s1, w1] ({ Term := s0, Index := s1, Data := l1 } : GR) :: A1) := .ent (Ent.add fun F h s => GR.cls (Pz.out (.c m1 Pers.rC .n) F h s))
theorem GR.u0 {A A1 : List Item} {v : Value} {xs : List GR} {j : Int} {b e : Nat} {w1 : Value} {x : GR} (hx : idx xs j = some x) (p : Pk A (foc (rC GR) v xs j b e [iv x.Term, iv x.Index, w1]) A1) (m1 : Mm A1 (fz w1 x.Data)) : Gh A (ow (rC GR) v xs :: A1) := .ent (p.ent.trans ((Ent.cons _ (Ent.add fun F h s => GR.cls (Pz.out (.c m1 Pers.rC .n) F h s))).trans (Ent.unfoc.trans (Ent.setSame hx))))
theorem GP.opn {F a : Heap} {cs : List Value} {x : GP} (h : (vl (rC GP) cs x).P F a) : ∃ t : Value × Value × Value × Value, cs = [.bool x.Up, iv x.Term, iv x.Vote, iv x.Commit, iv x.Role, t.1, t.2.1, t.2.2.1, t.2.2.2] ∧ Sat F [fz t.1 x.Log, fz t.2.1 x.Votes, fz t.2.2.1 x.Next, fz t.2.2.2 x.Match] a := by
  obtain ⟨a1, c1, a2, c2, a3, c3, a4, c4, e, h1, h2, h3, h4⟩ := GP.ofR h
  exact ⟨(.slice a1 x.Log.length c1, .slice a2 x.Votes.length c2, .slice a3 x.Next.length c3, .slice a4 x.Match.length c4), e, (Sat.ofPers (fz0 h1) (Sat.ofPers (fz0 h2) (Sat.ofPers (fz0 h3) (Sat.ofPers (fz0 h4) trivial))))⟩
theorem GP.cls {F a : Heap} {w1 : Value} {w2 : Value} {w3 : Value} {w4 : Value} {l1 : List GR} {l2 : List Bool} {l3 : List Int} {l4 : List Int} {s0 : Bool} {s1 : Int} {s2 : Int} {s3 : Int} {s4 : Int} (s : Sat F [fz w1 l1, fz w2 l2, fz w3 l3, fz w4 l4] a) : (vl (rC GP) [.bool s0, iv s1, iv s2, iv s3, iv s4, w1, w2, w3, w4] ({ Up := s0, Term := s1, Vote := s2, Commit := s3, Role := s4, Log := l1, Votes := l2, Next := l3, Match := l4 } : GP)).P F a := by
  obtain ⟨a1, c1, e1⟩ := (fzP.1 s.one.1).form1
  obtain ⟨a2, c2, e2⟩ := (fzP.1 s.one.2.one.1).form1
  obtain ⟨a3, c3, e3⟩ := (fzP.1 s.one.2.one.2.one.1).form1
  obtain ⟨a4, c4, e4⟩ := (fzP.1 s.one.2.one.2.one.2.one.1).form1
  have h1 := fzP.1 s.one.1
  have h2 := fzP.1 s.one.2.one.1
  have h3 := fzP.1 s.one.2.one.2.one.1
  have h4 := fzP.1 s.one.2.one.2.one.2.one.1
  subst e1
  subst e2
  subst e3
  subst e4
  exact GP.toR (x := ({ Up := s0, Term := s1, Vote := s2, Commit := s3, Role := s4, Log := l1, Votes := l2, Next := l3, Match := l4 } : GP)) h1 h2 h3 h4
theorem GP.ex {A : List Item} {B : Nat → Nat → Heap → Heap → Prop} {v : Value} {xs : List GP} {j : Int} {b e : Nat} {x : GP} (m : Mm A (fz v xs)) (he : El (Rp.sz GP) v j b e) (hx : idx xs j = some x) (k : ∀ w1 w2 w3 w4, HT (fel b e [.bool x.Up, iv x.Term, iv x.Vote, iv x.Commit, iv x.Role, w1, w2, w3, w4] :: fz w1 x.Log :: fz w2 x.Votes :: fz w3 x.Next :: fz w4 x.Match :: A) B) : HT A B :=
  HT.ex m he hx fun cs _ _ => HT.ent Ent.swap (HT.exp (fun (t : Value × Value × Value × Value) => [fz t.1 x.Log, fz t.2.1 x.Votes, fz t.2.2.1 x.Next, fz t.2.2.2 x.Match]) (fun F a h => GP.opn h) fun t hc => by subst hc; exact HT.ent (Sl.ent (.p p4 .e)) (k t.1 t.2.1 t.2.2.1 t.2.2.2))
theorem GP.f0 {F : Heap} {cs : List Value} {x : GP} (h : Rp.R F cs x) : cs[0]? = some (.bool x.Up) := by obtain ⟨a1, c1, a2, c2, a3, c3, a4, c4, rfl, _, _, _, _⟩ := GP.ofR h; rfl
theorem GP.f1 {F : Heap} {cs : List Value} {x : GP} (h : Rp.R F cs x) : cs[1]? = some (iv x.Term) := by obtain ⟨a1, c1, a2, c2, a3, c3, a4, c4, rfl, _, _, _, _⟩ := GP.ofR h; rfl
theorem GP.mkV {A1 : List Item} {w1 : Value} {w2 : Value} {w3 : Value} {w4 : Value} {l1 : List GR} {l2 : List Bool} {l3 : List Int} {l4 : List Int} {s0 : Bool} {s1 : Int} {s2 : Int} {s3 : Int} {s4 : Int} (m1 : Mm A1 (fz w1 l1)) (m2 : Mm A1 (fz w2 l2)) (m3 : Mm A1 (fz w3 l3)) (m4 : Mm A1 (fz w4 l4)) : Gh A1 (vl (rC GP) [.bool s0, iv s1, iv s2, iv s3, iv s4, w1, w2, w3, w4] ({ Up := s0, Term := s1, Vote := s2, Commit := s3, Role := s4, Log := l1, Votes := l2, Next := l3, Match := l4 } : GP) :: A1) := .ent (Ent.add fun F h s => GP.cls (Pz.out (.c m1 Pers.rC (.c m2 Pers.rC (.c m3 Pers.rC (.c m4 Pers.rC .n)))) F h s))
theorem GM.opn {F a : Heap} {cs : List Value} {x : GM} (h : (vl (rC GM) cs x).P F a) : ∃ t : Value, cs = [iv x.Kind, iv x.From, iv x.To, iv x.Term, iv x.A, iv x.B, iv x.C, .bool x.Ok, t] ∧ Sat F [fz t x.Log] a := by
  obtain ⟨a1, c1, e, h1⟩ := GM.ofR h
  exact ⟨.slice a1 x.Log.length c1, e, (Sat.ofPers (fz0 h1) trivial)⟩
theorem GM.cls {F a : Heap} {w1 : Value} {l1 : List GR} {s0 : Int} {s1 : Int} {s2 : Int} {s3 : Int} {s4 : Int} {s5 : Int} {s6 : Int} {s7 : Bool} (s : Sat F [fz w1 l1] a) : (vl (rC GM) [iv s0, iv s1, iv s2, iv s3, iv s4, iv s5, iv s6, .bool s7, w1] ({ Kind := s0, From := s1, To := s2, Term := s3, A := s4, B := s5, C := s6, Ok := s7, Log := l1 } : GM)).P F a := by
  obtain ⟨a1, c1, e1⟩ := (fzP.1 s.one.1).form1
  have h1 := fzP.1 s.one.1
  subst e1
  exact GM.toR (x := ({ Kind := s0, From := s1, To := s2, Term := s3, A := s4, B := s5, C := s6, Ok := s7, Log := l1 } : GM)) h1
theorem GM.ex {A : List Item} {B : Nat → Nat → Heap → Heap → Prop} {v : Value} {xs : List GM} {j : Int} {b e : Nat} {x : GM} (m : Mm A (fz v xs)) (he : El (Rp.sz GM) v j b e) (hx : idx xs j = some x) (k : ∀ w1, HT (fel b e [iv x.Kind, iv x.From, iv x.To, iv x.Term, iv x.A, iv x.B, iv x.C, .bool x.Ok, w1] :: fz w1 x.Log :: A) B) : HT A B :=
  HT.ex m he hx fun cs _ _ => HT.ent Ent.swap (HT.exp (fun (t : Value) => [fz t x.Log]) (fun F a h => GM.opn h) fun t hc => by subst hc; exact HT.ent (Sl.ent (.p p1 .e)) (k t))
theorem GM.f0 {F : Heap} {cs : List Value} {x : GM} (h : Rp.R F cs x) : cs[0]? = some (iv x.Kind) := by obtain ⟨a1, c1, rfl, _⟩ := GM.ofR h; rfl
theorem GM.f1 {F : Heap} {cs : List Value} {x : GM} (h : Rp.R F cs x) : cs[1]? = some (iv x.From) := by obtain ⟨a1, c1, rfl, _⟩ := GM.ofR h; rfl
theorem GM.f6 {F : Heap} {cs : List Value} {x : GM} (h : Rp.R F cs x) : cs[6]? = some (iv x.C) := by obtain ⟨a1, c1, rfl, _⟩ := GM.ofR h; rfl
theorem GM.fo {A : List Item} {B : Nat → Nat → Heap → Heap → Prop} {v : Value} {xs : List GM} {j : Int} {b e : Nat} {x : GM} (he : El (Rp.sz GM) v j b e) (hx : idx xs j = some x) (k : ∀ w1, HT (foc (rC GM) v xs j b e [iv x.Kind, iv x.From, iv x.To, iv x.Term, iv x.A, iv x.B, iv x.C, .bool x.Ok, w1] :: fz w1 x.Log :: A) B) : HT (ow (rC GM) v xs :: A) B :=
  HT.focus he hx fun cs => HT.ent Ent.swap (HT.exp (fun (t : Value) => [fz t x.Log]) (fun F a h => GM.opn h) fun t hc => by subst hc; exact HT.ent (Sl.ent (.p p1 .e)) (k t))
theorem GM.mkV {A1 : List Item} {w1 : Value} {l1 : List GR} {s0 : Int} {s1 : Int} {s2 : Int} {s3 : Int} {s4 : Int} {s5 : Int} {s6 : Int} {s7 : Bool} (m1 : Mm A1 (fz w1 l1)) : Gh A1 (vl (rC GM) [iv s0, iv s1, iv s2, iv s3, iv s4, iv s5, iv s6, .bool s7, w1] ({ Kind := s0, From := s1, To := s2, Term := s3, A := s4, B := s5, C := s6, Ok := s7, Log := l1 } : GM) :: A1) := .ent (Ent.add fun F h s => GM.cls (Pz.out (.c m1 Pers.rC .n) F h s))
theorem GM.u0 {A A1 : List Item} {v : Value} {xs : List GM} {j : Int} {b e : Nat} {w1 : Value} {x : GM} (hx : idx xs j = some x) (p : Pk A (foc (rC GM) v xs j b e [iv x.Kind, iv x.From, iv x.To, iv x.Term, iv x.A, iv x.B, iv x.C, .bool x.Ok, w1]) A1) (m1 : Mm A1 (fz w1 x.Log)) : Gh A (ow (rC GM) v xs :: A1) := .ent (p.ent.trans ((Ent.cons _ (Ent.add fun F h s => GM.cls (Pz.out (.c m1 Pers.rC .n) F h s))).trans (Ent.unfoc.trans (Ent.setSame hx))))
theorem GC.opn {F a : Heap} {cs : List Value} {x : GC} (h : (vl (rC GC) cs x).P F a) : ∃ t : Value × Value × Value, cs = [t.1, t.2.1, t.2.2, .bool x.Conflict] ∧ Sat F [fz t.1 x.Peers, fz t.2.1 x.Net, fz t.2.2 x.Chosen] a := by
  obtain ⟨a1, c1, a2, c2, a3, c3, e, h1, h2, h3⟩ := GC.ofR h
  exact ⟨(.slice a1 x.Peers.length c1, .slice a2 x.Net.length c2, .slice a3 x.Chosen.length c3), e, (Sat.ofPers (fz0 h1) (Sat.ofPers (fz0 h2) (Sat.ofPers (fz0 h3) trivial)))⟩
theorem GC.ex {A : List Item} {B : Nat → Nat → Heap → Heap → Prop} {v : Value} {xs : List GC} {j : Int} {b e : Nat} {x : GC} (m : Mm A (fz v xs)) (he : El (Rp.sz GC) v j b e) (hx : idx xs j = some x) (k : ∀ w1 w2 w3, HT (fel b e [w1, w2, w3, .bool x.Conflict] :: fz w1 x.Peers :: fz w2 x.Net :: fz w3 x.Chosen :: A) B) : HT A B :=
  HT.ex m he hx fun cs _ _ => HT.ent Ent.swap (HT.exp (fun (t : Value × Value × Value) => [fz t.1 x.Peers, fz t.2.1 x.Net, fz t.2.2 x.Chosen]) (fun F a h => GC.opn h) fun t hc => by subst hc; exact HT.ent (Sl.ent (.p p3 .e)) (k t.1 t.2.1 t.2.2))
theorem GC.z1 {F : Heap} {cs : List Value} {x : GC} (h : Rp.R F cs x) : ∃ z, cs[1]? = some z ∧ SR F z x.Net := by obtain ⟨a1, c1, a2, c2, a3, c3, rfl, h1, h2, h3⟩ := GC.ofR h; exact ⟨_, rfl, h2⟩
theorem GC.z2 {F : Heap} {cs : List Value} {x : GC} (h : Rp.R F cs x) : ∃ z, cs[2]? = some z ∧ SR F z x.Chosen := by obtain ⟨a1, c1, a2, c2, a3, c3, rfl, h1, h2, h3⟩ := GC.ofR h; exact ⟨_, rfl, h3⟩
theorem GL.opn {F a : Heap} {cs : List Value} {x : GL} (h : (vl (rC GL) cs x).P F a) : ∃ t : Value × Value × Value, cs = [t.1, t.2.1, t.2.2, .bool x.c.Conflict] ∧ Sat F [fz t.1 x.c.Peers, fz t.2.1 x.c.Net, fz t.2.2 x.c.Chosen] a := by
  obtain ⟨a1, c1, a2, c2, a3, c3, e, h1, h2, h3⟩ := GL.ofR h
  exact ⟨(.slice a1 x.c.Peers.length c1, .slice a2 x.c.Net.length c2, .slice a3 x.c.Chosen.length c3), e, (Sat.ofPers (fz0 h1) (Sat.ofPers (fz0 h2) (Sat.ofPers (fz0 h3) trivial)))⟩
theorem GL.ex {A : List Item} {B : Nat → Nat → Heap → Heap → Prop} {v : Value} {xs : List GL} {j : Int} {b e : Nat} {x : GL} (m : Mm A (fz v xs)) (he : El (Rp.sz GL) v j b e) (hx : idx xs j = some x) (k : ∀ w1 w2 w3, HT (fel b e [w1, w2, w3, .bool x.c.Conflict] :: fz w1 x.c.Peers :: fz w2 x.c.Net :: fz w3 x.c.Chosen :: A) B) : HT A B :=
  HT.ex m he hx fun cs _ _ => HT.ent Ent.swap (HT.exp (fun (t : Value × Value × Value) => [fz t.1 x.c.Peers, fz t.2.1 x.c.Net, fz t.2.2 x.c.Chosen]) (fun F a h => GL.opn h) fun t hc => by subst hc; exact HT.ent (Sl.ent (.p p3 .e)) (k t.1 t.2.1 t.2.2))
theorem GL.z1 {F : Heap} {cs : List Value} {x : GL} (h : Rp.R F cs x) : ∃ z, cs[1]? = some z ∧ SR F z x.c.Net := by obtain ⟨a1, c1, a2, c2, a3, c3, rfl, h1, h2, h3⟩ := GL.ofR h; exact ⟨_, rfl, h2⟩
theorem GL.z2 {F : Heap} {cs : List Value} {x : GL} (h : Rp.R F cs x) : ∃ z, cs[2]? = some z ∧ SR F z x.c.Chosen := by obtain ⟨a1, c1, a2, c2, a3, c3, rfl, h1, h2, h3⟩ := GL.ofR h; exact ⟨_, rfl, h3⟩
def rGPeer : Rep GP where
  sz := 9
  R F cs x h := ∃ (w1 : Value) (w2 : Value) (w3 : Value) (w4 : Value), cs = [.bool x.Up, iv x.Term, iv x.Vote, iv x.Commit, iv x.Role, w1, w2, w3, w4] ∧ Sat F [ow (rC GR) w1 x.Log, ow (rC Bool) w2 x.Votes, ow (rC Int) w3 x.Next, ow (rC Int) w4 x.Match] h
  len h := by obtain ⟨w1, w2, w3, w4, rfl, _⟩ := h; rfl
  one h := by
    obtain ⟨w1, w2, w3, w4, rfl, s⟩ := h
    intro v hv
    simp only [List.mem_cons, List.not_mem_nil, or_false] at hv
    rcases hv with rfl | rfl | rfl | rfl | rfl | rfl | rfl | rfl | rfl
    · rfl
    · rfl
    · rfl
    · rfl
    · rfl
    · exact hdrOw.one1 s.one.1
    · exact hdrOw.one1 s.one.2.one.1
    · exact hdrOw.one1 s.one.2.one.2.one.1
    · exact hdrOw.one1 s.one.2.one.2.one.2.one.1
  mono hle h := by obtain ⟨w1, w2, w3, w4, e, s⟩ := h; exact ⟨w1, w2, w3, w4, e, s.mono hle⟩
  up hle h := by obtain ⟨w1, w2, w3, w4, e, s⟩ := h; exact ⟨w1, w2, w3, w4, e, s.up hle⟩
theorem GP.opnD {F a : Heap} {cs : List Value} {x : GP} (h : (vl rGPeer cs x).P F a) : ∃ t : Value × Value × Value × Value, cs = [.bool x.Up, iv x.Term, iv x.Vote, iv x.Commit, iv x.Role, t.1, t.2.1, t.2.2.1, t.2.2.2] ∧ Sat F [ow (rC GR) t.1 x.Log, ow (rC Bool) t.2.1 x.Votes, ow (rC Int) t.2.2.1 x.Next, ow (rC Int) t.2.2.2 x.Match] a := by obtain ⟨w1, w2, w3, w4, e, s⟩ := h; exact ⟨(w1, w2, w3, w4), e, s⟩
theorem GP.clsD {F a : Heap} {w1 : Value} {w2 : Value} {w3 : Value} {w4 : Value} {l1 : List GR} {l2 : List Bool} {l3 : List Int} {l4 : List Int} {s0 : Bool} {s1 : Int} {s2 : Int} {s3 : Int} {s4 : Int} (s : Sat F [ow (rC GR) w1 l1, ow (rC Bool) w2 l2, ow (rC Int) w3 l3, ow (rC Int) w4 l4] a) : (vl rGPeer [.bool s0, iv s1, iv s2, iv s3, iv s4, w1, w2, w3, w4] ({ Up := s0, Term := s1, Vote := s2, Commit := s3, Role := s4, Log := l1, Votes := l2, Next := l3, Match := l4 } : GP)).P F a := ⟨w1, w2, w3, w4, rfl, s⟩
theorem GP.foD {A : List Item} {B : Nat → Nat → Heap → Heap → Prop} {v : Value} {xs : List GP} {j : Int} {b e : Nat} {x : GP} (he : El (rGPeer.sz) v j b e) (hx : idx xs j = some x) (k : ∀ w1 w2 w3 w4, HT (foc rGPeer v xs j b e [.bool x.Up, iv x.Term, iv x.Vote, iv x.Commit, iv x.Role, w1, w2, w3, w4] :: ow (rC GR) w1 x.Log :: ow (rC Bool) w2 x.Votes :: ow (rC Int) w3 x.Next :: ow (rC Int) w4 x.Match :: A) B) : HT (ow rGPeer v xs :: A) B :=
  HT.focus he hx fun cs => HT.ent Ent.swap (HT.exp (fun (t : Value × Value × Value × Value) => [ow (rC GR) t.1 x.Log, ow (rC Bool) t.2.1 x.Votes, ow (rC Int) t.2.2.1 x.Next, ow (rC Int) t.2.2.2 x.Match]) (fun F a h => GP.opnD h) fun t hc => by subst hc; exact HT.ent (Sl.ent (.p p4 .e)) (k t.1 t.2.1 t.2.2.1 t.2.2.2))
theorem GP.rfD {A : List Item} {B : Nat → Nat → Heap → Heap → Prop} {v : Value} {xs : List GP} {j : Int} {b e : Nat} {x : GP} {z : GP} (he : El (rGPeer.sz) v j b e) (hz : idx xs j = some z) (k : ∀ w1 w2 w3 w4, HT (foc rGPeer v xs j b e [.bool x.Up, iv x.Term, iv x.Vote, iv x.Commit, iv x.Role, w1, w2, w3, w4] :: ow (rC GR) w1 x.Log :: ow (rC Bool) w2 x.Votes :: ow (rC Int) w3 x.Next :: ow (rC Int) w4 x.Match :: A) B) : HT (ow rGPeer v (setI xs j x) :: A) B :=
  HT.refoc he hz fun cs => HT.ent Ent.swap (HT.exp (fun (t : Value × Value × Value × Value) => [ow (rC GR) t.1 x.Log, ow (rC Bool) t.2.1 x.Votes, ow (rC Int) t.2.2.1 x.Next, ow (rC Int) t.2.2.2 x.Match]) (fun F a h => GP.opnD h) fun t hc => by subst hc; exact HT.ent (Sl.ent (.p p4 .e)) (k t.1 t.2.1 t.2.2.1 t.2.2.2))
instance jS1 : Frz rGPeer := ⟨rfl, fun d h => by obtain ⟨t, rfl, s⟩ := GP.opnD h; exact GP.cls (FzL.out (.c (.c (.c (.c .n)))) d s)⟩
theorem GP.nilD {A : List Item} {s0 : Bool} {s1 : Int} {s2 : Int} {s3 : Int} {s4 : Int} : Gh A (vl rGPeer [.bool s0, iv s1, iv s2, iv s3, iv s4, .slice none 0 0, .slice none 0 0, .slice none 0 0, .slice none 0 0] ({ Up := s0, Term := s1, Vote := s2, Commit := s3, Role := s4, Log := [], Votes := [], Next := [], Match := [] } : GP) :: A) := .ent (Ent.add fun F h s => GP.clsD ⟨nilH, nilH, .nil, .refl _, .refl _, ⟨_, rfl, OS.nil⟩, ⟨nilH, nilH, .nil, .refl _, .refl _, ⟨_, rfl, OS.nil⟩, ⟨nilH, nilH, .nil, .refl _, .refl _, ⟨_, rfl, OS.nil⟩, ⟨nilH, nilH, .nil, .refl _, .refl _, ⟨_, rfl, OS.nil⟩, trivial⟩⟩⟩⟩)
theorem GP.unD {A A1 B1 B2 B3 B4 : List Item} {v : Value} {xs : List GP} {j : Int} {b e : Nat} {w1 : Value} {w2 : Value} {w3 : Value} {w4 : Value} {l1 : List GR} {l2 : List Bool} {l3 : List Int} {l4 : List Int} {s0 : Bool} {s1 : Int} {s2 : Int} {s3 : Int} {s4 : Int} (p : Pk A (foc rGPeer v xs j b e [.bool s0, iv s1, iv s2, iv s3, iv s4, w1, w2, w3, w4]) A1) (m1 : Pk A1 (ow (rC GR) w1 l1) B1) (m2 : Pk B1 (ow (rC Bool) w2 l2) B2) (m3 : Pk B2 (ow (rC Int) w3 l3) B3) (m4 : Pk B3 (ow (rC Int) w4 l4) B4) : Gh A (ow rGPeer v (setI xs j ({ Up := s0, Term := s1, Vote := s2, Commit := s3, Role := s4, Log := l1, Votes := l2, Next := l3, Match := l4 } : GP)) :: B4) := .ent ((Sl.ent (.p p (.p m1 (.p m2 (.p m3 (.p m4 .e)))))).trans ((Ent.cons _ (Ent.col (Bs := [ow (rC GR) w1 l1, ow (rC Bool) w2 l2, ow (rC Int) w3 l3, ow (rC Int) w4 l4]) fun F a s => GP.clsD s)).trans Ent.unfoc))
theorem GP.u0D {A A1 B1 B2 B3 B4 : List Item} {v : Value} {xs : List GP} {j : Int} {b e : Nat} {w1 : Value} {w2 : Value} {w3 : Value} {w4 : Value} {x : GP} (hx : idx xs j = some x) (p : Pk A (foc rGPeer v xs j b e [.bool x.Up, iv x.Term, iv x.Vote, iv x.Commit, iv x.Role, w1, w2, w3, w4]) A1) (m1 : Pk A1 (ow (rC GR) w1 x.Log) B1) (m2 : Pk B1 (ow (rC Bool) w2 x.Votes) B2) (m3 : Pk B2 (ow (rC Int) w3 x.Next) B3) (m4 : Pk B3 (ow (rC Int) w4 x.Match) B4) : Gh A (ow rGPeer v xs :: B4) := .ent ((Sl.ent (.p p (.p m1 (.p m2 (.p m3 (.p m4 .e)))))).trans ((Ent.cons _ (Ent.col (Bs := [ow (rC GR) w1 x.Log, ow (rC Bool) w2 x.Votes, ow (rC Int) w3 x.Next, ow (rC Int) w4 x.Match]) fun F a s => GP.clsD s)).trans (Ent.unfoc.trans (Ent.setSame hx))))
instance jS7 : Sg Try.prog 3 := ⟨_, Try.underlying3, rfl⟩
instance jS8 : SzT Try.prog 3 1 := ⟨_, info3, rfl⟩
instance jS9 : AlT Try.prog 3 [iv 0] := ⟨_, _, info3, rfl, rfl, rfl⟩
instance jS10 : Sg Try.prog 4 := ⟨_, Try.underlying4, rfl⟩
instance jS11 : SzT Try.prog 4 1 := ⟨_, info4, rfl⟩
instance jS13 : Sg Try.prog 5 := ⟨_, Try.underlying5, rfl⟩
instance jS33 : Sg Try.prog 9 := ⟨_, Try.underlying9, rfl⟩
instance jS34 : SzT Try.prog 9 1 := ⟨_, info9, rfl⟩
instance jS77 : Sg Try.prog 22 := ⟨_, Try.underlying22, rfl⟩
instance jS78 : SzT Try.prog 22 1 := ⟨_, info22, rfl⟩
instance jS79 : SlT Try.prog 22 1 := ⟨_, _, Try.underlying22, info5, rfl⟩
instance jS80 : ApT Try.prog 22 22 1 := ⟨_, _, _, _, Try.underlying22, Try.underlying22, rfl, info5, rfl, rfl, by decide, rfl⟩
instance jS81 : LtT Try.prog 22 1 := ⟨_, _, _, Try.underlying22, info5, rfl, rfl, rfl, by decide, by decide, rfl⟩
instance jS90 : StT Try.prog 24 3 := ⟨_, _, Try.underlying24, rfl, info24, rfl⟩
instance jS91 : SzT Try.prog 24 3 := ⟨_, info24, rfl⟩
instance jS92 : FdT Try.prog 24 0 0 := ⟨_, _, _, Try.underlying24, rfl, info3, rfl, rfl⟩
instance jS93 : FdT Try.prog 24 1 1 := ⟨_, _, _, Try.underlying24, rfl, info3, rfl, rfl⟩
instance jS94 : FdT Try.prog 24 2 2 := ⟨_, _, _, Try.underlying24, rfl, info22, rfl, rfl⟩
instance jS95 : AlT Try.prog 24 [iv 0, iv 0, .slice none 0 0] := ⟨_, _, info24, rfl, rfl, rfl⟩
instance jS98 : SlT Try.prog 25 3 := ⟨_, _, Try.underlying25, info24, rfl⟩
instance jS99 : ApT Try.prog 25 25 3 := ⟨_, _, _, _, Try.underlying25, Try.underlying25, rfl, info24, rfl, rfl, by decide, rfl⟩
instance jS100 : LtT Try.prog 25 3 := ⟨_, _, _, Try.underlying25, info24, rfl, rfl, rfl, by decide, by decide, rfl⟩
instance jS103 : Sg Try.prog 26 := ⟨_, Try.underlying26, rfl⟩
instance jS104 : SzT Try.prog 26 1 := ⟨_, info26, rfl⟩
instance jS105 : SlT Try.prog 26 9 := ⟨_, _, Try.underlying26, info42, rfl⟩
instance jS106 : ApT Try.prog 26 26 9 := ⟨_, _, _, _, Try.underlying26, Try.underlying26, rfl, info42, rfl, rfl, by decide, rfl⟩
instance jS107 : LtT Try.prog 26 9 := ⟨_, _, _, Try.underlying26, info42, rfl, rfl, rfl, by decide, by decide, rfl⟩
instance jS110 : Sg Try.prog 27 := ⟨_, Try.underlying27, rfl⟩
instance jS111 : SzT Try.prog 27 1 := ⟨_, info27, rfl⟩
instance jS112 : SlT Try.prog 27 9 := ⟨_, _, Try.underlying27, info85, rfl⟩
instance jS113 : ApT Try.prog 27 27 9 := ⟨_, _, _, _, Try.underlying27, Try.underlying27, rfl, info85, rfl, rfl, by decide, rfl⟩
instance jS114 : LtT Try.prog 27 9 := ⟨_, _, _, Try.underlying27, info85, rfl, rfl, rfl, by decide, by decide, rfl⟩
instance jS117 : Sg Try.prog 28 := ⟨_, Try.underlying28, rfl⟩
instance jS118 : SzT Try.prog 28 1 := ⟨_, info28, rfl⟩
instance jS119 : SlT Try.prog 28 3 := ⟨_, _, Try.underlying28, info35, rfl⟩
instance jS120 : ApT Try.prog 28 28 3 := ⟨_, _, _, _, Try.underlying28, Try.underlying28, rfl, info35, rfl, rfl, by decide, rfl⟩
instance jS121 : LtT Try.prog 28 3 := ⟨_, _, _, Try.underlying28, info35, rfl, rfl, rfl, by decide, by decide, rfl⟩
instance jS131 : StT Try.prog 30 4 := ⟨_, _, Try.underlying30, rfl, info30, rfl⟩
instance jS132 : SzT Try.prog 30 4 := ⟨_, info30, rfl⟩
instance jS133 : FdT Try.prog 30 0 0 := ⟨_, _, _, Try.underlying30, rfl, info26, rfl, rfl⟩
instance jS134 : FdT Try.prog 30 1 1 := ⟨_, _, _, Try.underlying30, rfl, info27, rfl, rfl⟩
instance jS135 : FdT Try.prog 30 2 2 := ⟨_, _, _, Try.underlying30, rfl, info28, rfl, rfl⟩
instance jS136 : FdT Try.prog 30 3 3 := ⟨_, _, _, Try.underlying30, rfl, info4, rfl, rfl⟩
instance jS137 : AlT Try.prog 30 [.slice none 0 0, .slice none 0 0, .slice none 0 0, .bool false] := ⟨_, _, info30, rfl, rfl, rfl⟩
instance jS138 : Sg Try.prog 31 := ⟨_, Try.underlying31, rfl⟩
instance jS139 : SzT Try.prog 31 1 := ⟨_, info31, rfl⟩
instance jS140 : SlT Try.prog 31 1 := ⟨_, _, Try.underlying31, info3, rfl⟩
instance jS141 : ApT Try.prog 31 31 1 := ⟨_, _, _, _, Try.underlying31, Try.underlying31, rfl, info3, rfl, rfl, by decide, rfl⟩
instance jS142 : LtT Try.prog 31 1 := ⟨_, _, _, Try.underlying31, info3, rfl, rfl, rfl, by decide, by decide, rfl⟩
instance jS143 : ZrT Try.prog 31 [iv 0] := ⟨_, _, _, Try.underlying31, info3, rfl, rfl⟩
instance jS153 : StT Try.prog 35 3 := ⟨_, _, Try.underlying35, rfl, info35, rfl⟩
instance jS154 : SzT Try.prog 35 3 := ⟨_, info35, rfl⟩
instance jS155 : FdT Try.prog 35 0 0 := ⟨_, _, _, Try.underlying35, rfl, info3, rfl, rfl⟩
instance jS156 : FdT Try.prog 35 1 1 := ⟨_, _, _, Try.underlying35, rfl, info3, rfl, rfl⟩
instance jS157 : FdT Try.prog 35 2 2 := ⟨_, _, _, Try.underlying35, rfl, info22, rfl, rfl⟩
instance jS158 : AlT Try.prog 35 [iv 0, iv 0, .slice none 0 0] := ⟨_, _, info35, rfl, rfl, rfl⟩
instance jS167 : Sg Try.prog 40 := ⟨_, Try.underlying40, rfl⟩
instance jS168 : SzT Try.prog 40 1 := ⟨_, info40, rfl⟩
instance jS169 : SlT Try.prog 40 1 := ⟨_, _, Try.underlying40, info4, rfl⟩
instance jS170 : ApT Try.prog 40 40 1 := ⟨_, _, _, _, Try.underlying40, Try.underlying40, rfl, info4, rfl, rfl, by decide, rfl⟩
instance jS171 : LtT Try.prog 40 1 := ⟨_, _, _, Try.underlying40, info4, rfl, rfl, rfl, by decide, by decide, rfl⟩
instance jS172 : ZrT Try.prog 40 [.bool false] := ⟨_, _, _, Try.underlying40, info4, rfl, rfl⟩
instance jS186 : StT Try.prog 42 9 := ⟨_, _, Try.underlying42, rfl, info42, rfl⟩
instance jS187 : SzT Try.prog 42 9 := ⟨_, info42, rfl⟩
instance jS188 : FdT Try.prog 42 0 0 := ⟨_, _, _, Try.underlying42, rfl, info4, rfl, rfl⟩
instance jS189 : FdT Try.prog 42 1 1 := ⟨_, _, _, Try.underlying42, rfl, info3, rfl, rfl⟩
instance jS190 : FdT Try.prog 42 2 2 := ⟨_, _, _, Try.underlying42, rfl, info3, rfl, rfl⟩
instance jS191 : FdT Try.prog 42 3 3 := ⟨_, _, _, Try.underlying42, rfl, info3, rfl, rfl⟩
instance jS192 : FdT Try.prog 42 4 4 := ⟨_, _, _, Try.underlying42, rfl, info3, rfl, rfl⟩
instance jS193 : FdT Try.prog 42 5 5 := ⟨_, _, _, Try.underlying42, rfl, info28, rfl, rfl⟩
instance jS194 : FdT Try.prog 42 6 6 := ⟨_, _, _, Try.underlying42, rfl, info40, rfl, rfl⟩
instance jS195 : FdT Try.prog 42 7 7 := ⟨_, _, _, Try.underlying42, rfl, info31, rfl, rfl⟩
instance jS196 : FdT Try.prog 42 8 8 := ⟨_, _, _, Try.underlying42, rfl, info31, rfl, rfl⟩
instance jS197 : AlT Try.prog 42 [.bool false, iv 0, iv 0, iv 0, iv 0, .slice none 0 0, .slice none 0 0, .slice none 0 0, .slice none 0 0] := ⟨_, _, info42, rfl, rfl, rfl⟩
instance jS237 : Sg Try.prog 60 := ⟨_, Try.underlying60, rfl⟩
instance jS266 : FdT Try.prog 71 0 0 := ⟨_, _, _, Try.underlying71, rfl, info30, rfl, rfl⟩
instance jS308 : StT Try.prog 85 9 := ⟨_, _, Try.underlying85, rfl, info85, rfl⟩
instance jS309 : SzT Try.prog 85 9 := ⟨_, info85, rfl⟩
instance jS310 : FdT Try.prog 85 0 0 := ⟨_, _, _, Try.underlying85, rfl, info3, rfl, rfl⟩
instance jS311 : FdT Try.prog 85 1 1 := ⟨_, _, _, Try.underlying85, rfl, info3, rfl, rfl⟩
instance jS312 : FdT Try.prog 85 2 2 := ⟨_, _, _, Try.underlying85, rfl, info3, rfl, rfl⟩
instance jS313 : FdT Try.prog 85 3 3 := ⟨_, _, _, Try.underlying85, rfl, info3, rfl, rfl⟩
instance jS314 : FdT Try.prog 85 4 4 := ⟨_, _, _, Try.underlying85, rfl, info3, rfl, rfl⟩
instance jS315 : FdT Try.prog 85 5 5 := ⟨_, _, _, Try.underlying85, rfl, info3, rfl, rfl⟩
instance jS316 : FdT Try.prog 85 6 6 := ⟨_, _, _, Try.underlying85, rfl, info3, rfl, rfl⟩
instance jS317 : FdT Try.prog 85 7 7 := ⟨_, _, _, Try.underlying85, rfl, info4, rfl, rfl⟩
instance jS318 : FdT Try.prog 85 8 8 := ⟨_, _, _, Try.underlying85, rfl, info28, rfl, rfl⟩
instance jS319 : AlT Try.prog 85 [iv 0, iv 0, iv 0, iv 0, iv 0, iv 0, iv 0, .bool false, .slice none 0 0] := ⟨_, _, info85, rfl, rfl, rfl⟩
instance jS324 : Sg Try.prog 88 := ⟨_, Try.underlying88, rfl⟩
instance jS325 : SzT Try.prog 88 1 := ⟨_, info88, rfl⟩
instance jS326 : AlT Try.prog 88 [.pointer none] := ⟨_, _, info88, rfl, rfl, rfl⟩
instance jS347 : FdT Try.prog 96 0 0 := ⟨_, _, _, Try.underlying96, rfl, info22, rfl, rfl⟩
instance jS348 : FdT Try.prog 96 1 1 := ⟨_, _, _, Try.underlying96, rfl, info3, rfl, rfl⟩
instance jS349 : FdT Try.prog 96 2 2 := ⟨_, _, _, Try.underlying96, rfl, info3, rfl, rfl⟩
instance jS366 : StT Try.prog 100 8 := ⟨_, _, Try.underlying100, rfl, info100, rfl⟩
instance jS367 : SzT Try.prog 100 8 := ⟨_, info100, rfl⟩
instance jS368 : FdT Try.prog 100 0 0 := ⟨_, _, _, Try.underlying100, rfl, info3, rfl, rfl⟩
instance jS369 : FdT Try.prog 100 1 1 := ⟨_, _, _, Try.underlying100, rfl, info3, rfl, rfl⟩
instance jS370 : FdT Try.prog 100 2 2 := ⟨_, _, _, Try.underlying100, rfl, info9, rfl, rfl⟩
instance jS371 : FdT Try.prog 100 3 3 := ⟨_, _, _, Try.underlying100, rfl, info3, rfl, rfl⟩
instance jS372 : FdT Try.prog 100 4 4 := ⟨_, _, _, Try.underlying100, rfl, info9, rfl, rfl⟩
instance jS373 : FdT Try.prog 100 5 5 := ⟨_, _, _, Try.underlying100, rfl, info9, rfl, rfl⟩
instance jS374 : FdT Try.prog 100 6 6 := ⟨_, _, _, Try.underlying100, rfl, info4, rfl, rfl⟩
instance jS375 : FdT Try.prog 100 7 7 := ⟨_, _, _, Try.underlying100, rfl, info4, rfl, rfl⟩
instance jS376 : AlT Try.prog 100 [iv 0, iv 0, str ([] : List UInt8), iv 0, str ([] : List UInt8), str ([] : List UInt8), .bool false, .bool false] := ⟨_, _, info100, rfl, rfl, rfl⟩
instance jS405 : SlT Try.prog 115 1 := ⟨_, _, Try.underlying115, info9, rfl⟩
instance jS407 : LtT Try.prog 115 1 := ⟨_, _, _, Try.underlying115, info9, rfl, rfl, rfl, by decide, by decide, rfl⟩
instance jS506 : ApT Try.prog 22 9 1 := ⟨_, _, _, _, Try.underlying22, Try.underlying9, rfl, info5, rfl, rfl, by decide, rfl⟩
instance jS509 : BsT Try.prog 22 9 := ⟨_, Try.underlying22, Try.underlying9, Try.underlying5⟩
instance jS518 : FnT Try.prog 8 := ⟨_, Try.func8, rfl, rfl⟩
instance jS520 : FnT Try.prog 10 := ⟨_, Try.func10, rfl, rfl⟩
instance jS521 : FnT Try.prog 11 := ⟨_, Try.func11, rfl, rfl⟩
instance jS522 : FnT Try.prog 12 := ⟨_, Try.func12, rfl, rfl⟩
instance jS523 : FnT Try.prog 13 := ⟨_, Try.func13, rfl, rfl⟩
instance jS524 : FnT Try.prog 14 := ⟨_, Try.func14, rfl, rfl⟩
instance jS525 : FnT Try.prog 15 := ⟨_, Try.func15, rfl, rfl⟩
instance jS526 : FnT Try.prog 16 := ⟨_, Try.func16, rfl, rfl⟩
instance jS537 : FnT Try.prog 27 := ⟨_, Try.func27, rfl, rfl⟩
instance jS538 : FnT Try.prog 28 := ⟨_, Try.func28, rfl, rfl⟩
instance jS539 : FnT Try.prog 29 := ⟨_, Try.func29, rfl, rfl⟩
instance jS540 : FnT Try.prog 30 := ⟨_, Try.func30, rfl, rfl⟩
instance jS541 : FnT Try.prog 31 := ⟨_, Try.func31, rfl, rfl⟩
instance jS542 : FnT Try.prog 32 := ⟨_, Try.func32, rfl, rfl⟩
instance jS543 : FnT Try.prog 33 := ⟨_, Try.func33, rfl, rfl⟩
instance jS544 : FnT Try.prog 34 := ⟨_, Try.func34, rfl, rfl⟩
instance jS545 : FnT Try.prog 35 := ⟨_, Try.func35, rfl, rfl⟩
instance jS546 : FnT Try.prog 36 := ⟨_, Try.func36, rfl, rfl⟩
instance jS547 : FnT Try.prog 37 := ⟨_, Try.func37, rfl, rfl⟩
instance jS548 : FnT Try.prog 38 := ⟨_, Try.func38, rfl, rfl⟩
instance jS549 : FnT Try.prog 39 := ⟨_, Try.func39, rfl, rfl⟩
instance jS550 : FnT Try.prog 40 := ⟨_, Try.func40, rfl, rfl⟩
instance jS551 : FnT Try.prog 41 := ⟨_, Try.func41, rfl, rfl⟩
instance jS565 : FnT Try.prog 55 := ⟨_, Try.func55, rfl, rfl⟩
instance jS566 : FnT Try.prog 56 := ⟨_, Try.func56, rfl, rfl⟩
instance jS567 : FnT Try.prog 57 := ⟨_, Try.func57, rfl, rfl⟩
instance jS568 : FnT Try.prog 58 := ⟨_, Try.func58, rfl, rfl⟩
instance jS569 : FnT Try.prog 59 := ⟨_, Try.func59, rfl, rfl⟩
instance jS570 : FnT Try.prog 60 := ⟨_, Try.func60, rfl, rfl⟩
instance jS571 : FnT Try.prog 61 := ⟨_, Try.func61, rfl, rfl⟩
instance jS572 : FnT Try.prog 62 := ⟨_, Try.func62, rfl, rfl⟩
instance jS573 : FnT Try.prog 63 := ⟨_, Try.func63, rfl, rfl⟩
instance jS574 : FnT Try.prog 64 := ⟨_, Try.func64, rfl, rfl⟩
instance jS575 : FnT Try.prog 65 := ⟨_, Try.func65, rfl, rfl⟩
instance jS576 : FnT Try.prog 66 := ⟨_, Try.func66, rfl, rfl⟩
instance jS577 : FnT Try.prog 67 := ⟨_, Try.func67, rfl, rfl⟩
instance jS578 : FnT Try.prog 68 := ⟨_, Try.func68, rfl, rfl⟩
instance jS579 : FnT Try.prog 69 := ⟨_, Try.func69, rfl, rfl⟩
instance jS580 : FnT Try.prog 70 := ⟨_, Try.func70, rfl, rfl⟩
instance jS581 : FnT Try.prog 71 := ⟨_, Try.func71, rfl, rfl⟩
instance jS582 : FnT Try.prog 72 := ⟨_, Try.func72, rfl, rfl⟩
instance jS583 : FnT Try.prog 73 := ⟨_, Try.func73, rfl, rfl⟩
instance jS584 : FnT Try.prog 74 := ⟨_, Try.func74, rfl, rfl⟩
instance jS585 : FnT Try.prog 75 := ⟨_, Try.func75, rfl, rfl⟩
instance jS595 : FnT Try.prog 85 := ⟨_, Try.func85, rfl, rfl⟩
instance jS596 : FnT Try.prog 86 := ⟨_, Try.func86, rfl, rfl⟩
instance jS597 : FnT Try.prog 87 := ⟨_, Try.func87, rfl, rfl⟩
instance jS598 : FnT Try.prog 88 := ⟨_, Try.func88, rfl, rfl⟩
instance jS599 : FnT Try.prog 89 := ⟨_, Try.func89, rfl, rfl⟩
instance jS600 : FnT Try.prog 90 := ⟨_, Try.func90, rfl, rfl⟩
instance jS601 : FnT Try.prog 91 := ⟨_, Try.func91, rfl, rfl⟩
instance jS602 : FnT Try.prog 92 := ⟨_, Try.func92, rfl, rfl⟩
instance jS603 : FnT Try.prog 93 := ⟨_, Try.func93, rfl, rfl⟩
instance jS604 : FnT Try.prog 94 := ⟨_, Try.func94, rfl, rfl⟩
instance jS605 : FnT Try.prog 95 := ⟨_, Try.func95, rfl, rfl⟩
instance jS606 : FnT Try.prog 96 := ⟨_, Try.func96, rfl, rfl⟩
instance jS607 : FnT Try.prog 97 := ⟨_, Try.func97, rfl, rfl⟩
instance jS608 : FnT Try.prog 98 := ⟨_, Try.func98, rfl, rfl⟩
instance jS609 : FnT Try.prog 99 := ⟨_, Try.func99, rfl, rfl⟩
instance jS610 : FnT Try.prog 100 := ⟨_, Try.func100, rfl, rfl⟩
instance jS611 : FnT Try.prog 101 := ⟨_, Try.func101, rfl, rfl⟩
instance jS612 : FnT Try.prog 102 := ⟨_, Try.func102, rfl, rfl⟩
instance jS613 : FnT Try.prog 103 := ⟨_, Try.func103, rfl, rfl⟩
instance jS614 : FnT Try.prog 104 := ⟨_, Try.func104, rfl, rfl⟩
instance jS615 : FnT Try.prog 105 := ⟨_, Try.func105, rfl, rfl⟩
instance jS616 : FnT Try.prog 106 := ⟨_, Try.func106, rfl, rfl⟩
instance jS617 : FnT Try.prog 107 := ⟨_, Try.func107, rfl, rfl⟩
instance jS618 : FnT Try.prog 108 := ⟨_, Try.func108, rfl, rfl⟩
instance jS619 : FnT Try.prog 109 := ⟨_, Try.func109, rfl, rfl⟩
instance jS620 : FnT Try.prog 110 := ⟨_, Try.func110, rfl, rfl⟩
instance jS622 : FnT Try.prog 112 := ⟨_, Try.func112, rfl, rfl⟩
instance jS623 : FnT Try.prog 113 := ⟨_, Try.func113, rfl, rfl⟩
instance jS624 : FnT Try.prog 114 := ⟨_, Try.func114, rfl, rfl⟩
instance jS625 : FnT Try.prog 115 := ⟨_, Try.func115, rfl, rfl⟩
instance jS626 : FnT Try.prog 116 := ⟨_, Try.func116, rfl, rfl⟩
instance jS627 : FnT Try.prog 117 := ⟨_, Try.func117, rfl, rfl⟩
instance jS628 : FnT Try.prog 118 := ⟨_, Try.func118, rfl, rfl⟩
instance jS629 : FnT Try.prog 119 := ⟨_, Try.func119, rfl, rfl⟩
end Go.Proofs.YtlpcdcpcfeaecaaAb
end
section
set_option maxRecDepth 20000
namespace Go.Proofs.YtlpcdcpcfeaecaaAb
open Go Go.Proofs
theorem v29zk {Δ : Prims} (g : Env Try.prog Δ) {lo lo2 n0 : Nat} {H0 F0 : Heap} (hS : St lo n0 H0 F0) {a : Option Addr} {m cap : Nat} {xs1 : List GM} {x2 x3 : Int} (h : OW lo2 n0 H0 F0 (.slice a m cap) xs1) (hlo : lo ≤ lo2) {res : List GM} (hr : v29z xs1 x2 x3 = some res) :
    C Try.prog Δ lo 56 [.slice a m cap, .int .i64 x2, .int .i64 x3] n0 H0 (fun v n H => ∃ (a' : Option Addr) (cap' : Nat), n = n0 ∧ St lo n0 H F0 ∧ v = .slice a' res.length cap' ∧ OW lo2 n0 H F0 (.slice a' res.length cap') res ∧ (∀ j, idOf (.slice a m cap) ≠ some j → H j = H0 j) ∧ (∀ j, idOf (.slice a' res.length cap') = some j → idOf (.slice a m cap) = some j)) := by
  obtain ⟨⟨h0, h1, h2⟩, hr2⟩ := cS hr
  clear hr
  subst h1
  obtain rfl := Option.some.inj hr2
  obtain ⟨hlt, hfn, cs, hs, hra⟩ := h
  obtain ⟨i, rfl⟩ := Int.eq_ofNat_of_zero_le h0
  have hiL : i < xs1.length := by omega
  have e1 : ((i : Int) + 1) = ((i + 1 : Nat) : Int) := by omega
  rw [e1]
  have hit : ((i : Int)).toNat = i := Int.toNat_natCast i
  rw [hit]
  rcases hs with ⟨hv, hl, _⟩ | ⟨b, k, cap', c, hv, hb, hc, hcl, g1, g2, g3, g4⟩
  · omega
  obtain ⟨rfl, rfl, rfl⟩ : a = some ⟨b, k, none⟩ ∧ m = xs1.length ∧ cap = cap' := by cases hv; exact ⟨rfl, rfl, rfl⟩
  have hsz : Rp.sz GM = 9 := rfl
  rw [hsz] at hcl hc hb
  have hfit : k + xs1.length * 9 ≤ c.length := row_fit hc hcl (by omega)
  have hL : xs1.length ≤ lb xs1.length cap := le_lb
  have hel : (xs1.take i ++ xs1.drop (i + 1)).length = xs1.length - 1 := by simp; omega
  have hra2 := (hra.take i).append (hra.drop (i + 1))
  rw [hsz] at hra2
  have hnl : (cs.drop ((i + 1) * 9)).length = (xs1.length - (i + 1)) * 9 := by rw [List.length_drop, hcl, Nat.sub_mul]
  have hn2 : (c.drop (k + (i + 1) * 9)).take ((xs1.length - (i + 1)) * 9) = cs.drop ((i + 1) * 9) := by
    rw [← hc, List.drop_take, List.drop_drop, Nat.sub_mul]
  have hnone : ∀ v ∈ cs.drop ((i + 1) * 9), v.oneCell' = true := fun v hv => hra.one v (List.mem_of_mem_drop hv)
  refine C.body Try.func56 rfl rfl ?_
  with_reducible refine W.seq ?_
  with_reducible refine W.region ?_
  refine WL.assign .nil rfl rfl rfl rfl ?_
  with_reducible refine WL.nil ?_
  with_reducible refine Ex.thn_norm ?_
  with_reducible refine W.seq ?_
  with_reducible refine W.region ?_
  refine WL.move .nil rfl rfl rfl rfl ?_
  refine WL.move .nil rfl rfl rfl rfl ?_
  refine WL.move .nil rfl rfl rfl rfl ?_
  refine WL.move .nil rfl rfl rfl rfl ?_
  refine WL.len .nil rfl rfl rfl Try.underlying27 rfl ?_
  refine WL.slice (h := i + 1) (m := xs1.length) .nil rfl rfl rfl Try.underlying27 info85 rfl hb rfl ⟨_, rfl⟩ ⟨_, rfl⟩ ⟨_, rfl⟩ hL (fun _ => rfl) (by omega) (by omega) ?_
  with_reducible refine WL.nil ?_
  with_reducible refine Ex.thn_norm ?_
  with_reducible refine W.seq ?_
  with_reducible refine W.seq ?_
  with_reducible refine W.region ?_
  refine WL.move .nil rfl rfl rfl rfl ?_
  refine WL.move .nil rfl rfl rfl rfl ?_
  refine WL.bin .nil rfl rfl rfl rfl rfl rfl ?_
  with_reducible refine WL.nil ?_
  with_reducible refine Ex.thn_norm ?_
  refine W.condD (p := (i : Int) = ((i + 1 : Nat) : Int)) rfl (fun hc => absurd hc (by omega)) (fun _ => ?_)
  with_reducible refine W.skip ?_
  with_reducible refine Ex.thn_norm ?_
  with_reducible refine W.seq ?_
  with_reducible refine W.region ?_
  refine WL.move .nil rfl rfl rfl rfl ?_
  refine WL.len .nil rfl rfl rfl Try.underlying27 rfl ?_
  refine WL.assign .nil rfl rfl rfl rfl ?_
  with_reducible refine WL.nil ?_
  with_reducible refine Ex.thn_norm ?_
  with_reducible refine W.seq ?_
  refine W.regionD [0, 1, 2, 3, 4, 5, 6, 7] [false, false, false, false, false, false, true, false] rfl rfl (by kernel_rfl) (by kernel_rfl) (by (conv => lhs; simp only [List.map_cons, List.map_nil, List.getD_cons_zero, List.getD_cons_succ]) <;> rfl) ?_
  refine WL.move .r rfl rfl rfl rfl ?_
  refine WL.move .r rfl rfl rfl rfl ?_
  refine WL.slice (h := i) (m := lb xs1.length cap) .r rfl rfl rfl Try.underlying27 info85 rfl hb rfl rfl rfl ⟨_, rfl⟩ (Nat.le_refl _) (fun h => by cases h) (by omega) (by omega) ?_
  refine WL.move .r rfl rfl rfl rfl ?_
  refine WL.move .r rfl rfl rfl rfl ?_
  refine WL.slice (h := xs1.length) (m := lb xs1.length cap) .r rfl rfl rfl Try.underlying27 info85 rfl hb rfl rfl ⟨_, rfl⟩ rfl (Nat.le_refl _) (fun h => by cases h) (by omega) (by omega) ?_
  have ei : i - 0 = i := Nat.sub_zero i
  have ek : k + 0 * Try.t85.size = k := by omega
  have ec : lb xs1.length cap - 0 = lb xs1.length cap := Nat.sub_zero _
  rw [ei, ek, ec]
  have key : ∀ (c2 : List Value), c2.length = c.length → (c2.drop k).take ((xs1.length - 1) * 9) = cs.take (i * 9) ++ cs.drop ((i + 1) * 9) → ∀ (H1 : Heap), St lo n0 H1 F0 → H1 b = some (.row 9 c2) → (∀ j, j ≠ b → H1 j = H0 j) →
      ∃ (a' : Option Addr) (cap' : Nat), n0 = n0 ∧ St lo n0 H1 F0 ∧ Value.slice (some ⟨b, k, none⟩) (xs1.length - 1) (UNK + lb xs1.length cap) = .slice a' (xs1.take i ++ xs1.drop (i + 1)).length cap' ∧ OW lo2 n0 H1 F0 (.slice a' (xs1.take i ++ xs1.drop (i + 1)).length cap') (xs1.take i ++ xs1.drop (i + 1)) ∧ (∀ j, idOf (.slice (some ⟨b, k, none⟩) xs1.length cap) ≠ some j → H1 j = H0 j) ∧ (∀ j, idOf (.slice a' (xs1.take i ++ xs1.drop (i + 1)).length cap') = some j → idOf (.slice (some ⟨b, k, none⟩) xs1.length cap) = some j) := fun c2 hl hw H1 hS1 hb1 hk1 => by
    refine ⟨some ⟨b, k, none⟩, UNK + lb xs1.length cap, rfl, hS1, by rw [hel], ⟨by rw [hel]; omega, fun j hj => hfn j (by simpa [idOf] using hj), _, .inr ⟨b, k, _, c2, rfl, hb1, ?_, ?_, g1, g2, by omega, .inr (by omega)⟩, hra2⟩, fun j hj => hk1 j (fun e => hj (by simp [idOf, e])), fun j hj => by simpa [idOf] using hj⟩
    · rw [hel]; exact hw
    · rw [hel, hsz, List.length_append, List.length_take, hnl, hcl]; omega
  have eL : xs1.length - (xs1.length - 1) = 1 := by omega
  have hct : cs.take (i * 9) = (c.drop k).take (i * 9) := by rw [← hc, List.take_take, Nat.min_eq_left (by omega)]
  by_cases hlast : i + 1 = xs1.length
  · have e0 : xs1.length - (i + 1) = 0 := by omega
    have eI : i = xs1.length - 1 := by omega
    rw [e0]
    have hw1 : (c.drop k).take ((xs1.length - 1) * 9) = cs.take (i * 9) ++ cs.drop ((i + 1) * 9) := by
      have h9 : cs.drop ((i + 1) * 9) = [] := by rw [hlast, ← hcl, List.drop_length]
      rw [h9, List.append_nil, hct, ← eI]
    refine WL.append0 .w rfl rfl rfl Try.underlying27 info85 rfl (.slice Try.underlying27 rfl rfl hb (by simp) (by simp)) ?_
    refine WL.assign .r rfl rfl rfl rfl ?_
    rw [show Value.slice (some ⟨b, k, none⟩) i (UNK + lb xs1.length cap) = Value.slice (some ⟨b, k, none⟩) (xs1.length - 1) (UNK + lb xs1.length cap) from by rw [← eI]]
    with_reducible refine WL.nil ?_
    with_reducible refine Ex.thn_norm ?_
    with_reducible refine W.seq ?_
    with_reducible refine W.region ?_
    refine WL.move .nil rfl rfl rfl rfl ?_
    refine WL.move .nil rfl rfl rfl rfl ?_
    refine WL.len .nil rfl rfl rfl Try.underlying27 rfl ?_
    refine WL.move .nil rfl rfl rfl rfl ?_
    refine WL.slice (h := xs1.length) (m := lb (xs1.length - 1) (UNK + lb xs1.length cap)) .nil rfl rfl rfl Try.underlying27 info85 rfl hb rfl rfl ⟨_, rfl⟩ ⟨_, rfl⟩ (Nat.le_refl _) (fun h => by cases h) (by omega) (by rw [lb_unk]; omega) ?_
    refine WL.clear .nil rfl rfl rfl Try.underlying27 info85 rfl rfl rfl rfl hb (by show k + (xs1.length - 1) * 9 + (xs1.length - (xs1.length - 1)) * 9 ≤ c.length; omega) (by omega) g2 (by omega) ?_
    with_reducible refine WL.nil ?_
    with_reducible refine Ex.thn_norm ?_
    with_reducible refine W.seq ?_
    with_reducible refine W.region ?_
    refine WL.move .nil rfl rfl rfl rfl ?_
    refine WL.assign .nil rfl rfl rfl rfl ?_
    with_reducible refine WL.nil ?_
    with_reducible refine Ex.thn_norm ?_
    with_reducible refine W.ret ?_
    repeat (with_reducible refine Ex.thn_ret ?_)
    refine ⟨.inr rfl, _, resl1 rfl, key _ (by rw [length_splice (by rw [eL]; show k + (xs1.length - 1) * 9 + 9 ≤ c.length; omega)]) ((win_behind (by rw [eL]; show k + (xs1.length - 1) * 9 + 9 ≤ c.length; omega)).trans hw1) _ (hS.set g2 (hfn b rfl) _) (Heap.set_same _ _ _) (fun j hj => Heap.set_ne _ _ hj)⟩
  · have hl1 : (splice c (k + i * Try.t85.size) (cs.drop ((i + 1) * 9))).length = c.length := length_splice (by rw [hnl]; show k + i * 9 + (xs1.length - (i + 1)) * 9 ≤ c.length; omega)
    have hw2 : ((splice c (k + i * Try.t85.size) (cs.drop ((i + 1) * 9))).drop k).take ((xs1.length - 1) * 9) = cs.take (i * 9) ++ cs.drop ((i + 1) * 9) := by
      have h8 : ((splice c (k + i * 9) (cs.drop ((i + 1) * 9))).drop k).take ((xs1.length - 1) * 9) = splice ((c.drop k).take ((xs1.length - 1) * 9)) (i * 9) (cs.drop ((i + 1) * 9)) := take_drop_splice (by omega) (by rw [hnl]; omega)
      refine Eq.trans h8 ?_
      unfold splice
      rw [List.take_take, Nat.min_eq_left (by omega), ← hct, List.drop_of_length_le (l := List.take ((xs1.length - 1) * 9) (List.drop k c)) (by rw [List.length_take, hnl]; omega), List.append_nil]
    refine WL.appendI (m := xs1.length - (i + 1)) (news := cs.drop ((i + 1) * 9)) .w rfl rfl rfl Try.underlying27 info85 rfl (.slice Try.underlying27 rfl rfl hb hn2 hnl) hb (by rw [lb_unk]; omega) (by show k + (i + (xs1.length - (i + 1))) * 9 ≤ c.length; omega) (by omega) g2 hnone (by omega) ?_
    refine WL.assign .r rfl rfl rfl rfl ?_
    rw [show i + (xs1.length - (i + 1)) = xs1.length - 1 by omega]
    with_reducible refine WL.nil ?_
    with_reducible refine Ex.thn_norm ?_
    with_reducible refine W.seq ?_
    with_reducible refine W.region ?_
    refine WL.move .nil rfl rfl rfl rfl ?_
    refine WL.move .nil rfl rfl rfl rfl ?_
    refine WL.len .nil rfl rfl rfl Try.underlying27 rfl ?_
    refine WL.move .nil rfl rfl rfl rfl ?_
    refine WL.slice (h := xs1.length) (m := lb (xs1.length - 1) (UNK + lb xs1.length cap)) .nil rfl rfl rfl Try.underlying27 info85 rfl (Heap.set_same _ _ _) rfl rfl ⟨_, rfl⟩ ⟨_, rfl⟩ (Nat.le_refl _) (fun h => by cases h) (by omega) (by rw [lb_unk]; omega) ?_
    refine WL.clear .nil rfl rfl rfl Try.underlying27 info85 rfl rfl rfl rfl (Heap.set_same _ _ _) (by rw [hl1]; show k + (xs1.length - 1) * 9 + (xs1.length - (xs1.length - 1)) * 9 ≤ c.length; omega) (by omega) g2 (by omega) ?_
    with_reducible refine WL.nil ?_
    with_reducible refine Ex.thn_norm ?_
    with_reducible refine W.seq ?_
    with_reducible refine W.region ?_
    refine WL.move .nil rfl rfl rfl rfl ?_
    refine WL.assign .nil rfl rfl rfl rfl ?_
    with_reducible refine WL.nil ?_
    with_reducible refine Ex.thn_norm ?_
    with_reducible refine W.ret ?_
    repeat (with_reducible refine Ex.thn_ret ?_)
    refine ⟨.inr rfl, _, resl1 rfl, key _ ((length_splice (by rw [hl1, eL]; show k + (xs1.length - 1) * 9 + 9 ≤ c.length; omega)).trans hl1) ((win_behind (by rw [hl1, eL]; show k + (xs1.length - 1) * 9 + 9 ≤ c.length; omega)).trans hw2) _ ((hS.set g2 (hfn b rfl) _).set g2 (hfn b rfl) _) (Heap.set_same _ _ _) (fun j hj => (Heap.set_ne _ _ hj).trans (Heap.set_ne _ _ hj))⟩
end Go.Proofs.YtlpcdcpcfeaecaaAb
end
section
set_option maxRecDepth 20000
namespace Go.Proofs.YtlpcdcpcfeaecaaAb
open Go Go.Proofs
section
variable {P : Program} {Δ : Prims} {lo : Nat} {fr : Fr} {n : Nat} {H : Heap} {Q : Post} {all : Array Oper} {l : List Oper} {o : Oper} {d : Nat}
theorem WL.addU {fl fl2 : List Bool} {lw : Nat} (hfl : IsFl fl lo n lw fl2) {t t' : TypeId} {x y : Operand} {a b r : Int} (ho : o.op = .binOp .add t x y t') (hd : o.dst = some d) (hw : wA all o fr = some true) (hx : fr.eval x = some (.int .u64 a)) (hy : fr.eval y = some (.int .u64 b)) (hr : a + b = r)
    (h1 : 0 ≤ r) (h2 : r < 18446744073709551616) (kk : WL P Δ lo fl2 all l ((d, .int .u64 r) :: fr) n H Q) : WL P Δ lo fl all (o :: l) fr n H Q :=
  WL.bin hfl ho hd hw hx hy (by simp only [binI, if_true]; rw [hr, wrap_in (k := .u64) h1 (by rw [topU64]; exact h2)]) kk
theorem WL.mulU {fl fl2 : List Bool} {lw : Nat} (hfl : IsFl fl lo n lw fl2) {t t' : TypeId} {x y : Operand} {a b r : Int} (ho : o.op = .binOp .mul t x y t') (hd : o.dst = some d) (hw : wA all o fr = some true) (hx : fr.eval x = some (.int .u64 a)) (hy : fr.eval y = some (.int .u64 b)) (hr : a * b = r)
    (h1 : 0 ≤ r) (h2 : r < 18446744073709551616) (kk : WL P Δ lo fl2 all l ((d, .int .u64 r) :: fr) n H Q) : WL P Δ lo fl all (o :: l) fr n H Q :=
  WL.bin hfl ho hd hw hx hy (by simp only [binI, if_true]; rw [hr, wrap_in (k := .u64) h1 (by rw [topU64]; exact h2)]) kk
theorem WL.andU {fl fl2 : List Bool} {lw : Nat} (hfl : IsFl fl lo n lw fl2) {t t' : TypeId} {x y : Operand} {a b r : Nat} (ho : o.op = .binOp .and t x y t') (hd : o.dst = some d) (hw : wA all o fr = some true) (hx : fr.eval x = some (.int .u64 (a : Int))) (hy : fr.eval y = some (.int .u64 (b : Int))) (hr : a &&& b = r)
    (ha : a < 18446744073709551616) (hb : b < 18446744073709551616) (kk : WL P Δ lo fl2 all l ((d, .int .u64 (r : Int)) :: fr) n H Q) : WL P Δ lo fl all (o :: l) fr n H Q :=
  WL.andN hfl ho hd hw hx hy topU64 (Int.toNat_natCast a) (Int.toNat_natCast b) (by omega) (by omega) (by omega) (by omega) (fun _ => by rw [hr]; exact kk)
theorem WL.shrU {fl fl2 : List Bool} {lw : Nat} (hfl : IsFl fl lo n lw fl2) {t t' : TypeId} {x y : Operand} {k' : IntKind} {a r : Nat} (ho : o.op = .binOp .shr t x y t') (hd : o.dst = some d) (hw : wA all o fr = some true) (hx : fr.eval x = some (.int .u64 (a : Int))) (hy : fr.eval y = some (.int k' 32)) (hr : a / 4294967296 = r)
    (kk : WL P Δ lo fl2 all l ((d, .int .u64 (r : Int)) :: fr) n H Q) : WL P Δ lo fl all (o :: l) fr n H Q :=
  WL.shrN (bn := 4294967296) hfl ho hd hw hx hy (Int.toNat_natCast a) rfl (by omega) (by decide) (by decide) (fun _ => by rw [hr]; exact kk)
end
theorem and_low {c : Nat} (h : c < 4294967296) : c &&& 4294967295 = c := by
  have := Nat.and_two_pow_sub_one_eq_mod c 32
  rw [Nat.mod_eq_of_lt (by omega)] at this
  exact this
theorem mul64_k {Δ : Prims} {lo n0 : Nat} {H0 : Heap} {c : Nat} (hc : c < 100000) : C Try.prog Δ lo 122 [.int .u64 ((1 : Nat) : Int), .int .u64 (c : Int)] n0 H0 (fun v n H => n = n0 ∧ H = H0 ∧ v = .tuple #[.int .u64 ((0 : Nat) : Int), .int .u64 (c : Int)]) := by
  refine C.body Try.func122 rfl rfl ?_
  repeat (with_reducible refine W.seq ?_)
  with_reducible refine W.region ?_
  refine WL.assign .nil rfl rfl rfl rfl ?_
  refine WL.assign .nil rfl rfl rfl rfl ?_
  with_reducible refine WL.nil ?_
  repeat (with_reducible refine Ex.thn_norm ?_)
  repeat (with_reducible refine W.seq ?_)
  with_reducible refine W.region ?_
  refine WL.move .nil rfl rfl rfl rfl ?_
  refine WL.andU (a := 1) (b := 4294967295) (r := 1) .nil rfl rfl rfl rfl rfl rfl (by omega) (by omega) ?_
  refine WL.assign .nil rfl rfl rfl rfl ?_
  with_reducible refine WL.nil ?_
  repeat (with_reducible refine Ex.thn_norm ?_)
  repeat (with_reducible refine W.seq ?_)
  with_reducible refine W.region ?_
  refine WL.move .nil rfl rfl rfl rfl ?_
  refine WL.shrU (a := 1) (r := 0) .nil rfl rfl rfl rfl rfl rfl ?_
  refine WL.assign .nil rfl rfl rfl rfl ?_
  with_reducible refine WL.nil ?_
  repeat (with_reducible refine Ex.thn_norm ?_)
  repeat (with_reducible refine W.seq ?_)
  with_reducible refine W.region ?_
  refine WL.move .nil rfl rfl rfl rfl ?_
  refine WL.andU (a := c) (b := 4294967295) (r := c) .nil rfl rfl rfl rfl rfl (and_low (by omega)) (by omega) (by omega) ?_
  refine WL.assign .nil rfl rfl rfl rfl ?_
  with_reducible refine WL.nil ?_
  repeat (with_reducible refine Ex.thn_norm ?_)
  repeat (with_reducible refine W.seq ?_)
  with_reducible refine W.region ?_
  refine WL.move .nil rfl rfl rfl rfl ?_
  refine WL.shrU (a := c) (r := 0) .nil rfl rfl rfl rfl rfl (by omega) ?_
  refine WL.assign .nil rfl rfl rfl rfl ?_
  with_reducible refine WL.nil ?_
  repeat (with_reducible refine Ex.thn_norm ?_)
  repeat (with_reducible refine W.seq ?_)
  with_reducible refine W.region ?_
  refine WL.move .nil rfl rfl rfl rfl ?_
  refine WL.move .nil rfl rfl rfl rfl ?_
  refine WL.mulU (r := (c : Int)) .nil rfl rfl rfl rfl rfl (by omega) (by omega) (by omega) ?_
  refine WL.assign .nil rfl rfl rfl rfl ?_
  with_reducible refine WL.nil ?_
  repeat (with_reducible refine Ex.thn_norm ?_)
  repeat (with_reducible refine W.seq ?_)
  with_reducible refine W.region ?_
  refine WL.move .nil rfl rfl rfl rfl ?_
  refine WL.move .nil rfl rfl rfl rfl ?_
  refine WL.mulU (r := ((0 : Nat) : Int)) .nil rfl rfl rfl rfl rfl (by omega) (by omega) (by omega) ?_
  refine WL.move .nil rfl rfl rfl rfl ?_
  refine WL.shrU (a := c) (r := 0) .nil rfl rfl rfl rfl rfl (by omega) ?_
  refine WL.addU (r := ((0 : Nat) : Int)) .nil rfl rfl rfl rfl rfl (by omega) (by omega) (by omega) ?_
  refine WL.assign .nil rfl rfl rfl rfl ?_
  with_reducible refine WL.nil ?_
  repeat (with_reducible refine Ex.thn_norm ?_)
  repeat (with_reducible refine W.seq ?_)
  with_reducible refine W.region ?_
  refine WL.move .nil rfl rfl rfl rfl ?_
  refine WL.andU (a := 0) (b := 4294967295) (r := 0) .nil rfl rfl rfl rfl rfl rfl (by omega) (by omega) ?_
  refine WL.assign .nil rfl rfl rfl rfl ?_
  with_reducible refine WL.nil ?_
  repeat (with_reducible refine Ex.thn_norm ?_)
  repeat (with_reducible refine W.seq ?_)
  with_reducible refine W.region ?_
  refine WL.move .nil rfl rfl rfl rfl ?_
  refine WL.shrU (a := 0) (r := 0) .nil rfl rfl rfl rfl rfl rfl ?_
  refine WL.assign .nil rfl rfl rfl rfl ?_
  with_reducible refine WL.nil ?_
  repeat (with_reducible refine Ex.thn_norm ?_)
  repeat (with_reducible refine W.seq ?_)
  with_reducible refine W.region ?_
  refine WL.move .nil rfl rfl rfl rfl ?_
  refine WL.move .nil rfl rfl rfl rfl ?_
  refine WL.move .nil rfl rfl rfl rfl ?_
  refine WL.mulU (r := ((0 : Nat) : Int)) .nil rfl rfl rfl rfl rfl (by omega) (by omega) (by omega) ?_
  refine WL.addU (r := ((0 : Nat) : Int)) .nil rfl rfl rfl rfl rfl (by omega) (by omega) (by omega) ?_
  refine WL.assign .nil rfl rfl rfl rfl ?_
  with_reducible refine WL.nil ?_
  repeat (with_reducible refine Ex.thn_norm ?_)
  repeat (with_reducible refine W.seq ?_)
  with_reducible refine W.region ?_
  refine WL.move .nil rfl rfl rfl rfl ?_
  refine WL.move .nil rfl rfl rfl rfl ?_
  refine WL.mulU (r := ((0 : Nat) : Int)) .nil rfl rfl rfl rfl rfl (by omega) (by omega) (by omega) ?_
  refine WL.move .nil rfl rfl rfl rfl ?_
  refine WL.addU (r := ((0 : Nat) : Int)) .nil rfl rfl rfl rfl rfl (by omega) (by omega) (by omega) ?_
  refine WL.move .nil rfl rfl rfl rfl ?_
  refine WL.shrU (a := 0) (r := 0) .nil rfl rfl rfl rfl rfl rfl ?_
  refine WL.addU (r := ((0 : Nat) : Int)) .nil rfl rfl rfl rfl rfl (by omega) (by omega) (by omega) ?_
  refine WL.assign .nil rfl rfl rfl rfl ?_
  with_reducible refine WL.nil ?_
  repeat (with_reducible refine Ex.thn_norm ?_)
  repeat (with_reducible refine W.seq ?_)
  with_reducible refine W.region ?_
  refine WL.move .nil rfl rfl rfl rfl ?_
  refine WL.move .nil rfl rfl rfl rfl ?_
  refine WL.mulU (r := (c : Int)) .nil rfl rfl rfl rfl rfl (by omega) (by omega) (by omega) ?_
  refine WL.assign .nil rfl rfl rfl rfl ?_
  with_reducible refine WL.nil ?_
  repeat (with_reducible refine Ex.thn_norm ?_)
  with_reducible refine W.ret ?_
  repeat (with_reducible refine Ex.thn_ret ?_)
  exact ⟨.inr rfl, _, (.cons (.tmp rfl) (.cons (.tmp rfl) .nil)), rfl, rfl, rfl⟩
theorem mul_k {Δ : Prims} (g : Env Try.prog Δ) {lo n0 : Nat} {H0 : Heap} (hlo : lo ≤ n0) {c : Nat} (hc : c < 100000) : C Try.prog Δ lo 120 [.int .u64 ((1 : Nat) : Int), .int .u64 (c : Int)] n0 H0 (fun v n H => n = n0 ∧ H = H0 ∧ v = .tuple #[.int .u64 ((0 : Nat) : Int), .int .u64 (c : Int)]) := by
  refine C.body Try.func120 rfl rfl ?_
  repeat (with_reducible refine W.seq ?_)
  with_reducible refine W.region ?_
  refine WL.assign .nil rfl rfl rfl rfl ?_
  refine WL.assign .nil rfl rfl rfl rfl ?_
  with_reducible refine WL.nil ?_
  repeat (with_reducible refine Ex.thn_norm ?_)
  repeat (with_reducible refine W.seq ?_)
  refine W.condF rfl ?_
  with_reducible refine W.skip ?_
  repeat (with_reducible refine Ex.thn_norm ?_)
  repeat (with_reducible refine W.seq ?_)
  with_reducible refine W.region ?_
  refine WL.move .nil rfl rfl rfl rfl ?_
  refine WL.move .nil rfl rfl rfl rfl ?_
  refine GL.callIn (args := [.int .u64 ((1 : Nat) : Int), .int .u64 (c : Int)]) .nil lo rfl rfl rfl rfl rfl rfl Try.func122 rfl rfl (Nat.le_refl _) hlo ((mul64_k hc).mono fun v n H h => ?_)
  obtain ⟨rfl, rfl, rfl⟩ := h
  refine WL.move .nil rfl rfl rfl rfl ?_
  refine WL.extract .nil rfl rfl rfl rfl rfl ?_
  refine WL.extract .nil rfl rfl rfl rfl rfl ?_
  refine WL.assign .nil rfl rfl rfl rfl ?_
  refine WL.assign .nil rfl rfl rfl rfl ?_
  with_reducible refine WL.nil ?_
  repeat (with_reducible refine Ex.thn_norm ?_)
  repeat (with_reducible refine W.seq ?_)
  with_reducible refine W.region ?_
  refine WL.move .nil rfl rfl rfl rfl ?_
  refine WL.move .nil rfl rfl rfl rfl ?_
  refine WL.assign .nil rfl rfl rfl rfl ?_
  refine WL.assign .nil rfl rfl rfl rfl ?_
  with_reducible refine WL.nil ?_
  repeat (with_reducible refine Ex.thn_norm ?_)
  with_reducible refine W.ret ?_
  repeat (with_reducible refine Ex.thn_ret ?_)
  exact ⟨.inr rfl, _, (.cons (.tmp rfl) (.cons (.tmp rfl) .nil)), rfl, rfl, rfl⟩
end Go.Proofs.YtlpcdcpcfeaecaaAb
end
section
set_option maxRecDepth 20000
namespace Go.Proofs.YtlpcdcpcfeaecaaAb
open Go Go.Proofs
theorem set_set (H : Heap) (i : Nat) (a b : Ob) : (H.set i a).set i b = H.set i b := by
  funext j
  by_cases h : j = i
  · subst h; rw [Heap.set_same, Heap.set_same]
  · rw [Heap.set_ne _ _ h, Heap.set_ne _ _ h, Heap.set_ne _ _ h]
def repRow (w : Int) (m c : Nat) : List Value := List.replicate m (.int .i64 w) ++ List.replicate (c - m) (.int .i64 0)
theorem repRow_len {w : Int} {m c : Nat} (h : m ≤ c) : (repRow w m c).length = c := by simp [repRow]; omega
theorem repRow_step {w : Int} {m c j : Nat} (h : m ≤ c) (hj : j ≤ m) (hc : m + j ≤ c) : splice (repRow w m c) m ((repRow w m c).take j) = repRow w (m + j) c := by
  have e1 : (repRow w m c).take j = List.replicate j (.int .i64 w) := by
    unfold repRow
    rw [List.take_append_of_le_length (by rw [List.length_replicate]; exact hj), List.take_replicate, Nat.min_eq_left hj]
  rw [e1]
  unfold splice repRow
  rw [List.take_left' (by simp), List.length_replicate, List.drop_append, List.drop_of_length_le (by rw [List.length_replicate]; omega), List.length_replicate, List.nil_append, List.drop_replicate, ← List.replicate_append_replicate (n := m) (m := j)]
  congr 2
  omega
theorem flat_one (c : Nat) : (List.replicate c [Value.int .i64 0]).flatten = List.replicate c (Value.int .i64 0) := by
  induction c with
  | zero => rfl
  | succ c ih => rw [List.replicate_succ, List.flatten_cons, ih, List.replicate_succ]; rfl
theorem v2fzk {Δ : Prims} (g : Env Try.prog Δ) {lo n0 : Nat} {H0 F0 : Heap} (hS : St lo n0 H0 F0) {a : Option Addr} {cap : Nat} {xs1 : List Int} {x2 : Int} (h4 : SrcX H0 F0 (.slice a xs1.length cap) xs1) {res : List Int} (hr : v2fz xs1 x2 = some res) :
    C Try.prog Δ n0 112 [.slice a xs1.length cap, .int .i64 x2] n0 H0 (fun v n H => ∃ (ra : Option Addr) (rcap : Nat), St n0 n H F0 ∧ v = .slice ra res.length rcap ∧ OW n0 n H F0 (.slice ra res.length rcap) res) := by
  obtain ⟨⟨h1, h2, h3⟩, hr2⟩ := cS hr
  clear hr
  obtain rfl := Option.some.inj hr2
  obtain ⟨w, rfl⟩ : ∃ w, xs1 = [w] := by
    match xs1, h1 with
    | [w], _ => exact ⟨w, rfl⟩
  obtain ⟨c, rfl⟩ := Int.eq_ofNat_of_zero_le (show 0 ≤ x2 by omega)
  have hc1 : 1 ≤ c := by omega
  have hc2 : c < 100000 := by omega
  obtain ⟨cs, hsl, hra⟩ := h4
  have hcs : cs = [.int .i64 w] := hra.sc
  subst hcs
  have hN0 : n0 ≤ n0 := Nat.le_refl _
  refine C.body Try.func112 rfl rfl ?_
  repeat (with_reducible refine W.seq ?_)
  with_reducible refine W.region ?_
  refine WL.assign .nil rfl rfl rfl rfl ?_
  with_reducible refine WL.nil ?_
  repeat (with_reducible refine Ex.thn_norm ?_)
  repeat (with_reducible refine W.seq ?_)
  with_reducible refine W.region ?_
  refine WL.move .nil rfl rfl rfl rfl ?_
  refine WL.bin .nil rfl rfl rfl rfl rfl rfl ?_
  with_reducible refine WL.nil ?_
  repeat (with_reducible refine Ex.thn_norm ?_)
  refine W.condD (p := (c : Int) < 0) rfl (fun hc => absurd hc (by omega)) (fun _ => ?_)
  with_reducible refine W.skip ?_
  repeat (with_reducible refine Ex.thn_norm ?_)
  repeat (with_reducible refine W.seq ?_)
  with_reducible refine W.region ?_
  refine WL.move .nil rfl rfl rfl rfl ?_
  refine WL.len .nil rfl rfl rfl Try.underlying31 rfl ?_
  refine WL.convN .nil rfl rfl rfl Try.underlying3 Try.underlying122 rfl topU64 (by simp) (by simp) ?_
  refine WL.move .nil rfl rfl rfl rfl ?_
  refine WL.convN .nil rfl rfl rfl Try.underlying3 Try.underlying122 rfl topU64 (by omega) (by omega) ?_
  refine GL.callIn (args := [.int .u64 ((1 : Nat) : Int), .int .u64 (c : Int)]) .nil n0 rfl rfl rfl rfl rfl rfl Try.func120 rfl rfl (Nat.le_refl _) (Nat.le_refl _) ((mul_k g (Nat.le_refl _) hc2).mono fun v n H h => ?_)
  obtain ⟨hn, hH, rfl⟩ := h
  obtain rfl : n0 = n := hn.symm
  obtain rfl : H0 = H := hH.symm
  refine WL.move .nil rfl rfl rfl rfl ?_
  refine WL.extract .nil rfl rfl rfl rfl rfl ?_
  refine WL.extract .nil rfl rfl rfl rfl rfl ?_
  refine WL.assign .nil rfl rfl rfl rfl ?_
  refine WL.assign .nil rfl rfl rfl rfl ?_
  with_reducible refine WL.nil ?_
  repeat (with_reducible refine Ex.thn_norm ?_)
  repeat (with_reducible refine W.seq ?_)
  with_reducible refine W.region ?_
  refine WL.move .nil rfl rfl rfl rfl ?_
  refine WL.bin .nil rfl rfl rfl rfl rfl rfl ?_
  refine WL.move .nil rfl rfl rfl rfl ?_
  refine WL.guardD (p := (0 : Int) < ((0 : Nat) : Int)) rfl rfl rfl (fun hg => absurd hg (by omega)) (fun hg => ?_)
  refine WL.move .nil rfl rfl rfl rfl ?_
  refine WL.bin .nil rfl rfl rfl rfl rfl rfl ?_
  refine WL.pick .nil rfl rfl rfl rfl rfl ?_
  with_reducible refine WL.nil ?_
  repeat (with_reducible refine Ex.thn_norm ?_)
  refine W.condD (p := (9223372036854775807 : Int) < (c : Int)) rfl (fun hc => absurd hc (by omega)) (fun _ => ?_)
  with_reducible refine W.skip ?_
  repeat (with_reducible refine Ex.thn_norm ?_)
  repeat (with_reducible refine W.seq ?_)
  with_reducible refine W.region ?_
  refine WL.move .nil rfl rfl rfl rfl ?_
  refine WL.convN .nil rfl rfl rfl Try.underlying122 Try.underlying3 rfl topI64 (by omega) (by omega) ?_
  refine WL.make (l' := c) (c := c) .nil rfl rfl rfl Try.underlying31 info3 rfl rfl (by decide) rfl rfl rfl (Nat.le_refl _) (by show 8 * c ≤ 281474976710656; omega) (by unfold UNK; omega) ?_
  refine WL.assign .nil rfl rfl rfl rfl ?_
  with_reducible refine WL.nil ?_
  repeat (with_reducible refine Ex.thn_norm ?_)
  repeat (with_reducible refine W.seq ?_)
  with_reducible refine W.region ?_
  refine WL.move .nil rfl rfl rfl rfl ?_
  refine WL.move .nil rfl rfl rfl rfl ?_
  have hzr : ∀ z' : Value, Cells z' = [.int .i64 0] → (List.replicate c (Cells z')).flatten = repRow w 0 c := fun z' hz => by
    rw [hz]; unfold repRow
    rw [List.replicate_zero, List.nil_append, Nat.sub_zero]
    exact flat_one c
  rw [hzr _ rfl]
  rcases hsl with ⟨_, hl0, _⟩ | ⟨b, k, cap', c0, hv, hb, hcw, hcl⟩
  · simp at hl0
  obtain ⟨rfl, rfl⟩ : a = some ⟨b, k, none⟩ ∧ cap = cap' := by cases hv; exact ⟨rfl, rfl⟩
  have hbn : b < n0 := hS.lt hb
  refine WL.copy (m := 1) (news := [.int .i64 w]) .nil rfl rfl rfl Try.underlying31 info3 rfl (.slice Try.underlying31 rfl rfl ((Heap.set_ne _ _ (by omega)).trans hb) hcw rfl) (Heap.set_same _ _ _) (by rw [repRow_len (by omega)]; show 0 + min 1 c * 1 ≤ c; omega) (Nat.le_refl _) (Nat.lt_succ_self _) (fun v hv => by rcases List.mem_singleton.1 hv with rfl; rfl) ?_
  have e1 : min 1 c = 1 := by omega
  rw [e1, set_set]
  have e2 : splice (repRow w 0 c) 0 ([Value.int .i64 w].take (1 * Try.t3.size)) = repRow w 1 c := by
    unfold splice repRow
    show [] ++ [Value.int .i64 w] ++ List.drop 1 (List.replicate 0 _ ++ List.replicate (c - 0) (Value.int .i64 0)) = _
    simp
  rw [e2]
  refine WL.assign .nil rfl rfl rfl rfl ?_
  with_reducible refine WL.nil ?_
  repeat (with_reducible refine Ex.thn_norm ?_)
  repeat (with_reducible refine W.seq ?_)
  with_reducible refine W.block ?_
  refine W.loopF (fun k fr n H => ∃ m, fr = [(7, .slice (some ⟨n0, 0, none⟩) c c), (8, .int .i64 ((m : Nat) : Int))] ∧ n = n0 + 1 ∧ H = H0.set n0 (.row 1 (repRow w m c)) ∧ 1 ≤ m ∧ m ≤ c ∧ c - m < k) (c + 1) (fr0 := [(7, .slice (some ⟨n0, 0, none⟩) c c), (8, .int .i64 ((1 : Nat) : Int))]) (Fr.le_cons rfl (Fr.le_cons rfl Fr.le_nil)) ?_ ?_ ?_
  · exact ⟨1, rfl, rfl, rfl, Nat.le_refl _, hc1, by omega⟩
  · rintro fr n H ⟨m, _, _, _, _, _, h⟩; omega
  intro kk _ n1 H1 hI
  obtain ⟨m, rfl, rfl, rfl, hm1, hm2, hk⟩ := hI
  repeat (with_reducible refine W.seq ?_)
  with_reducible refine W.region ?_
  refine WL.move .nil rfl rfl rfl rfl ?_
  refine WL.move .nil rfl rfl rfl rfl ?_
  refine WL.len .nil rfl rfl rfl Try.underlying31 rfl ?_
  refine WL.bin .nil rfl rfl rfl rfl rfl rfl ?_
  with_reducible refine WL.nil ?_
  repeat (with_reducible refine Ex.thn_norm ?_)
  repeat (with_reducible refine W.seq ?_)
  refine W.condD (p := ((m : Int)) < (c : Int)) rfl (fun hlt => ?_) (fun hge => ?_)
  · with_reducible refine W.skip ?_
    repeat (with_reducible refine Ex.thn_norm ?_)
    repeat (with_reducible refine W.seq ?_)
    with_reducible refine W.block ?_
    repeat (with_reducible refine W.seq ?_)
    refine W.regionI (fun H => True) [0, 1, 2, 3, 4, 5, 6, 7, 8, 9] [(false, true, false), (false, false, false), (false, false, false), (false, false, false), (false, false, false), (false, false, false), (false, false, false), (true, false, false), (false, false, false), (false, false, false)] true rfl (by kernel_rfl) (by kernel_rfl) (by (conv => lhs; simp only [List.map_cons, List.map_nil, List.getD_cons_zero, List.getD_cons_succ]) <;> rfl) ?_
    refine WLI.late (v := .int .i64 ((m : Nat) : Int)) (fun h => by cases h) rfl rfl (fun H2 hI2 => .move (.inl rfl) rfl) ?_
    refine WLI.op (fun h => by cases h) ?_
    refine WL.move .r rfl rfl rfl rfl ?_
    with_reducible refine WL.nil ⟨rfl, ?_⟩
    refine WLI.op (fun h => by cases h) ?_
    refine WL.move .r rfl rfl rfl rfl ?_
    with_reducible refine WL.nil ⟨rfl, ?_⟩
    refine WLI.op (fun h => by cases h) ?_
    refine WL.slice (h := c) (m := lb c c) .r rfl rfl rfl Try.underlying31 info3 rfl (Heap.set_same _ _ _) rfl rfl ⟨_, rfl⟩ rfl (Nat.le_refl _) (fun h => by cases h) (by omega) le_lb ?_
    with_reducible refine WL.nil ⟨rfl, ?_⟩
    refine WLI.op (fun h => by cases h) ?_
    refine WL.move .r rfl rfl rfl rfl ?_
    with_reducible refine WL.nil ⟨rfl, ?_⟩
    refine WLI.op (fun h => by cases h) ?_
    refine WL.move .r rfl rfl rfl rfl ?_
    with_reducible refine WL.nil ⟨rfl, ?_⟩
    refine WLI.op (fun h => by cases h) ?_
    refine WL.slice (h := m) (m := lb c c) .r rfl rfl rfl Try.underlying31 info3 rfl (Heap.set_same _ _ _) rfl rfl rfl ⟨_, rfl⟩ (Nat.le_refl _) (fun h => by cases h) (by omega) (Nat.le_trans hm2 le_lb) ?_
    with_reducible refine WL.nil ⟨rfl, ?_⟩
    refine WLI.op (fun h => by cases h) ?_
    have hj : min m (c - m) ≤ m := Nat.min_le_left _ _
    have hsm : (repRow w m c).take m = List.replicate m (.int .i64 w) := by
      unfold repRow
      rw [List.take_append_of_le_length (by simp), List.take_replicate, Nat.min_self]
    refine WL.copy (m := m) (news := (repRow w m c).take m) .w rfl rfl rfl Try.underlying31 info3 rfl (.slice Try.underlying31 rfl rfl (Heap.set_same _ _ _) (by show ((repRow w m c).drop (0 + 0 * 1)).take (m * 1) = _; simp) (by rw [hsm, List.length_replicate]; show m = m * 1; omega)) (Heap.set_same _ _ _) (by rw [repRow_len hm2]; show 0 + m * 1 + min m (c - m) * 1 ≤ c; omega) (Nat.le_refl _) (Nat.lt_succ_self _) (fun v hv => by rw [hsm] at hv; rw [List.eq_of_mem_replicate hv]; rfl) ?_
    with_reducible refine WL.nil ⟨rfl, ?_⟩
    refine WLI.op (fun h => by cases h) ?_
    refine WL.addI .r rfl rfl rfl rfl rfl (by omega) (by omega) ?_
    with_reducible refine WL.nil ⟨rfl, ?_⟩
    refine WLI.op (fun h => by cases h) ?_
    refine WL.assign .r rfl rfl rfl rfl ?_
    with_reducible refine WL.nil ⟨rfl, ?_⟩
    refine WLI.nil (fun _ => trivial) ?_
    repeat (first | with_reducible refine Ex.thn_norm ?_ | with_reducible refine Ex.blk_norm ?_)
    have e3 : splice (repRow w m c) (0 + m * Try.t3.size) (((repRow w m c).take m).take (min m (c - m) * Try.t3.size)) = repRow w (m + min m (c - m)) c := by
      have e4 : 0 + m * Try.t3.size = m := by show 0 + m * 1 = m; omega
      have e5 : min m (c - m) * Try.t3.size = min m (c - m) := by show min m (c - m) * 1 = _; omega
      rw [e4, e5, List.take_take, Nat.min_eq_left hj]
      exact repRow_step hm2 hj (by omega)
    rw [set_set, e3]
    exact ⟨_, Fr.le_cons rfl (Fr.le_cons rfl Fr.le_nil), m + min m (c - m), by rw [Int.natCast_add], rfl, rfl, by omega, by omega, by omega⟩
  · with_reducible refine W.exit ?_
    repeat (first | with_reducible refine Ex.thn_ex ?_ | with_reducible refine Ex.blk_here ?_ | with_reducible refine Ex.thn_norm ?_)
    repeat (with_reducible refine W.seq ?_)
    have em : m = c := by omega
    subst em
    with_reducible refine W.region ?_
    refine WL.move .nil rfl rfl rfl rfl ?_
    refine WL.assign .nil rfl rfl rfl rfl ?_
    with_reducible refine WL.nil ?_
    repeat (with_reducible refine Ex.thn_norm ?_)
    with_reducible refine W.ret ?_
    repeat (with_reducible refine Ex.thn_ret ?_)
    have er : repRow w m m = List.replicate m (.int .i64 w) := by unfold repRow; rw [Nat.sub_self]; simp
    have el : (List.replicate ((m : Int)).toNat (([w] : List Int).headD 0)).length = m := by simp
    refine ⟨.inr rfl, _, resl1 rfl, some ⟨n0, 0, none⟩, m, (hS.low (Nat.le_refl n0)).new _, by rw [el]; rfl, ?_⟩
    have hra2 : RA F0 (List.replicate m (.int .i64 w)) (List.replicate ((m : Int)).toNat (([w] : List Int).headD 0)) := by
      have := RA.ofSc F0 (List.replicate m w)
      rw [List.map_replicate] at this
      exact this
    rw [el]
    refine ⟨by rw [el]; unfold UNK; omega, fun i hi => ?_, _, .inr ⟨n0, 0, m, repRow w m m, by rw [el], Heap.set_same _ _ _, ?_, hra2.length, Nat.le_refl _, Nat.lt_succ_self _, Nat.zero_le _, .inl ⟨by rw [el], by unfold UNK; omega⟩⟩, hra2⟩
    · have hin : n0 = i := by simpa [idOf] using hi
      subst hin; exact hS.fnone (Nat.le_refl _)
    · rw [el, er, List.drop_zero]
      show List.take (m * 1) _ = _
      rw [Nat.mul_one, List.take_of_length_le (by simp)]
end Go.Proofs.YtlpcdcpcfeaecaaAb
end
