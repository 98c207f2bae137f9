import Derived.Test.YtmodhnkjimpkbaaAbP1
set_option linter.all false
namespace Go.Proofs.YtmodhnkjimpkbaaAb
open Go
def chk {α : Type} (p : Prop) [Decidable p] (k : Option α) : Option α := if p then k else none
theorem chk_some {α : Type} {p : Prop} [Decidable p] {k : Option α} {r : α} (h : chk p k = some r) : p ∧ k = some r := by
  unfold chk at h; split at h
  · exact ⟨by assumption, h⟩
  · cases h
theorem chk_pos {α : Type} {p : Prop} [Decidable p] {k : Option α} (h : p) : chk p k = k := if_pos h
theorem bnd_some {α β : Type} {o : Option α} {k : α → Option β} {r : β} (h : o.bind k = some r) : ∃ a, o = some a ∧ k a = some r := Option.bind_eq_some_iff.1 h
theorem ite_pos {α : Type} {p : Prop} [Decidable p] {a b : Option α} {r : α} (h : (if p then a else b) = some r) (hp : p) : a = some r := by rwa [if_pos hp] at h
theorem ite_neg {α : Type} {p : Prop} [Decidable p] {a b : Option α} {r : α} (h : (if p then a else b) = some r) (hp : ¬ p) : b = some r := by rwa [if_neg hp] at h
theorem iteB_pos {α : Type} {p : Bool} {a b : Option α} {r : α} (h : (if p = true then a else b) = some r) (hp : p = true) : a = some r := by rwa [if_pos hp] at h
theorem iteB_neg {α : Type} {p : Bool} {a b : Option α} {r : α} (h : (if p = true then a else b) = some r) (hp : p = false) : b = some r := by rwa [if_neg (by simp [hp])] at h
def idx {α : Type} (xs : List α) (j : Int) : Option α := if 0 ≤ j then xs[j.toNat]? else none
theorem idx_inv {α : Type} {xs : List α} {j : Int} {x : α} (h : idx xs j = some x) : 0 ≤ j ∧ j < xs.length ∧ ∃ hj : j.toNat < xs.length, xs[j.toNat] = x := by
  unfold idx at h; split at h
  · obtain ⟨h1, h2⟩ := List.getElem?_eq_some_iff.1 h; exact ⟨by assumption, by omega, h1, h2⟩
  · cases h
theorem idx_pos {α : Type} {xs : List α} {j : Int} (h0 : 0 ≤ j) (hj : j < xs.length) : idx xs j = some (xs[j.toNat]'(by omega)) := by
  unfold idx; rw [if_pos h0, List.getElem?_eq_getElem (by omega)]
def slc {α : Type} (xs : List α) (l h : Int) : Option (List α) := if 0 ≤ l ∧ l ≤ h ∧ h ≤ xs.length then some ((xs.take h.toNat).drop l.toNat) else none
theorem slc_inv {α : Type} {xs ys : List α} {l h : Int} (e : slc xs l h = some ys) : 0 ≤ l ∧ l ≤ h ∧ h ≤ xs.length ∧ (xs.take h.toNat).drop l.toNat = ys := by
  unfold slc at e; split at e
  · rename_i hc; exact ⟨hc.1, hc.2.1, hc.2.2, Option.some.inj e⟩
  · cases e
theorem slc_pos {α : Type} {xs : List α} {l h : Int} (h0 : 0 ≤ l) (h1 : l ≤ h) (h2 : h ≤ xs.length) : slc xs l h = some ((xs.take h.toNat).drop l.toNat) := by unfold slc; rw [if_pos ⟨h0, h1, h2⟩]
def setI {α : Type} (xs : List α) (j : Int) (y : α) : List α := xs.set j.toNat y
def BIG : Nat := 18446744073709551616
theorem BIG_succ : ∃ k, BIG = k + 1 := ⟨18446744073709551615, rfl⟩
section
variable {P : Program} {Δ : Prims} {lo : Nat} {fr : Fr} {n : Nat} {H : Heap} {Q : Post}
theorem W.loopF {c : Code} (I : Nat → Fr → Nat → Heap → Prop) (k0 : Nat) {fr0 : Fr} (hle : Fr.le fr0 fr) (h0 : I k0 fr0 n H) (hz : ∀ fr n H, ¬ I 0 fr n H)
    (step : ∀ k fr n H, I (k + 1) fr n H → W P Δ lo c fr n H (Ex.thn (fun fr1 n1 H1 => ∃ fr2, Fr.le fr2 fr1 ∧ I k fr2 n1 H1) Q)) : W P Δ lo (.loop c) fr n H Q := by
  refine W.weak hle ?_
  clear hle
  induction k0 generalizing fr0 n H with
  | zero => exact absurd h0 (hz _ _ _)
  | succ k ih =>
    refine W.loop (W.mono (step k fr0 n H h0) fun e fr' n' H' q => ?_)
    cases e with
    | norm => obtain ⟨fr2, h2, h3⟩ := q; exact W.weak h2 (ih h3)
    | ret => exact q
    | ex id => exact q
    | pan v => exact q
theorem W.join {a b : Code} (I : Fr → Nat → Heap → Prop) (hA : W P Δ lo a fr n H (Ex.thn (fun fr1 n1 H1 => ∃ fr2, Fr.le fr2 fr1 ∧ I fr2 n1 H1) Q)) (hB : ∀ fr n H, I fr n H → W P Δ lo b fr n H Q) : W P Δ lo (.seq a b) fr n H Q := by
  refine W.seq (W.mono hA fun e fr' n' H' q => ?_)
  cases e with
  | norm => obtain ⟨fr2, h2, h3⟩ := q; exact W.weak h2 (hB _ _ _ h3)
  | ret => exact q
  | ex id => exact q
  | pan v => exact q
theorem W.cut {a b : Code} {Q2 : Post} (I : Fr → Nat → Heap → Prop) (hA : W P Δ lo a fr n H (Ex.thn (fun fr1 n1 H1 => ∃ fr2, Fr.le fr2 fr1 ∧ I fr2 n1 H1) Q)) (hB : ∀ fr n H, I fr n H → W P Δ lo b fr n H Q2) : W P Δ lo a fr n H (Ex.thn (fun fr1 n1 H1 => W P Δ lo b fr1 n1 H1 Q2) Q) := by
  refine W.mono hA fun e fr' n' H' q => ?_
  cases e with
  | norm => obtain ⟨fr2, h2, h3⟩ := q; exact W.weak h2 (hB _ _ _ h3)
  | ret => exact q
  | ex id => exact q
  | pan v => exact q
section ops
variable {all : Array Oper} {l : List Oper} {o : Oper} {d : Nat} {fl fl2 : List Bool} {lw lo0 : Nat} {F : Heap}
theorem St.set (hS : St lo0 n H F) {b : Nat} (hb : b < n) (hf : F b = none) (ob : Ob) : St lo0 n (H.set b ob) F :=
  ⟨hS.lo, fun i hi => by rw [Heap.set_ne _ _ (by omega)]; exact hS.hb i hi, fun i o h => by
    rw [Heap.set_ne _ _ (fun e => by subst e; rw [hf] at h; cases h)]; exact hS.fh i o h⟩
theorem St.new (hS : St lo0 n H F) (ob : Ob) : St lo0 (n + 1) (H.set n ob) F :=
  ⟨by have := hS.lo; omega, fun i hi => by rw [Heap.set_ne _ _ (by omega)]; exact hS.hb i (by omega), fun i o h => by
    rw [Heap.set_ne _ _ (fun e => by subst e; rw [hS.fnone (Nat.le_refl _)] at h; cases h)]; exact hS.fh i o h⟩
theorem St.low {lo1 : Nat} (hS : St lo0 n H F) (h : lo1 ≤ n) : St lo1 n H F := ⟨h, hS.hb, hS.fh⟩
theorem GL.alloc (hS : St lo0 n H F) (hfl : IsFl fl lo n lw fl2) {t : TypeId} {i : TypeInfo} {z : Value} {zc : List Value} (ho : o.op = .alloc t) (hd : o.dst = some d) (hw : wantedA all o fr = some true) (hi : P.info? t = some i) (hz : i.zero = some z) (hzc : Cells z = zc) (hg : zc.all grZ = true)
    (k : ∀ H', St lo0 (n + 1) H' F → H' n = some (.row 1 zc) → (∀ i, i < n → H' i = H i) → WL P Δ lo fl2 all l ((d, .pointer (some ⟨n, 0, none⟩)) :: fr) (n + 1) H' Q) : WL P Δ lo fl all (o :: l) fr n H Q :=
  WL.allocL hfl 1 ho hd hw hi hz hzc hg (k _ (hS.new _) (Heap.set_same _ _ _) fun i hi => Heap.set_ne _ _ (by omega))
theorem GL.box (hS : St lo0 n H F) (hfl : IsFl fl lo n lw fl2) {t : TypeId} {x : Operand} {v : Value} {vc : List Value} (ho : o.op = .box t x) (hd : o.dst = some d) (hw : wantedA all o fr = some true) (hx : fr.eval x = some v) (hv : Cells v = vc) (hg : ∀ u ∈ vc, u.oneCell' = true)
    (k : ∀ H', St lo0 (n + 1) H' F → H' n = some (.row 1 vc) → (∀ i, i < n → H' i = H i) → WL P Δ lo fl2 all l ((d, .pointer (some ⟨n, 0, none⟩)) :: fr) (n + 1) H' Q) : WL P Δ lo fl all (o :: l) fr n H Q :=
  WL.boxL hfl 1 ho hd hw hx hv hg (k _ (hS.new _) (Heap.set_same _ _ _) fun i hi => Heap.set_ne _ _ (by omega))
theorem GL.store (hS : St lo0 n H F) (hfl : IsFl fl lo n lw fl2) {t : TypeId} {x y : Operand} {i : TypeInfo} {b k e : Nat} {c vc c' : List Value} {v : Value} (ho : o.op = .store t x y) (hd : o.dst = none) (hw : wantedA all o fr = some true) (hi : P.info? t = some i)
    (hx : fr.eval x = some (.pointer (some ⟨b, k, none⟩))) (hy : fr.eval y = some v) (hv : Cells v = vc) (hs : vc.length = i.size) (hb : H b = some (.row e c)) (hf : F b = none) (hk : k + i.size ≤ c.length) (hlo : lw ≤ b) (h1 : ∀ u ∈ vc, u.oneCell' = true) (hc : splice c k vc = c')
    (kk : ∀ H', St lo0 n H' F → H' b = some (.row e c') → (∀ i, i ≠ b → H' i = H i) → WL P Δ lo fl2 all l fr n H' Q) : WL P Δ lo fl all (o :: l) fr n H Q :=
  WL.storeL hfl ho hd hw hi hx hy hv hs hb hk hlo (hS.lt hb) h1 hc (kk _ (hS.set (hS.lt hb) hf _) (Heap.set_same _ _ _) fun i hi => Heap.set_ne _ _ hi)
theorem win_get {c ecs : List Value} {k s m : Nat} (h : (c.drop k).take s = ecs) (hm : m < s) : c[k + m]? = ecs[m]? := by
  rw [← h, List.getElem?_take_of_lt hm, List.getElem?_drop]
theorem win_get0 {c ecs : List Value} {k s : Nat} (h : (c.drop k).take s = ecs) (hm : 0 < s) : c[k]? = ecs[0]? := win_get (m := 0) h hm
theorem GL.index {α : Type} [Rp α] {G : Heap} (hfl : IsFl fl lo n lw fl2) {t : TypeId} {x y : Operand} {el : TypeId} {i : TypeInfo} {v : Value} {xs : List α} {u : α} {q : IntKind} {j : Int} (ho : o.op = .indexAddr t x y) (hd : o.dst = some d) (hw : wantedA all o fr = some true) (ht : P.underlying t = some (.slice el)) (hi : P.info? el = some i) (hsz : i.size = Rp.sz α)
    (hx : fr.eval x = some v) (hR : SR G v xs) (hG : G.Le H) (hy : fr.eval y = some (.int q j)) (hu : idx xs j = some u)
    (kk : ∀ b k c ecs, H b = some (.row (Rp.sz α) c) → (c.drop k).take (Rp.sz α) = ecs → Rp.R G ecs u → WL P Δ lo fl2 all l ((d, .pointer (some ⟨b, k, none⟩)) :: fr) n H Q) : WL P Δ lo fl all (o :: l) fr n H Q := by
  obtain ⟨h0, h1, h2, h3⟩ := idx_inv hu
  obtain ⟨_, cs, hs, hra⟩ := hR
  rcases hs with ⟨_, hlen, _⟩ | ⟨b, k, cap, c, rfl, hb, hc, hcl⟩
  · omega
  · refine WL.indexS hfl ho hd hw ht hi hx hy h0 (by exact_mod_cast h1) (kk b (k + j.toNat * i.size) c _ (hG _ _ hb) rfl ?_)
    have hg := hra.get h2
    rw [h3, ← hc, List.drop_take, List.take_take] at hg
    have e : min (Rp.sz α) (xs.length * Rp.sz α - j.toNat * Rp.sz α) = Rp.sz α := by
      have := Nat.mul_le_mul_right (Rp.sz α) h2
      rw [Nat.succ_mul] at this
      omega
    rw [e, List.drop_drop] at hg
    rw [hsz]; exact hg
theorem SL.part {G : Heap} {sz len : Nat} {v : Value} {cs : List Value} {b k cap : Nat} {l h : Nat} {c : List Value} (hb : G b = some (.row sz c)) (hc : (c.drop k).take (len * sz) = cs) (hcl : cs.length = len * sz) (hlh : l ≤ h) (hhl : h ≤ len) (cap' : Nat) :
    SL G sz (.slice (some ⟨b, k + l * sz, none⟩) (h - l) cap') (h - l) ((cs.take (h * sz)).drop (l * sz)) := by
  refine .inr ⟨b, _, _, c, rfl, hb, ?_, ?_⟩
  · rw [← hc, List.take_take, List.drop_take]
    have h1 : h * sz ≤ len * sz := Nat.mul_le_mul_right _ hhl
    rw [Nat.min_eq_left h1, ← List.drop_drop, Nat.sub_mul]
  · have h1 : h * sz ≤ len * sz := Nat.mul_le_mul_right _ hhl
    rw [List.length_drop, List.length_take, hcl, Nat.min_eq_left h1, Nat.sub_mul]
def BndI (ev : Operand → Option Value) (o : Option Operand) (dflt r : Int) : Prop :=
  match o with
  | none => r = dflt
  | some y => ∃ q, ev y = some (.int q r)
theorem BndI.nat {ev : Operand → Option Value} {o : Option Operand} {d : Nat} {r : Int} (h : BndI ev o d r) (h0 : 0 ≤ r) : Bnd ev o d r.toNat := by
  cases o with
  | none => show r.toNat = d; have : r = (d : Int) := h; omega
  | some y => obtain ⟨q, hq⟩ := h; exact ⟨q, by rw [Int.toNat_of_nonneg h0]; exact hq⟩
theorem GL.slice {α : Type} [Rp α] {G : Heap} (hfl : IsFl fl lo n lw fl2) {t el : TypeId} {i : TypeInfo} {x : Operand} {low high : Option Operand} {v : Value} {xs ys : List α} {l' h : Int} (ho : o.op = .slice t x low high none) (hd : o.dst = some d) (hw : wantedA all o fr = some true) (ht : P.underlying t = some (.slice el)) (hi : P.info? el = some i) (hsz : i.size = Rp.sz α)
    (hx : fr.eval x = some v) (hR : SR G v xs) (hG : G.Le H) (hl : BndI fr.eval low 0 l') (hh : BndI fr.eval high xs.length h) (hy : slc xs l' h = some ys)
    (kk : ∀ a cap, idOf (.slice a ys.length cap) = idOf v → SR G (.slice a ys.length cap) ys → WL P Δ lo fl2 all l ((d, .slice a ys.length cap) :: fr) n H Q) : WL P Δ lo fl all (o :: l) fr n H Q := by
  obtain ⟨h0, h1, h2, rfl⟩ := slc_inv hy
  obtain ⟨hlt, cs, hs, hra⟩ := hR
  have hl' := hl.nat h0
  have hh' := hh.nat (by omega)
  have elen : ((xs.take h.toNat).drop l'.toNat).length = h.toNat - l'.toNat := by simp; omega
  have hra' := (hra.take h.toNat).drop l'.toNat
  rcases hs with ⟨rfl, e1, e2⟩ | ⟨b, k, cap, c, rfl, hb, hc, hcl⟩
  · have e3 : h.toNat = 0 := by omega
    have e4 : l'.toNat = 0 := by omega
    have e5 : ((xs.take h.toNat).drop l'.toNat) = [] := by rw [e3]; simp
    rw [e3, e1] at hh'; rw [e4] at hl'
    refine WL.sliceNil hfl ho hd hw ht hi hx hl' hh' ?_
    have := kk none 0
    rw [e5] at this
    exact this rfl SR.nil
  · have hk := kk (some ⟨b, k + l'.toNat * i.size, none⟩) (UNK + (lb xs.length cap - l'.toNat))
    rw [elen] at hk
    refine WL.slice hfl ho hd hw ht hi hx (hG _ _ hb) hsz.symm rfl hl' hh' (Nat.le_refl _) (by intro h; cases h) (by omega) (by unfold lb; omega) (hk rfl ⟨by simp; omega, _, ?_, hra'⟩)
    rw [elen, hsz]
    exact SL.part (v := .slice none 0 0) (cap := 0) hb hc hcl (by omega) (by omega) _
theorem WL.app' {t u el : TypeId} {i : TypeInfo} {z : Value} {x y : Operand} {v : Value} {len m : Nat} {olds news : List Value} (hfl : IsFl fl lo n lw fl2) (ho : o.op = .call { callee := .builtin .append, args := #[x, y], argTypes := #[t, u] }) (hd : o.dst = some d) (hw : wantedA all o fr = some true) (ht : P.underlying t = some (.slice el)) (hi : P.info? el = some i) (hz : i.zero = some z) (hzs : (Cells z).length = i.size)
    (hx : fr.eval x = some v) (hown : OwnS lw n H i.size v len olds) (hsrc : Src P fr.eval H i.size u y m news) (hm0 : 0 < m) (h1 : ∀ v ∈ news, v.oneCell' = true) (h0 : ∀ v ∈ olds, v.oneCell' = true) (hby : (len + m) * i.bytes ≤ 140737488355328) (h63 : len + m < UNK)
    (kk : ∀ H', H' n = some (.row i.size (olds ++ news)) → (∀ j, j < n → idOf v ≠ some j → H' j = H j) → (∀ j, n < j → H' j = H j) → (∀ lo', lo' ≤ n → OwnS lo' (n + 1) H' i.size (.slice (some ⟨n, 0, none⟩) (len + m) (UNK + (len + m))) (len + m) (olds ++ news)) →
      WL P Δ lo fl2 all l ((d, .slice (some ⟨n, 0, none⟩) (len + m) (UNK + (len + m))) :: fr) (n + 1) H' Q) (hnl : news.length = m * i.size) : WL P Δ lo fl all (o :: l) fr n H Q := by
  have hin : ∀ (H' : Heap) (cs : List Value), H' n = some (.row i.size cs) → cs.length = (len + m) * i.size → ∀ lo', lo' ≤ n → OwnS lo' (n + 1) H' i.size (.slice (some ⟨n, 0, none⟩) (len + m) (UNK + (len + m))) (len + m) cs := fun H' cs h hl lo' hlo =>
    .inr ⟨n, 0, _, cs, rfl, h, by rw [List.drop_zero, List.take_of_length_le (by omega)], hl, hlo, Nat.lt_succ_self _, Nat.zero_le _, .inr (by omega)⟩
  rcases hown with ⟨rfl, rfl, rfl⟩ | ⟨b, k, cap, c, rfl, hb, hc, hcl, hlb, hbn, hk, hcap⟩
  · refine WL.appendN hfl ho hd hw ht hi hz hzs hx hsrc h1 hm0 (by simpa using hby) (by omega) ?_
    have := kk (H.set n (.row i.size news)) (by rw [Heap.set_same]; rfl) (fun j hj _ => Heap.set_ne _ _ (by omega)) (fun j hj => Heap.set_ne _ _ (by omega)) (hin _ _ (by rw [Heap.set_same]; rfl) (by simpa using hnl))
    simpa using this
  · have hl2 : (olds ++ news).length = (len + m) * i.size := by rw [List.length_append, hcl, hnl, Nat.add_mul]
    rcases hcap with ⟨rfl, hcu⟩ | hcu
    · refine WL.appendG hfl ho hd hw ht hi hz hzs hx hsrc hb hc hcl hcu (by omega) (fun v hv => (List.mem_append.1 hv).elim (h0 v) (h1 v)) hby h63 ?_
      exact kk _ (Heap.set_same _ _ _) (fun j hj _ => Heap.set_ne _ _ (by omega)) (fun j hj => Heap.set_ne _ _ (by omega)) (hin _ _ (Heap.set_same _ _ _) hl2)
    · refine WL.appendU hfl ho hd hw ht hi hz hzs hx hsrc hb rfl hc hcl hcu hlb hbn hm0 h1 hby h63 hk ?_
      refine kk _ (Heap.set_same _ _ _) (fun j hj hne => ?_) (fun j hj => ?_) (hin _ _ (Heap.set_same _ _ _) hl2)
      · rw [Heap.set_ne _ _ (by omega), Heap.del_ne _ (fun e => hne (by simp [idOf, e]))]
      · rw [Heap.set_ne _ _ (by omega), Heap.del_ne _ (by omega)]
def SrcX {α : Type} [Rp α] (H F : Heap) (v : Value) (ys : List α) : Prop := ∃ cs, SL H (Rp.sz α) v ys.length cs ∧ RA F cs ys
theorem SR.src {α : Type} [Rp α] {v : Value} {ys : List α} (h : SR F v ys) (hle : F.Le H) : SrcX H F v ys := by
  obtain ⟨_, cs, h1, h2⟩ := h
  refine ⟨cs, ?_, h2⟩
  rcases h1 with h1 | ⟨b, k, cap, c, e1, e2, e3⟩
  · exact .inl h1
  · exact .inr ⟨b, k, cap, c, e1, hle b _ e2, e3⟩
theorem OW.src {α : Type} [Rp α] {v : Value} {ys : List α} (h : OW lo0 n H F v ys) : SrcX H F v ys := by
  obtain ⟨_, _, cs, h1, h2⟩ := h
  exact ⟨cs, h1.sl, h2⟩
theorem GL.append {α : Type} [Rp α] {lo2 : Nat} (hS : St lo0 n H F) (hfl : IsFl fl lo n lw fl2) {t u el : TypeId} {i : TypeInfo} {z : Value} {x y : Operand} {v v2 : Value} {xs ys : List α} {dd : TypeDesc} (ho : o.op = .call { callee := .builtin .append, args := #[x, y], argTypes := #[t, u] }) (hd : o.dst = some d) (hw : wantedA all o fr = some true) (ht : P.underlying t = some (.slice el)) (hu : P.underlying u = some dd) (hdd : isInt dd = false) (hi : P.info? el = some i) (hz : i.zero = some z) (hzs : (Cells z).length = i.size) (hsz : i.size = Rp.sz α) (hby : i.bytes ≤ 2048)
    (hx : fr.eval x = some v) (hy : fr.eval y = some v2) (hO : OW lo2 n H F v xs) (hlo2 : lw ≤ lo2) (hl2 : lo2 ≤ n) (hsrc : SrcX H F v2 ys) (hlen : (xs.length : Int) + ys.length ≤ 68719476736)
    (kk : ∀ a cap n' H', St lo0 n' H' F → n ≤ n' → OW lo2 n' H' F (.slice a (xs ++ ys).length cap) (xs ++ ys) → (∀ j, j < n → idOf v ≠ some j → H' j = H j) → (∀ b, idOf (.slice a (xs ++ ys).length cap) = some b → n ≤ b ∨ idOf v = some b) →
      WL P Δ lo fl2 all l ((d, .slice a (xs ++ ys).length cap) :: fr) n' H' Q) : WL P Δ lo fl all (o :: l) fr n H Q := by
  obtain ⟨ncs, hsl, hra2⟩ := hsrc
  have hO' := hO
  obtain ⟨hlt, hfn, ocs, hown, hra⟩ := hO
  have el : (xs ++ ys).length = xs.length + ys.length := List.length_append
  have hsrc' := Src.ofSL (P := P) (ev := fr.eval) (u := u) (y := y) hu hdd hy hsl
  by_cases hm : ys.length = 0
  · have hn : ys = [] := List.eq_nil_of_length_eq_zero hm
    subst hn
    have hn2 : ncs = [] := List.eq_nil_of_length_eq_zero (by have := hra2.length; simpa using this)
    subst hn2
    obtain ⟨a, cap, rfl⟩ := hown.form
    have := kk a cap n H hS (Nat.le_refl _) (by simpa using hO') (fun _ _ _ => rfl) (fun b h => .inr (by simpa [idOf] using h))
    rw [List.append_nil] at this
    exact WL.append0 hfl ho hd hw ht hi hx (by rw [hsz]; exact hsrc') this
  · refine WL.app' hfl ho hd hw ht hi hz hzs hx (by rw [hsz]; exact hown.mono hlo2 (Nat.le_refl _) (fun _ _ _ => rfl)) (by rw [hsz]; exact hsrc') (by omega) hra2.one hra.one ?_ (by unfold UNK; omega) (fun H' e1 e2 e3 e4 => ?_) (by rw [hsz]; exact hra2.length)
    · have h1 : (xs.length + ys.length) ≤ 68719476736 := by omega
      exact Nat.le_trans (Nat.mul_le_mul h1 hby) (by decide)
    · have hS' : St lo0 (n + 1) H' F := ⟨by have := hS.lo; omega, fun i hi => by rw [e3 i (by omega)]; exact hS.hb i (by omega), fun i ob hi => by
        have hin := hS.lt (hS.fh i ob hi)
        rw [e2 i hin (fun e => by rw [hfn i e] at hi; cases hi)]; exact hS.fh i ob hi⟩
      have := kk (some ⟨n, 0, none⟩) (UNK + (xs.length + ys.length)) (n + 1) H' hS' (by omega)
      rw [el] at this
      refine this ⟨by rw [el]; unfold UNK; omega, fun i hi => ?_, _, ?_, hra.append hra2⟩ e2 (fun b hb => .inl ?_)
      · have hin : n = i := by simpa [idOf] using hi
        subst hin; exact hS.fnone (Nat.le_refl _)
      · rw [el, ← hsz]; exact e4 lo2 hl2
      · have hin : n = b := by simpa [idOf] using hb
        omega
theorem GL.lit {α : Type} [Rp α] (hS : St lo0 n H F) (hfl : IsFl fl lo n lw fl2) {t el : TypeId} {len : Nat} {ps : Array (Nat × Operand)} {vs cs : List Value} {z : Value} {i : TypeInfo} {xs : List α} (ho : o.op = .buildSlice t len ps) (hd : o.dst = some d) (hw : wantedA all o fr = some true) (ht : P.underlying t = some (.slice el)) (hi : P.info? el = some i) (hz : i.zero = some z)
    (hg : (Cells z).all grZ = true) (hzc : (Cells z).length = i.size) (hszi : len * i.size ≤ 16777216) (hlen : len < 1000000) (hp : ps.toList.mapM (fun p => fr.eval p.2) = some vs) (hix : ps.toList.map (·.1) = List.range' 0 len) (hvs : vs.map (fun v => (Cells v).length) = List.replicate len i.size)
    (hcs : vs.flatMap Cells = cs) (hsz : i.size = Rp.sz α) (hR : RA F cs xs) (hxl : xs.length = len)
    (kk : ∀ H', St lo0 (n + 1) H' F → OW n (n + 1) H' F (.slice (some ⟨n, 0, none⟩) xs.length len) xs → (∀ j, j < n → H' j = H j) → WL P Δ lo fl2 all l ((d, .slice (some ⟨n, 0, none⟩) xs.length len) :: fr) (n + 1) H' Q) : WL P Δ lo fl all (o :: l) fr n H Q := by
  subst hxl
  refine WL.lit hfl ho hd hw ht hi hz hg hzc hszi hlen hp hix hvs hcs hR.one ?_
  refine kk _ (hS.new _) ⟨by unfold UNK; omega, fun i hi => ?_, cs, .inr ⟨n, 0, _, cs, rfl, ?_, ?_, hR.length, Nat.le_refl _, Nat.lt_succ_self _, Nat.zero_le _, .inl ⟨rfl, by unfold UNK; omega⟩⟩, hR⟩ (fun j hj => Heap.set_ne _ _ (by omega))
  · have hin : n = i := by simpa [idOf] using hi
    subst hin; exact hS.fnone (Nat.le_refl _)
  · rw [hsz]; exact Heap.set_same _ _ _
  · rw [List.drop_zero, List.take_of_length_le (Nat.le_of_eq hR.length)]
theorem GL.make {α : Type} [Rp α] (hS : St lo0 n H F) (hfl : IsFl fl lo n lw fl2) {t el : TypeId} {i : TypeInfo} {z : Value} {x y : Operand} {q q' : IntKind} {m : Int} {u : α} (ho : o.op = .makeSlice t x y) (hd : o.dst = some d) (hw : wantedA all o fr = some true) (ht : P.underlying t = some (.slice el)) (hi : P.info? el = some i) (hz : i.zero = some z)
    (hzs : (Cells z).length = i.size) (h0 : 0 < i.size) (hg : (Cells z).all grZ = true) (hby : i.bytes ≤ 2048) (hsz : i.size = Rp.sz α) (hx : fr.eval x = some (.int q m)) (hy : fr.eval y = some (.int q' m)) (hR : Rp.R F (Cells z) u) (hm0 : 0 ≤ m) (hm : m ≤ 68719476736)
    (kk : ∀ H', St lo0 (n + 1) H' F → OW n (n + 1) H' F (.slice (some ⟨n, 0, none⟩) (List.replicate m.toNat u).length m.toNat) (List.replicate m.toNat u) → (∀ j, j < n → H' j = H j) → WL P Δ lo fl2 all l ((d, .slice (some ⟨n, 0, none⟩) (List.replicate m.toNat u).length m.toNat) :: fr) (n + 1) H' Q) : WL P Δ lo fl all (o :: l) fr n H Q := by
  have hmn : ((m.toNat : Nat) : Int) = m := Int.toNat_of_nonneg hm0
  have hR2 := RA.replicate hR m.toNat
  have := kk (H.set n (.row i.size (List.replicate m.toNat (Cells z)).flatten)) (hS.new _) ⟨by rw [List.length_replicate]; unfold UNK; omega, fun i hi => ?_, _, .inr ⟨n, 0, _, (List.replicate m.toNat (Cells z)).flatten, rfl, by rw [hsz]; exact Heap.set_same _ _ _, ?_, hR2.length, Nat.le_refl _, Nat.lt_succ_self _, Nat.zero_le _, .inl ⟨by simp, by unfold UNK; omega⟩⟩, hR2⟩ (fun j hj => Heap.set_ne _ _ (by omega))
  · rw [List.length_replicate] at this
    exact WL.make hfl ho hd hw ht hi hz hzs h0 hg (by rw [hmn]; exact hx) (by rw [hmn]; exact hy) (Nat.le_refl _) (Nat.le_trans (Nat.mul_le_mul hby (show m.toNat ≤ 68719476736 by omega)) (by decide)) (by unfold UNK; omega) this
  · have hin : n = i := by simpa [idOf] using hi
    subst hin; exact hS.fnone (Nat.le_refl _)
  · rw [List.drop_zero, List.take_of_length_le (Nat.le_of_eq hR2.length)]
theorem GL.callP (g : Good P Δ) (hfl : IsFl fl lo n lw fl2) {x : Operand} {xs : Array Operand} {ts : Array TypeId} {f : FuncId} {first cap : Array Value} {as args : List Value} {fn : Func} {R : Value → Nat → Heap → Prop} (ho : o.op = .call { callee := .value x, args := xs, argTypes := ts }) (hd : o.dst = some d) (hw : wantedA all o fr = some true)
    (hx : fr.eval x = some (.func (.func f) first cap)) (ha : xs.toList.mapM fr.eval = some as) (hargs : first.toList ++ as ++ cap.toList = args) (hfn : P.funcs[f]? = some fn) (hname : (fn.name == "runtime.NumGoroutine") = false) (hbody : fn.body.isNone = false) (hlw : lw ≤ n)
    (h : C P Δ n f args n H R) (kk : ∀ v n' H', n ≤ n' → (∀ i, i < n → H' i = H i) → R v n' H' → WL P Δ lo fl2 all l ((d, v) :: fr) n' H' Q) : WL P Δ lo fl all (o :: l) fr n H Q := by
  subst hargs
  exact WL.call hfl n ho hd hw hx ha hfn hname hbody hlw (Nat.le_refl _) (h.use g (Nat.le_refl _) fun v n' H' ha r => kk v n' H' ha.1 ha.2.1 r)
end ops
end
end Go.Proofs.YtmodhnkjimpkbaaAb
