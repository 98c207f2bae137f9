import Derived.Test.YtmodhnkjimpkbaaAbW5
set_option linter.all false
namespace Go.Proofs.YtmodhnkjimpkbaaAb
open Go
def Keeps (m : Nat) (H H' : Heap) : Prop := ∀ j, j < m → H' j = H j
theorem Keeps.eq {m : Nat} {H H' : Heap} (h : Keeps m H H') {i : Nat} (hi : i < m) : H' i = H i := h i hi
theorem Keeps.refl (m : Nat) (H : Heap) : Keeps m H H := fun _ _ => rfl
theorem Keeps.trans {m : Nat} {H H1 H2 : Heap} (a : Keeps m H H1) (b : Keeps m H1 H2) : Keeps m H H2 := fun j hj => (b j hj).trans (a j hj)
theorem Keeps.mono {m m' : Nat} {H H1 : Heap} (a : Keeps m H H1) (h : m' ≤ m) : Keeps m' H H1 := fun j hj => a j (by omega)
theorem AbsOk.keeps {lo n n' : Nat} {H H' : Heap} (h : AbsOk lo n H n' H') : Keeps lo H H' := h.2.1
def SL (H : Heap) (sz : Nat) (v : Value) (len : Nat) (cs : List Value) : Prop :=
  (v = .slice none 0 0 ∧ len = 0 ∧ cs = []) ∨
  ∃ b k cap c, v = .slice (some ⟨b, k, none⟩) len cap ∧ H b = some (.row sz c) ∧ (c.drop k).take (len * sz) = cs ∧ cs.length = len * sz
theorem OwnS.sl {lo n : Nat} {H : Heap} {sz : Nat} {v : Value} {len : Nat} {cs : List Value} (h : OwnS lo n H sz v len cs) : SL H sz v len cs := by
  rcases h with h | ⟨b, k, cap, c, h1, h2, h3, h4, _⟩
  · exact .inl h
  · exact .inr ⟨b, k, cap, c, h1, h2, h3, h4⟩
theorem SL.form {H : Heap} {sz : Nat} {v : Value} {len : Nat} {cs : List Value} (h : SL H sz v len cs) : ∃ a cap, v = .slice a len cap := by
  rcases h with ⟨rfl, rfl, rfl⟩ | ⟨b, k, cap, c, rfl, _⟩
  · exact ⟨_, _, rfl⟩
  · exact ⟨_, _, rfl⟩
theorem OwnS.form {lo n : Nat} {H : Heap} {sz : Nat} {v : Value} {len : Nat} {cs : List Value} (h : OwnS lo n H sz v len cs) : ∃ a cap, v = .slice a len cap := h.sl.form
theorem SL.length {H : Heap} {sz : Nat} {v : Value} {len : Nat} {cs : List Value} (h : SL H sz v len cs) : cs.length = len * sz := by
  rcases h with ⟨rfl, rfl, rfl⟩ | ⟨b, k, cap, c, rfl, _, _, h⟩
  · simp
  · exact h
theorem SL.mono {H H' : Heap} {sz : Nat} {v : Value} {len : Nat} {cs : List Value} (h : SL H sz v len cs) (hH : ∀ i, idOf v = some i → H' i = H i) : SL H' sz v len cs := by
  rcases h with h | ⟨b, k, cap, c, rfl, h2, h3⟩
  · exact .inl h
  · exact .inr ⟨b, k, cap, c, rfl, by rw [hH b rfl]; exact h2, h3⟩
def Below (m : Nat) (v : Value) : Prop := ∀ i, idOf v = some i → i < m
theorem OwnS.below {lo n : Nat} {H : Heap} {sz : Nat} {v : Value} {len : Nat} {cs : List Value} (h : OwnS lo n H sz v len cs) : Below n v := fun i hi => (h.id_lt hi).2
theorem SL.abs {H H' : Heap} {sz : Nat} {v : Value} {len : Nat} {cs : List Value} {m n n' : Nat} (h : SL H sz v len cs) (hb : Below m v) (ha : AbsOk m n H n' H') : SL H' sz v len cs := h.mono fun i hi => ha.eq (hb i hi)
theorem OwnS.abs {lo n : Nat} {H H' : Heap} {sz : Nat} {v : Value} {len : Nat} {cs : List Value} {n' : Nat} (h : OwnS lo n H sz v len cs) (ha : AbsOk n n H n' H') : OwnS lo n' H' sz v len cs := h.mono (Nat.le_refl _) ha.le fun i hi _ => ha.eq hi
section
variable {P : Program} {Δ : Prims} {lo : Nat} {fr : Fr} {n : Nat} {H : Heap} {Q : Post} {all : Array Oper} {l : List Oper} {o : Oper} {d : Nat}
theorem WL.indexL {fl fl2 : List Bool} {lw : Nat} (hfl : IsFl fl lo n lw fl2) {t : TypeId} {x y : Operand} {el : TypeId} {i : TypeInfo} {v : Value} {len : Nat} {cs : List Value} {q : IntKind} {j : Int} (ho : o.op = .indexAddr t x y) (hd : o.dst = some d) (hw : wantedA all o fr = some true) (ht : P.underlying t = some (.slice el)) (hi : P.info? el = some i)
    (hx : fr.eval x = some v) (hS : SL H i.size v len cs) (hy : fr.eval y = some (.int q j)) (h0 : 0 ≤ j) (hj : j < len)
    (kk : ∀ b k c, idOf v = some b → H b = some (.row i.size c) → (∀ m, m < i.size → c[k + m]? = cs[j.toNat * i.size + m]?) → WL P Δ lo fl2 all l ((d, .pointer (some ⟨b, k, none⟩)) :: fr) n H Q) : WL P Δ lo fl all (o :: l) fr n H Q := by
  rcases hS with ⟨rfl, rfl, rfl⟩ | ⟨b, k, cap, c, rfl, hb, hc, hcl⟩
  · exfalso; simp only [Int.ofNat_zero, Int.natCast_zero] at hj; omega
  · refine WL.indexS hfl ho hd hw ht hi hx hy h0 hj (kk b (k + j.toNat * i.size) c rfl hb fun m hm => ?_)
    have hlt : j.toNat * i.size + m < len * i.size := by
      have h1 : j.toNat + 1 ≤ len := by omega
      have h2 := Nat.mul_le_mul_right i.size h1
      rw [Nat.add_mul, Nat.one_mul] at h2
      omega
    rw [← hc, List.getElem?_take_of_lt hlt, List.getElem?_drop, Nat.add_assoc]
theorem WL.sliceL {fl fl2 : List Bool} {lw : Nat} (hfl : IsFl fl lo n lw fl2) {t el : TypeId} {i : TypeInfo} {x : Operand} {low high : Option Operand} {v : Value} {len lw h : Nat} {cs : List Value} (ho : o.op = .slice t x low high none) (hd : o.dst = some d) (hw : wantedA all o fr = some true) (ht : P.underlying t = some (.slice el)) (hi : P.info? el = some i)
    (hx : fr.eval x = some v) (hS : SL H i.size v len cs) (hl : Bnd fr.eval low 0 lw) (hh : Bnd fr.eval high len h) (hlh : lw ≤ h) (hhl : h ≤ len)
    (kk : ∀ a cap, idOf (.slice a (h - lw) cap) = idOf v → SL H i.size (.slice a (h - lw) cap) (h - lw) ((cs.take (h * i.size)).drop (lw * i.size)) → WL P Δ lo fl2 all l ((d, .slice a (h - lw) cap) :: fr) n H Q) : WL P Δ lo fl all (o :: l) fr n H Q := by
  rcases hS with ⟨rfl, rfl, rfl⟩ | ⟨b, k, cap, c, rfl, hb, hc, hcl⟩
  · obtain rfl : h = 0 := by omega
    obtain rfl : lw = 0 := by omega
    exact WL.sliceNil hfl ho hd hw ht hi hx hl hh (kk none 0 rfl (.inl ⟨rfl, rfl, by simp⟩))
  · refine WL.slice hfl ho hd hw ht hi hx hb rfl rfl hl hh (Nat.le_refl _) (by intro h; cases h) hlh (by unfold lb; omega) (kk _ _ rfl (.inr ⟨b, _, _, c, rfl, hb, ?_, ?_⟩))
    · rw [← hc, List.take_take, List.drop_take]
      have h1 : h * i.size ≤ len * i.size := Nat.mul_le_mul_right _ hhl
      rw [Nat.min_eq_left h1, ← List.drop_drop, Nat.sub_mul]
    · have h1 : h * i.size ≤ len * i.size := Nat.mul_le_mul_right _ hhl
      rw [List.length_drop, List.length_take, hcl, Nat.min_eq_left h1, Nat.sub_mul]
theorem Src.ofSL {ev : Operand → Option Value} {size m : Nat} {u : TypeId} {y : Operand} {dd : TypeDesc} {v : Value} {cs : List Value} (hu : P.underlying u = some dd) (hd : isInt dd = false) (hy : ev y = some v) (h : SL H size v m cs) : Src P ev H size u y m cs := by
  rcases h with ⟨rfl, rfl, rfl⟩ | ⟨b, k, cap, c, rfl, hb, hc, hcl⟩
  · exact .nil hu hd hy
  · exact .slice hu hd hy hb hc hcl
theorem WL.appS {fl fl2 : List Bool} {lw : Nat} (hfl : IsFl fl lo n lw fl2) {t u el : TypeId} {i : TypeInfo} {z : Value} {x y : Operand} {v v2 : Value} {len m lo2 : Nat} {olds news : List Value} {dd : TypeDesc} (ho : o.op = .call { callee := .builtin .append, args := #[x, y], argTypes := #[t, u] }) (hd : o.dst = some d) (hw : wantedA all o fr = some true) (ht : P.underlying t = some (.slice el)) (hu : P.underlying u = some dd) (hdd : isInt dd = false) (hi : P.info? el = some i) (hz : i.zero = some z) (hzs : (Cells z).length = i.size)
    (hx : fr.eval x = some v) (hy : fr.eval y = some v2) (hown : OwnS lo2 n H i.size v len olds) (hlo2 : lw ≤ lo2) (hl2 : lo2 ≤ n) (hS : SL H i.size v2 m news) (h1 : ∀ v ∈ news, v.oneCell' = true) (h0 : ∀ v ∈ olds, v.oneCell' = true) (hby : (len + m) * i.bytes ≤ 140737488355328) (h63 : len + m < UNK)
    (kk : ∀ a cap n' H', n ≤ n' → n' ≤ n + 1 → (∀ j, j < n → idOf v ≠ some j → H' j = H j) → OwnS lo2 n' H' i.size (.slice a (len + m) cap) (len + m) (olds ++ news) →
      WL P Δ lo fl2 all l ((d, .slice a (len + m) cap) :: fr) n' H' Q) : WL P Δ lo fl all (o :: l) fr n H Q := by
  have hsrc := Src.ofSL (P := P) (ev := fr.eval) hu hdd hy hS
  by_cases hm : m = 0
  · subst hm
    have hn : news = [] := List.eq_nil_of_length_eq_zero (by have := hS.length; simpa using this)
    subst hn
    obtain ⟨a, cap, rfl⟩ := hown.form
    refine WL.append0 hfl ho hd hw ht hi hx hsrc ?_
    exact kk a cap n H (Nat.le_refl _) (by omega) (fun _ _ _ => rfl) (by simpa using hown)
  · refine WL.app hfl ho hd hw ht hi hz hzs hx (hown.mono hlo2 (Nat.le_refl _) (fun _ _ _ => rfl)) hsrc (by omega) h1 h0 hby h63 (fun H' e1 e2 e3 => ?_) hS.length
    exact kk _ _ (n + 1) H' (by omega) (by omega) e2 (e3 lo2 hl2)
end
def SLI (m : Nat) (H : Heap) (sz : Nat) (v : Value) (len : Nat) (cs : List Value) : Prop := SL H sz v len cs ∧ Below m v
theorem SLI.keep {m m' : Nat} {H H' : Heap} {sz : Nat} {v : Value} {len : Nat} {cs : List Value} (h : SLI m H sz v len cs) (hm : m ≤ m') (hk : ∀ i, i < m → H' i = H i) : SLI m' H' sz v len cs :=
  ⟨h.1.mono fun i hi => hk i (h.2 i hi), fun i hi => Nat.lt_of_lt_of_le (h.2 i hi) hm⟩
theorem OwnS.sli {lo n : Nat} {H : Heap} {sz : Nat} {v : Value} {len : Nat} {cs : List Value} (h : OwnS lo n H sz v len cs) : SLI n H sz v len cs := ⟨h.sl, h.below⟩
theorem OwnS.keep {lo lo' n n' : Nat} {H H' : Heap} {sz : Nat} {v : Value} {len : Nat} {cs : List Value} (h : OwnS lo n H sz v len cs) (hlo : lo' ≤ lo) (hn : n ≤ n') (hk : ∀ i, i < n → H' i = H i) : OwnS lo' n' H' sz v len cs := h.mono hlo hn fun i hi _ => hk i hi
theorem OwnS.stay {lo n n' : Nat} {H H' : Heap} {sz : Nat} {v : Value} {len : Nat} {cs : List Value} (h : OwnS lo n H sz v len cs) (hn : n ≤ n') (hk : ∀ i, i < n → H' i = H i) : OwnS lo n' H' sz v len cs := h.keep (Nat.le_refl _) hn hk
abbrev BSI (m : Nat) (H : Heap) (v : Value) (bs : List UInt8) : Prop := SLI m H 1 v bs.length (bs.map u8)
abbrev BS (H : Heap) (v : Value) (bs : List UInt8) : Prop := SL H 1 v bs.length (bs.map u8)
abbrev OB (lo n : Nat) (H : Heap) (v : Value) (bs : List UInt8) : Prop := OwnS lo n H 1 v bs.length (bs.map u8)
theorem getElem_u8 {bs : List UInt8} {j : Nat} (h : j < bs.length) : (bs.map u8)[j]? = some (u8 bs[j]) := by simp [h]
section
variable {P : Program} {Δ : Prims} {lo : Nat} {fr : Fr} {n : Nat} {H : Heap} {Q : Post} {all : Array Oper} {l : List Oper} {o : Oper} {d : Nat}
theorem WL.indexB {fl fl2 : List Bool} {lw : Nat} (hfl : IsFl fl lo n lw fl2) {t : TypeId} {x y : Operand} {el : TypeId} {i : TypeInfo} {v : Value} {bs : List UInt8} {q : IntKind} {j : Int} (ho : o.op = .indexAddr t x y) (hd : o.dst = some d) (hw : wantedA all o fr = some true) (ht : P.underlying t = some (.slice el)) (hi : P.info? el = some i) (h1 : i.size = 1)
    (hx : fr.eval x = some v) (hS : BS H v bs) (hy : fr.eval y = some (.int q j)) (h0 : 0 ≤ j) (hj : j < bs.length)
    (kk : ∀ b k c, idOf v = some b → H b = some (.row 1 c) → c[k]? = some (u8 (bs[j.toNat]'(by omega))) → WL P Δ lo fl2 all l ((d, .pointer (some ⟨b, k, none⟩)) :: fr) n H Q) : WL P Δ lo fl all (o :: l) fr n H Q := by
  refine WL.indexL hfl ho hd hw ht hi hx (by rw [h1]; exact hS) hy h0 hj fun b k c e1 e2 e3 => kk b k c e1 (by rw [← h1]; exact e2) ?_
  have := e3 0 (by omega)
  rw [h1] at this
  simp only [Nat.add_zero, Nat.mul_one] at this
  rw [this, getElem_u8 (by omega)]
theorem WL.sliceB {fl fl2 : List Bool} {lw : Nat} (hfl : IsFl fl lo n lw fl2) {t el : TypeId} {i : TypeInfo} {x : Operand} {low high : Option Operand} {v : Value} {lw h : Nat} {bs : List UInt8} (ho : o.op = .slice t x low high none) (hd : o.dst = some d) (hw : wantedA all o fr = some true) (ht : P.underlying t = some (.slice el)) (hi : P.info? el = some i) (h1 : i.size = 1)
    (hx : fr.eval x = some v) (hS : BS H v bs) (hl : Bnd fr.eval low 0 lw) (hh : Bnd fr.eval high bs.length h) (hlh : lw ≤ h) (hhl : h ≤ bs.length)
    (kk : ∀ a cap, idOf (.slice a ((bs.take h).drop lw).length cap) = idOf v → BS H (.slice a ((bs.take h).drop lw).length cap) ((bs.take h).drop lw) → WL P Δ lo fl2 all l ((d, .slice a ((bs.take h).drop lw).length cap) :: fr) n H Q) : WL P Δ lo fl all (o :: l) fr n H Q := by
  have e : ((bs.take h).drop lw).length = h - lw := by simp; omega
  refine WL.sliceL hfl ho hd hw ht hi hx (by rw [h1]; exact hS) hl hh hlh hhl fun a cap e1 e2 => ?_
  rw [h1] at e2
  have := kk a cap (by rw [e]; exact e1) (by rw [BS, e]; simpa [List.map_take, List.map_drop] using e2)
  rw [e] at this; exact this
theorem WL.putB {fl fl2 : List Bool} {lw : Nat} (hfl : IsFl fl lo n lw fl2) {t u el : TypeId} {i : TypeInfo} {z : Value} {x y : Operand} {v : Value} {bs new : List UInt8} {news : List Value} {m lo2 : Nat} (ho : o.op = .call { callee := .builtin .append, args := #[x, y], argTypes := #[t, u] }) (hd : o.dst = some d) (hw : wantedA all o fr = some true) (ht : P.underlying t = some (.slice el)) (hi : P.info? el = some i) (hz : i.zero = some z) (hzs : (Cells z).length = i.size)
    (hs1 : i.size = 1) (hb1 : i.bytes = 1) (hx : fr.eval x = some v) (hown : OB lo2 n H v bs) (hlo2 : lw ≤ lo2) (hl2 : lo2 ≤ n) (hsrc : Src P fr.eval H i.size u y m news) (hnew : news = new.map u8) (hm : m = new.length) (hm0 : 0 < m) (hby : bs.length + m ≤ 140737488355328)
    (kk : ∀ a cap H', Keeps lo2 H H' → OB lo2 (n + 1) H' (.slice a (bs ++ new).length cap) (bs ++ new) → WL P Δ lo fl2 all l ((d, .slice a (bs ++ new).length cap) :: fr) (n + 1) H' Q) : WL P Δ lo fl all (o :: l) fr n H Q :=
  WL.appB hfl ho hd hw ht hi hz hzs hs1 hb1 hx (hown.mono hlo2 (Nat.le_refl _) (fun _ _ _ => rfl)) hsrc hnew hm hm0 hby fun H' h1 h2 h3 => kk _ _ H' (fun j hj => h2 j (by omega) (fun e => by have := hown.id_lt e; omega)) (h3 lo2 hl2)
theorem WL.appBS {fl fl2 : List Bool} {lw : Nat} (hfl : IsFl fl lo n lw fl2) {t u el : TypeId} {i : TypeInfo} {z : Value} {x y : Operand} {v v2 : Value} {lo2 : Nat} {bs new : List UInt8} {dd : TypeDesc} (ho : o.op = .call { callee := .builtin .append, args := #[x, y], argTypes := #[t, u] }) (hd : o.dst = some d) (hw : wantedA all o fr = some true) (ht : P.underlying t = some (.slice el)) (hu : P.underlying u = some dd) (hdd : isInt dd = false) (hi : P.info? el = some i) (hz : i.zero = some z) (hzs : (Cells z).length = i.size) (hs1 : i.size = 1) (hb1 : i.bytes = 1)
    (hx : fr.eval x = some v) (hy : fr.eval y = some v2) (hown : OB lo2 n H v bs) (hlo2 : lw ≤ lo2) (hl2 : lo2 ≤ n) (hS : BS H v2 new) (hby : bs.length + new.length ≤ 140737488355328)
    (kk : ∀ a cap n' H', n ≤ n' → n' ≤ n + 1 → Keeps lo2 H H' → OB lo2 n' H' (.slice a (bs ++ new).length cap) (bs ++ new) → WL P Δ lo fl2 all l ((d, .slice a (bs ++ new).length cap) :: fr) n' H' Q) : WL P Δ lo fl all (o :: l) fr n H Q := by
  refine WL.appS hfl ho hd hw ht hu hdd hi hz hzs hx hy (by rw [hs1]; exact hown) hlo2 hl2 (by rw [hs1]; exact hS) (one_u8 _) (one_u8 _) (by rw [hb1]; omega) (by unfold UNK; omega) fun a cap n' H' e1 e2 e3 e4 => ?_
  rw [hs1] at e4
  have e : (bs ++ new).length = bs.length + new.length := by simp
  have := kk a cap n' H' e1 e2 (fun j hj => e3 j (by omega) (fun e => by have := hown.id_lt e; omega)) (by rw [OB, e, List.map_append]; exact e4)
  rw [e] at this; exact this
end
end Go.Proofs.YtmodhnkjimpkbaaAb
