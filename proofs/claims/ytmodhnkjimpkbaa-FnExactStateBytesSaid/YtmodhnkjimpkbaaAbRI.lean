import Derived.Test.YtmodhnkjimpkbaaAbP4
set_option linter.all false
namespace Go.Proofs.YtmodhnkjimpkbaaAb
open Go
section
variable (P : Program) (Δ : Prims) (lo : Nat) (all : Array Oper) (I : Heap → Prop)
inductive TRI : List (Bool × Bool × Bool) → List Oper → Bool → Fr → Nat → Heap → Fr → Nat → Heap → Prop
  | nil {nd : Bool} {fr : Fr} {n : Nat} {H : Heap} (hI : nd = true → I H) : TRI [] [] nd fr n H fr n H
  | cons {b ft nd nde : Bool} {fl : List (Bool × Bool × Bool)} {o : Oper} {l : List Oper} {fr fr1 fr' : Fr} {n n1 n' : Nat} {H H1 H' : Heap} (hI : nd = true → I H) (h1 : TR P Δ lo all [b] [o] fr n H .norm fr1 n1 H1) (hf : ft = false) (h : TRI fl l nde fr1 n1 H1 fr' n' H') : TRI ((b, ft, nd) :: fl) (o :: l) nde fr n H fr' n' H'
  | late {nd nde : Bool} {fl : List (Bool × Bool × Bool)} {o : Oper} {l : List Oper} {fr fr' : Fr} {n n' : Nat} {H H' : Heap} {v : Value} (hI : nd = true → I H) (hw : wantedA all o fr = some true) (hs : ∀ H2, (H2 = H ∨ I H2) → Step P n fr.eval n H2 o v n H2) (h : TRI fl l nde (fr.put o.dst v) n H fr' n' H') : TRI ((false, true, nd) :: fl) (o :: l) nde fr n H fr' n' H'
  | lateSkip {ft nd nde : Bool} {fl : List (Bool × Bool × Bool)} {o : Oper} {l : List Oper} {fr fr' : Fr} {n n' : Nat} {H H' : Heap} (hI : nd = true → I H) (hw : wantedA all o fr = some false) (h : TRI fl l nde (fr.put o.dst undef) n H fr' n' H') : TRI ((false, ft, nd) :: fl) (o :: l) nde fr n H fr' n' H'
structure WLI (fl : List (Bool × Bool × Bool)) (nde : Bool) (l : List Oper) (fr : Fr) (n : Nat) (H : Heap) (Q : Fr → Nat → Heap → Prop) : Prop where
  out : ∃ fr' n' H', TRI P Δ lo all I fl l nde fr n H fr' n' H' ∧ Q fr' n' H'
end
section
variable {P : Program} {Δ : Prims} {lo : Nat} {all : Array Oper} {I : Heap → Prop}
theorem rm_nil (H : Heap) (n : Nat) : H.rm n n = H := by funext i; simp only [Heap.rm]; rw [if_neg (by omega)]
theorem TR.one {fl : List Bool} {b : Bool} {o : Oper} {fr fr' : Fr} {n n' : Nat} {H H' : Heap} {e : Ex} (h : TR P Δ lo all [b] [o] fr n H e fr' n' H') : ∀ frx, Fr.same frx fr →
    e = .norm ∧ ∃ v K, Fr.same (frx.put o.dst v) fr' ∧ wantedA all o frx = some K ∧ (K = false → v = undef ∧ n' = n ∧ H' = H) ∧ (K = true → D P Δ (.op (if b then lo else n) o frx n H v n' H')) := by
  intro frx hx
  obtain ⟨he, F, N, HH, V, K, f0, n0, h0, f1, n1, h1, hk⟩ := h.fns rfl frx hx
  have := hk 0 (by simp)
  simp only [List.getD_cons_zero] at this
  obtain ⟨a, b', c, d⟩ := this
  simp only [List.length_singleton] at f1 n1 h1
  refine ⟨he, V 0, K 0, ?_, by rw [← f0]; exact a, fun hK => ?_, fun hK => ?_⟩
  · rw [← f0, ← b']; exact f1
  · obtain ⟨x, y, z⟩ := c hK
    exact ⟨x, by rw [← n1, y, n0], by rw [← h1, z, h0]⟩
  · have := d hK
    rw [f0, n0, h0, n1, h1] at this
    exact this
theorem TRI.fns {fl : List (Bool × Bool × Bool)} {l : List Oper} {nde : Bool} {fr fr' : Fr} {n n' : Nat} {H H' : Heap} (h : TRI P Δ lo all I fl l nde fr n H fr' n' H') : ∀ frx, Fr.same frx fr →
    fl.length = l.length ∧ ∃ (F : Nat → Fr) (N : Nat → Nat) (HH : Nat → Heap) (V : Nat → Value) (K : Nat → Bool), F 0 = frx ∧ N 0 = n ∧ HH 0 = H ∧ Fr.same (F l.length) fr' ∧ N l.length = n' ∧ HH l.length = H' ∧ (nde = true → I (HH l.length)) ∧
      ∀ k, k < l.length → wantedA all (l.getD k default) (F k) = some (K k) ∧ F (k + 1) = (F k).put (l.getD k default).dst (V k) ∧ (K k = false → V k = undef ∧ N (k + 1) = N k ∧ HH (k + 1) = HH k) ∧
        (K k = true → D P Δ (.op (if (fl.getD k (true, false, false)).1 then lo else N k) (l.getD k default) (F k) (N k) (HH k) (V k) (N (k + 1)) (HH (k + 1)))) ∧
        ((fl.getD k (true, false, false)).2.2 = true → I (HH k)) ∧
        ((fl.getD k (true, false, false)).2.1 = true → K k = true → ∀ H2, I H2 → Step P (N k) (F k).eval (N k) (H2.rm (N k) (N (k + 1))) (l.getD k default) (V k) (N (k + 1)) H2) := by
  induction h with
  | @nil nd fr n H hI =>
    intro frx hx
    exact ⟨rfl, fun _ => frx, fun _ => n, fun _ => H, fun _ => undef, fun _ => false, rfl, rfl, rfl, hx, rfl, rfl, hI, fun k hk => by simp at hk⟩
  | @cons b ft nd nde fl o l fr fr1 fr' n n1 n' H H1 H' hI h1 hf h ih =>
    intro frx hx
    obtain ⟨_, v, K0, hs, hw, hk0, hk1⟩ := TR.one (fl := [b]) h1 frx hx
    obtain ⟨hlen, F, N, HH, V, K, f0, n0, h0, f1, nn1, hh1, hend, hk⟩ := ih (frx.put o.dst v) hs
    refine ⟨by simp [hlen], fun k => match k with | 0 => frx | k + 1 => F k, fun k => match k with | 0 => n | k + 1 => N k, fun k => match k with | 0 => H | k + 1 => HH k, fun k => match k with | 0 => v | k + 1 => V k, fun k => match k with | 0 => K0 | k + 1 => K k,
      rfl, rfl, rfl, by simpa using f1, by simpa using nn1, by simpa using hh1, by simpa using hend, fun k hkl => ?_⟩
    cases k with
    | zero =>
      refine ⟨hw, f0, fun hh => ?_, fun hh => ?_, hI, fun hh => by simp only [List.getD_cons_zero] at hh; rw [hf] at hh; cases hh⟩
      · obtain ⟨a, c, d⟩ := hk0 hh; exact ⟨a, by rw [← c]; exact n0, by rw [← d]; exact h0⟩
      · have := hk1 hh
        simp only [List.getD_cons_zero, n0, h0]; exact this
    | succ k => simpa using hk k (by simpa using hkl)
  | @late nd nde fl o l fr fr' n n' H H' v hI hw hs h ih =>
    intro frx hx
    obtain ⟨hlen, F, N, HH, V, K, f0, n0, h0, f1, nn1, hh1, hend, hk⟩ := ih (frx.put o.dst v) (Fr.same_put hx _ _)
    have he := Fr.same_eval hx
    refine ⟨by simp [hlen], fun k => match k with | 0 => frx | k + 1 => F k, fun k => match k with | 0 => n | k + 1 => N k, fun k => match k with | 0 => H | k + 1 => HH k, fun k => match k with | 0 => v | k + 1 => V k, fun k => match k with | 0 => true | k + 1 => K k,
      rfl, rfl, rfl, by simpa using f1, by simpa using nn1, by simpa using hh1, by simpa using hend, fun k hkl => ?_⟩
    cases k with
    | zero =>
      refine ⟨by rw [Fr.same_wanted hx]; exact hw, f0, fun hh => (by cases hh), fun hh => ?_, hI, fun _ _ H2 h2 => ?_⟩
      · simp only [List.getD_cons_zero, n0, h0]
        exact .step (by rw [he]; exact hs H (.inl rfl))
      · simp only [List.getD_cons_zero, n0, rm_nil]
        rw [he]; exact hs H2 (.inr h2)
    | succ k => simpa using hk k (by simpa using hkl)
  | @lateSkip ft nd nde fl o l fr fr' n n' H H' hI hw h ih =>
    intro frx hx
    obtain ⟨hlen, F, N, HH, V, K, f0, n0, h0, f1, nn1, hh1, hend, hk⟩ := ih (frx.put o.dst undef) (Fr.same_put hx _ _)
    refine ⟨by simp [hlen], fun k => match k with | 0 => frx | k + 1 => F k, fun k => match k with | 0 => n | k + 1 => N k, fun k => match k with | 0 => H | k + 1 => HH k, fun k => match k with | 0 => undef | k + 1 => V k, fun k => match k with | 0 => false | k + 1 => K k,
      rfl, rfl, rfl, by simpa using f1, by simpa using nn1, by simpa using hh1, by simpa using hend, fun k hkl => ?_⟩
    cases k with
    | zero => exact ⟨by rw [Fr.same_wanted hx]; exact hw, f0, fun _ => ⟨rfl, n0, h0⟩, fun hh => (by cases hh), hI, fun _ hh => (by cases hh)⟩
    | succ k => simpa using hk k (by simpa using hkl)
def lateB (ops : Array Oper) (r : List Nat) (fl : List (Bool × Bool × Bool)) (nde : Bool) : Bool :=
  (List.range (ops.size + 1)).all fun c => (List.range c).all fun k =>
    !(decide (c = ops.size) || (fl.getD c (true, false, false)).1) || (fl.getD k (true, false, false)).1 || !floatsB ops r (fun k => (fl.getD k (true, false, false)).1) k c ||
      ((fl.getD k (true, false, false)).2.1 && (if c = ops.size then nde else (fl.getD c (true, false, false)).2.2))
theorem W.regionI {id : Nat} {l : List Oper} {fr : Fr} {n : Nat} {H : Heap} {Q : Post} (I : Heap → Prop) (r : List Nat) (fl : List (Bool × Bool × Bool)) (nde : Bool) (hrl : r.length = l.length) (hchk : regOK l.toArray r (fun k => (fl.getD k (true, false, false)).1) = true) (hlate : lateB l.toArray r fl nde = true)
    {pl : List Oper} (hpl : r.map (fun i => l.getD i default) = pl) (h : WLI P Δ lo l.toArray I fl nde pl fr n H (Q .norm)) : W P Δ lo (.region id l.toArray true) fr n H Q := by
  obtain ⟨fr', n', H', tr, q⟩ := h
  have hpll : pl.length = l.length := by rw [← hpl]; simp [hrl]
  obtain ⟨hlen, F, N, HH, V, K, rfl, rfl, rfl, f1, rfl, rfl, hend, hk⟩ := tr.fns fr (Fr.same_refl fr)
  have hget : ∀ k, k < l.length → pl.getD k default = l.toArray.getD (r.getD k 0) default := fun k hk' => by
    rw [← hpl]
    have hkr : k < r.length := by omega
    simp [List.getD, List.getElem?_map, List.getElem?_eq_getElem hkr, Array.getD_eq_getD_getElem?]
  have hsz : l.toArray.size = l.length := by simp
  refine ⟨.norm, fr', _, _, D.drop (D.regionD (id := id) r (fun k => (fl.getD k (true, false, false)).1) K F N HH V hchk (fun k hk' => ?_) (fun k hk' => ?_) (fun k hk' hf => ?_) (fun k hk' ht => ?_) (fun k c hkc hc hcw hw hfl hwk => ?_)) (fun t v hv => ?_), ?_⟩
  · rw [hsz] at hk'; rw [← hget k hk']; exact (hk k (by omega)).1
  · rw [hsz] at hk'; rw [← hget k hk']; exact (hk k (by omega)).2.1
  · rw [hsz] at hk'; exact (hk k (by omega)).2.2.1 hf
  · rw [hsz] at hk'; rw [← hget k hk']; exact (hk k (by omega)).2.2.2.1 ht
  · simp only [lateB, List.all_eq_true, List.mem_range] at hlate
    have := hlate c (by omega) k hkc
    have h2 : (decide (c = l.toArray.size) || (fl.getD c (true, false, false)).1) = true := by
      rcases hcw with h | h
      · simp [h]
      · rw [h]; simp
    rw [h2, hw, hfl] at this
    simp only [Bool.not_true, Bool.false_or, Bool.and_eq_true] at this
    obtain ⟨h3, h4⟩ := this
    have hkl : k < l.length := by omega
    rw [← hget k hkl]
    refine .inl ((hk k (by omega)).2.2.2.2.2 h3 hwk (HH c) ?_)
    by_cases hce : c = l.toArray.size
    · rw [if_pos hce] at h4
      rw [hce, hsz, ← hpll]; exact hend h4
    · rw [if_neg hce] at h4
      exact (hk c (by omega)).2.2.2.2.1 h4
  · rw [hsz, ← hpll, f1 t]; exact hv
  · rw [hsz, ← hpll]; exact q
section rules
variable {fr : Fr} {n : Nat} {H : Heap} {Q : Fr → Nat → Heap → Prop} {fl : List (Bool × Bool × Bool)} {nde b nd : Bool} {l : List Oper} {o : Oper} {d : Nat}
theorem WLI.nil (hI : nde = true → I H) (h : Q fr n H) : WLI P Δ lo all I [] nde [] fr n H Q := ⟨_, _, _, .nil hI, h⟩
theorem WLI.op (hI : nd = true → I H) (h : WL P Δ lo [b] all [o] fr n H (fun e fr1 n1 H1 => e = .norm ∧ WLI P Δ lo all I fl nde l fr1 n1 H1 Q)) : WLI P Δ lo all I ((b, false, nd) :: fl) nde (o :: l) fr n H Q := by
  obtain ⟨e, fr1, n1, H1, tr, rfl, fr', n', H', t2, q⟩ := h
  exact ⟨fr', n', H', .cons hI tr rfl t2, q⟩
theorem WLI.late {v : Value} (hI : nd = true → I H) (hd : o.dst = some d) (hw : wantedA all o fr = some true) (hs : ∀ H2, (H2 = H ∨ I H2) → Step P n fr.eval n H2 o v n H2) (h : WLI P Δ lo all I fl nde l ((d, v) :: fr) n H Q) : WLI P Δ lo all I ((false, true, nd) :: fl) nde (o :: l) fr n H Q := by
  obtain ⟨fr', n', H', t2, q⟩ := h
  exact ⟨fr', n', H', .late hI hw hs (by rw [hd]; exact t2), q⟩
theorem WLI.skip {ft : Bool} (hI : nd = true → I H) (hd : o.dst = some d) (hw : wantedA all o fr = some false) (h : WLI P Δ lo all I fl nde l ((d, undef) :: fr) n H Q) : WLI P Δ lo all I ((false, ft, nd) :: fl) nde (o :: l) fr n H Q := by
  obtain ⟨fr', n', H', t2, q⟩ := h
  exact ⟨fr', n', H', .lateSkip hI hw (by rw [hd]; exact t2), q⟩
theorem Step.bin {op : BinOp} {t t' : TypeId} {x y : Operand} {k k' : IntKind} {a c : Int} {v : Value} {lw : Nat} (ho : o.op = .binOp op t x y t') (hx : fr.eval x = some (.int k a)) (hy : fr.eval y = some (.int k' c)) (hv : binI op k a k' c = some v) : Step P lw fr.eval n H o v n H := by
  refine .ground (fun cs b h => by rw [ho] at h; cases h) (fun z hz => ?_) (gr_binI hv) (fun w => binI_run hv ho (by rw [hx]; rfl) (by rw [hy]; rfl) w)
  rw [ho] at hz
  simp only [Op.operands] at hz
  have : z = x ∨ z = y := by simpa using hz
  rcases this with rfl | rfl
  · exact ⟨_, hx, gr_int _ _⟩
  · exact ⟨_, hy, gr_int _ _⟩
theorem Step.addI {t t' : TypeId} {x y : Operand} {a c : Int} {lw : Nat} (ho : o.op = .binOp .add t x y t') (hx : fr.eval x = some (.int .i64 a)) (hy : fr.eval y = some (.int .i64 c)) (h1 : -9223372036854775808 ≤ a + c) (h2 : a + c < 9223372036854775808) : Step P lw fr.eval n H o (.int .i64 (a + c)) n H :=
  Step.bin ho hx hy (by simp only [binI, if_true]; rw [wrap_i64 ⟨h1, h2⟩])
theorem Step.subI {t t' : TypeId} {x y : Operand} {a c : Int} {lw : Nat} (ho : o.op = .binOp .sub t x y t') (hx : fr.eval x = some (.int .i64 a)) (hy : fr.eval y = some (.int .i64 c)) (h1 : -9223372036854775808 ≤ a - c) (h2 : a - c < 9223372036854775808) : Step P lw fr.eval n H o (.int .i64 (a - c)) n H :=
  Step.bin ho hx hy (by simp only [binI, if_true]; rw [wrap_i64 ⟨h1, h2⟩])
theorem Step.load1' {t : TypeId} {x : Operand} {dd : TypeDesc} {b k e : Nat} {c : List Value} {v : Value} {lw : Nat} {H2 : Heap} (ho : o.op = .load t x) (ht : P.underlying t = some dd) (hr : isRow dd = false) (hx : fr.eval x = some (.pointer (some ⟨b, k, none⟩))) (hb : H2 b = some (.row e c)) (hk : c[k]? = some v) : Step P lw fr.eval n H2 o v n H2 := .load1 ho ht hr hx hb hk
theorem Step.len' {t : TypeId} {x : Operand} {el : TypeId} {a : Option Addr} {len cap : Nat} {lw : Nat} {H2 : Heap} (ho : o.op = .call { callee := .builtin .len, args := #[x], argTypes := #[t] }) (ht : P.underlying t = some (.slice el)) (hx : fr.eval x = some (.slice a len cap)) : Step P lw fr.eval n H2 o (.int .i64 len) n H2 := .len ho ht hx
theorem Step.fieldAddr' {s : TypeId} {x : Operand} {j b k k' : Nat} {fs : Array Field} {f : Field} {i : TypeInfo} {lw : Nat} (ho : o.op = .fieldAddr s x j) (hs : P.underlying s = some (.struct fs)) (hf : fs[j]? = some f)
      (hi : P.info? f.type = some i) (h0 : (i.size == 0) = false) (hx : fr.eval x = some (.pointer (some ⟨b, k, none⟩))) (hk : k + f.offset = k') : Step P lw fr.eval n H o (.pointer (some ⟨b, k', none⟩)) n H := by subst hk; exact .fieldAddr ho hs hf hi h0 hx
end rules
end
end Go.Proofs.YtmodhnkjimpkbaaAb
