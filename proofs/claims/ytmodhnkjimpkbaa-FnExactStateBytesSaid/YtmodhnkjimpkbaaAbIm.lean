import Derived.Test.YtmodhnkjimpkbaaAbRow3
import Derived.Test.YtmodhnkjimpkbaaAbP2
import Derived.Test.YtmodhnkjimpkbaaAbBd
set_option linter.all false
namespace Go.Proofs.YtmodhnkjimpkbaaAb
open Go Go.ChangeShapes Go.WideShapes
def Rel (ρ : Rho) : List Value → List Value → Prop
  | [], [] => True
  | a :: as, b :: bs => VR ρ a b ∧ Rel ρ as bs
  | _, _ => False
theorem Rel.mono {ρ ρ' : Rho} (hle : ρ.le ρ') : ∀ {as bs : List Value}, Rel ρ as bs → Rel ρ' as bs
  | [], [], _ => trivial
  | a :: as, b :: bs, h => ⟨h.1.mono hle, Rel.mono hle h.2⟩
  | [], _ :: _, h => h.elim
  | _ :: _, [], h => h.elim
theorem Rel.length {ρ : Rho} : ∀ {as bs : List Value}, Rel ρ as bs → as.length = bs.length
  | [], [], _ => rfl
  | a :: as, b :: bs, h => by rw [List.length_cons, List.length_cons, Rel.length h.2]
  | [], _ :: _, h => h.elim
  | _ :: _, [], h => h.elim
theorem Rel.append {ρ : Rho} : ∀ {as bs as2 bs2 : List Value}, Rel ρ as bs → Rel ρ as2 bs2 → Rel ρ (as ++ as2) (bs ++ bs2)
  | [], [], _, _, _, h => h
  | a :: as, b :: bs, _, _, h, h2 => ⟨h.1, Rel.append h.2 h2⟩
  | [], _ :: _, _, _, h, _ => h.elim
  | _ :: _, [], _, _, h, _ => h.elim
theorem Rel.get {ρ : Rho} : ∀ {as bs : List Value}, Rel ρ as bs → ∀ (k : Nat) v, as[k]? = some v → ∃ u, bs[k]? = some u ∧ VR ρ v u
  | [], [], _, k, v, h => by simp at h
  | a :: as, b :: bs, h, 0, v, hk => by simp only [List.getElem?_cons_zero, Option.some.injEq] at hk; subst hk; exact ⟨b, rfl, h.1⟩
  | a :: as, b :: bs, h, k + 1, v, hk => by simp only [List.getElem?_cons_succ] at hk ⊢; exact Rel.get h.2 k v hk
  | [], _ :: _, h, _, _, _ => h.elim
  | _ :: _, [], h, _, _, _ => h.elim
structure Brt (n : Nat) (ρ : Rho) (H : Heap) (w : World) : Prop where
  sim : Sim n ρ H w
  hn : ∀ i, n ≤ i → H i = none
  hr : ∀ i, n ≤ i → ρ i = none
def Blk (w : World) : Prop := ∃ (B : Nat) (cc : Array Value) (T : TypeId) (fz : Nat × Nat), w.heap[B]? = some (.cells cc T fz)
theorem Brt.push {n : Nat} {ρ : Rho} {H : Heap} {w : World} (h : Brt n ρ H w) {B off room sz : Nat} {cc : Array Value} {T : TypeId} {fz : Nat × Nat} (hb : w.heap[B]? = some (.cells cc T fz)) {c : List Value} (hc : c.length ≤ room) (hr : off + room ≤ cc.size)
    (hv : ∀ (k : Nat) v, c[k]? = some v → ∃ v', cc[off + k]? = some v' ∧ VR ρ v v') :
    Brt (n + 1) (ρ.set n ⟨B, off, room, sz⟩) (H.set n (.row sz c)) w ∧ ρ.le (ρ.set n ⟨B, off, room, sz⟩) ∧ H.Le (H.set n (.row sz c)) := by
  obtain ⟨hs, hn, hrr⟩ := h
  have hnn := hrr n (Nat.le_refl _)
  have hle : ρ.le (ρ.set n ⟨B, off, room, sz⟩) := Rho.le_set hnn
  refine ⟨⟨⟨fun i e c' s h1 h2 => ?_, fun i es s h1 h2 => ?_, fun i j s s' h1 h2 h3 h4 h5 h6 => ?_⟩, fun i hi => ?_, fun i hi => ?_⟩, hle, fun i o ho => ?_⟩
  · by_cases hi : i = n
    · subst hi
      rw [Heap.set_same] at h1; rw [Rho.set_same] at h2
      obtain ⟨rfl, rfl⟩ := Ob.row.inj (Option.some.inj h1)
      obtain rfl := Option.some.inj h2
      exact ⟨cc, T, fz, hb, rfl, hc, hr, fun k v hk => by obtain ⟨v', a1, a2⟩ := hv k v hk; exact ⟨v', a1, a2.mono hle⟩, fun h => by omega, fun h => by omega⟩
    · rw [Heap.set_ne _ _ hi] at h1; rw [Rho.set_ne _ _ hi] at h2
      obtain ⟨cc, T, fz, e1, e2, e3, e4, e5, e6, e7⟩ := hs.row i e c' s h1 h2
      exact ⟨cc, T, fz, e1, e2, e3, e4, fun k v hk => by obtain ⟨v', a1, a2⟩ := e5 k v hk; exact ⟨v', a1, a2.mono hle⟩, fun h => e6 (by omega), fun h => e7 (by omega)⟩
  · by_cases hi : i = n
    · subst hi; rw [Heap.set_same] at h1; cases Option.some.inj h1
    · rw [Heap.set_ne _ _ hi] at h1; rw [Rho.set_ne _ _ hi] at h2
      obtain ⟨en, cl, e1, e2, e3⟩ := hs.mp i es s h1 h2
      exact ⟨en, cl, e1, e2, fun k p hk => by obtain ⟨x, a1, a2, a3, a4⟩ := e3 k p hk; exact ⟨x, a1, a2, a3, a4.mono hle⟩⟩
  · rw [Rho.set_ne _ _ (by omega), hrr i (by omega)] at h3; cases h3
  · rw [Heap.set_ne _ _ (by omega)]; exact hn i (by omega)
  · rw [Rho.set_ne _ _ (by omega)]; exact hrr i (by omega)
  · by_cases hi : i = n
    · subst hi; rw [hn i (Nat.le_refl _)] at ho; cases ho
    · rw [Heap.set_ne _ _ hi]; exact ho
section
variable {Hd : Type} {enc : TypeId × Value → Hd} {P : Program} {w : World} {base : Nat} {spare : Nat → Bool} {held : Bool}
theorem pos_of {a b : Nat} (h : a = b) (hb : 0 < b) : 0 < a := h ▸ hb
def Imp (enc : TypeId × Value → Hd) (P : Program) (w : World) (base : Nat) (spare : Nat → Bool) (held : Bool) (t : TypeId) (α : Type) [Rp α] [Bd α] : Prop :=
  ∀ (fuel : Nat) (cs : List Value) (x : DataW Hd × List MemPlace), DataW.trod enc P w base spare held fuel t cs = some x → (∀ q ∈ x.1.weights P t, q ≤ reachBytes) → (∀ v ∈ cs, ∀ a l c, v = .slice (some a) l c → Blk w) →
    ∀ (n : Nat) (ρ : Rho) (H : Heap), Brt n ρ H w → ∃ (n' : Nat) (ρ' : Rho) (H' : Heap) (cs' : List Value) (y : α), n ≤ n' ∧ Brt n' ρ' H' w ∧ ρ.le ρ' ∧ H.Le H' ∧ Rel ρ' cs' cs ∧ Rp.R H' cs' y ∧ Bd.bd BU y
theorem Imp.i64 {t : TypeId} (ht : P.underlying t = some (.int .i64)) : Imp enc P w base spare held t Int := by
  intro fuel cs x h _ _ n ρ H hb
  obtain ⟨z, rfl, _, _⟩ := DataW.trod_int ht h
  exact ⟨n, ρ, H, [.int .i64 z], z, Nat.le_refl _, hb, Rho.le_refl _, .refl _, ⟨.int _ _, trivial⟩, rfl, trivial⟩
theorem Imp.bool {t : TypeId} (ht : P.underlying t = some .bool) : Imp enc P w base spare held t Bool := by
  intro fuel cs x h _ _ n ρ H hb
  obtain ⟨z, rfl, _⟩ := DataW.trod_bool ht h
  exact ⟨n, ρ, H, [.bool z], z, Nat.le_refl _, hb, Rho.le_refl _, .refl _, ⟨.bool _, trivial⟩, rfl, trivial⟩
theorem Imp.byte {t : TypeId} (ht : P.underlying t = some (.int .u8)) : Imp enc P w base spare held t UInt8 := by
  intro fuel cs x h _ _ n ρ H hb
  obtain ⟨z, rfl, _, hwf⟩ := DataW.trod_int ht h
  have hr := bounds_u8 hwf
  refine ⟨n, ρ, H, [.int .u8 z], byteOf z, Nat.le_refl _, hb, Rho.le_refl _, .refl _, ⟨.int _ _, trivial⟩, ?_, trivial⟩
  show [Value.int .u8 z] = [u8 (byteOf z)]
  rw [← u8_byteOf, wrap_u8 ⟨hr.1, by omega⟩]
theorem Imp.string {t : TypeId} (ht : P.underlying t = some .string) : Imp enc P w base spare held t Str := by
  intro fuel cs x h hq _ n ρ H hb
  obtain ⟨z, rfl, rfl, _⟩ := DataW.trod_string ht h
  have hz : z.data.toList.length ≤ reachBytes := hq _ (by simp [DataW.weights])
  have hreach := reachBytes_lt
  refine ⟨n, ρ, H, [.string z], z.data.toList, Nat.le_refl _, hb, Rho.le_refl _, .refl _, ⟨.string _, trivial⟩, ?_, by show z.data.toList.length ≤ BU; unfold BU; omega⟩
  show [Value.string z] = [str z.data.toList]
  unfold str
  cases z; simp
theorem cells_at {B off m : Nat} {cc : Array Value} {T : TypeId} {fz : Nat × Nat} (hb : w.heap[B]? = some (.cells cc T fz)) {a : Addr} (hab : a.block = B) (hao : a.off = off) {cs : List Value} (h : w.cells? base a m = some cs) : cs.length = m ∧ ∀ j, j < m → cc[off + j]? = cs[j]? ∧ off + j < cc.size := by
  unfold World.cells? at h
  split at h
  · have hl := mapM_some_length h
    rw [List.length_range] at hl
    refine ⟨hl, fun j hj => ?_⟩
    have := mapM_some_get h j j (by simp [hj])
    have e : w.cell? (a.add j) = cc[off + j]? := by
      have hjl : j < cs.length := by omega
      rw [List.getElem?_eq_getElem hjl] at this
      have h1 : (a.add j).block = B := by unfold Addr.add; split <;> simp [hab]
      have h2 : (a.add j).off = off + j := by unfold Addr.add; split <;> simp_all
      unfold World.cell? at this ⊢
      rw [h1, hb] at this ⊢
      simp only at this ⊢
      split at this
      · cases this
      · rename_i hsp; rw [if_neg hsp, h2]
    rw [← this, e]
    refine ⟨rfl, ?_⟩
    have hjl : j < cs.length := by omega
    rw [List.getElem?_eq_getElem hjl, e] at this
    exact (Array.getElem?_eq_some_iff.1 this).1
  · cases h
theorem imp_row {e : TypeId} {α : Type} [Rp α] [Bd α] (hI : Imp enc P w base spare held e α) (hsz : P.cellsOf e = Rp.sz α) (hB : Blk w) {fuel : Nat} {a : Addr} {B : Nat} {cc : Array Value} {T : TypeId} {fz : Nat × Nat} (hb : w.heap[B]? = some (.cells cc T fz)) (hab : a.block = B)
    {elems : List (DataW Hd × List MemPlace)} (hel : ∀ i, i < elems.length → (w.cells? base (a.add (i * P.cellsOf e)) (P.cellsOf e)).bind (DataW.trod enc P w base spare held fuel e) = elems[i]?) (hq : ∀ d ∈ elems, ∀ q ∈ d.1.weights P e, q ≤ reachBytes) :
    ∀ (m i : Nat), elems.length - i = m → i ≤ elems.length → ∀ (n : Nat) (ρ : Rho) (H : Heap), Brt n ρ H w → ∃ (n' : Nat) (ρ' : Rho) (H' : Heap) (cs' : List Value) (ys : List α), n ≤ n' ∧ Brt n' ρ' H' w ∧ ρ.le ρ' ∧ H.Le H' ∧ RA H' cs' ys ∧ ys.length = elems.length - i ∧ (∀ y ∈ ys, Bd.bd BU y) ∧
      ∀ (k : Nat) v, cs'[k]? = some v → ∃ u, cc[a.off + i * Rp.sz α + k]? = some u ∧ VR ρ' v u := by
  intro m
  induction m with
  | zero =>
    intro i hm hi n ρ H hbr
    exact ⟨n, ρ, H, [], [], Nat.le_refl _, hbr, Rho.le_refl _, .refl _, .nil, by simp; omega, (fun y hy => by cases hy), fun k v hk => by simp at hk⟩
  | succ m ih =>
    intro i hm hi n ρ H hbr
    have hlt : i < elems.length := by omega
    have h1 := hel i hlt
    rw [List.getElem?_eq_getElem hlt, Option.bind_eq_some_iff] at h1
    obtain ⟨cs, h2, h3⟩ := h1
    obtain ⟨n1, ρ1, H1, cs1, y, a1, a2, a3, a4, a5, a6, a8⟩ := hI fuel cs _ h3 (hq _ (List.getElem_mem hlt)) (fun _ _ _ _ _ _ => hB) n ρ H hbr
    obtain ⟨n2, ρ2, H2, cs2, ys, b1, b2, b3, b4, b5, b6, b8, b7⟩ := ih (i + 1) (by omega) (by omega) n1 ρ1 H1 a2
    have hao : (a.add (i * P.cellsOf e)).off = a.off + i * P.cellsOf e := by unfold Addr.add; split <;> simp_all
    have hab' : (a.add (i * P.cellsOf e)).block = B := by unfold Addr.add; split <;> simp [hab]
    obtain ⟨hcl, hcc⟩ := cells_at hb hab' hao h2
    have hl1 : cs1.length = Rp.sz α := Rp.len a6
    refine ⟨n2, ρ2, H2, cs1 ++ cs2, y :: ys, by omega, b2, Rho.le_trans a3 b3, a4.trans b4, .cons (Rp.mono a6 b4) b5, by rw [List.length_cons, b6]; omega, (fun z hz => by rcases List.mem_cons.1 hz with rfl | hz; exact a8; exact b8 z hz), fun k v hk => ?_⟩
    by_cases hks : k < Rp.sz α
    · rw [List.getElem?_append_left (by omega)] at hk
      obtain ⟨u, hu, hV⟩ := Rel.get a5 k v hk
      refine ⟨u, ?_, hV.mono b3⟩
      rw [← hsz, (hcc k (by omega)).1]; exact hu
    · rw [List.getElem?_append_right (by omega)] at hk
      obtain ⟨u, hu, hV⟩ := b7 _ v hk
      refine ⟨u, ?_, hV⟩
      rw [← hu, hl1, Nat.succ_mul]
      congr 1
      omega
theorem weightsAll_mem {e : TypeId} : ∀ {ds : List (DataW Hd)} {d : DataW Hd}, d ∈ ds → ∀ q ∈ d.weights P e, q ∈ DataW.weightsAll P e ds
  | d0 :: ds, d, h, q, hq => by
    simp only [DataW.weightsAll, List.mem_append]
    rcases List.mem_cons.1 h with rfl | h
    · exact Or.inl hq
    · exact Or.inr (weightsAll_mem h q hq)
theorem Imp.slice {t e : TypeId} {α : Type} [Rp α] [Bd α] (ht : P.underlying t = some (.slice e)) (hsz : P.cellsOf e = Rp.sz α) (h0 : 0 < Rp.sz α) (hby : 0 < P.bytesOf e) (hsp : ∀ b, spare b = true) (hI : Imp enc P w base spare held e α) : Imp enc P w base spare held t (List α) := by
  intro fuel cs x h hq hB n ρ H hb
  rcases DataW.trod_slice ht h with ⟨rfl, _⟩ | ⟨a, len, cap, elems, rest, f, rfl, rfl, rfl, hba, hlc, hcm, hel, hels, hrest, _⟩
  · exact ⟨n, ρ, H, [.slice none 0 0], [], Nat.le_refl _, hb, Rho.le_refl _, .refl _, ⟨.nils, trivial⟩, ⟨_, rfl, SR.nil⟩, ⟨by simp, by simp⟩⟩
  have hBlk : Blk w := hB _ (List.mem_singleton.2 rfl) a len cap rfl
  simp only [DataW.weights, ht] at hq
  have hlen : (elems.length + rest.length) * P.bytesOf e ≤ reachBytes := by simpa using hq _ (List.mem_cons_self ..)
  have hle : elems.length ≤ reachBytes := by
    have h1 : elems.length * 1 ≤ (elems.length + rest.length) * P.bytesOf e := Nat.mul_le_mul (by omega) hby
    omega
  have hreach := reachBytes_lt
  obtain ⟨hrl, hrs⟩ := hrest (hsp _)
  by_cases hc0 : cap = 0
  · subst hc0
    obtain rfl : len = 0 := by omega
    obtain ⟨B, cc, T, fz, hB⟩ := hBlk
    obtain ⟨p1, p2, p3⟩ := hb.push (off := 0) (room := 0) (sz := Rp.sz α) hB (c := []) (by simp) (by simp) (fun k v hk => by simp at hk)
    refine ⟨n + 1, _, _, [.slice (some ⟨n, 0, none⟩) 0 UNK], [], by omega, p1, p2, p3, ⟨.sl0 n 0 a _ (Rho.set_same _ _ _), trivial⟩, ⟨_, rfl, by simp [UNK], [], .inr ⟨n, 0, UNK, [], rfl, Heap.set_same _ _ _, by simp, by simp⟩, .nil⟩, ⟨by simp, by simp⟩⟩
  ·
    have hread : ∀ i, i < cap → ∃ cs, w.cells? base (a.add (i * P.cellsOf e)) (P.cellsOf e) = some cs := by
      intro i hi
      by_cases hil : i < len
      · have h1 := hels i hil
        rw [List.getElem?_eq_getElem (by omega), Option.bind_eq_some_iff] at h1
        exact ⟨_, h1.choose_spec.1⟩
      · have h1 := hrs (i - len) (by omega)
        rw [List.getElem?_eq_getElem (by omega), Option.bind_eq_some_iff, show len + (i - len) = i by omega] at h1
        exact ⟨_, h1.choose_spec.1⟩
    obtain ⟨cs0, hcs0⟩ := hread 0 (by omega)
    have hblk : a.spot = none ∧ ∃ cc T fz, w.heap[a.block]? = some (.cells cc T fz) := by
      unfold World.cells? at hcs0
      split at hcs0
      · have hl := mapM_some_length hcs0
        rw [List.length_range] at hl
        have := mapM_some_get hcs0 0 0 (by rw [List.getElem?_range (by omega)])
        have hz : 0 < cs0.length := by omega
        rw [List.getElem?_eq_getElem hz] at this
        have e1 : (a.add (0 * P.cellsOf e)).add 0 = a := by simp [Addr.add]
        rw [e1] at this
        unfold World.cell? at this
        split at this
        · rename_i c T fz heq
          split at this
          · cases this
          · rename_i hsp'
            exact ⟨by simpa using hsp', c, T, fz, heq⟩
        · cases this
      · cases hcs0
    obtain ⟨hspot, cc, T, fz, hbc⟩ := hblk
    obtain ⟨ab, ao, asp⟩ := a
    simp only at hspot hbc
    subst hspot
    obtain ⟨n1, ρ1, H1, cs1, ys, a1, a2, a3, a4, a5, a6, a8, a7⟩ := imp_row hI hsz hBlk (fuel := f) (a := ⟨ab, ao, none⟩) hbc rfl (elems := elems) (fun i hi => hels i (by omega)) (fun d hd q hqq => hq q (List.mem_cons_of_mem _ (List.mem_append.2 (Or.inl (weightsAll_mem (List.mem_map_of_mem hd) q hqq))))) elems.length 0 (by omega) (by omega) n ρ H hb
    have hroom : ao + cap * Rp.sz α ≤ cc.size := by
      obtain ⟨cs2, hcs2⟩ := hread (cap - 1) (by omega)
      have hao : ((⟨ab, ao, none⟩ : Addr).add ((cap - 1) * P.cellsOf e)).off = ao + (cap - 1) * P.cellsOf e := by rw [add_off]
      have hab' : ((⟨ab, ao, none⟩ : Addr).add ((cap - 1) * P.cellsOf e)).block = ab := by rw [add_off]
      obtain ⟨_, hcc⟩ := cells_at hbc hab' hao hcs2
      have := (hcc (P.cellsOf e - 1) (by omega)).2
      rw [hsz] at this
      have hm : cap * Rp.sz α = (cap - 1) * Rp.sz α + Rp.sz α := by conv => lhs; rw [show cap = (cap - 1) + 1 by omega, Nat.succ_mul]
      omega
    have hcl : cs1.length = elems.length * Rp.sz α := by rw [a5.length, a6]; simp
    have hcr : cs1.length ≤ cap * Rp.sz α := by rw [hcl]; exact Nat.mul_le_mul_right _ (by omega)
    obtain ⟨p1, p2, p3⟩ := a2.push (off := ao) (room := cap * Rp.sz α) (sz := Rp.sz α) hbc (c := cs1) hcr hroom (fun k v hk => by
      obtain ⟨u, hu, hV⟩ := a7 k v hk
      exact ⟨u, by simpa using hu, hV⟩)
    have hyl : ys.length = len := by rw [a6]; omega
    refine ⟨n1 + 1, _, _, [.slice (some ⟨n1, 0, none⟩) len cap], ys, by omega, p1, Rho.le_trans a3 p2, a4.trans p3, ⟨?_, trivial⟩, ⟨_, rfl, by rw [hyl]; unfold UNK; omega, cs1, .inr ⟨n1, 0, cap, cs1, by rw [hyl], Heap.set_same _ _ _, ?_, ?_⟩, a5.mono p3⟩, ⟨by unfold BU; omega, a8⟩⟩
    · have := VR.sl (ρ := ρ1.set n1 ⟨ab, ao, cap * Rp.sz α, Rp.sz α⟩) n1 0 len cap cap ⟨ab, ao, cap * Rp.sz α, Rp.sz α⟩ (Rho.set_same _ _ _) hlc (by simp) (.inl rfl)
      simpa using this
    · rw [List.drop_zero, List.take_of_length_le (by rw [hcl, a6]; simp)]
    · rw [hcl, a6]; simp
theorem Rel.cat {ρ : Rho} {a b cs : List Value} {o s : Nat} (h : Rel ρ a ((cs.drop o).take s)) (h2 : Rel ρ b (cs.drop (o + s))) : Rel ρ (a ++ b) (cs.drop o) := by
  have := h.append h2
  rwa [← List.drop_drop, List.take_append_drop] at this
theorem Rel.fin {ρ : Rho} {cs : List Value} {o : Nat} (h : cs.length = o) : Rel ρ [] (cs.drop o) := by
  rw [List.drop_of_length_le (by omega)]; trivial
theorem imp_field {ft : TypeId} {α : Type} [Rp α] [Bd α] (hI : Imp enc P w base spare held ft α) {f : Nat} {xs : List (DataW Hd × List MemPlace)} {i off sz : Nat} {cs : List Value} (hx : DataW.trod enc P w base spare held f ft ((cs.drop off).take (P.cellsOf ft)) = xs[i]?) (hi : i < xs.length) (hsz : P.cellsOf ft = sz)
    {ts : List TypeId} (ht : ts[i]? = some ft) (hq : ∀ q ∈ DataW.weightsEach P ts (xs.map (·.1)), q ≤ reachBytes) (hB : ∀ v ∈ cs, ∀ a l c, v = .slice (some a) l c → Blk w) {n : Nat} {ρ : Rho} {H : Heap} (hb : Brt n ρ H w) :
    ∃ (n' : Nat) (ρ' : Rho) (H' : Heap) (cs' : List Value) (y : α), n ≤ n' ∧ Brt n' ρ' H' w ∧ ρ.le ρ' ∧ H.Le H' ∧ Rel ρ' cs' ((cs.drop off).take sz) ∧ Rp.R H' cs' y ∧ Bd.bd BU y := by
  rw [List.getElem?_eq_getElem hi] at hx
  rw [← hsz]
  refine hI f _ _ hx (fun q hqq => hq q (DataW.weights_mem_each ht ?_ q hqq)) (fun v hv => hB v (List.mem_of_mem_drop (List.mem_of_mem_take hv))) n ρ H hb
  rw [List.getElem?_map, List.getElem?_eq_getElem hi]; rfl
end
end Go.Proofs.YtmodhnkjimpkbaaAb
