import Derived.Test.YtlpcdcpcfeaecaaG05
import Derived.Below
import Derived.ProofKit
import Derived.ChangeSlices
import Derived.WideShapes
import Derived.ChangeOld
import Derived.OpenShut
import Derived.SizedLaws
set_option linter.all false
section
namespace Go.Proofs.YtlpcdcpcfeaecaaAb
open Go
def noPrims : Prims := fun _ _ _ _ _ _ _ _ => False
theorem noPrims_good (P : Program) : Good P noPrims := ⟨fun _ _ _ _ _ _ _ _ h => h.elim⟩
theorem C.calls {P : Program} (hm : P.follows .mixedOrders = true) {β lo n : Nat} {f : FuncId} {args : List Value} {H : Heap} {R : Value → Nat → Heap → Prop} (hβ : β ≤ lo) (hlo : lo ≤ n) (h : C P noPrims lo f args n H R)
    {ρ : Rho} {w : World} {cargs : Array Value} (hsz : cargs.size = args.length) (hargs : ∀ (k : Nat) u, args[k]? = some u → ∃ u', cargs[k]? = some u' ∧ VR ρ u u') (hs : Sim β ρ H w) (hn : ∀ i, n ≤ i → H i = none) (hr : ∀ i, n ≤ i → ρ i = none)
    {R' : Ending → World → Prop} (hR : ∀ v n' H' ρ' v' w', R v n' H' → VR ρ' v v' → Ok β lo ρ n H w ρ' n' H' w' → R' (.returned v') w') : Calls P f cargs w R' := by
  obtain ⟨v, n', H', d, r⟩ := h
  have hsnd := D.sound (β := β) hm (fun _ _ _ _ _ _ _ _ h => h.elim) (fun _ _ _ _ _ _ _ _ h => h.elim) d
  refine hsnd hβ hlo ρ w cargs hsz hargs hs hn (fun i h1 _ => hr i h1) R' fun ρ' e' w' he hok => ?_
  cases he with
  | ret _ v' hv => exact hR v n' H' ρ' v' w' r hv hok
theorem Ok.law {β n n' : Nat} {ρ ρ' : Rho} {H H' : Heap} {w w' : World} (h : Ok β n ρ n H w ρ' n' H' w') : Go.RowKit.Below w.heap.size w w' :=
  ⟨h.out.1, h.out.2.1, h.out.2.2, h.size, fun B hB => h.keep B hB fun i s h1 h2 => by omega⟩
theorem C.law {P : Program} (hm : P.follows .mixedOrders = true) {n : Nat} {f : FuncId} {args : List Value} {H : Heap} (h : C P noPrims n f args n H (fun v _ _ => v = .bool true))
    {ρ : Rho} {w : World} {cargs : Array Value} (hsz : cargs.size = args.length) (hargs : ∀ (k : Nat) u, args[k]? = some u → ∃ u', cargs[k]? = some u' ∧ VR ρ u u') (hs : Sim n ρ H w) (hn : ∀ i, n ≤ i → H i = none) (hr : ∀ i, n ≤ i → ρ i = none) :
    Calls P f cargs w fun e w' => e = .returned (.bool true) ∧ Go.RowKit.Below w.heap.size w w' :=
  h.calls hm (Nat.le_refl n) (Nat.le_refl _) hsz hargs hs hn hr fun v n' H' ρ' v' w' hv hV hok => by
    subst hv
    cases hV
    exact ⟨rfl, hok.law⟩
inductive InB (w : World) : Value → List UInt8 → Prop
  | nil : InB w (.slice none 0 0) []
  | sl {b off cap : Nat} {bs : List UInt8} {cc : Array Value} {T : TypeId} {fz : Nat × Nat} (hb : w.heap[b]? = some (.cells cc T fz)) (hc : bs.length ≤ cap) (hr : off + cap ≤ cc.size) (hv : ∀ (i : Nat) (x : UInt8), bs[i]? = some x → cc[off + i]? = some (u8 x)) :
      InB w (.slice (some ⟨b, off, none⟩) bs.length cap) bs
  | z {b off : Nat} {cc : Array Value} {T : TypeId} {fz : Nat × Nat} (hb : w.heap[b]? = some (.cells cc T fz)) : InB w (.slice (some ⟨b, off, none⟩) 0 0) []
theorem bring {w : World} {v : Value} {bs : List UInt8} (h : InB w v bs) {n : Nat} {ρ : Rho} {H : Heap} (hs : Sim n ρ H w) (hn : ∀ i, n ≤ i → H i = none) (hr : ∀ i, n ≤ i → ρ i = none) :
    ∃ ρ' H' a cap, Sim (n + 1) ρ' H' w ∧ (∀ i, n + 1 ≤ i → H' i = none) ∧ (∀ i, n + 1 ≤ i → ρ' i = none) ∧ VR ρ' (.slice a bs.length cap) v ∧ BSI (n + 1) H' (.slice a bs.length cap) bs ∧ ρ.le ρ' ∧ ∀ i, i < n → H' i = H i := by
  cases h with
  | nil =>
    refine ⟨ρ, H, none, 0, ⟨fun i e c s h1 h2 => ?_, hs.mp, fun i j s s' h1 h2 h3 h4 h5 h6 => hs.inj i j s s' h1 h2 h3 h4 h5 (by omega)⟩, fun i hi => hn i (by omega), fun i hi => hr i (by omega), .nils, ⟨.inl ⟨rfl, rfl, rfl⟩, fun i hi => by cases hi⟩, Rho.le_refl _, fun _ _ => rfl⟩
    obtain ⟨cc, T, fz, e1, e2, e3, e4, e5, e6, e7⟩ := hs.row i e c s h1 h2
    exact ⟨cc, T, fz, e1, e2, e3, e4, e5, fun h => e6 (by omega), fun h => e7 (by omega)⟩
  | @sl b off cap bs cc T fz hb hc hrm hv =>
    have hnn := hr n (Nat.le_refl _)
    have hle : ρ.le (ρ.set n ⟨b, off, cap, 1⟩) := Rho.le_set hnn
    refine ⟨ρ.set n ⟨b, off, cap, 1⟩, H.set n (.row 1 (bs.map u8)), some ⟨n, 0, none⟩, cap, ⟨fun i e c s h1 h2 => ?_, fun i es s h1 h2 => ?_, fun i j s s' h1 h2 h3 h4 h5 h6 => ?_⟩, fun i hi => ?_, fun i hi => ?_, ?_, ?_, hle, fun i hi => Heap.set_ne _ _ (by omega)⟩
    · by_cases hi : i = n
      · subst hi
        rw [Heap.set_same] at h1; rw [Rho.set_same] at h2
        obtain ⟨rfl, rfl⟩ := Ob.row.inj (Option.some.inj h1)
        obtain rfl := Option.some.inj h2
        refine ⟨cc, T, fz, hb, rfl, by simpa using hc, hrm, fun k v hk => ?_, fun h => by omega, fun h => by omega⟩
        simp only [List.getElem?_map, Option.map_eq_some_iff] at hk
        obtain ⟨x, hx, rfl⟩ := hk
        exact ⟨u8 x, hv k x hx, (gr_int _ _).2 _⟩
      · rw [Heap.set_ne _ _ hi] at h1; rw [Rho.set_ne _ _ hi] at h2
        obtain ⟨cc, T, fz, e1, e2, e3, e4, e5, e6, e7⟩ := hs.row i e c s h1 h2
        exact ⟨cc, T, fz, e1, e2, e3, e4, fun k v hk => by obtain ⟨v', a1, a2⟩ := e5 k v hk; exact ⟨v', a1, a2.mono hle⟩, fun h => e6 (by omega), fun h => e7 (by omega)⟩
    · by_cases hi : i = n
      · subst hi; rw [Heap.set_same] at h1; cases Option.some.inj h1
      · rw [Heap.set_ne _ _ hi] at h1; rw [Rho.set_ne _ _ hi] at h2
        obtain ⟨en, cl, e1, e2, e3⟩ := hs.mp i es s h1 h2
        exact ⟨en, cl, e1, e2, fun k p hk => by obtain ⟨x, a1, a2, a3, a4⟩ := e3 k p hk; exact ⟨x, a1, a2, a3, a4.mono hle⟩⟩
    · rw [Rho.set_ne _ _ (by omega), hr i (by omega)] at h3; cases h3
    · rw [Heap.set_ne _ _ (by omega)]; exact hn i (by omega)
    · rw [Rho.set_ne _ _ (by omega)]; exact hr i (by omega)
    · have := VR.sl (ρ := ρ.set n ⟨b, off, cap, 1⟩) n 0 bs.length cap cap ⟨b, off, cap, 1⟩ (Rho.set_same _ _ _) hc (by simp) (.inl rfl)
      simpa using this
    · exact ⟨.inr ⟨n, 0, cap, _, rfl, Heap.set_same _ _ _, by rw [List.drop_zero, List.take_of_length_le (by simp)], by simp⟩, fun i hi => by simp only [idOf, Option.some.injEq] at hi; omega⟩
  | @z b off cc T fz hb =>
    have hnn := hr n (Nat.le_refl _)
    have hle : ρ.le (ρ.set n ⟨b, 0, 0, 1⟩) := Rho.le_set hnn
    refine ⟨ρ.set n ⟨b, 0, 0, 1⟩, H.set n (.row 1 []), some ⟨n, 0, none⟩, UNK, ⟨fun i e c s h1 h2 => ?_, fun i es s h1 h2 => ?_, fun i j s s' h1 h2 h3 h4 h5 h6 => ?_⟩, fun i hi => ?_, fun i hi => ?_, ?_, ?_, hle, fun i hi => Heap.set_ne _ _ (by omega)⟩
    · by_cases hi : i = n
      · subst hi
        rw [Heap.set_same] at h1; rw [Rho.set_same] at h2
        obtain ⟨rfl, rfl⟩ := Ob.row.inj (Option.some.inj h1)
        obtain rfl := Option.some.inj h2
        exact ⟨cc, T, fz, hb, rfl, by simp, by simp, fun k v hk => by simp at hk, fun h => by omega, fun h => by omega⟩
      · rw [Heap.set_ne _ _ hi] at h1; rw [Rho.set_ne _ _ hi] at h2
        obtain ⟨cc, T, fz, e1, e2, e3, e4, e5, e6, e7⟩ := hs.row i e c s h1 h2
        exact ⟨cc, T, fz, e1, e2, e3, e4, fun k v hk => by obtain ⟨v', a1, a2⟩ := e5 k v hk; exact ⟨v', a1, a2.mono hle⟩, fun h => e6 (by omega), fun h => e7 (by omega)⟩
    · by_cases hi : i = n
      · subst hi; rw [Heap.set_same] at h1; cases Option.some.inj h1
      · rw [Heap.set_ne _ _ hi] at h1; rw [Rho.set_ne _ _ hi] at h2
        obtain ⟨en, cl, e1, e2, e3⟩ := hs.mp i es s h1 h2
        exact ⟨en, cl, e1, e2, fun k p hk => by obtain ⟨x, a1, a2, a3, a4⟩ := e3 k p hk; exact ⟨x, a1, a2, a3, a4.mono hle⟩⟩
    · rw [Rho.set_ne _ _ (by omega), hr i (by omega)] at h3; cases h3
    · rw [Heap.set_ne _ _ (by omega)]; exact hn i (by omega)
    · rw [Rho.set_ne _ _ (by omega)]; exact hr i (by omega)
    · exact VR.sl0 (ρ := ρ.set n ⟨b, 0, 0, 1⟩) n 0 ⟨b, off, none⟩ ⟨b, 0, 0, 1⟩ (Rho.set_same _ _ _)
    · exact ⟨.inr ⟨n, 0, UNK, _, rfl, Heap.set_same _ _ _, by simp, by simp⟩, fun i hi => by simp only [idOf, Option.some.injEq] at hi; omega⟩
theorem sim_none (w : World) : Sim 0 (fun _ => none) (fun _ => none) w := ⟨fun _ _ _ _ h => (by cases h), fun _ _ _ h => (by cases h), fun _ _ _ _ h => (by cases h)⟩
end Go.Proofs.YtlpcdcpcfeaecaaAb
end
section
namespace Go.Proofs.YtlpcdcpcfeaecaaAb
open Go Go.ChangeShapes Go.WideShapes
end Go.Proofs.YtlpcdcpcfeaecaaAb
end
section
namespace Go.Proofs.YtlpcdcpcfeaecaaAb
open Go Go.ChangeShapes Go.WideShapes
def dlen {H : Type} : DataW H → Nat
  | .slice a b => a.length + b.length
  | _ => 0
theorem dlen_le {H : Type} {P : Program} {ts : List TypeId} {ds : List (DataW H)} (h : (DataW.weightsEach P ts ds).all (· ≤ reachBytes) = true) {j : Nat} {t e : TypeId} {d : DataW H} (ht : ts[j]? = some t) (hd : ds[j]? = some d) (hu : P.underlying t = some (.slice e)) (hb : P.bytesOf e = 1) : dlen d ≤ reachBytes := by
  cases d with
  | slice a b =>
    have := sized_slice h ht hd hu
    rw [hb, Nat.mul_one] at this
    exact this
  | _ => exact Nat.zero_le _
theorem lawN_bb {P : Program} (hm : P.follows .mixedOrders = true) {f : FuncId} {w : World} {v v2 : Value} {bs bs2 : List UInt8} (hv : InB w v bs) (hv2 : InB w v2 bs2)
    (h : ∀ a cap a2 cap2 n H, (∀ i, n ≤ i → H i = none) → BSI n H (.slice a bs.length cap) bs → BSI n H (.slice a2 bs2.length cap2) bs2 → C P noPrims n f [.slice a bs.length cap, .slice a2 bs2.length cap2] n H (fun v _ _ => v = .bool true)) :
    Calls P f #[v, v2] w fun e w' => e = .returned (.bool true) ∧ Go.RowKit.Below w.heap.size w w' := by
  obtain ⟨ρ, H, a, cap, s1, s2, s3, s4, s5, _, _⟩ := bring hv (sim_none w) (fun _ _ => rfl) (fun _ _ => rfl)
  obtain ⟨ρ2, H2, a2, cap2, t1, t2, t3, t4, t5, t6, t7⟩ := bring hv2 s1 s2 s3
  refine (h a cap a2 cap2 2 H2 t2 (s5.keep (by omega) t7) t5).law hm rfl (fun k u hk => ?_) t1 t2 t3
  match k with
  | 0 => simp only [List.getElem?_cons_zero, Option.some.injEq] at hk; subst hk; exact ⟨v, rfl, s4.mono t6⟩
  | 1 => simp only [List.getElem?_cons_succ, List.getElem?_cons_zero, Option.some.injEq] at hk; subst hk; exact ⟨v2, rfl, t4⟩
  | k + 2 => simp at hk
theorem inBN_of {H : Type} {enc : TypeId × Value → H} {P : Program} {w : World} {base b0 : Nat} {spare : Nat → Bool} {held : Bool} {t e : TypeId} {v : Value} {d : DataW H} {ps : List MemPlace} (ht : P.underlying t = some (.slice e)) (he : P.underlying e = some (.int .u8)) (hc : P.cellsOf e = 1)
    (hsp : ∀ b, spare b = true) (hval : Value.okWide P w .any b0 t v) (h : DataW.Trod enc P w base spare held t v d ps) : ∃ bs, InB w v bs ∧ bs.length ≤ dlen d := by
  obtain ⟨a0, len0, cap0, rfl⟩ := okWide_slice ht hval
  obtain ⟨fuel, hf⟩ := h
  rcases open_ints ht he hc hf with ⟨hcs, hx⟩ | ⟨a, len, cap, zs, hcs, _, hl, hm, hz, hx, hcell, hwz⟩
  · simp [Value.cells] at hcs
    obtain ⟨rfl, rfl, rfl⟩ := hcs
    exact ⟨[], .nil, Nat.zero_le _⟩
  · simp [Value.cells] at hcs
    obtain ⟨rfl, rfl, rfl⟩ := hcs
    rw [hsp] at hz
    simp only [if_true] at hz
    simp only [Value.okWide, ht, Cell.okWide, Cell.ok] at hval
    obtain ⟨_, _, _, hspot, row, cells, hshape, _⟩ := hval
    obtain ⟨ab, ao, spot⟩ := a
    simp only at hspot hshape; subst hspot
    have hblk : ∃ cc T fz, w.heap[ab]? = some (.cells cc T fz) := by
      unfold World.shape? at hshape
      split at hshape
      · rename_i c elem fz heq; exact ⟨c, elem, fz, heq⟩
      · cases hshape
    obtain ⟨cc, T, fz, hb⟩ := hblk
    have hat : ∀ i, i < zs.length → cc[ao + i]? = some (.int .u8 (zs.getD i 0)) := fun i hi => by
      have := hcell i hi
      rw [add_off] at this
      simpa [World.cell?, hb] using this
    by_cases h0 : cap0 = 0
    · subst h0
      obtain rfl : len0 = 0 := by omega
      exact ⟨[], .z hb, Nat.zero_le _⟩
    · have hlen : ((zs.take len0).map byteOf).length = len0 := by simp; omega
      have hd : d = .slice (lits .u8 (zs.take len0)) (lits .u8 (zs.drop len0)) := (Prod.mk.inj hx).1
      refine ⟨(zs.take len0).map byteOf, ?_, by rw [hlen, hd]; simp [dlen, lits]; omega⟩
      have := InB.sl (w := w) (b := ab) (off := ao) (cap := cap0) (bs := (zs.take len0).map byteOf) hb (by rw [hlen]; exact hl) (by
        have := (Array.getElem?_eq_some_iff.1 (hat (cap0 - 1) (by omega))).1
        omega) (fun i x hx => by
        simp only [List.getElem?_map, Option.map_eq_some_iff] at hx
        obtain ⟨y, hy, rfl⟩ := hx
        have hi := (List.getElem?_eq_some_iff.1 hy).1
        rw [List.length_take] at hi
        rw [List.getElem?_take_of_lt (by omega)] at hy
        rw [hat i (by omega)]
        have hg : zs.getD i 0 = y := by simp [List.getD, hy]
        have hr := bounds_u8 (hwz y (List.mem_of_getElem? hy))
        rw [hg, ← u8_byteOf, wrap_u8 ⟨hr.1, by omega⟩])
      rw [hlen] at this
      exact this
theorem BSI.sr {n : Nat} {H : Heap} {a : Option Addr} {cap : Nat} {bs : List UInt8} (h : BSI n H (.slice a bs.length cap) bs) (hl : bs.length ≤ reachBytes) : SR H (.slice a bs.length cap) bs := by
  have := reachBytes_lt
  refine ⟨by unfold UNK; omega, bs.map u8, h.1, RA.ofSc H bs⟩
end Go.Proofs.YtlpcdcpcfeaecaaAb
end
