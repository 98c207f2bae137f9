import Derived.Test.YtmodhnkjimpkbaaAbRow2
import Derived.SizedLaws
import Derived.Test.YtmodhnkjimpkbaaAbP1
set_option linter.all false
namespace Go.Proofs.YtmodhnkjimpkbaaAb
open Go Go.ChangeShapes Go.WideShapes
def dlen {H : Type} : DataW H → Nat
  | .slice a b => a.length + b.length
  | _ => 0
theorem dlen_le {H : Type} {P : Program} {ts : List TypeId} {ds : List (DataW H)} (h : (DataW.weightsEach P ts ds).all (· ≤ reachBytes) = true) {j : Nat} {t e : TypeId} {d : DataW H} (ht : ts[j]? = some t) (hd : ds[j]? = some d) (hu : P.underlying t = some (.slice e)) (hb : P.bytesOf e = 1) : dlen d ≤ reachBytes := by
  cases d with
  | slice a b =>
    have := sized_slice h ht hd hu
    rw [hb, Nat.mul_one] at this
    exact this
  | _ => exact Nat.zero_le _
theorem lawN_b {P : Program} (hm : P.follows .mixedOrders = true) {f : FuncId} {w : World} {v : Value} {bs : List UInt8} (hv : InB w v bs)
    (h : ∀ a cap n H, (∀ i, n ≤ i → H i = none) → BSI n H (.slice a bs.length cap) bs → C P noPrims n f [.slice a bs.length cap] n H (fun v _ _ => v = .bool true)) :
    Calls P f #[v] w fun e w' => e = .returned (.bool true) ∧ Go.RowKit.Below w.heap.size w w' := by
  obtain ⟨ρ, H, a, cap, s1, s2, s3, s4, s5, _, _⟩ := bring hv (sim_none w) (fun _ _ => rfl) (fun _ _ => rfl)
  refine (h a cap 1 H s2 s5).law hm rfl (fun k u hk => ?_) s1 s2 s3
  cases k with
  | zero => simp only [List.getElem?_cons_zero, Option.some.injEq] at hk; subst hk; exact ⟨v, rfl, s4⟩
  | succ k => simp at hk
theorem lawN_bb {P : Program} (hm : P.follows .mixedOrders = true) {f : FuncId} {w : World} {v v2 : Value} {bs bs2 : List UInt8} (hv : InB w v bs) (hv2 : InB w v2 bs2)
    (h : ∀ a cap a2 cap2 n H, (∀ i, n ≤ i → H i = none) → BSI n H (.slice a bs.length cap) bs → BSI n H (.slice a2 bs2.length cap2) bs2 → C P noPrims n f [.slice a bs.length cap, .slice a2 bs2.length cap2] n H (fun v _ _ => v = .bool true)) :
    Calls P f #[v, v2] w fun e w' => e = .returned (.bool true) ∧ Go.RowKit.Below w.heap.size w w' := by
  obtain ⟨ρ, H, a, cap, s1, s2, s3, s4, s5, _, _⟩ := bring hv (sim_none w) (fun _ _ => rfl) (fun _ _ => rfl)
  obtain ⟨ρ2, H2, a2, cap2, t1, t2, t3, t4, t5, t6, t7⟩ := bring hv2 s1 s2 s3
  refine (h a cap a2 cap2 2 H2 t2 (s5.keep (by omega) t7) t5).law hm rfl (fun k u hk => ?_) t1 t2 t3
  match k with
  | 0 => simp only [List.getElem?_cons_zero, Option.some.injEq] at hk; subst hk; exact ⟨v, rfl, s4.mono t6⟩
  | 1 => simp only [List.getElem?_cons_succ, List.getElem?_cons_zero, Option.some.injEq] at hk; subst hk; exact ⟨v2, rfl, t4⟩
  | k + 2 => simp at hk
theorem inBN_of {H : Type} {enc : TypeId × Value → H} {P : Program} {w : World} {base b0 : Nat} {spare : Nat → Bool} {held : Bool} {t e : TypeId} {v : Value} {d : DataW H} {ps : List MemPlace} (ht : P.underlying t = some (.slice e)) (he : P.underlying e = some (.int .u8)) (hc : P.cellsOf e = 1)
    (hsp : ∀ b, spare b = true) (hval : Value.okWide P w .any b0 t v) (h : DataW.Trod enc P w base spare held t v d ps) : ∃ bs, InB w v bs ∧ bs.length ≤ dlen d := by
  obtain ⟨a0, len0, cap0, rfl⟩ := okWide_slice ht hval
  obtain ⟨fuel, hf⟩ := h
  rcases open_ints ht he hc hf with ⟨hcs, hx⟩ | ⟨a, len, cap, zs, hcs, _, hl, hm, hz, hx, hcell, hwz⟩
  · simp [Value.cells] at hcs
    obtain ⟨rfl, rfl, rfl⟩ := hcs
    exact ⟨[], .nil, Nat.zero_le _⟩
  · simp [Value.cells] at hcs
    obtain ⟨rfl, rfl, rfl⟩ := hcs
    rw [hsp] at hz
    simp only [if_true] at hz
    simp only [Value.okWide, ht, Cell.okWide, Cell.ok] at hval
    obtain ⟨_, _, _, hspot, row, cells, hshape, _⟩ := hval
    obtain ⟨ab, ao, spot⟩ := a
    simp only at hspot hshape; subst hspot
    have hblk : ∃ cc T fz, w.heap[ab]? = some (.cells cc T fz) := by
      unfold World.shape? at hshape
      split at hshape
      · rename_i c elem fz heq; exact ⟨c, elem, fz, heq⟩
      · cases hshape
    obtain ⟨cc, T, fz, hb⟩ := hblk
    have hat : ∀ i, i < zs.length → cc[ao + i]? = some (.int .u8 (zs.getD i 0)) := fun i hi => by
      have := hcell i hi
      rw [add_off] at this
      simpa [World.cell?, hb] using this
    by_cases h0 : cap0 = 0
    · subst h0
      obtain rfl : len0 = 0 := by omega
      exact ⟨[], .z hb, Nat.zero_le _⟩
    · have hlen : ((zs.take len0).map byteOf).length = len0 := by simp; omega
      have hd : d = .slice (lits .u8 (zs.take len0)) (lits .u8 (zs.drop len0)) := (Prod.mk.inj hx).1
      refine ⟨(zs.take len0).map byteOf, ?_, by rw [hlen, hd]; simp [dlen, lits]; omega⟩
      have := InB.sl (w := w) (b := ab) (off := ao) (cap := cap0) (bs := (zs.take len0).map byteOf) hb (by rw [hlen]; exact hl) (by
        have := (Array.getElem?_eq_some_iff.1 (hat (cap0 - 1) (by omega))).1
        omega) (fun i x hx => by
        simp only [List.getElem?_map, Option.map_eq_some_iff] at hx
        obtain ⟨y, hy, rfl⟩ := hx
        have hi := (List.getElem?_eq_some_iff.1 hy).1
        rw [List.length_take] at hi
        rw [List.getElem?_take_of_lt (by omega)] at hy
        rw [hat i (by omega)]
        have hg : zs.getD i 0 = y := by simp [List.getD, hy]
        have hr := bounds_u8 (hwz y (List.mem_of_getElem? hy))
        rw [hg, ← u8_byteOf, wrap_u8 ⟨hr.1, by omega⟩])
      rw [hlen] at this
      exact this
theorem BSI.sr {n : Nat} {H : Heap} {a : Option Addr} {cap : Nat} {bs : List UInt8} (h : BSI n H (.slice a bs.length cap) bs) (hl : bs.length ≤ reachBytes) : SR H (.slice a bs.length cap) bs := by
  have := reachBytes_lt
  refine ⟨by unfold UNK; omega, bs.map u8, h.1, RA.ofSc H bs⟩
end Go.Proofs.YtmodhnkjimpkbaaAb
