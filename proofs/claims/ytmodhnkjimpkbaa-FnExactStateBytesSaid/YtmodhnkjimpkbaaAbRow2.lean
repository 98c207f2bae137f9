import Derived.Test.YtmodhnkjimpkbaaAbRow
import Derived.ProofKit
import Derived.ChangeSlices
import Derived.WideShapes
import Derived.ChangeOld
import Derived.OpenShut
set_option linter.all false
namespace Go.Proofs.YtmodhnkjimpkbaaAb
open Go Go.ChangeShapes Go.WideShapes
theorem inB_of {H : Type} {enc : TypeId × Value → H} {P : Program} {w : World} {base b0 : Nat} {spare : Nat → Bool} {held : Bool} {t e : TypeId} {v : Value} {d : DataW H} {ps : List MemPlace} (ht : P.underlying t = some (.slice e)) (he : P.underlying e = some (.int .u8)) (hc : P.cellsOf e = 1)
    (hsp : ∀ b, spare b = true) (hval : Value.okWide P w .any b0 t v) (h : DataW.Trod enc P w base spare held t v d ps) : ∃ bs, InB w v bs ∧ bs.length ≤ maxLen := by
  obtain ⟨a0, len0, cap0, rfl⟩ := okWide_slice ht hval
  obtain ⟨fuel, hf⟩ := h
  rcases open_ints ht he hc hf with ⟨hcs, hx⟩ | ⟨a, len, cap, zs, hcs, _, hl, hm, hz, hx, hcell, hwz⟩
  · simp [Value.cells] at hcs
    obtain ⟨rfl, rfl, rfl⟩ := hcs
    exact ⟨[], .nil, by simp⟩
  · simp [Value.cells] at hcs
    obtain ⟨rfl, rfl, rfl⟩ := hcs
    rw [hsp] at hz
    simp only [if_true] at hz
    simp only [Value.okWide, ht, Cell.okWide, Cell.ok] at hval
    obtain ⟨_, _, _, hspot, row, cells, hshape, _⟩ := hval
    obtain ⟨ab, ao, spot⟩ := a
    simp only at hspot hshape; subst hspot
    have hblk : ∃ cc T fz, w.heap[ab]? = some (.cells cc T fz) := by
      unfold World.shape? at hshape
      split at hshape
      · rename_i c elem fz heq; exact ⟨c, elem, fz, heq⟩
      · cases hshape
    obtain ⟨cc, T, fz, hb⟩ := hblk
    have hat : ∀ i, i < zs.length → cc[ao + i]? = some (.int .u8 (zs.getD i 0)) := fun i hi => by
      have := hcell i hi
      rw [add_off] at this
      simpa [World.cell?, hb] using this
    by_cases h0 : cap0 = 0
    · subst h0
      obtain rfl : len0 = 0 := by omega
      exact ⟨[], .z hb, by simp⟩
    · have hlen : ((zs.take len0).map byteOf).length = len0 := by simp; omega
      refine ⟨(zs.take len0).map byteOf, ?_, by rw [hlen]; omega⟩
      have := InB.sl (w := w) (b := ab) (off := ao) (cap := cap0) (bs := (zs.take len0).map byteOf) hb (by rw [hlen]; exact hl) (by
        have := (Array.getElem?_eq_some_iff.1 (hat (cap0 - 1) (by omega))).1
        omega) (fun i x hx => by
        simp only [List.getElem?_map, Option.map_eq_some_iff] at hx
        obtain ⟨y, hy, rfl⟩ := hx
        have hi := (List.getElem?_eq_some_iff.1 hy).1
        rw [List.length_take] at hi
        rw [List.getElem?_take_of_lt (by omega)] at hy
        rw [hat i (by omega)]
        have hg : zs.getD i 0 = y := by simp [List.getD, hy]
        have hr := bounds_u8 (hwz y (List.mem_of_getElem? hy))
        rw [hg, ← u8_byteOf, wrap_u8 ⟨hr.1, by omega⟩])
      rw [hlen] at this
      exact this
end Go.Proofs.YtmodhnkjimpkbaaAb
