import Derived.Test.YtmodhnkjimpkbaaAbIm
import Derived.Test.YtmodhnkjimpkbaaAbInfoS
import Derived.KernelRfl
import Derived.Test.YtmodhnkjimpkbaaPxSbD
set_option linter.all false
set_option maxRecDepth 20000
namespace Go.Proofs.YtmodhnkjimpkbaaAb
open Go Go.Proofs
section
variable {Hd : Type} {enc : TypeId × Value → Hd} {w : World} {base : Nat} {spare : Nat → Bool} {held : Bool}
theorem imp_T87 (hsp : ∀ b, spare b = true) : Imp enc Try.prog w base spare held 87 GFile := by
  intro fuel cs x h hq hB n0 ρ0 H0 b0
  obtain ⟨xs, f, rfl, rfl, hl, hxl, hx⟩ := DataW.trod_struct Try.underlying87 h
  have hl2 : cs.length = 3 := hl.trans (by kernel_rfl)
  have hxl2 : xs.length = 3 := hxl
  simp only [DataW.weights, Try.underlying87] at hq
  obtain ⟨n1, ρ1, H1, c1, y1, k1, b1, l1, g1, r1, p1, w1⟩ := imp_field (Imp.string Try.underlying9) (off := 0) (sz := 1) (hx 0 _ rfl) (by rw [hxl2]; decide) (by kernel_rfl) (by rfl) hq hB b0
  obtain ⟨n2, ρ2, H2, c2, y2, k2, b2, l2, g2, r2, p2, w2⟩ := imp_field (Imp.i64 Try.underlying3) (off := 1) (sz := 1) (hx 1 _ rfl) (by rw [hxl2]; decide) (by kernel_rfl) (by rfl) hq hB b1
  obtain ⟨n3, ρ3, H3, c3, y3, k3, b3, l3, g3, r3, p3, w3⟩ := imp_field (Imp.string Try.underlying9) (off := 2) (sz := 1) (hx 2 _ rfl) (by rw [hxl2]; decide) (by kernel_rfl) (by rfl) hq hB b2
  obtain rfl : c1 = [str y1] := p1
  obtain rfl : c2 = [.int .i64 y2] := p2
  obtain rfl : c3 = [str y3] := p3
  have z3 : Rel ρ3 [] (cs.drop 3) := Rel.fin hl2
  have z2 := Rel.cat (o := 2) (s := 1) (r3.mono (Rho.le_refl _)) z3
  have z1 := Rel.cat (o := 1) (s := 1) (r2.mono l3) z2
  have z0 := Rel.cat (o := 0) (s := 1) (r1.mono (Rho.le_trans l2 l3)) z1
  rw [List.drop_zero] at z0
  exact ⟨n3, ρ3, H3, _, ⟨y1, y2, y3⟩, by omega, b3, (Rho.le_trans l1 (Rho.le_trans l2 l3)), (g1.trans (g2.trans g3)), z0, rfl, ⟨w1, w3⟩⟩
theorem imp_T35 (hsp : ∀ b, spare b = true) : Imp enc Try.prog w base spare held 35 (List GFile) := Imp.slice Try.underlying35 (by kernel_rfl) (by decide) (pos_of (show Try.prog.bytesOf 87 = 40 by kernel_rfl) (by decide)) hsp (imp_T87 hsp)
theorem imp_T89 (hsp : ∀ b, spare b = true) : Imp enc Try.prog w base spare held 89 GReply := by
  intro fuel cs x h hq hB n0 ρ0 H0 b0
  obtain ⟨xs, f, rfl, rfl, hl, hxl, hx⟩ := DataW.trod_struct Try.underlying89 h
  have hl2 : cs.length = 3 := hl.trans (by kernel_rfl)
  have hxl2 : xs.length = 3 := hxl
  simp only [DataW.weights, Try.underlying89] at hq
  obtain ⟨n1, ρ1, H1, c1, y1, k1, b1, l1, g1, r1, p1, w1⟩ := imp_field (Imp.i64 Try.underlying3) (off := 0) (sz := 1) (hx 0 _ rfl) (by rw [hxl2]; decide) (by kernel_rfl) (by rfl) hq hB b0
  obtain ⟨n2, ρ2, H2, c2, y2, k2, b2, l2, g2, r2, p2, w2⟩ := imp_field (Imp.i64 Try.underlying3) (off := 1) (sz := 1) (hx 1 _ rfl) (by rw [hxl2]; decide) (by kernel_rfl) (by rfl) hq hB b1
  obtain ⟨n3, ρ3, H3, c3, y3, k3, b3, l3, g3, r3, p3, w3⟩ := imp_field (Imp.string Try.underlying9) (off := 2) (sz := 1) (hx 2 _ rfl) (by rw [hxl2]; decide) (by kernel_rfl) (by rfl) hq hB b2
  obtain rfl : c1 = [.int .i64 y1] := p1
  obtain rfl : c2 = [.int .i64 y2] := p2
  obtain rfl : c3 = [str y3] := p3
  have z3 : Rel ρ3 [] (cs.drop 3) := Rel.fin hl2
  have z2 := Rel.cat (o := 2) (s := 1) (r3.mono (Rho.le_refl _)) z3
  have z1 := Rel.cat (o := 1) (s := 1) (r2.mono l3) z2
  have z0 := Rel.cat (o := 0) (s := 1) (r1.mono (Rho.le_trans l2 l3)) z1
  rw [List.drop_zero] at z0
  exact ⟨n3, ρ3, H3, _, ⟨y1, y2, y3⟩, by omega, b3, (Rho.le_trans l1 (Rho.le_trans l2 l3)), (g1.trans (g2.trans g3)), z0, rfl, w3⟩
theorem imp_T91 (hsp : ∀ b, spare b = true) : Imp enc Try.prog w base spare held 91 GSession := by
  intro fuel cs x h hq hB n0 ρ0 H0 b0
  obtain ⟨xs, f, rfl, rfl, hl, hxl, hx⟩ := DataW.trod_struct Try.underlying91 h
  have hl2 : cs.length = 5 := hl.trans (by kernel_rfl)
  have hxl2 : xs.length = 3 := hxl
  simp only [DataW.weights, Try.underlying91] at hq
  obtain ⟨n1, ρ1, H1, c1, y1, k1, b1, l1, g1, r1, p1, w1⟩ := imp_field (Imp.i64 Try.underlying3) (off := 0) (sz := 1) (hx 0 _ rfl) (by rw [hxl2]; decide) (by kernel_rfl) (by rfl) hq hB b0
  obtain ⟨n2, ρ2, H2, c2, y2, k2, b2, l2, g2, r2, p2, w2⟩ := imp_field (Imp.i64 Try.underlying3) (off := 1) (sz := 1) (hx 1 _ rfl) (by rw [hxl2]; decide) (by kernel_rfl) (by rfl) hq hB b1
  obtain ⟨n3, ρ3, H3, c3, y3, k3, b3, l3, g3, r3, p3, w3⟩ := imp_field (imp_T89 hsp) (off := 2) (sz := 3) (hx 2 _ rfl) (by rw [hxl2]; decide) (by kernel_rfl) (by rfl) hq hB b2
  obtain rfl : c1 = [.int .i64 y1] := p1
  obtain rfl : c2 = [.int .i64 y2] := p2
  obtain rfl : c3 = [.int .i64 y3.Code, .int .i64 y3.Version, str y3.Sha] := p3
  have z3 : Rel ρ3 [] (cs.drop 5) := Rel.fin hl2
  have z2 := Rel.cat (o := 2) (s := 3) (r3.mono (Rho.le_refl _)) z3
  have z1 := Rel.cat (o := 1) (s := 1) (r2.mono l3) z2
  have z0 := Rel.cat (o := 0) (s := 1) (r1.mono (Rho.le_trans l2 l3)) z1
  rw [List.drop_zero] at z0
  exact ⟨n3, ρ3, H3, _, ⟨y1, y2, y3⟩, by omega, b3, (Rho.le_trans l1 (Rho.le_trans l2 l3)), (g1.trans (g2.trans g3)), z0, rfl, w3⟩
theorem imp_T36 (hsp : ∀ b, spare b = true) : Imp enc Try.prog w base spare held 36 (List GSession) := Imp.slice Try.underlying36 (by kernel_rfl) (by decide) (pos_of (show Try.prog.bytesOf 91 = 48 by kernel_rfl) (by decide)) hsp (imp_T91 hsp)
theorem imp_T38 (hsp : ∀ b, spare b = true) : Imp enc Try.prog w base spare held 38 GState := by
  intro fuel cs x h hq hB n0 ρ0 H0 b0
  obtain ⟨xs, f, rfl, rfl, hl, hxl, hx⟩ := DataW.trod_struct Try.underlying38 h
  have hl2 : cs.length = 2 := hl.trans (by kernel_rfl)
  have hxl2 : xs.length = 2 := hxl
  simp only [DataW.weights, Try.underlying38] at hq
  obtain ⟨n1, ρ1, H1, c1, y1, k1, b1, l1, g1, r1, p1, w1⟩ := imp_field (imp_T35 hsp) (off := 0) (sz := 1) (hx 0 _ rfl) (by rw [hxl2]; decide) (by kernel_rfl) (by rfl) hq hB b0
  obtain ⟨n2, ρ2, H2, c2, y2, k2, b2, l2, g2, r2, p2, w2⟩ := imp_field (imp_T36 hsp) (off := 1) (sz := 1) (hx 1 _ rfl) (by rw [hxl2]; decide) (by kernel_rfl) (by rfl) hq hB b1
  obtain ⟨v1, rfl, s1⟩ := p1
  obtain ⟨a1, m1, rfl⟩ := s1.form
  obtain ⟨v2, rfl, s2⟩ := p2
  obtain ⟨a2, m2, rfl⟩ := s2.form
  have z2 : Rel ρ2 [] (cs.drop 2) := Rel.fin hl2
  have z1 := Rel.cat (o := 1) (s := 1) (r2.mono (Rho.le_refl _)) z2
  have z0 := Rel.cat (o := 0) (s := 1) (r1.mono l2) z1
  rw [List.drop_zero] at z0
  exact ⟨n2, ρ2, H2, _, ⟨y1, y2⟩, by omega, b2, (Rho.le_trans l1 l2), (g1.trans g2), z0, ⟨a1, m1, a2, m2, rfl, s1.mono g2, s2.mono (Heap.Le.refl _)⟩, ⟨w1, w2⟩⟩
end
end Go.Proofs.YtmodhnkjimpkbaaAb
