import Derived.Test.YtbdebjoagckcpaaAbIm
import Derived.Test.YtbdebjoagckcpaaAbInfo
import Derived.KernelRfl
import Derived.Test.YtbdebjoagckcpaaPxAgD
set_option linter.all false
set_option maxRecDepth 20000
namespace Go.Proofs.YtbdebjoagckcpaaAb
open Go Go.Proofs
section
variable {Hd : Type} {enc : TypeId × Value → Hd} {w : World} {base : Nat} {spare : Nat → Bool} {held : Bool}
theorem imp_T24 (hsp : ∀ b, spare b = true) : Imp enc Try.prog w base spare held 24 (List UInt8) := Imp.slice Try.underlying24 (by kernel_rfl) (by decide) (pos_of (show Try.prog.bytesOf 5 = 1 by kernel_rfl) (by decide)) hsp (Imp.byte Try.underlying5)
theorem imp_T125 (hsp : ∀ b, spare b = true) : Imp enc Try.prog w base spare held 125 GRec := by
  intro fuel cs x h hq hB n0 ρ0 H0 b0
  obtain ⟨xs, f, rfl, rfl, hl, hxl, hx⟩ := DataW.trod_struct Try.underlying125 h
  have hl2 : cs.length = 3 := hl.trans (by kernel_rfl)
  have hxl2 : xs.length = 3 := hxl
  simp only [DataW.weights, Try.underlying125] at hq
  obtain ⟨n1, ρ1, H1, c1, y1, k1, b1, l1, g1, r1, p1⟩ := imp_field (Imp.i64 Try.underlying3) (off := 0) (sz := 1) (hx 0 _ rfl) (by rw [hxl2]; decide) (by kernel_rfl) (by rfl) hq hB b0
  obtain ⟨n2, ρ2, H2, c2, y2, k2, b2, l2, g2, r2, p2⟩ := imp_field (Imp.i64 Try.underlying3) (off := 1) (sz := 1) (hx 1 _ rfl) (by rw [hxl2]; decide) (by kernel_rfl) (by rfl) hq hB b1
  obtain ⟨n3, ρ3, H3, c3, y3, k3, b3, l3, g3, r3, p3⟩ := imp_field (imp_T24 hsp) (off := 2) (sz := 1) (hx 2 _ rfl) (by rw [hxl2]; decide) (by kernel_rfl) (by rfl) hq hB b2
  obtain rfl : c1 = [.int .i64 y1] := p1
  obtain rfl : c2 = [.int .i64 y2] := p2
  obtain ⟨v3, rfl, s3⟩ := p3
  obtain ⟨a3, m3, rfl⟩ := s3.form
  have z3 : Rel ρ3 [] (cs.drop 3) := Rel.fin hl2
  have z2 := Rel.cat (o := 2) (s := 1) (r3.mono (Rho.le_refl _)) z3
  have z1 := Rel.cat (o := 1) (s := 1) (r2.mono l3) z2
  have z0 := Rel.cat (o := 0) (s := 1) (r1.mono (Rho.le_trans l2 l3)) z1
  rw [List.drop_zero] at z0
  exact ⟨n3, ρ3, H3, _, ⟨y1, y2, y3⟩, by omega, b3, (Rho.le_trans l1 (Rho.le_trans l2 l3)), (g1.trans (g2.trans g3)), z0, ⟨a3, m3, rfl, s3.mono (Heap.Le.refl _)⟩⟩
theorem imp_T57 (hsp : ∀ b, spare b = true) : Imp enc Try.prog w base spare held 57 (List GRec) := Imp.slice Try.underlying57 (by kernel_rfl) (by decide) (pos_of (show Try.prog.bytesOf 125 = 40 by kernel_rfl) (by decide)) hsp (imp_T125 hsp)
theorem imp_T86 (hsp : ∀ b, spare b = true) : Imp enc Try.prog w base spare held 86 (List Bool) := Imp.slice Try.underlying86 (by kernel_rfl) (by decide) (pos_of (show Try.prog.bytesOf 4 = 1 by kernel_rfl) (by decide)) hsp (Imp.bool Try.underlying4)
theorem imp_T33 (hsp : ∀ b, spare b = true) : Imp enc Try.prog w base spare held 33 (List Int) := Imp.slice Try.underlying33 (by kernel_rfl) (by decide) (pos_of (show Try.prog.bytesOf 3 = 8 by kernel_rfl) (by decide)) hsp (Imp.i64 Try.underlying3)
theorem imp_T120 (hsp : ∀ b, spare b = true) : Imp enc Try.prog w base spare held 120 GPeer := by
  intro fuel cs x h hq hB n0 ρ0 H0 b0
  obtain ⟨xs, f, rfl, rfl, hl, hxl, hx⟩ := DataW.trod_struct Try.underlying120 h
  have hl2 : cs.length = 9 := hl.trans (by kernel_rfl)
  have hxl2 : xs.length = 9 := hxl
  simp only [DataW.weights, Try.underlying120] at hq
  obtain ⟨n1, ρ1, H1, c1, y1, k1, b1, l1, g1, r1, p1⟩ := imp_field (Imp.bool Try.underlying4) (off := 0) (sz := 1) (hx 0 _ rfl) (by rw [hxl2]; decide) (by kernel_rfl) (by rfl) hq hB b0
  obtain ⟨n2, ρ2, H2, c2, y2, k2, b2, l2, g2, r2, p2⟩ := imp_field (Imp.i64 Try.underlying3) (off := 1) (sz := 1) (hx 1 _ rfl) (by rw [hxl2]; decide) (by kernel_rfl) (by rfl) hq hB b1
  obtain ⟨n3, ρ3, H3, c3, y3, k3, b3, l3, g3, r3, p3⟩ := imp_field (Imp.i64 Try.underlying3) (off := 2) (sz := 1) (hx 2 _ rfl) (by rw [hxl2]; decide) (by kernel_rfl) (by rfl) hq hB b2
  obtain ⟨n4, ρ4, H4, c4, y4, k4, b4, l4, g4, r4, p4⟩ := imp_field (Imp.i64 Try.underlying3) (off := 3) (sz := 1) (hx 3 _ rfl) (by rw [hxl2]; decide) (by kernel_rfl) (by rfl) hq hB b3
  obtain ⟨n5, ρ5, H5, c5, y5, k5, b5, l5, g5, r5, p5⟩ := imp_field (Imp.i64 Try.underlying3) (off := 4) (sz := 1) (hx 4 _ rfl) (by rw [hxl2]; decide) (by kernel_rfl) (by rfl) hq hB b4
  obtain ⟨n6, ρ6, H6, c6, y6, k6, b6, l6, g6, r6, p6⟩ := imp_field (imp_T57 hsp) (off := 5) (sz := 1) (hx 5 _ rfl) (by rw [hxl2]; decide) (by kernel_rfl) (by rfl) hq hB b5
  obtain ⟨n7, ρ7, H7, c7, y7, k7, b7, l7, g7, r7, p7⟩ := imp_field (imp_T86 hsp) (off := 6) (sz := 1) (hx 6 _ rfl) (by rw [hxl2]; decide) (by kernel_rfl) (by rfl) hq hB b6
  obtain ⟨n8, ρ8, H8, c8, y8, k8, b8, l8, g8, r8, p8⟩ := imp_field (imp_T33 hsp) (off := 7) (sz := 1) (hx 7 _ rfl) (by rw [hxl2]; decide) (by kernel_rfl) (by rfl) hq hB b7
  obtain ⟨n9, ρ9, H9, c9, y9, k9, b9, l9, g9, r9, p9⟩ := imp_field (imp_T33 hsp) (off := 8) (sz := 1) (hx 8 _ rfl) (by rw [hxl2]; decide) (by kernel_rfl) (by rfl) hq hB b8
  obtain rfl : c1 = [.bool y1] := p1
  obtain rfl : c2 = [.int .i64 y2] := p2
  obtain rfl : c3 = [.int .i64 y3] := p3
  obtain rfl : c4 = [.int .i64 y4] := p4
  obtain rfl : c5 = [.int .i64 y5] := p5
  obtain ⟨v6, rfl, s6⟩ := p6
  obtain ⟨a6, m6, rfl⟩ := s6.form
  obtain ⟨v7, rfl, s7⟩ := p7
  obtain ⟨a7, m7, rfl⟩ := s7.form
  obtain ⟨v8, rfl, s8⟩ := p8
  obtain ⟨a8, m8, rfl⟩ := s8.form
  obtain ⟨v9, rfl, s9⟩ := p9
  obtain ⟨a9, m9, rfl⟩ := s9.form
  have z9 : Rel ρ9 [] (cs.drop 9) := Rel.fin hl2
  have z8 := Rel.cat (o := 8) (s := 1) (r9.mono (Rho.le_refl _)) z9
  have z7 := Rel.cat (o := 7) (s := 1) (r8.mono l9) z8
  have z6 := Rel.cat (o := 6) (s := 1) (r7.mono (Rho.le_trans l8 l9)) z7
  have z5 := Rel.cat (o := 5) (s := 1) (r6.mono (Rho.le_trans l7 (Rho.le_trans l8 l9))) z6
  have z4 := Rel.cat (o := 4) (s := 1) (r5.mono (Rho.le_trans l6 (Rho.le_trans l7 (Rho.le_trans l8 l9)))) z5
  have z3 := Rel.cat (o := 3) (s := 1) (r4.mono (Rho.le_trans l5 (Rho.le_trans l6 (Rho.le_trans l7 (Rho.le_trans l8 l9))))) z4
  have z2 := Rel.cat (o := 2) (s := 1) (r3.mono (Rho.le_trans l4 (Rho.le_trans l5 (Rho.le_trans l6 (Rho.le_trans l7 (Rho.le_trans l8 l9)))))) z3
  have z1 := Rel.cat (o := 1) (s := 1) (r2.mono (Rho.le_trans l3 (Rho.le_trans l4 (Rho.le_trans l5 (Rho.le_trans l6 (Rho.le_trans l7 (Rho.le_trans l8 l9))))))) z2
  have z0 := Rel.cat (o := 0) (s := 1) (r1.mono (Rho.le_trans l2 (Rho.le_trans l3 (Rho.le_trans l4 (Rho.le_trans l5 (Rho.le_trans l6 (Rho.le_trans l7 (Rho.le_trans l8 l9)))))))) z1
  rw [List.drop_zero] at z0
  exact ⟨n9, ρ9, H9, _, ⟨y1, y2, y3, y4, y5, y6, y7, y8, y9⟩, by omega, b9, (Rho.le_trans l1 (Rho.le_trans l2 (Rho.le_trans l3 (Rho.le_trans l4 (Rho.le_trans l5 (Rho.le_trans l6 (Rho.le_trans l7 (Rho.le_trans l8 l9)))))))), (g1.trans (g2.trans (g3.trans (g4.trans (g5.trans (g6.trans (g7.trans (g8.trans g9)))))))), z0, ⟨a6, m6, a7, m7, a8, m8, a9, m9, rfl, s6.mono (g7.trans (g8.trans g9)), s7.mono (g8.trans g9), s8.mono g9, s9.mono (Heap.Le.refl _)⟩⟩
theorem imp_T55 (hsp : ∀ b, spare b = true) : Imp enc Try.prog w base spare held 55 (List GPeer) := Imp.slice Try.underlying55 (by kernel_rfl) (by decide) (pos_of (show Try.prog.bytesOf 120 = 136 by kernel_rfl) (by decide)) hsp (imp_T120 hsp)
theorem imp_T123 (hsp : ∀ b, spare b = true) : Imp enc Try.prog w base spare held 123 GMsg := by
  intro fuel cs x h hq hB n0 ρ0 H0 b0
  obtain ⟨xs, f, rfl, rfl, hl, hxl, hx⟩ := DataW.trod_struct Try.underlying123 h
  have hl2 : cs.length = 9 := hl.trans (by kernel_rfl)
  have hxl2 : xs.length = 9 := hxl
  simp only [DataW.weights, Try.underlying123] at hq
  obtain ⟨n1, ρ1, H1, c1, y1, k1, b1, l1, g1, r1, p1⟩ := imp_field (Imp.i64 Try.underlying3) (off := 0) (sz := 1) (hx 0 _ rfl) (by rw [hxl2]; decide) (by kernel_rfl) (by rfl) hq hB b0
  obtain ⟨n2, ρ2, H2, c2, y2, k2, b2, l2, g2, r2, p2⟩ := imp_field (Imp.i64 Try.underlying3) (off := 1) (sz := 1) (hx 1 _ rfl) (by rw [hxl2]; decide) (by kernel_rfl) (by rfl) hq hB b1
  obtain ⟨n3, ρ3, H3, c3, y3, k3, b3, l3, g3, r3, p3⟩ := imp_field (Imp.i64 Try.underlying3) (off := 2) (sz := 1) (hx 2 _ rfl) (by rw [hxl2]; decide) (by kernel_rfl) (by rfl) hq hB b2
  obtain ⟨n4, ρ4, H4, c4, y4, k4, b4, l4, g4, r4, p4⟩ := imp_field (Imp.i64 Try.underlying3) (off := 3) (sz := 1) (hx 3 _ rfl) (by rw [hxl2]; decide) (by kernel_rfl) (by rfl) hq hB b3
  obtain ⟨n5, ρ5, H5, c5, y5, k5, b5, l5, g5, r5, p5⟩ := imp_field (Imp.i64 Try.underlying3) (off := 4) (sz := 1) (hx 4 _ rfl) (by rw [hxl2]; decide) (by kernel_rfl) (by rfl) hq hB b4
  obtain ⟨n6, ρ6, H6, c6, y6, k6, b6, l6, g6, r6, p6⟩ := imp_field (Imp.i64 Try.underlying3) (off := 5) (sz := 1) (hx 5 _ rfl) (by rw [hxl2]; decide) (by kernel_rfl) (by rfl) hq hB b5
  obtain ⟨n7, ρ7, H7, c7, y7, k7, b7, l7, g7, r7, p7⟩ := imp_field (Imp.i64 Try.underlying3) (off := 6) (sz := 1) (hx 6 _ rfl) (by rw [hxl2]; decide) (by kernel_rfl) (by rfl) hq hB b6
  obtain ⟨n8, ρ8, H8, c8, y8, k8, b8, l8, g8, r8, p8⟩ := imp_field (Imp.bool Try.underlying4) (off := 7) (sz := 1) (hx 7 _ rfl) (by rw [hxl2]; decide) (by kernel_rfl) (by rfl) hq hB b7
  obtain ⟨n9, ρ9, H9, c9, y9, k9, b9, l9, g9, r9, p9⟩ := imp_field (imp_T57 hsp) (off := 8) (sz := 1) (hx 8 _ rfl) (by rw [hxl2]; decide) (by kernel_rfl) (by rfl) hq hB b8
  obtain rfl : c1 = [.int .i64 y1] := p1
  obtain rfl : c2 = [.int .i64 y2] := p2
  obtain rfl : c3 = [.int .i64 y3] := p3
  obtain rfl : c4 = [.int .i64 y4] := p4
  obtain rfl : c5 = [.int .i64 y5] := p5
  obtain rfl : c6 = [.int .i64 y6] := p6
  obtain rfl : c7 = [.int .i64 y7] := p7
  obtain rfl : c8 = [.bool y8] := p8
  obtain ⟨v9, rfl, s9⟩ := p9
  obtain ⟨a9, m9, rfl⟩ := s9.form
  have z9 : Rel ρ9 [] (cs.drop 9) := Rel.fin hl2
  have z8 := Rel.cat (o := 8) (s := 1) (r9.mono (Rho.le_refl _)) z9
  have z7 := Rel.cat (o := 7) (s := 1) (r8.mono l9) z8
  have z6 := Rel.cat (o := 6) (s := 1) (r7.mono (Rho.le_trans l8 l9)) z7
  have z5 := Rel.cat (o := 5) (s := 1) (r6.mono (Rho.le_trans l7 (Rho.le_trans l8 l9))) z6
  have z4 := Rel.cat (o := 4) (s := 1) (r5.mono (Rho.le_trans l6 (Rho.le_trans l7 (Rho.le_trans l8 l9)))) z5
  have z3 := Rel.cat (o := 3) (s := 1) (r4.mono (Rho.le_trans l5 (Rho.le_trans l6 (Rho.le_trans l7 (Rho.le_trans l8 l9))))) z4
  have z2 := Rel.cat (o := 2) (s := 1) (r3.mono (Rho.le_trans l4 (Rho.le_trans l5 (Rho.le_trans l6 (Rho.le_trans l7 (Rho.le_trans l8 l9)))))) z3
  have z1 := Rel.cat (o := 1) (s := 1) (r2.mono (Rho.le_trans l3 (Rho.le_trans l4 (Rho.le_trans l5 (Rho.le_trans l6 (Rho.le_trans l7 (Rho.le_trans l8 l9))))))) z2
  have z0 := Rel.cat (o := 0) (s := 1) (r1.mono (Rho.le_trans l2 (Rho.le_trans l3 (Rho.le_trans l4 (Rho.le_trans l5 (Rho.le_trans l6 (Rho.le_trans l7 (Rho.le_trans l8 l9)))))))) z1
  rw [List.drop_zero] at z0
  exact ⟨n9, ρ9, H9, _, ⟨y1, y2, y3, y4, y5, y6, y7, y8, y9⟩, by omega, b9, (Rho.le_trans l1 (Rho.le_trans l2 (Rho.le_trans l3 (Rho.le_trans l4 (Rho.le_trans l5 (Rho.le_trans l6 (Rho.le_trans l7 (Rho.le_trans l8 l9)))))))), (g1.trans (g2.trans (g3.trans (g4.trans (g5.trans (g6.trans (g7.trans (g8.trans g9)))))))), z0, ⟨a9, m9, rfl, s9.mono (Heap.Le.refl _)⟩⟩
theorem imp_T56 (hsp : ∀ b, spare b = true) : Imp enc Try.prog w base spare held 56 (List GMsg) := Imp.slice Try.underlying56 (by kernel_rfl) (by decide) (pos_of (show Try.prog.bytesOf 123 = 88 by kernel_rfl) (by decide)) hsp (imp_T123 hsp)
theorem imp_T59 (hsp : ∀ b, spare b = true) : Imp enc Try.prog w base spare held 59 GCluster := by
  intro fuel cs x h hq hB n0 ρ0 H0 b0
  obtain ⟨xs, f, rfl, rfl, hl, hxl, hx⟩ := DataW.trod_struct Try.underlying59 h
  have hl2 : cs.length = 4 := hl.trans (by kernel_rfl)
  have hxl2 : xs.length = 4 := hxl
  simp only [DataW.weights, Try.underlying59] at hq
  obtain ⟨n1, ρ1, H1, c1, y1, k1, b1, l1, g1, r1, p1⟩ := imp_field (imp_T55 hsp) (off := 0) (sz := 1) (hx 0 _ rfl) (by rw [hxl2]; decide) (by kernel_rfl) (by rfl) hq hB b0
  obtain ⟨n2, ρ2, H2, c2, y2, k2, b2, l2, g2, r2, p2⟩ := imp_field (imp_T56 hsp) (off := 1) (sz := 1) (hx 1 _ rfl) (by rw [hxl2]; decide) (by kernel_rfl) (by rfl) hq hB b1
  obtain ⟨n3, ρ3, H3, c3, y3, k3, b3, l3, g3, r3, p3⟩ := imp_field (imp_T57 hsp) (off := 2) (sz := 1) (hx 2 _ rfl) (by rw [hxl2]; decide) (by kernel_rfl) (by rfl) hq hB b2
  obtain ⟨n4, ρ4, H4, c4, y4, k4, b4, l4, g4, r4, p4⟩ := imp_field (Imp.bool Try.underlying4) (off := 3) (sz := 1) (hx 3 _ rfl) (by rw [hxl2]; decide) (by kernel_rfl) (by rfl) hq hB b3
  obtain ⟨v1, rfl, s1⟩ := p1
  obtain ⟨a1, m1, rfl⟩ := s1.form
  obtain ⟨v2, rfl, s2⟩ := p2
  obtain ⟨a2, m2, rfl⟩ := s2.form
  obtain ⟨v3, rfl, s3⟩ := p3
  obtain ⟨a3, m3, rfl⟩ := s3.form
  obtain rfl : c4 = [.bool y4] := p4
  have z4 : Rel ρ4 [] (cs.drop 4) := Rel.fin hl2
  have z3 := Rel.cat (o := 3) (s := 1) (r4.mono (Rho.le_refl _)) z4
  have z2 := Rel.cat (o := 2) (s := 1) (r3.mono l4) z3
  have z1 := Rel.cat (o := 1) (s := 1) (r2.mono (Rho.le_trans l3 l4)) z2
  have z0 := Rel.cat (o := 0) (s := 1) (r1.mono (Rho.le_trans l2 (Rho.le_trans l3 l4))) z1
  rw [List.drop_zero] at z0
  exact ⟨n4, ρ4, H4, _, ⟨y1, y2, y3, y4⟩, by omega, b4, (Rho.le_trans l1 (Rho.le_trans l2 (Rho.le_trans l3 l4))), (g1.trans (g2.trans (g3.trans g4))), z0, ⟨a1, m1, a2, m2, a3, m3, rfl, s1.mono (g2.trans (g3.trans g4)), s2.mono (g3.trans g4), s3.mono g4⟩⟩
end
end Go.Proofs.YtbdebjoagckcpaaAb
