/- FnSafe -/
import Derived.Test.YtlpcdcpcfeaecaaG06
import Derived.WalkKit
import Derived.ProofKit
import Derived.OpenShut
import Derived.ChangeOld
import Derived.Below
import Derived.Carry
import Derived.SizedLaws
import Derived.Test.YtlpcdcpcfeaecaaRows
set_option linter.all false
namespace Go.Proofs.Ytlpcdcpcfeaecaa.fnSafe
open Go.ChangeShapes Go.WideShapes Go.ChangeAt Go.RowKit Go.Proofs.YtlpcdcpcfeaecaaAb
theorem own : ownKnob Try.prog.godebug = none := by kernel_rfl
theorem laidOut : laidOutB Try.prog = true := by kernel_rfl
theorem mixed : Try.prog.follows .mixedOrders = true := by kernel_rfl
theorem law_c (bs bs2 : List UInt8) (h1 : bs.length ≤ reachBytes) (h2 : bs2.length ≤ reachBytes) : ∀ a cap a2 cap2 n H, (∀ i, n ≤ i → H i = none) → BSI n H (.slice a bs.length cap) bs → BSI n H (.slice a2 bs2.length cap2) bs2 → C Try.prog noPrims n 6 [.slice a bs.length cap, .slice a2 bs2.length cap2] n H (fun v _ _ => v = .bool true) := by
  intro a cap a2 cap2 n H hn hb1 hb2
  have w : Wf n n H [fz (.slice a bs.length cap) bs, fz (.slice a2 bs2.length cap2) bs2] H := ⟨Nat.le_refl _, hn, Heap.Le.refl _, nilH, Heap.nil_le, Dj.nil.symm, fun _ _ => rfl, nilH, nilH, .nil, .refl _, .refl _, ⟨_, rfl, hb1.sr h1⟩, nilH, nilH, .nil, .refl _, .refl _, ⟨_, rfl, hb2.sr h2⟩, trivial⟩
  exact (v1tzk (Δ := noPrims) ⟨noPrims_good _, noPrims_framed⟩ (Ar := []) (safe_m bs bs2) n n H H w).mono fun v n' H' ⟨F', A', _, _, hv, _⟩ => hv
set_option maxRecDepth 100000 in
theorem lifted (os : Os) (started : os.Started) (H : Type) (enc : TypeId × Value → H) :
    ReturnsInHanded {} Try.checked os 6 .any (Rows.fnSafeSpec.pre6 enc Try.prog Try.f6 Rows.fnSafeRow.domain false) (Rows.fnSafeSpec.post enc Try.prog Try.f6 false true false false) := by
  refine returnsInHanded_of_change_sized (C := Try.checked) own started (by kernel_rfl) Try.func6
    (ChangeSpec.witness6 (enc := enc) (C := Try.checked) false ⟨#[], #[.slice none 0 0, .slice none 0 0], []⟩ 8 (by kernel_rfl) (by kernel_rfl) (by kernel_rfl) (by kernel_rfl)) ?_
  intro W base args ds gs before hval0 hW hcnd hsz0 _
  have hsz : (DataW.weightsEach Try.prog (Try.f6.params.toList ++ Rows.fnSafeSpec.plain.varTypes Try.prog) (ds ++ gs)).all (· ≤ reachBytes) = true := hsz0
  have hval : ∀ (j : Nat) t v, Try.f6.params[j]? = some t → args[j]? = some v → Value.okWide Try.prog W .any base t v := hval0
  have hW' := hW
  obtain ⟨p, q, hA0, hV, rfl, hfz, hnd⟩ := hW
  have hA : DataW.TrodAll enc Try.prog W 0 (fun _ => true) true Try.f6.params.toList args.toList ds p := hA0
  rw [Try.params6] at hA hval hsz
  obtain ⟨v0, vs0, d0, ds0, p0, q0, hargs, rfl, rfl, h0, r0⟩ := trodAll_cons hA
  obtain ⟨v1, vs1, d1, ds1, p1, q1, rfl, rfl, rfl, h1, r1⟩ := trodAll_cons r0
  obtain ⟨rfl, rfl, rfl⟩ := trodAll_nil r1
  obtain rfl : args = #[v0, v1] := by cases args; simp_all
  obtain ⟨rfl, rfl⟩ := trodVars_none hV
  obtain ⟨bs, i0, l0⟩ := inBN_of Try.underlying22 Try.underlying5 (by kernel_rfl) (fun _ => rfl) (hval 0 22 v0 rfl rfl) h0
  obtain ⟨bs2, i1, l1⟩ := inBN_of Try.underlying22 Try.underlying5 (by kernel_rfl) (fun _ => rfl) (hval 1 22 v1 rfl rfl) h1
  have m0 : dlen d0 ≤ reachBytes := dlen_le hsz (j := 0) rfl rfl Try.underlying22 (by kernel_rfl)
  have m1 : dlen d1 ≤ reachBytes := dlen_le hsz (j := 1) rfl rfl Try.underlying22 (by kernel_rfl)
  clear hA0 hval0 hsz0 hsz
  refine (lawN_bb mixed i0 i1 (law_c bs bs2 (Nat.le_trans l0 m0) (Nat.le_trans l1 m1))).mono fun e W' ⟨he, bel⟩ => ?_
  subst he
  have lt0 : ∀ x ∈ p0, x.block < W.heap.size := by obtain ⟨n, hn⟩ := h0; exact DataW.trod_lt n _ _ _ hn
  have lt1 : ∀ x ∈ p1, x.block < W.heap.size := by obtain ⟨n, hn⟩ := h1; exact DataW.trod_lt n _ _ _ hn
  exact ⟨_, rfl, _, _, _, [], _, [], hW', trodAll_mk1 (shut_bool Try.underlying4 _), (trodAll_cons_mk (Below.trod laidOut (by kernel_rfl) (by rw [Try.types_size]; decide) h0 bel lt0) (trodAll_cons_mk (Below.trod laidOut (by kernel_rfl) (by rw [Try.types_size]; decide) h1 bel lt1) trodAll_mk0)), rfl, bel.frame _, fun h => by cases h⟩
theorem over : Rows.fnSafeRow.holds Try.pinned (OpenSpec.ofChange Rows.fnSafeSpec) :=
  OpenClaim.holds_of_wide 6 Try.f6 rfl rfl rfl rfl rfl rfl rfl ⟨rfl, rfl, rfl, rfl, rfl⟩ rfl rfl rfl rfl rfl (by kernel_rfl) Try.func6 (by kernel_rfl)
    (of_decide_eq_true (by kernel_rfl)) (by unfold Func.isWrapper; first | (rw [if_pos (by decide +kernel)]; kernel_rfl) | (rw [if_neg (by decide +kernel)]; exact ⟨rfl, rfl⟩))
    (fun os started H enc _ => lifted os started H enc)
end Go.Proofs.Ytlpcdcpcfeaecaa.fnSafe
namespace Go.Proofs.Ytlpcdcpcfeaecaa
theorem fnSafe_holds : Rows.FnSafeSaid := fnSafe.over
end Go.Proofs.Ytlpcdcpcfeaecaa
