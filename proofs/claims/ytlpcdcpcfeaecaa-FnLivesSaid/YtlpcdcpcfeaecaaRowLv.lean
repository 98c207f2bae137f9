/- laws.FnLives holds whatever the input: the code's walk, printed, and a plain model of the cluster -/
import Derived.Test.YtlpcdcpcfeaecaaG07
import Derived.WalkKit
import Derived.ProofKit
import Derived.OpenShut
import Derived.ChangeOld
import Derived.Below
import Derived.Carry
import Derived.SizedLaws
import Derived.Test.YtlpcdcpcfeaecaaRows
set_option linter.all false
namespace Go.Proofs.Ytlpcdcpcfeaecaa.fnLives
open Go.ChangeShapes Go.WideShapes Go.ChangeAt Go.RowKit Go.Proofs.YtlpcdcpcfeaecaaAb
theorem own : ownKnob Try.prog.godebug = none := by kernel_rfl
theorem laidOut : laidOutB Try.prog = true := by kernel_rfl
theorem mixed : Try.prog.follows .mixedOrders = true := by kernel_rfl
theorem law_c (bs : List UInt8) (h1 : bs.length ≤ reachBytes) : ∀ a cap n H, (∀ i, n ≤ i → H i = none) → BSI n H (.slice a bs.length cap) bs → C Try.prog noPrims n 3 [.slice a bs.length cap] n H (fun v _ _ => v = .bool true) := by
  intro a cap n H hn hb1
  refine (f_laws_FnLives_k (Δ := noPrims) ⟨noPrims_good _, noPrims_framed⟩ (lo := n) (F0 := H) ⟨Nat.le_refl _, hn, Heap.Le.refl _⟩ (hb1.sr h1) (lives_m bs)).mono fun v n' H' h => h.2
set_option maxRecDepth 100000 in
theorem lifted (os : Os) (started : os.Started) (H : Type) (enc : TypeId × Value → H) :
    ReturnsInHanded {} Try.checked os 3 .any (Rows.fnLivesSpec.pre6 enc Try.prog Try.f3 Rows.fnLivesRow.domain false) (Rows.fnLivesSpec.post enc Try.prog Try.f3 false true false false) := by
  refine returnsInHanded_of_change_sized (C := Try.checked) own started (by kernel_rfl) Try.func3
    (ChangeSpec.witness6 (enc := enc) (C := Try.checked) false ⟨#[], #[.slice none 0 0], []⟩ 8 (by kernel_rfl) (by kernel_rfl) (by kernel_rfl) (by kernel_rfl)) ?_
  intro W base args ds gs before hval0 hW hcnd hsz0 _
  have hsz : (DataW.weightsEach Try.prog (Try.f3.params.toList ++ Rows.fnLivesSpec.plain.varTypes Try.prog) (ds ++ gs)).all (· ≤ reachBytes) = true := hsz0
  have hval : ∀ (j : Nat) t v, Try.f3.params[j]? = some t → args[j]? = some v → Value.okWide Try.prog W .any base t v := hval0
  have hW' := hW
  obtain ⟨p, q, hA0, hV, rfl, hfz, hnd⟩ := hW
  have hA : DataW.TrodAll enc Try.prog W 0 (fun _ => true) true Try.f3.params.toList args.toList ds p := hA0
  rw [Try.params3] at hA hval hsz
  obtain ⟨v0, vs0, d0, ds0, p0, q0, hargs, rfl, rfl, h0, r0⟩ := trodAll_cons hA
  obtain ⟨rfl, rfl, rfl⟩ := trodAll_nil r0
  obtain rfl : args = #[v0] := by cases args; simp_all
  obtain ⟨rfl, rfl⟩ := trodVars_none hV
  obtain ⟨bs, i0, l0⟩ := inBN_of Try.underlying22 Try.underlying5 (by kernel_rfl) (fun _ => rfl) (hval 0 22 v0 rfl rfl) h0
  have m0 : dlen d0 ≤ reachBytes := dlen_le hsz (j := 0) rfl rfl Try.underlying22 (by kernel_rfl)
  clear hA0 hval0 hsz0 hsz
  refine (lawN_b mixed i0 (law_c bs (Nat.le_trans l0 m0))).mono fun e W' ⟨he, bel⟩ => ?_
  subst he
  have lt0 : ∀ x ∈ p0, x.block < W.heap.size := by obtain ⟨n, hn⟩ := h0; exact DataW.trod_lt n _ _ _ hn
  exact ⟨_, rfl, _, _, _, [], _, [], hW', trodAll_mk1 (shut_bool Try.underlying4 _), (trodAll_cons_mk (Below.trod laidOut (by kernel_rfl) (by rw [Try.types_size]; decide) h0 bel lt0) trodAll_mk0), rfl, bel.frame _, fun h => by cases h⟩
theorem over : Rows.fnLivesRow.holds Try.pinned (OpenSpec.ofChange Rows.fnLivesSpec) :=
  OpenClaim.holds_of_wide 3 Try.f3 rfl rfl rfl rfl rfl rfl rfl ⟨rfl, rfl, rfl, rfl, rfl⟩ rfl rfl rfl rfl rfl (by kernel_rfl) Try.func3 (by kernel_rfl)
    (of_decide_eq_true (by kernel_rfl)) (by unfold Func.isWrapper; first | (rw [if_pos (by decide +kernel)]; kernel_rfl) | (rw [if_neg (by decide +kernel)]; exact ⟨rfl, rfl⟩))
    (fun os started H enc _ => lifted os started H enc)
end Go.Proofs.Ytlpcdcpcfeaecaa.fnLives
namespace Go.Proofs.Ytlpcdcpcfeaecaa
theorem fnLives_holds : Rows.FnLivesSaid := fnLives.over
end Go.Proofs.Ytlpcdcpcfeaecaa
