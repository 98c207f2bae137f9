/- For all clusters handed in: the law that the program's Agree answers as the reference's (laws.FnExactAgree) answers true. Conditions: none beyond the statement's own. -/
import Derived.Test.YtbdebjoagckcpaaAbRow4
import Derived.Test.YtbdebjoagckcpaaImAg
import Derived.Test.YtbdebjoagckcpaaPxAgTx1
import Derived.Test.YtbdebjoagckcpaaPuAg
import Derived.WalkKit
import Derived.ProofKit
import Derived.OpenShut
import Derived.ChangeOld
import Derived.Below
import Derived.Carry
import Derived.SizedLaws
import Derived.Test.YtbdebjoagckcpaaRows
set_option linter.all false
namespace Go.Proofs.Ytbdebjoagckcpaa.fnExactAgree
open Go.ChangeShapes Go.WideShapes Go.ChangeAt Go.RowKit Go.Proofs.YtbdebjoagckcpaaAb
theorem own : ownKnob Try.prog.godebug = none := by kernel_rfl
theorem laidOut : laidOutB Try.prog = true := by kernel_rfl
theorem mixed : Try.prog.follows .mixedOrders = true := by kernel_rfl
theorem law_c : ∀ n H cs (x : GCluster), (∀ i, n ≤ i → H i = none) → Rp.R H cs x → C Try.prog noPrims n 8 [.agg cs.toArray] n H (fun v _ _ => v = .bool true) := by
  intro n H cs x hn hx
  have hbd := bd_Cluster hx
  obtain ⟨a0, c0, a1, c1, a2, c2, rfl, h0, h1, h2⟩ := hx
  exact (f_laws_FnExactAgree_k (Δ := noPrims) ⟨noPrims_good _, noPrims_framed⟩ (lo := n) (F0 := H) ⟨Nat.le_refl _, hn, Heap.Le.refl _⟩ h0 h1 h2 (FnExactAgree_m x hbd)).mono fun v n' H' h => h.2
set_option maxRecDepth 100000 in
theorem lifted (os : Os) (started : os.Started) (H : Type) (enc : TypeId × Value → H) :
    ReturnsInHanded {} Try.checked os 8 .any (Rows.fnExactAgreeSpec.pre6 enc Try.prog Try.f8 Rows.fnExactAgreeRow.domain false) (Rows.fnExactAgreeSpec.post enc Try.prog Try.f8 false true false false) := by
  refine returnsInHanded_of_change_sized (C := Try.checked) own started (by kernel_rfl) Try.func8
    (ChangeSpec.witness6 (enc := enc) (C := Try.checked) false ⟨#[], #[.agg #[.slice none 0 0, .slice none 0 0, .slice none 0 0, .bool false]], []⟩ 8 (by kernel_rfl) (by kernel_rfl) (by kernel_rfl) (by kernel_rfl)) ?_
  intro W base args ds gs before hval0 hW hcnd hsz0 _
  have hsz : (DataW.weightsEach Try.prog (Try.f8.params.toList ++ Rows.fnExactAgreeSpec.plain.varTypes Try.prog) (ds ++ gs)).all (· ≤ reachBytes) = true := hsz0
  have hval : ∀ (j : Nat) t v, Try.f8.params[j]? = some t → args[j]? = some v → Value.okWide Try.prog W .any base t v := hval0
  have hW' := hW
  obtain ⟨p, q, hA0, hV, rfl, hfz, hnd⟩ := hW
  have hA : DataW.TrodAll enc Try.prog W 0 (fun _ => true) true Try.f8.params.toList args.toList ds p := hA0
  rw [Try.params8] at hA hval hsz
  obtain ⟨v0, vs0, d0, ds0, p0, q0, hargs, rfl, rfl, h0, r0⟩ := trodAll_cons hA
  obtain ⟨rfl, rfl, rfl⟩ := trodAll_nil r0
  obtain rfl : args = #[v0] := by cases args; simp_all
  obtain ⟨rfl, rfl⟩ := trodVars_none hV
  clear hA0 hval0 hsz0
  refine (law_agg mixed Try.underlying59 (imp_T59 fun _ => rfl) (hval 0 59 v0 rfl rfl) h0 hsz (j := 0) rfl rfl law_c).mono fun e W' ⟨he, bel⟩ => ?_
  subst he
  have lt0 : ∀ x ∈ p0, x.block < W.heap.size := by obtain ⟨n, hn⟩ := h0; exact DataW.trod_lt n _ _ _ hn
  exact ⟨_, rfl, _, _, _, [], _, [], hW', trodAll_mk1 (shut_bool Try.underlying4 _), (trodAll_cons_mk (Below.trod laidOut (by kernel_rfl) (by rw [Try.types_size]; decide) h0 bel lt0) trodAll_mk0), rfl, bel.frame _, fun h => by cases h⟩
theorem over : Rows.fnExactAgreeRow.holds Try.pinned (OpenSpec.ofChange Rows.fnExactAgreeSpec) :=
  OpenClaim.holds_of_wide 8 Try.f8 rfl rfl rfl rfl rfl rfl rfl ⟨rfl, rfl, rfl, rfl, rfl⟩ rfl rfl rfl rfl rfl (by kernel_rfl) Try.func8 (by kernel_rfl)
    (of_decide_eq_true (by kernel_rfl)) (by unfold Func.isWrapper; first | (rw [if_pos (by decide +kernel)]; kernel_rfl) | (rw [if_neg (by decide +kernel)]; exact ⟨rfl, rfl⟩))
    (fun os started H enc _ => lifted os started H enc)
end Go.Proofs.Ytbdebjoagckcpaa.fnExactAgree
namespace Go.Proofs.Ytbdebjoagckcpaa
theorem fnExactAgree_holds : Rows.FnExactAgreeSaid := fnExactAgree.over
end Go.Proofs.Ytbdebjoagckcpaa
