/- For every state, StateBytes of the program answers as the reference does, writes into no argument, and owns what it answers; conditions: the state fits the size that the statement itself bounds. -/
import Derived.Test.YtmodhnkjimpkbaaAbRow4
import Derived.Test.YtmodhnkjimpkbaaImSb
import Derived.Test.YtmodhnkjimpkbaaPxSbTx2
import Derived.Test.YtmodhnkjimpkbaaPuS8
import Derived.WalkKit
import Derived.ProofKit
import Derived.OpenShut
import Derived.ChangeOld
import Derived.Below
import Derived.Carry
import Derived.SizedLaws
import Derived.Test.YtmodhnkjimpkbaaRows
set_option linter.all false
namespace Go.Proofs.Ytmodhnkjimpkbaa.fnExactStateBytes
open Go.ChangeShapes Go.WideShapes Go.ChangeAt Go.RowKit Go.Proofs.YtmodhnkjimpkbaaAb
theorem own : ownKnob Try.prog.godebug = none := by kernel_rfl
theorem laidOut : laidOutB Try.prog = true := by kernel_rfl
theorem mixed : Try.prog.follows .mixedOrders = true := by kernel_rfl
theorem law_c : ∀ n H cs (x : GState), (∀ i, n ≤ i → H i = none) → Rp.R H cs x → Bd.bd BU x → C Try.prog noPrims n 4 [.agg cs.toArray] n H (fun v _ _ => v = .bool true) := by
  intro n H cs x hn hx hbd
  obtain ⟨a0, c0, a1, c1, rfl, h0, h1⟩ := hx
  exact (f_laws_FnExactStateBytes_k (Δ := noPrims) ⟨noPrims_good _, noPrims_framed⟩ (lo := n) (F0 := H) ⟨Nat.le_refl _, hn, Heap.Le.refl _⟩ h0 h1 (FnExactStateBytes_m x hbd)).mono fun v n' H' h => h.2
set_option maxRecDepth 100000 in
theorem lifted (os : Os) (started : os.Started) (H : Type) (enc : TypeId × Value → H) :
    ReturnsInHanded {} Try.checked os 4 .any (Rows.fnExactStateBytesSpec.pre6 enc Try.prog Try.f4 Rows.fnExactStateBytesRow.domain false) (Rows.fnExactStateBytesSpec.post enc Try.prog Try.f4 false true false false) := by
  refine returnsInHanded_of_change_sized (C := Try.checked) own started (by kernel_rfl) Try.func4
    (ChangeSpec.witness6 (enc := enc) (C := Try.checked) false ⟨#[], #[.agg #[.slice none 0 0, .slice none 0 0]], []⟩ 8 (by kernel_rfl) (by kernel_rfl) (by kernel_rfl) (by kernel_rfl)) ?_
  intro W base args ds gs before hval0 hW hcnd hsz0 _
  have hsz : (DataW.weightsEach Try.prog (Try.f4.params.toList ++ Rows.fnExactStateBytesSpec.plain.varTypes Try.prog) (ds ++ gs)).all (· ≤ reachBytes) = true := hsz0
  have hval : ∀ (j : Nat) t v, Try.f4.params[j]? = some t → args[j]? = some v → Value.okWide Try.prog W .any base t v := hval0
  have hW' := hW
  obtain ⟨p, q, hA0, hV, rfl, hfz, hnd⟩ := hW
  have hA : DataW.TrodAll enc Try.prog W 0 (fun _ => true) true Try.f4.params.toList args.toList ds p := hA0
  rw [Try.params4] at hA hval hsz
  obtain ⟨v0, vs0, d0, ds0, p0, q0, hargs, rfl, rfl, h0, r0⟩ := trodAll_cons hA
  obtain ⟨rfl, rfl, rfl⟩ := trodAll_nil r0
  obtain rfl : args = #[v0] := by cases args; simp_all
  obtain ⟨rfl, rfl⟩ := trodVars_none hV
  clear hA0 hval0 hsz0
  refine (law_agg mixed Try.underlying38 (imp_T38 fun _ => rfl) (hval 0 38 v0 rfl rfl) h0 hsz (j := 0) rfl rfl law_c).mono fun e W' ⟨he, bel⟩ => ?_
  subst he
  have lt0 : ∀ x ∈ p0, x.block < W.heap.size := by obtain ⟨n, hn⟩ := h0; exact DataW.trod_lt n _ _ _ hn
  exact ⟨_, rfl, _, _, _, [], _, [], hW', trodAll_mk1 (shut_bool Try.underlying4 _), (trodAll_cons_mk (Below.trod laidOut (by kernel_rfl) (by rw [Try.types_size]; decide) h0 bel lt0) trodAll_mk0), rfl, bel.frame _, fun h => by cases h⟩
theorem over : Rows.fnExactStateBytesRow.holds Try.pinned (OpenSpec.ofChange Rows.fnExactStateBytesSpec) :=
  OpenClaim.holds_of_wide 4 Try.f4 rfl rfl rfl rfl rfl rfl rfl ⟨rfl, rfl, rfl, rfl, rfl⟩ rfl rfl rfl rfl rfl (by kernel_rfl) Try.func4 (by kernel_rfl)
    (of_decide_eq_true (by kernel_rfl)) (by unfold Func.isWrapper; first | (rw [if_pos (by decide +kernel)]; kernel_rfl) | (rw [if_neg (by decide +kernel)]; exact ⟨rfl, rfl⟩))
    (fun os started H enc _ => lifted os started H enc)
end Go.Proofs.Ytmodhnkjimpkbaa.fnExactStateBytes
namespace Go.Proofs.Ytmodhnkjimpkbaa
theorem fnExactStateBytes_holds : Rows.FnExactStateBytesSaid := fnExactStateBytes.over
end Go.Proofs.Ytmodhnkjimpkbaa
