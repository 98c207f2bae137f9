import Derived.Test.YtbdebjoagckcpaaPFnExactMajorityx1
namespace Go.Proofs.Ytbdebjoagckcpaa.Pure
open Go.RowKit Go.Proofs.Ytbdebjoagckcpaa.PFnExactMajority Go.Proofs.YtbdebjoagckcpaaW.PrintWords Go.Proofs.YtbdebjoagckcpaaW.PrintLast

/-- YOURS: ∀ (a0 : Int), (Lit.int .i64 a0).wf = true → laws_FnExactMajority.f a0 = some true
What it reaches (each with k first where it has rounds; `.mono`: more rounds tell the same; `.l0`, ..: its loops, with `.mono_l`): spec_Majority.f, impl_within.f, impl_most.f, impl_Majority.f, laws_FnExactMajority.f -/
theorem FnExactMajority : laws_FnExactMajority.Pure := by
  intro a0 h
  unfold laws_FnExactMajority.f spec_Majority.f impl_Majority.f impl_within.f impl_most.f
  by_cases h1 : a0 < 1
  · have h2 : ¬ (1 : Int) ≤ a0 := by omega
    simp [h1, h2]
  · have h2 : (1 : Int) ≤ a0 := by omega
    by_cases h3 : a0 > 7
    · have h4 : ¬ a0 ≤ 7 := by omega
      simp [h1, h2, h3, h4]
    · have h4 : a0 ≤ 7 := by omega
      simp [h1, h2, h3, h4]

end Go.Proofs.Ytbdebjoagckcpaa.Pure
