/- FnExactPolicyText holds: for every argument the program's PolicyText and the reference's give the same string; no condition. -/
import Derived.Test.YtmiflnadgckenaaPFnExactPolicyTextx1
namespace Go.Proofs.Ytmiflnadgckenaa.Pure
open Go.RowKit Go.Proofs.Ytmiflnadgckenaa.PFnExactPolicyText Go.Proofs.YtmiflnadgckenaaW.PrintWords Go.Proofs.YtmiflnadgckenaaW.PrintLast

theorem FnExactPolicyText : laws_FnExactPolicyText.Pure := by
  intro a _
  have w : wrap64 5 = 5 := by simp [wrap64]
  unfold laws_FnExactPolicyText.f spec_PolicyText.f impl_PolicyText.f impl_within.f spec_l1In.f spec_l13Names.f impl_policyNames.f
  simp only [Option.bind_some, List.length_cons, List.length_nil]
  by_cases h0 : a ≥ 0
  · by_cases h5 : a ≤ 5
    · have h0' : (0 : Int) ≤ a := h0
      have h6 : a < 6 := by omega
      simp [h0', h5, w, h6]
    · simp [h0, h5, w]
  · simp [h0]

end Go.Proofs.Ytmiflnadgckenaa.Pure
