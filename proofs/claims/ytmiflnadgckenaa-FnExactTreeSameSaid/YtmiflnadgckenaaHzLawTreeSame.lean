/- FnExactTreeSame holds: for every two trees the program's TreeSame and the reference's give the same answer, and the arguments read as they did; no condition. -/
import Derived.Test.YtmiflnadgckenaaHzTS
import Derived.Test.YtmiflnadgckenaaHzX
import Derived.Test.YtmiflnadgckenaaRows
import Derived.Test.YtmiflnadgckenaaChecked
namespace Go.Proofs.Ytmiflnadgckenaa.fnExactTreeSame
open Go.RowKit Go.ChangeShapes Go.WideShapes Go.ChangeAt Go.Proofs.Ytmiflnadgckenaa.Hz

set_option maxRecDepth 100000 in
theorem lifted (os : Os) (started : os.Started) (H : Type) (enc : TypeId × Value → H) :
    ReturnsInHanded {} Try.checked os 6 .any (Rows.fnExactTreeSameSpec.pre6 enc Try.prog Try.f6 Rows.fnExactTreeSameRow.domain false) (Rows.fnExactTreeSameSpec.post enc Try.prog Try.f6 false true false false) := by
  refine returnsInHanded_of_change_sized (C := Try.checked) ownKnob_none started (by kernel_rfl) Try.func6
    (ChangeSpec.witness6 (enc := enc) (C := Try.checked) false ⟨#[], #[.agg #[.slice none 0 0], .agg #[.slice none 0 0]], []⟩ 8 (by kernel_rfl) (by kernel_rfl) (by kernel_rfl) (by kernel_rfl)) ?_
  intro W base args ds gs before hval0 hW0 _ _ _
  have hval : ∀ (j : Nat) t v, Try.f6.params[j]? = some t → args[j]? = some v → Value.okWide Try.prog W .any base t v := hval0
  have hW : DataW.Whole enc Try.prog Try.f6.params.toList Rows.fnExactTreeSameSpec.vars false W args.toList ds gs before := hW0
  show Calls Try.prog _ _ _ _
  refine law_calls (Vs := [(VS (slE false 116 itemE) fun xs => xs.length ≤ maxLen ∧ ∀ x ∈ xs, x.path.length ≤ maxLen ∧ x.data.length ≤ maxLen), (VS (slE false 116 itemE) fun xs => xs.length ≤ maxLen ∧ ∀ x ∈ xs, x.path.length ≤ maxLen ∧ x.data.length ≤ maxLen)])
    Try.func6 rfl (by kernel_rfl) laid ?_ (by kernel_rfl) rfl rfl u_bool ?_ ?_ hval hW
  · rw [show Try.f6.params.toList = [35, 35] from rfl]
    exact ⟨opnV_tree, opnV_tree, trivial⟩
  · intro H ds hl
    match ds, hl with
    | [d0, d1], _ => rfl
  · intro h avs hv
    match avs, hv with
    | [av, bv], ⟨⟨xs, cs, F, e1, ⟨a, ea, hr⟩, hl, hx⟩, ⟨ys, ds, G, e2, ⟨b, eb, hr'⟩, hl', hx'⟩, _⟩ =>
      subst ea
      subst eb
      subst e1
      subst e2
      exact FnExactTreeSame_c xs ys a b F G false false _ _ h hr hr' hl hl' hx hx'
theorem over : Rows.fnExactTreeSameRow.holds Try.pinned (OpenSpec.ofChange Rows.fnExactTreeSameSpec) :=
  OpenClaim.holds_of_wide 6 Try.f6 rfl rfl rfl rfl rfl rfl rfl ⟨rfl, rfl, rfl, rfl, rfl⟩ rfl rfl rfl rfl rfl (by kernel_rfl) Try.func6 (by kernel_rfl)
    (of_decide_eq_true (by kernel_rfl)) (by unfold Func.isWrapper; first | (rw [if_pos (by decide +kernel)]; kernel_rfl) | (rw [if_neg (by decide +kernel)]; exact ⟨rfl, rfl⟩))
    (fun os started H enc _ => lifted os started H enc)
end Go.Proofs.Ytmiflnadgckenaa.fnExactTreeSame
namespace Go.Proofs.Ytmiflnadgckenaa
/-- The row. -/
theorem fnExactTreeSame_holds : Rows.FnExactTreeSameSaid := fnExactTreeSame.over
end Go.Proofs.Ytmiflnadgckenaa
