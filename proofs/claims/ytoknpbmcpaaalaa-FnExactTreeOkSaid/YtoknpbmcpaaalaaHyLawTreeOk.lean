/- FnExactTreeOk holds: for every tree the program's TreeOk and the reference's give the same answer, and the argument reads as it did; no condition. -/
import Derived.Test.YtoknpbmcpaaalaaHyCTreeOk
import Derived.Test.YtoknpbmcpaaalaaHyGC
import Derived.Test.YtoknpbmcpaaalaaRows
import Derived.Test.YtoknpbmcpaaalaaChecked
namespace Go.Proofs.Ytoknpbmcpaaalaa.fnExactTreeOk
open Go.RowKit Go.ChangeShapes Go.WideShapes Go.ChangeAt Go.Proofs.Ytoknpbmcpaaalaa.Hz

set_option maxRecDepth 100000 in
theorem lifted (os : Os) (started : os.Started) (H : Type) (enc : TypeId × Value → H) :
    ReturnsInHanded {} Try.checked os 3 .any (Rows.fnExactTreeOkSpec.pre6 enc Try.prog Try.f3 Rows.fnExactTreeOkRow.domain false) (Rows.fnExactTreeOkSpec.post enc Try.prog Try.f3 false true false false) := by
  refine returnsInHanded_of_change_sized (C := Try.checked) ownKnob_none started (by kernel_rfl) Try.func3
    (ChangeSpec.witness6 (enc := enc) (C := Try.checked) false ⟨#[], #[.agg #[.slice none 0 0]], []⟩ 8 (by kernel_rfl) (by kernel_rfl) (by kernel_rfl) (by kernel_rfl)) ?_
  intro W base args ds gs before hval0 hW0 _ _ _
  have hval : ∀ (j : Nat) t v, Try.f3.params[j]? = some t → args[j]? = some v → Value.okWide Try.prog W .any base t v := hval0
  have hW : DataW.Whole enc Try.prog Try.f3.params.toList Rows.fnExactTreeOkSpec.vars false W args.toList ds gs before := hW0
  show Calls Try.prog _ _ _ _
  refine law_calls (Vs := [(VS (slE false 135 itemE) fun xs => xs.length ≤ maxLen ∧ ∀ x ∈ xs, x.path.length ≤ maxLen ∧ x.data.length ≤ maxLen)])
    Try.func3 rfl (by kernel_rfl) laid ?_ (by kernel_rfl) rfl rfl u_bool ?_ ?_ hval hW
  · rw [show Try.f3.params.toList = [24] from rfl]
    exact ⟨opnV_tree, trivial⟩
  · intro H ds hl
    match ds, hl with
    | [d0], _ => rfl
  · intro h avs hv
    match avs, hv with
    | [av], ⟨⟨xs, cs, F, e1, ⟨a, ea, hr⟩, hl, hx⟩, _⟩ =>
      subst ea
      subst e1
      exact FnExactTreeOk_c xs a F false _ h hr hl hx
theorem over : Rows.fnExactTreeOkRow.holds Try.pinned (OpenSpec.ofChange Rows.fnExactTreeOkSpec) :=
  OpenClaim.holds_of_wide 3 Try.f3 rfl rfl rfl rfl rfl rfl rfl ⟨rfl, rfl, rfl, rfl, rfl⟩ rfl rfl rfl rfl rfl (by kernel_rfl) Try.func3 (by kernel_rfl)
    (of_decide_eq_true (by kernel_rfl)) (by unfold Func.isWrapper; first | (rw [if_pos (by decide +kernel)]; kernel_rfl) | (rw [if_neg (by decide +kernel)]; exact ⟨rfl, rfl⟩))
    (fun os started H enc _ => lifted os started H enc)
end Go.Proofs.Ytoknpbmcpaaalaa.fnExactTreeOk
namespace Go.Proofs.Ytoknpbmcpaaalaa
/-- The row. -/
theorem fnExactTreeOk_holds : Rows.FnExactTreeOkSaid := fnExactTreeOk.over
end Go.Proofs.Ytoknpbmcpaaalaa
