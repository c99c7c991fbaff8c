/- FnExactDiff holds: for every two images the program's Diff and the reference's give the same writes, the arguments read as they did, and no memory is shared; no condition. -/
import Derived.Test.YtcndiilogcembaaHyFDf
import Derived.Test.YtcndiilogcembaaHyGC
import Derived.Test.YtcndiilogcembaaRows
import Derived.Test.YtcndiilogcembaaChecked
namespace Go.Proofs.Ytcndiilogcembaa.fnExactDiff
open Go.RowKit Go.ChangeShapes Go.WideShapes Go.ChangeAt Go.Proofs.Ytcndiilogcembaa.Hz

set_option maxRecDepth 100000 in
theorem lifted (os : Os) (started : os.Started) (H : Type) (enc : TypeId × Value → H) :
    ReturnsInHanded {} Try.checked os 6 .any (Rows.fnExactDiffSpec.pre6 enc Try.prog Try.f6 Rows.fnExactDiffRow.domain false) (Rows.fnExactDiffSpec.post enc Try.prog Try.f6 false true false false) := by
  refine returnsInHanded_of_change_sized (C := Try.checked) ownKnob_none started (by kernel_rfl) Try.func6
    (ChangeSpec.witness6 (enc := enc) (C := Try.checked) false ⟨#[], #[.agg #[.slice none 0 0, .slice none 0 0], .agg #[.slice none 0 0, .slice none 0 0]], []⟩ 8 (by kernel_rfl) (by kernel_rfl) (by kernel_rfl) (by kernel_rfl)) ?_
  intro W base args ds gs before hval0 hW0 _ _ _
  have hval : ∀ (j : Nat) t v, Try.f6.params[j]? = some t → args[j]? = some v → Value.okWide Try.prog W .any base t v := hval0
  have hW : DataW.Whole enc Try.prog Try.f6.params.toList Rows.fnExactDiffSpec.vars false W args.toList ds gs before := hW0
  show Calls Try.prog _ _ _ _
  refine law_calls (Vs := [(VS (fsE false 115) Fs.bd), (VS (fsE false 115) Fs.bd)])
    Try.func6 rfl (by kernel_rfl) laid ?_ (by kernel_rfl) rfl rfl u_bool ?_ ?_ hval hW
  · rw [show Try.f6.params.toList = [45, 45] from rfl]
    exact ⟨opnV_fs, opnV_fs, trivial⟩
  · intro H ds hl
    match ds, hl with
    | [d0, d1], _ => rfl
  · intro h avs hv
    exact FnExactDiff_v h avs hv
theorem over : Rows.fnExactDiffRow.holds Try.pinned (OpenSpec.ofChange Rows.fnExactDiffSpec) :=
  OpenClaim.holds_of_wide 6 Try.f6 rfl rfl rfl rfl rfl rfl rfl ⟨rfl, rfl, rfl, rfl, rfl⟩ rfl rfl rfl rfl rfl (by kernel_rfl) Try.func6 (by kernel_rfl)
    (of_decide_eq_true (by kernel_rfl)) (by unfold Func.isWrapper; first | (rw [if_pos (by decide +kernel)]; kernel_rfl) | (rw [if_neg (by decide +kernel)]; exact ⟨rfl, rfl⟩))
    (fun os started H enc _ => lifted os started H enc)
end Go.Proofs.Ytcndiilogcembaa.fnExactDiff
namespace Go.Proofs.Ytcndiilogcembaa
/-- The row. -/
theorem fnExactDiff_holds : Rows.FnExactDiffSaid := fnExactDiff.over
end Go.Proofs.Ytcndiilogcembaa
