/- FnExactDirAdd holds: for every directory, name and node the program's DirAdd and the reference's give the same directory and answer, the arguments read as they did, and no memory is shared; no condition. -/
import Derived.Test.YtcndiilogcembaaHyDA
import Derived.Test.YtcndiilogcembaaHyGC
import Derived.Test.YtcndiilogcembaaRows
import Derived.Test.YtcndiilogcembaaChecked
namespace Go.Proofs.Ytcndiilogcembaa.fnExactDirAdd
open Go.RowKit Go.ChangeShapes Go.WideShapes Go.ChangeAt Go.Proofs.Ytcndiilogcembaa.Hz
set_option linter.unusedVariables false
set_option linter.unusedSimpArgs false

set_option maxRecDepth 100000 in
theorem lifted (os : Os) (started : os.Started) (H : Type) (enc : TypeId × Value → H) :
    ReturnsInHanded {} Try.checked os 3 .any (Rows.fnExactDirAddSpec.pre6 enc Try.prog Try.f3 Rows.fnExactDirAddRow.domain false) (Rows.fnExactDirAddSpec.post enc Try.prog Try.f3 false true false false) := by
  refine returnsInHanded_of_change_sized (C := Try.checked) ownKnob_none started (by kernel_rfl) Try.func3
    (ChangeSpec.witness6 (enc := enc) (C := Try.checked) false ⟨#[], #[.slice none 0 0, .string ⟨#[]⟩, .int .i64 0], []⟩ 8 (by kernel_rfl) (by kernel_rfl) (by kernel_rfl) (by kernel_rfl)) ?_
  intro W base args ds gs before hval0 hW0 _ _ _
  have hval : ∀ (j : Nat) t v, Try.f3.params[j]? = some t → args[j]? = some v → Value.okWide Try.prog W .any base t v := hval0
  have hW : DataW.Whole enc Try.prog Try.f3.params.toList Rows.fnExactDirAddSpec.vars false W args.toList ds gs before := hW0
  show Calls Try.prog _ _ _ _
  refine law_calls (Vs := [(V1 (slE false 67 entE) fun xs => xs.length ≤ maxLen ∧ ∀ x ∈ xs, x.name.length ≤ maxLen), (V1 strE fun s => s.length ≤ maxLen), (V1 intE fun n => (Lit.int .i64 n).wf = true)])
    Try.func3 rfl (by kernel_rfl) laid ?_ (by kernel_rfl) rfl rfl u_bool ?_ ?_ hval hW
  · rw [show Try.f3.params.toList = [22, 9, 3] from rfl]
    exact ⟨opnV_ents, opnV_str, opnV_int, trivial⟩
  · intro H ds hl
    match ds, hl with
    | [d0, d1, d2], _ => rfl
  · intro h avs hv
    exact FnExactDirAdd_v h avs hv
theorem over : Rows.fnExactDirAddRow.holds Try.pinned (OpenSpec.ofChange Rows.fnExactDirAddSpec) :=
  OpenClaim.holds_of_wide 3 Try.f3 rfl rfl rfl rfl rfl rfl rfl ⟨rfl, rfl, rfl, rfl, rfl⟩ rfl rfl rfl rfl rfl (by kernel_rfl) Try.func3 (by kernel_rfl)
    (of_decide_eq_true (by kernel_rfl)) (by unfold Func.isWrapper; first | (rw [if_pos (by decide +kernel)]; kernel_rfl) | (rw [if_neg (by decide +kernel)]; exact ⟨rfl, rfl⟩))
    (fun os started H enc _ => lifted os started H enc)
end Go.Proofs.Ytcndiilogcembaa.fnExactDirAdd
namespace Go.Proofs.Ytcndiilogcembaa
/-- The row. -/
theorem fnExactDirAdd_holds : Rows.FnExactDirAddSaid := fnExactDirAdd.over
end Go.Proofs.Ytcndiilogcembaa
