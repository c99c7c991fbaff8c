/- FnExactFsShow holds: for every image the program's FsShow and the reference's give the same image, the argument reads as it did, and no memory is shared; no condition. -/
import Derived.Test.YtccpaikdmncidaaHyFSw
import Derived.Test.YtccpaikdmncidaaHyGC
import Derived.Test.YtccpaikdmncidaaRows
import Derived.Test.YtccpaikdmncidaaChecked
namespace Go.Proofs.Ytccpaikdmncidaa.fnExactFsShow
open Go.RowKit Go.ChangeShapes Go.WideShapes Go.ChangeAt Go.Proofs.Ytccpaikdmncidaa.Hz

set_option maxRecDepth 100000 in
theorem lifted (os : Os) (started : os.Started) (H : Type) (enc : TypeId × Value → H) :
    ReturnsInHanded {} Try.checked os 3 .any (Rows.fnExactFsShowSpec.pre6 enc Try.prog Try.f3 Rows.fnExactFsShowRow.domain false) (Rows.fnExactFsShowSpec.post enc Try.prog Try.f3 false true false false) := by
  refine returnsInHanded_of_change_sized (C := Try.checked) ownKnob_none started (by kernel_rfl) Try.func3
    (ChangeSpec.witness6 (enc := enc) (C := Try.checked) false ⟨#[], #[.agg #[.slice none 0 0, .slice none 0 0]], []⟩ 8 (by kernel_rfl) (by kernel_rfl) (by kernel_rfl) (by kernel_rfl)) ?_
  intro W base args ds gs before hval0 hW0 _ _ _
  have hval : ∀ (j : Nat) t v, Try.f3.params[j]? = some t → args[j]? = some v → Value.okWide Try.prog W .any base t v := hval0
  have hW : DataW.Whole enc Try.prog Try.f3.params.toList Rows.fnExactFsShowSpec.vars false W args.toList ds gs before := hW0
  show Calls Try.prog _ _ _ _
  refine law_calls (Vs := [(VS (fsE false 127) Fs.bd)])
    Try.func3 rfl (by kernel_rfl) laid ?_ (by kernel_rfl) rfl rfl u_bool ?_ ?_ hval hW
  · rw [show Try.f3.params.toList = [25] from rfl]
    exact ⟨opnV_fs, trivial⟩
  · intro H ds hl
    match ds, hl with
    | [d0], _ => rfl
  · intro h avs hv
    exact FnExactFsShow_v h avs hv
theorem over : Rows.fnExactFsShowRow.holds Try.pinned (OpenSpec.ofChange Rows.fnExactFsShowSpec) :=
  OpenClaim.holds_of_wide 3 Try.f3 rfl rfl rfl rfl rfl rfl rfl ⟨rfl, rfl, rfl, rfl, rfl⟩ rfl rfl rfl rfl rfl (by kernel_rfl) Try.func3 (by kernel_rfl)
    (of_decide_eq_true (by kernel_rfl)) (by unfold Func.isWrapper; first | (rw [if_pos (by decide +kernel)]; kernel_rfl) | (rw [if_neg (by decide +kernel)]; exact ⟨rfl, rfl⟩))
    (fun os started H enc _ => lifted os started H enc)
end Go.Proofs.Ytccpaikdmncidaa.fnExactFsShow
namespace Go.Proofs.Ytccpaikdmncidaa
/-- The row. -/
theorem fnExactFsShow_holds : Rows.FnExactFsShowSaid := fnExactFsShow.over
end Go.Proofs.Ytccpaikdmncidaa
