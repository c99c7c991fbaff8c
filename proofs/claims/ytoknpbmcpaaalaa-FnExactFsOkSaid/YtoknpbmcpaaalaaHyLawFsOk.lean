/- FnExactFsOk holds: for every file system the program's FsOk and the reference's give the same answer, and the argument reads as it did; no condition. -/
import Derived.Test.YtoknpbmcpaaalaaHyCFsOk
import Derived.Test.YtoknpbmcpaaalaaHyGC
import Derived.Test.YtoknpbmcpaaalaaRows
import Derived.Test.YtoknpbmcpaaalaaChecked
namespace Go.Proofs.Ytoknpbmcpaaalaa.fnExactFsOk
open Go.RowKit Go.ChangeShapes Go.WideShapes Go.ChangeAt Go.Proofs.Ytoknpbmcpaaalaa.Hz

set_option maxRecDepth 100000 in
theorem lifted (os : Os) (started : os.Started) (H : Type) (enc : TypeId × Value → H) :
    ReturnsInHanded {} Try.checked os 8 .any (Rows.fnExactFsOkSpec.pre6 enc Try.prog Try.f8 Rows.fnExactFsOkRow.domain false) (Rows.fnExactFsOkSpec.post enc Try.prog Try.f8 false true false false) := by
  refine returnsInHanded_of_change_sized (C := Try.checked) ownKnob_none started (by kernel_rfl) Try.func8
    (ChangeSpec.witness6 (enc := enc) (C := Try.checked) false ⟨#[], #[.agg #[.slice none 0 0, .slice none 0 0]], []⟩ 8 (by kernel_rfl) (by kernel_rfl) (by kernel_rfl) (by kernel_rfl)) ?_
  intro W base args ds gs before hval0 hW0 _ _ _
  have hval : ∀ (j : Nat) t v, Try.f8.params[j]? = some t → args[j]? = some v → Value.okWide Try.prog W .any base t v := hval0
  have hW : DataW.Whole enc Try.prog Try.f8.params.toList Rows.fnExactFsOkSpec.vars false W args.toList ds gs before := hW0
  show Calls Try.prog _ _ _ _
  refine law_calls (Vs := [(VS (fsE false 146) Fs.bd)])
    Try.func8 rfl (by kernel_rfl) laid ?_ (by kernel_rfl) rfl rfl u_bool ?_ ?_ hval hW
  · rw [show Try.f8.params.toList = [50] from rfl]
    exact ⟨opnV_fs, trivial⟩
  · intro H ds hl
    match ds, hl with
    | [d0], _ => rfl
  · intro h avs hv
    exact FnExactFsOk_v h avs hv
theorem over : Rows.fnExactFsOkRow.holds Try.pinned (OpenSpec.ofChange Rows.fnExactFsOkSpec) :=
  OpenClaim.holds_of_wide 8 Try.f8 rfl rfl rfl rfl rfl rfl rfl ⟨rfl, rfl, rfl, rfl, rfl⟩ rfl rfl rfl rfl rfl (by kernel_rfl) Try.func8 (by kernel_rfl)
    (of_decide_eq_true (by kernel_rfl)) (by unfold Func.isWrapper; first | (rw [if_pos (by decide +kernel)]; kernel_rfl) | (rw [if_neg (by decide +kernel)]; exact ⟨rfl, rfl⟩))
    (fun os started H enc _ => lifted os started H enc)
end Go.Proofs.Ytoknpbmcpaaalaa.fnExactFsOk
namespace Go.Proofs.Ytoknpbmcpaaalaa
/-- The row. -/
theorem fnExactFsOk_holds : Rows.FnExactFsOkSaid := fnExactFsOk.over
end Go.Proofs.Ytoknpbmcpaaalaa
