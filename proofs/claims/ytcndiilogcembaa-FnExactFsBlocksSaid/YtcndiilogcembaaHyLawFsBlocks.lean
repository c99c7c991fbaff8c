/- FnExactFsBlocks holds: for every image the program's FsBlocks and the reference's give the same texts, the argument reads as it did, and no memory is shared; no condition. -/
import Derived.Test.YtcndiilogcembaaHyFBk
import Derived.Test.YtcndiilogcembaaHyGC
import Derived.Test.YtcndiilogcembaaRows
import Derived.Test.YtcndiilogcembaaChecked
namespace Go.Proofs.Ytcndiilogcembaa.fnExactFsBlocks
open Go.RowKit Go.ChangeShapes Go.WideShapes Go.ChangeAt Go.Proofs.Ytcndiilogcembaa.Hz

set_option maxRecDepth 100000 in
theorem lifted (os : Os) (started : os.Started) (H : Type) (enc : TypeId × Value → H) :
    ReturnsInHanded {} Try.checked os 5 .any (Rows.fnExactFsBlocksSpec.pre6 enc Try.prog Try.f5 Rows.fnExactFsBlocksRow.domain false) (Rows.fnExactFsBlocksSpec.post enc Try.prog Try.f5 false true false false) := by
  refine returnsInHanded_of_change_sized (C := Try.checked) ownKnob_none started (by kernel_rfl) Try.func5
    (ChangeSpec.witness6 (enc := enc) (C := Try.checked) false ⟨#[], #[.agg #[.slice none 0 0, .slice none 0 0]], []⟩ 8 (by kernel_rfl) (by kernel_rfl) (by kernel_rfl) (by kernel_rfl)) ?_
  intro W base args ds gs before hval0 hW0 _ _ _
  have hval : ∀ (j : Nat) t v, Try.f5.params[j]? = some t → args[j]? = some v → Value.okWide Try.prog W .any base t v := hval0
  have hW : DataW.Whole enc Try.prog Try.f5.params.toList Rows.fnExactFsBlocksSpec.vars false W args.toList ds gs before := hW0
  show Calls Try.prog _ _ _ _
  refine law_calls (Vs := [(VS (fsE false 115) Fs.bd)])
    Try.func5 rfl (by kernel_rfl) laid ?_ (by kernel_rfl) rfl rfl u_bool ?_ ?_ hval hW
  · rw [show Try.f5.params.toList = [45] from rfl]
    exact ⟨opnV_fs, trivial⟩
  · intro H ds hl
    match ds, hl with
    | [d0], _ => rfl
  · intro h avs hv
    exact FnExactFsBlocks_v h avs hv
theorem over : Rows.fnExactFsBlocksRow.holds Try.pinned (OpenSpec.ofChange Rows.fnExactFsBlocksSpec) :=
  OpenClaim.holds_of_wide 5 Try.f5 rfl rfl rfl rfl rfl rfl rfl ⟨rfl, rfl, rfl, rfl, rfl⟩ rfl rfl rfl rfl rfl (by kernel_rfl) Try.func5 (by kernel_rfl)
    (of_decide_eq_true (by kernel_rfl)) (by unfold Func.isWrapper; first | (rw [if_pos (by decide +kernel)]; kernel_rfl) | (rw [if_neg (by decide +kernel)]; exact ⟨rfl, rfl⟩))
    (fun os started H enc _ => lifted os started H enc)
end Go.Proofs.Ytcndiilogcembaa.fnExactFsBlocks
namespace Go.Proofs.Ytcndiilogcembaa
/-- The row. -/
theorem fnExactFsBlocks_holds : Rows.FnExactFsBlocksSaid := fnExactFsBlocks.over
end Go.Proofs.Ytcndiilogcembaa
