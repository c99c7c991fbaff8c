/- FnExactFsRename holds: for every image, two paths and generation the program's FsRename and the reference's give the same image and answer, the arguments read as they did, and no memory is shared; no condition. -/
import Derived.Test.YtcndiilogcembaaGreatHyFRn
import Derived.Test.YtcndiilogcembaaGreatHyGC
import Derived.Test.YtcndiilogcembaaGreatRows
import Derived.Test.YtcndiilogcembaaGreatChecked
namespace Go.Proofs.YtcndiilogcembaaGreat.fnExactFsRename
open Go.RowKit Go.ChangeShapes Go.WideShapes Go.ChangeAt Go.Proofs.YtcndiilogcembaaGreat.Hz

set_option maxRecDepth 100000 in
theorem lifted (os : Os) (started : os.Started) (H : Type) (enc : TypeId × Value → H) :
    ReturnsInHanded {} Tryz.checked os 7 .any (Rows.fnExactFsRenameSpec.pre6 enc Tryz.prog Tryz.f7 Rows.fnExactFsRenameRow.domain false) (Rows.fnExactFsRenameSpec.post enc Tryz.prog Tryz.f7 false true false false) := by
  refine returnsInHanded_of_change_sized (C := Tryz.checked) ownKnob_none started (by kernel_rfl) Tryz.func7
    (ChangeSpec.witness6 (enc := enc) (C := Tryz.checked) false ⟨#[], #[.agg #[.slice none 0 0, .slice none 0 0], .string ⟨#[]⟩, .string ⟨#[]⟩, .int .i64 0], []⟩ 8 (by kernel_rfl) (by kernel_rfl) (by kernel_rfl) (by kernel_rfl)) ?_
  intro W base args ds gs before hval0 hW0 _ _ _
  have hval : ∀ (j : Nat) t v, Tryz.f7.params[j]? = some t → args[j]? = some v → Value.okWide Tryz.prog W .any base t v := hval0
  have hW : DataW.Whole enc Tryz.prog Tryz.f7.params.toList Rows.fnExactFsRenameSpec.vars false W args.toList ds gs before := hW0
  show Calls Tryz.prog _ _ _ _
  refine law_calls (Vs := [(VS (fsE false 116) Fs.bd), (V1 strE fun s => s.length ≤ maxLen), (V1 strE fun s => s.length ≤ maxLen), (V1 intE fun n => (Lit.int .i64 n).wf = true)])
    Tryz.func7 rfl (by kernel_rfl) laid ?_ (by kernel_rfl) rfl rfl u_bool ?_ ?_ hval hW
  · rw [show Tryz.f7.params.toList = [25, 9, 9, 3] from rfl]
    exact ⟨opnV_fs, opnV_str, opnV_str, opnV_int, trivial⟩
  · intro H ds hl
    match ds, hl with
    | [d0, d1, d2, d3], _ => rfl
  · intro h avs hv
    exact FnExactFsRename_v h avs hv
theorem over : Rows.fnExactFsRenameRow.holds Tryz.pinned (OpenSpec.ofChange Rows.fnExactFsRenameSpec) :=
  OpenClaim.holds_of_wide 7 Tryz.f7 rfl rfl rfl rfl rfl rfl rfl ⟨rfl, rfl, rfl, rfl, rfl⟩ rfl rfl rfl rfl rfl (by kernel_rfl) Tryz.func7 (by kernel_rfl)
    (of_decide_eq_true (by kernel_rfl)) (by unfold Func.isWrapper; first | (rw [if_pos (by decide +kernel)]; kernel_rfl) | (rw [if_neg (by decide +kernel)]; exact ⟨rfl, rfl⟩))
    (fun os started H enc _ => lifted os started H enc)
end Go.Proofs.YtcndiilogcembaaGreat.fnExactFsRename
namespace Go.Proofs.YtcndiilogcembaaGreat
/-- The row. -/
theorem fnExactFsRename_holds : Rows.FnExactFsRenameSaid := fnExactFsRename.over
end Go.Proofs.YtcndiilogcembaaGreat
