/- FnExactNodeWrite holds: for every image, node and text the program's NodeWrite and the reference's give the same image and answer, the argument reads as it did, and no memory is shared; no condition. -/
import Derived.Test.YtoknpbmcpaaalaaHyNWr
import Derived.Test.YtoknpbmcpaaalaaHyGC
import Derived.Test.YtoknpbmcpaaalaaRows
import Derived.Test.YtoknpbmcpaaalaaChecked
namespace Go.Proofs.Ytoknpbmcpaaalaa.fnExactNodeWrite
open Go.RowKit Go.ChangeShapes Go.WideShapes Go.ChangeAt Go.Proofs.Ytoknpbmcpaaalaa.Hz

set_option maxRecDepth 100000 in
theorem lifted (os : Os) (started : os.Started) (H : Type) (enc : TypeId × Value → H) :
    ReturnsInHanded {} Try.checked os 7 .any (Rows.fnExactNodeWriteSpec.pre6 enc Try.prog Try.f7 Rows.fnExactNodeWriteRow.domain false) (Rows.fnExactNodeWriteSpec.post enc Try.prog Try.f7 false true false false) := by
  refine returnsInHanded_of_change_sized (C := Try.checked) ownKnob_none started (by kernel_rfl) Try.func7
    (ChangeSpec.witness6 (enc := enc) (C := Try.checked) false ⟨#[], #[.agg #[.slice none 0 0, .slice none 0 0], .int .i64 0, .string ⟨#[]⟩], []⟩ 8 (by kernel_rfl) (by kernel_rfl) (by kernel_rfl) (by kernel_rfl)) ?_
  intro W base args ds gs before hval0 hW0 _ _ _
  have hval : ∀ (j : Nat) t v, Try.f7.params[j]? = some t → args[j]? = some v → Value.okWide Try.prog W .any base t v := hval0
  have hW : DataW.Whole enc Try.prog Try.f7.params.toList Rows.fnExactNodeWriteSpec.vars false W args.toList ds gs before := hW0
  show Calls Try.prog _ _ _ _
  refine law_calls (Vs := [(VS (fsE false 146) Fs.bd), (V1 intE fun n => (Lit.int .i64 n).wf = true), (V1 strE fun s => s.length ≤ maxLen)])
    Try.func7 rfl (by kernel_rfl) laid ?_ (by kernel_rfl) rfl rfl u_bool ?_ ?_ hval hW
  · rw [show Try.f7.params.toList = [50, 3, 9] from rfl]
    exact ⟨opnV_fs, opnV_int, opnV_str, trivial⟩
  · intro H ds hl
    match ds, hl with
    | [d0, d1, d2], _ => rfl
  · intro h avs hv
    exact FnExactNodeWrite_v h avs hv
theorem over : Rows.fnExactNodeWriteRow.holds Try.pinned (OpenSpec.ofChange Rows.fnExactNodeWriteSpec) :=
  OpenClaim.holds_of_wide 7 Try.f7 rfl rfl rfl rfl rfl rfl rfl ⟨rfl, rfl, rfl, rfl, rfl⟩ rfl rfl rfl rfl rfl (by kernel_rfl) Try.func7 (by kernel_rfl)
    (of_decide_eq_true (by kernel_rfl)) (by unfold Func.isWrapper; first | (rw [if_pos (by decide +kernel)]; kernel_rfl) | (rw [if_neg (by decide +kernel)]; exact ⟨rfl, rfl⟩))
    (fun os started H enc _ => lifted os started H enc)
end Go.Proofs.Ytoknpbmcpaaalaa.fnExactNodeWrite
namespace Go.Proofs.Ytoknpbmcpaaalaa
/-- The row. -/
theorem fnExactNodeWrite_holds : Rows.FnExactNodeWriteSaid := fnExactNodeWrite.over
end Go.Proofs.Ytoknpbmcpaaalaa
