/- FnExactNodeMake holds: for every image and every kind the program's NodeMake and the reference's give the same image, node and answer, the argument reads as it did, and no memory is shared; no condition. -/
import Derived.Test.YtidkkmkihifeoaaHzNMk
import Derived.Test.YtidkkmkihifeoaaHzX
import Derived.Test.YtidkkmkihifeoaaRows
import Derived.Test.YtidkkmkihifeoaaChecked
namespace Go.Proofs.Ytidkkmkihifeoaa.fnExactNodeMake
open Go.RowKit Go.ChangeShapes Go.WideShapes Go.ChangeAt Go.Proofs.Ytidkkmkihifeoaa.Hz

set_option maxRecDepth 100000 in
theorem lifted (os : Os) (started : os.Started) (H : Type) (enc : TypeId × Value → H) :
    ReturnsInHanded {} Try.checked os 12 .any (Rows.fnExactNodeMakeSpec.pre6 enc Try.prog Try.f12 Rows.fnExactNodeMakeRow.domain false) (Rows.fnExactNodeMakeSpec.post enc Try.prog Try.f12 false true false false) := by
  refine returnsInHanded_of_change_sized (C := Try.checked) ownKnob_none started (by kernel_rfl) Try.func12
    (ChangeSpec.witness6 (enc := enc) (C := Try.checked) false ⟨#[], #[.agg #[.slice none 0 0, .slice none 0 0], .int .i64 0], []⟩ 8 (by kernel_rfl) (by kernel_rfl) (by kernel_rfl) (by kernel_rfl)) ?_
  intro W base args ds gs before hval0 hW0 _ _ _
  have hval : ∀ (j : Nat) t v, Try.f12.params[j]? = some t → args[j]? = some v → Value.okWide Try.prog W .any base t v := hval0
  have hW : DataW.Whole enc Try.prog Try.f12.params.toList Rows.fnExactNodeMakeSpec.vars false W args.toList ds gs before := hW0
  show Calls Try.prog _ _ _ _
  refine law_calls (Vs := [(VS (fsE false 183) Fs.bd), (V1 intE fun n => (Lit.int .i64 n).wf = true)])
    Try.func12 rfl (by kernel_rfl) laid ?_ (by kernel_rfl) rfl rfl u_bool ?_ ?_ hval hW
  · rw [show Try.f12.params.toList = [71, 3] from rfl]
    exact ⟨opnV_fs, opnV_int, trivial⟩
  · intro H ds hl
    match ds, hl with
    | [d0, d1], _ => rfl
  · intro h avs hv
    exact FnExactNodeMake_v h avs hv
theorem over : Rows.fnExactNodeMakeRow.holds Try.pinned (OpenSpec.ofChange Rows.fnExactNodeMakeSpec) :=
  OpenClaim.holds_of_wide 12 Try.f12 rfl rfl rfl rfl rfl rfl rfl ⟨rfl, rfl, rfl, rfl, rfl⟩ rfl rfl rfl rfl rfl (by kernel_rfl) Try.func12 (by kernel_rfl)
    (of_decide_eq_true (by kernel_rfl)) (by unfold Func.isWrapper; first | (rw [if_pos (by decide +kernel)]; kernel_rfl) | (rw [if_neg (by decide +kernel)]; exact ⟨rfl, rfl⟩))
    (fun os started H enc _ => lifted os started H enc)
end Go.Proofs.Ytidkkmkihifeoaa.fnExactNodeMake
namespace Go.Proofs.Ytidkkmkihifeoaa
/-- The row. -/
theorem fnExactNodeMake_holds : Rows.FnExactNodeMakeSaid := fnExactNodeMake.over
end Go.Proofs.Ytidkkmkihifeoaa
