/- FnExactNodeDrop holds: for every image and every node the program's NodeDrop and the reference's give the same image and answer, the argument reads as it did, and no memory is shared; no condition. -/
import Derived.Test.YtidkkmkihifeoaaHzNDr
import Derived.Test.YtidkkmkihifeoaaHzX
import Derived.Test.YtidkkmkihifeoaaRows
import Derived.Test.YtidkkmkihifeoaaChecked
namespace Go.Proofs.Ytidkkmkihifeoaa.fnExactNodeDrop
open Go.RowKit Go.ChangeShapes Go.WideShapes Go.ChangeAt Go.Proofs.Ytidkkmkihifeoaa.Hz

set_option maxRecDepth 100000 in
theorem lifted (os : Os) (started : os.Started) (H : Type) (enc : TypeId × Value → H) :
    ReturnsInHanded {} Try.checked os 13 .any (Rows.fnExactNodeDropSpec.pre6 enc Try.prog Try.f13 Rows.fnExactNodeDropRow.domain false) (Rows.fnExactNodeDropSpec.post enc Try.prog Try.f13 false true false false) := by
  refine returnsInHanded_of_change_sized (C := Try.checked) ownKnob_none started (by kernel_rfl) Try.func13
    (ChangeSpec.witness6 (enc := enc) (C := Try.checked) false ⟨#[], #[.agg #[.slice none 0 0, .slice none 0 0], .int .i64 0], []⟩ 8 (by kernel_rfl) (by kernel_rfl) (by kernel_rfl) (by kernel_rfl)) ?_
  intro W base args ds gs before hval0 hW0 _ _ _
  have hval : ∀ (j : Nat) t v, Try.f13.params[j]? = some t → args[j]? = some v → Value.okWide Try.prog W .any base t v := hval0
  have hW : DataW.Whole enc Try.prog Try.f13.params.toList Rows.fnExactNodeDropSpec.vars false W args.toList ds gs before := hW0
  show Calls Try.prog _ _ _ _
  refine law_calls (Vs := [(VS (fsE false 183) Fs.bd), (V1 intE fun n => (Lit.int .i64 n).wf = true)])
    Try.func13 rfl (by kernel_rfl) laid ?_ (by kernel_rfl) rfl rfl u_bool ?_ ?_ hval hW
  · rw [show Try.f13.params.toList = [71, 3] from rfl]
    exact ⟨opnV_fs, opnV_int, trivial⟩
  · intro H ds hl
    match ds, hl with
    | [d0, d1], _ => rfl
  · intro h avs hv
    exact FnExactNodeDrop_v h avs hv
theorem over : Rows.fnExactNodeDropRow.holds Try.pinned (OpenSpec.ofChange Rows.fnExactNodeDropSpec) :=
  OpenClaim.holds_of_wide 13 Try.f13 rfl rfl rfl rfl rfl rfl rfl ⟨rfl, rfl, rfl, rfl, rfl⟩ rfl rfl rfl rfl rfl (by kernel_rfl) Try.func13 (by kernel_rfl)
    (of_decide_eq_true (by kernel_rfl)) (by unfold Func.isWrapper; first | (rw [if_pos (by decide +kernel)]; kernel_rfl) | (rw [if_neg (by decide +kernel)]; exact ⟨rfl, rfl⟩))
    (fun os started H enc _ => lifted os started H enc)
end Go.Proofs.Ytidkkmkihifeoaa.fnExactNodeDrop
namespace Go.Proofs.Ytidkkmkihifeoaa
/-- The row. -/
theorem fnExactNodeDrop_holds : Rows.FnExactNodeDropSaid := fnExactNodeDrop.over
end Go.Proofs.Ytidkkmkihifeoaa
