/- FnExactPoolSame holds: for every two pools the program's PoolSame and the reference's give the same answer, and the arguments read as they did; no condition. -/
import Derived.Test.YtidkkmkihifeoaaHzCPoolSame
import Derived.Test.YtidkkmkihifeoaaHzX
import Derived.Test.YtidkkmkihifeoaaRows
import Derived.Test.YtidkkmkihifeoaaChecked
namespace Go.Proofs.Ytidkkmkihifeoaa.fnExactPoolSame
open Go.RowKit Go.ChangeShapes Go.WideShapes Go.ChangeAt Go.Proofs.Ytidkkmkihifeoaa.Hz

set_option maxRecDepth 100000 in
theorem lifted (os : Os) (started : os.Started) (H : Type) (enc : TypeId × Value → H) :
    ReturnsInHanded {} Try.checked os 7 .any (Rows.fnExactPoolSameSpec.pre6 enc Try.prog Try.f7 Rows.fnExactPoolSameRow.domain false) (Rows.fnExactPoolSameSpec.post enc Try.prog Try.f7 false true false false) := by
  refine returnsInHanded_of_change_sized (C := Try.checked) ownKnob_none started (by kernel_rfl) Try.func7
    (ChangeSpec.witness6 (enc := enc) (C := Try.checked) false ⟨#[], #[.agg #[.int .i64 0, .int .i64 0, .slice none 0 0, .bool false, .bool false, .int .i64 0, .int .i64 0, .string (S []), .int .i64 0, .int .i64 0], .agg #[.int .i64 0, .int .i64 0, .slice none 0 0, .bool false, .bool false, .int .i64 0, .int .i64 0, .string (S []), .int .i64 0, .int .i64 0]], []⟩ 8 (by kernel_rfl) (by kernel_rfl) (by kernel_rfl) (by kernel_rfl)) ?_
  intro W base args ds gs before hval0 hW0 _ _ _
  have hval : ∀ (j : Nat) t v, Try.f7.params[j]? = some t → args[j]? = some v → Value.okWide Try.prog W .any base t v := hval0
  have hW : DataW.Whole enc Try.prog Try.f7.params.toList Rows.fnExactPoolSameSpec.vars false W args.toList ds gs before := hW0
  show Calls Try.prog _ _ _ _
  refine law_calls (Vs := [(VS (poolE false 174 183) Pool.bd), (VS (poolE false 174 183) Pool.bd)])
    Try.func7 rfl (by kernel_rfl) laid ?_ (by kernel_rfl) rfl rfl u_bool ?_ ?_ hval hW
  · rw [show Try.f7.params.toList = [50, 50] from rfl]
    exact ⟨opnV_pool, opnV_pool, trivial⟩
  · intro H ds hl
    match ds, hl with
    | [d0, d1], _ => rfl
  · intro h avs hv
    exact FnExactPoolSame_v h avs hv
theorem over : Rows.fnExactPoolSameRow.holds Try.pinned (OpenSpec.ofChange Rows.fnExactPoolSameSpec) :=
  OpenClaim.holds_of_wide 7 Try.f7 rfl rfl rfl rfl rfl rfl rfl ⟨rfl, rfl, rfl, rfl, rfl⟩ rfl rfl rfl rfl rfl (by kernel_rfl) Try.func7 (by kernel_rfl)
    (of_decide_eq_true (by kernel_rfl)) (by unfold Func.isWrapper; first | (rw [if_pos (by decide +kernel)]; kernel_rfl) | (rw [if_neg (by decide +kernel)]; exact ⟨rfl, rfl⟩))
    (fun os started H enc _ => lifted os started H enc)
end Go.Proofs.Ytidkkmkihifeoaa.fnExactPoolSame
namespace Go.Proofs.Ytidkkmkihifeoaa
/-- The row. -/
theorem fnExactPoolSame_holds : Rows.FnExactPoolSameSaid := fnExactPoolSame.over
end Go.Proofs.Ytidkkmkihifeoaa
