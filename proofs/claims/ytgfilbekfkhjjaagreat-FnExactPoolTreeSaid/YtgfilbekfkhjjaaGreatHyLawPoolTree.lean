/- FnExactPoolTree holds: for every pool the program's PoolTree and the reference's give the same tree, the argument reads as it did, and no memory is shared; no condition. -/
import Derived.Test.YtgfilbekfkhjjaaGreatHyFPt
import Derived.Test.YtgfilbekfkhjjaaGreatHyGC
import Derived.Test.YtgfilbekfkhjjaaGreatRows
import Derived.Test.YtgfilbekfkhjjaaGreatChecked
namespace Go.Proofs.YtgfilbekfkhjjaaGreat.fnExactPoolTree
open Go.RowKit Go.ChangeShapes Go.WideShapes Go.ChangeAt Go.Proofs.YtgfilbekfkhjjaaGreat.Hz

set_option maxRecDepth 100000 in
theorem lifted (os : Os) (started : os.Started) (H : Type) (enc : TypeId × Value → H) :
    ReturnsInHanded {} Tryz.checked os 8 .any (Rows.fnExactPoolTreeSpec.pre6 enc Tryz.prog Tryz.f8 Rows.fnExactPoolTreeRow.domain false) (Rows.fnExactPoolTreeSpec.post enc Tryz.prog Tryz.f8 false true false false) := by
  refine returnsInHanded_of_change_sized (C := Tryz.checked) ownKnob_none started (by kernel_rfl) Tryz.func8
    (ChangeSpec.witness6 (enc := enc) (C := Tryz.checked) false ⟨#[], #[.agg #[.int .i64 0, .int .i64 0, .slice none 0 0, .bool false, .bool false, .int .i64 0, .int .i64 0, .string (S []), .int .i64 0, .int .i64 0]], []⟩ 8 (by kernel_rfl) (by kernel_rfl) (by kernel_rfl) (by kernel_rfl)) ?_
  intro W base args ds gs before hval0 hW0 _ _ _
  have hval : ∀ (j : Nat) t v, Tryz.f8.params[j]? = some t → args[j]? = some v → Value.okWide Tryz.prog W .any base t v := hval0
  have hW : DataW.Whole enc Tryz.prog Tryz.f8.params.toList Rows.fnExactPoolTreeSpec.vars false W args.toList ds gs before := hW0
  show Calls Tryz.prog _ _ _ _
  refine law_calls (Vs := [(VS (poolE false 122 98) Pool.bd)])
    Tryz.func8 rfl (by kernel_rfl) laid ?_ (by kernel_rfl) rfl rfl u_bool ?_ ?_ hval hW
  · rw [show Tryz.f8.params.toList = [44] from rfl]
    exact ⟨opnV_pool, trivial⟩
  · intro H ds hl
    match ds, hl with
    | [d0], _ => rfl
  · intro h avs hv
    exact FnExactPoolTree_v h avs hv
theorem over : Rows.fnExactPoolTreeRow.holds Tryz.pinned (OpenSpec.ofChange Rows.fnExactPoolTreeSpec) :=
  OpenClaim.holds_of_wide 8 Tryz.f8 rfl rfl rfl rfl rfl rfl rfl ⟨rfl, rfl, rfl, rfl, rfl⟩ rfl rfl rfl rfl rfl (by kernel_rfl) Tryz.func8 (by kernel_rfl)
    (of_decide_eq_true (by kernel_rfl)) (by unfold Func.isWrapper; first | (rw [if_pos (by decide +kernel)]; kernel_rfl) | (rw [if_neg (by decide +kernel)]; exact ⟨rfl, rfl⟩))
    (fun os started H enc _ => lifted os started H enc)
end Go.Proofs.YtgfilbekfkhjjaaGreat.fnExactPoolTree
namespace Go.Proofs.YtgfilbekfkhjjaaGreat
/-- The row. -/
theorem fnExactPoolTree_holds : Rows.FnExactPoolTreeSaid := fnExactPoolTree.over
end Go.Proofs.YtgfilbekfkhjjaaGreat
