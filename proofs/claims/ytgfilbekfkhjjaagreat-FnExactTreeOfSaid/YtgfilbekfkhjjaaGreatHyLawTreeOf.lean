/- FnExactTreeOf holds: for every image the program's TreeOf and the reference's give the same tree, the argument reads as it did, and no memory is shared; no condition. -/
import Derived.Test.YtgfilbekfkhjjaaGreatHyFTo
import Derived.Test.YtgfilbekfkhjjaaGreatHyGC
import Derived.Test.YtgfilbekfkhjjaaGreatRows
import Derived.Test.YtgfilbekfkhjjaaGreatChecked
namespace Go.Proofs.YtgfilbekfkhjjaaGreat.fnExactTreeOf
open Go.RowKit Go.ChangeShapes Go.WideShapes Go.ChangeAt Go.Proofs.YtgfilbekfkhjjaaGreat.Hz

set_option maxRecDepth 100000 in
theorem lifted (os : Os) (started : os.Started) (H : Type) (enc : TypeId × Value → H) :
    ReturnsInHanded {} Tryz.checked os 3 .any (Rows.fnExactTreeOfSpec.pre6 enc Tryz.prog Tryz.f3 Rows.fnExactTreeOfRow.domain false) (Rows.fnExactTreeOfSpec.post enc Tryz.prog Tryz.f3 false true false false) := by
  refine returnsInHanded_of_change_sized (C := Tryz.checked) ownKnob_none started (by kernel_rfl) Tryz.func3
    (ChangeSpec.witness6 (enc := enc) (C := Tryz.checked) false ⟨#[], #[.agg #[.slice none 0 0, .slice none 0 0]], []⟩ 8 (by kernel_rfl) (by kernel_rfl) (by kernel_rfl) (by kernel_rfl)) ?_
  intro W base args ds gs before hval0 hW0 _ _ _
  have hval : ∀ (j : Nat) t v, Tryz.f3.params[j]? = some t → args[j]? = some v → Value.okWide Tryz.prog W .any base t v := hval0
  have hW : DataW.Whole enc Tryz.prog Tryz.f3.params.toList Rows.fnExactTreeOfSpec.vars false W args.toList ds gs before := hW0
  show Calls Tryz.prog _ _ _ _
  refine law_calls (Vs := [(VS (fsE false 98) Fs.bd)])
    Tryz.func3 rfl (by kernel_rfl) laid ?_ (by kernel_rfl) rfl rfl u_bool ?_ ?_ hval hW
  · rw [show Tryz.f3.params.toList = [25] from rfl]
    exact ⟨opnV_fs, trivial⟩
  · intro H ds hl
    match ds, hl with
    | [d0], _ => rfl
  · intro h avs hv
    exact FnExactTreeOf_v h avs hv
theorem over : Rows.fnExactTreeOfRow.holds Tryz.pinned (OpenSpec.ofChange Rows.fnExactTreeOfSpec) :=
  OpenClaim.holds_of_wide 3 Tryz.f3 rfl rfl rfl rfl rfl rfl rfl ⟨rfl, rfl, rfl, rfl, rfl⟩ rfl rfl rfl rfl rfl (by kernel_rfl) Tryz.func3 (by kernel_rfl)
    (of_decide_eq_true (by kernel_rfl)) (by unfold Func.isWrapper; first | (rw [if_pos (by decide +kernel)]; kernel_rfl) | (rw [if_neg (by decide +kernel)]; exact ⟨rfl, rfl⟩))
    (fun os started H enc _ => lifted os started H enc)
end Go.Proofs.YtgfilbekfkhjjaaGreat.fnExactTreeOf
namespace Go.Proofs.YtgfilbekfkhjjaaGreat
/-- The row. -/
theorem fnExactTreeOf_holds : Rows.FnExactTreeOfSaid := fnExactTreeOf.over
end Go.Proofs.YtgfilbekfkhjjaaGreat
