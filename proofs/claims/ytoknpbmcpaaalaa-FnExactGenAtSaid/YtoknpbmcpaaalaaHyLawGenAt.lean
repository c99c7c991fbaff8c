/- FnExactGenAt holds: for every file system and path the program's GenAt and the reference's give the same number, and the arguments read as they did; no condition. -/
import Derived.Test.YtoknpbmcpaaalaaHyCGenAt
import Derived.Test.YtoknpbmcpaaalaaHyGC
import Derived.Test.YtoknpbmcpaaalaaRows
import Derived.Test.YtoknpbmcpaaalaaChecked
namespace Go.Proofs.Ytoknpbmcpaaalaa.fnExactGenAt
open Go.RowKit Go.ChangeShapes Go.WideShapes Go.ChangeAt Go.Proofs.Ytoknpbmcpaaalaa.Hz

set_option maxRecDepth 100000 in
theorem lifted (os : Os) (started : os.Started) (H : Type) (enc : TypeId × Value → H) :
    ReturnsInHanded {} Try.checked os 11 .any (Rows.fnExactGenAtSpec.pre6 enc Try.prog Try.f11 Rows.fnExactGenAtRow.domain false) (Rows.fnExactGenAtSpec.post enc Try.prog Try.f11 false true false false) := by
  refine returnsInHanded_of_change_sized (C := Try.checked) ownKnob_none started (by kernel_rfl) Try.func11
    (ChangeSpec.witness6 (enc := enc) (C := Try.checked) false ⟨#[], #[.agg #[.slice none 0 0, .slice none 0 0], .string ⟨#[]⟩], []⟩ 8 (by kernel_rfl) (by kernel_rfl) (by kernel_rfl) (by kernel_rfl)) ?_
  intro W base args ds gs before hval0 hW0 _ _ _
  have hval : ∀ (j : Nat) t v, Try.f11.params[j]? = some t → args[j]? = some v → Value.okWide Try.prog W .any base t v := hval0
  have hW : DataW.Whole enc Try.prog Try.f11.params.toList Rows.fnExactGenAtSpec.vars false W args.toList ds gs before := hW0
  show Calls Try.prog _ _ _ _
  refine law_calls (Vs := [(VS (fsE false 146) Fs.bd), (V1 strE fun s => s.length ≤ maxLen)])
    Try.func11 rfl (by kernel_rfl) laid ?_ (by kernel_rfl) rfl rfl u_bool ?_ ?_ hval hW
  · rw [show Try.f11.params.toList = [50, 9] from rfl]
    exact ⟨opnV_fs, opnV_str, trivial⟩
  · intro H ds hl
    match ds, hl with
    | [d0, d1], _ => rfl
  · intro h avs hv
    exact FnExactGenAt_v h avs hv
theorem over : Rows.fnExactGenAtRow.holds Try.pinned (OpenSpec.ofChange Rows.fnExactGenAtSpec) :=
  OpenClaim.holds_of_wide 11 Try.f11 rfl rfl rfl rfl rfl rfl rfl ⟨rfl, rfl, rfl, rfl, rfl⟩ rfl rfl rfl rfl rfl (by kernel_rfl) Try.func11 (by kernel_rfl)
    (of_decide_eq_true (by kernel_rfl)) (by unfold Func.isWrapper; first | (rw [if_pos (by decide +kernel)]; kernel_rfl) | (rw [if_neg (by decide +kernel)]; exact ⟨rfl, rfl⟩))
    (fun os started H enc _ => lifted os started H enc)
end Go.Proofs.Ytoknpbmcpaaalaa.fnExactGenAt
namespace Go.Proofs.Ytoknpbmcpaaalaa
/-- The row. -/
theorem fnExactGenAt_holds : Rows.FnExactGenAtSaid := fnExactGenAt.over
end Go.Proofs.Ytoknpbmcpaaalaa
