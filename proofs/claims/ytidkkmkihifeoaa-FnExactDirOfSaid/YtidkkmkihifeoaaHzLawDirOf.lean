/- FnExactDirOf holds: for every text the program's DirOf and the reference's give the same directory and answer, the argument reads as it did, and no memory is shared; no condition. -/
import Derived.Test.YtidkkmkihifeoaaHzDO
import Derived.Test.YtidkkmkihifeoaaHzX
import Derived.Test.YtidkkmkihifeoaaRows
import Derived.Test.YtidkkmkihifeoaaChecked
namespace Go.Proofs.Ytidkkmkihifeoaa.fnExactDirOf
open Go.RowKit Go.ChangeShapes Go.WideShapes Go.ChangeAt Go.Proofs.Ytidkkmkihifeoaa.Hz
set_option linter.unusedVariables false
set_option linter.unusedSimpArgs false

set_option maxRecDepth 100000 in
theorem lifted (os : Os) (started : os.Started) (H : Type) (enc : TypeId × Value → H) :
    ReturnsInHanded {} Try.checked os 4 .any (Rows.fnExactDirOfSpec.pre6 enc Try.prog Try.f4 Rows.fnExactDirOfRow.domain false) (Rows.fnExactDirOfSpec.post enc Try.prog Try.f4 false true false false) := by
  refine returnsInHanded_of_change_sized (C := Try.checked) ownKnob_none started (by kernel_rfl) Try.func4
    (ChangeSpec.witness6 (enc := enc) (C := Try.checked) false ⟨#[], #[.string ⟨#[]⟩], []⟩ 8 (by kernel_rfl) (by kernel_rfl) (by kernel_rfl) (by kernel_rfl)) ?_
  intro W base args ds gs before hval0 hW0 _ _ _
  have hval : ∀ (j : Nat) t v, Try.f4.params[j]? = some t → args[j]? = some v → Value.okWide Try.prog W .any base t v := hval0
  have hW : DataW.Whole enc Try.prog Try.f4.params.toList Rows.fnExactDirOfSpec.vars false W args.toList ds gs before := hW0
  show Calls Try.prog _ _ _ _
  refine law_calls (Vs := [(V1 strE fun s => s.length ≤ maxLen)])
    Try.func4 rfl (by kernel_rfl) laid ?_ (by kernel_rfl) rfl rfl u_bool ?_ ?_ hval hW
  · rw [show Try.f4.params.toList = [9] from rfl]
    exact ⟨opnV_str, trivial⟩
  · intro H ds hl
    match ds, hl with
    | [d0], _ => rfl
  · intro h avs hv
    match avs, hv with
    | [bv], ⟨⟨nm, F', ⟨eb, _⟩, hn⟩, _⟩ =>
      obtain rfl : bv = _ := List.cons.inj eb |>.1
      exact FnExactDirOf_c nm h hn
theorem over : Rows.fnExactDirOfRow.holds Try.pinned (OpenSpec.ofChange Rows.fnExactDirOfSpec) :=
  OpenClaim.holds_of_wide 4 Try.f4 rfl rfl rfl rfl rfl rfl rfl ⟨rfl, rfl, rfl, rfl, rfl⟩ rfl rfl rfl rfl rfl (by kernel_rfl) Try.func4 (by kernel_rfl)
    (of_decide_eq_true (by kernel_rfl)) (by unfold Func.isWrapper; first | (rw [if_pos (by decide +kernel)]; kernel_rfl) | (rw [if_neg (by decide +kernel)]; exact ⟨rfl, rfl⟩))
    (fun os started H enc _ => lifted os started H enc)
end Go.Proofs.Ytidkkmkihifeoaa.fnExactDirOf
namespace Go.Proofs.Ytidkkmkihifeoaa
/-- The row. -/
theorem fnExactDirOf_holds : Rows.FnExactDirOfSaid := fnExactDirOf.over
end Go.Proofs.Ytidkkmkihifeoaa
