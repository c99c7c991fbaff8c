/- FnExactTreeNames holds: for every tree and every path the program's TreeNames and the reference's give the same names, the arguments read as they did, and no memory is shared; no condition. -/
import Derived.Test.YtoknpbmcpaaalaaHyCTreeNames
import Derived.Test.YtoknpbmcpaaalaaHyGC
import Derived.Test.YtoknpbmcpaaalaaRows
import Derived.Test.YtoknpbmcpaaalaaChecked
namespace Go.Proofs.Ytoknpbmcpaaalaa.fnExactTreeNames
open Go.RowKit Go.ChangeShapes Go.WideShapes Go.ChangeAt Go.Proofs.Ytoknpbmcpaaalaa.Hz

set_option maxRecDepth 100000 in
theorem lifted (os : Os) (started : os.Started) (H : Type) (enc : TypeId × Value → H) :
    ReturnsInHanded {} Try.checked os 4 .any (Rows.fnExactTreeNamesSpec.pre6 enc Try.prog Try.f4 Rows.fnExactTreeNamesRow.domain false) (Rows.fnExactTreeNamesSpec.post enc Try.prog Try.f4 false true false false) := by
  refine returnsInHanded_of_change_sized (C := Try.checked) ownKnob_none started (by kernel_rfl) Try.func4
    (ChangeSpec.witness6 (enc := enc) (C := Try.checked) false ⟨#[], #[.agg #[.slice none 0 0], .string ⟨#[]⟩], []⟩ 8 (by kernel_rfl) (by kernel_rfl) (by kernel_rfl) (by kernel_rfl)) ?_
  intro W base args ds gs before hval0 hW0 _ _ _
  have hval : ∀ (j : Nat) t v, Try.f4.params[j]? = some t → args[j]? = some v → Value.okWide Try.prog W .any base t v := hval0
  have hW : DataW.Whole enc Try.prog Try.f4.params.toList Rows.fnExactTreeNamesSpec.vars false W args.toList ds gs before := hW0
  show Calls Try.prog _ _ _ _
  refine law_calls (Vs := [(VS (slE false 135 itemE) fun xs => xs.length ≤ maxLen ∧ ∀ x ∈ xs, x.path.length ≤ maxLen ∧ x.data.length ≤ maxLen), (V1 strE fun s => s.length ≤ maxLen)])
    Try.func4 rfl (by kernel_rfl) laid ?_ (by kernel_rfl) rfl rfl u_bool ?_ ?_ hval hW
  · rw [show Try.f4.params.toList = [24, 9] from rfl]
    exact ⟨opnV_tree, opnV_str, trivial⟩
  · intro H ds hl
    match ds, hl with
    | [d0, d1], _ => rfl
  · intro h avs hv
    match avs, hv with
    | [av, bv], ⟨⟨xs, cs, F, e1, ⟨a, ea, hr⟩, hl, hx⟩, ⟨nm, F', ⟨eb, _⟩, hn⟩, _⟩ =>
      subst ea
      subst e1
      obtain rfl : bv = _ := List.cons.inj eb |>.1
      exact FnExactTreeNames_c xs nm a F false _ h hr hl hn hx
theorem over : Rows.fnExactTreeNamesRow.holds Try.pinned (OpenSpec.ofChange Rows.fnExactTreeNamesSpec) :=
  OpenClaim.holds_of_wide 4 Try.f4 rfl rfl rfl rfl rfl rfl rfl ⟨rfl, rfl, rfl, rfl, rfl⟩ rfl rfl rfl rfl rfl (by kernel_rfl) Try.func4 (by kernel_rfl)
    (of_decide_eq_true (by kernel_rfl)) (by unfold Func.isWrapper; first | (rw [if_pos (by decide +kernel)]; kernel_rfl) | (rw [if_neg (by decide +kernel)]; exact ⟨rfl, rfl⟩))
    (fun os started H enc _ => lifted os started H enc)
end Go.Proofs.Ytoknpbmcpaaalaa.fnExactTreeNames
namespace Go.Proofs.Ytoknpbmcpaaalaa
/-- The row. -/
theorem fnExactTreeNames_holds : Rows.FnExactTreeNamesSaid := fnExactTreeNames.over
end Go.Proofs.Ytoknpbmcpaaalaa
