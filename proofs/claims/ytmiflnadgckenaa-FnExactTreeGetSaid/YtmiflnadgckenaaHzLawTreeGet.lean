/- FnExactTreeGet holds: for every tree and every path the program's TreeGet and the reference's give the same item, and the arguments read as they did; no condition. -/
import Derived.Test.YtmiflnadgckenaaHzTG
import Derived.Test.YtmiflnadgckenaaHzX
import Derived.Test.YtmiflnadgckenaaRows
import Derived.Test.YtmiflnadgckenaaChecked
namespace Go.Proofs.Ytmiflnadgckenaa.fnExactTreeGet
open Go.RowKit Go.ChangeShapes Go.WideShapes Go.ChangeAt Go.Proofs.Ytmiflnadgckenaa.Hz

set_option maxRecDepth 100000 in
theorem lifted (os : Os) (started : os.Started) (H : Type) (enc : TypeId × Value → H) :
    ReturnsInHanded {} Try.checked os 7 .any (Rows.fnExactTreeGetSpec.pre6 enc Try.prog Try.f7 Rows.fnExactTreeGetRow.domain false) (Rows.fnExactTreeGetSpec.post enc Try.prog Try.f7 false true false false) := by
  refine returnsInHanded_of_change_sized (C := Try.checked) ownKnob_none started (by kernel_rfl) Try.func7
    (ChangeSpec.witness6 (enc := enc) (C := Try.checked) false ⟨#[], #[.agg #[.slice none 0 0], .string ⟨#[]⟩], []⟩ 8 (by kernel_rfl) (by kernel_rfl) (by kernel_rfl) (by kernel_rfl)) ?_
  intro W base args ds gs before hval0 hW0 _ _ _
  have hval : ∀ (j : Nat) t v, Try.f7.params[j]? = some t → args[j]? = some v → Value.okWide Try.prog W .any base t v := hval0
  have hW : DataW.Whole enc Try.prog Try.f7.params.toList Rows.fnExactTreeGetSpec.vars false W args.toList ds gs before := hW0
  show Calls Try.prog _ _ _ _
  refine law_calls (Vs := [(VS (slE false 116 itemE) fun xs => xs.length ≤ maxLen ∧ ∀ x ∈ xs, x.path.length ≤ maxLen ∧ x.data.length ≤ maxLen), (V1 strE fun s => s.length ≤ maxLen)])
    Try.func7 rfl (by kernel_rfl) laid ?_ (by kernel_rfl) rfl rfl u_bool ?_ ?_ hval hW
  · rw [show Try.f7.params.toList = [35, 9] from rfl]
    exact ⟨opnV_tree, opnV_str, trivial⟩
  · intro H ds hl
    match ds, hl with
    | [d0, d1], _ => rfl
  · intro h avs hv
    match avs, hv with
    | [av, bv], ⟨⟨xs, cs, F, e1, ⟨a, ea, hr⟩, hl, hx⟩, ⟨nm, F', ⟨eb, _⟩, hn⟩, _⟩ =>
      subst ea
      subst e1
      obtain rfl : bv = _ := List.cons.inj eb |>.1
      exact FnExactTreeGet_c xs nm a F false _ h hr hl hn hx
theorem over : Rows.fnExactTreeGetRow.holds Try.pinned (OpenSpec.ofChange Rows.fnExactTreeGetSpec) :=
  OpenClaim.holds_of_wide 7 Try.f7 rfl rfl rfl rfl rfl rfl rfl ⟨rfl, rfl, rfl, rfl, rfl⟩ rfl rfl rfl rfl rfl (by kernel_rfl) Try.func7 (by kernel_rfl)
    (of_decide_eq_true (by kernel_rfl)) (by unfold Func.isWrapper; first | (rw [if_pos (by decide +kernel)]; kernel_rfl) | (rw [if_neg (by decide +kernel)]; exact ⟨rfl, rfl⟩))
    (fun os started H enc _ => lifted os started H enc)
end Go.Proofs.Ytmiflnadgckenaa.fnExactTreeGet
namespace Go.Proofs.Ytmiflnadgckenaa
/-- The row. -/
theorem fnExactTreeGet_holds : Rows.FnExactTreeGetSaid := fnExactTreeGet.over
end Go.Proofs.Ytmiflnadgckenaa
