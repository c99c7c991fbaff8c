/- FnExactEntriesOk holds: for every directory the program's EntriesOk and the reference's give the same answer, and the argument reads as it did; no condition. -/
import Derived.Test.YtmiflnadgckenaaHzEL
import Derived.Test.YtmiflnadgckenaaHzX
import Derived.Test.YtmiflnadgckenaaRows
import Derived.Test.YtmiflnadgckenaaChecked
namespace Go.Proofs.Ytmiflnadgckenaa.fnExactEntriesOk
open Go.RowKit Go.ChangeShapes Go.WideShapes Go.ChangeAt Go.Proofs.Ytmiflnadgckenaa.Hz

set_option maxRecDepth 100000 in
theorem lifted (os : Os) (started : os.Started) (H : Type) (enc : TypeId × Value → H) :
    ReturnsInHanded {} Try.checked os 9 .any (Rows.fnExactEntriesOkSpec.pre6 enc Try.prog Try.f9 Rows.fnExactEntriesOkRow.domain false) (Rows.fnExactEntriesOkSpec.post enc Try.prog Try.f9 false true false false) := by
  refine returnsInHanded_of_change_sized (C := Try.checked) ownKnob_none started (by kernel_rfl) Try.func9
    (ChangeSpec.witness6 (enc := enc) (C := Try.checked) false ⟨#[], #[.slice none 0 0], []⟩ 8 (by kernel_rfl) (by kernel_rfl) (by kernel_rfl) (by kernel_rfl)) ?_
  intro W base args ds gs before hval0 hW0 _ _ _
  have hval : ∀ (j : Nat) t v, Try.f9.params[j]? = some t → args[j]? = some v → Value.okWide Try.prog W .any base t v := hval0
  have hW : DataW.Whole enc Try.prog Try.f9.params.toList Rows.fnExactEntriesOkSpec.vars false W args.toList ds gs before := hW0
  show Calls Try.prog _ _ _ _
  refine law_calls (Vs := [(V1 (slE false 77 entE) fun xs => xs.length ≤ maxLen ∧ ∀ x ∈ xs, x.name.length ≤ maxLen)])
    Try.func9 rfl (by kernel_rfl) laid ?_ (by kernel_rfl) rfl rfl u_bool ?_ ?_ hval hW
  · rw [show Try.f9.params.toList = [24] from rfl]
    exact ⟨opnV_ents, trivial⟩
  · intro H ds hl
    match ds, hl with
    | [d0], _ => rfl
  · intro h avs hv
    match avs, hv with
    | [av], ⟨⟨xs, F, ⟨a, ea, hr⟩, hl, hx⟩, _⟩ =>
      obtain rfl : av = _ := List.cons.inj ea |>.1
      exact FnExactEntriesOk_c xs a F false _ h hr hl hx
theorem over : Rows.fnExactEntriesOkRow.holds Try.pinned (OpenSpec.ofChange Rows.fnExactEntriesOkSpec) :=
  OpenClaim.holds_of_wide 9 Try.f9 rfl rfl rfl rfl rfl rfl rfl ⟨rfl, rfl, rfl, rfl, rfl⟩ rfl rfl rfl rfl rfl (by kernel_rfl) Try.func9 (by kernel_rfl)
    (of_decide_eq_true (by kernel_rfl)) (by unfold Func.isWrapper; first | (rw [if_pos (by decide +kernel)]; kernel_rfl) | (rw [if_neg (by decide +kernel)]; exact ⟨rfl, rfl⟩))
    (fun os started H enc _ => lifted os started H enc)
end Go.Proofs.Ytmiflnadgckenaa.fnExactEntriesOk
namespace Go.Proofs.Ytmiflnadgckenaa
/-- The row. -/
theorem fnExactEntriesOk_holds : Rows.FnExactEntriesOkSaid := fnExactEntriesOk.over
end Go.Proofs.Ytmiflnadgckenaa
