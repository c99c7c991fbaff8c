/- FnExactDirDrop holds: for every directory and every name the program's DirDrop and the reference's give the same directory and answer, the arguments read as they did, and no memory is shared; no condition. -/
import Derived.Test.YtidkkmkihifeoaaHzDD
import Derived.Test.YtidkkmkihifeoaaHzX
import Derived.Test.YtidkkmkihifeoaaRows
import Derived.Test.YtidkkmkihifeoaaChecked
namespace Go.Proofs.Ytidkkmkihifeoaa.fnExactDirDrop
open Go.RowKit Go.ChangeShapes Go.WideShapes Go.ChangeAt Go.Proofs.Ytidkkmkihifeoaa.Hz
set_option linter.unusedVariables false
set_option linter.unusedSimpArgs false

set_option maxRecDepth 100000 in
theorem lifted (os : Os) (started : os.Started) (H : Type) (enc : TypeId × Value → H) :
    ReturnsInHanded {} Try.checked os 3 .any (Rows.fnExactDirDropSpec.pre6 enc Try.prog Try.f3 Rows.fnExactDirDropRow.domain false) (Rows.fnExactDirDropSpec.post enc Try.prog Try.f3 false true false false) := by
  refine returnsInHanded_of_change_sized (C := Try.checked) ownKnob_none started (by kernel_rfl) Try.func3
    (ChangeSpec.witness6 (enc := enc) (C := Try.checked) false ⟨#[], #[.slice none 0 0, .string ⟨#[]⟩], []⟩ 8 (by kernel_rfl) (by kernel_rfl) (by kernel_rfl) (by kernel_rfl)) ?_
  intro W base args ds gs before hval0 hW0 _ _ _
  have hval : ∀ (j : Nat) t v, Try.f3.params[j]? = some t → args[j]? = some v → Value.okWide Try.prog W .any base t v := hval0
  have hW : DataW.Whole enc Try.prog Try.f3.params.toList Rows.fnExactDirDropSpec.vars false W args.toList ds gs before := hW0
  show Calls Try.prog _ _ _ _
  refine law_calls (Vs := [(V1 (slE false 96 entE) fun xs => xs.length ≤ maxLen ∧ ∀ x ∈ xs, x.name.length ≤ maxLen), (V1 strE fun s => s.length ≤ maxLen)])
    Try.func3 rfl (by kernel_rfl) laid ?_ (by kernel_rfl) rfl rfl u_bool ?_ ?_ hval hW
  · rw [show Try.f3.params.toList = [22, 9] from rfl]
    exact ⟨opnV_ents, opnV_str, trivial⟩
  · intro H ds hl
    match ds, hl with
    | [d0, d1], _ => rfl
  · intro h avs hv
    match avs, hv with
    | [av, bv], ⟨⟨xs, F, ⟨a, ea, hr⟩, hl, hx⟩, ⟨nm, F', ⟨eb, _⟩, hn⟩, _⟩ =>
      obtain rfl : av = _ := List.cons.inj ea |>.1
      obtain rfl : bv = _ := List.cons.inj eb |>.1
      exact FnExactDirDrop_c xs nm a F false _ h hr hl hn hx
theorem over : Rows.fnExactDirDropRow.holds Try.pinned (OpenSpec.ofChange Rows.fnExactDirDropSpec) :=
  OpenClaim.holds_of_wide 3 Try.f3 rfl rfl rfl rfl rfl rfl rfl ⟨rfl, rfl, rfl, rfl, rfl⟩ rfl rfl rfl rfl rfl (by kernel_rfl) Try.func3 (by kernel_rfl)
    (of_decide_eq_true (by kernel_rfl)) (by unfold Func.isWrapper; first | (rw [if_pos (by decide +kernel)]; kernel_rfl) | (rw [if_neg (by decide +kernel)]; exact ⟨rfl, rfl⟩))
    (fun os started H enc _ => lifted os started H enc)
end Go.Proofs.Ytidkkmkihifeoaa.fnExactDirDrop
namespace Go.Proofs.Ytidkkmkihifeoaa
/-- The row. -/
theorem fnExactDirDrop_holds : Rows.FnExactDirDropSaid := fnExactDirDrop.over
end Go.Proofs.Ytidkkmkihifeoaa
