/- FnExactFsOf holds: for every list of texts the program's FsOf and the reference's give the same image and answer, the argument reads as it did, and no memory is shared; no condition. -/
import Derived.Test.YtmpgpkdijfcfhaaHyFFo
import Derived.Test.YtmpgpkdijfcfhaaHyGC
import Derived.Test.YtmpgpkdijfcfhaaRows
import Derived.Test.YtmpgpkdijfcfhaaChecked
namespace Go.Proofs.Ytmpgpkdijfcfhaa.fnExactFsOf
open Go.RowKit Go.ChangeShapes Go.WideShapes Go.ChangeAt Go.Proofs.Ytmpgpkdijfcfhaa.Hz
set_option maxRecDepth 100000 in
theorem lifted (os:Os) (started:os.Started) (H:Type) (enc:TypeId × Value→H) :
    ReturnsInHanded {} Try.checked os 3 .any (Rows.fnExactFsOfSpec.pre6 enc Try.prog Try.f3 Rows.fnExactFsOfRow.domain false) (Rows.fnExactFsOfSpec.post enc Try.prog Try.f3 false true false false):=by
  refine returnsInHanded_of_change_sized (C:=Try.checked) ownKnob_none started (by kernel_rfl) Try.func3
    (ChangeSpec.witness6 (enc:=enc) (C:=Try.checked) false ⟨#[],#[.slice none 0 0],[]⟩ 8 (by kernel_rfl) (by kernel_rfl) (by kernel_rfl) (by kernel_rfl)) ?_
  intro W base args ds gs before hval0 hW0 _ _ _
  have hval:∀ (j:Nat) t v,Try.f3.params[j]?=some t→args[j]?=some v→Value.okWide Try.prog W .any base t v:=hval0
  have hW:DataW.Whole enc Try.prog Try.f3.params.toList Rows.fnExactFsOfSpec.vars false W args.toList ds gs before:=hW0
  show Calls Try.prog _ _ _ _
  refine law_calls (Vs:=[(V1 (slE false 9 strE) fun xs=>xs.length≤maxLen∧∀ x∈xs,x.length≤maxLen)])
    Try.func3 rfl (by kernel_rfl) laid ?_ (by kernel_rfl) rfl rfl u_bool ?_ ?_ hval hW
  · rw [show Try.f3.params.toList=[22] from rfl]
    exact ⟨opnV_strs,trivial⟩
  · intro H ds hl
    match ds,hl with
    | [d0],_=>rfl
  · intro h avs hv
    exact FnExactFsOf_v h avs hv
theorem over:Rows.fnExactFsOfRow.holds Try.pinned (OpenSpec.ofChange Rows.fnExactFsOfSpec) :=
  OpenClaim.holds_of_wide 3 Try.f3 rfl rfl rfl rfl rfl rfl rfl ⟨rfl,rfl,rfl,rfl,rfl⟩ rfl rfl rfl rfl rfl (by kernel_rfl) Try.func3 (by kernel_rfl)
    (of_decide_eq_true (by kernel_rfl)) (by unfold Func.isWrapper; first | (rw [if_pos (by decide +kernel)]; kernel_rfl) | (rw [if_neg (by decide +kernel)]; exact ⟨rfl,rfl⟩))
    (fun os started H enc _=>lifted os started H enc)
end Go.Proofs.Ytmpgpkdijfcfhaa.fnExactFsOf
namespace Go.Proofs.Ytmpgpkdijfcfhaa
theorem fnExactFsOf_holds:Rows.FnExactFsOfSaid:=fnExactFsOf.over
end Go.Proofs.Ytmpgpkdijfcfhaa
