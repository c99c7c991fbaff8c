/- FnPoolTree holds: whatever the code: a valid pool has a valid tree whose items are those of their winners, and a pool of one branch has its tree; no condition. -/
import Derived.Test.YtmpgpkdijfcfhaaGreatHyLV
import Derived.Test.YtmpgpkdijfcfhaaGreatHyOC
import Derived.Test.YtmpgpkdijfcfhaaGreatHyGC
import Derived.Test.YtmpgpkdijfcfhaaGreatRows
import Derived.Test.YtmpgpkdijfcfhaaGreatChecked
namespace Go.Proofs.YtmpgpkdijfcfhaaGreat.fnPoolTree
open Go.RowKit Go.ChangeShapes Go.WideShapes Go.ChangeAt Go.Proofs.YtmpgpkdijfcfhaaGreat.Hz
set_option maxRecDepth 100000 in
theorem lifted (os:Os) (started:os.Started) (H:Type) (enc:TypeId × Value→H) :
    ReturnsInHanded {} Tryz.checked os 3 .any (Rows.fnPoolTreeSpec.pre6 enc Tryz.prog Tryz.f3 Rows.fnPoolTreeRow.domain false) (Rows.fnPoolTreeSpec.post enc Tryz.prog Tryz.f3 false true false false):=by
  refine returnsInHanded_of_change_sized (C:=Tryz.checked) ownKnob_none started (by kernel_rfl) Tryz.func3
    (ChangeSpec.witness6 (enc:=enc) (C:=Tryz.checked) false ⟨#[],#[.slice none 0 0],[]⟩ 8 (by kernel_rfl) (by kernel_rfl) (by kernel_rfl) (by kernel_rfl)) ?_
  intro W base args ds gs before hval0 hW0 _ _ _
  have hval:∀ (j:Nat) t v,Tryz.f3.params[j]?=some t→args[j]?=some v→Value.okWide Tryz.prog W .any base t v:=hval0
  have hW:DataW.Whole enc Tryz.prog Tryz.f3.params.toList Rows.fnPoolTreeSpec.vars false W args.toList ds gs before:=hW0
  show Calls Tryz.prog _ _ _ _
  refine law_calls (Vs:=[(V1 (slE false 5 byteE) fun xs=>xs.length≤maxLen∧∀ x∈xs,True)])
    Tryz.func3 rfl (by kernel_rfl) laid ?_ (by kernel_rfl) rfl rfl u_bool ?_ ?_ hval hW
  · rw [show Tryz.f3.params.toList=[22] from rfl]
    exact ⟨opnV_code,trivial⟩
  · intro H ds hl
    match ds,hl with
    | [d0],_=>rfl
  · intro h avs hv
    exact FnPoolTree_v h avs hv
theorem over:Rows.fnPoolTreeRow.holds Tryz.pinned (OpenSpec.ofChange Rows.fnPoolTreeSpec) :=
  OpenClaim.holds_of_wide 3 Tryz.f3 rfl rfl rfl rfl rfl rfl rfl ⟨rfl,rfl,rfl,rfl,rfl⟩ rfl rfl rfl rfl rfl (by kernel_rfl) Tryz.func3 (by kernel_rfl)
    (of_decide_eq_true (by kernel_rfl)) (by unfold Func.isWrapper; first | (rw [if_pos (by decide +kernel)]; kernel_rfl) | (rw [if_neg (by decide +kernel)]; exact ⟨rfl,rfl⟩))
    (fun os started H enc _=>lifted os started H enc)
end Go.Proofs.YtmpgpkdijfcfhaaGreat.fnPoolTree
namespace Go.Proofs.YtmpgpkdijfcfhaaGreat
theorem fnPoolTree_holds:Rows.FnPoolTreeSaid:=fnPoolTree.over
end Go.Proofs.YtmpgpkdijfcfhaaGreat
