/- FnImages holds: whatever images and texts the reference draws, an image's blocks are read back as the image where it is well shaped, a change turns the one's blocks into the other's, and texts are read as an image by both or by neither, with as many homes as texts; no condition. -/
import Derived.Test.YtmpgpkdijfcfhaaHyIX
import Derived.Test.YtmpgpkdijfcfhaaHyOC
import Derived.Test.YtmpgpkdijfcfhaaHyGC
import Derived.Test.YtmpgpkdijfcfhaaRows
import Derived.Test.YtmpgpkdijfcfhaaChecked
namespace Go.Proofs.Ytmpgpkdijfcfhaa.fnImages
open Go.RowKit Go.ChangeShapes Go.WideShapes Go.ChangeAt Go.Proofs.Ytmpgpkdijfcfhaa.Hz
set_option maxRecDepth 100000 in
theorem lifted (os:Os) (started:os.Started) (H:Type) (enc:TypeId × Value→H) :
    ReturnsInHanded {} Try.checked os 4 .any (Rows.fnImagesSpec.pre6 enc Try.prog Try.f4 Rows.fnImagesRow.domain false) (Rows.fnImagesSpec.post enc Try.prog Try.f4 false true false false):=by
  refine returnsInHanded_of_change_sized (C:=Try.checked) ownKnob_none started (by kernel_rfl) Try.func4
    (ChangeSpec.witness6 (enc:=enc) (C:=Try.checked) false ⟨#[],#[.slice none 0 0],[]⟩ 8 (by kernel_rfl) (by kernel_rfl) (by kernel_rfl) (by kernel_rfl)) ?_
  intro W base args ds gs before hval0 hW0 _ _ _
  have hval:∀ (j:Nat) t v,Try.f4.params[j]?=some t→args[j]?=some v→Value.okWide Try.prog W .any base t v:=hval0
  have hW:DataW.Whole enc Try.prog Try.f4.params.toList Rows.fnImagesSpec.vars false W args.toList ds gs before:=hW0
  show Calls Try.prog _ _ _ _
  refine law_calls (Vs:=[(V1 (slE false 5 byteE) fun xs=>xs.length≤maxLen∧∀ x∈xs,True)])
    Try.func4 rfl (by kernel_rfl) laid ?_ (by kernel_rfl) rfl rfl u_bool ?_ ?_ hval hW
  · rw [show Try.f4.params.toList=[34] from rfl]
    exact ⟨opnV_code,trivial⟩
  · intro H ds hl
    match ds,hl with
    | [d0],_=>rfl
  · intro h avs hv
    obtain ⟨v0,vs0,rfl,q0,hv⟩:=All2.cons_iff.1 hv
    obtain rfl:=All2.nil_iff.1 hv
    obtain ⟨xs,F,⟨a,ea,hr⟩,hl,hx⟩:=q0
    obtain rfl:v0=_:=List.cons.inj ea |>.1
    exact FnImages_c xs a F false _ h hr
theorem over:Rows.fnImagesRow.holds Try.pinned (OpenSpec.ofChange Rows.fnImagesSpec) :=
  OpenClaim.holds_of_wide 4 Try.f4 rfl rfl rfl rfl rfl rfl rfl ⟨rfl,rfl,rfl,rfl,rfl⟩ rfl rfl rfl rfl rfl (by kernel_rfl) Try.func4 (by kernel_rfl)
    (of_decide_eq_true (by kernel_rfl)) (by unfold Func.isWrapper; first | (rw [if_pos (by decide +kernel)]; kernel_rfl) | (rw [if_neg (by decide +kernel)]; exact ⟨rfl,rfl⟩))
    (fun os started H enc _=>lifted os started H enc)
end Go.Proofs.Ytmpgpkdijfcfhaa.fnImages
namespace Go.Proofs.Ytmpgpkdijfcfhaa
theorem fnImages_holds:Rows.FnImagesSaid:=fnImages.over
end Go.Proofs.Ytmpgpkdijfcfhaa
