/- FnExactTreeText holds: for every tree the program's TreeText and the reference's give the same text, the argument reads as it did; the library's tables laid as the program's text lays them. -/
import Derived.Test.YtmpgpkdijfcfhaaDoorHyCTreeText
import Derived.Test.YtmpgpkdijfcfhaaDoorRows
import Derived.Test.YtmpgpkdijfcfhaaDoorChecked
import Derived.Test.YtmpgpkdijfcfhaaDoorCards
import Derived.Test.YtmpgpkdijfcfhaaDoorTie
import Derived.LaidMore
import Derived.Stop.Joined
import Derived.SevenTiedAt
namespace Go.Proofs.YtmpgpkdijfcfhaaDoor.fnExactTreeText
open Go.RowKit Go.ChangeShapes Go.WideShapes Go.ChangeAt Go.Proofs.YtmpgpkdijfcfhaaDoor.Hz
def laidL:List (String × DataW Unit):=Rows.fnExactTreeTextRow.laid
theorem door_met (os:Os) (args:Array Value):laidMetH Tryd.prog laidL ((World.doorLaid Tryd.prog 400 os).forCall (fun _ _=>0) ⟨#[],args,[]⟩).memory :=
  laidMetH_of_parts3 (fuel:=8) (laidMet_of_run' 8 (by kernel_rfl) (by kernel_rfl)) (by kernel_rfl) (by kernel_rfl)
theorem laid_tail {P:Program} {x:String × DataW Unit} {l:List (String × DataW Unit)} {w:World} (h:laidMet P (x :: l) w):laidMet P l w:=by
  obtain ⟨ps,⟨g,t,cs,fuel,p,q,h1,h2,h3,h4,h5,rfl⟩,hn,hb⟩:=h
  exact ⟨q,h5,(List.nodup_append.1 hn).2.1,fun b off hm=>hb b off (List.mem_append.2 (.inr hm))⟩
theorem table {W:World} (h:laidMetH Tryd.prog laidL W):Lib.TabIs Tryd.prog W "internal/strconv.uint64pow10" .u64 Lib.pow10Tab:=by
  rw [MakeChecks.laidMetH_plain _ _ _ (by kernel_rfl)] at h
  have h2:=laid_tail (laid_tail h)
  exact Lib.tabIs_of_head (g:=0) (t:=53) (e:=46) (n:=20) (by kernel_rfl) (by kernel_rfl) (by kernel_rfl) (by kernel_rfl) (by kernel_rfl) (by kernel_rfl) h2
set_option maxRecDepth 100000 in
theorem lifted (os:Os) (started:os.Started) (H:Type) (enc:TypeId × Value→H) :
    ReturnsInHanded {} Tryd.checked os 3 .any (fun w args=>(Rows.fnExactTreeTextSpec.pre enc Tryd.prog Tryd.f3 [] false w args∧laidMetH Tryd.prog laidL w)∧sizedMet enc Tryd.prog Tryd.f3 (OpenSpec.ofChange Rows.fnExactTreeTextSpec) false w args)
      (Rows.fnExactTreeTextSpec.post enc Tryd.prog Tryd.f3 false true false false):=by
  refine returnsInHanded_of_change_and (C:=Tryd.checked) (X:=fun w _=>laidMetH Tryd.prog laidL w) (fun _ _ _ hh h=>h.of_heap hh) ownKnob_none started (by kernel_rfl) Tryd.func3
    (ChangeSpec.witness_shaped (enc:=enc) (C:=Tryd.checked) (os:=os) (X:=fun w _=>laidMetH Tryd.prog laidL w) false (World.doorLaid Tryd.prog 400 os) #[.agg #[.slice none 0 0]] 8 rfl (World.shaped_of_RefB (by kernel_rfl) (by kernel_rfl)) (by kernel_rfl) (by kernel_rfl) (by kernel_rfl) (door_met os _)) ?_
  intro W base args ds gs before hval0 hW0 _ _ hL _
  have hval:∀ (j:Nat) t v,Tryd.f3.params[j]?=some t→args[j]?=some v→Value.okWide Tryd.prog W .any base t v:=hval0
  have hW:DataW.Whole enc Tryd.prog Tryd.f3.params.toList Rows.fnExactTreeTextSpec.vars false W args.toList ds gs before:=hW0
  show Calls Tryd.prog _ _ _ _
  refine law_callsT (Vs:=[(VS (slE false 40 itemE) fun xs=>xs.length≤maxLen∧∀ x∈xs,x.path.length≤maxLen∧x.data.length≤maxLen∧tW x)])
    Tryd.func3 rfl (by kernel_rfl) laid ?_ (by kernel_rfl) rfl rfl u_bool ?_ ?_ hval hW (tabOk_of (table hL))
  · rw [show Tryd.f3.params.toList=[24] from rfl]
    exact ⟨opnV_treeT,trivial⟩
  · intro H ds hl
    match ds,hl with
    | [d0],_=>rfl
  · intro h avs hv
    match avs,hv with
    | [av],⟨⟨xs,cs,F,e1,⟨a,ea,hr⟩,hl,hx⟩,_⟩ =>
      subst ea
      subst e1
      exact FnExactTreeText_c xs a F false _ h hr hl hx
theorem over:Rows.fnExactTreeTextRow.holds Tryd.pinned (OpenSpec.ofChange Rows.fnExactTreeTextSpec) :=
  OpenClaim.holds_of_wide 3 Tryd.f3 rfl rfl rfl rfl rfl rfl rfl ⟨rfl,rfl,rfl,rfl,rfl⟩ rfl rfl rfl rfl rfl (by kernel_rfl) Tryd.func3 (by kernel_rfl)
    (of_decide_eq_true (by kernel_rfl)) (by unfold Func.isWrapper; first | (rw [if_pos (by decide +kernel)]; kernel_rfl) | (rw [if_neg (by decide +kernel)]; exact ⟨rfl,rfl⟩))
    (fun os started H enc _=>lifted os started H enc)
end Go.Proofs.YtmpgpkdijfcfhaaDoor.fnExactTreeText
namespace Go.Proofs.YtmpgpkdijfcfhaaDoor
theorem fnExactTreeText_holds:Rows.FnExactTreeTextSaid:=fnExactTreeText.over
set_option maxRecDepth 100000 in
theorem fnExactTreeTextCard_holds:Rows.FnExactTreeTextCardSaid :=
  Claim7.holds_tied_plain_at .later [] [.data,.data,.data] true (true,"c4827235c00bbdb20c9db999a0825ae80d86327368d753e15c01eb6c4a695136") false
    fnExactTreeText_holds (fun _ h=>by cases h) (by kernel_rfl) (fun _ h=>by cases h) fnExactTreeText_row_tie rfl ⟨rfl,rfl⟩ (by kernel_rfl) rfl
    (fun f fn hf hfn=>by
      obtain rfl:f=3:=Option.some.inj ((show Tryd.prog.funcNamed "loop.example/g00483/laws.FnExactTreeText"=some 3 by kernel_rfl).symm.trans hf) |>.symm
      obtain rfl:fn=Tryd.f3:=(Option.some.inj (Tryd.func3.symm.trans hfn)).symm
      exact ⟨by kernel_rfl,fun j t ht=>by
        rw [show Tryd.f3.params=#[24] from rfl] at ht
        have hm:t∈[24]:=by simpa using Array.mem_of_getElem? ht
        have hall:([24].all fun u=>!Tryd.prog.wantsStandIn u)=true:=by kernel_rfl
        exact (show Tryd.prog.wantsStandIn t=false by simpa using List.all_eq_true.1 hall t hm)⟩)
    (by kernel_rfl)
end Go.Proofs.YtmpgpkdijfcfhaaDoor
