/- FnNamesOf holds: whatever tree and path the reference draws, the names below the path are the reference's, each leads to an item below the path, and a copy of the tree reads the same; the library's tables laid as the program's text lays them. -/
import Derived.Test.YtmpgpkdijfcfhaaGreatDoorHyLX
import Derived.Test.YtmpgpkdijfcfhaaGreatDoorHyTZ
import Derived.Test.YtmpgpkdijfcfhaaGreatDoorHyOC
import Derived.Test.YtmpgpkdijfcfhaaGreatDoorRows
import Derived.Test.YtmpgpkdijfcfhaaGreatDoorChecked
import Derived.Test.YtmpgpkdijfcfhaaGreatDoorCards
import Derived.Test.YtmpgpkdijfcfhaaGreatDoorTie
import Derived.LaidMore
import Derived.Stop.Joined
import Derived.SevenTiedAt
namespace Go.Proofs.YtmpgpkdijfcfhaaGreatDoor.fnNamesOf
open Go.RowKit Go.ChangeShapes Go.WideShapes Go.ChangeAt Go.Proofs.YtmpgpkdijfcfhaaGreatDoor.Hz
def laidL:List (String × DataW Unit):=Rows.fnNamesOfRow.laid
theorem door_met (os:Os) (args:Array Value):laidMetH Tryz.prog laidL ((World.doorLaid Tryz.prog 400 os).forCall (fun _ _=>0) ⟨#[],args,[]⟩).memory :=
  laidMetH_of_parts3 (fuel:=8) (laidMet_of_run' 8 (by kernel_rfl) (by kernel_rfl)) (by kernel_rfl) (by kernel_rfl)
theorem laid_tail {P:Program} {x:String × DataW Unit} {l:List (String × DataW Unit)} {w:World} (h:laidMet P (x :: l) w):laidMet P l w:=by
  obtain ⟨ps,⟨g,t,cs,fuel,p,q,h1,h2,h3,h4,h5,rfl⟩,hn,hb⟩:=h
  exact ⟨q,h5,(List.nodup_append.1 hn).2.1,fun b off hm=>hb b off (List.mem_append.2 (.inr hm))⟩
theorem table {W:World} (h:laidMetH Tryz.prog laidL W):Lib.TabIs Tryz.prog W "internal/strconv.uint64pow10" .u64 Lib.pow10Tab:=by
  rw [MakeChecks.laidMetH_plain _ _ _ (by kernel_rfl)] at h
  have h2:=laid_tail (laid_tail h)
  exact Lib.tabIs_of_head (g:=1) (t:=148) (e:=133) (n:=20) (by kernel_rfl) (by kernel_rfl) (by kernel_rfl) (by kernel_rfl) (by kernel_rfl) (by kernel_rfl) h2
set_option maxRecDepth 100000 in
theorem lifted (os:Os) (started:os.Started) (H:Type) (enc:TypeId × Value→H) :
    ReturnsInHanded {} Tryz.checked os 3 .any (fun w args=>(Rows.fnNamesOfSpec.pre enc Tryz.prog Tryz.f3 [] false w args∧laidMetH Tryz.prog laidL w)∧sizedMet enc Tryz.prog Tryz.f3 (OpenSpec.ofChange Rows.fnNamesOfSpec) false w args)
      (Rows.fnNamesOfSpec.post enc Tryz.prog Tryz.f3 false true false false):=by
  refine returnsInHanded_of_change_and (C:=Tryz.checked) (X:=fun w _=>laidMetH Tryz.prog laidL w) (fun _ _ _ hh h=>h.of_heap hh) ownKnob_none started (by kernel_rfl) Tryz.func3
    (ChangeSpec.witness_shaped (enc:=enc) (C:=Tryz.checked) (os:=os) (X:=fun w _=>laidMetH Tryz.prog laidL w) false (World.doorLaid Tryz.prog 400 os) #[.slice none 0 0] 8 rfl (World.shaped_of_RefB (by kernel_rfl) (by kernel_rfl)) (by kernel_rfl) (by kernel_rfl) (by kernel_rfl) (door_met os _)) ?_
  intro W base args ds gs before hval0 hW0 _ _ hL _
  have hval:∀ (j:Nat) t v,Tryz.f3.params[j]?=some t→args[j]?=some v→Value.okWide Tryz.prog W .any base t v:=hval0
  have hW:DataW.Whole enc Tryz.prog Tryz.f3.params.toList Rows.fnNamesOfSpec.vars false W args.toList ds gs before:=hW0
  show Calls Tryz.prog _ _ _ _
  refine law_callsT (Vs:=[(V1 (slE false 5 byteE) fun xs=>xs.length≤maxLen∧∀ x∈xs,True)])
    Tryz.func3 rfl (by kernel_rfl) laid ?_ (by kernel_rfl) rfl rfl u_bool ?_ ?_ hval hW (tabOk_of (table hL))
  · rw [show Tryz.f3.params.toList=[22] from rfl]
    exact ⟨opnV_code,trivial⟩
  · intro H ds hl
    match ds,hl with
    | [d0],_=>rfl
  · intro h avs hv
    match avs,hv with
    | [av],⟨⟨xs,F,⟨a,ea,hr⟩,hl,_⟩,_⟩ =>
      obtain rfl:av=_:=List.cons.inj ea |>.1
      exact FnNamesOf_c xs a F false _ h hr
theorem over:Rows.fnNamesOfRow.holds Tryz.pinned (OpenSpec.ofChange Rows.fnNamesOfSpec) :=
  OpenClaim.holds_of_wide 3 Tryz.f3 rfl rfl rfl rfl rfl rfl rfl ⟨rfl,rfl,rfl,rfl,rfl⟩ rfl rfl rfl rfl rfl (by kernel_rfl) Tryz.func3 (by kernel_rfl)
    (of_decide_eq_true (by kernel_rfl)) (by unfold Func.isWrapper; first | (rw [if_pos (by decide +kernel)]; kernel_rfl) | (rw [if_neg (by decide +kernel)]; exact ⟨rfl,rfl⟩))
    (fun os started H enc _=>lifted os started H enc)
end Go.Proofs.YtmpgpkdijfcfhaaGreatDoor.fnNamesOf
namespace Go.Proofs.YtmpgpkdijfcfhaaGreatDoor
theorem fnNamesOf_holds:Rows.FnNamesOfSaid:=fnNamesOf.over
set_option maxRecDepth 100000 in
theorem fnNamesOfCard_holds:Rows.FnNamesOfCardSaid :=
  Claim7.holds_tied_plain_at .later [] [.data,.data,.data] true (true,"f70f02b5f2f8c3eb1680669dccf09dfeb2ab270be165e4a27e1189e2bbf10f8c") false
    fnNamesOf_holds (fun _ h=>by cases h) (by kernel_rfl) (fun _ h=>by cases h) fnNamesOf_row_tie rfl ⟨rfl,rfl⟩ (by kernel_rfl) rfl
    (fun f fn hf hfn=>by
      obtain rfl:f=3:=Option.some.inj ((show Tryz.prog.funcNamed "loop.example/g00483/laws.FnNamesOf"=some 3 by kernel_rfl).symm.trans hf) |>.symm
      obtain rfl:fn=Tryz.f3:=(Option.some.inj (Tryz.func3.symm.trans hfn)).symm
      exact ⟨by kernel_rfl,fun j t ht=>by
        rw [show Tryz.f3.params=#[22] from rfl] at ht
        have hm:t∈[22]:=by simpa using Array.mem_of_getElem? ht
        have hall:([22].all fun u=>!Tryz.prog.wantsStandIn u)=true:=by kernel_rfl
        exact (show Tryz.prog.wantsStandIn t=false by simpa using List.all_eq_true.1 hall t hm)⟩)
    (by kernel_rfl)
end Go.Proofs.YtmpgpkdijfcfhaaGreatDoor
