/- FreeOf: both programs. -/
import Derived.Test.YtmpgpkdijfcfhaaGreatHyHB
import Derived.Test.YtmpgpkdijfcfhaaGreatHyGE
namespace Go.Proofs.YtmpgpkdijfcfhaaGreat.Hz
open Go.RowKit
set_option linter.unusedVariables false
set_option linter.unusedSimpArgs false
set_option maxRecDepth 20000
def freeTo (f:Fs) (k:Nat):Nat:=(List.range k).countP (fun q:Nat=>!decide ((q:Int)∈held f.nodes))
theorem freeTo_succ (f:Fs) (k:Nat):freeTo f (k+1)=freeTo f k+(if (k:Int)∈held f.nodes then 0 else 1):=by
  unfold freeTo
  rw [List.range_succ,List.countP_append]
  by_cases h:(k:Int)∈held f.nodes <;> simp [h]
theorem freeTo_le (f:Fs) (k:Nat):freeTo f k≤k:=by
  unfold freeTo
  have:=List.countP_le_length (p:=fun q:Nat=>!decide ((q:Int)∈held f.nodes)) (l:=List.range k)
  simpa using this
theorem freeTo_all {f:Fs} (s:shapeOk f=true):(freeTo f f.data.length:Int)=freeOf f:=by
  have o:=(shapeOk_iff.1 s).own
  have:=count_free (n:=f.data.length) o.2 o.1
  unfold freeOf freeTo
  rw [if_pos s]
  omega
theorem freeOf_no {f:Fs} (s:shapeOk f=false):freeOf f=0:=by simp [freeOf,s]
section
variable (f:Fs) (a1 a2:Option Addr) (F1 F2:List Nat) (w:Bool) (tNode:TypeId) (h:Hp) (k1:slR w tNode (nodeE w) h f.nodes a1 F1) (k2:slR w 9 strE h f.data a2 F2) (hl:f.nl≤1048576)
include k1 k2 hl
set_option maxHeartbeats 2000000 in
theorem freeOf_impl_c :
    ACall Tryz.prog 77 [.agg #[.slice a1 f.nodes.length f.nodes.length,.slice a2 f.data.length f.data.length]] h fun r h'=>(∃ t,h'=h++t)∧r=.int .i64 (freeOf f):=by
  refine acall mixed Tryz.func77 rfl (by kernel_rfl) ?_
  have hlim:=Fs.lim_of f hl
  have hN:f.data.length≤1048576:=hlim.2.2
  simp [Tryz.f77]
  refine callK0 (shapeOk_impl_c f a1 a2 F1 F2 w tNode _ (k1.to (by simp)) (k2.to (by simp)) hl) ?_
  rintro _ _ ⟨⟨t1,rfl⟩,rfl⟩
  cases e1:shapeOk f
  · simp [freeOf_no e1]
  have hsh:=shapeOk_iff.1 e1
  have hd1:1≤f.data.length:=by have:=inR_iff.1 hsh.data; omega
  simp
  refine callK0 (owners_c f a1 a2 F1 F2 w tNode _ (k1.to (by simp)) (k2.to (by simp)) hl hd1 (fun b hb=>(hsh.own.1 b hb).1)) ?_
  rintro _ _ ⟨⟨t2,rfl⟩,ho⟩
  rcases ho with ⟨hown,os,ao,Fo,rfl,inv,oo⟩ | ⟨hown,rfl⟩
  rotate_left
  · exact absurd hsh.own hown
  obtain ⟨il,ib,ind,iv⟩:=inv
  simp
  have sl:=oo.sl
  simp at sl
  refine aloop mixed [5,16,17,18] (fun (k:Nat)=>[.int .i64 (freeTo f k),.slice ao f.data.length f.data.length,.int .i64 f.data.length,.int .i64 k]) (fun k=>_) (fun k=>k≤f.data.length) (fun k=>f.data.length - k) 0 (by simp) (by simp [pickF,freeTo]) rfl ?_
  intro k hk
  simp [mkF]
  refine asplitK_intro (fun hc=>?_) (fun hc=>?_) <;> simp at hc <;> simp [hc]
  · have hko:k<os.length:=by omega
    obtain ⟨ou,offu,eu,cu⟩:=intEAt sl hko
    subst eu
    have hv:=iv k hko
    have hfr:=freeTo_succ f k
    have hle:=freeTo_le f k
    simp [hc,cu]
    refine asplitK_intro (fun hd=>?_) (fun hd=>?_) <;> have hd':=hd <;> simp at hd <;> simp [hd']
    · have hn:(k:Int) ∉ held f.nodes:=fun hm=>by
        rw [decide_eq_true hm] at hv
        have:=of_decide_eq_true hv
        omega
      rw [if_neg hn] at hfr
      exact anext (k+1) hc (by omega) (by simp [pickF,hfr,wrap_succ (show k<9223372036854775807 by omega),wrap_succ (show freeTo f k<9223372036854775807 by omega)]) rfl (by simp)
    · have hn:(k:Int)∈held f.nodes:=by
        have h3:decide (0≤os[k])=true:=decide_eq_true hd
        rw [h3] at hv
        exact of_decide_eq_true hv.symm
      rw [if_pos hn,Nat.add_zero] at hfr
      exact anext (k+1) hc (by omega) (by simp [pickF,hfr,wrap_succ (show k<9223372036854775807 by omega)]) rfl (by simp)
  · obtain rfl:k=f.data.length:=by omega
    rw [freeTo_all e1]
end
end Go.Proofs.YtmpgpkdijfcfhaaGreat.Hz
