/- PoolFree: both programs. -/
import Derived.Test.YtmpgpkdijfcfhaaGreatHyHF
import Derived.Test.YtmpgpkdijfcfhaaGreatHyFR
namespace Go.Proofs.YtmpgpkdijfcfhaaGreat.Hz
open Go.RowKit
set_option linter.unusedVariables false
set_option linter.unusedSimpArgs false
set_option maxRecDepth 20000
noncomputable def freeUp:List Branch→Int
  | []=>0
  | b :: bs=>freeUp bs+freeOf b.fs
noncomputable def poolFree (x:Pool):Int:=if poolOk x then freeUp x.branches.reverse else 0
theorem freeUp_take (bs:List Branch) (i:Nat) (hi:i<bs.length):freeUp (bs.take (i+1)).reverse=freeUp (bs.take i).reverse+freeOf bs[i].fs:=by
  rw [List.take_succ_eq_append_getElem hi,List.reverse_append]
  rfl
theorem freeOf_bd (f:Fs) (hl:f.nl≤1048576):0≤freeOf f∧freeOf f≤1048576:=by
  have hlim:=Fs.lim_of f hl
  have hN:f.data.length≤1048576:=hlim.2.2
  cases e1:shapeOk f
  · simp [freeOf_no e1]
  · rw [← freeTo_all e1]
    have:=freeTo_le f f.data.length
    omega
theorem poolOk_head_t {x:Pool} (h:poolOk x=true):headOk x=true∧1≤x.branches.length∧x.branches.length≤4:=by
  have:headOk x=true:=by
    cases e:headOk x
    · rw [poolOk_head e] at h; cases h
    · rfl
  refine ⟨this,?_⟩
  simp only [headOk,Bool.and_eq_true] at this
  have:=inR_iff.1 this.1.2
  omega
section
variable (x:Pool) (b:Option Addr) (F:List Nat) (w:Bool) (tBranch tNode:TypeId) (h:Hp) (k1:slR w tBranch (branchE w tNode) h x.branches b F) (hl:x.nl≤1048576)
include k1 hl
set_option maxHeartbeats 4000000 in
theorem poolFree_impl_c :
    ACall Tryz.prog 25 [.agg #[.int .i64 x.policy,.int .i64 x.minFree,.slice b x.branches.length x.branches.length,.bool x.move.on,.bool x.move.clean,.int .i64 x.move.src,.int .i64 x.move.dst,.string (S x.move.path),.int .i64 x.move.gen,.int .i64 x.move.done]] h fun r h'=>(∃ t,h'=h++t)∧r=.int .i64 (poolFree x):=by
  refine acall mixed Tryz.func25 rfl (by kernel_rfl) ?_
  obtain ⟨hn,hp,hf⟩:=pool_nl hl
  simp [Tryz.f25]
  refine callK0 (poolOk_impl_c x b F w tBranch tNode _ (k1.to (by simp)) hl) ?_
  rintro _ _ ⟨⟨t1,rfl⟩,rfl⟩
  cases e1:poolOk x
  · simp [poolFree,e1]
  have hn4:=(poolOk_head_t e1).2.2
  simp [poolFree,e1]
  refine aloop mixed [3,10,11,12] (fun (y:Nat × Hp)=>[.int .i64 (freeUp (x.branches.take y.1).reverse),.slice b x.branches.length x.branches.length,.int .i64 x.branches.length,.int .i64 y.1]) (fun y=>h++y.2) (fun y=>y.1≤x.branches.length∧0≤freeUp (x.branches.take y.1).reverse∧freeUp (x.branches.take y.1).reverse≤1048576 * y.1) (fun y=>x.branches.length - y.1) (0,_) ⟨by simp,by simp [freeUp],by simp [freeUp]⟩ (by simp [pickF,freeUp]) rfl ?_
  rintro ⟨i,u⟩ ⟨hi,hs0,hs1⟩
  simp only at hi hs0 hs1
  simp [mkF]
  refine asplitK_intro (fun hc=>?_) (fun hc=>?_) <;> simp at hc <;> simp [hc]
  · obtain ⟨o,off,b1,G1,b2,G2,rfl,c0,c1,c2,kn,kd⟩:=branchAtX k1 hc
    have hft:=freeUp_take x.branches i hc
    have hbd:=freeOf_bd _ (hf i hc)
    simp [hc,c0,c1,c2]
    refine callK0 (freeOf_impl_c x.branches[i].fs b1 b2 G1 G2 w tNode _ (kn.to (by simp)) (kd.to (by simp)) (hf i hc)) ?_
    rintro _ _ ⟨⟨t2,rfl⟩,rfl⟩
    simp
    exact anext (i+1,_) ⟨hc,by simp only; omega,by simp only; omega⟩ (by simp only; omega) (by simp [pickF,hft,wrap_succ (show i<9223372036854775807 by omega),wrap_in (show -9223372036854775808≤freeUp (x.branches.take i).reverse+freeOf x.branches[i].fs by omega) (by omega)]) rfl (by simp)
  · obtain rfl:i=x.branches.length:=by omega
    simp
end
end Go.Proofs.YtmpgpkdijfcfhaaGreat.Hz
