/- The law of winners. -/
import Derived.Test.YtmpgpkdijfcfhaaGreatHyLT
import Derived.Test.YtmpgpkdijfcfhaaGreatHyHG
import Derived.Test.YtmpgpkdijfcfhaaGreatHyGI
namespace Go.Proofs.YtmpgpkdijfcfhaaGreat.Hz
open Go.RowKit
set_option linter.unusedVariables false
set_option linter.unusedSimpArgs false
set_option maxRecDepth 20000
theorem timesI_take (x:Int):∀ (es:List Int) (i:Nat) (hi:i<es.length),timesI x (es.take (i+1))=timesI x (es.take i)+(if es[i]=x then 1 else 0)
  | e :: es,0,hi=>by simp [timesI]
  | e :: es,i+1,hi=>by
    have ih:=timesI_take x es i (by simpa using hi)
    simp only [List.take_succ_cons,timesI,List.getElem_cons_succ,ih]
    omega
theorem timesI_bd (x:Int):∀ es:List Int,0≤timesI x es∧timesI x es≤es.length
  | []=>by simp [timesI]
  | e :: es=>by
    have ih:=timesI_bd x es
    simp only [timesI,List.length_cons]
    split <;> omega
theorem times_c (es:List Int) (x:Int) (a:Option Addr) (F:List Nat) (w:Bool) (t:TypeId) (h:Hp) (hr:slR w t intE h es a F) (hl:es.length≤1048576) :
    ACall Tryz.prog 31 [.slice a es.length es.length,.int .i64 x] h fun r h'=>h'=h∧r=.int .i64 (timesI x es):=by
  refine acall mixed Tryz.func31 rfl (by kernel_rfl) ?_
  simp [Tryz.f31]
  refine aloop mixed [0,1,5,6] (fun (k:Nat)=>[.slice a es.length es.length,.int .i64 x,.int .i64 (timesI x (es.take k)),.int .i64 k]) (fun _=>h) (fun k=>k≤es.length) (fun k=>es.length - k) 0 (by simp) (by simp [pickF,timesI]) rfl ?_
  rintro k hk
  simp [mkF]
  refine asplitK_intro (fun hb=>?_) (fun hb=>?_) <;> simp at hb <;> simp [hb]
  · obtain ⟨o,off,rfl,c0⟩:=intEAt hr hb
    have e1:=timesI_take x es k hb
    have b1:=timesI_bd x (es.take k)
    have b2:(es.take k).length≤1048576:=by simp; omega
    have w1:IntKind.i64.wrap (timesI x (es.take k)+1)=timesI x (es.take k)+1:=wrap_in (by omega) (by omega)
    simp [hb,c0]
    refine asplitK_intro (fun hc=>?_) (fun hc=>?_) <;> simp at hc <;> simp [hc]
    · rw [if_pos hc] at e1
      exact anext (k+1) hb (by omega) (by simp [pickF,e1,w1,wrap_succ (show k<9223372036854775807 by omega)]) rfl (by simp)
    · rw [if_neg hc] at e1
      exact anext (k+1) hb (by omega) (by simp [pickF,e1,wrap_succ (show k<9223372036854775807 by omega)]) rfl (by simp)
  · obtain rfl:k=es.length:=by omega
    simp
theorem holders_len (x:Pool) (p:Str):(holders x p).length≤x.branches.length:=by
  unfold holders
  split
  · rw [asInts_len]
    unfold holdTo
    exact Nat.le_trans (List.length_filter_le _ _) (by simp)
  · simp
set_option maxHeartbeats 8000000 in
theorem FnWinner_c (code:Str) (a:Option Addr) (F:List Nat) (w:Bool) (t:TypeId) (h:Hp) (k:slR w t byteE h code a F) :
    ACall Tryz.prog 6 [.slice a code.length code.length] h fun r _=>r=.bool true:=by
  refine acall mixed Tryz.func6 rfl (by kernel_rfl) ?_
  simp -implicitDefEqProofs [Tryz.f6]
  refine callK0 (big_c code a h) ?_
  rintro _ h ⟨rfl,rfl⟩
  try simp -implicitDefEqProofs
  refine asplitK_intro (fun hb=>?_) (fun hb=>?_) <;> simp at hb <;> try simp -implicitDefEqProofs
  refine callK0 (drawWinner_c code a F w t h k (by omega)) ?_
  rintro _ H1 ⟨x,u,p,rfl,hp,pin⟩
  obtain ⟨ab,G,rfl,P,-,bd⟩:=PBx.of pin
  have hnl:=bd.nl
  try simp -implicitDefEqProofs [poolC]
  simp only [poolC] at P
  obtain ⟨B,hB⟩:∃ B,B=H1.length:=⟨_,rfl⟩
  rw [← hB] at P ⊢
  generalize H1++[(⟨true,true,28,[.int .i64 x.policy,.int .i64 x.minFree,.slice ab x.branches.length x.branches.length,.bool x.move.on,.bool x.move.clean,.int .i64 x.move.src,.int .i64 x.move.dst,.string (S x.move.path),.int .i64 x.move.gen,.int .i64 x.move.done]⟩:Ob)]=H at P ⊢
  clear pin hB
  have q:=P.cells
  simp only [poolC] at q
  try simp -implicitDefEqProofs [q]
  refine callK0 (winner_impl_c x ab G true _ _ H P.sl hnl p (by omega)) ?_
  rintro _ _ ⟨⟨t1,rfl⟩,rfl⟩
  replace P:=P.ext (Ext.push H t1)
  generalize H++t1=H at P ⊢
  clear q
  have q:=P.cells
  simp only [poolC] at q
  try simp -implicitDefEqProofs [q]
  refine callK0 (holders_impl_c x ab G true _ _ H P.sl hnl p (by omega)) ?_
  rintro _ H2 ⟨ah,Gh,rfl,oh⟩
  replace P:=P.ext oh.ext
  have sh:=oh.sl
  clear q oh
  have q:=P.cells
  simp only [poolC] at q
  try simp -implicitDefEqProofs [q]
  refine callK0 (winner_spec_c x ab G true _ _ H2 P.sl hnl p (by omega)) ?_
  rintro _ _ ⟨⟨t1,rfl⟩,rfl⟩
  replace P:=P.ext (Ext.push H2 t1)
  replace sh:=sh.ext (Ext.push H2 t1)
  generalize H2++t1=H at P sh ⊢
  clear q
  obtain ⟨l1,l2,l3⟩:=winner_law x p
  have hlen:=holders_len x p
  have h6:=bd.len
  obtain ⟨W,hW⟩:∃ W,W=winner x p:=⟨_,rfl⟩
  rw [← hW] at l1 l2 l3 ⊢
  generalize holders x p=L at l1 l2 l3 hlen sh ⊢
  clear hW
  by_cases hW0:W<0
  · have hL:L=[]:=l1.1 hW0
    subst hL
    try simp -implicitDefEqProofs [hW0]
    refine aloop mixed [3,4,5,6,7] (fun (i:Nat)=>[.pointer (some ⟨B,0,none⟩),.string (S p),.int .i64 W,.slice ah 0 0,.int .i64 i]) (fun _=>H) (fun i=>i=0) (fun i=>0) 0 rfl (by simp [pickF]) rfl ?_
    rintro _ rfl
    simp -implicitDefEqProofs [mkF,hW0]
  · have hL:L≠[]:=fun e=>hW0 (l1.2 e)
    have hL0:¬ L.length=0:=fun e=>hL (List.eq_nil_of_length_eq_zero e)
    have hW1:0≤W:=by omega
    have l3:=l3 hW1
    try simp -implicitDefEqProofs [hW0,hL,hL0]
    refine asplitK_intro (fun hz=>?_) (fun hz=>?_) <;> have hz':=hz <;> simp at hz <;> try simp -implicitDefEqProofs [hz']
    · exact absurd hz hL
    refine aloop mixed [3,4,5,6,7] (fun (y:Nat × Hp)=>[.pointer (some ⟨B,0,none⟩),.string (S p),.int .i64 W,.slice ah L.length L.length,.int .i64 y.1]) (fun y=>y.2) (fun y=>y.1≤L.length∧PBx y.2 B x ab G∧slR true 3 intE y.2 L ah Gh) (fun y=>L.length - y.1) (0,H) ⟨by simp,P,sh⟩ (by simp [pickF]) rfl ?_
    clear P sh
    rintro ⟨i,H⟩ ⟨hi,P,sh⟩
    simp only at hi P sh
    simp -implicitDefEqProofs [mkF]
    refine asplitK_intro (fun hc=>?_) (fun hc=>?_) <;> simp at hc <;> simp -implicitDefEqProofs [hc]
    · have q:=P.cells
      simp only [poolC] at q
      obtain ⟨ol,offl,rfl,ck⟩:=intEAt sh hc
      obtain ⟨k0,k1,k2,k3,k4,k5,k6⟩:=l2 _ (List.getElem_mem hc)
      obtain ⟨n,hn⟩:∃ n:Nat,L[i]=n:=⟨L[i].toNat,by omega⟩
      obtain ⟨m,hm⟩:∃ m:Nat,W=m:=⟨W.toNat,by omega⟩
      rw [hn] at ck k0 k1 k4 k5 k6
      subst hm
      have hnl2:n<x.branches.length:=by omega
      have hml:m<x.branches.length:=by omega
      have e1:((n:Nat):Int).toNat=n:=by omega
      have e2:((m:Nat):Int).toNat=m:=by omega
      rw [e1] at k4 k5 k6
      rw [e2] at k5 k6
      rw [genI_get hnl2] at k4 k5 k6
      rw [genI_get hml] at k5 k6
      obtain ⟨o,off,b1,G1,b2,G2,rfl,c0,c1,c2,kn,kd,-,-⟩:=branchAt P.sl hnl2
      have f1:¬ (n:Int)<0:=by omega
      have f2:¬ (x.branches.length:Int)≤(n:Int):=by omega
      have f3:¬ (x.branches.length:Int)≤(m:Int):=by omega
      have f2':¬ x.branches.length≤n:=by omega
      have f3':¬ x.branches.length≤m:=by omega
      refine drawK false (by kernel_rfl) ?_
      simp -implicitDefEqProofs [q,hc,ck,f1,f2,f3,f2',f3']
      refine drawK true (by kernel_rfl) ?_
      simp -implicitDefEqProofs [q,hc,ck,hnl2,c1,c2]
      refine callK (genAt_impl_c x.branches[n].fs b1 b2 G1 G2 true _ H kn kd (by have:=bd.nl_ _ (List.getElem_mem hnl2); omega) p (by omega)) ?_
      rintro _ _ ⟨⟨t1,rfl⟩,rfl⟩
      refine ⟨fun _=>Ext.push _ _,?_⟩
      replace P:=P.ext (Ext.push H t1)
      replace sh:=sh.ext (Ext.push H t1)
      replace ck:=cell_up (Ext.push H t1) ck
      generalize H++t1=H2 at P sh ck ⊢
      clear q c0 c1 c2 kn kd
      have q:=P.cells
      simp only [poolC] at q
      obtain ⟨o',off',b1,G1,b2,G2,e',c0,c1,c2,kn,kd,-,-⟩:=branchAt P.sl hml
      cases e'
      simp -implicitDefEqProofs [q,hml,c1,c2]
      refine callK0 (genAt_impl_c x.branches[m].fs b1 b2 G1 G2 true _ H2 kn kd (by have:=bd.nl_ _ (List.getElem_mem hml); omega) p (by omega)) ?_
      rintro _ _ ⟨⟨t1,rfl⟩,rfl⟩
      replace P:=P.ext (Ext.push H2 t1)
      replace sh:=sh.ext (Ext.push H2 t1)
      replace ck:=cell_up (Ext.push H2 t1) ck
      generalize H2++t1=H3 at P sh ck ⊢
      have f4:¬ genAt x.branches[n].fs p<0:=by omega
      have f5:¬ genAt x.branches[m].fs p<genAt x.branches[n].fs p:=by omega
      by_cases he:genAt x.branches[n].fs p=genAt x.branches[m].fs p
      · have f6:¬ (n:Int)<(m:Int):=by have:=k6 he; omega
        have f6':¬ n<m:=by omega
        rw [he] at f4 f5 ⊢
        simp -implicitDefEqProofs [f4,f5,f6,f6',hc,ck]
        exact anext (i+1,H3) ⟨hc,P,sh⟩ (by simp only; omega) (by simp [pickF,wrap_succ (show i<9223372036854775807 by omega)]) rfl (by simp)
      · have he':(genAt x.branches[n].fs p == genAt x.branches[m].fs p)=false:=by simpa using he
        simp -implicitDefEqProofs [f4,f5,he']
        exact anext (i+1,H3) ⟨hc,P,sh⟩ (by simp only; omega) (by simp [pickF,wrap_succ (show i<9223372036854775807 by omega)]) rfl (by simp)
    · simp -implicitDefEqProofs [hW0]
      refine callK0 (times_c L W ah Gh true _ H sh (by omega)) ?_
      rintro _ _ ⟨rfl,rfl⟩
      simp -implicitDefEqProofs [l3]
theorem FnWinner_v (h:Hp) (avs:List Value) (hv:All2 (fun V av=>V h av) [(V1 (slE false 5 byteE) fun xs=>xs.length≤maxLen∧∀ x∈xs,True)] avs):ACall Tryz.prog 6 avs h fun r _=>r=.bool true:=by
  obtain ⟨v0,vs0,rfl,q0,hv⟩:=All2.cons_iff.1 hv
  obtain rfl:=All2.nil_iff.1 hv
  obtain ⟨xs,F,⟨a,ea,hr⟩,hl,hx⟩:=q0
  obtain rfl:v0=_:=List.cons.inj ea |>.1
  exact FnWinner_c xs a F false _ h hr
end Go.Proofs.YtmpgpkdijfcfhaaGreat.Hz
