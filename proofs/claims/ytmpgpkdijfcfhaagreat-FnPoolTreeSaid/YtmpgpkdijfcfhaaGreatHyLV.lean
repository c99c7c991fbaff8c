/- The law of a pool's tree. -/
import Derived.Test.YtmpgpkdijfcfhaaGreatHyLT
import Derived.Test.YtmpgpkdijfcfhaaGreatHyZN
import Derived.Test.YtmpgpkdijfcfhaaGreatHyHG
import Derived.Test.YtmpgpkdijfcfhaaGreatHyHF
import Derived.Test.YtmpgpkdijfcfhaaGreatHyQN
import Derived.Test.YtmpgpkdijfcfhaaGreatHyGH
namespace Go.Proofs.YtmpgpkdijfcfhaaGreat.Hz
open Go.RowKit
set_option linter.unusedVariables false
set_option linter.unusedSimpArgs false
set_option maxRecDepth 20000
theorem sum_sm {c:Nat}:∀ xs:List Item,(∀ x∈xs,x.nl≤c)→sumL Item.nl xs≤c * xs.length
  | [],_=>by simp [sumL]
  | x :: xs,h=>by
    have h1:=sum_sm xs (fun y hy=>h y (by simp [hy]))
    have h2:=h x (by simp)
    simp only [sumL,List.length_cons,Nat.mul_add]
    omega
theorem item_sm {f:Fs} {x:Item} (hx:x∈tI_ f):x.nl≤180:=by
  have hp:=path_sm hx
  have hd:x.data.length≤80:=by
    have ok:fsOk f=true:=by
      cases e:fsOk f
      · simp [tI_,e] at hx
      · rfl
    obtain ⟨-,h⟩:=tree_walk hx
    rw [h]
    unfold itemN
    simp only
    split
    · simp
    · exact content_small (fsOk_shape ok) _
  show x.path.length+x.data.length≤180
  omega
set_option maxHeartbeats 8000000 in
theorem FnPoolTree_c (code:Str) (a:Option Addr) (F:List Nat) (w:Bool) (t:TypeId) (h:Hp) (k:slR w t byteE h code a F) :
    ACall Tryz.prog 3 [.slice a code.length code.length] h fun r _=>r=.bool true:=by
  refine acall mixed Tryz.func3 rfl (by kernel_rfl) ?_
  simp -implicitDefEqProofs [Tryz.f3]
  refine cK (big_c code a h) ?_
  rintro _ h ⟨rfl,rfl⟩
  try simp -implicitDefEqProofs
  refine aSI (fun hb=>?_) (fun hb=>?_) <;> simp at hb <;> try simp -implicitDefEqProofs
  refine cK (drawPoolTree_c code a F w t h k (by omega)) ?_
  rintro _ H1 ⟨x,pin⟩
  obtain ⟨ab,G,rfl,P,-,bd⟩:=PBx.of pin
  have hnl:=bd.nl
  try simp -implicitDefEqProofs [poolC]
  simp only [poolC] at P
  obtain ⟨B,hB⟩:∃ B,B=H1.length:=⟨_,rfl⟩
  rw [← hB] at P ⊢
  generalize H1++[(⟨true,true,28,[.int .i64 x.policy,.int .i64 x.minFree,.slice ab x.branches.length x.branches.length,.bool x.move.on,.bool x.move.clean,.int .i64 x.move.src,.int .i64 x.move.dst,.string (S x.move.path),.int .i64 x.move.gen,.int .i64 x.move.done]⟩:Ob)]=H at P ⊢
  clear pin hB
  have q:=P.cells
  simp only [poolC] at q
  try simp -implicitDefEqProofs [q]
  refine cK (poolTree_impl_c x ab G true _ _ H P.sl hnl) ?_
  rintro _ H2 ⟨ut,Kt,rfl,o⟩
  have T:=TB.res o
  have x0:=o.ext.trans (Ext.push _ [⟨true,true,32,[.slice ut (poolTree x).length (poolTree x).length]⟩])
  replace P:=P.ext x0
  try simp -implicitDefEqProofs
  obtain ⟨bT,hbT⟩:∃ b,b=H2.length:=⟨_,rfl⟩
  rw [← hbT] at T ⊢
  generalize H2++[(⟨true,true,32,[.slice ut (poolTree x).length (poolTree x).length]⟩:Ob)]=H at P T ⊢
  clear o x0 hbT q
  have q:=P.cells
  simp only [poolC] at q
  have cT:=T.cells
  try simp -implicitDefEqProofs [q,cT]
  refine cK (poolOk_spec_c x ab G true _ _ H P.sl hnl) ?_
  rintro _ _ ⟨⟨t1,rfl⟩,rfl⟩
  replace P:=P.ext (Ext.push H t1)
  replace T:=T.ext (Ext.push H t1)
  generalize H++t1=H at P T ⊢
  clear q cT
  have q:=P.cells
  simp only [poolC] at q
  have cT:=T.cells
  try simp -implicitDefEqProofs
  cases ok:poolOk x
  · have hno:poolTree x=[]:=by unfold poolTree; simp [ok]
    rw [hno] at cT
    try simp -implicitDefEqProofs [q,cT,hno]
    refine cK (poolOk_impl_c x ab G true _ _ H P.sl hnl) ?_
    rintro _ _ ⟨⟨t1,rfl⟩,rfl⟩
    try simp -implicitDefEqProofs [ok]
  have F0:=pool_treeOk ok
  have F1:=fun y=>pool_item ok (y:=y)
  have F2:=fun (i:Nat) (hi:i<x.branches.length) (u:Item)=>pool_has ok hi (u:=u)
  have F3:=pool_one ok
  have Fl:=pool_len ok
  have Fs:∀ y∈poolTree x,y.nl≤180:=fun y hy=>by
    obtain ⟨i,hi,h1,-⟩:=(pool_mem ok y).1 hy
    exact item_sm h1
  generalize poolTree x=ts at F0 F1 F2 F3 Fl Fs T cT ⊢
  have Fp:∀ y∈ts,y.path.length≤180:=fun y hy=>by have h1:=Fs y hy; have h2:y.nl=y.path.length+y.data.length:=rfl; omega
  have Fsum:=sum_sm ts Fs
  try simp -implicitDefEqProofs [cT]
  refine cK (treeOk_impl_c ts ut Kt true H T.s (by omega)) ?_
  rintro _ _ ⟨⟨t1,rfl⟩,rfl⟩
  replace P:=P.ext (Ext.push H t1)
  replace T:=T.ext (Ext.push H t1)
  generalize H++t1=H at P T ⊢
  clear q cT
  rw [F0]
  try simp -implicitDefEqProofs
  refine aloop mixed [3,4,5] (fun (y:Nat × Hp)=>[.pointer (some ⟨B,0,none⟩),.pointer (some ⟨bT,0,none⟩),.int .i64 y.1]) (fun y=>y.2) (fun y=>y.1≤ts.length∧PBx y.2 B x ab G∧TB y.2 bT ts ut Kt) (fun y=>ts.length - y.1) (0,H) ⟨by simp,P,T⟩ (by simp [pickF]) rfl ?_
  clear P T
  rintro ⟨i,H⟩ ⟨hi,P,T⟩
  simp only at hi P T
  have cT:=T.cells
  simp -implicitDefEqProofs [mkF,cT]
  refine aSI (fun hc=>?_) (fun hc=>?_) <;> simp at hc <;> simp -implicitDefEqProofs [hc]
  · obtain ⟨k0,hk,hw,hg⟩:=F1 _ (List.getElem_mem hc)
    have hyp:=Fp _ (List.getElem_mem hc)
    have q:=P.cells
    simp only [poolC] at q
    obtain ⟨o',off',rfl,i0,i1,i2,i3⟩:=itemAt T.s hc
    refine drawK true (by kernel_rfl) ?_
    try simp -implicitDefEqProofs [q,cT,hc,i0]
    refine callK (winner_impl_c x ab G true _ _ H P.sl hnl ts[i].path (by omega)) ?_
    rintro _ _ ⟨⟨t1,rfl⟩,rfl⟩
    refine ⟨fun _=>Ext.push _ _,?_⟩
    rw [hw]
    replace P:=P.ext (Ext.push H t1)
    replace T:=T.ext (Ext.push H t1)
    generalize H++t1=H2 at P T ⊢
    clear q cT i0 i1 i2 i3
    have q:=P.cells
    simp only [poolC] at q
    have cT:=T.cells
    have f1:¬ (k0:Int)<0:=by omega
    have f2:¬ (x.branches.length:Int)≤(k0:Int):=by omega
    have f2':¬ x.branches.length≤k0:=by omega
    try simp -implicitDefEqProofs [q,f1,f2,f2']
    obtain ⟨ob,offb,b1,G1,b2,G2,rfl,c0,c1,c2,kn,kd,-,-⟩:=branchAt P.sl hk
    obtain ⟨o2,off2,e2,i0,i1,i2,i3⟩:=itemAt T.s hc
    cases e2
    refine drawS true 17 [0,1,2,3,4,5,6,7,8,9,10,11,12,13,14,15,16] [18,19] (by simp; rfl) (by simp; rfl) (by simp; rfl) (by kernel_rfl) ?_
    try simp -implicitDefEqProofs [q,hk,c1,c2,cT,hc,i0]
    refine callK (treeOf_impl_c x.branches[k0].fs b1 b2 G1 G2 true _ H2 kn kd (by have:=bd.nl_ _ (List.getElem_mem hk); omega)) ?_
    rintro _ H3 ⟨uu,Ku,rfl,ou⟩
    refine ⟨fun _=>ou.ext,?_⟩
    replace P:=P.ext ou.ext
    replace T:=T.ext ou.ext
    clear q cT i0 i1 i2 i3 c0 c1 c2 kn kd
    have q:=P.cells
    simp only [poolC] at q
    have cT:=T.cells
    obtain ⟨o2,off2,e2,i0,i1,i2,i3⟩:=itemAt T.s hc
    cases e2
    try simp -implicitDefEqProofs [q,cT,hc,i0]
    have hlt:=treeItems_le x.branches[k0].fs
    refine callK (treeGet_impl_c (tI_ x.branches[k0].fs) ts[i].path uu Ku true _ H3 ou.sl (by omega)) ?_
    rintro _ _ ⟨⟨t3,rfl⟩,rfl⟩
    refine ⟨fun _=>Ext.push _ _,?_⟩
    rw [hg]
    try simp -implicitDefEqProofs [Item.v]
    have x4:Ext H3 (H3++(t3++[⟨true,true,38,[.string (S ts[i].path),.int .i64 ts[i].kind,.string (S ts[i].data),.int .i64 ts[i].time]⟩])):=Ext.push _ _
    replace P:=P.ext x4
    replace T:=T.ext x4
    have cI:∀ j,cellAt (H3++(t3++[⟨true,true,38,[.string (S ts[i].path),.int .i64 ts[i].kind,.string (S ts[i].data),.int .i64 ts[i].time]⟩])) (H3.length+t3.length) j=([Value.string (S ts[i].path),.int .i64 ts[i].kind,.string (S ts[i].data),.int .i64 ts[i].time])[j]?:=fun j=>by
      have e:(H3++(t3++[⟨true,true,38,[.string (S ts[i].path),.int .i64 ts[i].kind,.string (S ts[i].data),.int .i64 ts[i].time]⟩]))[H3.length+t3.length]?=some ⟨true,true,38,[.string (S ts[i].path),.int .i64 ts[i].kind,.string (S ts[i].data),.int .i64 ts[i].time]⟩:=by
        rw [← List.append_assoc,List.getElem?_append_right (by simp)]
        simp
      simp [cellAt,e]
    generalize hbi:H3.length+t3.length=bi at cI ⊢
    generalize H3++(t3++[(⟨true,true,38,[.string (S ts[i].path),.int .i64 ts[i].kind,.string (S ts[i].data),.int .i64 ts[i].time]⟩:Ob)])=H4 at P T cI ⊢
    clear q cT i0 i1 i2 i3
    have cT:=T.cells
    obtain ⟨o2,off2,e2,i0,i1,i2,i3⟩:=itemAt T.s hc
    cases e2
    refine drawK true (by kernel_rfl) ?_
    try simp -implicitDefEqProofs [cI,cT,hc,i0,i1,i2,i3]
    exact anext (i+1,H4) ⟨hc,P,T⟩ (by simp only; omega) (by simp [pickF,wS (show i<9223372036854775807 by omega)]) rfl (by simp)
  obtain rfl:i=ts.length:=by omega
  clear cT hi hc
  refine aloop mixed [3,4,9] (fun (y:Nat × Hp)=>[.pointer (some ⟨B,0,none⟩),.pointer (some ⟨bT,0,none⟩),.int .i64 y.1]) (fun y=>y.2) (fun y=>y.1≤x.branches.length∧PBx y.2 B x ab G∧TB y.2 bT ts ut Kt) (fun y=>x.branches.length - y.1) (0,H) ⟨by simp,P,T⟩ (by simp [pickF]) rfl ?_
  clear P T
  rintro ⟨b,H⟩ ⟨hi,P,T⟩
  simp only at hi P T
  have q:=P.cells
  simp only [poolC] at q
  simp -implicitDefEqProofs [mkF,q]
  refine aSI (fun hc=>?_) (fun hc=>?_) <;> simp at hc <;> try simp -implicitDefEqProofs [hc]
  obtain ⟨ob,offb,b1,G1,b2,G2,rfl,c0,c1,c2,kn,kd,-,-⟩:=branchAt P.sl hc
  try simp -implicitDefEqProofs [q,hc,c1,c2]
  refine cK (treeOf_impl_c x.branches[b].fs b1 b2 G1 G2 true _ H kn kd (by have:=bd.nl_ _ (List.getElem_mem hc); omega)) ?_
  rintro _ H3 ⟨uu,Ku,rfl,ou⟩
  have U:=TB.res ou
  have hF2:=F2 b hc
  have hlt:=treeItems_le x.branches[b].fs
  have hup:∀ u∈tI_ x.branches[b].fs,u.path.length≤180:=fun u hu=>by have:=path_sm hu; omega
  have hF3:x.branches.length=1→ts=tI_ x.branches[b].fs:=by
    intro e
    have e0:b=0:=by omega
    subst e0
    exact F3 e hc
  generalize tI_ x.branches[b].fs=us at U hF2 hlt hup hF3 ou ⊢
  have x0:=ou.ext.trans (Ext.push _ [⟨true,true,32,[.slice uu us.length us.length]⟩])
  replace P:=P.ext x0
  replace T:=T.ext x0
  try simp -implicitDefEqProofs
  obtain ⟨bU,hbU⟩:∃ b,b=H3.length:=⟨_,rfl⟩
  rw [← hbU] at U ⊢
  generalize H3++[(⟨true,true,32,[.slice uu us.length us.length]⟩:Ob)]=H at P T U ⊢
  clear ou x0 hbU q c0 c1 c2 kn kd
  refine aloop mixed [3,4,9,10,11] (fun (y:Nat × Hp)=>[.pointer (some ⟨B,0,none⟩),.pointer (some ⟨bT,0,none⟩),.int .i64 b,.pointer (some ⟨bU,0,none⟩),.int .i64 y.1]) (fun y=>y.2) (fun y=>y.1≤us.length∧PBx y.2 B x (some ⟨ob,offb,none⟩) G∧TB y.2 bT ts ut Kt∧TB y.2 bU us uu Ku) (fun y=>us.length - y.1) (0,H) ⟨by simp,P,T,U⟩ (by simp [pickF]) rfl ?_
  clear P T U
  rintro ⟨i,H⟩ ⟨hi,P,T,U⟩
  simp only at hi P T U
  have cU:=U.cells
  simp -implicitDefEqProofs [mkF,cU]
  refine aSI (fun hd=>?_) (fun hd=>?_) <;> simp at hd <;> try simp -implicitDefEqProofs [hd]
  · obtain ⟨y,hy1,hy2⟩:=hF2 _ (List.getElem_mem hd)
    have hyp:=hup _ (List.getElem_mem hd)
    have cT:=T.cells
    obtain ⟨o',off',rfl,i0,i1,i2,i3⟩:=itemAt U.s hd
    refine drawS true 11 [0,1,2,3,4,5,6,7,8,9,10] [12,13] (by simp; rfl) (by simp; rfl) (by simp; rfl) (by kernel_rfl) ?_
    try simp -implicitDefEqProofs [cT,cU,hd,i0]
    refine callK (treeGet_impl_c ts us[i].path ut Kt true _ H T.s (by omega)) ?_
    rintro _ _ ⟨⟨t3,rfl⟩,rfl⟩
    refine ⟨fun _=>Ext.push _ _,?_⟩
    rw [hy1]
    try simp -implicitDefEqProofs [Item.v]
    have x4:Ext H (H++(t3++[⟨true,true,38,[.string (S y.path),.int .i64 y.kind,.string (S y.data),.int .i64 y.time]⟩])):=Ext.push _ _
    replace P:=P.ext x4
    replace T:=T.ext x4
    replace U:=U.ext x4
    have cI:∀ j,cellAt (H++(t3++[⟨true,true,38,[.string (S y.path),.int .i64 y.kind,.string (S y.data),.int .i64 y.time]⟩])) (H.length+t3.length) j=([Value.string (S y.path),.int .i64 y.kind,.string (S y.data),.int .i64 y.time])[j]?:=fun j=>by
      have e:(H++(t3++[⟨true,true,38,[.string (S y.path),.int .i64 y.kind,.string (S y.data),.int .i64 y.time]⟩]))[H.length+t3.length]?=some ⟨true,true,38,[.string (S y.path),.int .i64 y.kind,.string (S y.data),.int .i64 y.time]⟩:=by
        rw [← List.append_assoc,List.getElem?_append_right (by simp)]
        simp
      simp [cellAt,e]
    generalize hbi:H.length+t3.length=bi at cI ⊢
    generalize H++(t3++[(⟨true,true,38,[.string (S y.path),.int .i64 y.kind,.string (S y.data),.int .i64 y.time]⟩:Ob)])=H4 at P T U cI ⊢
    clear cT cU i0 i1 i2 i3
    have cU:=U.cells
    obtain ⟨o2,off2,e2,i0,i1,i2,i3⟩:=itemAt U.s hd
    cases e2
    refine drawK true (by kernel_rfl) ?_
    try simp -implicitDefEqProofs [cI,cU,hd,i0,i1,i2,i3,hy2]
    exact anext (i+1,H4) ⟨hd,P,T,U⟩ (by simp only; omega) (by simp [pickF,wS (show i<9223372036854775807 by omega)]) rfl (by simp)
  · obtain rfl:i=us.length:=by omega
    have h6:=bd.len
    have q:=P.cells
    simp only [poolC] at q
    have cT:=T.cells
    by_cases h1:x.branches.length=1
    · have hts:=hF3 h1
      subst hts
      try simp -implicitDefEqProofs [q,h1,cT,cU]
      refine cK (treeSame_impl_c ts ts ut uu Kt Ku true true _ _ H T.s U.s (by omega)) ?_
      rintro _ _ ⟨⟨t5,rfl⟩,rfl⟩
      replace P:=P.ext (Ext.push H t5)
      replace T:=T.ext (Ext.push H t5)
      try simp -implicitDefEqProofs
      exact anext (b+1,H++t5) ⟨by simp only; omega,P,T⟩ (by simp only; omega) (by simp [pickF,wS (show b<9223372036854775807 by omega)]) rfl (by simp)
    · have h1':((x.branches.length:Int) == 1)=false:=by simp; omega
      try simp -implicitDefEqProofs [q,h1',h1]
      exact anext (b+1,H) ⟨hc,P,T⟩ (by simp only; omega) (by simp [pickF,wS (show b<9223372036854775807 by omega)]) rfl (by simp)
theorem FnPoolTree_v (h:Hp) (avs:List Value) (hv:All2 (fun V av=>V h av) [(V1 (slE false 5 byteE) fun xs=>xs.length≤maxLen∧∀ x∈xs,True)] avs):ACall Tryz.prog 3 avs h fun r _=>r=.bool true:=by
  obtain ⟨v0,vs0,rfl,q0,hv⟩:=All2.cons_iff.1 hv
  obtain rfl:=All2.nil_iff.1 hv
  obtain ⟨xs,F,⟨a,ea,hr⟩,hl,hx⟩:=q0
  obtain rfl:v0=_:=List.cons.inj ea |>.1
  exact FnPoolTree_c xs a F false _ h hr
end Go.Proofs.YtmpgpkdijfcfhaaGreat.Hz
