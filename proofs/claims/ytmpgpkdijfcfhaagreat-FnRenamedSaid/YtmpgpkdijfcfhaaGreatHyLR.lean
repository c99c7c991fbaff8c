/- The law of renaming. -/
import Derived.Test.YtmpgpkdijfcfhaaGreatHyHE
import Derived.Test.YtmpgpkdijfcfhaaGreatHyDY
import Derived.Test.YtmpgpkdijfcfhaaGreatHyZL
import Derived.Test.YtmpgpkdijfcfhaaGreatHyGH
import Derived.Test.YtmpgpkdijfcfhaaGreatHySM
import Derived.Test.YtmpgpkdijfcfhaaGreatHyGI
import Derived.Test.YtmpgpkdijfcfhaaGreatHyRA
import Derived.Test.YtmpgpkdijfcfhaaGreatHyRB
import Derived.Test.YtmpgpkdijfcfhaaGreatHyLD
namespace Go.Proofs.YtmpgpkdijfcfhaaGreat.Hz
open Go.RowKit
set_option linter.unusedVariables false
set_option linter.unusedSimpArgs false
set_option maxRecDepth 20000
set_option maxHeartbeats 8000000 in
theorem FnRenamed_c (code:Str) (a:Option Addr) (F:List Nat) (w:Bool) (t:TypeId) (h:Hp) (k:slR w t byteE h code a F) :
    ACall Tryz.prog 4 [.slice a code.length code.length] h fun r _=>r=.bool true:=by
  refine acall mixed Tryz.func4 rfl (by kernel_rfl) ?_
  simp -implicitDefEqProofs [Tryz.f4]
  refine callK0 (big_c code a h) ?_
  rintro _ h ⟨rfl,rfl⟩
  simp -implicitDefEqProofs
  refine asplitK_intro (fun hb=>?_) (fun hb=>?_) <;> simp at hb <;> simp -implicitDefEqProofs
  refine callK0 (drawFsRename_c code a F w t h k (by omega)) ?_
  rintro _ H1 ⟨f,p,s,ge,b1,b2,G1,G2,rfl,hp,hs,kf⟩
  have hnl:=kf.nl
  simp -implicitDefEqProofs
  have A:=FB.of kf
  obtain ⟨bA,hbA⟩:∃ bA,bA=H1.length:=⟨_,rfl⟩
  rw [← hbA] at A ⊢
  generalize H1++[(⟨true,true,45,[.slice b1 f.nodes.length f.nodes.length,.slice b2 f.data.length f.data.length]⟩:Ob)]=H at A ⊢
  clear kf hbA
  have gnl:=fsRename_nl f p s ge (by omega)
  obtain ⟨⟨g,how⟩,hq⟩:∃ q:Fs × Int,fsRename f p s ge=q:=⟨_,rfl⟩
  rw [hq] at gnl
  simp only at gnl
  have cA:=A.cells
  have ci:=fsRename_impl_c f b1 b2 G1 G2 true _ H A.s1 A.s2 (by omega) p s ge (by omega) hs
  rw [hq] at ci
  try dsimp only at ci
  refine callK0 ci ?_
  rintro _ H2 ⟨_,rfl,uB,KB,vB,LB,rfl,o1,o2,-⟩
  have B:=FB.res o1 o2
  have x0:=o1.ext.trans (Ext.push _ [⟨true,true,45,[.slice uB g.nodes.length g.nodes.length,.slice vB g.data.length g.data.length]⟩])
  replace A:=A.ext x0
  clear o1 o2 x0 ci
  clear cA
  simp -implicitDefEqProofs
  obtain ⟨bB,hbB⟩:∃ bB,bB=H2.length:=⟨_,rfl⟩
  rw [← hbB] at B ⊢
  generalize H2++[(⟨true,true,45,[.slice uB g.nodes.length g.nodes.length,.slice vB g.data.length g.data.length]⟩:Ob)]=H at A B ⊢
  clear hbB
  have cA:=A.cells
  have cB:=B.cells
  try simp -implicitDefEqProofs [cA,cB]
  have ci:=fsRename_spec_c f b1 b2 G1 G2 true _ H A.s1 A.s2 (by omega) p s ge (by omega) hs
  rw [hq] at ci
  try dsimp only at ci
  refine callK0 ci ?_
  rintro _ H2 ⟨_,rfl,uX,KX,vX,LX,rfl,o1,o2,-⟩
  have X:=FB.res o1 o2
  have x0:=o1.ext.trans (Ext.push _ [⟨true,true,45,[.slice uX g.nodes.length g.nodes.length,.slice vX g.data.length g.data.length]⟩])
  replace A:=A.ext x0
  replace B:=B.ext x0
  clear o1 o2 x0 ci
  clear cA cB
  simp -implicitDefEqProofs
  clear X
  generalize H2++[(⟨true,true,45,[.slice uX g.nodes.length g.nodes.length,.slice vX g.data.length g.data.length]⟩:Ob)]=H at A B ⊢
  have cA:=A.cells
  have cB:=B.cells
  by_cases hk:how=0
  rotate_left
  · have hno:(fsRename f p s ge).1=f:=fsRename_no (by rw [hq]; exact hk)
    rw [hq] at hno
    simp only at hno
    subst hno
    have hk':(how != 0)=true:=by simpa using hk
    simp -implicitDefEqProofs [hk',cA,cB]
    refine callK0 (fsSame_spec_c g g b1 uB G1 KB b2 vB G2 LB true true _ _ _ A.s1 B.s1 A.s2 B.s2 (Fs.lim_of g (by omega))) ?_
    rintro _ _ ⟨⟨u3,rfl⟩,rfl⟩
    simp -implicitDefEqProofs
  have hlaw:=renamed_law (f:=f) (p:=p) (q:=s) (gen:=ge) (by rw [hq]; exact hk)
  rw [hq] at hlaw
  simp only at hlaw
  have dnl:=fsRename_nl g s p ge gnl
  obtain ⟨⟨d,back⟩,hq2⟩:∃ q:Fs × Int,fsRename g s p ge=q:=⟨_,rfl⟩
  rw [hq2] at hlaw dnl
  simp only at hlaw dnl
  obtain ⟨l1,l2,l3,l4,l5,l6⟩:=hlaw
  subst l4
  subst hk
  clear hq
  simp -implicitDefEqProofs
  refine drawK true (by kernel_rfl) ?_
  simp -implicitDefEqProofs [cA,cB]
  refine callK (fsOk_impl_c g uB vB KB LB true _ H B.s1 B.s2 gnl) ?_
  rintro _ _ ⟨⟨t0,rfl⟩,rfl⟩
  refine ⟨fun _=>Ext.push _ _,?_⟩
  replace A:=A.ext (Ext.push H t0)
  replace B:=B.ext (Ext.push H t0)
  generalize H++t0=H at A B ⊢
  clear cA cB
  have cA:=A.cells
  have cB:=B.cells
  try simp -implicitDefEqProofs [l1,cA,cB]
  refine callK (walk_impl_c g uB vB KB LB true _ H B.s1 B.s2 gnl p (by omega)) ?_
  rintro _ _ ⟨⟨t0,rfl⟩,rfl⟩
  refine ⟨fun _=>Ext.push _ _,?_⟩
  replace A:=A.ext (Ext.push H t0)
  replace B:=B.ext (Ext.push H t0)
  generalize H++t0=H at A B ⊢
  clear cA cB
  have cA:=A.cells
  have cB:=B.cells
  try simp -implicitDefEqProofs [l2,cA,cB]
  refine callK (kindAt_impl_c g uB vB KB LB true _ H B.s1 B.s2 gnl s hs) ?_
  rintro _ _ ⟨⟨t0,rfl⟩,rfl⟩
  refine ⟨fun _=>Ext.push _ _,?_⟩
  replace A:=A.ext (Ext.push H t0)
  replace B:=B.ext (Ext.push H t0)
  generalize H++t0=H at A B ⊢
  clear cA cB
  have cA:=A.cells
  have cB:=B.cells
  try simp -implicitDefEqProofs [l3,cA,cB]
  refine callK (kindAt_impl_c f b1 b2 G1 G2 true _ H A.s1 A.s2 (by omega) p (by omega)) ?_
  rintro _ _ ⟨⟨t0,rfl⟩,rfl⟩
  refine ⟨fun _=>Ext.push _ _,?_⟩
  replace A:=A.ext (Ext.push H t0)
  replace B:=B.ext (Ext.push H t0)
  generalize H++t0=H at A B ⊢
  clear cA cB
  have cA:=A.cells
  have cB:=B.cells
  try simp -implicitDefEqProofs [l3,cA,cB]
  have ci:=fsRename_impl_c g uB vB KB LB true _ H B.s1 B.s2 gnl s p ge hs (by omega)
  rw [hq2] at ci
  try dsimp only at ci
  refine callK0 ci ?_
  rintro _ H2 ⟨_,rfl,uD,KD,vD,LD,rfl,o1,o2,-⟩
  have D:=FB.res o1 o2
  have x0:=o1.ext.trans (Ext.push _ [⟨true,true,45,[.slice uD d.nodes.length d.nodes.length,.slice vD d.data.length d.data.length]⟩])
  replace A:=A.ext x0
  replace B:=B.ext x0
  clear o1 o2 x0 ci
  clear cA cB
  simp -implicitDefEqProofs
  obtain ⟨bD,hbD⟩:∃ bD,bD=H2.length:=⟨_,rfl⟩
  rw [← hbD] at D ⊢
  generalize H2++[(⟨true,true,45,[.slice uD d.nodes.length d.nodes.length,.slice vD d.data.length d.data.length]⟩:Ob)]=H at A B D ⊢
  clear hbD
  have cA:=A.cells
  have cB:=B.cells
  have cD:=D.cells
  try simp -implicitDefEqProofs [cA,cB,cD]
  have ci:=treeOf_impl_c f b1 b2 G1 G2 true _ H A.s1 A.s2 (by omega)
  refine callK0 ci ?_
  rintro _ H2 ⟨uXa,KXa,rfl,o⟩
  have Xa:=TB.res o
  have x0:=o.ext.trans (Ext.push _ [⟨true,true,32,[.slice uXa (treeItems f).length (treeItems f).length]⟩])
  replace A:=A.ext x0
  replace B:=B.ext x0
  replace D:=D.ext x0
  clear o x0 ci
  clear cA cB cD
  simp -implicitDefEqProofs
  obtain ⟨bXa,hbXa⟩:∃ bXa,bXa=H2.length:=⟨_,rfl⟩
  rw [← hbXa] at Xa ⊢
  generalize H2++[(⟨true,true,32,[.slice uXa (treeItems f).length (treeItems f).length]⟩:Ob)]=H at A B D Xa ⊢
  clear hbXa
  have cA:=A.cells
  have cB:=B.cells
  have cD:=D.cells
  have cXa:=Xa.cells
  try simp -implicitDefEqProofs [cA,cB,cD,cXa]
  have ci:=treeOf_impl_c d uD vD KD LD true _ H D.s1 D.s2 dnl
  refine callK0 ci ?_
  rintro _ H2 ⟨uXb,KXb,rfl,o⟩
  have Xb:=TB.res o
  have x0:=o.ext.trans (Ext.push _ [⟨true,true,32,[.slice uXb (treeItems d).length (treeItems d).length]⟩])
  replace A:=A.ext x0
  replace B:=B.ext x0
  replace D:=D.ext x0
  replace Xa:=Xa.ext x0
  clear o x0 ci
  clear cA cB cD cXa
  simp -implicitDefEqProofs
  obtain ⟨bXb,hbXb⟩:∃ bXb,bXb=H2.length:=⟨_,rfl⟩
  rw [← hbXb] at Xb ⊢
  generalize H2++[(⟨true,true,32,[.slice uXb (treeItems d).length (treeItems d).length]⟩:Ob)]=H at A B D Xa Xb ⊢
  clear hbXb
  have cA:=A.cells
  have cB:=B.cells
  have cD:=D.cells
  have cXa:=Xa.cells
  have cXb:=Xb.cells
  have hlf:=treeItems_le f
  have hld:=treeItems_le d
  clear cA cB cD cXa cXb A B D
  generalize treeItems f=xs at *
  generalize treeItems d=ys at *
  refine aloop mixed [13,14,15] (fun (y:Nat × Hp)=>[.pointer (some ⟨bXa,0,none⟩),.pointer (some ⟨bXb,0,none⟩),.int .i64 y.1]) (fun y=>H++y.2) (fun y=>y.1≤xs.length) (fun y=>xs.length - y.1) (0,[]) (by simp) rfl (by simp) ?_
  rintro ⟨i,l⟩ hi
  simp only at hi
  replace Xa:=Xa.ext (Ext.push H l)
  replace Xb:=Xb.ext (Ext.push H l)
  have ca:=Xa.cells
  have cb:=Xb.cells
  have caX:=Xa.cellsX
  simp -implicitDefEqProofs [mkF,ca]
  refine asplitK_intro (fun hc=>?_) (fun hc=>?_) <;> simp at hc <;> simp -implicitDefEqProofs [hc]
  · have hxi:=l5 _ (List.getElem_mem hc)
    obtain ⟨o',off',rfl,q0,q1,q2,q3⟩:=itemAt Xa.s hc
    refine drawS true 11 [0,1,2,3,4,5,6,7,8,9,10] [12,13] (by simp; rfl) (by simp; rfl) (by simp; rfl) (by kernel_rfl) ?_
    simp -implicitDefEqProofs [ca,cb,hc,q0]
    refine callK (treeGet_impl_c ys xs[i].path uXb KXb true _ (H++l) Xb.s (by omega)) ?_
    rintro _ _ ⟨⟨v,rfl⟩,rfl⟩
    refine ⟨fun _=>Ext.push _ _,?_⟩
    rw [hxi]
    have up:=fun (m:Hp) (oo ii:Nat) (vv:Value) (cq:cellAt (H++l) oo ii=some vv)=>cell_up (Ext.push (H++l) m) cq
    have s0:=fun m=>up m _ _ _ q0
    have s1:=fun m=>up m _ _ _ q1
    have s2:=fun m=>up m _ _ _ q2
    have s3:=fun m=>up m _ _ _ q3
    simp only [List.append_assoc] at s0 s1 s2 s3 caX
    simp -implicitDefEqProofs [Item.v,caX,hc]
    refine drawK true (by kernel_rfl) ?_
    simp -implicitDefEqProofs [caX,hc,s0,s1,s2,s3]
    exact anext (i+1,l++(v++[⟨true,true,38,[.string (S xs[i].path),.int .i64 xs[i].kind,.string (S xs[i].data),.int .i64 xs[i].time]⟩])) hc (by simp only; omega) (by simp [pickF,wrap_succ (show i<9223372036854775807 by omega)]) rfl (by simp)
  simp -implicitDefEqProofs [ca,cb,l6]
theorem FnRenamed_v (h:Hp) (avs:List Value) (hv:All2 (fun V av=>V h av) [(V1 (slE false 5 byteE) fun xs=>xs.length≤maxLen∧∀ x∈xs,True)] avs):ACall Tryz.prog 4 avs h fun r _=>r=.bool true:=by
  obtain ⟨v0,vs0,rfl,q0,hv⟩:=All2.cons_iff.1 hv
  obtain rfl:=All2.nil_iff.1 hv
  obtain ⟨xs,F,⟨a,ea,hr⟩,hl,hx⟩:=q0
  obtain rfl:v0=_:=List.cons.inj ea |>.1
  exact FnRenamed_c xs a F false _ h hr
end Go.Proofs.YtmpgpkdijfcfhaaGreat.Hz
