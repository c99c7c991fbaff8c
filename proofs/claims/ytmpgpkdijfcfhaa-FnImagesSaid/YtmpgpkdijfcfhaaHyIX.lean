/- The law of images: its walk. -/
import Derived.Test.YtmpgpkdijfcfhaaHyIZ
import Derived.Test.YtmpgpkdijfcfhaaHyIV
import Derived.Test.YtmpgpkdijfcfhaaHyJB
import Derived.Test.YtmpgpkdijfcfhaaHySM
import Derived.Test.YtmpgpkdijfcfhaaHyGO
namespace Go.Proofs.Ytmpgpkdijfcfhaa.Hz
open Go.RowKit
set_option linter.unusedVariables false
set_option linter.unusedSimpArgs false
set_option maxRecDepth 20000
theorem big_cx (code:Str) (a:Option Addr) (h:Hp):ACall Try.prog 14 [.slice a code.length code.length] h fun r h'=>h'=h∧r=.bool (decide (1048576<(code.length:Int))):=by
  refine acall mixed Try.func14 rfl (by kernel_rfl) ?_
  simp [Try.f14]
theorem sameTextsX_c (xs ys:List Str) (a b:Option Addr) (F G:List Nat) (w w':Bool) (t t':TypeId) (h:Hp) (hx:slR w t strE h xs a F) (hy:slR w' t' strE h ys b G) (hl:xs.length≤1048576) :
    ACall Try.prog 22 [.slice a xs.length xs.length,.slice b ys.length ys.length] h fun r h'=>(∃ t,h'=h++t)∧r=.bool (decide (xs=ys)):=by
  refine acall mixed Try.func22 rfl (by kernel_rfl) ?_
  simp [Try.f22]
  refine aSI (fun hb=>?_) (fun hb=>?_) <;> simp at hb <;> simp [hb]
  · rintro rfl; exact hb rfl
  have hl2:xs.length=ys.length:=by omega
  refine aloop mixed [0,1,5] (fun (x:Nat × Hp)=>[.slice a xs.length xs.length,.slice b ys.length ys.length,.int .i64 x.1]) (fun x=>h++x.2) (fun x=>x.1≤xs.length∧xs.take x.1=ys.take x.1) (fun x=>xs.length - x.1) (0,[]) ⟨by simp,by simp⟩ (by simp [pickF]) (by simp) ?_
  rintro ⟨k,t⟩ ⟨hk,he⟩
  simp only at hk he
  simp [mkF]
  refine aSI (fun hc=>?_) (fun hc=>?_) <;> simp at hc <;> simp [hc]
  · have hc2:k<ys.length:=by omega
    obtain ⟨o,off,rfl,c0⟩:=strEAt (hx.ext (Ext.push h t)) hc
    obtain ⟨o',off',rfl,d0⟩:=strEAt (hy.ext (Ext.push h t)) hc2
    refine drawK false (by kernel_rfl) ?_
    simp [hc,hc2,c0,d0]
    refine aSI (fun hd=>?_) (fun hd=>?_) <;> simp at hd <;> simp [hd]
    · exact anext (k+1,t) ⟨hc,take_snoc hc hc2 he hd⟩ (by simp only; omega) (by simp [pickF,wS (show k<9223372036854775807 by omega)]) (by simp) (by simp)
    · rintro rfl; exact hd rfl
  · obtain rfl:k=xs.length:=by omega
    exact take_all (by omega) he
theorem homesOf_c (f:Fs) (a1 a2:Option Addr) (F1 F2:List Nat) (w:Bool) (tNode:TypeId) (h:Hp) (k1:slR w tNode (nodeE w) h f.nodes a1 F1) (k2:slR w 9 strE h f.data a2 F2) (hl:f.nl≤1048576) :
    ACall Try.prog 23 [.agg #[.slice a1 f.nodes.length f.nodes.length,.slice a2 f.data.length f.data.length]] h fun r h'=>(∃ t,h'=h++t)∧r=.int .i64 (if shapeOk f then ((2+f.nodes.length+f.data.length:Nat):Int) else 0):=by
  refine acall mixed Try.func23 rfl (by kernel_rfl) ?_
  have hlim:=Fs.lim_of f hl
  have hN:f.data.length≤1048576:=hlim.2.2
  have hM:f.nodes.length≤1048576:=hlim.1
  simp [Try.f23]
  refine cK (shapeOk_impl_c f a1 a2 F1 F2 w tNode _ (k1.to (by simp)) (k2.to (by simp)) hl) ?_
  rintro _ _ ⟨⟨t1,rfl⟩,rfl⟩
  cases e1:shapeOk f
  · simp
  · have w1:IntKind.i64.wrap (2+(f.nodes.length:Int))=2+(f.nodes.length:Int):=wrap_in (by omega) (by omega)
    have w2:IntKind.i64.wrap (2+(f.nodes.length:Int)+(f.data.length:Int))=2+(f.nodes.length:Int)+(f.data.length:Int):=wrap_in (by omega) (by omega)
    simp [w1,w2]
structure IB (H:Hp) (b:Nat) (f:Fs) (a1 a2:Option Addr) (F1 F2:List Nat):Prop where
  box:H[b]?=some ⟨true,true,26,[.slice a1 f.nodes.length f.nodes.length,.slice a2 f.data.length f.data.length]⟩
  s1:slR true 49 (nodeE true) H f.nodes a1 F1
  s2:slR true 9 strE H f.data a2 F2
section
variable {H H2:Hp} {b:Nat} {f:Fs} {a1 a2:Option Addr} {F1 F2:List Nat}
theorem IB.ext (k:IB H b f a1 a2 F1 F2) (x:Ext H H2):IB H2 b f a1 a2 F1 F2:=⟨(x.2 b (get_lt k.box)).trans k.box,k.s1.ext x,k.s2.ext x⟩
theorem IB.cells (k:IB H b f a1 a2 F1 F2):∀ j,cellAt H b j=([Value.slice a1 f.nodes.length f.nodes.length,.slice a2 f.data.length f.data.length])[j]?:=fun j=>by simp [cellAt,k.box]
theorem IB.cellsX (k:IB H b f a1 a2 F1 F2):∀ l j,cellAt (H++l) b j=([Value.slice a1 f.nodes.length f.nodes.length,.slice a2 f.data.length f.data.length])[j]?:=fun l=>(k.ext (Ext.push H l)).cells
theorem IB.of (s1:slR true 49 (nodeE true) H f.nodes a1 F1) (s2:slR true 9 strE H f.data a2 F2):IB (H++[⟨true,true,26,[.slice a1 f.nodes.length f.nodes.length,.slice a2 f.data.length f.data.length]⟩]) H.length f a1 a2 F1 F2 :=
  ⟨by simp,s1.ext (Ext.push _ _),s2.ext (Ext.push _ _)⟩
end
theorem applyP_take (X:List Str) (ds:List Put) (i:Nat) (hi:i<ds.length):applyP X (ds.take (i+1))=(applyP X (ds.take i)).set ds[i].at_.toNat ds[i].data:=by
  unfold applyP
  rw [List.take_succ_eq_append_getElem hi,List.foldl_append]
  rfl
set_option maxHeartbeats 16000000 in
theorem FnImages_c (code:Str) (a:Option Addr) (F:List Nat) (w:Bool) (t:TypeId) (h:Hp) (k:slR w t byteE h code a F) :
    ACall Try.prog 4 [.slice a code.length code.length] h fun r _=>r=.bool true:=by
  refine acall mixed Try.func4 rfl (by kernel_rfl) ?_
  simp -implicitDefEqProofs [Try.f4]
  refine cK (big_cx code a h) ?_
  rintro _ _ ⟨rfl,rfl⟩
  simp -implicitDefEqProofs
  refine aSI (fun hb=>?_) (fun hb=>?_) <;> simp at hb <;> simp -implicitDefEqProofs
  refine cK (drawFsBlocks_c code a F w t _ k (by omega)) ?_
  rintro _ H1 ⟨f,b1,b2,G1,G2,rfl,fi,x1⟩
  replace k:=k.ext x1
  simp -implicitDefEqProofs
  have nlf:f.nl≤1048576:=by have:=fi.nl; omega
  have I1:=IB.of fi.s1 fi.s2
  replace k:=k.ext (Ext.push H1 [(⟨true,true,26,[.slice b1 f.nodes.length f.nodes.length,.slice b2 f.data.length f.data.length]⟩:Ob)])
  obtain ⟨p3,hp3⟩:∃ p,p=H1.length:=⟨_,rfl⟩
  generalize hHb:H1++[(⟨true,true,26,[.slice b1 f.nodes.length f.nodes.length,.slice b2 f.data.length f.data.length]⟩:Ob)]=H at I1 k ⊢
  rw [← hp3] at I1 ⊢
  clear hHb fi x1 hp3
  have q:=I1.cells
  try simp -implicitDefEqProofs [q]
  refine cK (fsBlocks_impl_c f b1 b2 G1 G2 true _ H I1.s1 I1.s2 nlf) ?_
  rintro _ H2 ⟨b,G,-,rfl,o⟩
  obtain ⟨l48,lb⟩:=blocks_bd f
  obtain ⟨fe1,fe2⟩:=fsI_text f
  replace I1:=I1.ext o.ext
  replace k:=k.ext o.ext
  have lsum:=sum_le (c:=1000) (fsBlocks f) lb
  try simp -implicitDefEqProofs
  refine cK (fsOf_impl_c (fsBlocks f) b G true H2 o.sl (by omega)) ?_
  rintro _ H3 ⟨v,rfl,r⟩
  obtain ⟨c1,K1,c2,K2,rfl,o1,o2,-⟩:=r
  replace I1:=I1.ext o1.ext
  replace k:=k.ext o1.ext
  simp -implicitDefEqProofs
  have I2:=IB.of o1.sl o2.sl
  replace I1:=I1.ext (Ext.push H3 [(⟨true,true,26,[.slice c1 (fsI (fsBlocks f)).1.nodes.length (fsI (fsBlocks f)).1.nodes.length,.slice c2 (fsI (fsBlocks f)).1.data.length (fsI (fsBlocks f)).1.data.length]⟩:Ob)])
  replace k:=k.ext (Ext.push H3 [(⟨true,true,26,[.slice c1 (fsI (fsBlocks f)).1.nodes.length (fsI (fsBlocks f)).1.nodes.length,.slice c2 (fsI (fsBlocks f)).1.data.length (fsI (fsBlocks f)).1.data.length]⟩:Ob)])
  obtain ⟨p5,hp5⟩:∃ p,p=H3.length:=⟨_,rfl⟩
  generalize hHb:H3++[(⟨true,true,26,[.slice c1 (fsI (fsBlocks f)).1.nodes.length (fsI (fsBlocks f)).1.nodes.length,.slice c2 (fsI (fsBlocks f)).1.data.length (fsI (fsBlocks f)).1.data.length]⟩:Ob)]=HC at I1 I2 k ⊢
  rw [← hp5] at I2 ⊢
  clear hHb o o1 o2 hp5 q
  rw [fe1]
  generalize (fsI (fsBlocks f)).1=g at I2 fe2 ⊢
  have q1:=I1.cells
  have q2:=I2.cells
  try simp -implicitDefEqProofs [q1,q2]
  refine cK (shapeOk_spec_c f b1 b2 G1 G2 true _ HC I1.s1 I1.s2 nlf) ?_
  rintro _ _ ⟨⟨t1,rfl⟩,rfl⟩
  replace I1:=I1.ext (Ext.push HC t1)
  replace I2:=I2.ext (Ext.push HC t1)
  replace k:=k.ext (Ext.push HC t1)
  generalize HC++t1=HD at I1 I2 k ⊢
  clear q1 q2
  have q1:=I1.cells
  have q2:=I2.cells
  cases e1:shapeOk f
  case' false=>simp -implicitDefEqProofs
  case' true =>
    obtain rfl:=fe2 e1
    simp -implicitDefEqProofs [q1,q2]
    refine cK (fsSame_spec_c g g b1 c1 G1 K1 b2 c2 G2 K2 true true _ _ HD I1.s1 I2.s1 I1.s2 I2.s2 (Fs.lim_of g nlf)) ?_
    rintro _ _ ⟨⟨t2,rfl⟩,rfl⟩
    replace k:=k.ext (Ext.push HD t2)
    generalize HD++t2=HD at k ⊢
    simp -implicitDefEqProofs
  all_goals
    clear I1 I2 q1 q2 fe1
    refine cK (drawDiff_c code a F w t _ k (by omega)) ?_
    rintro _ HE ⟨x2,fA,fB,a1,a2,d1,d2,A1,A2,D1,D2,rfl,sA1,sA2,nA,sB1,sB2,nB⟩
    replace k:=k.ext x2
    simp -implicitDefEqProofs
    have IA:IB (HE++[(⟨true,true,26,[.slice a1 fA.nodes.length fA.nodes.length,.slice a2 fA.data.length fA.data.length]⟩:Ob),⟨true,true,26,[.slice d1 fB.nodes.length fB.nodes.length,.slice d2 fB.data.length fB.data.length]⟩]) HE.length fA a1 a2 A1 A2:=⟨by simp,sA1.ext (Ext.push _ _),sA2.ext (Ext.push _ _)⟩
    have IBB:IB (HE++[(⟨true,true,26,[.slice a1 fA.nodes.length fA.nodes.length,.slice a2 fA.data.length fA.data.length]⟩:Ob),⟨true,true,26,[.slice d1 fB.nodes.length fB.nodes.length,.slice d2 fB.data.length fB.data.length]⟩]) (HE.length+1) fB d1 d2 D1 D2:=⟨by simp,sB1.ext (Ext.push _ _),sB2.ext (Ext.push _ _)⟩
    replace k:=k.ext (Ext.push HE [(⟨true,true,26,[.slice a1 fA.nodes.length fA.nodes.length,.slice a2 fA.data.length fA.data.length]⟩:Ob),⟨true,true,26,[.slice d1 fB.nodes.length fB.nodes.length,.slice d2 fB.data.length fB.data.length]⟩])
    obtain ⟨p7,hp7⟩:∃ p,p=HE.length:=⟨_,rfl⟩
    obtain ⟨p8,hp8⟩:∃ p,p=HE.length+1:=⟨_,rfl⟩
    generalize hHb:HE++[(⟨true,true,26,[.slice a1 fA.nodes.length fA.nodes.length,.slice a2 fA.data.length fA.data.length]⟩:Ob),⟨true,true,26,[.slice d1 fB.nodes.length fB.nodes.length,.slice d2 fB.data.length fB.data.length]⟩]=HF at IA IBB k ⊢
    rw [← hp8] at IBB ⊢
    rw [← hp7] at IA ⊢
    clear hHb sA1 sA2 sB1 sB2 x2 hp7 hp8
    have hlA:fA.nl≤1048576:=by omega
    have hlB:fB.nl≤1048576:=by omega
    have hkF:∀ q∈F,q<HF.length:=fun q hq=>k.lt q hq
    obtain ⟨lX,bX⟩:=blocks_bd fA
    obtain ⟨lY,bY⟩:=blocks_bd fB
    have qA:=IA.cells
    have qB:=IBB.cells
    try simp -implicitDefEqProofs [qA,qB]
    refine cK (fsBlocks_impl_c fA a1 a2 A1 A2 true _ HF IA.s1 IA.s2 hlA) ?_
    rintro _ HG ⟨ax,Fx,-,rfl,ox⟩
    replace IA:=IA.ext ox.ext
    replace IBB:=IBB.ext ox.ext
    replace k:=k.ext ox.ext
    have qA:=IA.cells
    have qB:=IBB.cells
    try simp -implicitDefEqProofs [qA,qB]
    refine cK (fsBlocks_impl_c fB d1 d2 D1 D2 true _ HG IBB.s1 IBB.s2 hlB) ?_
    rintro _ HI ⟨ay,Fy,-,rfl,oy⟩
    replace IA:=IA.ext oy.ext
    replace IBB:=IBB.ext oy.ext
    replace k:=k.ext oy.ext
    have sx:=ox.sl.ext oy.ext
    have qA:=IA.cells
    have qB:=IBB.cells
    try simp -implicitDefEqProofs [qA,qB]
    refine cK (diff_impl_c fA fB a1 a2 A1 A2 true _ d1 d2 D1 D2 true _ HI IA.s1 IA.s2 hlA IBB.s1 IBB.s2 hlB) ?_
    rintro _ HJ ⟨ad,Fd,rfl,od⟩
    replace k:=k.ext od.ext
    replace sx:=sx.ext od.ext
    have sy:=oy.sl.ext od.ext
    have sd:=od.sl
    have y1:∀ q∈Fy,q ∉ Fx:=fun q hq hm=>by have h1:=oy.new q hq; have h2:=ox.sl.lt q hm; omega
    have z1:∀ q∈Fd,q ∉ Fx:=fun q hq hm=>by have h1:=od.new q hq; have h2:=ox.sl.lt q hm; have h3:=oy.ext.1; omega
    have k1:∀ q∈F,q ∉ Fx:=fun q hq hm=>by have h1:=ox.new q hm; have h2:=hkF q hq; omega
    have ndx:=ox.nd
    clear IA IBB ox oy od qA qB
    simp -implicitDefEqProofs
    refine aSI (fun hl=>?_) (fun hl=>?_) <;> simp at hl
    · have hd:diff fA fB=[]:=by unfold diff; rw [if_neg (by omega)]
      rw [hd]
      simp -implicitDefEqProofs
    have hle:(fsBlocks fA).length=(fsBlocks fB).length:=by omega
    have hd:diff fA fB=diffUp (fsBlocks fA) (fsBlocks fB) (fsBlocks fA).length:=by unfold diff; rw [if_pos hle]
    have hap:=applyP_up (fsBlocks fA) (fsBlocks fB) hle (fsBlocks fA).length (Nat.le_refl _)
    rw [← hd,List.drop_length,List.append_nil,List.take_of_length_le (by omega)] at hap
    have hmem:∀ p∈diff fA fB,0≤p.at_∧p.at_<(fsBlocks fA).length:=fun p hp=>diffUp_mem _ _ _ p (by rw [← hd]; exact hp)
    have hdl:=diff_len fA fB
    generalize diff fA fB=ds at *
    generalize fsBlocks fA=X at *
    generalize fsBlocks fB=Y at *
    simp -implicitDefEqProofs
    refine aloop mixed [0,9,10,11,12] (fun (y:Nat × Hp)=>[.slice a code.length code.length,.slice ax X.length X.length,.slice ay Y.length Y.length,.slice ad ds.length ds.length,.int .i64 y.1]) (fun y=>y.2)
      (fun y=>y.1≤ds.length∧slR true 9 strE y.2 (applyP X (ds.take y.1)) ax Fx∧HJ.length=y.2.length∧∀ q,q ∉ Fx→y.2[q]?=HJ[q]?) (fun y=>ds.length - y.1) (0,HJ) ⟨by simp,by simpa [applyP] using sx,rfl,fun _ _=>rfl⟩ rfl rfl ?_
    rintro ⟨i,H⟩ ⟨hi,si,hlen,fr⟩
    simp only at hi si hlen fr
    have sy':=sy.frame (fun q hq=>fr q (y1 q hq))
    have sd':=sd.frame (fun q hq=>fr q (z1 q hq))
    have k':=k.frame (fun q hq=>fr q (k1 q hq))
    simp -implicitDefEqProofs [mkF]
    refine aSI (fun hc=>?_) (fun hc=>?_) <;> simp at hc
    · obtain ⟨o,off,rfl,c0,c1⟩:=putAt sd' hc
      obtain ⟨m0,m1⟩:=hmem ds[i] (List.getElem_mem hc)
      have hst:=applyP_take X ds i hc
      have hln:=applyP_len (ds.take i) X
      obtain ⟨n,hn⟩:=Int.eq_ofNat_of_zero_le m0
      rw [hn] at c0 m1 hst
      have hnl:n<(applyP X (ds.take i)).length:=by omega
      obtain ⟨o',off',rfl,-⟩:=strEAt si hnl
      have ko:=Own.any si ndx
      have hF:=Own.flatF ko
      obtain ⟨g1,F1,g2⟩:=Own.putFlat ko hnl ds[i].data 0 [.string (S ds[i].data)] (by simp) rfl
      simp only [Nat.mul_one,Nat.add_zero,List.length_cons,List.length_nil,Nat.zero_add] at g1 g2
      have hF1:=Own.flatF g2
      have hFF:F1=Fx:=by rw [hF,← hF1]
      subst hFF
      have ho:o'∈F1:=by rw [hF]; simp
      have hn1:¬ (n:Int)<0:=by omega
      have hn2:¬ (X.length:Int)≤n:=by omega
      have hn3:n<X.length:=by omega
      simp -implicitDefEqProofs [hc,c0,c1,hn1,hn2]
      refine drawK false (by kernel_rfl) ?_
      simp -implicitDefEqProofs [hc,c0,c1,hn3,g1]
      exact anext (i+1,sA_ H o' (off'+n) [.string (S ds[i].data)]) ⟨hc,by simp only; rw [hst]; exact g2.sl,by simp only; rw [sAl]; exact hlen,fun q hq=>by simp only; rw [sAg,if_neg (show ¬ o'=q from fun e=>hq (by rw [← e]; exact ho))]; exact fr q hq⟩ (by simp only; omega) (by simp [pickF,wS (show i<9223372036854775807 by omega)]) rfl (by simp)
    · obtain rfl:i=ds.length:=by omega
      rw [List.take_length,hap] at si
      simp only [hle]
      simp -implicitDefEqProofs
      refine cK (drawFsOf_c code a F w t H k' (by omega)) ?_
      rintro _ HK ⟨x3,T,ta,tF,cp,rfl,hcp,sT,lT48,lT⟩
      have sX:=si.ext x3
      have sY:=sy'.ext x3
      have lTs:=sum_le (c:=1001) T lT
      have hTb:T.length+sumL List.length T≤1048576:=by omega
      clear si sy' sd' k' k sx sy sd
      simp -implicitDefEqProofs
      refine cK ((fsOf_impl_c T ta tF true HK sT hTb).cap hcp) ?_
      rintro _ HL ⟨v,rfl,r⟩
      obtain ⟨u1,U1,u2,U2,rfl,o1,o2,-⟩:=r
      replace sX:=sX.ext o1.ext
      replace sY:=sY.ext o1.ext
      replace sT:=sT.ext o1.ext
      have IH:=IB.of o1.sl o2.sl
      obtain ⟨p14,hp14⟩:∃ p,p=HL.length:=⟨_,rfl⟩
      have hgag:=fs_agree T
      have hyes:(fsI T).2=true→shapeOk (fsI T).1=true∧fsBlocks (fsI T).1=T:=fsI_yes
      simp -implicitDefEqProofs
      replace sX:=sX.ext (Ext.push HL [(⟨true,true,26,[.slice u1 (fsI T).1.nodes.length (fsI T).1.nodes.length,.slice u2 (fsI T).1.data.length (fsI T).1.data.length]⟩:Ob)])
      replace sY:=sY.ext (Ext.push HL [(⟨true,true,26,[.slice u1 (fsI T).1.nodes.length (fsI T).1.nodes.length,.slice u2 (fsI T).1.data.length (fsI T).1.data.length]⟩:Ob)])
      replace sT:=sT.ext (Ext.push HL [(⟨true,true,26,[.slice u1 (fsI T).1.nodes.length (fsI T).1.nodes.length,.slice u2 (fsI T).1.data.length (fsI T).1.data.length]⟩:Ob)])
      generalize hHb:HL++[(⟨true,true,26,[.slice u1 (fsI T).1.nodes.length (fsI T).1.nodes.length,.slice u2 (fsI T).1.data.length (fsI T).1.data.length]⟩:Ob)]=HM at IH sX sY sT ⊢
      rw [← hp14] at IH ⊢
      clear hHb hp14 o1 o2
      refine cK ((fsOf_spec_c T ta tF true HM sT hTb).cap hcp) ?_
      rintro _ HN ⟨v,rfl,r⟩
      obtain ⟨w1,W1,w2,W2,rfl,o3,o4,-⟩:=r
      rw [← hgag]
      rw [← hgag] at o3 o4
      replace sX:=sX.ext o3.ext
      replace sY:=sY.ext o3.ext
      replace sT:=sT.ext o3.ext
      replace IH:=IH.ext o3.ext
      simp -implicitDefEqProofs
      replace sX:=sX.ext (Ext.push HN [(⟨true,true,26,[.slice w1 (fsI T).1.nodes.length (fsI T).1.nodes.length,.slice w2 (fsI T).1.data.length (fsI T).1.data.length]⟩:Ob)])
      replace sY:=sY.ext (Ext.push HN [(⟨true,true,26,[.slice w1 (fsI T).1.nodes.length (fsI T).1.nodes.length,.slice w2 (fsI T).1.data.length (fsI T).1.data.length]⟩:Ob)])
      replace sT:=sT.ext (Ext.push HN [(⟨true,true,26,[.slice w1 (fsI T).1.nodes.length (fsI T).1.nodes.length,.slice w2 (fsI T).1.data.length (fsI T).1.data.length]⟩:Ob)])
      replace IH:=IH.ext (Ext.push HN [(⟨true,true,26,[.slice w1 (fsI T).1.nodes.length (fsI T).1.nodes.length,.slice w2 (fsI T).1.data.length (fsI T).1.data.length]⟩:Ob)])
      generalize HN++[(⟨true,true,26,[.slice w1 (fsI T).1.nodes.length (fsI T).1.nodes.length,.slice w2 (fsI T).1.data.length (fsI T).1.data.length]⟩:Ob)]=HO at IH sX sY sT ⊢
      clear o3 o4
      refine cK (sameTextsX_c Y Y ax ay Fx Fy true true _ _ HO sX sY (by omega)) ?_
      rintro _ _ ⟨⟨t9,rfl⟩,rfl⟩
      replace IH:=IH.ext (Ext.push HO t9)
      replace sT:=sT.ext (Ext.push HO t9)
      generalize HO++t9=HP at IH sT ⊢
      have qI:=IH.cells
      cases hfine:(fsI T).2
      · simp -implicitDefEqProofs
      · obtain ⟨s1,s2⟩:=hyes hfine
        generalize (fsI T).1=gI at *
        have hnl:gI.nl≤1048576:=by have:=(shapeOk_iff.1 s1).small.nl; omega
        simp -implicitDefEqProofs [qI]
        refine cK (fsBlocks_impl_c gI u1 u2 U1 U2 true _ HP IH.s1 IH.s2 hnl) ?_
        rintro _ HQ ⟨ag,Fg,-,rfl,og⟩
        rw [s2] at og ⊢
        replace IH:=IH.ext og.ext
        replace sT:=sT.ext og.ext
        simp -implicitDefEqProofs
        refine cK ((sameTextsX_c T T ag ta Fg tF true true _ _ HQ og.sl sT (by omega)).cap2 hcp) ?_
        rintro _ _ ⟨⟨t8,rfl⟩,rfl⟩
        replace IH:=IH.ext (Ext.push HQ t8)
        have qJ:=IH.cells
        simp -implicitDefEqProofs [qJ]
        refine cK (homesOf_c gI u1 u2 U1 U2 true _ _ IH.s1 IH.s2 hnl) ?_
        rintro _ _ ⟨⟨t7,rfl⟩,rfl⟩
        have hh:=blocks_homes s1
        rw [s2] at hh
        rw [if_pos s1,← hh]
        simp -implicitDefEqProofs
end Go.Proofs.Ytmpgpkdijfcfhaa.Hz
