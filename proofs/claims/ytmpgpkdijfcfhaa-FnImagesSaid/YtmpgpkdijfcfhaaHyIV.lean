/- The draw of a list of texts near an image's. -/
import Derived.Test.YtmpgpkdijfcfhaaHyIW
namespace Go.Proofs.Ytmpgpkdijfcfhaa.Hz
open Go.RowKit
set_option linter.unusedVariables false
set_option linter.unusedSimpArgs false
set_option maxRecDepth 20000
structure SLi (h1:Hp) (c:Nat) (H:Hp) (xs:List Str) (a:Option Addr) (F:List Nat):Prop where
  dr:Dr c h1 H
  d:Draw H c
  s:slR true 9 strE H xs a F
  nd:F.Nodup
  w:∀ q∈F,h1.length≤q
section
variable {h1 H H2:Hp} {c:Nat} {xs:List Str} {a:Option Addr} {F:List Nat}
theorem SLi.step (l:SLi h1 c H xs a F) (hc:c<h1.length) (y:Dr c H H2) (d:Draw H2 c):SLi h1 c H2 xs a F :=
  ⟨l.dr.trans y,d,y.sl l.s (fun hm=>by have:=l.w _ hm; omega),l.nd,l.w⟩
theorem SLi.put (l:SLi h1 c H xs a F) (hc:c<h1.length) {i:Nat} (hi:i<xs.length) (y:Str) :
    ∃ o off,a=some ⟨o,off,none⟩∧cellAt H o (off+i)=some (.string (S xs[i]))∧cS_ H o (off+i) 1=true∧SLi h1 c (sA_ H o (off+i) [.string (S y)]) (xs.set i y) a F:=by
  obtain ⟨o,off,rfl,c0⟩:=strEAt l.s hi
  have k:=Own.any l.s l.nd
  have hF:=Own.flatF k
  obtain ⟨e1,F1,e2⟩:=Own.putFlat k hi y 0 [.string (S y)] (by simp) rfl
  simp only [Nat.mul_one,Nat.add_zero,List.length_cons,List.length_nil,Nat.zero_add] at e1 e2
  have hF1:=Own.flatF e2
  have hFF:F1=F:=by rw [hF,← hF1]
  subst hFF
  have ho:o∈F1:=by rw [hF]; simp
  have hw:=l.w o ho
  have hne:∀ q,q≠o→(sA_ H o (off+i) [.string (S y)])[q]?=H[q]?:=fun q hq=>by rw [sAg,if_neg (fun e=>hq e.symm)]
  refine ⟨o,off,rfl,c0,e1,⟨by rw [sAl]; exact l.dr.1,fun q hq hn=>?_⟩,l.d.frame fun q hq=>hne q (by omega),e2.sl,l.nd,l.w⟩
  rw [hne q (by omega)]; exact l.dr.2 q hq hn
end
set_option maxHeartbeats 2000000 in
theorem l1Bytes_c (m:Nat) (c:Nat) (h:Hp) (d:Draw h c) (hm:m≤100) :
    ACall Try.prog 53 [.pointer (some ⟨c,0,none⟩),.int .i64 m] h fun r h'=>Dr c h h'∧Draw h' c∧∃ (s:Str) (a:Option Addr) (F:List Nat),r=.slice a s.length s.length∧slR true 5 byteE h' s a F∧s.length≤m:=by
  refine acall mixed Try.func53 rfl (by kernel_rfl) ?_
  have hc:=d.lt
  simp [Try.f53]
  have o0:=empty1 byteE h 5
  refine aloop mixed [0,1,5,6] (fun (y:Nat × Str × Option Addr × Hp)=>[.pointer (some ⟨c,0,none⟩),.int .i64 m,.slice y.2.2.1 y.2.1.length y.2.1.length,.int .i64 y.1]) (fun y=>y.2.2.2)
    (fun y=>y.1≤m∧y.2.1.length≤y.1∧Dr c h y.2.2.2∧Draw y.2.2.2 c∧∃ F,slR true 5 byteE y.2.2.2 y.2.1 y.2.2.1 F∧F.Nodup∧∀ q∈F,h.length≤q) (fun y=>m - y.1) (0,[],some ⟨h.length,0,none⟩,h++[⟨true,true,5,[]⟩]) ⟨by simp,by simp,Dr.of_ext (Ext.push _ _),d.ext (Ext.push _ _),_,o0.sl,o0.nd,o0.new⟩ rfl rfl ?_
  rintro ⟨i,s,a,H⟩ ⟨hi,hs,dr,dH,F,sl,nd,new⟩
  simp only at hi hs dr dH sl
  simp [mkF]
  refine aSI (fun hb=>?_) (fun hb=>?_) <;> simp at hb <;> simp [hb]
  · refine cK (l1Byte_c c H dH) ?_
    rintro _ H2 ⟨dr2,d2,z,rfl,hz0,hz1⟩
    have w3:IntKind.u8.wrap z=z:=wrap_u8 (by omega) (by omega)
    obtain ⟨u,hu⟩:∃ u:UInt8,(u.toNat:Int)=z:=⟨UInt8.ofNat z.toNat,by rw [u8_ofNat (by omega)]; omega⟩
    have hcF:c ∉ F:=fun hm=>by have:=new c hm; omega
    have hl:=dr.1
    have hl2:=dr2.1
    obtain ⟨a',H',F',e1,e2,e3,e4,e5⟩:=(Own.any (dr2.sl sl hcF) nd).append1D (P:=Try.prog) u (cs:=[.int .u8 u.toNat]) rfl (st:=34) (xt:=34) (bt:=1) (z:=[.int .u8 0]) (by simp) (by simp) (by unfold big; omega) (by unfold big; omega)
    rw [← hu] at w3
    simp [w3,← hu,e1]
    refine anext (i+1,s++[u],a',H') ⟨hb,by simp; omega,⟨by simp only; omega,fun q hq hn=>by rw [e3 q (by omega) (fun hm=>by have:=new q hm; omega)]; exact (dr.trans dr2).2 q hq hn⟩,d2.frame fun q hq=>e3 q (by omega) (fun hm=>by have:=new q hm; omega),F',e2.sl,e2.nd,fun q hq=>?_⟩ (by simp only; omega) (by simp [pickF,wS (show i<9223372036854775807 by omega)]) rfl (by simp)
    rcases e4 q hq with h1 | h1
    · exact new q h1
    · omega
  · exact ⟨dr,dH,s,_,⟨rfl,rfl⟩,⟨F,sl⟩,by omega⟩
def LIn (h H:Hp) (r:Value):Prop:=Ext h H∧∃ (xs:List Str) (a:Option Addr) (F:List Nat) (cp:Nat),r=.slice a xs.length cp∧xs.length≤cp∧slR true 9 strE H xs a F∧xs.length≤48∧∀ s∈xs,s.length≤1001
theorem LIn.mk {h H:Hp} {xs:List Str} {a:Option Addr} {F:List Nat} {n cp:Nat} (ex:Ext h H) (s:slR true 9 strE H xs a F) (e:n=xs.length) (hc:n≤cp) (h1:xs.length≤48) (h2:∀ s∈xs,s.length≤1001):LIn h H (.slice a n cp):=⟨ex,xs,a,F,cp,by rw [e],by omega,s,h1,h2⟩
theorem set_bd {xs:List Str} {i:Nat} {y:Str} {k:Nat} (h:∀ s∈xs,s.length≤k) (hy:y.length≤k):∀ s∈xs.set i y,s.length≤k:=fun s hs=>(List.mem_or_eq_of_mem_set hs).elim (h s) fun e=>e ▸ hy
def headTexts:List Str:=[[],[66,65,83,78],[66,65,83,78,5,9],[66,65,83,77,5,9],[66,65,83,78,128,1]]
set_option maxHeartbeats 4000000 in
theorem drawFsOf_c (code:Str) (a:Option Addr) (F:List Nat) (w:Bool) (t:TypeId) (h:Hp) (k:slR w t byteE h code a F) (hn:code.length≤1048576) :
    ACall Try.prog 21 [.slice a code.length code.length] h fun r h'=>LIn h h' r:=by
  refine acall mixed Try.func21 rfl (by kernel_rfl) ?_
  simp [Try.f21]
  refine cK (l1New_c code a F w t h k hn) ?_
  rintro _ H1 ⟨rfl,x1,d1⟩
  try simp
  have hc:=d1.lt
  obtain ⟨c,hcc⟩:∃ c,c=h.length:=⟨_,rfl⟩
  rw [← hcc] at d1 hc ⊢
  have hce:h.length≤c:=by omega
  refine cK (l11Right_s c H1 d1) ?_
  rintro _ H2 ⟨f,b1,b2,G1,G2,rfl,kf,nl,n1,n2,n3,n4,sh⟩
  try simp
  refine cK (fsBlocks_spec_c f b1 b2 G1 G2 true _ H2 kf.s1 kf.s2 (by omega)) ?_
  rintro _ H3 ⟨b,G,rfl,o⟩
  obtain ⟨l48,lb⟩:=blocks_bd f
  have lpos:=fsBlocks_pos (shapeOk_iff.2 sh)
  have L:SLi H1 c H3 (fsBlocks f) b G:=⟨kf.dr.trans (Dr.of_ext o.ext),kf.d.ext o.ext,o.sl,o.nd,fun q hq=>by have:=o.new q hq; have:=kf.dr.1; omega⟩
  generalize fsBlocks f=xs at *
  clear o kf
  try simp
  refine cK (l1Below_c xs.length c H3 L.d) ?_
  rintro _ H4 ⟨dr4,d4,z,rfl,hz0,hz1,-⟩
  have hz1:=hz1 (by omega)
  obtain ⟨i,rfl⟩:=Int.eq_ofNat_of_zero_le hz0
  have hi:i<xs.length:=by omega
  have L4:=L.step hc dr4 d4
  try simp
  refine cK (l1Below_c 8 c H4 L4.d) ?_
  rintro _ H5 ⟨dr5,d5,z,rfl,hz0',hz2,-⟩
  have L5:=L4.step hc dr5 d5
  clear L L4 dr4 d4 dr5 d5
  have lb':∀ s∈xs,s.length≤1001:=fun s hs=>Nat.le_succ_of_le (lb s hs)
  try simp
  by_cases z0:z=0
  · subst z0
    obtain ⟨o,off,rfl,c0,e1,L6⟩:=L5.put hc hi (xs[i]++[120])
    have hx:=lb xs[i] (List.getElem_mem hi)
    have res:LIn h (sA_ H5 o (off+i) [.string (S (xs[i]++[120]))]) (.slice (some ⟨o,off,none⟩) xs.length xs.length):=LIn.mk (L6.dr.ext x1 hce) L6.s (by simp) (Nat.le_refl _) (by simpa using l48) (set_bd lb' (by simp; omega))
    try simp
    simp [hi,c0,e1,show xs[i].length≤9223372036854775806 by omega]
    exact res
  have z0':(z == 0)=false:=by simpa using z0
  simp [z0']
  by_cases z1:z=1
  · subst z1
    obtain ⟨o,off,rfl,c0⟩:=strEAt L5.s hi
    have cut:=(Own.any L5.s L5.nd).cut 0 i (by omega) (by omega)
    simp only [List.drop_zero,Nat.zero_mul,Nat.add_zero] at cut
    have hel:=L5.s.el
    have htl:(xs.take i).length=i:=by simp; omega
    have res:LIn h H5 (.slice (some ⟨o,off,none⟩) i (max xs.length xs.length)):=LIn.mk (L5.dr.ext x1 hce) cut.sl htl.symm (by omega) (by omega) (fun s hs=>lb' s (List.mem_of_mem_take hs))
    try simp
    simp at hel res
    simp [asl2_j,hel,show (i:Int)≤xs.length by omega]
    exact res
  have z1':(z == 1)=false:=by simpa using z1
  simp [z1']
  by_cases z2:z=2
  · subst z2
    try simp
    refine cK (l1Bytes_c 2 c H5 L5.d (by omega)) ?_
    rintro _ H6 ⟨dr6,d6,s,a6,F6,rfl,s6,hs6⟩
    have L6:=L5.step hc dr6 d6
    obtain ⟨o,off,rfl,c0,e1,L7⟩:=L6.put hc (i:=1) (by omega) s
    have res:LIn h (sA_ H6 o (off+1) [.string (S s)]) (.slice (some ⟨o,off,none⟩) xs.length xs.length):=LIn.mk (L7.dr.ext x1 hce) L7.s (by simp) (Nat.le_refl _) (by simpa using l48) (set_bd lb' (by omega))
    try simp
    simp [lev_cvBS s6,show 1<xs.length by omega,e1]
    exact ⟨by omega,res⟩
  have z2':(z == 2)=false:=by simpa using z2
  simp [z2']
  by_cases z3:z=3
  · subst z3
    try simp
    have hp:=pickS_c headTexts c H5 L5.d (by decide) (by decide)
    simp only [headTexts,List.map_cons,List.map_nil,List.length_cons,List.length_nil,Nat.zero_add,Nat.reduceAdd] at hp
    refine cK hp ?_
    rintro _ H6 ⟨dr6,d6,s,hsm,rfl⟩
    have L6:=L5.step hc dr6 d6
    have hs6:s.length≤6:=by
      have:∀ q∈headTexts,q.length≤6:=by decide
      exact this s hsm
    obtain ⟨o,off,rfl,c0,e1,L7⟩:=L6.put hc (i:=0) (by omega) s
    have res:LIn h (sA_ H6 o (off+0) [.string (S s)]) (.slice (some ⟨o,off,none⟩) xs.length xs.length):=LIn.mk (L7.dr.ext x1 hce) L7.s (by simp) (Nat.le_refl _) (by simpa using l48) (set_bd lb' (by omega))
    try simp
    simp at e1 res
    simp [show 0<xs.length by omega,e1]
    exact res
  have z3':(z == 3)=false:=by simpa using z3
  simp [z3']
  exact LIn.mk (L5.dr.ext x1 hce) L5.s rfl (Nat.le_refl _) l48 lb'
end Go.Proofs.Ytmpgpkdijfcfhaa.Hz
