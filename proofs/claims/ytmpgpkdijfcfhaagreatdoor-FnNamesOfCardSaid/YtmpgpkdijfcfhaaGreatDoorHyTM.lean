/- The draw of a tree and a path; the law of names. -/
import Derived.Test.YtmpgpkdijfcfhaaGreatDoorHyDZ
import Derived.Test.YtmpgpkdijfcfhaaGreatDoorHyGL
import Derived.Test.YtmpgpkdijfcfhaaGreatDoorHyGZ
import Derived.Test.YtmpgpkdijfcfhaaGreatDoorHyHE
import Derived.Test.YtmpgpkdijfcfhaaGreatDoorHyHC
namespace Go.Proofs.YtmpgpkdijfcfhaaGreatDoor.Hz
open Go.RowKit
set_option linter.unusedVariables false
set_option linter.unusedSimpArgs false
set_option maxRecDepth 20000
theorem sameTexts_c (xs ys:List Str) (a b:Option Addr) (F G:List Nat) (w w':Bool) (t t':TypeId) (h:Hp) (hx:slR w t strE h xs a F) (hy:slR w' t' strE h ys b G) (hl:xs.length≤1048576) :
    ACall Tryz.prog 8 [.slice a xs.length xs.length,.slice b ys.length ys.length] h fun r h'=>(∃ t,h'=h++t)∧r=.bool (decide (xs=ys)):=by
  refine acall mixed Tryz.func8 rfl (by kernel_rfl) ?_
  simp [Tryz.f8]
  refine aSI (fun hb=>?_) (fun hb=>?_) <;> simp at hb <;> simp [hb]
  · rintro rfl; exact hb rfl
  have hl2:xs.length=ys.length:=by omega
  refine aloop mixed [0,1,5] (fun (x:Nat × Hp)=>[.slice a xs.length xs.length,.slice b ys.length ys.length,.int .i64 x.1]) (fun x=>h++x.2) (fun x=>x.1≤xs.length∧xs.take x.1=ys.take x.1) (fun x=>xs.length - x.1) (0,[]) ⟨by simp,by simp⟩ (by simp [pickF]) (by simp) ?_
  rintro ⟨k,t⟩ ⟨hk,he⟩
  simp only at hk he
  simp [mkF]
  refine aSI (fun hc=>?_) (fun hc=>?_) <;> simp at hc <;> simp [hc]
  · have hc2:k<ys.length:=by omega
    obtain ⟨o,off,rfl,c0⟩:=strEAt (hx.ext (Ext.push h t)) hc
    obtain ⟨o',off',rfl,d0⟩:=strEAt (hy.ext (Ext.push h t)) hc2
    refine drawK false (by kernel_rfl) ?_
    simp [hc,hc2,c0,d0]
    refine aSI (fun hd=>?_) (fun hd=>?_) <;> simp at hd <;> simp [hd]
    · exact anext (k+1,t) ⟨hc,take_snoc hc hc2 he hd⟩ (by simp only; omega) (by simp [pickF,wS (show k<9223372036854775807 by omega)]) (by simp) (by simp)
    · rintro rfl; exact hd rfl
  · obtain rfl:k=xs.length:=by omega
    exact take_all (by omega) he
def TIn (h':Hp) (r:Value):Prop:=∃ (xs:List Item) (a:Option Addr) (G:List Nat) (p:Str),r=.tuple #[.agg #[.slice a xs.length xs.length],.string (S p)]∧slR true 33 itemE h' xs a G∧TBd xs∧p.length≤10
def namePaths:List Str:=[[47],[47],[47,97],[47,98],[47,97,47,120],[],[47,113]]
set_option maxHeartbeats 2000000 in
theorem drawTreeNames_c (code:Str) (a:Option Addr) (F:List Nat) (w:Bool) (t:TypeId) (h:Hp) (k:slR w t byteE h code a F) (hn:code.length≤1048576) :
    ACall Tryz.prog 5 [.slice a code.length code.length] h fun r h'=>TIn h' r:=by
  refine acall mixed Tryz.func5 rfl (by kernel_rfl) ?_
  simp [Tryz.f5]
  obtain ⟨h0,hh0⟩:∃ h0:Hp,h0=h++[⟨true,true,26,[.slice none 0 0]⟩]:=⟨_,rfl⟩
  have l0:h0.length=h.length+1:=by rw [hh0]; simp
  have q0:h0[h.length]?=some ⟨true,true,26,[.slice none 0 0]⟩:=by rw [hh0]; simp
  have k0:slR w t byteE h0 code a F:=by rw [hh0]; exact k.ext (Ext.push _ _)
  rw [← hh0]
  refine cK (l1New_c code a F w t h0 k0 hn) ?_
  rintro _ H1 ⟨rfl,x1,d1⟩
  try simp
  have hc:=d1.lt
  have hx1:=x1.1
  have q1:H1[h.length]?=some ⟨true,true,26,[.slice none 0 0]⟩:=by rw [x1.2 _ (by omega)]; exact q0
  refine cK (l10Draw_c h0.length H1 d1) ?_
  rintro _ H2 ⟨xs,b,G,rfl,dr,d,s,gn,bd⟩
  have L:TX H1 h0.length H2.length (H2++[(⟨true,true,26,[.slice b xs.length xs.length]⟩:Ob)]) xs b G :=
    ⟨dr.trans (Dr.of_ext (Ext.push _ _)),d.ext (Ext.push _ _),s.ext (Ext.push _ _),gn,by simp,fun hm=>by have:=s.lt _ hm; omega,dr.1⟩
  try simp
  obtain ⟨bi,hbi⟩:∃ bi,bi=H2.length:=⟨_,rfl⟩
  generalize hHb:H2++[(⟨true,true,26,[.slice b xs.length xs.length]⟩:Ob)]=Hb at L ⊢
  rw [← hbi] at L ⊢
  clear hHb
  have c4:=L.cells
  refine drawLA false [1,2,3] [0] [4,5] (by simp; rfl) (by simp; rfl) (by simp; rfl) (by kernel_rfl) rfl ?_
  simp [c4,L.cellsX]
  have hp:=pickS_c namePaths h0.length Hb L.d (by decide) (by decide)
  simp only [namePaths,List.map_cons,List.map_nil,List.length_cons,List.length_nil,Nat.zero_add,Nat.reduceAdd] at hp
  refine cK hp ?_
  rintro _ H4 ⟨dr4,d4,p,hpm,rfl⟩
  have L6:=L.step hc dr4 d4
  have c6:=L6.cells
  have hp10:p.length≤10:=by
    have:∀ q∈namePaths,q.length≤10:=by decide
    exact this p hpm
  obtain ⟨z1,z2,z3,z4⟩:=L6.out (r0:=h.length) (by omega) (by omega) q1
  have res:TIn (sA_ H4 h.length 0 [.slice b xs.length xs.length]) (.tuple #[.agg #[.slice b xs.length xs.length],.string (S p)]):=⟨xs,b,G,p,rfl,z4,bd,hp10⟩
  try simp at z1 z2
  simp [c6,z1,z2]
  exact res
theorem treeFrom_ok {xs:List Item}:∀ (r:List Item) (i:Nat),treeFrom xs r i=true→∀ x∈r,itemOk x=true
  | [],_,_,x,hx=>by cases hx
  | y :: r,i,h,x,hx=>by
    simp only [treeFrom,stepOk,Bool.and_eq_true] at h
    rcases List.mem_cons.1 hx with rfl | hx
    · exact h.1.1.1
    · exact treeFrom_ok r (i+1) h.2 x hx
theorem treeFind_has {p:Str}:∀ (xs:List Item) (x:Item),x∈xs→x.path=p→(treeFind xs p).2=true∧(treeFind xs p).1.path=p
  | [],x,hx,_=>by cases hx
  | y :: ys,x,hx,e=>by
    unfold treeFind
    by_cases h:y.path=p
    · rw [if_pos h]; exact ⟨rfl,h⟩
    · rw [if_neg h]
      rcases List.mem_cons.1 hx with rfl | hx
      · exact absurd e h
      · exact treeFind_has ys x hx e
theorem names_law {xs:List Item} {d:Str} {n:Str} (h:n∈treeNames xs d):(treeGet xs (pathJoin d n)).2=true∧above (treeGet xs (pathJoin d n)).1.path=d∧n.length≤1000∧∃ x∈xs,(treeGet xs (pathJoin d n)).1.path=x.path:=by
  unfold treeNames at h
  split at h
  · rename_i hk
    simp only [Bool.and_eq_true] at hk
    obtain ⟨⟨ok,-⟩,-⟩:=hk
    unfold under at h
    obtain ⟨x,hx,rfl⟩:=List.mem_map.1 h
    rw [List.mem_filter] at hx
    obtain ⟨hx,ha⟩:=hx
    have ha:above x.path=d:=by simpa using ha
    unfold treeOk at ok
    simp only [Bool.and_eq_true] at ok
    have hi:=treeFrom_ok xs 0 ok.2 x hx
    unfold itemOk at hi
    simp only [Bool.and_eq_true,Bool.not_eq_true',beq_eq_false_iff_ne] at hi
    obtain ⟨⟨⟨hp,hr⟩,-⟩,-⟩:=hi
    have hne:¬ x.path=[47]:=hr
    have hpn:=pathOf_of_names hp hne
    have hnn:names x.path≠[]:=fun e=>by rw [e] at hpn; exact hne hpn.symm
    have hpos:0<(names x.path).length:=List.length_pos_iff.2 hnn
    obtain ⟨h1,h2⟩:=above_ok hp
    rw [ha] at h1 h2
    have hl:=last_at x.path hpos
    have hj:pathJoin d (last x.path)=x.path:=by
      unfold pathJoin
      rw [if_pos h1,h2,hl]
      have e:(names x.path).take ((names x.path).length - 1)++[(names x.path)[(names x.path).length - 1]]=names x.path:=by
        rw [← List.take_succ_eq_append_getElem (by omega),List.take_of_length_le (by omega)]
      rw [e,hpn]
    have hg:treeGet xs x.path=treeFind xs x.path:=by unfold treeGet; rw [if_neg hne]
    obtain ⟨g1,g2⟩:=treeFind_has xs x hx rfl
    rw [hj,hg,g2]
    refine ⟨g1,ha,?_,x,hx,rfl⟩
    have:=names_mem (p:=x.path) (q:=last x.path) (by rw [hl]; exact List.getElem_mem _)
    have:=(nameOk_len this).2
    omega
  · cases h
end Go.Proofs.YtmpgpkdijfcfhaaGreatDoor.Hz
