/- FsRename: the program. -/
import Derived.Test.YtmpgpkdijfcfhaaGreatHyGY
import Derived.Test.YtmpgpkdijfcfhaaGreatHyGN
namespace Go.Proofs.YtmpgpkdijfcfhaaGreat.Hz
open Go.RowKit
set_option linter.unusedVariables false
set_option linter.unusedSimpArgs false
set_option maxRecDepth 20000
section
variable (f:Fs) (a1 a2:Option Addr) (F1 F2:List Nat) (w:Bool) (tNode:TypeId) (h:Hp) (k1:slR w tNode (nodeE w) h f.nodes a1 F1) (k2:slR w 9 strE h f.data a2 F2) (hl:f.nl≤1048576) (p q:Str) (gen:Int) (hp:p.length≤1048576) (hq:q.length≤1048576)
include k1 k2 hl hp hq
set_option maxHeartbeats 8000000 in
theorem fsRename_impl_c :
    ACall Tryz.prog 18 [.agg #[.slice a1 f.nodes.length f.nodes.length,.slice a2 f.data.length f.data.length],.string (S p),.string (S q),.int .i64 gen] h fun r h'=>∃ v,r=.tuple #[v,.int .i64 (fsRename f p q gen).2]∧FsRes (fsRename f p q gen).1 h h' v:=by
  refine acall mixed Tryz.func18 rfl (by kernel_rfl) ?_
  have hlim:=Fs.lim_of f hl
  simp [Tryz.f18]
  refine callK0 (walk_impl_c f a1 a2 F1 F2 w tNode _ (k1.to (by simp)) (k2.to (by simp)) hl p hp) ?_
  rintro _ _ ⟨⟨T,rfl⟩,rfl⟩
  simp
  refine callK0 (fsOk_impl_c f a1 a2 F1 F2 w tNode _ (k1.to (by simp)) (k2.to (by simp)) hl) ?_
  rintro _ _ ⟨⟨t1,rfl⟩,rfl⟩
  simp only [List.append_assoc,List.cons_append,List.nil_append]
  generalize T++t1=T
  cases e1:fsOk f
  · have hd:fsRename f p q gen=(f,10):=by simp [fsRename,e1]
    rw [hd]
    simp
    refine callK0 (cloneFs_c f a1 a2 F1 F2 w w w tNode _ _ (k1.to (by simp)) (k2.to (by simp)) hlim.1 hlim.2.2 hlim.2.1) ?_
    rintro _ _ ⟨an,G1,ad,G2,rfl,o1,o2,dis⟩
    obtain ⟨u,rfl⟩:=o1.ext.pre
    simp at o1 o2
    simp
    exact FsRes.early o1 o2 dis
  simp
  refine callK0 (withinR gen 0 1000000 _) ?_
  rintro _ _ ⟨rfl,rfl⟩
  cases e2:inR gen 0 1000000
  · have hd:fsRename f p q gen=(f,10):=by simp [fsRename,e1,e2]
    rw [hd]
    simp
    refine callK0 (cloneFs_c f a1 a2 F1 F2 w w w tNode _ _ (k1.to (by simp)) (k2.to (by simp)) hlim.1 hlim.2.2 hlim.2.1) ?_
    rintro _ _ ⟨an,G1,ad,G2,rfl,o1,o2,dis⟩
    obtain ⟨u,rfl⟩:=o1.ext.pre
    simp at o1 o2
    simp
    exact FsRes.early o1 o2 dis
  simp
  refine callK0 (pathOk_impl_c p _ hp) ?_
  rintro _ _ ⟨⟨t2,rfl⟩,rfl⟩
  simp only [List.append_assoc,List.cons_append,List.nil_append]
  generalize T++t2=T
  cases e3:pathOk p
  · have hd:fsRename f p q gen=(f,1):=by simp [fsRename,e1,e2,e3]
    rw [hd]
    simp
    refine callK0 (cloneFs_c f a1 a2 F1 F2 w w w tNode _ _ (k1.to (by simp)) (k2.to (by simp)) hlim.1 hlim.2.2 hlim.2.1) ?_
    rintro _ _ ⟨an,G1,ad,G2,rfl,o1,o2,dis⟩
    obtain ⟨u,rfl⟩:=o1.ext.pre
    simp at o1 o2
    simp
    exact FsRes.early o1 o2 dis
  simp
  by_cases e4:p=[47]
  · have hd:fsRename f p q gen=(f,1):=by simp [fsRename,e1,e2,e4]
    rw [hd]
    simp [e4]
    refine callK0 (cloneFs_c f a1 a2 F1 F2 w w w tNode _ _ (k1.to (by simp)) (k2.to (by simp)) hlim.1 hlim.2.2 hlim.2.1) ?_
    rintro _ _ ⟨an,G1,ad,G2,rfl,o1,o2,dis⟩
    obtain ⟨u,rfl⟩:=o1.ext.pre
    simp at o1 o2
    simp
    exact FsRes.early o1 o2 dis
  have e4':(p == [47])=false:=by simpa using e4
  simp [e4']
  refine callK0 (pathOk_impl_c q _ hq) ?_
  rintro _ _ ⟨⟨t2,rfl⟩,rfl⟩
  simp only [List.append_assoc,List.cons_append,List.nil_append]
  generalize T++t2=T
  cases e5:pathOk q
  · have hd:fsRename f p q gen=(f,1):=by simp [fsRename,e1,e2,e5]
    rw [hd]
    simp
    refine callK0 (cloneFs_c f a1 a2 F1 F2 w w w tNode _ _ (k1.to (by simp)) (k2.to (by simp)) hlim.1 hlim.2.2 hlim.2.1) ?_
    rintro _ _ ⟨an,G1,ad,G2,rfl,o1,o2,dis⟩
    obtain ⟨u,rfl⟩:=o1.ext.pre
    simp at o1 o2
    simp
    exact FsRes.early o1 o2 dis
  simp
  by_cases e6:q=[47]
  · have hd:fsRename f p q gen=(f,1):=by simp [fsRename,e1,e2,e6]
    rw [hd]
    simp [e6]
    refine callK0 (cloneFs_c f a1 a2 F1 F2 w w w tNode _ _ (k1.to (by simp)) (k2.to (by simp)) hlim.1 hlim.2.2 hlim.2.1) ?_
    rintro _ _ ⟨an,G1,ad,G2,rfl,o1,o2,dis⟩
    obtain ⟨u,rfl⟩:=o1.ext.pre
    simp at o1 o2
    simp
    exact FsRes.early o1 o2 dis
  have e6':(q == [47])=false:=by simpa using e6
  simp [e6']
  refine callK0 (withinP_impl_c q p _ hq hp) ?_
  rintro _ _ ⟨⟨t2,rfl⟩,rfl⟩
  simp only [List.append_assoc,List.cons_append,List.nil_append]
  generalize T++t2=T
  rcases hwi:within q p with _ | _
  rotate_left
  · have hd:fsRename f p q gen=(f,1):=by simp [fsRename,e1,e2,hwi]
    rw [hd]
    simp
    refine callK0 (cloneFs_c f a1 a2 F1 F2 w w w tNode _ _ (k1.to (by simp)) (k2.to (by simp)) hlim.1 hlim.2.2 hlim.2.1) ?_
    rintro _ _ ⟨an,G1,ad,G2,rfl,o1,o2,dis⟩
    obtain ⟨u,rfl⟩:=o1.ext.pre
    simp at o1 o2
    simp
    exact FsRes.early o1 o2 dis
  have e7:=hwi
  simp
  by_cases e8:walk f p<0
  · have hd:fsRename f p q gen=(f,2):=by simp [fsRename,e1,e2,e3,e4,e5,e6,e7,e8]
    rw [hd]
    simp [e8]
    refine callK0 (cloneFs_c f a1 a2 F1 F2 w w w tNode _ _ (k1.to (by simp)) (k2.to (by simp)) hlim.1 hlim.2.2 hlim.2.1) ?_
    rintro _ _ ⟨an,G1,ad,G2,rfl,o1,o2,dis⟩
    obtain ⟨u,rfl⟩:=o1.ext.pre
    simp at o1 o2
    simp
    exact FsRes.early o1 o2 dis
  simp [e8]
  refine callK0 (walk_impl_c f a1 a2 F1 F2 w tNode _ (k1.to (by simp)) (k2.to (by simp)) hl q hq) ?_
  rintro _ _ ⟨⟨t2,rfl⟩,rfl⟩
  simp only [List.append_assoc,List.cons_append,List.nil_append]
  generalize T++t2=T
  by_cases e9:0≤walk f q
  · have hd:fsRename f p q gen=(f,3):=by simp [fsRename,e1,e2,e3,e4,e5,e6,e7,e8,e9]
    rw [hd]
    simp [e9]
    refine callK0 (cloneFs_c f a1 a2 F1 F2 w w w tNode _ _ (k1.to (by simp)) (k2.to (by simp)) hlim.1 hlim.2.2 hlim.2.1) ?_
    rintro _ _ ⟨an,G1,ad,G2,rfl,o1,o2,dis⟩
    obtain ⟨u,rfl⟩:=o1.ext.pre
    simp at o1 o2
    simp
    exact FsRes.early o1 o2 dis
  simp [e9]
  have hd0:fsRename f p q gen=if (rnC f p q).2.2=0 then (if (rnL f p q).2 then (if fsOk (rnG f p q gen) then (rnG f p q gen,0) else (f,1)) else (f,5)) else (f,(rnC f p q).2.2):=by
    unfold fsRename
    rw [if_neg (by simp [e1,e2]),if_neg (by simp [e3,e4,e5,e6,e7]),if_neg e8,if_neg e9]
  obtain ⟨-,od,kd⟩:=dir_ok e1 e3 e4 (by omega:0≤walk f p)
  have hU:=rnU_good e1 e3 e4 (by omega:0≤walk f p)
  obtain ⟨d,hdm⟩:=Int.eq_ofNat_of_zero_le od.1
  have hltd:d<f.nodes.length:=by have:=od.2.1; omega
  obtain ⟨m,hm⟩:∃ m:Nat,walk f p=m:=Int.eq_ofNat_of_zero_le (by omega)
  have om:Okd f (m:Int):=by
    rcases walk_okd f p with hw | ⟨-,-,o⟩
    · omega
    · rw [hm] at o; exact o
  have hltm:m<f.nodes.length:=by have:=om.2.1; omega
  have sh:=fsOk_shape e1
  have hal:(above p).length≤1048576:=Nat.le_trans (above_len p) (by omega)
  have haq:(above q).length≤1048576:=Nat.le_trans (above_len q) (by omega)
  obtain ⟨aq1,aq2⟩:=above_ok e5
  have hnq:=names_pos e5 e6
  have hnql:=names_len q
  refine drawS true 11 [0,1,2,3,4,5,6,7,8,9,10] [12,13] (by simp; rfl) (by simp; rfl) (by simp; rfl) (by kernel_rfl) ?_
  simp
  refine callK (above_impl_c p _ hp) ?_
  rintro _ _ ⟨⟨t4,rfl⟩,rfl⟩
  refine ⟨fun _=>Ext.push _ _,?_⟩
  simp
  refine callK (walk_impl_c f a1 a2 F1 F2 w tNode _ (k1.to (by simp)) (k2.to (by simp)) hl (above p) hal) ?_
  rintro _ _ ⟨⟨t5,rfl⟩,rfl⟩
  refine ⟨fun _=>Ext.push _ _,?_⟩
  simp
  refine callK (last_impl_c p _ hp) ?_
  rintro _ _ ⟨⟨t6,rfl⟩,rfl⟩
  refine ⟨fun _=>Ext.push _ _,?_⟩
  have hUd:rnU f p=unlinkS f (d:Int) (last p):=by unfold rnU; rw [hdm]
  rw [hdm]
  simp
  refine callK (unlink_c f a1 a2 F1 F2 w tNode _ (k1.to (by simp)) (k2.to (by simp)) hl sh d hltd (last p)) ?_
  rw [← hUd]
  obtain ⟨U,hUU⟩:∃ U,rnU f p=U:=⟨_,rfl⟩
  have hC0:rnC f p q=climbS (rnU f p).1 ((names q).take ((names q).length - 1)) 0:=rfl
  rw [hUU] at hU hC0 ⊢
  obtain ⟨hU1,hU2,hU3,hU4⟩:=hU
  rintro _ _ ⟨v,rfl,fr0⟩
  rw [hU1]
  have fr0':=fr0
  obtain ⟨c1,G1,c2,G2,rfl,o1,o2,dis⟩:=fr0'
  obtain ⟨u,rfl⟩:=o1.ext.pre
  refine ⟨fun _=>Ext.push _ _,?_⟩
  simp only [List.append_assoc,List.cons_append,List.nil_append] at fr0
  have fr1:FsRes U.1 (h++[⟨true,true,45,[.slice a1 f.nodes.length f.nodes.length,.slice a2 f.data.length f.data.length]⟩,⟨true,true,45,[.slice none 0 0,.slice none 0 0]⟩]) (h++⟨true,true,45,[.slice a1 f.nodes.length f.nodes.length,.slice a2 f.data.length f.data.length]⟩ :: ⟨true,true,45,[.slice none 0 0,.slice none 0 0]⟩ :: (T++(t4++(t5++(t6++u))))) (.agg #[.slice c1 U.1.nodes.length U.1.nodes.length,.slice c2 U.1.data.length U.1.data.length]):=fr0.low (by have:=Ext.push (h++[⟨true,true,45,[.slice a1 f.nodes.length f.nodes.length,.slice a2 f.data.length f.data.length]⟩,⟨true,true,45,[.slice none 0 0,.slice none 0 0]⟩]) (T++(t4++(t5++(t6++u)))); simpa only [List.append_assoc,List.cons_append,List.nil_append] using this) (by simp) fun _ _=>rfl
  have kk:=FsOut.ofRes fr1
  have hoi:(h++⟨true,true,45,[.slice a1 f.nodes.length f.nodes.length,.slice a2 f.data.length f.data.length]⟩ :: ⟨true,true,45,[.slice none 0 0,.slice none 0 0]⟩ :: (T++(t4++(t5++(t6++u))))).length=h.length+(T.length+(t4.length+(t5.length+(t6.length+u.length)))+1+1):=by simp
  rw [hoi] at kk
  clear o1 o2 dis fr0 fr1 hoi
  simp only [List.append_assoc,List.cons_append,List.nil_append] at kk ⊢
  simp
  generalize h.length+(T.length+(t4.length+(t5.length+(t6.length+u.length)))+1+1)=oi at kk ⊢
  generalize (h++⟨true,true,45,[.slice a1 f.nodes.length f.nodes.length,.slice a2 f.data.length f.data.length]⟩ :: ⟨true,true,45,[.slice none 0 0,.slice none 0 0]⟩ :: (T++(t4++(t5++(t6++(u++[⟨true,true,45,[.slice c1 U.1.nodes.length U.1.nodes.length,.slice c2 U.1.data.length U.1.data.length]⟩]))))):Hp)=H at kk ⊢
  have cc:=kk.cells
  refine drawK true (by kernel_rfl) ?_
  simp [cc]
  refine callK (above_impl_c q _ hq) ?_
  rintro _ _ ⟨⟨t7,rfl⟩,rfl⟩
  refine ⟨fun _=>Ext.push _ _,?_⟩
  simp
  refine callK (names_impl_c (above q) _ haq) ?_
  rintro _ _ ⟨an,Fn0,rfl,on⟩
  obtain ⟨t8,rfl⟩:=on.ext.pre
  refine ⟨fun _=>Ext.push _ _,?_⟩
  have hlq:((names q).take ((names q).length - 1)).length≤100:=by simp; omega
  rw [aq2] at on ⊢
  replace kk:=kk.grow (t7++t8)
  simp only [List.append_assoc] at kk on ⊢
  have on2:=on.sl
  clear on
  generalize H++(t7++t8)=H at kk on2 ⊢
  clear cc
  have cc:=kk.cells
  obtain ⟨FN,FD,own,dat,-⟩:=kk.own
  try simp
  have hcl:=climb_c U.1 c1 c2 FN FD _ own.sl dat.sl hU2 hU3 ((names q).take ((names q).length - 1)) _ Fn0 true _ on2 hlq (fun n hn=>by have:=(nameOk_len (names_mem (List.mem_of_mem_take hn))).2; omega)
  have hlp:((names q).take ((names q).length - 1)).length=(names q).length - 1:=by simp
  rw [hlp] at hcl
  refine callK (hcl.cap2 (by omega)) ?_
  clear hcl
  rw [← hC0]
  have csh:ShapeOk (rnC f p q).1:=by rw [hC0]; exact climbS_shape _ hU2 _
  have cgd:(rnC f p q).2.2=0→Good (rnC f p q).1 (rnC f p q).2.1∧(nodeAtI (rnC f p q).1 (rnC f p q).2.1).kind=2:=by rw [hC0]; exact climbS_good _ hU2 hU3
  have clen:(rnC f p q).1.nodes.length=f.nodes.length:=by rw [hC0,climbS_len]; exact hU4
  have hL0:rnL f p q=linkS (rnC f p q).1 (rnC f p q).2.1 (last q) (m:Int):=by unfold rnL; rw [hm]
  have hG0:rnG f p q gen=genSet (rnL f p q).1 m gen:=by unfold rnG; rw [hm,Int.toNat_natCast]
  generalize rnC f p q=C at hd0 csh cgd clen hL0 ⊢
  rintro _ _ ⟨v,rfl,hx3,im3⟩
  obtain ⟨t3,rfl⟩:=hx3.pre
  obtain ⟨c3,c4,rfl⟩:=im3.shape
  refine ⟨fun _=>Ext.push _ _,?_⟩
  have kt:=kk.turn im3 []
  simp only [List.append_nil] at kt
  clear own dat
  obtain ⟨cs4,kk⟩:=kt
  clear cc
  have cc:=kk.cells
  simp [cs4]
  by_cases hc:C.2.2=0
  rotate_left
  · have hd:fsRename f p q gen=(f,C.2.2):=by rw [hd0,if_neg hc]
    have hc':(C.2.2 != 0)=true:=by simpa using hc
    rw [hd]
    simp [hc',cc]
    refine callK0 (cloneFs_c f a1 a2 F1 F2 w w w tNode _ _ (k1.ext kk.ext) (k2.ext kk.ext) hlim.1 hlim.2.2 hlim.2.1) ?_
    rintro _ _ ⟨an',G1',ad',G2',rfl,p1,p2,dis'⟩
    obtain ⟨u1,u2,u3,u4⟩:=kk.other p1 p2 dis'
    simp [u1,u3,u4]
    exact u2
  rw [if_pos hc] at hd0
  obtain ⟨cgo,ck2⟩:=cgd hc
  obtain ⟨e,hde⟩:=Int.eq_ofNat_of_zero_le cgo.lt.1
  have hdlt:e<C.1.nodes.length:=by have:=cgo.lt.2; omega
  have hnC:C.1.nl≤1048576:=by have:=csh.small.nl; omega
  have hlt1:(names q).length - 1<(names q).length:=by omega
  have hlast:=last_at q hnq
  simp [hc]
  refine drawK true (by kernel_rfl) ?_
  simp [cc]
  refine callK (last_impl_c q _ hq) ?_
  rintro _ _ ⟨⟨t9,rfl⟩,rfl⟩
  refine ⟨fun _=>Ext.push _ _,?_⟩
  replace kk:=kk.grow t9
  clear cc
  rw [hde] at ck2 hL0 ⊢
  rw [hm]
  simp
  obtain ⟨FN,FD,own,dat,-⟩:=kk.own
  refine callK (link_c C.1 c3 c4 FN FD true _ _ own.sl dat.sl hnC csh e hdlt (last q) (by rw [hlast]; have:=(nameOk_len (names_mem (List.getElem_mem hlt1))).2; omega) (m:Int)) ?_
  rw [← hL0]
  have lsh:ShapeOk (rnL f p q).1:=by rw [hL0]; exact linkS_shape csh _ _ _
  have llen:(rnL f p q).1.nodes.length=f.nodes.length:=by rw [hL0,linkS_len]; exact clen
  generalize rnL f p q=L at hd0 hG0 lsh llen ⊢
  rintro _ _ ⟨v,rfl,hx4,im4⟩
  obtain ⟨t10,rfl⟩:=hx4.pre
  obtain ⟨c5,c6,rfl⟩:=im4.shape
  refine ⟨fun _=>Ext.push _ _,?_⟩
  have kt:=kk.turn im4 []
  simp only [List.append_nil] at kt
  clear own dat
  obtain ⟨cs5,kk⟩:=kt
  have cc:=kk.cells
  simp at cs5
  simp only [List.append_assoc] at kk cc
  simp [cs5]
  obtain ⟨Lf,Lb⟩:=L
  simp only at hd0 hG0 lsh llen kk cc cs5 ⊢
  cases Lb
  · have hd:fsRename f p q gen=(f,5):=by rw [hd0]; rfl
    rw [hd]
    simp [cc]
    refine callK0 (cloneFs_c f a1 a2 F1 F2 w w w tNode _ _ (k1.ext kk.ext) (k2.ext kk.ext) hlim.1 hlim.2.2 hlim.2.1) ?_
    rintro _ _ ⟨an',G1',ad',G2',rfl,p1,p2,dis'⟩
    obtain ⟨u1,u2,u3,u4⟩:=kk.other p1 p2 dis'
    simp [u1,u3,u4]
    exact u2
  simp only [if_true] at hd0
  have hltL:m<Lf.nodes.length:=by omega
  have hnL:Lf.nl≤1048576:=by have:=lsh.small.nl; omega
  obtain ⟨FN,FD,own,-⟩:=kk.own
  obtain ⟨o,off,b0,G0,rfl,kc,-⟩:=nodeAt own.sl hltL
  clear own
  have hkn:nodeAtI Lf (m:Int)=Lf.nodes[m]:=nodeAtI_get hltL
  simp [cc,hltL,kc]
  by_cases hk2:Lf.nodes[m].kind=2
  · have hgs:rnG f p q gen=Lf:=by rw [hG0]; unfold genSet; rw [hkn,if_pos hk2]
    simp [hk2,cc]
    rw [hgs] at hd0
    obtain ⟨FN,FD,own,dat,-⟩:=kk.own
    refine callK0 (fsOk_impl_c Lf _ c6 FN FD true _ _ own.sl dat.sl hnL) ?_
    rintro _ _ ⟨⟨t11,rfl⟩,rfl⟩
    replace kk:=kk.grow t11
    clear cc own dat
    have cc:=kk.cells
    have dn:=kk.done [.slice (some ⟨o,off,none⟩) Lf.nodes.length Lf.nodes.length,.slice c6 Lf.data.length Lf.data.length] rfl
    cases ef:fsOk Lf
    · have hd:fsRename f p q gen=(f,1):=by rw [hd0,ef]; rfl
      rw [hd]
      simp [cc]
      refine callK0 (cloneFs_c f a1 a2 F1 F2 w w w tNode _ _ (k1.ext kk.ext) (k2.ext kk.ext) hlim.1 hlim.2.2 hlim.2.1) ?_
      rintro _ _ ⟨an',G1',ad',G2',rfl,p1,p2,dis'⟩
      obtain ⟨u1,u2,u3,u4⟩:=kk.other p1 p2 dis'
      simp [u1,u3,u4]
      exact u2
    · have hd:fsRename f p q gen=(Lf,0):=by rw [hd0,ef]; rfl
      rw [hd]
      try simp at cc dn
      simp [cc,dn.1,dn.2.1,dn.2.2.1]
      exact kk.res_ _ _ rfl rfl
  · have hk2':(Lf.nodes[m].kind != 2)=true:=by simpa using hk2
    have hgs:rnG f p q gen=⟨Lf.nodes.set m { Lf.nodes[m] with gen:=gen },Lf.data⟩:=by rw [hG0]; unfold genSet; rw [hkn,if_neg hk2]
    obtain ⟨cs6,kk⟩:=kk.field (i:=m) (x:=Lf.nodes[m]) (List.getElem?_eq_getElem hltL) 1 gen { Lf.nodes[m] with gen:=gen } (by omega) rfl (fun _=>rfl)
    simp [hk2',cc,hltL,cs6]
    obtain ⟨Gf,hGf⟩:∃ Gf:Fs,(⟨Lf.nodes.set m { Lf.nodes[m] with gen:=gen },Lf.data⟩:Fs)=Gf:=⟨_,rfl⟩
    have hnG:Gf.nl≤1048576:=by
      have:=genSet_nl Lf m gen
      rw [← hG0,hgs,hGf] at this
      omega
    rw [hGf] at kk hgs
    rw [hgs] at hd0
    clear cc
    have cc:=kk.cells
    try simp at cc
    try simp [cc]
    obtain ⟨FN,FD,own,dat,-⟩:=kk.own
    refine callK0 (fsOk_impl_c Gf _ c6 FN FD true _ _ own.sl dat.sl hnG) ?_
    rintro _ _ ⟨⟨t11,rfl⟩,rfl⟩
    replace kk:=kk.grow t11
    clear cc own dat
    have cc:=kk.cells
    have dn:=kk.done [.slice (some ⟨o,off,none⟩) Gf.nodes.length Gf.nodes.length,.slice c6 Gf.data.length Gf.data.length] rfl
    cases ef:fsOk Gf
    · have hd:fsRename f p q gen=(f,1):=by rw [hd0,ef]; rfl
      rw [hd]
      try simp at cc
      simp [cc]
      refine callK0 (cloneFs_c f a1 a2 F1 F2 w w w tNode _ _ (k1.ext kk.ext) (k2.ext kk.ext) hlim.1 hlim.2.2 hlim.2.1) ?_
      rintro _ _ ⟨an',G1',ad',G2',rfl,p1,p2,dis'⟩
      obtain ⟨u1,u2,u3,u4⟩:=kk.other p1 p2 dis'
      simp [u1,u3,u4]
      exact u2
    · have hd:fsRename f p q gen=(Gf,0):=by rw [hd0,ef]; rfl
      rw [hd]
      try simp at cc dn
      simp [cc,dn.1,dn.2.1,dn.2.2.1]
      exact kk.res_ _ _ rfl rfl
end
end Go.Proofs.YtmpgpkdijfcfhaaGreat.Hz
