/- Texts of the calculus and of the program's functions, merged: CB OT. -/
import Derived.Test.YtmpgpkdijfcfhaaHyGQ
import Derived.Test.YtmpgpkdijfcfhaaHyGM
namespace Go.Proofs.Ytmpgpkdijfcfhaa.Hz
open Go.RowKit
set_option linter.unusedVariables false
set_option linter.unusedSimpArgs false
set_option maxRecDepth 20000
theorem climbS_nil (f:Fs) (i:Int):climbS f [] i=if (nA_ f i).kind=2 then (f,i,0) else (f,-1,4):=by unfold climbS; rfl
structure Cur (f:Fs) (a1 a2:Option Addr) (h:Hp) (g:Fs) (b1 b2:Option Addr) (H:Hp):Prop where
  ext:Ext h H
  box:H[h.length]?=some ⟨true,true,26,[.slice b1 g.nodes.length g.nodes.length,.slice b2 g.data.length g.data.length]⟩
  res:∃ x y,H[h.length+1]?=some ⟨true,true,26,[x,y]⟩
  new:(b1=a1∧b2=a2∧g=f)∨∃ G1 G2,Own h 49 (nodeE true) H g.nodes b1 G1∧Own h 9 strE H g.data b2 G2∧(∀ q∈G1,q ∉ G2)∧(∀ q∈G1,h.length+2≤q)∧∀ q∈G2,h.length+2≤q
section
variable {f g g':Fs} {a1 a2 b1 b2 c1 c2:Option Addr} {h H t:Hp}
theorem Cur.start (f:Fs) (a1 a2:Option Addr) (h:Hp):Cur f a1 a2 h f a1 a2 (h++[⟨true,true,26,[.slice a1 f.nodes.length f.nodes.length,.slice a2 f.data.length f.data.length]⟩,⟨true,true,26,[.slice none 0 0,.slice none 0 0]⟩]) :=
  ⟨Ext.push _ _,by simp,⟨_,_,by simp; exact ⟨rfl,rfl⟩⟩,.inl ⟨rfl,rfl,rfl⟩⟩
theorem Cur.cells (k:Cur f a1 a2 h g b1 b2 H):cellAt H h.length 0=some (.slice b1 g.nodes.length g.nodes.length)∧cellAt H h.length 1=some (.slice b2 g.data.length g.data.length) :=
  ⟨by rw [cellAt_of_get k.box rfl]; rfl,by rw [cellAt_of_get k.box rfl]; rfl⟩
theorem Cur.grow (k:Cur f a1 a2 h g b1 b2 H) (t:Hp):Cur f a1 a2 h g b1 b2 (H++t):=by
  have xx:=Ext.push H t
  refine ⟨k.ext.trans xx,by rw [xx.2 _ (get_lt k.box)]; exact k.box,?_,?_⟩
  · obtain ⟨x,y,r⟩:=k.res
    exact ⟨x,y,by rw [xx.2 _ (get_lt r)]; exact r⟩
  · rcases k.new with e | ⟨G1,G2,o1,o2,d,n1,n2⟩
    · exact .inl e
    · exact .inr ⟨G1,G2,o1.grow xx,o2.grow xx,d,n1,n2⟩
theorem Cur.img {F1 F2:List Nat} (k:Cur f a1 a2 h g b1 b2 H) (k1:slR true 49 (nodeE true) h f.nodes a1 F1) (k2:slR true 9 strE h f.data a2 F2):∃ G1 G2,slR true 49 (nodeE true) H g.nodes b1 G1∧slR true 9 strE H g.data b2 G2:=by
  rcases k.new with ⟨rfl,rfl,rfl⟩ | ⟨G1,G2,o1,o2,-⟩
  · exact ⟨F1,F2,k1.ext k.ext,k2.ext k.ext⟩
  · exact ⟨G1,G2,o1.sl,o2.sl⟩
theorem Cur.done (k:Cur f a1 a2 h g b1 b2 H) (vs:List Value) (hvs:vs.length=2) :
    cS_ H (h.length+1) 0 2=true∧cellAt (sA_ H (h.length+1) 0 vs) (h.length+1) 0=vs[0]?∧cellAt (sA_ H (h.length+1) 0 vs) (h.length+1) 1=vs[1]? ∧
      Ext h (sA_ H (h.length+1) 0 vs)∧Img f a1 a2 g h (sA_ H (h.length+1) 0 vs) (.agg #[.slice b1 g.nodes.length g.nodes.length,.slice b2 g.data.length g.data.length]):=by
  obtain ⟨ext,box,⟨x,y,res⟩,new⟩:=k
  have hg:(sA_ H (h.length+1) 0 vs)[h.length+1]?=some ⟨true,true,26,vs⟩:=by
    rw [sAg,if_pos rfl,res]
    simp only [Option.map_some]
    rw [setL_all _ _ (by simpa using hvs)]
  have hne:∀ q,h.length+2≤q→(sA_ H (h.length+1) 0 vs)[q]?=H[q]?:=fun q hq=>by rw [sAg,if_neg (by omega)]
  refine ⟨by simp [cS_,res],by rw [cellAt_of_get hg rfl],by rw [cellAt_of_get hg rfl],ext.set (by omega) 0 _,?_⟩
  rcases new with ⟨rfl,rfl,rfl⟩ | ⟨G1,G2,o1,o2,d,n1,n2⟩
  · exact .inl ⟨rfl,rfl⟩
  · exact .inr ⟨b1,G1,b2,G2,rfl,⟨ext.set (by omega) 0 _,o1.sl.frame fun q hq=>hne q (n1 q hq),o1.nd,o1.new⟩,⟨ext.set (by omega) 0 _,o2.sl.frame fun q hq=>hne q (n2 q hq),o2.nd,o2.new⟩,d⟩
theorem Cur.step (k:Cur f a1 a2 h g b1 b2 H) (im:Img g b1 b2 g' H (H++t) (.agg #[.slice c1 g'.nodes.length g'.nodes.length,.slice c2 g'.data.length g'.data.length])) (l:Hp) :
    cS_ (H++(t++l)) h.length 0 2=true∧Cur f a1 a2 h g' c1 c2 (sA_ (H++(t++l)) h.length 0 [.slice c1 g'.nodes.length g'.nodes.length,.slice c2 g'.data.length g'.data.length]):=by
  have kg:=k.grow (t++l)
  have hlen:h.length+2≤H.length:=by
    obtain ⟨x,y,r⟩:=k.res
    have:=get_lt r
    omega
  obtain ⟨ext,box,⟨x,y,res⟩,new⟩:=kg
  have hne:∀ q,q≠h.length→(sA_ (H++(t++l)) h.length 0 [.slice c1 g'.nodes.length g'.nodes.length,.slice c2 g'.data.length g'.data.length])[q]?=(H++(t++l))[q]?:=fun q hq=>by rw [sAg,if_neg (fun e=>hq e.symm)]
  have e2:=ext.set (Nat.le_refl h.length) 0 [.slice c1 g'.nodes.length g'.nodes.length,.slice c2 g'.data.length g'.data.length]
  refine ⟨by simp [cS_,box],e2,?_,⟨x,y,by rw [hne _ (by omega)]; exact res⟩,?_⟩
  · rw [sAg,if_pos rfl,box]
    rfl
  · rcases im with ⟨e,rfl⟩ | ⟨d1,G1,d2,G2,e,o1,o2,d⟩
    · simp only [Value.agg.injEq,Array.mk.injEq,List.cons.injEq,Value.slice.injEq,and_true,true_and] at e
      obtain ⟨rfl,rfl⟩:=e
      rcases new with e | ⟨G1,G2,o1,o2,d,n1,n2⟩
      · exact .inl e
      · exact .inr ⟨G1,G2,⟨e2,o1.sl.frame fun q hq=>hne q (by have:=n1 q hq; omega),o1.nd,o1.new⟩,⟨e2,o2.sl.frame fun q hq=>hne q (by have:=n2 q hq; omega),o2.nd,o2.new⟩,d,n1,n2⟩
    · simp only [Value.agg.injEq,Array.mk.injEq,List.cons.injEq,Value.slice.injEq,and_true,true_and] at e
      obtain ⟨rfl,rfl⟩:=e
      have xl:Ext (H++t) (H++(t++l)):=by rw [← List.append_assoc]; exact Ext.push _ _
      have m1:∀ q∈G1,h.length+2≤q:=fun q hq=>Nat.le_trans hlen (o1.new q hq)
      have m2:∀ q∈G2,h.length+2≤q:=fun q hq=>Nat.le_trans hlen (o2.new q hq)
      exact .inr ⟨G1,G2,⟨e2,(o1.sl.ext xl).frame fun q hq=>hne q (by have:=m1 q hq; omega),o1.nd,fun q hq=>by have:=m1 q hq; omega⟩,⟨e2,(o2.sl.ext xl).frame fun q hq=>hne q (by have:=m2 q hq; omega),o2.nd,fun q hq=>by have:=m2 q hq; omega⟩,d,m1,m2⟩
end
theorem Img.shape {f g:Fs} {a1 a2:Option Addr} {h h':Hp} {v:Value} (k:Img f a1 a2 g h h' v):∃ c1 c2,v=.agg #[.slice c1 g.nodes.length g.nodes.length,.slice c2 g.data.length g.data.length]:=by
  rcases k with ⟨rfl,rfl⟩ | ⟨c1,_,c2,_,rfl,_⟩
  · exact ⟨_,_,rfl⟩
  · exact ⟨_,_,rfl⟩
section
variable (f:Fs) (a1 a2:Option Addr) (F1 F2:List Nat) (h:Hp) (k1:slR true 49 (nodeE true) h f.nodes a1 F1) (k2:slR true 9 strE h f.data a2 F2) (s:ShapeOk f) (gd:Good f 0) (ns:List Str) (an:Option Addr) (Fn:List Nat) (wn:Bool) (t:TypeId) (kn:slR wn t strE h ns an Fn) (hn:ns.length≤100) (hns:∀ n∈ns,n.length≤1000)
include k1 k2 s gd kn hn hns
set_option maxHeartbeats 4000000 in
theorem down_c :
    ACall Try.prog 78 [.agg #[.slice a1 f.nodes.length f.nodes.length,.slice a2 f.data.length f.data.length],.slice an ns.length ns.length] h fun r h'=>∃ v,r=.tuple #[v,.int .i64 (climbS f ns 0).2.1,.int .i64 (climbS f ns 0).2.2]∧Ext h h'∧Img f a1 a2 (climbS f ns 0).1 h h' v:=by
  refine acall mixed Try.func78 rfl (by kernel_rfl) ?_
  simp [Try.f78]
  refine aloop mixed [1,2,4,7,8] (fun (x:Nat × Nat × Fs × Option Addr × Option Addr × Hp)=>[.slice an ns.length ns.length,.pointer (some ⟨h.length,0,none⟩),.pointer (some ⟨h.length+1,0,none⟩),.int .i64 x.2.1,.int .i64 x.1]) (fun x=>x.2.2.2.2.2)
    (fun x=>x.1≤ns.length∧Cur f a1 a2 h x.2.2.1 x.2.2.2.1 x.2.2.2.2.1 x.2.2.2.2.2∧ShapeOk x.2.2.1∧Good x.2.2.1 x.2.1∧climbS x.2.2.1 (ns.drop x.1) x.2.1=climbS f ns 0) (fun x=>ns.length - x.1) (0,0,f,a1,a2,h++[⟨true,true,26,[.slice a1 f.nodes.length f.nodes.length,.slice a2 f.data.length f.data.length]⟩,⟨true,true,26,[.slice none 0 0,.slice none 0 0]⟩]) ⟨by simp,Cur.start f a1 a2 h,s,gd,by simp⟩ (by simp [pickF]) rfl ?_
  rintro ⟨k,i,g,b1,b2,H⟩ ⟨hk,cur,sg,gg,he⟩
  simp only at hk cur sg gg he
  have hi:i<g.nodes.length:=by have:=gg.lt.2; omega
  obtain ⟨G1,G2,r1,r2⟩:=cur.img k1 k2
  obtain ⟨o1,off1,bb,BB,ea,c0,-⟩:=nodeAt r1 hi
  subst ea
  have cc:=cur.cells
  have dn:=cur.done [.slice (some ⟨o1,off1,none⟩) g.nodes.length g.nodes.length,.slice b2 g.data.length g.data.length] rfl
  have hkn:nA_ g (i:Int)=g.nodes[i]:=nodeAtI_get hi
  simp [mkF]
  refine aSI (fun hb=>?_) (fun hb=>?_) <;> simp at hb <;> simp [hb]
  rotate_left
  · obtain rfl:k=ns.length:=by omega
    rw [List.drop_length] at he
    rw [climbS_nil,hkn] at he
    simp [cc,hi,c0]
    by_cases hk2:g.nodes[i].kind=2
    · rw [if_pos hk2] at he
      rw [← he]
      simp [hk2,cc,dn.1,dn.2.1,dn.2.2.1]
      exact dn.2.2.2
    · rw [if_neg hk2] at he
      have hk2':(g.nodes[i].kind != 2)=true:=by simpa using hk2
      rw [← he]
      simp [hk2',cc,dn.1,dn.2.1,dn.2.2.1]
      exact dn.2.2.2
  rw [climbS_step g ns k hb,hkn] at he
  simp [cc]
  have hnl:g.nl≤1048576:=by have:=sg.small.nl; omega
  refine cK (l9Dir_c g _ b2 G1 G2 true _ _ r1 r2 hnl sg i hi) ?_
  rintro _ _ ⟨al,Fl,rfl,ol⟩
  obtain ⟨u,rfl⟩:=ol.ext.pre
  replace cur:=cur.grow u
  by_cases hk2:g.nodes[i].kind=2
  rotate_left
  · rw [if_neg hk2] at he
    have hd:dirK g i=([],false):=by simp [dirK,hkn,hk2]
    rw [hd,← he]
    have cc2:=cur.cells
    have dn2:=cur.done [.slice (some ⟨o1,off1,none⟩) g.nodes.length g.nodes.length,.slice b2 g.data.length g.data.length] rfl
    simp [cc2,dn2.1,dn2.2.1,dn2.2.2.1]
    exact dn2.2.2.2
  rw [if_pos hk2] at he
  have hkg:(nA_ g (i:Int)).kind=2:=by rw [hkn]; exact hk2
  have hd:dirK g i=dirI g i:=by simp [dirK,hkg]
  have hrd:=gg.read hkg
  rw [hd] at ol ⊢
  rw [hrd]
  have hdl:=dirI_small sg (i:Int)
  generalize H++u=H at cur ol ⊢
  clear c0 dn cc r1 r2
  obtain ⟨G1,G2,r1,r2⟩:=cur.img k1 k2
  have cc:=cur.cells
  obtain ⟨oN,offN,rfl,n0⟩:=strEAt (kn.ext cur.ext) hb
  simp [hb,n0]
  refine cK (dirFind_spec_c (dirI g i).1 ns[k] al Fl true _ _ ol.sl (by omega)) ?_
  rintro _ H ⟨rfl,rfl⟩
  have dn:=cur.done [.slice (some ⟨o1,off1,none⟩) g.nodes.length g.nodes.length,.slice b2 g.data.length g.data.length] rfl
  simp
  rcases gg.find hkg ns[k] with hf | hf
  · rw [hf] at he ⊢
    simp only [show ((-1:Int)<0)=True by simp,if_true] at he
    simp
    refine drawS true 11 [0,1,2,3,4,5,6,7,8,9,10] [12,13,14] (by simp; rfl) (by simp; rfl) (by simp; rfl) (by kernel_rfl) ?_
    simp [cc,hb,n0]
    refine callK (new_c g _ b2 G1 G2 true _ _ r1 r2 hnl sg i hi ns[k] (hns _ (List.getElem_mem hb)) 2 hkg) ?_
    have gsh:=growS_shape sg (i:Int) ns[k] 2
    have gfr:=growS_fresh sg hi (name:=ns[k]) (kind:=2) (by rw [hkg]; decide)
    generalize growS g (i:Int) ns[k] 2=q at he gsh gfr ⊢
    obtain ⟨gq,iq,bq⟩:=q
    simp only at he gsh gfr ⊢
    rintro _ _ ⟨v,rfl,hx,im⟩
    obtain ⟨t,rfl⟩:=hx.pre
    obtain ⟨c1,c2,rfl⟩:=im.shape
    refine ⟨fun _=>Ext.push _ _,?_⟩
    cases bq
    · simp only [Bool.false_eq_true,if_false] at he
      rw [← he]
      have cur2:=cur.grow (t++[⟨true,true,26,[.slice c1 gq.nodes.length gq.nodes.length,.slice c2 gq.data.length gq.data.length]⟩])
      have cc2:=cur2.cells
      have dn2:=cur2.done [.slice (some ⟨o1,off1,none⟩) g.nodes.length g.nodes.length,.slice b2 g.data.length g.data.length] rfl
      simp [cc2,dn2.1,dn2.2.1,dn2.2.2.1]
      exact dn2.2.2.2
    · simp only [if_true] at he
      obtain ⟨m,rfl,hne,fr,hle,h0⟩:=gfr rfl
      obtain ⟨cs,cur2⟩:=cur.step im [⟨true,true,26,[.slice c1 gq.nodes.length gq.nodes.length,.slice c2 gq.data.length gq.data.length]⟩]
      simp [cs]
      exact anext (k+1,m,gq,c1,c2,_) ⟨hb,cur2,gsh,fr.good,he⟩ (by simp only; omega) (by simp [pickF,wS (show k<9223372036854775807 by omega)]) rfl (by simp)
  · obtain ⟨m,hm⟩:=Int.eq_ofNat_of_zero_le hf.lt.1
    have hnn:¬ ((m:Int)<0):=by omega
    rw [hm,if_neg hnn] at he
    rw [hm] at hf
    rw [hm]
    simp [hnn]
    exact anext (k+1,m,g,_,b2,H) ⟨hb,cur,sg,hf,he⟩ (by simp only; omega) (by simp [pickF,wS (show k<9223372036854775807 by omega)]) rfl (by simp)
end
section
variable {f0 f g g':Fs} {a1 a2 an ad b1 b2 c1 c2:Option Addr} {h B H H' t:Hp} {oi:Nat} {v:Value}
theorem Img.over (fr:FsRes g B H (.agg #[.slice b1 g.nodes.length g.nodes.length,.slice b2 g.data.length g.data.length])) (im:Img g b1 b2 g' H (H++t) v):FsRes g' B (H++t) v:=by
  rcases im with ⟨rfl,rfl⟩ | im
  · exact fr.grow t
  · obtain ⟨_,_,_,_,_,o,_⟩:=fr
    exact im.low (o.ext.trans (Ext.push _ _)) o.ext.1 fun _ _=>rfl
theorem FsOut.img (k:FsOut f0 a1 a2 h oi g an ad H):FsRes g h H (.agg #[.slice an g.nodes.length g.nodes.length,.slice ad g.data.length g.data.length]):=by
  obtain ⟨G1,G2,o1,o2,d1,d2⟩:=k.own
  exact ⟨an,G1,ad,G2,rfl,o1,o2,fun q hq=>(d1 q hq).2.2⟩
theorem FsOut.turn (k:FsOut f0 a1 a2 h oi g an ad H) (im:Img g an ad g' H (H++t) (.agg #[.slice c1 g'.nodes.length g'.nodes.length,.slice c2 g'.data.length g'.data.length])) (l:Hp) :
    cS_ (H++(t++l)) oi 0 2=true∧FsOut f0 a1 a2 h oi g' c1 c2 (sA_ (H++(t++l)) oi 0 [.slice c1 g'.nodes.length g'.nodes.length,.slice c2 g'.data.length g'.data.length]):=by
  have kg:=k.grow (t++l)
  have hout:=get_lt k.out
  obtain ⟨ext,box,⟨x,y,res⟩,out,oi2,Fn,Fd,own,dat,dn,dd⟩:=kg
  have hne:∀ q,q≠oi→(sA_ (H++(t++l)) oi 0 [.slice c1 g'.nodes.length g'.nodes.length,.slice c2 g'.data.length g'.data.length])[q]?=(H++(t++l))[q]?:=fun q hq=>by rw [sAg,if_neg (fun e=>hq e.symm)]
  have e2:=ext.set (show h.length≤oi by omega) 0 [.slice c1 g'.nodes.length g'.nodes.length,.slice c2 g'.data.length g'.data.length]
  refine ⟨by simp [cS_,out],e2,by rw [hne _ (by omega)]; exact box,⟨x,y,by rw [hne _ (by omega)]; exact res⟩,?_,oi2,?_⟩
  · rw [sAg,if_pos rfl,out]
    rfl
  · rcases im with ⟨e,rfl⟩ | ⟨d1,G1,d2,G2,e,o1,o2,d⟩
    · simp only [Value.agg.injEq,Array.mk.injEq,List.cons.injEq,Value.slice.injEq,and_true,true_and] at e
      obtain ⟨rfl,rfl⟩:=e
      exact ⟨Fn,Fd,⟨e2,own.sl.frame fun q hq=>hne q (dn q hq).2.1,own.nd,own.new⟩,⟨e2,dat.sl.frame fun q hq=>hne q (dd q hq).2,dat.nd,dat.new⟩,dn,dd⟩
    · simp only [Value.agg.injEq,Array.mk.injEq,List.cons.injEq,Value.slice.injEq,and_true,true_and] at e
      obtain ⟨rfl,rfl⟩:=e
      have xl:Ext (H++t) (H++(t++l)):=by rw [← List.append_assoc]; exact Ext.push _ _
      have m1:∀ q∈G1,oi<q:=fun q hq=>Nat.lt_of_lt_of_le hout (o1.new q hq)
      have m2:∀ q∈G2,oi<q:=fun q hq=>Nat.lt_of_lt_of_le hout (o2.new q hq)
      exact ⟨G1,G2,⟨e2,(o1.sl.ext xl).frame fun q hq=>hne q (by have:=m1 q hq; omega),o1.nd,fun q hq=>by have:=m1 q hq; omega⟩,⟨e2,(o2.sl.ext xl).frame fun q hq=>hne q (by have:=m2 q hq; omega),o2.nd,fun q hq=>by have:=m2 q hq; omega⟩,
        fun q hq=>⟨by have:=m1 q hq; omega,by have:=m1 q hq; omega,d q hq⟩,fun q hq=>⟨by have:=m2 q hq; omega,by have:=m2 q hq; omega⟩⟩
theorem FsOut.next (k:FsOut f0 a1 a2 h oi g an ad H) (im:Img g an ad g' H (H++t) (.agg #[.slice c1 g'.nodes.length g'.nodes.length,.slice c2 g'.data.length g'.data.length])):FsOut f0 a1 a2 h (H.length+t.length) g' c1 c2 (H++(t++[⟨true,true,26,[.slice c1 g'.nodes.length g'.nodes.length,.slice c2 g'.data.length g'.data.length]⟩])):=by
  have kg:=k.grow t
  have hl:=get_lt k.out
  obtain ⟨ext,box,⟨x,y,res⟩,out,oi2,Fn,Fd,own,dat,dn,dd⟩:=kg
  have xp:Ext (H++t) (H++(t++[⟨true,true,26,[.slice c1 g'.nodes.length g'.nodes.length,.slice c2 g'.data.length g'.data.length]⟩])):=by rw [← List.append_assoc]; exact Ext.push _ _
  have e2:=ext.trans xp
  refine ⟨e2,by rw [xp.2 _ (get_lt box)]; exact box,⟨x,y,by rw [xp.2 _ (get_lt res)]; exact res⟩,by rw [← List.append_assoc,← List.length_append]; simp,by omega,?_⟩
  rcases im with ⟨e,rfl⟩ | ⟨d1,G1,d2,G2,e,o1,o2,d⟩
  · simp only [Value.agg.injEq,Array.mk.injEq,List.cons.injEq,Value.slice.injEq,and_true,true_and] at e
    obtain ⟨rfl,rfl⟩:=e
    have l1:=own.sl.lt
    have l2:=dat.sl.lt
    simp only [List.length_append] at l1 l2
    exact ⟨Fn,Fd,own.grow xp,dat.grow xp,fun q hq=>⟨(dn q hq).1,by have:=l1 q hq; omega,(dn q hq).2.2⟩,fun q hq=>⟨(dd q hq).1,by have:=l2 q hq; omega⟩⟩
  · simp only [Value.agg.injEq,Array.mk.injEq,List.cons.injEq,Value.slice.injEq,and_true,true_and] at e
    obtain ⟨rfl,rfl⟩:=e
    have l1:=o1.sl.lt
    have l2:=o2.sl.lt
    simp only [List.length_append] at l1 l2
    have m1:∀ q∈G1,oi<q:=fun q hq=>Nat.lt_of_lt_of_le hl (o1.new q hq)
    have m2:∀ q∈G2,oi<q:=fun q hq=>Nat.lt_of_lt_of_le hl (o2.new q hq)
    exact ⟨G1,G2,⟨e2,o1.sl.ext xp,o1.nd,fun q hq=>by have:=m1 q hq; omega⟩,⟨e2,o2.sl.ext xp,o2.nd,fun q hq=>by have:=m2 q hq; omega⟩,
      fun q hq=>⟨by have:=m1 q hq; omega,by have:=l1 q hq; omega,d q hq⟩,fun q hq=>⟨by have:=m2 q hq; omega,by have:=l2 q hq; omega⟩⟩
end
end Go.Proofs.Ytmpgpkdijfcfhaa.Hz
