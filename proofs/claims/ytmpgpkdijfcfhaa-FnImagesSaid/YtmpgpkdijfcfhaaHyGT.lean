/- Texts of the calculus and of the program's functions, merged: MA MC. -/
import Derived.Test.YtmpgpkdijfcfhaaHyGR
import Derived.Test.YtmpgpkdijfcfhaaHyGO
import Derived.Test.YtmpgpkdijfcfhaaHyGN
namespace Go.Proofs.Ytmpgpkdijfcfhaa.Hz
open Go.RowKit
set_option linter.unusedVariables false
set_option linter.unusedSimpArgs false
set_option maxRecDepth 20000
def makeBad (f:Fs) (kind:Int) (data:Str) (t g:Int):Prop:=(fsOk f && inR kind 1 3 && inR t 0 100000 && inR g 0 1000000)=false∨(kind=2∧(data≠[]∨t≠0∨g≠0))
noncomputable def mkC (f:Fs) (p:Str):Fs × Int × Int:=climbS f ((names p).take ((names p).length - 1)) 0
noncomputable def mkG (f:Fs) (p:Str) (kind:Int):Fs × Int × Bool:=growS (mkC f p).1 (mkC f p).2.1 (last p) kind
noncomputable def mkW (f:Fs) (p:Str) (kind:Int) (data:Str):Fs × Bool:=nW_ (mkG f p kind).1 (mkG f p kind).2.1 data
open Classical in
noncomputable def fsMake (f:Fs) (p:Str) (kind:Int) (data:Str) (t g:Int):Fs × Int :=
  if makeBad f kind data t g then (f,10) else if pathOk p=false∨p=[47] then (f,1) else if 80<data.length then (f,9) else if 0≤walk f p then (f,3)
  else if (mkC f p).2.2=0 then (if (mkG f p kind).2.2 then (if (mkW f p kind data).2 then (stamped (mkW f p kind data).1 (mkG f p kind).2.1.toNat t g,0) else (f,5)) else (f,5)) else (f,(mkC f p).2.2)
theorem mkC_shape {f:Fs} (e1:fsOk f=true) (p:Str):ShapeOk (mkC f p).1:=climbS_shape _ (fsOk_shape e1) _
theorem mkC_good {f:Fs} (e1:fsOk f=true) (p:Str) (h:(mkC f p).2.2=0):Good (mkC f p).1 (mkC f p).2.1∧(nA_ (mkC f p).1 (mkC f p).2.1).kind=2:=climbS_good _ (fsOk_shape e1) (okd_root e1).good h
theorem mkG_shape {f:Fs} (e1:fsOk f=true) (p:Str) (kind:Int):ShapeOk (mkG f p kind).1:=growS_shape (mkC_shape e1 p) _ _ _
theorem mkG_fresh {f:Fs} (e1:fsOk f=true) (p:Str) (kind:Int) (h:(mkC f p).2.2=0) (hg:(mkG f p kind).2.2=true):∃ m:Nat,(mkG f p kind).2.1=m∧Fresh (mkG f p kind).1 m kind:=by
  obtain ⟨gd,k2⟩:=mkC_good e1 p h
  obtain ⟨d,hd⟩:=Int.eq_ofNat_of_zero_le gd.lt.1
  have hlt:d<(mkC f p).1.nodes.length:=by have:=gd.lt.2; omega
  unfold mkG at hg ⊢
  rw [hd] at hg k2 ⊢
  obtain ⟨m,e,-,fr,-⟩:=growS_fresh (mkC_shape e1 p) hlt (by rw [k2]; decide) hg
  exact ⟨m,e,fr⟩
section
variable (f:Fs) (a1 a2:Option Addr) (F1 F2:List Nat) (w:Bool) (tNode:TypeId) (h:Hp) (k1:slR w tNode (nodeE w) h f.nodes a1 F1) (k2:slR w 9 strE h f.data a2 F2) (hl:f.nl≤1048576)
include k1 k2 hl
end
section
variable (f:Fs) (a1 a2:Option Addr) (F1 F2:List Nat) (w:Bool) (tNode:TypeId) (h:Hp) (k1:slR w tNode (nodeE w) h f.nodes a1 F1) (k2:slR w 9 strE h f.data a2 F2) (hl:f.nl≤1048576) (p:Str) (kind:Int) (data:Str) (t g:Int) (hp:p.length≤1048576) (hdl:data.length≤1048576)
include k1 k2 hl hp hdl
set_option maxHeartbeats 8000000 in
theorem fsMake_spec_c :
    ACall Try.prog 49 [.agg #[.slice a1 f.nodes.length f.nodes.length,.slice a2 f.data.length f.data.length],.string (S p),.int .i64 kind,.string (S data),.int .i64 t,.int .i64 g] h fun r h'=>∃ v,r=.tuple #[v,.int .i64 (fsMake f p kind data t g).2]∧FsRes (fsMake f p kind data t g).1 h h' v:=by
  refine acall mixed Try.func49 rfl (by kernel_rfl) ?_
  have hlim:=Fs.lim_of f hl
  simp [Try.f49]
  refine cK (l6Copy_c f a1 a2 F1 F2 w w w tNode _ _ (k1.to (by simp)) (k2.to (by simp)) hlim.1 hlim.2.2 hlim.2.1) ?_
  rintro _ _ ⟨an,G1,ad,G2,rfl,o1,o2,dis⟩
  obtain ⟨u,rfl⟩:=o1.ext.pre
  simp at o1 o2
  have kk:=FsOut.startG o1 o2 dis
  clear o1 o2 dis
  simp
  generalize h.length+(u.length+1+1)=oi at kk ⊢
  generalize (h++_ :: _ :: (u++_):Hp)=H at kk ⊢
  have cc:=kk.cells
  have dn:=kk.done [.slice an f.nodes.length f.nodes.length,.slice ad f.data.length f.data.length] rfl
  refine cK (fsOk_spec_c f a1 a2 F1 F2 w tNode _ (k1.ext kk.ext) (k2.ext kk.ext) hl) ?_
  rintro _ _ ⟨⟨t1,rfl⟩,rfl⟩
  replace kk:=kk.grow t1
  generalize H++t1=H at kk ⊢
  clear cc dn
  have cc:=kk.cells
  have dn:=kk.done [.slice an f.nodes.length f.nodes.length,.slice ad f.data.length f.data.length] rfl
  cases e1:fsOk f
  · have hd:fsMake f p kind data t g=(f,10):=by simp [fsMake,makeBad,e1]
    rw [hd]
    simp [cc,dn.1,dn.2.1,dn.2.2.1]
    exact kk.res_ _ _ rfl rfl
  simp
  refine cK (l1InR kind 1 3 _) ?_
  rintro _ H ⟨rfl,rfl⟩
  cases e2:inR kind 1 3
  · have hd:fsMake f p kind data t g=(f,10):=by simp [fsMake,makeBad,e1,e2]
    rw [hd]
    simp [cc,dn.1,dn.2.1,dn.2.2.1]
    exact kk.res_ _ _ rfl rfl
  simp
  refine cK (l11Nums_c t g _) ?_
  rintro _ H ⟨rfl,rfl⟩
  cases e34:(inR t 0 100000 && inR g 0 1000000)
  · have hd:fsMake f p kind data t g=(f,10):=by unfold fsMake; rw [if_pos]; left; rw [e1,e2,Bool.true_and,Bool.true_and,e34]
    rw [hd]
    simp [cc,dn.1,dn.2.1,dn.2.2.1]
    exact kk.res_ _ _ rfl rfl
  obtain ⟨e3,e4⟩:=Bool.and_eq_true_iff.1 e34
  simp
  by_cases hk2:kind=2
  rotate_left
  have hk2':(kind == 2)=false:=by simpa using hk2
  have hbad:¬ makeBad f kind data t g:=by simp [makeBad,e1,e2,e3,e4,hk2]
  simp [hk2']
  rotate_left
  have hk2':(kind == 2)=true:=by simpa using hk2
  simp [hk2']
  by_cases g1:data≠[]
  · have g1':data.isEmpty=false:=by simpa using g1
    have hd:fsMake f p kind data t g=(f,10):=by simp [fsMake,show makeBad f kind data t g from .inr ⟨hk2,.inl g1⟩]
    rw [hd]
    simp [g1',cc,dn.1,dn.2.1,dn.2.2.1]
    exact kk.res_ _ _ rfl rfl
  replace g1:=Decidable.not_not.1 g1
  have g1':data.isEmpty=true:=by simpa using g1
  simp [g1']
  by_cases g2:t≠0
  · have g2':(t != 0)=true:=by simpa using g2
    have hd:fsMake f p kind data t g=(f,10):=by simp [fsMake,show makeBad f kind data t g from .inr ⟨hk2,.inr (.inl g2)⟩]
    rw [hd]
    simp [g2',cc,dn.1,dn.2.1,dn.2.2.1]
    exact kk.res_ _ _ rfl rfl
  replace g2:=Decidable.not_not.1 g2
  have g2':(t != 0)=false:=by simpa using g2
  simp [g2']
  by_cases g3:g≠0
  · have g3':(g != 0)=true:=by simpa using g3
    have hd:fsMake f p kind data t g=(f,10):=by simp [fsMake,show makeBad f kind data t g from .inr ⟨hk2,.inr (.inr g3)⟩]
    rw [hd]
    simp [g3',cc,dn.1,dn.2.1,dn.2.2.1]
    exact kk.res_ _ _ rfl rfl
  replace g3:=Decidable.not_not.1 g3
  have g3':(g != 0)=false:=by simpa using g3
  have hbad:¬ makeBad f kind data t g:=by
    rintro (hb | ⟨_,hb⟩)
    · rw [e1,e2,e3,e4] at hb; cases hb
    · rcases hb with hb | hb | hb
      · exact hb g1
      · exact hb g2
      · exact hb g3
  simp [g3']
  all_goals
    refine cK (pathOk_spec_c p _ hp) ?_
    rintro _ _ ⟨⟨t2,rfl⟩,rfl⟩
    replace kk:=kk.grow t2
    generalize H++t2=H at kk ⊢
    clear cc dn
    have cc:=kk.cells
    have dn:=kk.done [.slice an f.nodes.length f.nodes.length,.slice ad f.data.length f.data.length] rfl
    cases e5:pathOk p
    · have hd:fsMake f p kind data t g=(f,1):=by simp [fsMake,hbad,e5]
      rw [hd]
      simp [cc,dn.1,dn.2.1,dn.2.2.1]
      exact kk.res_ _ _ rfl rfl
    simp
    by_cases e6:p=[47]
    · have hd:fsMake f p kind data t g=(f,1):=by simp [fsMake,hbad,e6]
      rw [hd]
      simp [e6,cc,dn.1,dn.2.1,dn.2.2.1]
      exact kk.res_ _ _ rfl rfl
    have e6':(p == [47])=false:=by simpa using e6
    simp [e6']
    have hnp:=names_pos e5 e6
    have hnl:=names_len p
    by_cases e7:80<data.length
    · have hd:fsMake f p kind data t g=(f,9):=by simp [fsMake,hbad,e5,e6,e7]
      rw [hd]
      simp [show (80:Int)<data.length by omega,cc,dn.1,dn.2.1,dn.2.2.1]
      exact kk.res_ _ _ rfl rfl
    simp [show ¬ (80:Int)<data.length by omega]
    refine cK (names_spec_c p _ hp) ?_
    rintro _ _ ⟨an0,Fn0,rfl,on0⟩
    obtain ⟨t0,rfl⟩:=on0.ext.pre
    have on:=on0.sl
    clear on0
    replace kk:=kk.grow t0
    generalize H++t0=H at kk on ⊢
    clear cc dn
    have cc:=kk.cells
    simp [cc]
    refine cK (follow_spec_c f a1 a2 F1 F2 w tNode _ (k1.ext kk.ext) (k2.ext kk.ext) hl e1 (names p) an0 Fn0 true _ on (by omega)) ?_
    have hwk:follow f (names p) 0=walk f p:=by simp [walk,e1,e5]
    rw [hwk]
    rintro _ _ ⟨⟨t3,rfl⟩,rfl⟩
    replace kk:=kk.grow t3
    replace on:=on.ext (Ext.push _ t3)
    generalize H++t3=H at kk on ⊢
    clear cc
    have cc:=kk.cells
    have dn:=kk.done [.slice an f.nodes.length f.nodes.length,.slice ad f.data.length f.data.length] rfl
    by_cases e8:0≤walk f p
    · have hd:fsMake f p kind data t g=(f,3):=by simp [fsMake,hbad,e5,e6,e7,e8]
      rw [hd]
      simp [e8,cc,dn.1,dn.2.1,dn.2.2.1]
      exact kk.res_ _ _ rfl rfl
    simp [e8]
    clear dn
    have hw1:IntKind.i64.wrap (((names p).length:Int) - 1)=(((names p).length - 1:Nat):Int):=by rw [wrap_in (by omega) (by omega)]; omega
    have hlt1:(names p).length - 1<(names p).length:=by omega
    refine drawS true 11 [0,1,2,3,4,5,6,7,8,9,10] [12,13,14] (by simp; rfl) (by simp; rfl) (by simp; rfl) (by kernel_rfl) ?_
    obtain ⟨os,offs,rfl,-⟩:=strEAt on hlt1
    have hel:=on.el
    simp [cc,hw1,asl2_j,hel]
    obtain ⟨Fp,kp,-⟩:=on.part 0 ((names p).length - 1) (by omega) (by omega)
    simp only [List.drop_zero,Nat.zero_mul,Nat.add_zero] at kp
    have hlp:((names p).take ((names p).length - 1)).length=(names p).length - 1:=by simp
    have sh:=fsOk_shape e1
    obtain ⟨Fn,Fd,own,dat,-⟩:=kk.own
    have hcl:=down_c f an ad Fn Fd _ own.sl dat.sl sh (okd_root e1).good ((names p).take ((names p).length - 1)) _ Fp true _ kp (by omega) (fun n hn=>by have:=(nameOk_len (names_mem (List.mem_of_mem_take hn))).2; omega)
    rw [hlp] at hcl
    refine callK (hcl.cap2 (by omega)) ?_
    rw [show climbS f ((names p).take ((names p).length - 1)) 0=mkC f p from rfl]
    rintro _ _ ⟨v,rfl,hx3,im3⟩
    obtain ⟨t3,rfl⟩:=hx3.pre
    obtain ⟨c1,c2,rfl⟩:=im3.shape
    refine ⟨fun _=>Ext.push _ _,?_⟩
    have kk2:=kk.next im3
    clear kk cc own dat hcl
    have kk:=kk2
    clear kk2
    simp
    generalize H.length+t3.length=oi at kk ⊢
    generalize (H++(t3++[⟨true,true,26,[.slice c1 (mkC f p).1.nodes.length (mkC f p).1.nodes.length,.slice c2 (mkC f p).1.data.length (mkC f p).1.data.length]⟩]):Hp)=H at kk ⊢
    have csh:=mkC_shape e1 p
    have cgd:=mkC_good e1 p
    have hd0:fsMake f p kind data t g=if (mkC f p).2.2=0 then (if (mkG f p kind).2.2 then (if (mkW f p kind data).2 then (stamped (mkW f p kind data).1 (mkG f p kind).2.1.toNat t g,0) else (f,5)) else (f,5)) else (f,(mkC f p).2.2):=by simp [fsMake,hbad,e5,e6,e7,e8]
    obtain ⟨C,hC⟩:∃ C,mkC f p=C:=⟨_,rfl⟩
    rw [hC] at kk csh cgd hd0 ⊢
    have cc:=kk.cells
    by_cases hc:C.2.2=0
    rotate_left
    · have hd:fsMake f p kind data t g=(f,C.2.2):=by rw [hd0,if_neg hc]
      have hc':(C.2.2 != 0)=true:=by simpa using hc
      rw [hd]
      simp [hc',cc]
      refine cK (l6Copy_c f a1 a2 F1 F2 w w w tNode _ _ (k1.ext kk.ext) (k2.ext kk.ext) hlim.1 hlim.2.2 hlim.2.1) ?_
      rintro _ _ ⟨an',G1',ad',G2',rfl,p1,p2,dis'⟩
      obtain ⟨u1,u2,u3,u4⟩:=kk.other p1 p2 dis'
      simp [u1,u3,u4]
      exact u2
    have hd1:=hd0
    rw [if_pos hc] at hd1
    obtain ⟨cgo,ck2⟩:=cgd hc
    obtain ⟨d,hdd⟩:=Int.eq_ofNat_of_zero_le cgo.lt.1
    have hdlt:d<C.1.nodes.length:=by have:=cgo.lt.2; omega
    rw [hdd] at ck2
    have hnC:C.1.nl≤1048576:=by have:=csh.small.nl; omega
    simp [hc]
    refine drawK true (by kernel_rfl) ?_
    simp [cc]
    refine callK (last_spec_c p _ hp) ?_
    rintro _ _ ⟨⟨t7,rfl⟩,rfl⟩
    refine ⟨fun _=>Ext.push _ _,?_⟩
    replace kk:=kk.grow t7
    generalize H++t7=H at kk ⊢
    clear cc
    have cc:=kk.cells
    simp
    have hlast:=last_at p hnp
    rw [hdd]
    obtain ⟨Fn,Fd,own,dat,-⟩:=kk.own
    have hG0:mkG f p kind=growS C.1 C.2.1 (last p) kind:=by unfold mkG; rw [hC]
    have gfr:=mkG_fresh e1 p kind (by rw [hC]; exact hc)
    have gsh:=mkG_shape e1 p kind
    refine callK (new_c C.1 c1 c2 Fn Fd true _ _ own.sl dat.sl hnC csh d hdlt (last p) (by rw [hlast]; have:=(nameOk_len (names_mem (List.getElem_mem hlt1))).2; omega) kind ck2) ?_
    have hG:mkG f p kind=mkG f p kind:=rfl
    rw [hG0] at gfr gsh
    rw [hG0,hdd] at hd1
    have hGG:mkG f p kind=growS C.1 (d:Int) (last p) kind:=by rw [hG0,hdd]
    rw [hdd] at gfr gsh
    generalize growS C.1 (d:Int) (last p) kind=q at gfr gsh hd1 hGG ⊢
    clear hG
    have hG:=hGG
    obtain ⟨gq,iq,bq⟩:=q
    simp only at gfr gsh hd1 ⊢
    rintro _ _ ⟨v,rfl,hx4,im4⟩
    obtain ⟨t4,rfl⟩:=hx4.pre
    obtain ⟨c3,c4,rfl⟩:=im4.shape
    refine ⟨fun _=>Ext.push _ _,?_⟩
    have kt:=kk.turn im4 []
    simp only [List.append_nil] at kt
    obtain ⟨cs4,kk⟩:=kt
    clear cc
    have cc:=kk.cells
    have hnq:gq.nl≤1048576:=by have:=gsh.small.nl; omega
    simp [cs4]
    cases bq
    · have hd:fsMake f p kind data t g=(f,5):=by rw [hd1]; rfl
      rw [hd]
      simp [cc]
      refine cK (l6Copy_c f a1 a2 F1 F2 w w w tNode _ _ (k1.ext kk.ext) (k2.ext kk.ext) hlim.1 hlim.2.2 hlim.2.1) ?_
      rintro _ _ ⟨an',G1',ad',G2',rfl,p1,p2,dis'⟩
      obtain ⟨u1,u2,u3,u4⟩:=kk.other p1 p2 dis'
      simp [u1,u3,u4]
      exact u2
    obtain ⟨m,rfl,fr⟩:=gfr rfl
    have hd2:fsMake f p kind data t g=if (mkW f p kind data).2 then (stamped (mkW f p kind data).1 ((m:Nat):Int).toNat t g,0) else (f,5):=by rw [hd1]; rfl
    have cc:=kk.cells
    obtain ⟨Fn,Fd,own,dat,-⟩:=kk.own
    try simp [cc]
    refine cK (fill_c gq c3 c4 Fn Fd true _ _ own.sl dat.sl hnq m fr.lt data hdl t g) ?_
    have hW:mkW f p kind data=nW_ gq (m:Int) data:=by unfold mkW; rw [hG]
    rw [hW,Int.toNat_natCast] at hd2
    clear hW
    generalize nW_ gq (m:Int) data=qw at hd2 ⊢
    obtain ⟨fw,bw⟩:=qw
    simp only at hd2 ⊢
    rintro _ _ ⟨v,rfl,hx5,r1,r2⟩
    obtain ⟨t5,rfl⟩:=hx5.pre
    cases bw
    · rw [hd2]
      have hv:=r2 rfl
      subst hv
      have kt:=kk.turn (t:=t5) (.inl ⟨rfl,rfl⟩) []
      simp only [List.append_nil] at kt
      obtain ⟨cs5,kk⟩:=kt
      have cc:=kk.cells
      simp [cs5,cc]
      refine cK (l6Copy_c f a1 a2 F1 F2 w w w tNode _ _ (k1.ext kk.ext) (k2.ext kk.ext) hlim.1 hlim.2.2 hlim.2.1) ?_
      rintro _ _ ⟨an',G1',ad',G2',rfl,p1,p2,dis'⟩
      obtain ⟨u1,u2,u3,u4⟩:=kk.other p1 p2 dis'
      simp [u1,u3,u4]
      exact u2
    · simp only [if_true] at hd2
      rw [hd2]
      have imw:Img gq c3 c4 (stamped fw m t g) _ _ v:=.inr (r1 rfl)
      obtain ⟨d1,d2,rfl⟩:=imw.shape
      have kt:=kk.turn imw []
      simp only [List.append_nil] at kt
      obtain ⟨cs5,kk⟩:=kt
      clear cc
      have cc:=kk.cells
      have dn:=kk.done [.slice d1 (stamped fw m t g).nodes.length (stamped fw m t g).nodes.length,.slice d2 (stamped fw m t g).data.length (stamped fw m t g).data.length] rfl
      simp [cs5,cc,dn.1,dn.2.1,dn.2.2.1]
      exact kk.res_ _ _ rfl rfl
end
end Go.Proofs.Ytmpgpkdijfcfhaa.Hz
