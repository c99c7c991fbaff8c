/- Texts of the calculus and of the program's functions, merged: HI. -/
import Derived.Test.YtmpgpkdijfcfhaaHyGR
namespace Go.Proofs.Ytmpgpkdijfcfhaa.Hz
open Go.RowKit
set_option linter.unusedVariables false
set_option linter.unusedSimpArgs false
set_option maxRecDepth 20000
noncomputable def fsHide (f:Fs) (data:Str):Fs × Int :=
  if fsOk f=false then (f,10) else if 80<data.length then (f,9) else if hiddenNode f<0 then
    (if (growS f ((0:Nat):Int) [126] 1).2.2 then (if (nW_ (growS f ((0:Nat):Int) [126] 1).1 (growS f ((0:Nat):Int) [126] 1).2.1 data).2 then ((nW_ (growS f ((0:Nat):Int) [126] 1).1 (growS f ((0:Nat):Int) [126] 1).2.1 data).1,0) else (f,5)) else (f,5))
  else if (nW_ f (hiddenNode f) data).2 then ((nW_ f (hiddenNode f) data).1,0) else (f,5)
section
variable (f:Fs) (a1 a2:Option Addr) (F1 F2:List Nat) (w:Bool) (tNode:TypeId) (h:Hp) (k1:slR w tNode (nodeE w) h f.nodes a1 F1) (k2:slR w 9 strE h f.data a2 F2) (hl:f.nl≤1048576) (data:Str) (hdl:data.length≤1048576)
include k1 k2 hl hdl
set_option maxHeartbeats 4000000 in
theorem fsHide_spec_c :
    ACall Try.prog 88 [.agg #[.slice a1 f.nodes.length f.nodes.length,.slice a2 f.data.length f.data.length],.string (S data)] h fun r h'=>∃ v,r=.tuple #[v,.int .i64 (fsHide f data).2]∧FsRes (fsHide f data).1 h h' v:=by
  refine acall mixed Try.func88 rfl (by kernel_rfl) ?_
  have hlim:=Fs.lim_of f hl
  simp [Try.f88]
  refine cK (l6Copy_c f a1 a2 F1 F2 w w w tNode _ _ (k1.to (by simp)) (k2.to (by simp)) hlim.1 hlim.2.2 hlim.2.1) ?_
  rintro _ _ ⟨an,G1,ad,G2,rfl,o1,o2,dis⟩
  obtain ⟨u,rfl⟩:=o1.ext.pre
  simp at o1 o2
  have kk:=FsOut.startG o1 o2 dis
  clear o1 o2 dis
  simp
  generalize h.length+(u.length+1+1)=oi at kk ⊢
  generalize (h++_ :: _ :: (u++_):Hp)=H at kk ⊢
  have cc:=kk.cells
  refine cK (fsOk_spec_c f a1 a2 F1 F2 w tNode _ (k1.ext kk.ext) (k2.ext kk.ext) hl) ?_
  rintro _ _ ⟨⟨t1,rfl⟩,rfl⟩
  replace kk:=kk.grow t1
  generalize H++t1=H at kk ⊢
  clear cc
  have cc:=kk.cells
  have dn:=kk.done [.slice an f.nodes.length f.nodes.length,.slice ad f.data.length f.data.length] rfl
  cases e1:fsOk f
  · have hd:fsHide f data=(f,10):=by simp [fsHide,e1]
    rw [hd]
    simp [cc,dn.1,dn.2.1,dn.2.2.1]
    exact kk.res_ _ _ rfl rfl
  simp
  by_cases e2:80<data.length
  · have hd:fsHide f data=(f,9):=by simp [fsHide,e1,e2]
    rw [hd]
    simp [show (80:Int)<data.length by omega,cc,dn.1,dn.2.1,dn.2.2.1]
    exact kk.res_ _ _ rfl rfl
  simp [show ¬ (80:Int)<data.length by omega,cc]
  clear dn cc
  have sh:=fsOk_shape e1
  obtain ⟨hroot,hpos⟩:=shape_root sh
  have kn:=lit1_str H [126]
  replace kk:=kk.grow [⟨true,true,9,[.string (S [126])]⟩]
  have hfo:=follow_spec_c f a1 a2 F1 F2 w tNode _ (k1.ext kk.ext) (k2.ext kk.ext) hl e1 [[126]] _ _ true _ kn (by simp)
  simp at hfo
  refine cK hfo ?_
  rintro _ _ ⟨⟨t3,rfl⟩,rfl⟩
  rw [follow_hidden e1]
  replace kk:=kk.grow t3
  simp only [List.append_assoc,List.cons_append,List.nil_append] at kk ⊢
  generalize (H++⟨true,true,9,[.string (S [126])]⟩ :: t3:Hp)=H at kk ⊢
  have cc:=kk.cells
  simp [cc]
  have kk2:=kk.next (t:=[]) (.inl ⟨rfl,rfl⟩)
  simp only [List.length_nil,Nat.add_zero,List.nil_append] at kk2
  replace kk:=kk.grow [⟨true,true,26,[.slice an f.nodes.length f.nodes.length,.slice ad f.data.length f.data.length]⟩]
  clear cc
  generalize H.length=oi2 at kk2 ⊢
  generalize H++[⟨true,true,26,[.slice an f.nodes.length f.nodes.length,.slice ad f.data.length f.data.length]⟩]=H at kk kk2 ⊢
  rcases hidden_okd f with hw | ⟨-,o⟩
  · rw [hw]
    have cc:=kk.cells
    try simp [cc]
    clear cc
    obtain ⟨Fn,Fd,own,dat,-⟩:=kk.own
    refine cK (new_c f an ad Fn Fd true _ _ own.sl dat.sl hl sh 0 hpos [126] (by decide) 1 hroot) ?_
    clear kk
    have kk:=kk2
    clear kk2
    have gsh:=growS_shape sh 0 [126] 1
    have gfr:=growS_fresh sh (i:=0) hpos (name:=[126]) (kind:=1) (by show (nA_ f 0).kind≠0; rw [hroot]; decide)
    have hd0:fsHide f data=if (growS f ((0:Nat):Int) [126] 1).2.2 then (if (nW_ (growS f ((0:Nat):Int) [126] 1).1 (growS f ((0:Nat):Int) [126] 1).2.1 data).2 then ((nW_ (growS f ((0:Nat):Int) [126] 1).1 (growS f ((0:Nat):Int) [126] 1).2.1 data).1,0) else (f,5)) else (f,5):=by
      simp [fsHide,e1,e2,hw]
    replace gsh:ShapeOk (growS f ((0:Nat):Int) [126] 1).1:=gsh
    generalize growS f ((0:Nat):Int) [126] 1=q at gsh gfr hd0 ⊢
    obtain ⟨gq,iq,bq⟩:=q
    simp only at gsh gfr hd0 ⊢
    rintro _ _ ⟨v,rfl,hx,im⟩
    obtain ⟨t,rfl⟩:=hx.pre
    obtain ⟨c1,c2,rfl⟩:=im.shape
    have hnq:gq.nl≤1048576:=by have:=gsh.small.nl; omega
    cases bq
    · have hd:fsHide f data=(f,5):=by rw [hd0]; rfl
      rw [hd]
      replace kk:=kk.grow (t++[⟨true,true,26,[.slice c1 gq.nodes.length gq.nodes.length,.slice c2 gq.data.length gq.data.length]⟩])
      have cc:=kk.cells
      simp [cc]
      refine cK (l6Copy_c f a1 a2 F1 F2 w w w tNode _ _ (k1.ext kk.ext) (k2.ext kk.ext) hlim.1 hlim.2.2 hlim.2.1) ?_
      rintro _ _ ⟨an',G1',ad',G2',rfl,p1,p2,dis'⟩
      obtain ⟨u1,u2,u3,u4⟩:=kk.other p1 p2 dis'
      simp [u1,u3,u4]
      exact u2
    · obtain ⟨m,rfl,hne,fr,hle,h0⟩:=gfr rfl
      obtain ⟨cs,kk⟩:=kk.turn im [⟨true,true,26,[.slice c1 gq.nodes.length gq.nodes.length,.slice c2 gq.data.length gq.data.length]⟩]
      simp [cs]
      have cc:=kk.cells
      obtain ⟨Fn,Fd,own,dat,-⟩:=kk.own
      try simp [cc]
      refine cK (nodeWrite_spec_c gq c1 c2 Fn Fd true _ _ own.sl dat.sl hnq (m:Int) data hdl) ?_
      have hd:fsHide f data=if (nW_ gq (m:Int) data).2 then ((nW_ gq (m:Int) data).1,0) else (f,5):=by rw [hd0]; rfl
      rw [hd]
      clear hd
      generalize nW_ gq (m:Int) data=q
      obtain ⟨fw,bw⟩:=q
      simp only
      rintro _ _ ⟨v,rfl,fr⟩
      obtain ⟨t,rfl⟩:∃ t,_=_++t:=by obtain ⟨_,_,_,_,_,o,_⟩:=fr; exact o.ext.pre
      have im:Img gq c1 c2 fw _ _ v:=.inr fr
      obtain ⟨d1,d2,rfl⟩:=im.shape
      have kt:=kk.turn im []
      simp only [List.append_nil] at kt
      obtain ⟨cs,kk⟩:=kt
      have cc:=kk.cells
      simp [cs]
      cases bw
      · simp [cc]
        refine cK (l6Copy_c f a1 a2 F1 F2 w w w tNode _ _ (k1.ext kk.ext) (k2.ext kk.ext) hlim.1 hlim.2.2 hlim.2.1) ?_
        rintro _ _ ⟨an',G1',ad',G2',rfl,p1,p2,dis'⟩
        obtain ⟨u1,u2,u3,u4⟩:=kk.other p1 p2 dis'
        simp [u1,u3,u4]
        exact u2
      · have dn:=kk.done [.slice d1 fw.nodes.length fw.nodes.length,.slice d2 fw.data.length fw.data.length] rfl
        simp [cc,dn.1,dn.2.1,dn.2.2.1]
        exact kk.res_ _ _ rfl rfl
  · obtain ⟨m,hm⟩:=Int.eq_ofNat_of_zero_le o.1
    have hnn:¬ ((m:Int)<0):=by omega
    rw [hm]
    simp [hnn]
    clear kk
    have kk:=kk2
    clear kk2
    have cc:=kk.cells
    obtain ⟨Fn,Fd,own,dat,-⟩:=kk.own
    try simp [cc]
    refine cK (nodeWrite_spec_c f an ad Fn Fd true _ _ own.sl dat.sl hl (m:Int) data hdl) ?_
    have hd:fsHide f data=if (nW_ f (m:Int) data).2 then ((nW_ f (m:Int) data).1,0) else (f,5):=by simp [fsHide,e1,e2,hm,hnn]
    rw [hd]
    clear hd
    generalize nW_ f (m:Int) data=q
    obtain ⟨fw,bw⟩:=q
    simp only
    rintro _ _ ⟨v,rfl,fr⟩
    obtain ⟨t,rfl⟩:∃ t,_=_++t:=by obtain ⟨_,_,_,_,_,o,_⟩:=fr; exact o.ext.pre
    have im:Img f an ad fw _ _ v:=.inr fr
    obtain ⟨d1,d2,rfl⟩:=im.shape
    have kt:=kk.turn im []
    simp only [List.append_nil] at kt
    obtain ⟨cs,kk⟩:=kt
    have cc:=kk.cells
    simp [cs]
    cases bw
    · simp [cc]
      refine cK (l6Copy_c f a1 a2 F1 F2 w w w tNode _ _ (k1.ext kk.ext) (k2.ext kk.ext) hlim.1 hlim.2.2 hlim.2.1) ?_
      rintro _ _ ⟨an',G1',ad',G2',rfl,p1,p2,dis'⟩
      obtain ⟨u1,u2,u3,u4⟩:=kk.other p1 p2 dis'
      simp [u1,u3,u4]
      exact u2
    · have dn:=kk.done [.slice d1 fw.nodes.length fw.nodes.length,.slice d2 fw.data.length fw.data.length] rfl
      simp [cc,dn.1,dn.2.1,dn.2.2.1]
      exact kk.res_ _ _ rfl rfl
end
end Go.Proofs.Ytmpgpkdijfcfhaa.Hz
