/- Texts of the calculus and of the program's functions, merged: SP SE. -/
import Derived.Test.YtmpgpkdijfcfhaaHyGK
import Derived.Test.YtmpgpkdijfcfhaaHyGI
import Derived.Test.YtmpgpkdijfcfhaaHyGM
namespace Go.Proofs.Ytmpgpkdijfcfhaa.Hz
open Go.RowKit
set_option linter.unusedVariables false
set_option linter.unusedSimpArgs false
set_option maxRecDepth 20000
theorem FsOut.startG {f0 g:Fs} {a1 a2 an ad:Option Addr} {h:Hp} {u:Hp} {F1 F2:List Nat}
    (o1:Own (h++[⟨true,true,26,[.slice a1 f0.nodes.length f0.nodes.length,.slice a2 f0.data.length f0.data.length]⟩,⟨true,true,26,[.slice none 0 0,.slice none 0 0]⟩]) 49 (nodeE true) (h++⟨true,true,26,[.slice a1 f0.nodes.length f0.nodes.length,.slice a2 f0.data.length f0.data.length]⟩ :: ⟨true,true,26,[.slice none 0 0,.slice none 0 0]⟩ :: u) g.nodes an F1)
    (o2:Own (h++[⟨true,true,26,[.slice a1 f0.nodes.length f0.nodes.length,.slice a2 f0.data.length f0.data.length]⟩,⟨true,true,26,[.slice none 0 0,.slice none 0 0]⟩]) 9 strE (h++⟨true,true,26,[.slice a1 f0.nodes.length f0.nodes.length,.slice a2 f0.data.length f0.data.length]⟩ :: ⟨true,true,26,[.slice none 0 0,.slice none 0 0]⟩ :: u) g.data ad F2)
    (dis:∀ q∈F1,q ∉ F2) :
    FsOut f0 a1 a2 h (h.length+(u.length+1+1)) g an ad (h++⟨true,true,26,[.slice a1 f0.nodes.length f0.nodes.length,.slice a2 f0.data.length f0.data.length]⟩ :: ⟨true,true,26,[.slice none 0 0,.slice none 0 0]⟩ :: (u++[⟨true,true,26,[.slice an g.nodes.length g.nodes.length,.slice ad g.data.length g.data.length]⟩])) where
  ext:=Ext.push _ _
  box:=by simp
  res:=⟨.slice none 0 0,.slice none 0 0,by simp⟩
  out:=by
    rw [List.getElem?_append_right (by omega)]
    simp
  oi2:=by omega
  own:=by
    have e0:Ext h (h++[⟨true,true,26,[.slice a1 f0.nodes.length f0.nodes.length,.slice a2 f0.data.length f0.data.length]⟩,⟨true,true,26,[.slice none 0 0,.slice none 0 0]⟩]):=Ext.push _ _
    have p1:=(Own.of_new e0 o1).grow (Ext.push _ [⟨true,true,26,[.slice an g.nodes.length g.nodes.length,.slice ad g.data.length g.data.length]⟩])
    have p2:=(Own.of_new e0 o2).grow (Ext.push _ [⟨true,true,26,[.slice an g.nodes.length g.nodes.length,.slice ad g.data.length g.data.length]⟩])
    refine ⟨F1,F2,by simpa using p1,by simpa using p2,fun q hq=>?_,fun q hq=>?_⟩
    · have h1:=o1.new q hq
      have h2:=o1.sl.lt q hq
      simp at h1 h2
      exact ⟨by omega,by omega,dis q hq⟩
    · have h1:=o2.new q hq
      have h2:=o2.sl.lt q hq
      simp at h1 h2
      exact ⟨by omega,by omega⟩
def stamped (f:Fs) (i:Nat) (t g:Int):Fs:=⟨f.nodes.set i { nA_ f i with gen:=g,time:=t },f.data⟩
theorem stamped_nl (f:Fs) (i:Nat) (t g:Int):(stamped f i t g).nl≤f.nl:=by
  by_cases hi:i<f.nodes.length
  · exact nodes_set_nl f i hi _ (by simp [nA_,hi,Node.nl])
  · unfold stamped
    rw [List.set_eq_of_length_le (by omega)]
    exact Nat.le_refl _
theorem FsOut.stamp {f0 f:Fs} {a1 a2 ad:Option Addr} {h H:Hp} {oi o off:Nat} (k:FsOut f0 a1 a2 h oi f (some ⟨o,off,none⟩) ad H) {i:Nat} (hi:i<f.nodes.length) (t g:Int) :
    cS_ H o (off+i * 5+2) 1=true∧cS_ (sA_ H o (off+i * 5+2) [.int .i64 t]) o (off+i * 5+1) 1=true∧FsOut f0 a1 a2 h oi (stamped f i t g) (some ⟨o,off,none⟩) ad (sA_ (sA_ H o (off+i * 5+2) [.int .i64 t]) o (off+i * 5+1) [.int .i64 g]):=by
  obtain ⟨c1,k1⟩:=k.field (i:=i) (x:=f.nodes[i]) (List.getElem?_eq_getElem hi) 2 t { f.nodes[i] with time:=t } (by omega) rfl (fun _=>rfl)
  obtain ⟨c2,k2⟩:=k1.field (i:=i) (x:={ f.nodes[i] with time:=t }) (by simp [hi]) 1 g { f.nodes[i] with gen:=g,time:=t } (by omega) rfl (fun _=>rfl)
  refine ⟨c1,c2,?_⟩
  simp only [List.set_set] at k2
  unfold stamped
  rw [nodeAtI_get hi]
  exact k2
section
variable (f:Fs) (a1 a2:Option Addr) (F1 F2:List Nat) (w:Bool) (tNode:TypeId) (h:Hp) (k1:slR w tNode (nodeE w) h f.nodes a1 F1) (k2:slR w 9 strE h f.data a2 F2) (hl:f.nl≤1048576)
include k1 k2 hl
set_option maxHeartbeats 2000000 in
theorem fill_c (i:Nat) (hi:i<f.nodes.length) (data:Str) (hdl:data.length≤1048576) (t g:Int) :
    ACall Try.prog 81 [.agg #[.slice a1 f.nodes.length f.nodes.length,.slice a2 f.data.length f.data.length],.int .i64 i,.string (S data),.int .i64 t,.int .i64 g] h fun r h'=>∃ v,r=.tuple #[v,.bool (nW_ f i data).2]∧Ext h h'∧((nW_ f i data).2=true→FsRes (stamped (nW_ f i data).1 i t g) h h' v)∧((nW_ f i data).2=false→v=.agg #[.slice a1 f.nodes.length f.nodes.length,.slice a2 f.data.length f.data.length]):=by
  refine acall mixed Try.func81 rfl (by kernel_rfl) ?_
  simp [Try.f81]
  refine cK (nodeWrite_spec_c f a1 a2 F1 F2 w tNode _ (k1.to (by simp)) (k2.to (by simp)) hl i data hdl) ?_
  have hln:(nW_ f (i:Int) data).1.nodes.length=f.nodes.length:=by
    unfold nW_
    split <;> simp [written]
  generalize nW_ f (i:Int) data=q at hln
  obtain ⟨fq,b⟩:=q
  simp only at hln ⊢
  rintro _ _ ⟨v,rfl,an,G1,ad,G2,rfl,o1,o2,dis⟩
  obtain ⟨u,rfl⟩:=o1.ext.pre
  simp at o1 o2
  have kk:=FsOut.startG o1 o2 dis
  clear o1 o2 dis
  simp
  generalize h.length+(u.length+1+1)=oi at kk ⊢
  generalize (h++_ :: _ :: (u++_):Hp)=H at kk ⊢
  have cc:=kk.cells
  cases b
  · have dn:=kk.done [.slice a1 f.nodes.length f.nodes.length,.slice a2 f.data.length f.data.length] rfl
    simp [cc,dn.1,dn.2.1,dn.2.2.1]
    exact kk.ext.set (by omega) _ _
  have hi':i<fq.nodes.length:=by omega
  obtain ⟨Fn,Fd,own,-⟩:=kk.own
  obtain ⟨o,off,b0,G0,rfl,c0,-⟩:=nodeAt own.sl hi'
  clear own
  have hoio:o≠oi:=by
    obtain ⟨Fn,Fd,own,-,dn,-⟩:=kk.own
    exact (dn o own.memF).2.1
  obtain ⟨s1,s2,kf⟩:=kk.stamp hi' t g
  have x1:=cell_otherO (h:=H) (i:=off+i * 5+2) (j:=0) (vs:=[.int .i64 t]) hoio
  simp [cc,hi',s1,s2,x1]
  have cf:=kf.cells
  have dn:=kf.done [.slice (some ⟨o,off,none⟩) fq.nodes.length fq.nodes.length,.slice ad fq.data.length fq.data.length] rfl
  have e1:(stamped fq i t g).nodes.length=fq.nodes.length:=by simp [stamped]
  have e2:(stamped fq i t g).data.length=fq.data.length:=rfl
  rw [e1,e2] at cf
  simp [cf,dn.1,dn.2.1,dn.2.2.1]
  have hr:=kf.res_ (.slice (some ⟨o,off,none⟩) fq.nodes.length fq.nodes.length) (.slice ad fq.data.length fq.data.length) (by rw [e1]) (by rw [e2])
  rw [e1,e2] at hr
  refine ⟨?_,hr⟩
  exact kf.ext.set (by omega) _ _
end
theorem FsRes.grow {f:Fs} {h h':Hp} {v:Value} (k:FsRes f h h' v) (l:Hp):FsRes f h (h'++l) v:=by
  obtain ⟨b1,G1,b2,G2,rfl,o1,o2,dis⟩:=k
  exact ⟨b1,G1,b2,G2,rfl,o1.grow (Ext.push _ l),o2.grow (Ext.push _ l),dis⟩
theorem l11Nums_c (t g:Int) (h:Hp):ACall Try.prog 74 [.int .i64 t,.int .i64 g] h fun r h'=>r=.bool (inR t 0 100000 && inR g 0 1000000)∧h'=h:=by
  refine acall mixed Try.func74 rfl (by kernel_rfl) ?_
  simp [Try.f74]
  refine cK (l1InR t 0 100000 _) ?_
  rintro _ _ ⟨rfl,rfl⟩
  cases e2:inR t 0 100000
  · simp
  simp
  refine cK (l1InR g 0 1000000 _) ?_
  rintro _ _ ⟨rfl,rfl⟩
  simp
noncomputable def fsSet (f:Fs) (p data:Str) (t g:Int):Fs × Int :=
  if (fsOk f && inR t 0 100000 && inR g 0 1000000)=false then (f,10) else if pathOk p=false then (f,1) else if walk f p<0 then (f,2)
  else if (nA_ f (walk f p)).kind=2 then (f,4) else if 80<data.length then (f,9)
  else if (nW_ f (walk f p) data).2 then (stamped (nW_ f (walk f p) data).1 (walk f p).toNat t g,0) else (f,5)
section
variable (f:Fs) (a1 a2:Option Addr) (F1 F2:List Nat) (w:Bool) (tNode:TypeId) (h:Hp) (k1:slR w tNode (nodeE w) h f.nodes a1 F1) (k2:slR w 9 strE h f.data a2 F2) (hl:f.nl≤1048576) (p data:Str) (t g:Int) (hp:p.length≤1048576) (hdl:data.length≤1048576)
include k1 k2 hl hp hdl
set_option maxHeartbeats 4000000 in
theorem fsSet_spec_c :
    ACall Try.prog 85 [.agg #[.slice a1 f.nodes.length f.nodes.length,.slice a2 f.data.length f.data.length],.string (S p),.string (S data),.int .i64 t,.int .i64 g] h fun r h'=>∃ v,r=.tuple #[v,.int .i64 (fsSet f p data t g).2]∧FsRes (fsSet f p data t g).1 h h' v:=by
  refine acall mixed Try.func85 rfl (by kernel_rfl) ?_
  have hlim:=Fs.lim_of f hl
  simp [Try.f85]
  refine cK (l6Copy_c f a1 a2 F1 F2 w w w tNode _ _ (k1.to (by simp)) (k2.to (by simp)) hlim.1 hlim.2.2 hlim.2.1) ?_
  rintro _ _ ⟨an,G1,ad,G2,rfl,o1,o2,dis⟩
  obtain ⟨u,rfl⟩:=o1.ext.pre
  simp at o1 o2
  have kk:=FsOut.startG o1 o2 dis
  clear o1 o2 dis
  simp
  generalize h.length+(u.length+1+1)=oi at kk ⊢
  generalize (h++_ :: _ :: (u++_):Hp)=H at kk ⊢
  refine cK (fsOk_spec_c f a1 a2 F1 F2 w tNode _ (k1.ext kk.ext) (k2.ext kk.ext) hl) ?_
  rintro _ _ ⟨⟨t1,rfl⟩,rfl⟩
  replace kk:=kk.grow t1
  generalize H++t1=H at kk ⊢
  have cc:=kk.cells
  have dn:=kk.done [.slice an f.nodes.length f.nodes.length,.slice ad f.data.length f.data.length] rfl
  cases e1:fsOk f
  · have hd:fsSet f p data t g=(f,10):=by simp [fsSet,e1]
    rw [hd]
    simp [cc,dn.1,dn.2.1,dn.2.2.1]
    exact kk.res_ _ _ rfl rfl
  simp
  refine cK (l11Nums_c t g _) ?_
  rintro _ H ⟨rfl,rfl⟩
  cases e2:(inR t 0 100000 && inR g 0 1000000)
  · have hd:fsSet f p data t g=(f,10):=by unfold fsSet; rw [e1,Bool.true_and,e2]; rfl
    rw [hd]
    simp [cc,dn.1,dn.2.1,dn.2.2.1]
    exact kk.res_ _ _ rfl rfl
  simp
  refine cK (pathOk_spec_c p _ hp) ?_
  rintro _ _ ⟨⟨t1,rfl⟩,rfl⟩
  replace kk:=kk.grow t1
  generalize H++t1=H at kk ⊢
  clear cc dn
  have cc:=kk.cells
  have dn:=kk.done [.slice an f.nodes.length f.nodes.length,.slice ad f.data.length f.data.length] rfl
  have e3:(fsOk f && inR t 0 100000 && inR g 0 1000000)=true:=by rw [e1,Bool.true_and,e2]
  cases e4:pathOk p
  · have hd:fsSet f p data t g=(f,1):=by simp [fsSet,e3,e4]
    rw [hd]
    simp [cc,dn.1,dn.2.1,dn.2.2.1]
    exact kk.res_ _ _ rfl rfl
  simp
  refine drawK true (by kernel_rfl) ?_
  simp [cc]
  refine callK (names_spec_c p _ hp) ?_
  rintro _ _ ⟨an2,Fn2,rfl,on⟩
  obtain ⟨u2,rfl⟩:=on.ext.pre
  refine ⟨fun _=>Ext.push _ _,?_⟩
  replace kk:=kk.grow u2
  have hnl:(names p).length≤1048576:=by
    unfold names
    split
    · simp
    · split
      · rename_i hg
        simp only [pathGood,Bool.and_eq_true] at hg
        have:=inR_iff.1 hg.1.2
        simp
        omega
      · simp
  simp
  generalize H++u2=H at kk on ⊢
  refine callK (follow_spec_c f a1 a2 F1 F2 w tNode _ (k1.ext kk.ext) (k2.ext kk.ext) hl e1 (names p) an2 Fn2 true _ (on.sl.to (by simp)) hnl) ?_
  have hwk:follow f (names p) 0=walk f p:=by simp [walk,e1,e4]
  rw [hwk]
  rintro _ _ ⟨⟨t3,rfl⟩,rfl⟩
  refine ⟨fun _=>Ext.push _ _,?_⟩
  replace kk:=kk.grow t3
  generalize H++t3=H at kk ⊢
  clear cc dn
  have cc:=kk.cells
  have dn:=kk.done [.slice an f.nodes.length f.nodes.length,.slice ad f.data.length f.data.length] rfl
  rcases walk_okd f p with hw | ⟨-,-,o⟩
  · have hd:fsSet f p data t g=(f,2):=by simp [fsSet,e3,e4,hw]
    rw [hd]
    simp [hw,cc,dn.1,dn.2.1,dn.2.2.1]
    exact kk.res_ _ _ rfl rfl
  obtain ⟨m,hm⟩:=Int.eq_ofNat_of_zero_le o.1
  have hlt:m<f.nodes.length:=by have:=o.2.1; omega
  have hnn:¬ ((m:Int)<0):=by omega
  obtain ⟨oo,offo,b1,B1,ea,c0,-,-,-,-,-,-⟩:=nodeAt (k1.ext kk.ext) hlt
  subst ea
  have hkn:=nodeAtI_get hlt
  rw [hm]
  simp [hnn,hlt,c0,cc]
  by_cases e5:f.nodes[m].kind=2
  · have hd:fsSet f p data t g=(f,4):=by simp [fsSet,e3,e4,hm,hnn,hkn,e5]
    rw [hd]
    simp [e5,cc,dn.1,dn.2.1,dn.2.2.1]
    exact kk.res_ _ _ rfl rfl
  have e5':(f.nodes[m].kind == 2)=false:=by simpa using e5
  simp [e5']
  by_cases e6:80<data.length
  · have hd:fsSet f p data t g=(f,9):=by simp [fsSet,e3,e4,hm,hnn,hkn,e5,e6]
    rw [hd]
    simp [show (80:Int)<data.length by omega,cc,dn.1,dn.2.1,dn.2.2.1]
    exact kk.res_ _ _ rfl rfl
  simp [show ¬ (80:Int)<data.length by omega,cc]
  clear dn
  have hd:fsSet f p data t g=if (nW_ f (m:Int) data).2 then (stamped (nW_ f (m:Int) data).1 m t g,0) else (f,5):=by simp [fsSet,e3,e4,hm,hnn,hkn,e5,e6]
  rw [hd]
  obtain ⟨Fn,Fd,own,dat,-⟩:=kk.own
  refine cK (fill_c f an ad Fn Fd true _ _ own.sl dat.sl hl m hlt data hdl t g) ?_
  generalize nW_ f (m:Int) data=q
  obtain ⟨fq,b⟩:=q
  simp only
  rintro _ _ ⟨v,rfl,hx,r1,r2⟩
  obtain ⟨t4,rfl⟩:=hx.pre
  cases b
  · obtain rfl:=r2 rfl
    simp
    have kk2:=kk.grow (t4++[⟨true,true,26,[.slice an f.nodes.length f.nodes.length,.slice ad f.data.length f.data.length]⟩])
    generalize H++(t4++_)=H2 at kk2 ⊢
    have c2:=kk2.cells
    simp [c2]
    refine cK (l6Copy_c f (some ⟨oo,offo,none⟩) a2 F1 F2 w w w tNode _ _ (k1.ext kk2.ext) (k2.ext kk2.ext) hlim.1 hlim.2.2 hlim.2.1) ?_
    rintro _ H3 ⟨an',G1',ad',G2',rfl,o1,o2,dis'⟩
    obtain ⟨u1,u2,u3,u4⟩:=kk2.other o1 o2 dis'
    simp [u1,u3,u4]
    exact u2
  have kr:=r1 rfl
  clear r1 r2
  have kr':=kr
  obtain ⟨c1,H1,c2,H2,rfl,p1,p2,dis2⟩:=kr'
  have kk2:=kk.grow (t4++[⟨true,true,26,[.slice c1 (stamped fq m t g).nodes.length (stamped fq m t g).nodes.length,.slice c2 (stamped fq m t g).data.length (stamped fq m t g).data.length]⟩])
  have dn:=kk2.done [.slice c1 (stamped fq m t g).nodes.length (stamped fq m t g).nodes.length,.slice c2 (stamped fq m t g).data.length (stamped fq m t g).data.length] rfl
  have kr2:=kr.grow [⟨true,true,26,[.slice c1 (stamped fq m t g).nodes.length (stamped fq m t g).nodes.length,.slice c2 (stamped fq m t g).data.length (stamped fq m t g).data.length]⟩]
  rw [List.append_assoc] at kr2
  simp [dn.1,dn.2.1,dn.2.2.1]
  refine kr2.low (kk2.ext.set (by omega) _ _) kk.ext.1 fun q hq=>?_
  have h3:=get_lt kk.out
  have h4:=kk.oi2
  rw [sAg,if_neg (by omega)]
end
end Go.Proofs.Ytmpgpkdijfcfhaa.Hz
