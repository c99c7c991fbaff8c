/- Texts of the calculus and of the program's functions, merged: PH PJ PN. -/
import Derived.Test.YtmpgpkdijfcfhaaGreatHyPG
import Derived.Test.YtmpgpkdijfcfhaaGreatHyHD
import Derived.Test.YtmpgpkdijfcfhaaGreatHyHE
namespace Go.Proofs.YtmpgpkdijfcfhaaGreat.Hz
open Go.RowKit
set_option linter.unusedVariables false
set_option linter.unusedSimpArgs false
set_option maxRecDepth 20000
section
variable {α:Type} {A:Enc α} {P:Program} {h:Hp} {e:TypeId} {xs:List α} {F:List Nat} {o off:Nat}
theorem slR.putW (k:slR true e A h xs (some ⟨o,off,none⟩) F) (nd:F.Nodup) {i:Nat} {x:α} (hx:xs[i]?=some x) :
    ∃ c Fi,A.R h x c Fi∧(∀ q∈Fi,q∈F∧q≠o)∧∀ (j:Nat) (vs:List Value) (x':α) (Fi':List Nat),j+vs.length≤A.n→A.R h x' (setL c j vs) Fi'→o ∉ Fi' →
        cS_ h o (off+i * A.n+j) vs.length=true∧∃ F',slR true e A (sA_ h o (off+i * A.n+j) vs) (xs.set i x') (some ⟨o,off,none⟩) F'∧∀ q∈F',q∈F∨q∈Fi':=by
  obtain ⟨_,ob,css,Fs,pre,post,g1,g2,g3,g4,rfl,g5,g6,g7⟩:=k
  simp only at g1 g7
  obtain ⟨c1,c,c2,F1,Fi,F2,rfl,rfl,s1,s2,s3,s4⟩:=g5.split i x hx
  rw [List.nodup_cons] at nd
  have hlen:=A.len s3
  have hfl:(F1++Fi :: F2).flatten=F1.flatten++(Fi++F2.flatten):=by simp
  refine ⟨c,Fi,s3,fun q hq=>⟨by rw [hfl]; simp [hq],fun hh=>nd.1 (by rw [hfl,← hh]; simp [hq])⟩,fun j vs x' Fi' hj hR ho=>⟨?_,o :: (F1++Fi' :: F2).flatten,?_,?_⟩⟩
  · have hl2:ob.cells.length=pre.length+(c1.flatten.length+(c.length+c2.flatten.length))+post.length:=by
      rw [g6]; simp only [List.flatten_append,List.flatten_cons,List.length_append]
    have:off+i * A.n+j+vs.length≤ob.cells.length:=by omega
    simp [cS_,g1,g2,g3,this]
  · have other:∀ q,q≠o→(sA_ h o (off+i * A.n+j) vs)[q]?=h[q]?:=fun q hq=>by rw [sAg,if_neg (by omega)]
    have nr:∀ q,q∈F1.flatten∨q∈F2.flatten→q≠o:=by
      intro q hq hh
      apply nd.1
      rw [hfl,← hh]
      rcases hq with hq | hq <;> simp [hq]
    have hxs:xs.set i x'=xs.take i++x' :: xs.drop (i+1):=by
      have hi:=(List.getElem?_eq_some_iff.1 hx).1
      rw [List.set_eq_take_append_cons_drop,if_pos hi]
    refine ⟨rfl,{ ob with cells:=setL ob.cells (off+i * A.n+j) vs },c1++setL c j vs :: c2,F1++Fi' :: F2,pre,post,?_,g2,g3,g4,rfl,?_,?_,g7⟩
    · show (sA_ h o (off+i * A.n+j) vs)[o]?=_
      rw [sAg,if_pos rfl,g1]
      rfl
    · rw [hxs]
      refine rowsR.append (s2.frame fun q hq=>other q (nr q (.inl hq))) ⟨A.frame hR fun q hq=>other q fun hh=>ho (hh ▸ hq),s4.frame fun q hq=>other q (nr q (.inr hq))⟩
    · show setL ob.cells (off+i * A.n+j) vs=_
      rw [g6]
      simp only [List.flatten_append,List.flatten_cons,List.append_assoc]
      rw [show off+i * A.n+j=pre.length+(c1.flatten.length+j) by omega,setL_append_right,setL_append_right,setL_append_left _ _ _ _ (by omega)]
  · intro q hq'
    rcases List.mem_cons.1 hq' with rfl | hq'
    · exact .inl List.mem_cons_self
    · simp only [List.flatten_append,List.flatten_cons,List.mem_append] at hq'
      rcases hq' with hq' | hq' | hq'
      · exact .inl (List.mem_cons_of_mem _ (by rw [hfl]; simp [hq']))
      · exact .inr hq'
      · exact .inl (List.mem_cons_of_mem _ (by rw [hfl]; simp [hq']))
theorem slR.twice (k:slR true e A h xs (some ⟨o,off,none⟩) F) (nd:F.Nodup) (hx:xs≠[]) {st:TypeId} {bt:Nat} {z:List Value} (hel:elOf P st=some (e,A.n,bt,z)) (hsl:isSlice P st=true) (hs1:xs.length+xs.length≤big) (hs2:(xs.length+xs.length) * bt≤big) :
    ∃ H' F',aappend P h st st (.slice (some ⟨o,off,none⟩) xs.length xs.length) (.slice (some ⟨o,off,none⟩) xs.length xs.length)=some (.slice (some ⟨h.length,0,none⟩) (xs.length+xs.length) (xs.length+xs.length),H')∧slR true e A H' (xs++xs) (some ⟨h.length,0,none⟩) F'∧(∀ q,q<h.length→q≠o→H'[q]?=h[q]?)∧h.length≤H'.length∧∀ q∈F',q∈F∨h.length≤q:=by
  have hm:xs.length≠0:=fun hh=>hx (List.eq_nil_of_length_eq_zero hh)
  have kk:=k
  obtain ⟨hsp,ob,cs0,F0,pre,post,g1,g2,g3,g4,rfl,g5,g6,g7⟩:=k
  have hrw:=g3 rfl
  simp only at g1 g7
  obtain ⟨cs1,hc1,hc2,css1,Fs1,rfl,hc4,hc5⟩:=kk.cells
  have hkl:(kill h o).length=h.length:=kill_len h o
  have hkill:∀ q,q≠o→(kill h o)[q]?=h[q]?:=fun q hq=>by rw [kill_get,if_neg (by omega)]
  simp only at hc5
  have nd1:=nd
  rw [hc5] at nd1
  have hflat:Fs1.flatten=F0.flatten:=by simpa using hc5.symm
  have r1:rowsR A (kill h o) xs css1 Fs1:=hc4.frame fun q hq=>hkill q fun hh=>(List.nodup_cons.1 nd1).1 (hh ▸ hq)
  have hsrc:srcOf P h A.n st (.slice (some ⟨o,off,none⟩) xs.length xs.length)=some (css1.flatten,xs.length):=by
    simp [srcOf,hsl,hc1]
  have r2:rowsR A (kill h o++[⟨true,true,e,css1.flatten++css1.flatten⟩]) (xs++xs) (css1++css1) (Fs1++Fs1):=(rowsR.append r1 r1).frame fun q hq=>by
    rw [List.getElem?_append_left]
    have:=r1.lt q (by rw [List.flatten_append] at hq; rcases List.mem_append.1 hq with h | h <;> exact h)
    exact this
  refine ⟨kill h o++[⟨true,true,e,css1.flatten++css1.flatten⟩],h.length :: (Fs1++Fs1).flatten,?_,⟨rfl,⟨true,true,e,css1.flatten++css1.flatten⟩,css1++css1,Fs1++Fs1,[],[],?_,rfl,fun _=>rfl,rfl,rfl,r2,?_,rfl⟩,?_,?_,?_⟩
  · have hcan:cS_ h o off 0=true:=by
      have:off≤ob.cells.length:=by rw [g6,← g7]; simp
      simp [cS_,g1,g2,hrw,this]
    have hel2:elAt h o=some e:=by simp [elAt,g1,g4]
    have hnot:¬ (xs.length+xs.length≤xs.length):=by omega
    simp only [aappend,hel,hsrc,Option.bind_some]
    show (if xs.length=0 then some (Value.slice (some ⟨o,off,none⟩) xs.length xs.length,h) else if elAt h o≠some e then none else if xs.length+xs.length≤xs.length then _ else if xs.length+xs.length≤big∧(xs.length+xs.length) * bt≤big∧cS_ h o off 0 then _ else none)=_
    rw [if_neg hm,if_neg (by simp [hel2]),if_neg hnot,if_pos ⟨hs1,hs2,hcan⟩,hc1]
    rfl
  · simp [hkl]
  · simp
  · intro q hq hqo
    rw [List.getElem?_append_left (by omega)]
    exact hkill q hqo
  · simp [hkl]
  · intro q hq
    rcases List.mem_cons.1 hq with rfl | hq
    · exact .inr (Nat.le_refl _)
    · rw [List.flatten_append] at hq
      refine .inl (List.mem_cons.2 (.inr ?_))
      rw [← hflat]
      rcases List.mem_append.1 hq with h | h <;> exact h
end
structure PBe (x:Pool):Prop where
  len:x.branches.length≤6
  nl_:∀ y∈x.branches,y.fs.nl≤2000
  path:x.move.path.length≤1000
theorem PBd.be {x:Pool} (h:PBd x):PBe x:=⟨by have:=h.len; omega,fun y hy=>by have:=h.nl_ y hy; omega,h.path⟩
theorem PBe.nl {x:Pool} (hb:PBe x):x.nl≤1048576:=by
  have h1:=hb.len
  have h3:=hb.path
  have:∀ (bs:List Branch),(∀ y∈bs,y.fs.nl≤2000)→sumL Branch.nl bs≤2000 * bs.length:=by
    intro bs
    induction bs with
    | nil=>intro _; simp [sumL]
    | cons y bs ih =>
      intro h
      have h1:=ih fun z hz=>h z (by simp [hz])
      have h2:y.nl≤2000:=h y (by simp)
      simp only [sumL,List.length_cons]
      omega
  have h4:=this x.branches hb.nl_
  simp only [Pool.nl,Move.nl]
  omega
structure PR (h1:Hp) (c B:Nat) (H:Hp) (x:Pool) (a:Option Addr) (G:List Nat):Prop where
  dr:Dr c h1 H
  d:Draw H c
  sl:slR true 47 (branchE true 60) H x.branches a G
  w:∀ q∈G,h1.length≤q
  box:H[B]?=some ⟨true,true,28,poolC x x.branches.length a⟩
  bd:PBe x
def PRb (h:Hp) (c:Nat) (h':Hp) (r:Value):Prop:=∃ (x:Pool) (a:Option Addr) (G:List Nat),r=.agg (poolC x x.branches.length a).toArray∧Dr c h h'∧Draw h' c∧slR true 47 (branchE true 60) h' x.branches a G∧(∀ q∈G,h.length≤q)∧PBe x
section
variable {h1 H H2:Hp} {c B:Nat} {x:Pool} {a:Option Addr} {G:List Nat}
theorem PX.pr (l:PX h1 c B H x a G) (hb:PBe x):PR h1 c B H x a G:=⟨l.dr,l.d,l.sl,l.w,l.box,hb⟩
theorem PX.cell (l:PX h1 c B H x a G) (hc:c<h1.length) (j:Nat) (v:Value) (x':Pool) (hj:j<10) (hx:x'.branches=x.branches) (hbd:PBe x') (hv:(poolC x x.branches.length a).set j v=poolC x' x.branches.length a) :
    cS_ H B j 1=true∧PR h1 c B (sA_ H B j [v]) x' a G:=by
  have hb:=l.hb
  have hne:∀ q,q≠B→(sA_ H B j [v])[q]?=H[q]?:=fun q hq=>by rw [sAg,if_neg (fun e=>hq e.symm)]
  refine ⟨by simp [cS_,l.box,poolC]; omega,⟨by rw [sAl]; exact l.dr.1,fun q hq hn=>?_⟩,l.d.frame fun q hq=>hne q (by omega),by rw [hx]; exact l.sl.frame fun q hq=>hne q (fun e=>l.m (e ▸ hq)),l.w,?_,hbd⟩
  · rw [hne q (by omega)]
    exact l.dr.2 q hq hn
  · rw [sAg,if_pos rfl,l.box,hx]
    simp only [Option.map_some,setL]
    rw [hv]
theorem PX.turned {o off:Nat} (l:PX h1 c B H x (some ⟨o,off,none⟩) G) (hc:c<h1.length) (i p:Nat) (vs:List Value) {ys:List Branch} {G':List Nat} (hlen:ys.length=x.branches.length) (s:slR true 47 (branchE true 60) (sA_ H o p vs) ys (some ⟨o,off,none⟩) G') (hG':∀ q∈G',h1.length≤q) (hbd:PBe { x with branches:=ys }) :
    PR h1 c B (sA_ H o p vs) { x with branches:=ys } (some ⟨o,off,none⟩) G':=by
  have ho:o∈G:=slR_some_mem l.sl
  have hoB:B≠o:=fun e=>l.m (e ▸ ho)
  have how:=l.w o ho
  have hne:∀ q,q≠o→(sA_ H o p vs)[q]?=H[q]?:=fun q hq=>by rw [sAg,if_neg (fun e=>hq e.symm)]
  refine ⟨⟨by rw [sAl]; exact l.dr.1,fun q hq hn=>?_⟩,l.d.frame fun q hq=>hne q (by omega),s,hG',?_,hbd⟩
  · rw [hne q (by omega)]
    exact l.dr.2 q hq hn
  · rw [hne B hoB,l.box]
    simp [poolC,hlen]
theorem PX.mode {o off:Nat} (l:PX h1 c B H x (some ⟨o,off,none⟩) G) (hc:c<h1.length) {i:Nat} (hi:i<x.branches.length) (hb:PBe x) (z:Int) :
    cS_ H o (off+i * 3) 1=true∧∃ (y:Pool) (G':List Nat),PR h1 c B (sA_ H o (off+i * 3) [.int .i64 z]) y (some ⟨o,off,none⟩) G'∧y.branches.length=x.branches.length∧y.policy=x.policy∧y.minFree=x.minFree∧y.move=x.move:=by
  obtain ⟨cc,Fi,hR,hFi,hput⟩:=l.sl.putW l.nd (List.getElem?_eq_getElem hi)
  obtain ⟨a1,F1,a2,F2,hcc,hF,s1,s2⟩:=hR
  obtain ⟨g1,F',g2,g3⟩:=hput 0 [.int .i64 z] ⟨z,x.branches[i].fs⟩ Fi (by show 0+1≤3; omega) (by
    rw [hcc]
    exact ⟨a1,F1,a2,F2,rfl,hF,s1,s2⟩) (fun hm=>(hFi o hm).2 rfl)
  have hn3:(branchE true 60).n=3:=rfl
  simp only [hn3,List.length_cons,List.length_nil,Nat.add_zero] at g1 g2
  refine ⟨g1,_,F',l.turned hc i _ _ (by simp) g2 (fun q hq=>?_) ⟨by simp; exact hb.len,fun y hy=>?_,hb.path⟩,by simp,rfl,rfl,rfl⟩
  · rcases g3 q hq with h | h
    · exact l.w q h
    · exact l.w q (hFi q h).1
  · rcases List.mem_or_eq_of_mem_set hy with h | h
    · exact hb.nl_ y h
    · rw [h]; exact hb.nl_ x.branches[i] (List.getElem_mem hi)
theorem PX.image {o off:Nat} (l:PX h1 c B H x (some ⟨o,off,none⟩) G) (hc:c<h1.length) {i:Nat} (hi:i<x.branches.length) (hb:PBe x) {f:Fs} {b1 b2:Option Addr} {K1 K2:List Nat} (s1:slR true 60 (nodeE true) H f.nodes b1 K1) (s2:slR true 9 strE H f.data b2 K2) (hK:∀ q∈K1++K2,h1.length≤q∧q≠o) (hf:f.nl≤2000) :
    cS_ H o (off+i * 3+1) 2=true∧∃ (y:Pool) (G':List Nat),PR h1 c B (sA_ H o (off+i * 3+1) [.slice b1 f.nodes.length f.nodes.length,.slice b2 f.data.length f.data.length]) y (some ⟨o,off,none⟩) G'∧y.branches.length=x.branches.length∧y.policy=x.policy∧y.minFree=x.minFree∧y.move=x.move:=by
  obtain ⟨cc,Fi,hR,hFi,hput⟩:=l.sl.putW l.nd (List.getElem?_eq_getElem hi)
  obtain ⟨a1,F1,a2,F2,hcc,hF,-,-⟩:=hR
  obtain ⟨g1,F',g2,g3⟩:=hput 1 [.slice b1 f.nodes.length f.nodes.length,.slice b2 f.data.length f.data.length] ⟨x.branches[i].mode,f⟩ (K1++K2) (by show 1+2≤3; omega) (by
    rw [hcc]
    exact ⟨b1,K1,b2,K2,rfl,rfl,s1,s2⟩) (fun hm=>(hK o hm).2 rfl)
  have hn3:(branchE true 60).n=3:=rfl
  simp only [hn3,List.length_cons,List.length_nil] at g1 g2
  refine ⟨g1,_,F',l.turned hc i _ _ (by simp) g2 (fun q hq=>?_) ⟨by simp; exact hb.len,fun y hy=>?_,hb.path⟩,by simp,rfl,rfl,rfl⟩
  · rcases g3 q hq with h | h
    · exact l.w q h
    · exact (hK q h).1
  · rcases List.mem_or_eq_of_mem_set hy with h | h
    · exact hb.nl_ y h
    · rw [h]; exact hf
theorem PX.twice {o off:Nat} (l:PX h1 c B H x (some ⟨o,off,none⟩) G) (hc:c<h1.length) (hx:1≤x.branches.length) (hb:PBd x) :
    ∃ H',aappend Tryz.prog H 24 24 (.slice (some ⟨o,off,none⟩) x.branches.length x.branches.length) (.slice (some ⟨o,off,none⟩) x.branches.length x.branches.length)=some (.slice (some ⟨H.length,0,none⟩) (x.branches.length+x.branches.length) (x.branches.length+x.branches.length),H')∧cS_ H' B 2 1=true ∧
      ∃ G',PR h1 c B (sA_ H' B 2 [.slice (some ⟨H.length,0,none⟩) (x.branches.length+x.branches.length) (x.branches.length+x.branches.length)]) { x with branches:=x.branches++x.branches } (some ⟨H.length,0,none⟩) G':=by
  have hl3:=hb.len
  have ho:o∈G:=slR_some_mem l.sl
  have hoB:B≠o:=fun e=>l.m (e ▸ ho)
  have how:=l.w o ho
  have hBl:=get_lt l.box
  have hb1:=l.hb
  have hdr:=l.dr.1
  have hcl:=l.d.lt
  obtain ⟨H',F',e1,s,e3,e4,e5⟩:=l.sl.twice (P:=Tryz.prog) l.nd (fun h=>by rw [h] at hx; simp at hx) (st:=24) (bt:=56) (z:=[.int .i64 0,.slice none 0 0,.slice none 0 0]) (by show elOf _ _=some (_,3,_,_); simp) (by simp) (by unfold big; omega) (by unfold big; omega)
  have bx:H'[B]?=some ⟨true,true,28,poolC x x.branches.length (some ⟨o,off,none⟩)⟩:=by rw [e3 B hBl hoB]; exact l.box
  have hF':∀ q∈F',h1.length≤q:=fun q hq=>(e5 q hq).elim (l.w q) (fun h=>by omega)
  have hm:B ∉ F':=fun hq=>(e5 B hq).elim l.m (fun h=>by omega)
  have hne:∀ q,q≠B→(sA_ H' B 2 [.slice (some ⟨H.length,0,none⟩) (x.branches.length+x.branches.length) (x.branches.length+x.branches.length)])[q]?=H'[q]?:=fun q hq=>by rw [sAg,if_neg (fun e=>hq e.symm)]
  refine ⟨H',e1,by simp [cS_,bx,poolC],F',⟨⟨by rw [sAl]; omega,fun q hq hn=>?_⟩,l.d.frame fun q hq=>by rw [hne q (by omega),e3 q (by omega) (by omega)],s.frame fun q hq=>hne q (fun e=>hm (e ▸ hq)),hF',?_,⟨by simp; omega,fun y hy=>?_,hb.path⟩⟩⟩
  · rw [hne q (by omega),e3 q (by omega) (by omega)]
    exact l.dr.2 q hq hn
  · rw [sAg,if_pos rfl,bx]
    simp [setL,poolC]
  · have hm2:y∈x.branches:=by simpa using hy
    have:=hb.nl_ y hm2
    omega
end
set_option maxHeartbeats 8000000 in
theorem l12Draw_c (c:Nat) (h:Hp) (d:Draw h c) :
    ACall Tryz.prog 32 [.pointer (some ⟨c,0,none⟩)] h fun r h'=>PRb h c h' r:=by
  refine acall mixed Tryz.func32 rfl (by kernel_rfl) ?_
  have hc:=d.lt
  simp -implicitDefEqProofs [Tryz.f32]
  obtain ⟨h1,hh1⟩:∃ h1:Hp,h1=h++[⟨true,true,28,[.int .i64 0,.int .i64 0,.slice none 0 0,.bool false,.bool false,.int .i64 0,.int .i64 0,.string (S []),.int .i64 0,.int .i64 0]⟩]:=⟨_,rfl⟩
  have d1:Draw h1 c:=by rw [hh1]; exact d.ext (Ext.push _ _)
  have hl1:h1.length=h.length+1:=by rw [hh1]; simp
  have hc1:c<h1.length:=by omega
  have res1:h1[h.length]?=some ⟨true,true,28,[.int .i64 0,.int .i64 0,.slice none 0 0,.bool false,.bool false,.int .i64 0,.int .i64 0,.string (S []),.int .i64 0,.int .i64 0]⟩:=by rw [hh1]; simp
  have x1:Ext h h1:=by rw [hh1]; exact Ext.push _ _
  rw [← hh1]
  refine cK (l12Right_c c h1 d1) ?_
  rintro _ H2 ⟨x,a,G,rfl,dr2,d2,s2,nd2,w2,hbd,hx1⟩
  have hbe:=hbd.be
  have hH2:=dr2.1
  simp -implicitDefEqProofs [poolC]
  have L:PX h1 c H2.length (H2++[⟨true,true,28,poolC x x.branches.length a⟩]) x a G :=
    ⟨dr2.trans (Dr.of_ext (Ext.push _ _)),d2.ext (Ext.push _ _),s2.ext (Ext.push _ _),nd2,w2,by simp,fun hm=>by have:=s2.lt _ hm; omega,hH2⟩
  obtain ⟨B,hB⟩:∃ B,B=H2.length:=⟨_,rfl⟩
  simp only [poolC] at L
  generalize hHb:H2++[(⟨true,true,28,[.int .i64 x.policy,.int .i64 x.minFree,.slice a x.branches.length x.branches.length,.bool x.move.on,.bool x.move.clean,.int .i64 x.move.src,.int .i64 x.move.dst,.string (S x.move.path),.int .i64 x.move.gen,.int .i64 x.move.done]⟩:Ob)]=Hb at L ⊢
  rw [← hB] at L ⊢
  clear hHb dr2 d2 s2 nd2 w2 hB hH2 H2
  have out:∀ (H:Hp) (x:Pool) (a:Option Addr) (G:List Nat),PR h1 c B H x a G→(∀ j,cellAt H B j=(poolC x x.branches.length a)[j]?)∧cS_ H h.length 0 10=true∧(∀ j,cellAt (sA_ H h.length 0 (poolC x x.branches.length a)) h.length j=(poolC x x.branches.length a)[j]?)∧PRb h c (sA_ H h.length 0 (poolC x x.branches.length a)) (.agg (poolC x x.branches.length a).toArray):=by
    intro H x a G L
    have hr:H[h.length]?=some ⟨true,true,28,[.int .i64 0,.int .i64 0,.slice none 0 0,.bool false,.bool false,.int .i64 0,.int .i64 0,.string (S []),.int .i64 0,.int .i64 0]⟩:=by rw [L.dr.2 _ (by omega) (by omega)]; exact res1
    have hne:∀ q,q≠h.length→(sA_ H h.length 0 (poolC x x.branches.length a))[q]?=H[q]?:=fun q hq=>by rw [sAg,if_neg (fun e=>hq e.symm)]
    have hself:(sA_ H h.length 0 (poolC x x.branches.length a))[h.length]?=some ⟨true,true,28,poolC x x.branches.length a⟩:=by
      rw [sAg,if_pos rfl,hr]
      rfl
    have hdl:=L.dr.1
    have hbx:=L.box
    exact ⟨fun j=>by simp [cellAt,hbx],by simp [cS_,hr],fun j=>by simp [cellAt,hself],x,a,G,rfl,⟨by rw [sAl]; omega,fun q hq hn=>by rw [hne q (by omega),L.dr.2 q (by omega) hn]; exact x1.2 q hq⟩,L.d.frame fun q hq=>hne q (by omega),L.sl.frame fun q hq=>hne q (by have:=L.w q hq; omega),fun q hq=>by have:=L.w q hq; omega,L.bd⟩
  have q:=L.cells
  try simp only [poolC] at q
  try simp -implicitDefEqProofs [q]
  refine cK (l1Below_c x.branches.length c Hb L.d) ?_
  rintro _ H3 ⟨dr3,d3,bz,rfl,hb0,hb1,-⟩
  have hb1:=hb1 (by omega)
  have L3:=L.step hc1 dr3 d3
  obtain ⟨b,rfl⟩:∃ k:Nat,bz=k:=⟨bz.toNat,by omega⟩
  have hbl:b<x.branches.length:=by omega
  try simp -implicitDefEqProofs
  refine cK (l1Below_c 18 c H3 L3.d) ?_
  rintro _ H4 ⟨dr4,d4,kz,rfl,hk0,-,-⟩
  have L4:=L3.step hc1 dr4 d4
  clear q L L3 dr3 d3 dr4 d4
  try simp -implicitDefEqProofs
  refine aSI (fun k0=>?_) (fun k0=>?_) <;> have k0':=k0 <;> simp at k0 <;> simp -implicitDefEqProofs [k0']
  · skip
    have hp1:=pick_c [-1,6] c H4 L4.d (by decide) (by decide)
    simp only [List.map_cons,List.map_nil,List.length_cons,List.length_nil,Nat.zero_add,Nat.reduceAdd] at hp1
    refine cK hp1 ?_
    rintro _ H5 ⟨dr5,d5,z,-,rfl⟩
    have L5:=L4.step hc1 dr5 d5
    obtain ⟨cs,R⟩:=L5.cell hc1 0 (.int .i64 z) { x with policy:=z } (by omega) rfl ⟨hbe.len,hbe.nl_,hbe.path⟩ rfl
    simp -implicitDefEqProofs [cs]
    obtain ⟨z1,z2,z3,z4⟩:=out _ _ _ _ R
    simp only [poolC] at z1 z2 z3 z4
    simp -implicitDefEqProofs [z1,z2,z3]
    exact z4
  refine aSI (fun k1=>?_) (fun k1=>?_) <;> have k1':=k1 <;> simp at k1 <;> simp -implicitDefEqProofs [k1']
  · skip
    have hp1:=pick_c [-1,36,37] c H4 L4.d (by decide) (by decide)
    simp only [List.map_cons,List.map_nil,List.length_cons,List.length_nil,Nat.zero_add,Nat.reduceAdd] at hp1
    refine cK hp1 ?_
    rintro _ H5 ⟨dr5,d5,z,-,rfl⟩
    have L5:=L4.step hc1 dr5 d5
    obtain ⟨cs,R⟩:=L5.cell hc1 1 (.int .i64 z) { x with minFree:=z } (by omega) rfl ⟨hbe.len,hbe.nl_,hbe.path⟩ rfl
    simp -implicitDefEqProofs [cs]
    obtain ⟨z1,z2,z3,z4⟩:=out _ _ _ _ R
    simp only [poolC] at z1 z2 z3 z4
    simp -implicitDefEqProofs [z1,z2,z3]
    exact z4
  refine aSI (fun k2=>?_) (fun k2=>?_) <;> have k2':=k2 <;> simp at k2 <;> simp -implicitDefEqProofs [k2']
  · skip
    refine drawLA false [2,3,4,5] [0,1] [6,7,8] (by simp; rfl) (by simp; rfl) (by simp; rfl) (by kernel_rfl) rfl ?_
    have q:=L4.cells
    try simp only [poolC] at q
    have qx:∀ l j,cellAt (H4++l) B j=(poolC x x.branches.length a)[j]?:=fun l=>(L4.step hc1 (Dr.of_ext (Ext.push _ l)) (L4.d.ext (Ext.push _ l))).cells
    try simp only [poolC] at qx
    simp -implicitDefEqProofs [q,qx]
    have hp1:=pick_c [-1,3] c H4 L4.d (by decide) (by decide)
    simp only [List.map_cons,List.map_nil,List.length_cons,List.length_nil,Nat.zero_add,Nat.reduceAdd] at hp1
    refine cK hp1 ?_
    rintro _ H5 ⟨dr5,d5,z,-,rfl⟩
    have L5:=L4.step hc1 dr5 d5
    have q5:=L5.cells
    try simp only [poolC] at q5
    obtain ⟨o,off,b1,F1,b2,F2,rfl,-,-,-,-,-,-,-⟩:=branchAt L5.sl hbl
    obtain ⟨cs,y,G',R,hy1,hy2,hy3,hy4⟩:=L5.mode hc1 hbl hbe z
    skip
    simp -implicitDefEqProofs [q5,hbl,cs]
    obtain ⟨z1,z2,z3,z4⟩:=out _ _ _ _ R
    simp only [poolC] at z1 z2 z3 z4
    simp -implicitDefEqProofs [z1,z2,z3]
    exact z4
  refine aSI (fun k3=>?_) (fun k3=>?_) <;> have k3':=k3 <;> simp at k3 <;> simp -implicitDefEqProofs [k3']
  · skip
    refine drawLA false [2,3,4] [0,1] [5,6,7] (by simp; rfl) (by simp; rfl) (by simp; rfl) (by kernel_rfl) rfl ?_
    have q:=L4.cells
    try simp only [poolC] at q
    try simp -implicitDefEqProofs [q]
    refine cK (l6Draw_c c H4 L4.d) ?_
    rintro _ H5 ⟨f,⟨b1,b2,K1,K2,rfl,kf⟩,hfl,-⟩
    have L5:=L4.step hc1 kf.dr kf.d
    have q5:=L5.cells
    try simp only [poolC] at q5
    have hG4:∀ q∈G,q<H4.length:=fun q hq=>L4.sl.lt q hq
    have hl4:h1.length≤H4.length:=L4.dr.1
    obtain ⟨o,off,e1,F1,e2,F2,rfl,-,-,-,-,-,-,-⟩:=branchAt L5.sl hbl
    have ho:o∈G:=slR_some_mem L5.sl
    have hKq:∀ q∈K1++K2,H4.length≤q:=fun q hq=>(List.mem_append.1 hq).elim (kf.w1 q) (kf.w2 q)
    obtain ⟨cs,y,G',R,hy1,hy2,hy3,hy4⟩:=L5.image hc1 hbl hbe kf.s1 kf.s2 (fun q hq=>⟨by have:=hKq q hq; omega,fun e=>by have:=hKq q hq; have:=hG4 o ho; omega⟩) hfl
    simp -implicitDefEqProofs [q5,hbl,cs]
    obtain ⟨z1,z2,z3,z4⟩:=out _ _ _ _ R
    simp only [poolC] at z1 z2 z3 z4
    simp -implicitDefEqProofs [z1,z2,z3]
    exact z4
  refine aSI (fun k4=>?_) (fun k4=>?_) <;> have k4':=k4 <;> simp at k4 <;> simp -implicitDefEqProofs [k4']
  · skip
    have q:=L4.cells
    try simp only [poolC] at q
    obtain ⟨cs,R⟩:=L4.cell hc1 8 (.int .i64 (IntKind.i64.wrap (x.move.gen+1))) { x with move:={ x.move with gen:=IntKind.i64.wrap (x.move.gen+1) } } (by omega) rfl ⟨hbe.len,hbe.nl_,hbe.path⟩ rfl
    simp -implicitDefEqProofs [q,cs]
    obtain ⟨z1,z2,z3,z4⟩:=out _ _ _ _ R
    simp only [poolC] at z1 z2 z3 z4
    simp -implicitDefEqProofs [z1,z2,z3]
    exact z4
  refine aSI (fun k5=>?_) (fun k5=>?_) <;> have k5':=k5 <;> simp at k5 <;> simp -implicitDefEqProofs [k5']
  · skip
    have q:=L4.cells
    try simp only [poolC] at q
    obtain ⟨o,off,b1,F1,b2,F2,rfl,-,-,-,-,-,-,-⟩:=branchAt L4.sl hbl
    obtain ⟨H',eq,cs,G',R⟩:=L4.twice hc1 hx1 hbd
    simp -implicitDefEqProofs [q,eq,cs]
    obtain ⟨z1,z2,z3,z4⟩:=out _ _ _ _ R
    simp only [poolC,List.length_append] at z1 z2 z3 z4
    simp -implicitDefEqProofs [z1,z2,z3]
    exact z4
  refine aSI (fun k6=>?_) (fun k6=>?_) <;> have k6':=k6 <;> simp at k6 <;> simp -implicitDefEqProofs [k6']
  · skip
    refine cK (l1Below_c 3 c H4 L4.d) ?_
    rintro _ H5 ⟨dr5,d5,z1,rfl,-,-,-⟩
    have L5:=L4.step hc1 dr5 d5
    try simp -implicitDefEqProofs
    refine cK (l1Below_c 3 c H5 L5.d) ?_
    rintro _ H6 ⟨dr6,d6,z2,rfl,-,-,-⟩
    have L6:=L5.step hc1 dr6 d6
    try simp -implicitDefEqProofs
    refine cK (l2Path_c c H6 L6.d) ?_
    rintro _ H7 ⟨dr7,d7,s,rfl,hs⟩
    have L7:=L6.step hc1 dr7 d7
    try simp -implicitDefEqProofs
    obtain ⟨cs,L8⟩:=L7.move hc1 ⟨true,false,z1,z2,s,0,0⟩
    simp only at cs L8
    simp -implicitDefEqProofs [cs]
    have R:=L8.pr ⟨hbe.len,hbe.nl_,by show s.length≤1000; omega⟩
    obtain ⟨z1,z2,z3,z4⟩:=out _ _ _ _ R
    simp only [poolC] at z1 z2 z3 z4
    simp -implicitDefEqProofs [z1,z2,z3]
    exact z4
  obtain ⟨z1,z2,z3,z4⟩:=out _ _ _ _ (L4.pr hbe)
  simp only [poolC] at z1 z2 z3 z4
  simp -implicitDefEqProofs [z1,z2,z3]
  exact z4
def PIn (h H:Hp) (x:Pool) (r:Value):Prop:=∃ a G,r=.agg (poolC x x.branches.length a).toArray∧Ext h H∧slR true 47 (branchE true 60) H x.branches a G∧(∀ q∈G,h.length≤q)∧PBe x
def zeroP:List Value:=[.int .i64 0,.int .i64 0,.slice none 0 0,.bool false,.bool false,.int .i64 0,.int .i64 0,.string (S []),.int .i64 0,.int .i64 0]
theorem PIn.store {h H:Hp} {x:Pool} {a:Option Addr} {G:List Nat} (x2:Ext (h++[⟨true,true,28,zeroP⟩]) H) (s:slR true 47 (branchE true 60) H x.branches a G) (w:∀ q∈G,h.length+1≤q) (bd:PBe x) :
    cS_ H h.length 0 10=true∧(∀ j,cellAt (sA_ H h.length 0 (poolC x x.branches.length a)) h.length j=(poolC x x.branches.length a)[j]?)∧PIn h (sA_ H h.length 0 (poolC x x.branches.length a)) x (.agg (poolC x x.branches.length a).toArray):=by
  have hr:H[h.length]?=some ⟨true,true,28,zeroP⟩:=(x2.2 _ (by simp)).trans (by simp)
  have hne:∀ q,q≠h.length→(sA_ H h.length 0 (poolC x x.branches.length a))[q]?=H[q]?:=fun q hq=>by rw [sAg,if_neg (fun e=>hq e.symm)]
  have hself:(sA_ H h.length 0 (poolC x x.branches.length a))[h.length]?=some ⟨true,true,28,poolC x x.branches.length a⟩:=by
    rw [sAg,if_pos rfl,hr]
    rfl
  exact ⟨by simp [cS_,hr,zeroP],fun j=>by simp [cellAt,hself],a,G,rfl,((Ext.push h _).trans x2).set (Nat.le_refl _) 0 _,s.frame fun q hq=>hne q (by have:=w q hq; omega),fun q hq=>by have:=w q hq; omega,bd⟩
section
variable (code:Str) (a:Option Addr) (F:List Nat) (w:Bool) (t:TypeId) (h:Hp) (k:slR w t byteE h code a F) (hn:code.length≤1048576)
include k hn
set_option maxHeartbeats 4000000 in
theorem drawPoolTree_c:ACall Tryz.prog 8 [.slice a code.length code.length] h fun r h'=>∃ x,PIn h h' x r:=by
  refine acall mixed Tryz.func8 rfl (by kernel_rfl) ?_
  simp -implicitDefEqProofs [Tryz.f8]
  obtain ⟨h1,hh1⟩:∃ h1:Hp,h1=h++[⟨true,true,28,zeroP⟩]:=⟨_,rfl⟩
  have x1:Ext h h1:=by rw [hh1]; exact Ext.push _ _
  have hl1:h1.length=h.length+1:=by rw [hh1]; simp
  have e1:=hh1
  simp only [zeroP] at hh1
  rw [← hh1]
  refine cK (l1New_c code a F w t h1 (k.ext x1) hn) ?_
  rintro _ H1 ⟨rfl,x2,d⟩
  simp -implicitDefEqProofs
  refine cK (l12Draw_c h1.length H1 d) ?_
  rintro _ H2 ⟨x,b,G,rfl,dr,d2,s,wq,bd⟩
  have x3:=dr.ext x2 (Nat.le_refl _)
  have hx2:=x2.1
  obtain ⟨z1,z2,z3⟩:=PIn.store (e1 ▸ x3) s (fun q hq=>by have:=wq q hq; omega) bd
  simp only [poolC] at z1 z2 z3
  simp -implicitDefEqProofs [poolC,z1,z2]
  exact ⟨x,z3⟩
end
end Go.Proofs.YtmpgpkdijfcfhaaGreat.Hz
