/- The draw of two images. -/
import Derived.Test.YtmpgpkdijfcfhaaHyIW
import Derived.Test.YtmpgpkdijfcfhaaHyMI
namespace Go.Proofs.Ytmpgpkdijfcfhaa.Hz
open Go.RowKit
set_option linter.unusedVariables false
set_option linter.unusedSimpArgs false
set_option maxRecDepth 20000
theorem flat_el {α:Type} {n:Nat} {f:α→List Value} {hn:∀ x,(f x).length=n} {hok:∀ x,(f x).all okCell=true} {w:Bool} {e:TypeId} {H:Hp} {xs:List α} {a:Option Addr} {F:List Nat} (s:slR w e (flatE n f hn hok) H xs a F):∀ q∈F,∃ ob,H[q]?=some ob∧ob.elem=e:=by
  intro q hq
  cases a with
  | none=>obtain ⟨_,rfl⟩:=s; cases hq
  | some b0 =>
    obtain ⟨_,ob,css,Fs,pre,post,g1,g2,g3,g4,rfl,g5,g6,g7⟩:=s
    rw [flat_nil g5.flat.2] at hq
    simp at hq
    subst hq
    exact ⟨ob,g1,g4⟩
theorem rows_el {H:Hp}:∀ (xs:List Node) (css:List (List Value)) (Fs:List (List Nat)),rowsR (nodeE true) H xs css Fs→∀ q∈Fs.flatten,∃ ob,H[q]?=some ob∧ob.elem=3
  | [],[],[],_,q,hq=>by simp at hq
  | x :: xs,c :: css,F :: Fs,h,q,hq=>by
    obtain ⟨h1,h2⟩:=h
    rw [List.flatten_cons,List.mem_append] at hq
    rcases hq with hq | hq
    · obtain ⟨b,G,e1,e2,s⟩:=h1
      subst e2
      exact flat_el s q hq
    · exact rows_el xs css Fs h2 q hq
  | [],_ :: _,_,h,_,_=>h.elim
  | [],[],_ :: _,h,_,_=>h.elim
  | _ :: _,[],_,h,_,_=>h.elim
  | _ :: _,_ :: _,[],h,_,_=>h.elim
theorem node_el {H:Hp} {xs:List Node} {a:Option Addr} {F:List Nat} (s:slR true 49 (nodeE true) H xs a F):∀ q∈F,∃ ob,H[q]?=some ob∧ob.elem≠26:=by
  intro q hq
  cases a with
  | none=>obtain ⟨_,rfl⟩:=s; cases hq
  | some b0 =>
    obtain ⟨_,ob,css,Fs,pre,post,g1,g2,g3,g4,rfl,g5,g6,g7⟩:=s
    rcases List.mem_cons.1 hq with rfl | hq
    · exact ⟨ob,g1,by rw [g4]; decide⟩
    · obtain ⟨ob,e1,e2⟩:=rows_el _ _ _ g5 q hq
      exact ⟨ob,e1,by rw [e2]; decide⟩
def ImgV (n0:Nat) (v:Value) (H:Hp):Prop:=∃ (g:Fs) (e1 e2:Option Addr) (K1 K2:List Nat),v=.agg #[.slice e1 g.nodes.length g.nodes.length,.slice e2 g.data.length g.data.length]∧slR true 49 (nodeE true) H g.nodes e1 K1∧slR true 9 strE H g.data e2 K2∧g.nl≤2000∧∀ q∈K1++K2,n0≤q
def ImgB (n0 p:Nat) (H:Hp):Prop:=∃ (g:Fs) (e1 e2:Option Addr) (K1 K2:List Nat),H[p]?=some ⟨true,true,26,[.slice e1 g.nodes.length g.nodes.length,.slice e2 g.data.length g.data.length]⟩∧slR true 49 (nodeE true) H g.nodes e1 K1∧slR true 9 strE H g.data e2 K2∧g.nl≤2000∧∀ q∈K1++K2,n0≤q
section
variable {n0 p c:Nat} {v:Value} {H H2:Hp}
theorem ImgV.dr (k:ImgV n0 v H) (hc:c<n0) (y:Dr c H H2):ImgV n0 v H2:=by
  obtain ⟨g,e1,e2,K1,K2,rfl,s1,s2,nl,w⟩:=k
  exact ⟨g,e1,e2,K1,K2,rfl,y.sl s1 (fun hm=>by have:=w c (by simp [hm]); omega),y.sl s2 (fun hm=>by have:=w c (by simp [hm]); omega),nl,w⟩
theorem ImgB.dr (k:ImgB n0 p H) (hp:n0≤p) (hc:c<n0) (y:Dr c H H2):ImgB n0 p H2:=by
  obtain ⟨g,e1,e2,K1,K2,bx,s1,s2,nl,w⟩:=k
  exact ⟨g,e1,e2,K1,K2,by rw [y.2 p (get_lt bx) (by omega)]; exact bx,y.sl s1 (fun hm=>by have:=w c (by simp [hm]); omega),y.sl s2 (fun hm=>by have:=w c (by simp [hm]); omega),nl,w⟩
theorem box_out {q r:Nat} {cs:List Value} (bx:H[p]?=some ⟨true,true,26,cs⟩) (hq:∃ ob,H[q]?=some ob∧ob.elem≠26):q≠p:=by
  rintro rfl
  obtain ⟨ob,e1,e2⟩:=hq
  rw [bx] at e1
  cases e1
  exact e2 rfl
theorem img_frame {g:Fs} {e1 e2:Option Addr} {K1 K2:List Nat} {cs vs:List Value} (s1:slR true 49 (nodeE true) H g.nodes e1 K1) (s2:slR true 9 strE H g.data e2 K2) (bx:H[p]?=some ⟨true,true,26,cs⟩) :
    slR true 49 (nodeE true) (sA_ H p 0 vs) g.nodes e1 K1∧slR true 9 strE (sA_ H p 0 vs) g.data e2 K2:=by
  have hne:∀ q,q≠p→(sA_ H p 0 vs)[q]?=H[q]?:=fun q hq=>by rw [sAg,if_neg (fun e=>hq e.symm)]
  refine ⟨s1.frame fun q hq=>hne q (box_out (r:=0) bx (node_el s1 q hq)),s2.frame fun q hq=>hne q (box_out (r:=0) bx ?_)⟩
  obtain ⟨ob,h1,h2⟩:=flat_el s2 q hq
  exact ⟨ob,h1,by rw [h2]; decide⟩
theorem ImgV.store {cs vs:List Value} (k:ImgV n0 v H) (bx:H[p]?=some ⟨true,true,26,cs⟩):ImgV n0 v (sA_ H p 0 vs):=by
  obtain ⟨g,e1,e2,K1,K2,rfl,s1,s2,nl,w⟩:=k
  obtain ⟨t1,t2⟩:=img_frame (vs:=vs) s1 s2 bx
  exact ⟨g,e1,e2,K1,K2,rfl,t1,t2,nl,w⟩
end
def S5 (c n0:Nat) (f:Fs) (b1 b2:Option Addr):Nat→Value→Hp→Prop
  | 0,v,_=>v=.agg #[.slice b1 f.nodes.length f.nodes.length,.slice b2 f.data.length f.data.length]
  | 1,v,_=>v=.pointer (some ⟨c,0,none⟩)
  | 2,v,_=>∃ s:Str,v=.string (S s)∧s.length≤10
  | 3,v,H=>∃ (u:Value) (n:Int),v=.tuple #[u,.int .i64 n]∧ImgV n0 u H
  | 4,v,H=>∃ (u:Value) (n:Int),v=.tuple #[u,.int .i64 n]∧ImgV n0 u H
  | 5,v,H=>ImgV n0 v H
  | 6,v,_=>∃ n:Int,v=.int .i64 n
  | 7,v,H=>∃ p,v=.pointer (some ⟨p,0,none⟩)∧n0≤p∧ImgB n0 p H
  | 9,v,_=>∃ n:Int,v=.int .i64 n
  | _,_,_=>True
theorem S5.dr {c n0:Nat} {f:Fs} {b1 b2:Option Addr} {H H2:Hp} (hc:c<n0) (y:Dr c H H2):∀ (j:Nat) (v:Value),S5 c n0 f b1 b2 j v H→S5 c n0 f b1 b2 j v H2:=by
  intro j v k
  unfold S5 at *
  split at k <;> try exact k
  · obtain ⟨u,n,e,i⟩:=k; exact ⟨u,n,e,i.dr hc y⟩
  · obtain ⟨u,n,e,i⟩:=k; exact ⟨u,n,e,i.dr hc y⟩
  · exact k.dr hc y
  · obtain ⟨p,e,hp,i⟩:=k; exact ⟨p,e,hp,i.dr hp hc y⟩
theorem S5.store {c n0 p:Nat} {f:Fs} {b1 b2:Option Addr} {H:Hp} {cs:List Value} {g:Fs} {e1 e2:Option Addr} {K1 K2:List Nat} (bx:H[p]?=some ⟨true,true,26,cs⟩) (hcs:cs.length=2)
    (s1:slR true 49 (nodeE true) H g.nodes e1 K1) (s2:slR true 9 strE H g.data e2 K2) (nl:g.nl≤2000) (w:∀ q∈K1++K2,n0≤q) :
    ∀ (j:Nat) (v:Value),S5 c n0 f b1 b2 j v H→S5 c n0 f b1 b2 j v (sA_ H p 0 [.slice e1 g.nodes.length g.nodes.length,.slice e2 g.data.length g.data.length]):=by
  intro j v k
  unfold S5 at *
  split at k <;> try exact k
  · obtain ⟨u,n,e,i⟩:=k; exact ⟨u,n,e,i.store bx⟩
  · obtain ⟨u,n,e,i⟩:=k; exact ⟨u,n,e,i.store bx⟩
  · exact k.store bx
  · obtain ⟨r,e,hr,g',c1,c2,M1,M2,bx',t1,t2,nl',w'⟩:=k
    refine ⟨r,e,hr,?_⟩
    by_cases hrp:r=p
    · subst hrp
      obtain ⟨y1,y2⟩:=img_frame (vs:=[.slice e1 g.nodes.length g.nodes.length,.slice e2 g.data.length g.data.length]) s1 s2 bx
      refine ⟨g,e1,e2,K1,K2,?_,y1,y2,nl,w⟩
      rw [sAg,if_pos rfl,bx']
      rfl
    · obtain ⟨y1,y2⟩:=img_frame (vs:=[.slice e1 g.nodes.length g.nodes.length,.slice e2 g.data.length g.data.length]) t1 t2 bx
      refine ⟨g',c1,c2,M1,M2,?_,y1,y2,nl',w'⟩
      rw [sAg,if_neg (fun e=>hrp e.symm)]
      exact bx'
theorem LQ.boxed {h1 H:Hp} {c bi p:Nat} {f:Fs} {b1 b2:Option Addr} {G1 G2:List Nat} (l:LQ h1 c bi H f b1 b2 G1 G2) (hp:bi<p) (hcp:c<p) {cs vs:List Value} (bx:H[p]?=some ⟨true,true,26,cs⟩):LQ h1 c bi (sA_ H p 0 vs) f b1 b2 G1 G2:=by
  have hne:∀ q,q≠p→(sA_ H p 0 vs)[q]?=H[q]?:=fun q hq=>by rw [sAg,if_neg (fun e=>hq e.symm)]
  obtain ⟨t1,t2⟩:=img_frame (vs:=vs) l.k.s1 l.k.s2 bx
  have hb:=l.hb
  refine ⟨⟨⟨by rw [sAl]; exact l.k.dr.1,fun q hq hn=>by rw [hne q (by omega)]; exact l.k.dr.2 q hq hn⟩,l.k.d.frame fun q hq=>hne q (by omega),t1,t2,l.k.w1,l.k.w2⟩,by rw [hne bi (by omega)]; exact l.box,hb⟩
def DIn (h H:Hp) (r:Value):Prop:=Ext h H∧∃ (f g:Fs) (b1 b2 c1 c2:Option Addr) (G1 G2 K1 K2:List Nat),r=.tuple #[.agg #[.slice b1 f.nodes.length f.nodes.length,.slice b2 f.data.length f.data.length],.agg #[.slice c1 g.nodes.length g.nodes.length,.slice c2 g.data.length g.data.length]] ∧
  slR true 49 (nodeE true) H f.nodes b1 G1∧slR true 9 strE H f.data b2 G2∧f.nl≤2000∧slR true 49 (nodeE true) H g.nodes c1 K1∧slR true 9 strE H g.data c2 K2∧g.nl≤2000
set_option maxHeartbeats 4000000 in
theorem drawDiff_c (code:Str) (a:Option Addr) (F:List Nat) (w:Bool) (t:TypeId) (h:Hp) (k:slR w t byteE h code a F) (hn:code.length≤1048576) :
    ACall Try.prog 19 [.slice a code.length code.length] h fun r h'=>DIn h h' r:=by
  refine acall mixed Try.func19 rfl (by kernel_rfl) ?_
  simp [Try.f19]
  obtain ⟨h0,hh0⟩:∃ h0:Hp,h0=h++[⟨true,true,26,[.slice none 0 0,.slice none 0 0]⟩,⟨true,true,26,[.slice none 0 0,.slice none 0 0]⟩]:=⟨_,rfl⟩
  have l0:h0.length=h.length+2:=by rw [hh0]; simp
  have q0:h0[h.length]?=some ⟨true,true,26,[.slice none 0 0,.slice none 0 0]⟩:=by rw [hh0]; simp
  have r0:h0[h.length+1]?=some ⟨true,true,26,[.slice none 0 0,.slice none 0 0]⟩:=by rw [hh0]; simp
  have k0:slR w t byteE h0 code a F:=by rw [hh0]; exact k.ext (Ext.push _ _)
  rw [← hh0]
  refine cK (l1New_c code a F w t h0 k0 hn) ?_
  rintro _ H1 ⟨rfl,x1,d1⟩
  try simp
  have hc:=d1.lt
  have hx1:=x1.1
  have q1:H1[h.length]?=some ⟨true,true,26,[.slice none 0 0,.slice none 0 0]⟩:=by rw [x1.2 _ (by omega)]; exact q0
  have r1:H1[h.length+1]?=some ⟨true,true,26,[.slice none 0 0,.slice none 0 0]⟩:=by rw [x1.2 _ (by omega)]; exact r0
  refine cK (l6Draw_c h0.length H1 d1) ?_
  rintro _ H2 ⟨f,⟨b1,b2,G1,G2,rfl,kf⟩,nlf,-⟩
  have L:=kf.box hc
  try simp
  obtain ⟨bi,hbi⟩:∃ bi,bi=H2.length:=⟨_,rfl⟩
  generalize hHb:H2++[(⟨true,true,26,[.slice b1 f.nodes.length f.nodes.length,.slice b2 f.data.length f.data.length]⟩:Ob)]=Hb at L ⊢
  rw [← hbi] at L ⊢
  clear hHb kf
  have fin:∀ (HA:Hp) (g:Fs) (c1 c2:Option Addr) (K1 K2:List Nat),LQ H1 h0.length bi HA f b1 b2 G1 G2→slR true 49 (nodeE true) HA g.nodes c1 K1→slR true 9 strE HA g.data c2 K2→g.nl≤2000 →
      cS_ HA h.length 0 2=true∧cS_ (sA_ HA h.length 0 [.slice b1 f.nodes.length f.nodes.length,.slice b2 f.data.length f.data.length]) (h.length+1) 0 2=true ∧
      (∀ j,cellAt (sA_ (sA_ HA h.length 0 [.slice b1 f.nodes.length f.nodes.length,.slice b2 f.data.length f.data.length]) (h.length+1) 0 [.slice c1 g.nodes.length g.nodes.length,.slice c2 g.data.length g.data.length]) h.length j=([Value.slice b1 f.nodes.length f.nodes.length,.slice b2 f.data.length f.data.length])[j]?) ∧
      (∀ j,cellAt (sA_ (sA_ HA h.length 0 [.slice b1 f.nodes.length f.nodes.length,.slice b2 f.data.length f.data.length]) (h.length+1) 0 [.slice c1 g.nodes.length g.nodes.length,.slice c2 g.data.length g.data.length]) (h.length+1) j=([Value.slice c1 g.nodes.length g.nodes.length,.slice c2 g.data.length g.data.length])[j]?) ∧
      DIn h (sA_ (sA_ HA h.length 0 [.slice b1 f.nodes.length f.nodes.length,.slice b2 f.data.length f.data.length]) (h.length+1) 0 [.slice c1 g.nodes.length g.nodes.length,.slice c2 g.data.length g.data.length]) (.tuple #[.agg #[.slice b1 f.nodes.length f.nodes.length,.slice b2 f.data.length f.data.length],.agg #[.slice c1 g.nodes.length g.nodes.length,.slice c2 g.data.length g.data.length]]):=by
    intro HA g c1 c2 K1 K2 LA s1 s2 nl
    have qA:HA[h.length]?=some ⟨true,true,26,[.slice none 0 0,.slice none 0 0]⟩:=by rw [LA.k.dr.2 _ (by omega) (by omega)]; exact q1
    have rA:HA[h.length+1]?=some ⟨true,true,26,[.slice none 0 0,.slice none 0 0]⟩:=by rw [LA.k.dr.2 _ (by omega) (by omega)]; exact r1
    have ex:Ext h HA:=⟨by have:=LA.k.dr.1; omega,fun q hq=>by rw [LA.k.dr.2 q (by omega) (by omega),x1.2 q (by omega),hh0]; exact List.getElem?_append_left hq⟩
    have exB:Ext h (sA_ HA h.length 0 [.slice b1 f.nodes.length f.nodes.length,.slice b2 f.data.length f.data.length]):=⟨by rw [sAl]; exact ex.1,fun q hq=>by rw [sAg,if_neg (by omega)]; exact ex.2 q hq⟩
    obtain ⟨y1,y2⟩:=img_frame (vs:=[.slice b1 f.nodes.length f.nodes.length,.slice b2 f.data.length f.data.length]) LA.k.s1 LA.k.s2 qA
    obtain ⟨y3,y4⟩:=img_frame (vs:=[.slice b1 f.nodes.length f.nodes.length,.slice b2 f.data.length f.data.length]) s1 s2 qA
    have qB:(sA_ HA h.length 0 [.slice b1 f.nodes.length f.nodes.length,.slice b2 f.data.length f.data.length])[h.length]?=some ⟨true,true,26,[.slice b1 f.nodes.length f.nodes.length,.slice b2 f.data.length f.data.length]⟩:=by rw [sAg,if_pos rfl,qA]; rfl
    have rB:(sA_ HA h.length 0 [.slice b1 f.nodes.length f.nodes.length,.slice b2 f.data.length f.data.length])[h.length+1]?=some ⟨true,true,26,[.slice none 0 0,.slice none 0 0]⟩:=by rw [sAg,if_neg (by omega)]; exact rA
    obtain ⟨z1,z2⟩:=img_frame (vs:=[.slice c1 g.nodes.length g.nodes.length,.slice c2 g.data.length g.data.length]) y1 y2 rB
    obtain ⟨z3,z4⟩:=img_frame (vs:=[.slice c1 g.nodes.length g.nodes.length,.slice c2 g.data.length g.data.length]) y3 y4 rB
    generalize sA_ HA h.length 0 [.slice b1 f.nodes.length f.nodes.length,.slice b2 f.data.length f.data.length]=HB at *
    have qC:(sA_ HB (h.length+1) 0 [.slice c1 g.nodes.length g.nodes.length,.slice c2 g.data.length g.data.length])[h.length]?=some ⟨true,true,26,[.slice b1 f.nodes.length f.nodes.length,.slice b2 f.data.length f.data.length]⟩:=by rw [sAg,if_neg (by omega)]; exact qB
    have rC:(sA_ HB (h.length+1) 0 [.slice c1 g.nodes.length g.nodes.length,.slice c2 g.data.length g.data.length])[h.length+1]?=some ⟨true,true,26,[.slice c1 g.nodes.length g.nodes.length,.slice c2 g.data.length g.data.length]⟩:=by rw [sAg,if_pos rfl,rB]; rfl
    exact ⟨by simp [cS_,qA],by simp [cS_,rB],fun j=>by simp [cellAt,qC],fun j=>by simp [cellAt,rC],⟨by rw [sAl]; exact exB.1,fun q hq=>by rw [sAg,if_neg (by omega)]; exact exB.2 q hq⟩,f,g,b1,b2,c1,c2,G1,G2,K1,K2,rfl,z1,z2,nlf,z3,z4,nl⟩
  refine cK (l1Once_c 8 h0.length Hb L.k.d) ?_
  rintro _ H3 ⟨dr3,d3,b,rfl⟩
  have L3:=L.step hc dr3 d3
  clear L dr3 d3
  have q:=L3.cells
  try simp
  cases b
  · try simp
    have hn0:∀ q∈G1++G2,q<H3.length:=fun q hq=>(List.mem_append.1 hq).elim (fun h=>L3.k.s1.lt q h) (fun h=>L3.k.s2.lt q h)
    have hcl:=L3.k.d.lt
    have hbl:=get_lt L3.box
    refine drawI (S5 h0.length H3.length f b1 b2) (fun _ H=>H3.length≤H.length∧LQ H1 h0.length bi H f b1 b2 G1 G2) [[],[],[1],[0,2],[3],[4],[4],[],[5,7],[6]] (by simp; rfl) (by kernel_rfl) ⟨Nat.le_refl _,L3⟩ ?_ (rl:=[0,1,2,3,4,5,6,7,8,9]) (by rfl) ?_
    · refine ⟨?_,?_,?_,?_,?_,?_,?_,?_,?_,?_,trivial⟩ <;> rintro D H hD hdn hpre ⟨hle,LI⟩
      · have q:=LI.cells
        simp -implicitDefEqProofs [dAc,dAn,S5,q]
        exact ⟨⟨hle,LI⟩,Keep.refl _ _ _⟩
      · simp -implicitDefEqProofs [dAc,dAn,S5]
        exact ⟨⟨hle,LI⟩,Keep.refl _ _ _⟩
      · simp -implicitDefEqProofs [dAc,dAn,S5]
        refine cK (l2Path_c h0.length H LI.k.d) ?_
        rintro _ H' ⟨dr,d,s,rfl,hs⟩
        simp -implicitDefEqProofs
        exact ⟨hs,⟨Nat.le_trans hle dr.1,LI.step hc dr d⟩,fun j v _=>S5.dr hcl dr j v⟩
      · simp -implicitDefEqProofs [dAc,dAn,S5]
        rintro _ s rfl hs
        refine cK (fsMake_spec_c f b1 b2 G1 G2 true _ H LI.k.s1 LI.k.s2 (by omega) s 1 [104,101,108,108,111,44,32,104,101,114,101,32,105,115,32,109,111,114,101] 3 1 (by omega) (by simp)) ?_
        rintro _ H' ⟨v,rfl,r⟩
        obtain ⟨c1,K1,c2,K2,rfl,o1,o2,dj⟩:=r
        have img:ImgV H3.length (.agg #[.slice c1 (fsMake f s 1 [104,101,108,108,111,44,32,104,101,114,101,32,105,115,32,109,111,114,101] 3 1).1.nodes.length (fsMake f s 1 [104,101,108,108,111,44,32,104,101,114,101,32,105,115,32,109,111,114,101] 3 1).1.nodes.length,.slice c2 (fsMake f s 1 [104,101,108,108,111,44,32,104,101,114,101,32,105,115,32,109,111,114,101] 3 1).1.data.length (fsMake f s 1 [104,101,108,108,111,44,32,104,101,114,101,32,105,115,32,109,111,114,101] 3 1).1.data.length]) H' :=
          ⟨_,c1,c2,K1,K2,rfl,o1.sl,o2.sl,fsMake_nlN (by omega) _ _ _ _ _ _ nlf,fun q hq=>(List.mem_append.1 hq).elim (fun h=>Nat.le_trans hle (o1.new q h)) (fun h=>Nat.le_trans hle (o2.new q h))⟩
        simp -implicitDefEqProofs
        exact ⟨img,⟨Nat.le_trans hle o1.ext.1,LI.step hc (Dr.of_ext o1.ext) (LI.k.d.ext o1.ext)⟩,fun j v _=>S5.dr hcl (Dr.of_ext o1.ext) j v⟩
      · simp -implicitDefEqProofs [dAc,dAn,S5]
        rintro _ u n rfl hi
        simp -implicitDefEqProofs
        exact ⟨hi,⟨hle,LI⟩,Keep.refl _ _ _⟩
      · simp -implicitDefEqProofs [dAc,dAn,S5]
        rintro _ u n rfl hi
        simp -implicitDefEqProofs
        exact ⟨hi,⟨hle,LI⟩,Keep.refl _ _ _⟩
      · simp -implicitDefEqProofs [dAc,dAn,S5]
        rintro _ u n rfl hi
        simp -implicitDefEqProofs
        exact ⟨⟨hle,LI⟩,Keep.refl _ _ _⟩
      · simp -implicitDefEqProofs [dAc,dAn,S5]
        exact ⟨⟨hle,⟨[],[]⟩,none,none,[],[],by simp,⟨rfl,rfl⟩,⟨rfl,rfl⟩,by simp [Fs.nl,sumL],fun q hq=>(by simp at hq)⟩,⟨by (try simp); omega,LI.step hc (Dr.of_ext (Ext.push _ _)) (LI.k.d.ext (Ext.push _ _))⟩,fun j v _=>S5.dr hcl (Dr.of_ext (Ext.push _ _)) j v⟩
      · simp -implicitDefEqProofs [dAc,dAn,S5]
        rintro v hv _ p rfl hp hb
        obtain ⟨g,e1,e2,K1,K2,rfl,s1,s2,nl,w⟩:=hv
        obtain ⟨g',f1,f2,M1,M2,bx,-⟩:=hb
        have hcs:cS_ H p 0 2=true:=by simp [cS_,bx]
        simp -implicitDefEqProofs [hcs]
        exact ⟨⟨by rw [sAl]; exact hle,LI.boxed (by omega) (by omega) bx⟩,fun j v _=>S5.store bx rfl s1 s2 nl w j v⟩
      · simp -implicitDefEqProofs [dAc,dAn,S5]
        exact ⟨⟨hle,LI⟩,Keep.refl _ _ _⟩
    · rintro D H' hall ⟨hle,LI⟩
      simp -implicitDefEqProofs [dAc,dAn,S5]
      rintro _ s rfl hs _ u1 n1 rfl i1 _ u2 n2 rfl i2 v5 i5 n6 _ p rfl hp hb n9
      obtain ⟨g,e1,e2,K1,K2,bx,s1,s2,nl,w⟩:=hb
      obtain ⟨z1,z2,z3,z4,z5⟩:=fin _ _ _ _ _ _ LI s1 s2 nl
      have q4:=LI.cells
      have qp:∀ j,cellAt H' p j=([Value.slice e1 g.nodes.length g.nodes.length,.slice e2 g.data.length g.data.length])[j]?:=fun j=>by simp [cellAt,bx]
      have qp2:∀ vs j,cellAt (sA_ H' h.length 0 vs) p j=([Value.slice e1 g.nodes.length g.nodes.length,.slice e2 g.data.length g.data.length])[j]?:=fun vs j=>by
        rw [← qp j]
        unfold cellAt
        rw [sAg,if_neg (by omega)]
      refine drawF false [0] [1,2] [[2,1]] [3] (by simp; rfl) (by simp; rfl) (by simp; rfl) (by kernel_rfl) ?_
      simp [q4,qp,qp2,z1,z2,z3,z4]
      exact z5
  · try simp
    refine drawLA false [1,2] [0] [3,4] (by simp; rfl) (by simp; rfl) (by simp; rfl) (by kernel_rfl) rfl ?_
    simp [q]
    refine cK (l6Draw_c h0.length H3 L3.k.d) ?_
    rintro _ H4 ⟨g,⟨c1,c2,K1,K2,rfl,kg⟩,nlg,-⟩
    have L4:=L3.step hc kg.dr kg.d
    have q4:=L4.cells
    obtain ⟨z1,z2,z3,z4,z5⟩:=fin _ _ _ _ _ _ L4 kg.s1 kg.s2 nlg
    simp [q4,z1,z2,z3,z4]
    exact z5
end Go.Proofs.Ytmpgpkdijfcfhaa.Hz
