/- Texts of the calculus and of the program's functions, merged: DI DJ DN DP DR. -/
import Derived.Test.YtmpgpkdijfcfhaaHyGX
import Derived.Test.YtmpgpkdijfcfhaaHyHL
import Derived.Test.YtmpgpkdijfcfhaaHyGT
import Derived.Test.YtmpgpkdijfcfhaaHyGO
import Derived.Test.YtmpgpkdijfcfhaaHyGN
import Derived.Test.YtmpgpkdijfcfhaaHyGE
import Derived.Test.YtmpgpkdijfcfhaaHyGF
import Derived.Test.YtmpgpkdijfcfhaaHyGH
import Derived.Test.YtmpgpkdijfcfhaaHyGK
namespace Go.Proofs.Ytmpgpkdijfcfhaa.Hz
open Go.RowKit
set_option linter.unusedVariables false
set_option linter.unusedSimpArgs false
set_option maxRecDepth 20000
theorem l1Once_c (n:Int) (c:Nat) (h:Hp) (d:Draw h c) :
    ACall Try.prog 48 [.pointer (some ⟨c,0,none⟩),.int .i64 n] h fun r h'=>Dr c h h'∧Draw h' c∧∃ b:Bool,r=.bool b:=by
  refine acall mixed Try.func48 rfl (by kernel_rfl) ?_
  simp [Try.f48]
  refine cK (l1Below_c n c h d) ?_
  rintro _ H ⟨dr,d1,z,rfl,_,_,_⟩
  simp
  exact ⟨dr,d1,by omega⟩
theorem flat_ints:∀ xs:List Int,(xs.map fun x=>[Value.int IntKind.i64 x]).flatten=xs.map fun x=>.int .i64 x
  | []=>rfl
  | x :: xs=>by simp [flat_ints xs]
theorem pick_c (xs:List Int) (c:Nat) (h:Hp) (d:Draw h c) (h1:1≤xs.length) (h2:xs.length≤256) :
    ACall Try.prog 84 [.pointer (some ⟨c,0,none⟩),.slice (some ⟨h.length,0,none⟩) xs.length xs.length] (h++[⟨true,true,3,xs.map fun x=>.int .i64 x⟩]) fun r h'=>Dr c h h'∧Draw h' c∧∃ x∈xs,r=.int .i64 x:=by
  have o:=Own.lit (h0:=h) (h:=h) (e:=3) (A:=intE) (xs:=xs) (css:=xs.map fun x=>[.int .i64 x]) (Fs:=List.replicate xs.length []) (Ext.refl h) (rowsR.mkFlat xs) (by rw [flat_rep]; exact List.nodup_nil) (by rw [flat_rep]; simp)
  rw [flat_ints,flat_rep] at o
  have hc:=d.lt
  refine (l1PickInt_c c _ (some ⟨h.length,0,none⟩) [h.length] true _ xs o.sl (by simp; omega) h1 h2 (d.ext o.ext)).mono ?_
  rintro r h' ⟨dr,d2,hx⟩
  exact ⟨(Dr.of_ext o.ext).trans dr,d2,hx⟩
set_option maxHeartbeats 1000000 in
theorem l7Text_c (c:Nat) (h:Hp) (d:Draw h c) :
    ACall Try.prog 86 [.pointer (some ⟨c,0,none⟩)] h fun r h'=>Dr c h h'∧Draw h' c∧∃ s:Str,r=.string (S s)∧s.length≤81:=by
  refine acall mixed Try.func86 rfl (by kernel_rfl) ?_
  have hc:=d.lt
  simp [Try.f86]
  have hp:=pick_c [0,1,5,15,16,17,33,64,80,81] c h d (by decide) (by decide)
  simp only [List.map_cons,List.map_nil,List.length_cons,List.length_nil,Nat.zero_add,Nat.reduceAdd] at hp
  refine cK hp ?_
  rintro _ H1 ⟨dr1,d1,n,hn,rfl⟩
  have hn81:0≤n∧n≤81:=by simp at hn; omega
  obtain ⟨m,rfl⟩:∃ m:Nat,n=m:=⟨n.toNat,by omega⟩
  simp
  refine aloop mixed [0,3,4,5] (fun (y:Nat × Str × Hp)=>[.pointer (some ⟨c,0,none⟩),.string (S y.2.1),.int .i64 m,.int .i64 y.1]) (fun y=>y.2.2) (fun y=>y.1≤m∧y.2.1.length≤y.1∧Dr c h y.2.2∧Draw y.2.2 c) (fun y=>m - y.1) (0,[],H1) ⟨by simp,by simp,dr1,d1⟩ rfl rfl ?_
  rintro ⟨i,s,H⟩ ⟨hi,hs,dr,dH⟩
  simp only at hi hs dr dH
  simp [mkF]
  refine aSI (fun hb=>?_) (fun hb=>?_) <;> simp at hb <;> simp [hb]
  · refine cK (l1Below_c 2 c H dH) ?_
    rintro _ H2 ⟨dr2,d2,z,rfl,hz0,hz1,-⟩
    have hz1:=hz1 (by omega)
    have w1:IntKind.i64.wrap ((i:Int)+z)=i+z:=wrap_in (by omega) (by omega)
    have e1:((i:Int)+z).tmod 26=((i:Int)+z) % 26:=Int.tmod_eq_emod_of_nonneg (by omega)
    have w2:IntKind.i64.wrap (97+((i:Int)+z) % 26)=97+((i:Int)+z) % 26:=wrap_in (by omega) (by omega)
    have w3:IntKind.u8.wrap (97+((i:Int)+z) % 26)=97+((i:Int)+z) % 26:=wrap_u8 (by omega) (by omega)
    obtain ⟨u,hu⟩:∃ u:UInt8,(u.toNat:Int)=97+((i:Int)+z) % 26:=⟨UInt8.ofNat (97+((i:Int)+z) % 26).toNat,by rw [u8_ofNat (by omega)]; omega⟩
    have o:=Own.lit (h0:=H2) (h:=H2) (e:=5) (A:=byteE) (xs:=[u]) (css:=[[.int .u8 u.toNat]]) (Fs:=[[]]) (Ext.refl H2) ⟨⟨rfl,rfl⟩,trivial⟩ (by simp) (by simp)
    simp at o
    have hl:s.length+1≤9223372036854775807:=by omega
    rw [← hu] at w2 w3
    simp [w1,e1,← hu,w2,w3,lev_cvBS o.sl,hl]
    exact anext (i+1,s++[u],_) ⟨hb,by simp; omega,(dr.trans dr2).trans (Dr.of_ext (Ext.push _ _)),d2.ext (Ext.push _ _)⟩ (by simp only; omega) (by simp [pickF,wS (show i<9223372036854775807 by omega)]) rfl (by simp)
  · exact ⟨dr,dH,by omega⟩
structure DFs (h:Hp) (c:Nat) (H:Hp) (f:Fs) (b1 b2:Option Addr) (G1 G2:List Nat):Prop where
  dr:Dr c h H
  d:Draw H c
  s1:slR true 49 (nodeE true) H f.nodes b1 G1
  s2:slR true 9 strE H f.data b2 G2
  n1:G1.Nodup
  n2:G2.Nodup
  w1:∀ q∈G1,h.length≤q
  w2:∀ q∈G2,h.length≤q
  dj:∀ q∈G1,q ∉ G2
section
variable {h H H2:Hp} {c:Nat} {f g:Fs} {b1 b2:Option Addr} {G1 G2:List Nat}
theorem DFs.step (k:DFs h c H f b1 b2 G1 G2) (hc:c<h.length) (x:Dr c H H2) (d:Draw H2 c):DFs h c H2 f b1 b2 G1 G2 :=
  ⟨k.dr.trans x,d,x.sl k.s1 (fun hm=>by have:=k.w1 _ hm; omega),x.sl k.s2 (fun hm=>by have:=k.w2 _ hm; omega),k.n1,k.n2,k.w1,k.w2,k.dj⟩
theorem DFs.res {v:Value} {B:Hp} (dr:Dr c h B) (d:Draw B c) (r:FsRes g B H2 v):∃ b1 b2 G1 G2,v=.agg #[.slice b1 g.nodes.length g.nodes.length,.slice b2 g.data.length g.data.length]∧DFs h c H2 g b1 b2 G1 G2:=by
  obtain ⟨b1,G1,b2,G2,rfl,o1,o2,dj⟩:=r
  exact ⟨b1,b2,G1,G2,rfl,dr.trans (Dr.of_ext o1.ext),d.ext o1.ext,o1.sl,o2.sl,o1.nd,o2.nd,fun q hq=>Nat.le_trans dr.1 (o1.new q hq),fun q hq=>Nat.le_trans dr.1 (o2.new q hq),dj⟩
end
def freshFs (n d:Nat):Fs:=⟨(List.replicate n ⟨0,0,0,0,[]⟩).set 0 ⟨2,0,0,0,[]⟩,List.replicate d []⟩
theorem sumL_rep {α:Type} (g:α→Nat) (x:α) (hx:g x=0):∀ n:Nat,sumL g (List.replicate n x)=0
  | 0=>rfl
  | n+1=>by
    have:=sumL_rep g x hx n
    simp [List.replicate_succ,sumL,hx,this]
theorem freshFs_nl (n d:Nat) (hn:1≤n):(freshFs n d).nl=n+d:=by
  obtain ⟨m,rfl⟩:∃ m,n=m+1:=⟨n - 1,by omega⟩
  have h1:=sumL_rep Node.nl ⟨0,0,0,0,[]⟩ rfl m
  have h2:=sumL_rep List.length ([]:Str) rfl d
  simp [freshFs,Fs.nl,List.replicate_succ,sumL,h1,h2,Node.nl]
theorem fresh_res {n d i1 i2:Nat} {h H:Hp} (hn:1≤n) (e:Ext h H) (l1:h.length≤i1) (l2:h.length≤i2) (ne:i1≠i2) (g1:H[i1]?=some ⟨true,true,49,(rep n [.int .i64 0,.int .i64 0,.int .i64 0,.int .i64 0,.slice none 0 0]).set 0 (.int .i64 2)⟩) (g2:H[i2]?=some ⟨true,true,9,rep d [.string (S [])]⟩) :
    FsRes (freshFs n d) h H (.agg #[.slice (some ⟨i1,0,none⟩) n n,.slice (some ⟨i2,0,none⟩) d d]):=by
  obtain ⟨m,rfl⟩:∃ m,n=m+1:=⟨n - 1,by omega⟩
  have r0:rowsR (nodeE true) H (List.replicate m ⟨0,0,0,0,[]⟩) (List.replicate m [.int .i64 0,.int .i64 0,.int .i64 0,.int .i64 0,.slice none 0 0]) (List.replicate m []):=rowsR_rep (A:=nodeE true) (z:=⟨0,0,0,0,[]⟩) ⟨none,[],rfl,rfl,⟨rfl,rfl⟩⟩ m
  have r1:rowsR (nodeE true) H (freshFs (m+1) d).nodes ([.int .i64 2,.int .i64 0,.int .i64 0,.int .i64 0,.slice none 0 0] :: List.replicate m [.int .i64 0,.int .i64 0,.int .i64 0,.int .i64 0,.slice none 0 0]) ([] :: List.replicate m []):=⟨⟨none,[],rfl,rfl,⟨rfl,rfl⟩⟩,r0⟩
  have r2:rowsR strE H (List.replicate d []) (List.replicate d [.string (S [])]) (List.replicate d []):=rowsR_rep (A:=strE) (z:=[]) ⟨rfl,rfl⟩ d
  have f1:([] :: List.replicate m ([]:List Nat)).flatten=[]:=by rw [List.flatten_cons,flat_rep]; rfl
  have f2:(List.replicate d ([]:List Nat)).flatten=[]:=flat_rep d
  have len1:(freshFs (m+1) d).nodes.length=m+1:=by simp [freshFs]
  have len2:(freshFs (m+1) d).data.length=d:=by simp [freshFs]
  refine ⟨some ⟨i1,0,none⟩,[i1],some ⟨i2,0,none⟩,[i2],by rw [len1,len2],⟨e,⟨rfl,_,_,_,[],[],g1,rfl,fun _=>rfl,rfl,?_,r1,?_,rfl⟩,by simp,by simpa using l1⟩,⟨e,⟨rfl,_,_,_,[],[],g2,rfl,fun _=>rfl,rfl,?_,r2,?_,rfl⟩,by simp,by simpa using l2⟩,by simpa using ne⟩
  · rw [f1]
  · simp [rep,List.replicate_succ]
  · rw [f2]
  · simp [rep]
set_option maxHeartbeats 4000000 in
theorem fsNew_spec_c (n d:Nat) (h:Hp) (hn:2≤n∧n≤10) (hd:1≤d∧d≤36) :
    ACall Try.prog 83 [.int .i64 n,.int .i64 d] h fun r h'=>∃ v,r=.tuple #[v,.bool true]∧FsRes (freshFs n d) h h' v:=by
  refine acall mixed Try.func83 rfl (by kernel_rfl) ?_
  simp [Try.f83]
  refine cK (l1InR n 2 10 _) ?_
  rintro _ _ ⟨rfl,rfl⟩
  have hn':1≤n:=by omega
  have e1:inR (n:Int) 2 10=true:=inR_iff.2 ⟨by omega,by omega⟩
  simp [e1]
  refine cK (l1InR d 1 36 _) ?_
  rintro _ _ ⟨rfl,rfl⟩
  have e2:inR (d:Int) 1 36=true:=inR_iff.2 ⟨by omega,by omega⟩
  have hb1:(n:Int) * 56≤(big:Int):=by unfold big; omega
  have hb2:n≤big:=by unfold big; omega
  have hb3:(d:Int) * 16≤(big:Int):=by unfold big; omega
  have hb4:d≤big:=by unfold big; omega
  simp [e2]
  refine drawF false [] [0,2,1,3,5] [[0,2,1,5,3],[0,2,3,1,5],[0,2,3,5,1],[0,2,5,1,3],[0,2,5,3,1]] [4,6] (by simp; rfl) (by simp; rfl) (by simp; rfl) (by kernel_rfl) ?_
  simp [hb1,hb2,hb3,hb4]
  have hpos:0<n:=by omega
  have hrl:1≤(rep n [Value.int .i64 0,.int .i64 0,.int .i64 0,.int .i64 0,.slice none 0 0]).length:=by rw [rep_length]; simp; omega
  refine ⟨⟨hpos,hrl,?_⟩,⟨hpos,hrl,?_⟩,⟨hpos,hrl,?_⟩,⟨hpos,hrl,?_⟩,⟨hpos,hrl,?_⟩,hpos,hrl,?_⟩ <;> exact fresh_res hn' (Ext.push h _) (by omega) (by omega) (by omega) (by simp) (by simp)
def paths10:List Str:=[[47,97],[47,98],[47,97,47,120],[47,97,47,121],[47,98,47,120],[47,99],[47,97,47,120,47,122],[47,100],[47,97,47,98],[47,101,47,102]]
theorem flat_strs:∀ xs:List Str,(xs.map fun x=>[Value.string (S x)]).flatten=xs.map fun x=>.string (S x)
  | []=>rfl
  | x :: xs=>by simp [flat_strs xs]
theorem l2Paths_c (h:Hp):ACall Try.prog 82 [] h fun r h'=>∃ a F,r=.slice a paths10.length paths10.length∧Own h 9 strE h' paths10 a F:=by
  refine acall mixed Try.func82 rfl (by kernel_rfl) ?_
  have o:=Own.lit (h0:=h) (h:=h) (e:=9) (A:=strE) (xs:=paths10) (css:=paths10.map fun x=>[.string (S x)]) (Fs:=List.replicate paths10.length []) (Ext.refl h) (rowsR.mkFlat paths10) (by rw [flat_rep]; exact List.nodup_nil) (by rw [flat_rep]; simp)
  rw [flat_strs,flat_rep] at o
  simp [Try.f82]
  exact ⟨_,⟨rfl,rfl⟩,_,o⟩
structure LR (h1:Hp) (c bi:Nat) (H:Hp) (f:Fs) (b1 b2:Option Addr) (G1 G2:List Nat):Prop where
  k:DFs h1 c H f b1 b2 G1 G2
  box:H[bi]?=some ⟨true,true,26,[.slice b1 f.nodes.length f.nodes.length,.slice b2 f.data.length f.data.length]⟩
  m1:bi ∉ G1
  m2:bi ∉ G2
  hb:h1.length≤bi
section
variable {h1 H H2:Hp} {c bi:Nat} {f g:Fs} {b1 b2:Option Addr} {G1 G2:List Nat}
theorem LR.step (l:LR h1 c bi H f b1 b2 G1 G2) (hc:c<h1.length) (x:Dr c H H2) (d:Draw H2 c):LR h1 c bi H2 f b1 b2 G1 G2 :=
  ⟨l.k.step hc x d,by rw [x.2 bi (get_lt l.box) (by have:=l.hb; omega)]; exact l.box,l.m1,l.m2,l.hb⟩
theorem LR.cells (l:LR h1 c bi H f b1 b2 G1 G2):cellAt H bi 0=some (.slice b1 f.nodes.length f.nodes.length)∧cellAt H bi 1=some (.slice b2 f.data.length f.data.length):=by
  constructor <;> simp [cellAt,l.box]
theorem LR.store (l:LR h1 c bi H f b1 b2 G1 G2) (hc:c<h1.length) {c1 c2:Option Addr} (r:FsRes g H H2 (.agg #[.slice c1 g.nodes.length g.nodes.length,.slice c2 g.data.length g.data.length])) :
    cS_ H2 bi 0 2=true∧∃ K1 K2,LR h1 c bi (sA_ H2 bi 0 [.slice c1 g.nodes.length g.nodes.length,.slice c2 g.data.length g.data.length]) g c1 c2 K1 K2:=by
  obtain ⟨d1,d2,K1,K2,e,k⟩:=DFs.res l.k.dr l.k.d r
  simp only [Value.agg.injEq,Array.mk.injEq,List.cons.injEq,Value.slice.injEq,and_true,true_and] at e
  obtain ⟨rfl,rfl⟩:=e
  obtain ⟨e1,L1,e2,L2,ee,o1,o2,dj⟩:=r
  simp only [Value.agg.injEq,Array.mk.injEq,List.cons.injEq,Value.slice.injEq,and_true,true_and] at ee
  obtain ⟨rfl,rfl⟩:=ee
  have hbl:=get_lt l.box
  have hb2:H2[bi]?=some ⟨true,true,26,[.slice b1 f.nodes.length f.nodes.length,.slice b2 f.data.length f.data.length]⟩:=by rw [o1.ext.2 bi hbl]; exact l.box
  have hne:∀ q,q≠bi→(sA_ H2 bi 0 [.slice c1 g.nodes.length g.nodes.length,.slice c2 g.data.length g.data.length])[q]?=H2[q]?:=fun q hq=>by rw [sAg,if_neg (fun e=>hq e.symm)]
  have n1:bi ∉ L1:=fun hm=>by have:=o1.new _ hm; omega
  have n2:bi ∉ L2:=fun hm=>by have:=o2.new _ hm; omega
  have hlb:=l.hb
  have dr2:Dr c H2 (sA_ H2 bi 0 [.slice c1 g.nodes.length g.nodes.length,.slice c2 g.data.length g.data.length])→True:=fun _=>trivial
  refine ⟨by simp [cS_,hb2],L1,L2,⟨⟨?_,fun q hq hn=>?_⟩,?_,o1.sl.frame fun q hq=>hne q (fun e=>n1 (e ▸ hq)),o2.sl.frame fun q hq=>hne q (fun e=>n2 (e ▸ hq)),o1.nd,o2.nd,fun q hq=>Nat.le_trans l.k.dr.1 (o1.new q hq),fun q hq=>Nat.le_trans l.k.dr.1 (o2.new q hq),dj⟩,?_,n1,n2,hlb⟩
  · rw [sAl]; exact Nat.le_trans l.k.dr.1 o1.ext.1
  · rw [hne q (by omega),o1.ext.2 q (by have:=l.k.dr.1; omega)]; exact l.k.dr.2 q hq hn
  · exact (l.k.d.ext o1.ext).frame fun q hq=>hne q (by omega)
  · rw [sAg,if_pos rfl,hb2]; rfl
end
def LX (Q:Fs→Prop) (h1:Hp) (c bi:Nat) (f0:Fs) (H:Hp):Prop:=∃ f b1 b2 G1 G2,LR h1 c bi H f b1 b2 G1 G2∧f.nl≤1000∧SL f0 f∧Q f
set_option maxHeartbeats 4000000 in
theorem l11Right_q (Q:Fs→Prop) (qn:∀ n m:Nat,4≤n→n≤10→6≤m→m≤30→Q (freshFs n m)) (qm:∀ f p k dt t g,Q f→Q (fsMake f p k dt t g).1) (qs:∀ f p dt t g,Q f→Q (fsSet f p dt t g).1) (qd:∀ f p,Q f→Q (fsDrop f p).1) (qh:∀ f dt,Q f→Q (fsHide f dt).1) (c:Nat) (h:Hp) (d:Draw h c) :
    ACall Try.prog 51 [.pointer (some ⟨c,0,none⟩)] h fun r h'=>∃ f b1 b2 G1 G2,r=.agg #[.slice b1 f.nodes.length f.nodes.length,.slice b2 f.data.length f.data.length]∧DFs h c h' f b1 b2 G1 G2∧f.nl≤1000∧2≤f.nodes.length∧f.nodes.length≤10∧1≤f.data.length∧f.data.length≤36∧Q f:=by
  refine acall mixed Try.func51 rfl (by kernel_rfl) ?_
  have hc:=d.lt
  simp [Try.f51]
  obtain ⟨h1,hh1⟩:∃ h1:Hp,h1=h++[⟨true,true,26,[.slice none 0 0,.slice none 0 0]⟩]:=⟨_,rfl⟩
  have d1:Draw h1 c:=by rw [hh1]; exact d.ext (Ext.push _ _)
  have hl1:h1.length=h.length+1:=by rw [hh1]; simp
  have hc1:c<h1.length:=by omega
  have res1:h1[h.length]?=some ⟨true,true,26,[.slice none 0 0,.slice none 0 0]⟩:=by rw [hh1]; simp
  have x1:Ext h h1:=by rw [hh1]; exact Ext.push _ _
  have hp:=pick_c [4,7,10] c h1 d1 (by decide) (by decide)
  simp only [List.map_cons,List.map_nil,List.length_cons,List.length_nil,Nat.zero_add,Nat.reduceAdd,hl1] at hp
  rw [hh1] at hp
  simp only [List.append_assoc,List.cons_append,List.nil_append] at hp
  refine cK hp ?_
  rintro _ H1 ⟨dr1,d1',n,hn,rfl⟩
  rw [← hh1] at dr1
  have hn':4≤n∧n≤10:=by simp at hn; omega
  obtain ⟨n,rfl⟩:∃ m:Nat,n=m:=⟨n.toNat,by omega⟩
  simp
  have hp:=pick_c [6,14,30] c H1 d1' (by decide) (by decide)
  simp only [List.map_cons,List.map_nil,List.length_cons,List.length_nil,Nat.zero_add,Nat.reduceAdd] at hp
  refine cK hp ?_
  rintro _ H2 ⟨dr2,d2,m,hm,rfl⟩
  have hm':6≤m∧m≤30:=by simp at hm; omega
  obtain ⟨m,rfl⟩:∃ k:Nat,m=k:=⟨m.toNat,by omega⟩
  simp
  refine cK (fsNew_spec_c n m H2 (by omega) (by omega)) ?_
  rintro _ H3 ⟨v,rfl,r3⟩
  obtain ⟨b1,b2,G1,G2,rfl,k3⟩:=DFs.res (dr1.trans dr2) d2 r3
  obtain ⟨e1,L1,e2,L2,ee,o1,o2,dj⟩:=r3
  simp only [Value.agg.injEq,Array.mk.injEq,List.cons.injEq,Value.slice.injEq,and_true,true_and] at ee
  obtain ⟨rfl,rfl⟩:=ee
  have hnl:=freshFs_nl n m (by omega)
  have len1:(freshFs n m).nodes.length=n:=by simp [freshFs]
  have len2:(freshFs n m).data.length=m:=by simp [freshFs]
  have hlH:h1.length≤H3.length:=k3.dr.1
  simp
  have L:LR h1 c H3.length (H3++[⟨true,true,26,[.slice b1 (freshFs n m).nodes.length (freshFs n m).nodes.length,.slice b2 (freshFs n m).data.length (freshFs n m).data.length]⟩]) (freshFs n m) b1 b2 G1 G2 :=
    ⟨k3.step hc1 (Dr.of_ext (Ext.push _ _)) (k3.d.ext (Ext.push _ _)),by simp,fun hm=>by have:=k3.s1.lt _ hm; omega,fun hm=>by have:=k3.s2.lt _ hm; omega,hlH⟩
  refine cK (l1Below_c 9 c _ L.k.d) ?_
  rintro _ H4 ⟨dr4,d4,z,rfl,hz0,hz1,-⟩
  have hz1:=hz1 (by omega)
  obtain ⟨N,rfl⟩:∃ k:Nat,z=k:=⟨z.toNat,by omega⟩
  have L4:=L.step hc1 dr4 d4
  have qf0:Q (freshFs n m):=qn n m (by omega) (by omega) (by omega) (by omega)
  generalize hF0:freshFs n m=f0 at *
  clear L k3 dr1 dr2 dr4 d4 o1 o2
  have nl0:f0.nl≤1000:=by omega
  have ln0:2≤f0.nodes.length∧f0.nodes.length≤10∧1≤f0.data.length∧f0.data.length≤36:=by omega
  clear hnl len1 len2 hn' hm' hm hn hF0
  simp
  obtain ⟨bi,hbi⟩:∃ bi,bi=H3.length:=⟨_,rfl⟩
  rw [← hbi] at L4 ⊢
  clear hbi hlH
  refine aloop mixed [0,2,3,5,6] (fun (y:Nat × Hp)=>[.pointer (some ⟨c,0,none⟩),.pointer (some ⟨h.length,0,none⟩),.pointer (some ⟨bi,0,none⟩),.int .i64 N,.int .i64 y.1]) (fun y=>y.2)
    (fun y=>y.1≤N∧y.2[h.length]?=some ⟨true,true,26,[.slice none 0 0,.slice none 0 0]⟩∧LX Q h1 c bi f0 y.2) (fun y=>N - y.1) (0,H4) ⟨by simp,by rw [L4.k.dr.2 _ (by omega) (by omega)]; exact res1,f0,b1,b2,G1,G2,L4,nl0,SL.refl _,qf0⟩ rfl rfl ?_
  clear L4
  rintro ⟨i,H⟩ ⟨hi,hres,f,b1,b2,G1,G2,L,nl,sl,hQ⟩
  simp only at hi hres L
  have xcl:∀ {H':Hp},Dr c H H'→H'[h.length]?=some ⟨true,true,26,[.slice none 0 0,.slice none 0 0]⟩:=fun {H'} x=>by rw [x.2 _ (get_lt hres) (by omega)]; exact hres
  simp [mkF]
  refine aSI (fun hb=>?_) (fun hb=>?_) <;> simp at hb <;> simp [hb]
  · refine cK (l2Paths_c H) ?_
    rintro _ H5 ⟨ap,Fp,rfl,op⟩
    have L5:=L.step hc1 (Dr.of_ext op.ext) (L.k.d.ext op.ext)
    have hcH:c<H.length:=by have:=L.k.dr.1; omega
    simp
    refine cK (l1Pick_c c H5 ap Fp true _ paths10 op.sl (fun hm=>by have:=op.new _ hm; omega) (by decide) (by decide) L5.k.d) ?_
    rintro _ H6 ⟨dr6,d6,p,hp,rfl⟩
    have L6:=L5.step hc1 dr6 d6
    have hpl:p.length≤1048576:=by
      have:∀ s∈paths10,s.length≤6:=by decide
      have:=this p hp
      omega
    simp
    refine cK (l1Below_c 6 c H6 L6.k.d) ?_
    rintro _ H7 ⟨dr7,d7,z,rfl,hz0,hz1,-⟩
    have L7:=L6.step hc1 dr7 d7
    have drA:Dr c H H7:=((Dr.of_ext op.ext).trans dr6).trans dr7
    have hresA:=xcl drA
    clear L5 L6 dr6 d6 dr7 d7 op
    obtain ⟨q0,q1⟩:=L7.cells
    simp
    have fin:∀ (g:Fs) (c1 c2:Option Addr) (HA HB:Hp) (LA:LR h1 c bi HA f b1 b2 G1 G2) (hrA:HA[h.length]?=some ⟨true,true,26,[.slice none 0 0,.slice none 0 0]⟩) (r:FsRes g HA HB (.agg #[.slice c1 g.nodes.length g.nodes.length,.slice c2 g.data.length g.data.length])) (hg:g.nl≤1000) (hs:SL f g) (hq:Q g),
        cS_ HB bi 0 2=true∧(sA_ HB bi 0 [.slice c1 g.nodes.length g.nodes.length,.slice c2 g.data.length g.data.length])[h.length]?=some ⟨true,true,26,[.slice none 0 0,.slice none 0 0]⟩∧LX Q h1 c bi f0 (sA_ HB bi 0 [.slice c1 g.nodes.length g.nodes.length,.slice c2 g.data.length g.data.length]):=by
      intro g c1 c2 HA HB LA hrA r hg hs hq
      obtain ⟨h2,K1,K2,LB⟩:=LA.store hc1 r
      obtain ⟨_,_,_,_,_,o1,_,_⟩:=r
      have hlb:=LA.hb
      refine ⟨h2,?_,g,c1,c2,K1,K2,LB,hg,sl.trans hs,hq⟩
      rw [sAg,if_neg (by omega),o1.ext.2 _ (get_lt hrA)]
      exact hrA
    refine aSI (fun hA=>?_) (fun hA=>?_) <;> simp at hA <;> simp [hA]
    · simp [q0,q1]
      refine cK (fsMake_spec_c f b1 b2 G1 G2 true _ H7 L7.k.s1 L7.k.s2 (by omega) p 2 [] 0 0 hpl (by simp)) ?_
      rintro _ HB ⟨v,rfl,r⟩
      obtain ⟨c1,K1,c2,K2,rfl,o1,o2,dj⟩:=id r
      obtain ⟨g1,g2,g3⟩:=fin _ c1 c2 H7 HB L7 hresA r (fsMake_nlN (Nat.le_refl _) _ _ _ _ _ _ nl) (fsMake_sl _ _ _ _ _ _) (qm _ _ _ _ _ _ hQ)
      simp [g1]
      exact anext (i+1,_) ⟨hb,g2,g3⟩ (by simp only; omega) (by simp [pickF,wS (show i<9223372036854775807 by omega)]) rfl (by simp)
    refine aSI (fun hB=>?_) (fun hB=>?_) <;> simp at hB <;> simp [hB]
    · refine drawLA false [1,2,3,4,5] [0] [6,7,8,9,10] (by simp; rfl) (by simp; rfl) (by simp; rfl) (by kernel_rfl) rfl ?_
      simp [q0,q1]
      refine cK (l1Below_c 9 c H7 L7.k.d) ?_
      rintro _ H8 ⟨dr8,d8,z8,rfl,hz80,hz81,-⟩
      have L8:=L7.step hc1 dr8 d8
      obtain ⟨u0,u1⟩:=L8.cells
      simp [u0,u1]
      refine cK (l1Below_c 5 c H8 L8.k.d) ?_
      rintro _ H9 ⟨dr9,d9,z9,rfl,hz90,hz91,-⟩
      have L9:=L8.step hc1 dr9 d9
      obtain ⟨v0,v1⟩:=L9.cells
      simp [v0,v1]
      refine cK (fsMake_spec_c f b1 b2 G1 G2 true _ H9 L9.k.s1 L9.k.s2 (by omega) p 3 [47,113] z8 z9 hpl (by simp)) ?_
      rintro _ HB ⟨v,rfl,r⟩
      obtain ⟨c1,K1,c2,K2,rfl,o1,o2,dj⟩:=id r
      obtain ⟨g1,g2,g3⟩:=fin _ c1 c2 H9 HB L9 (xcl (drA.trans (dr8.trans dr9))) r (fsMake_nlN (Nat.le_refl _) _ _ _ _ _ _ nl) (fsMake_sl _ _ _ _ _ _) (qm _ _ _ _ _ _ hQ)
      simp [g1]
      exact anext (i+1,_) ⟨hb,g2,g3⟩ (by simp only; omega) (by simp [pickF,wS (show i<9223372036854775807 by omega)]) rfl (by simp)
    refine aSI (fun hC=>?_) (fun hC=>?_) <;> simp at hC <;> simp [hC]
    · refine drawLA false [1,2,3,4,5,6,7] [0] [8,9,10,11,12] (by simp; rfl) (by simp; rfl) (by simp; rfl) (by kernel_rfl) rfl ?_
      simp [q0,q1]
      refine cK (l7Text_c c H7 L7.k.d) ?_
      rintro _ H7' ⟨dr7',d7',dt,rfl,hdt⟩
      have L7':=L7.step hc1 dr7' d7'
      obtain ⟨t0,t1⟩:=L7'.cells
      simp [t0,t1]
      refine cK (l1Below_c 9 c H7' L7'.k.d) ?_
      rintro _ H8 ⟨dr8,d8,z8,rfl,hz80,hz81,-⟩
      have L8:=L7'.step hc1 dr8 d8
      obtain ⟨u0,u1⟩:=L8.cells
      simp [u0,u1]
      refine cK (l1Below_c 5 c H8 L8.k.d) ?_
      rintro _ H9 ⟨dr9,d9,z9,rfl,hz90,hz91,-⟩
      have L9:=L8.step hc1 dr9 d9
      obtain ⟨v0,v1⟩:=L9.cells
      simp [v0,v1]
      refine cK (fsSet_spec_c f b1 b2 G1 G2 true _ H9 L9.k.s1 L9.k.s2 (by omega) p dt z8 z9 hpl (by omega)) ?_
      rintro _ HB ⟨v,rfl,r⟩
      obtain ⟨c1,K1,c2,K2,rfl,o1,o2,dj⟩:=id r
      obtain ⟨g1,g2,g3⟩:=fin _ c1 c2 H9 HB L9 (xcl (drA.trans (dr7'.trans (dr8.trans dr9)))) r (fsSet_nlN (Nat.le_refl _) _ _ _ _ _ nl) (fsSet_sl _ _ _ _ _) (qs _ _ _ _ _ hQ)
      simp [g1]
      exact anext (i+1,_) ⟨hb,g2,g3⟩ (by simp only; omega) (by simp [pickF,wS (show i<9223372036854775807 by omega)]) rfl (by simp)
    refine aSI (fun hD=>?_) (fun hD=>?_) <;> simp at hD <;> simp [hD]
    · simp [q0,q1]
      refine cK (fsDrop_spec_c f b1 b2 G1 G2 true _ H7 L7.k.s1 L7.k.s2 (by omega) p hpl) ?_
      rintro _ HB ⟨v,rfl,r⟩
      obtain ⟨c1,K1,c2,K2,rfl,o1,o2,dj⟩:=id r
      obtain ⟨g1,g2,g3⟩:=fin _ c1 c2 H7 HB L7 hresA r (fsDrop_nlN (Nat.le_refl _) _ _ nl) (fsDrop_sl _ _) (qd _ _ hQ)
      simp [g1]
      exact anext (i+1,_) ⟨hb,g2,g3⟩ (by simp only; omega) (by simp [pickF,wS (show i<9223372036854775807 by omega)]) rfl (by simp)
    · refine drawLA false [1,2,3,4,5,6,7] [0] [8,9,10,11,12] (by simp; rfl) (by simp; rfl) (by simp; rfl) (by kernel_rfl) rfl ?_
      simp [q0,q1]
      refine cK (l7Text_c c H7 L7.k.d) ?_
      rintro _ H7' ⟨dr7',d7',dt,rfl,hdt⟩
      have L7':=L7.step hc1 dr7' d7'
      obtain ⟨t0,t1⟩:=L7'.cells
      simp [t0,t1]
      refine cK (l1Below_c 9 c H7' L7'.k.d) ?_
      rintro _ H8 ⟨dr8,d8,z8,rfl,hz80,hz81,-⟩
      have L8:=L7'.step hc1 dr8 d8
      obtain ⟨u0,u1⟩:=L8.cells
      simp [u0,u1]
      refine cK (l1Below_c 5 c H8 L8.k.d) ?_
      rintro _ H9 ⟨dr9,d9,z9,rfl,hz90,hz91,-⟩
      have L9:=L8.step hc1 dr9 d9
      obtain ⟨v0,v1⟩:=L9.cells
      simp [v0,v1]
      refine cK (fsMake_spec_c f b1 b2 G1 G2 true _ H9 L9.k.s1 L9.k.s2 (by omega) p 1 dt z8 z9 hpl (by omega)) ?_
      rintro _ HB ⟨v,rfl,r⟩
      obtain ⟨c1,K1,c2,K2,rfl,o1,o2,dj⟩:=id r
      obtain ⟨g1,g2,g3⟩:=fin _ c1 c2 H9 HB L9 (xcl (drA.trans (dr7'.trans (dr8.trans dr9)))) r (fsMake_nlN (Nat.le_refl _) _ _ _ _ _ _ nl) (fsMake_sl _ _ _ _ _ _) (qm _ _ _ _ _ _ hQ)
      simp [g1]
      exact anext (i+1,_) ⟨hb,g2,g3⟩ (by simp only; omega) (by simp [pickF,wS (show i<9223372036854775807 by omega)]) rfl (by simp)
  · -- the end
    refine cK (l1Once_c 12 c H L.k.d) ?_
    rintro _ H5 ⟨dr5,d5,b,rfl⟩
    have L5:=L.step hc1 dr5 d5
    have res5:=xcl dr5
    obtain ⟨q0,q1⟩:=L5.cells
    have out:∀ (HA:Hp) (f:Fs) (b1 b2:Option Addr) (G1 G2:List Nat),LR h1 c bi HA f b1 b2 G1 G2→HA[h.length]?=some ⟨true,true,26,[.slice none 0 0,.slice none 0 0]⟩→SL f0 f→f.nl≤1000 →
        cS_ HA h.length 0 2=true∧cellAt (sA_ HA h.length 0 [.slice b1 f.nodes.length f.nodes.length,.slice b2 f.data.length f.data.length]) h.length 0=some (.slice b1 f.nodes.length f.nodes.length)∧cellAt (sA_ HA h.length 0 [.slice b1 f.nodes.length f.nodes.length,.slice b2 f.data.length f.data.length]) h.length 1=some (.slice b2 f.data.length f.data.length) ∧
        DFs h c (sA_ HA h.length 0 [.slice b1 f.nodes.length f.nodes.length,.slice b2 f.data.length f.data.length]) f b1 b2 G1 G2∧2≤f.nodes.length∧f.nodes.length≤10∧1≤f.data.length∧f.data.length≤36:=by
      intro HA f b1 b2 G1 G2 LA hr hs hn
      have hne:∀ q,q≠h.length→(sA_ HA h.length 0 [.slice b1 f.nodes.length f.nodes.length,.slice b2 f.data.length f.data.length])[q]?=HA[q]?:=fun q hq=>by rw [sAg,if_neg (fun e=>hq e.symm)]
      have hself:(sA_ HA h.length 0 [.slice b1 f.nodes.length f.nodes.length,.slice b2 f.data.length f.data.length])[h.length]?=some ⟨true,true,26,[.slice b1 f.nodes.length f.nodes.length,.slice b2 f.data.length f.data.length]⟩:=by rw [sAg,if_pos rfl,hr]; rfl
      have k:=LA.k
      refine ⟨by simp [cS_,hr],by simp [cellAt,hself],by simp [cellAt,hself],⟨⟨by rw [sAl]; have:=k.dr.1; omega,fun q hq hn=>by rw [hne q (by omega),k.dr.2 q (by omega) hn]; exact x1.2 q hq⟩,k.d.frame fun q hq=>hne q (by omega),k.s1.frame fun q hq=>hne q (by have:=k.w1 q hq; omega),k.s2.frame fun q hq=>hne q (by have:=k.w2 q hq; omega),k.n1,k.n2,fun q hq=>by have:=k.w1 q hq; omega,fun q hq=>by have:=k.w2 q hq; omega,k.dj⟩,by have:=hs.1; omega,by have:=hs.1; omega,by have:=hs.2; omega,by have:=hs.2; omega⟩
    cases b
    · simp [q0,q1]
      obtain ⟨o1,o2,o3,o4,o5,o6,o7,o8⟩:=out H5 f b1 b2 G1 G2 L5 res5 sl nl
      simp [o1,o2,o3]
      exact ⟨f,b1,b2,⟨⟨rfl,rfl⟩,rfl,rfl⟩,⟨G1,G2,o4⟩,nl,o5,o6,o7,o8,hQ⟩
    · simp
      refine drawLA false [1,2] [0] [3,4,5,6,7] (by simp; rfl) (by simp; rfl) (by simp; rfl) (by kernel_rfl) rfl ?_
      simp [q0,q1]
      refine cK (l7Text_c c H5 L5.k.d) ?_
      rintro _ H6 ⟨dr6,d6,dt,rfl,hdt⟩
      have L6:=L5.step hc1 dr6 d6
      obtain ⟨t0,t1⟩:=L6.cells
      simp [t0,t1]
      refine cK (fsHide_spec_c f b1 b2 G1 G2 true _ H6 L6.k.s1 L6.k.s2 (by omega) dt (by omega)) ?_
      rintro _ HB ⟨v,rfl,r⟩
      obtain ⟨c1,K1,c2,K2,rfl,o1,o2,dj⟩:=id r
      obtain ⟨g1,M1,M2,LB⟩:=L6.store hc1 r
      have hlb:=L6.hb
      have resB:(sA_ HB bi 0 [.slice c1 (fsHide f dt).1.nodes.length (fsHide f dt).1.nodes.length,.slice c2 (fsHide f dt).1.data.length (fsHide f dt).1.data.length])[h.length]?=some ⟨true,true,26,[.slice none 0 0,.slice none 0 0]⟩:=by
        have r6:=xcl (dr5.trans dr6)
        rw [sAg,if_neg (by omega),o1.ext.2 _ (get_lt r6)]
        exact r6
      obtain ⟨p1,p2⟩:=LB.cells
      simp [g1,p1,p2]
      obtain ⟨y1,y2,y3,y4,y5,y6,y7,y8⟩:=out _ (fsHide f dt).1 c1 c2 M1 M2 LB resB (sl.trans (fsHide_sl _ _)) (fsHide_nlN (Nat.le_refl _) _ _ nl)
      simp [y1,y2,y3]
      exact ⟨(fsHide f dt).1,c1,c2,⟨⟨rfl,rfl⟩,rfl,rfl⟩,⟨M1,M2,y4⟩,fsHide_nlN (Nat.le_refl _) _ _ nl,y5,y6,y7,y8,qh _ _ hQ⟩
theorem l11Right_c (c:Nat) (h:Hp) (d:Draw h c) :
    ACall Try.prog 51 [.pointer (some ⟨c,0,none⟩)] h fun r h'=>∃ f b1 b2 G1 G2,r=.agg #[.slice b1 f.nodes.length f.nodes.length,.slice b2 f.data.length f.data.length]∧DFs h c h' f b1 b2 G1 G2∧f.nl≤1000∧2≤f.nodes.length∧f.nodes.length≤10∧1≤f.data.length∧f.data.length≤36 :=
  (l11Right_q (fun _=>True) (fun _ _ _ _ _ _=>trivial) (fun _ _ _ _ _ _ _=>trivial) (fun _ _ _ _ _ _=>trivial) (fun _ _ _=>trivial) (fun _ _ _=>trivial) c h d).mono fun r h' ⟨f,b1,b2,G1,G2,e,k,n1,n2,n3,n4,n5,_⟩=>⟨f,b1,b2,G1,G2,e,k,n1,n2,n3,n4,n5⟩
structure NB (h1:Hp) (c ni:Nat) (H:Hp) (x:Node) (b:Option Addr) (G:List Nat):Prop where
  dr:Dr c h1 H
  d:Draw H c
  box:H[ni]?=some ⟨true,true,49,[.int .i64 x.kind,.int .i64 x.gen,.int .i64 x.time,.int .i64 x.size,.slice b x.blocks.length x.blocks.length]⟩
  s:slR true 3 intE H x.blocks b G
  nd:G.Nodup
  w:∀ q∈G,h1.length≤q
  m:ni ∉ G
  hb:h1.length≤ni
section
variable {h1 H H2:Hp} {c ni:Nat} {x:Node} {b:Option Addr} {G:List Nat}
theorem NB.step (l:NB h1 c ni H x b G) (hc:c<h1.length) (y:Dr c H H2) (d:Draw H2 c):NB h1 c ni H2 x b G :=
  ⟨l.dr.trans y,d,by rw [y.2 ni (get_lt l.box) (by have:=l.hb; omega)]; exact l.box,y.sl l.s (fun hm=>by have:=l.w _ hm; omega),l.nd,l.w,l.m,l.hb⟩
theorem NB.cells (l:NB h1 c ni H x b G):cellAt H ni 0=some (.int .i64 x.kind)∧cellAt H ni 1=some (.int .i64 x.gen)∧cellAt H ni 2=some (.int .i64 x.time)∧cellAt H ni 3=some (.int .i64 x.size)∧cellAt H ni 4=some (.slice b x.blocks.length x.blocks.length):=by
  refine ⟨?_,?_,?_,?_,?_⟩ <;> simp [cellAt,l.box]
theorem NB.set (l:NB h1 c ni H x b G) (hc:c<h1.length) (j:Nat) (v:Int) (x':Node) (hj:j<4) (hx:x'.blocks=x.blocks)
    (hv:∀ sl:Value,[.int .i64 x.kind,.int .i64 x.gen,.int .i64 x.time,.int .i64 x.size,sl].set j (.int .i64 v)=[.int .i64 x'.kind,.int .i64 x'.gen,.int .i64 x'.time,.int .i64 x'.size,sl]) :
    cS_ H ni j 1=true∧NB h1 c ni (sA_ H ni j [.int .i64 v]) x' b G:=by
  have hne:∀ q,q≠ni→(sA_ H ni j [.int .i64 v])[q]?=H[q]?:=fun q hq=>by rw [sAg,if_neg (fun e=>hq e.symm)]
  have hb:=l.hb
  refine ⟨by simp [cS_,l.box]; omega,⟨by rw [sAl]; exact l.dr.1,fun q hq hn=>by rw [hne q (by omega)]; exact l.dr.2 q hq hn⟩,l.d.frame fun q hq=>hne q (by omega),?_,by rw [hx]; exact l.s.frame fun q hq=>hne q (fun e=>l.m (e ▸ hq)),l.nd,l.w,l.m,hb⟩
  rw [sAg,if_pos rfl,l.box]
  simp only [Option.map_some,setL]
  rw [hv,hx]
theorem NB.app (l:NB h1 c ni H x b G) (hc:c<h1.length) (y:Int) (hl:x.blocks.length≤1000) :
    ∃ b' H' G',aappend Try.prog (H++[⟨true,true,3,[.int .i64 y]⟩]) 47 47 (.slice b x.blocks.length x.blocks.length) (.slice (some ⟨H.length,0,none⟩) 1 1)=some (.slice b' (x.blocks.length+1) (x.blocks.length+1),H') ∧
      cS_ H' ni 4 1=true∧NB h1 c ni (sA_ H' ni 4 [.slice b' (x.blocks.length+1) (x.blocks.length+1)]) { x with blocks:=x.blocks++[y] } b' G':=by
  obtain ⟨b',H',G',e1,e2,e3,e4,e5⟩:=(Own.any l.s l.nd).append1D (P:=Try.prog) y (cs:=[.int .i64 y]) rfl (st:=47) (xt:=47) (bt:=8) (z:=[.int .i64 0]) (by simp) (by simp) (by unfold big; omega) (by unfold big; omega)
  have hlb:=l.hb
  have hlt:=get_lt l.box
  have hd:=l.dr.1
  have hbox:H'[ni]?=some ⟨true,true,49,[.int .i64 x.kind,.int .i64 x.gen,.int .i64 x.time,.int .i64 x.size,.slice b x.blocks.length x.blocks.length]⟩:=by rw [e3 ni hlt l.m]; exact l.box
  have hm:ni ∉ G':=fun hq=>(e4 ni hq).elim l.m (fun h=>by omega)
  have hne:∀ q,q≠ni→(sA_ H' ni 4 [.slice b' (x.blocks.length+1) (x.blocks.length+1)])[q]?=H'[q]?:=fun q hq=>by rw [sAg,if_neg (fun e=>hq e.symm)]
  refine ⟨b',H',G',e1,by simp [cS_,hbox],⟨by rw [sAl]; omega,fun q hq hn=>?_⟩,?_,?_,?_,e2.nd,fun q hq=>(e4 q hq).elim (l.w q) (fun h=>by omega),hm,hlb⟩
  · rw [hne q (by omega),e3 q (by omega) (fun h=>by have:=l.w q h; omega)]
    exact l.dr.2 q hq hn
  · refine l.d.frame fun q hq=>?_
    rw [hne q (by omega),e3 q (by omega) (fun h=>by have:=l.w q h; omega)]
  · rw [sAg,if_pos rfl,hbox]
    simp [setL]
  · exact e2.sl.frame fun q hq=>hne q (fun e=>hm (e ▸ hq))
end
def NRes (h:Hp) (c:Nat) (h':Hp) (x:Node) (v:Value):Prop:=∃ b G,v=.agg #[.int .i64 x.kind,.int .i64 x.gen,.int .i64 x.time,.int .i64 x.size,.slice b x.blocks.length x.blocks.length]∧Dr c h h'∧Draw h' c∧slR true 3 intE h' x.blocks b G∧G.Nodup∧∀ q∈G,h.length≤q
theorem NB.out {h HA:Hp} {c ni:Nat} {x:Node} {b:Option Addr} {G:List Nat} {cs:List Value} (l:NB (h++[⟨true,true,49,cs⟩]) c ni HA x b G) (hc:c<h.length) (hcs:cs.length=5) (hr:HA[h.length]?=some ⟨true,true,49,cs⟩) :
    ∃ k0 k1 k2 k3 k4,cs=[k0,k1,k2,k3,k4]∧cS_ HA h.length 0 5=true∧(sA_ HA h.length 0 [.int .i64 x.kind,.int .i64 x.gen,.int .i64 x.time,.int .i64 x.size,.slice b x.blocks.length x.blocks.length])[h.length]?=some ⟨true,true,49,[.int .i64 x.kind,.int .i64 x.gen,.int .i64 x.time,.int .i64 x.size,.slice b x.blocks.length x.blocks.length]⟩ ∧
      NRes h c (sA_ HA h.length 0 [.int .i64 x.kind,.int .i64 x.gen,.int .i64 x.time,.int .i64 x.size,.slice b x.blocks.length x.blocks.length]) x (.agg #[.int .i64 x.kind,.int .i64 x.gen,.int .i64 x.time,.int .i64 x.size,.slice b x.blocks.length x.blocks.length]):=by
  obtain ⟨k0,k1,k2,k3,k4,rfl⟩:∃ k0 k1 k2 k3 k4,cs=[k0,k1,k2,k3,k4]:=by
    match cs,hcs with
    | [k0,k1,k2,k3,k4],_=>exact ⟨_,_,_,_,_,rfl⟩
  have hne:∀ q,q≠h.length→(sA_ HA h.length 0 [.int .i64 x.kind,.int .i64 x.gen,.int .i64 x.time,.int .i64 x.size,.slice b x.blocks.length x.blocks.length])[q]?=HA[q]?:=fun q hq=>by rw [sAg,if_neg (fun e=>hq e.symm)]
  have l1:=l.dr.1
  have hw:=l.w
  simp only [List.length_append,List.length_cons,List.length_nil] at l1 hw
  refine ⟨k0,k1,k2,k3,k4,rfl,by simp [cS_,hr],by rw [sAg,if_pos rfl,hr]; rfl,b,G,rfl,⟨by rw [sAl]; omega,fun q hq hn=>?_⟩,l.d.frame fun q hq=>hne q (by omega),l.s.frame fun q hq=>hne q (by have:=hw q hq; omega),l.nd,fun q hq=>by have:=hw q hq; omega⟩
  rw [hne q (by omega),l.dr.2 q (by simp; omega) hn,List.getElem?_append_left hq]
def NL (h1:Hp) (c ni:Nat) (H:Hp) (k ge ti sz:Int) (i:Nat):Prop:=∃ bs b G,NB h1 c ni H ⟨k,ge,ti,sz,bs⟩ b G∧bs.length=i
set_option maxHeartbeats 4000000 in
theorem l5Right_c (c:Nat) (h:Hp) (d:Draw h c) :
    ACall Try.prog 94 [.pointer (some ⟨c,0,none⟩)] h fun r h'=>∃ x:Node,NRes h c h' x r∧x.blocks.length≤5:=by
  refine acall mixed Try.func94 rfl (by kernel_rfl) ?_
  have hc:=d.lt
  simp [Try.f94]
  have z0:[Value.int .i64 0,.int .i64 0,.int .i64 0,.int .i64 0,.slice none 0 0].length=5:=rfl
  obtain ⟨h1,hh1⟩:∃ h1:Hp,h1=h++[⟨true,true,49,[.int .i64 0,.int .i64 0,.int .i64 0,.int .i64 0,.slice none 0 0]⟩]:=⟨_,rfl⟩
  have d1:Draw h1 c:=by rw [hh1]; exact d.ext (Ext.push _ _)
  have hl1:h1.length=h.length+1:=by rw [hh1]; simp
  have hc1:c<h1.length:=by omega
  have res1:h1[h.length]?=some ⟨true,true,49,[.int .i64 0,.int .i64 0,.int .i64 0,.int .i64 0,.slice none 0 0]⟩:=by rw [hh1]; simp
  rw [← hh1]
  refine cK (l1Below_c 4 c h1 d1) ?_
  rintro _ H1 ⟨dr1,d1',k,rfl,hk0,hk1,-⟩
  have resK:∀ {H':Hp},Dr c h1 H'→H'[h.length]?=some ⟨true,true,49,[.int .i64 0,.int .i64 0,.int .i64 0,.int .i64 0,.slice none 0 0]⟩:=fun {H'} x=>by rw [x.2 _ (by omega) (by omega)]; exact res1
  have hH1:=dr1.1
  have L:NB h1 c H1.length (H1++[⟨true,true,49,[.int .i64 k,.int .i64 0,.int .i64 0,.int .i64 0,.slice none 0 0]⟩]) ⟨k,0,0,0,[]⟩ none [] :=
    ⟨dr1.trans (Dr.of_ext (Ext.push _ _)),d1'.ext (Ext.push _ _),by simp,⟨rfl,rfl⟩,List.nodup_nil,by simp,by simp,hH1⟩
  simp
  obtain ⟨ni,hni⟩:∃ ni,ni=H1.length:=⟨_,rfl⟩
  generalize hHb:H1++[(⟨true,true,49,[.int .i64 k,.int .i64 0,.int .i64 0,.int .i64 0,.slice none 0 0]⟩:Ob)]=Hb at L ⊢
  rw [← hni] at L ⊢
  clear hHb
  refine aSI (fun h0=>?_) (fun h0=>?_) <;> simp at h0 <;> simp [h0]
  · subst h0
    obtain ⟨q0,q1,q2,q3,q4⟩:=L.cells
    simp only at q0 q1 q2 q3 q4
    rw [hh1] at L
    obtain ⟨_,_,_,_,_,_,o1,o2,o3⟩:=L.out hc rfl (resK (by rw [hh1]; exact L.dr))
    simp only [List.length_nil] at o2 o3 q4
    have o4:∀ j,cellAt (sA_ Hb h.length 0 [.int .i64 0,.int .i64 0,.int .i64 0,.int .i64 0,.slice none 0 0]) h.length j=([Value.int .i64 0,.int .i64 0,.int .i64 0,.int .i64 0,.slice none 0 0])[j]?:=fun j=>by simp [cellAt,o2]
    simp [q0,q1,q2,q3,q4,o1,o4]
    exact ⟨_,o3,by simp⟩
  refine cK (l1Below_c 81 c Hb L.d) ?_
  rintro _ H2 ⟨dr2,d2,z,rfl,hz0,hz1,-⟩
  have hz1:=hz1 (by omega)
  have L2:=L.step hc1 dr2 d2
  have hp:=pick_c [0,1,16,17,80,z] c H2 d2 (by simp) (by simp)
  simp only [List.map_cons,List.map_nil,List.length_cons,List.length_nil,Nat.zero_add,Nat.reduceAdd] at hp
  simp
  refine cK hp ?_
  rintro _ H3 ⟨dr3,d3,sz,hsz,rfl⟩
  have hsz':0≤sz∧sz≤80:=by simp at hsz; omega
  have L3:=L2.step hc1 dr3 d3
  obtain ⟨g4,L4⟩:=L3.set hc1 3 sz ⟨k,0,0,sz,[]⟩ (by omega) rfl (fun _=>rfl)
  obtain ⟨q0,-,-,-,-⟩:=L4.cells
  simp only at q0
  simp [g4,q0]
  generalize sA_ H3 ni 3 [Value.int IntKind.i64 sz]=H4 at L4 ⊢
  clear L L2 L3 dr1 dr2 dr3 d1' d2 d3 hp q0 g4
  have hbf:0≤blocksFor sz∧blocksFor sz≤5:=by
    unfold blocksFor
    split
    · omega
    · split <;> omega
  refine aSI (fun h2=>?_) (fun h2=>?_) <;> simp at h2 <;> simp [h2]
  · have hp:=pick_c [0,1,5,1000000] c H4 L4.d (by simp) (by simp)
    simp only [List.map_cons,List.map_nil,List.length_cons,List.length_nil,Nat.zero_add,Nat.reduceAdd] at hp
    refine cK hp ?_
    rintro _ H5 ⟨dr5,d5,ge,-,rfl⟩
    have L5:=L4.step hc1 dr5 d5
    obtain ⟨g5,L5⟩:=L5.set hc1 1 ge ⟨k,ge,0,sz,[]⟩ (by omega) rfl (fun _=>rfl)
    simp [g5]
    generalize sA_ H5 ni 1 [Value.int IntKind.i64 ge]=H5' at L5 ⊢
    have hp:=pick_c [0,7,100000] c H5' L5.d (by simp) (by simp)
    simp only [List.map_cons,List.map_nil,List.length_cons,List.length_nil,Nat.zero_add,Nat.reduceAdd] at hp
    refine cK hp ?_
    rintro _ H6 ⟨dr6,d6,ti,-,rfl⟩
    have L6:=L5.step hc1 dr6 d6
    obtain ⟨g6,L6⟩:=L6.set hc1 2 ti ⟨k,ge,ti,sz,[]⟩ (by omega) rfl (fun _=>rfl)
    simp [g6]
    generalize sA_ H6 ni 2 [Value.int IntKind.i64 ti]=H6' at L6 ⊢
    clear L4 L5 dr5 dr6 d5 d6 hp g5 g6
    refine cK (l1Below_c 30 c H6' L6.d) ?_
    rintro _ H7 ⟨dr7,d7,fr,rfl,hf0,hf1,-⟩
    have hf1:=hf1 (by omega)
    have L7:=L6.step hc1 dr7 d7
    simp
    refine aloop mixed [0,2,3,4,5] (fun (y:Nat × Hp)=>[.pointer (some ⟨c,0,none⟩),.pointer (some ⟨h.length,0,none⟩),.pointer (some ⟨ni,0,none⟩),.int .i64 fr,.int .i64 y.1]) (fun y=>y.2)
      (fun y=>(y.1:Int)≤blocksFor sz∧NL h1 c ni y.2 k ge ti sz y.1) (fun y=>(blocksFor sz - y.1).toNat) (0,H7) ⟨hbf.1,[],none,[],L7,rfl⟩ rfl rfl ?_
    rintro ⟨i,H⟩ ⟨hi,bs,b,G,LH,hbl⟩
    simp only at hi LH hbl
    obtain ⟨q0,q1,q2,q3,q4⟩:=LH.cells
    simp only at q0 q1 q2 q3 q4
    simp [mkF,q3]
    refine cK (blocksFor_spec_c sz _) ?_
    rintro _ H ⟨rfl,rfl⟩
    simp
    refine aSI (fun hb=>?_) (fun hb=>?_) <;> simp at hb <;> simp [hb]
    · obtain ⟨b',H',G',e1,e2,e3⟩:=LH.app hc1 (IntKind.i64.wrap (fr+i)) (by simp only; omega)
      simp only at e1 e2 e3
      simp [q4,e1,e2]
      exact anext (i+1,_) ⟨by simp only; omega,_,b',G',e3,by simp [hbl]⟩ (by simp only; omega) (by simp [pickF,wS (show i<9223372036854775807 by omega)]) rfl (by simp)
    · rw [hh1] at LH
      obtain ⟨_,_,_,_,_,_,o1,o2,o3⟩:=LH.out hc rfl (resK (by rw [hh1]; exact LH.dr))
      simp only at o1 o2 o3
      have o4:∀ j,cellAt (sA_ H h.length 0 [.int .i64 k,.int .i64 ge,.int .i64 ti,.int .i64 sz,.slice b bs.length bs.length]) h.length j=([Value.int .i64 k,.int .i64 ge,.int .i64 ti,.int .i64 sz,.slice b bs.length bs.length])[j]?:=fun j=>by simp [cellAt,o2]
      simp [q0,q1,q2,q3,q4,o1,o4]
      exact ⟨_,o3,by simp only; omega⟩
  · refine cK (l1Below_c 30 c H4 L4.d) ?_
    rintro _ H7 ⟨dr7,d7,fr,rfl,hf0,hf1,-⟩
    have hf1:=hf1 (by omega)
    have L7:=L4.step hc1 dr7 d7
    simp
    refine aloop mixed [0,2,3,4,5] (fun (y:Nat × Hp)=>[.pointer (some ⟨c,0,none⟩),.pointer (some ⟨h.length,0,none⟩),.pointer (some ⟨ni,0,none⟩),.int .i64 fr,.int .i64 y.1]) (fun y=>y.2)
      (fun y=>(y.1:Int)≤blocksFor sz∧NL h1 c ni y.2 k 0 0 sz y.1) (fun y=>(blocksFor sz - y.1).toNat) (0,H7) ⟨hbf.1,[],none,[],L7,rfl⟩ rfl rfl ?_
    rintro ⟨i,H⟩ ⟨hi,bs,b,G,LH,hbl⟩
    simp only at hi LH hbl
    obtain ⟨q0,q1,q2,q3,q4⟩:=LH.cells
    simp only at q0 q1 q2 q3 q4
    simp [mkF,q3]
    refine cK (blocksFor_spec_c sz _) ?_
    rintro _ H ⟨rfl,rfl⟩
    simp
    refine aSI (fun hb=>?_) (fun hb=>?_) <;> simp at hb <;> simp [hb]
    · obtain ⟨b',H',G',e1,e2,e3⟩:=LH.app hc1 (IntKind.i64.wrap (fr+i)) (by simp only; omega)
      simp only at e1 e2 e3
      simp [q4,e1,e2]
      exact anext (i+1,_) ⟨by simp only; omega,_,b',G',e3,by simp [hbl]⟩ (by simp only; omega) (by simp [pickF,wS (show i<9223372036854775807 by omega)]) rfl (by simp)
    · rw [hh1] at LH
      obtain ⟨_,_,_,_,_,_,o1,o2,o3⟩:=LH.out hc rfl (resK (by rw [hh1]; exact LH.dr))
      simp only at o1 o2 o3
      have o4:∀ j,cellAt (sA_ H h.length 0 [.int .i64 k,.int .i64 0,.int .i64 0,.int .i64 sz,.slice b bs.length bs.length]) h.length j=([Value.int .i64 k,.int .i64 0,.int .i64 0,.int .i64 sz,.slice b bs.length bs.length])[j]?:=fun j=>by simp [cellAt,o2]
      simp [q0,q1,q2,q3,q4,o1,o4]
      exact ⟨_,o3,by simp only; omega⟩
set_option maxHeartbeats 4000000 in
theorem l5Draw_c (c:Nat) (h:Hp) (d:Draw h c) :
    ACall Try.prog 66 [.pointer (some ⟨c,0,none⟩)] h fun r h'=>∃ x:Node,NRes h c h' x r∧x.blocks.length≤6:=by
  refine acall mixed Try.func66 rfl (by kernel_rfl) ?_
  have hc:=d.lt
  simp [Try.f66]
  obtain ⟨h1,hh1⟩:∃ h1:Hp,h1=h++[⟨true,true,49,[.int .i64 0,.int .i64 0,.int .i64 0,.int .i64 0,.slice none 0 0]⟩]:=⟨_,rfl⟩
  have d1:Draw h1 c:=by rw [hh1]; exact d.ext (Ext.push _ _)
  have hl1:h1.length=h.length+1:=by rw [hh1]; simp
  have hc1:c<h1.length:=by omega
  have res1:h1[h.length]?=some ⟨true,true,49,[.int .i64 0,.int .i64 0,.int .i64 0,.int .i64 0,.slice none 0 0]⟩:=by rw [hh1]; simp
  rw [← hh1]
  have resK:∀ {H':Hp},Dr c h1 H'→H'[h.length]?=some ⟨true,true,49,[.int .i64 0,.int .i64 0,.int .i64 0,.int .i64 0,.slice none 0 0]⟩:=fun {H'} x=>by rw [x.2 _ (by omega) (by omega)]; exact res1
  refine cK (l5Right_c c h1 d1) ?_
  rintro _ H1 ⟨x,⟨b,G,rfl,dr1,d1',s,nd,w⟩,hbl⟩
  have hH1:=dr1.1
  simp
  have L:NB h1 c H1.length (H1++[⟨true,true,49,[.int .i64 x.kind,.int .i64 x.gen,.int .i64 x.time,.int .i64 x.size,.slice b x.blocks.length x.blocks.length]⟩]) x b G :=
    ⟨dr1.trans (Dr.of_ext (Ext.push _ _)),d1'.ext (Ext.push _ _),by simp,s.ext (Ext.push _ _),nd,w,fun hm=>by have:=s.lt _ hm; omega,hH1⟩
  obtain ⟨ni,hni⟩:∃ ni,ni=H1.length:=⟨_,rfl⟩
  generalize hHb:H1++[(⟨true,true,49,[.int .i64 x.kind,.int .i64 x.gen,.int .i64 x.time,.int .i64 x.size,.slice b x.blocks.length x.blocks.length]⟩:Ob)]=Hb at L ⊢
  rw [← hni] at L ⊢
  clear hHb
  refine cK (l1Below_c 14 c Hb L.d) ?_
  rintro _ H2 ⟨dr2,d2,z,rfl,hz0,hz1,-⟩
  have L2:=L.step hc1 dr2 d2
  clear L dr2 d2 dr1 d1' s nd w
  obtain ⟨q0,q1,q2,q3,q4⟩:=L2.cells
  have fin0:∀ (HA:Hp) (y:Node) (b:Option Addr) (G:List Nat),NB h1 c ni HA y b G→y.blocks.length≤6 →
      cS_ HA h.length 0 5=true∧(∀ j,cellAt HA ni j=([Value.int .i64 y.kind,.int .i64 y.gen,.int .i64 y.time,.int .i64 y.size,.slice b y.blocks.length y.blocks.length])[j]?) ∧
      (∀ j,cellAt (sA_ HA h.length 0 [.int .i64 y.kind,.int .i64 y.gen,.int .i64 y.time,.int .i64 y.size,.slice b y.blocks.length y.blocks.length]) h.length j=([Value.int .i64 y.kind,.int .i64 y.gen,.int .i64 y.time,.int .i64 y.size,.slice b y.blocks.length y.blocks.length])[j]?) ∧
      ∃ x,NRes h c (sA_ HA h.length 0 [.int .i64 y.kind,.int .i64 y.gen,.int .i64 y.time,.int .i64 y.size,.slice b y.blocks.length y.blocks.length]) x (.agg #[.int .i64 y.kind,.int .i64 y.gen,.int .i64 y.time,.int .i64 y.size,.slice b y.blocks.length y.blocks.length])∧x.blocks.length≤6:=by
    intro HA y b G LA hy
    have hr:=resK LA.dr
    have hbx:=LA.box
    rw [hh1] at LA
    obtain ⟨_,_,_,_,_,_,o1,o2,o3⟩:=LA.out hc rfl hr
    exact ⟨o1,fun j=>by simp [cellAt,hbx],fun j=>by simp [cellAt,o2],y,o3,hy⟩
  simp
  refine aSI (fun h0=>?_) (fun h0=>?_) <;> simp at h0 <;> simp [h0]
  · have hp:=pick_c [-1,4,2] c H2 L2.d (by simp) (by simp)
    simp only [List.map_cons,List.map_nil,List.length_cons,List.length_nil,Nat.zero_add,Nat.reduceAdd] at hp
    refine cK hp ?_
    rintro _ H3 ⟨dr3,d3,v,-,rfl⟩
    have L3:=L2.step hc1 dr3 d3
    obtain ⟨g4,L4⟩:=L3.set hc1 0 v ⟨v,x.gen,x.time,x.size,x.blocks⟩ (by omega) rfl (fun _=>rfl)
    obtain ⟨o1,o2,o3,o4⟩:=fin0 _ _ _ _ L4 (by simp only; omega)
    simp only at o1 o2 o3 o4
    simp [g4,o1,o2,o3]
    exact o4
  refine aSI (fun h1'=>?_) (fun h1'=>?_) <;> simp at h1' <;> simp [h1']
  · have hp:=pick_c [-1,1000001,3] c H2 L2.d (by simp) (by simp)
    simp only [List.map_cons,List.map_nil,List.length_cons,List.length_nil,Nat.zero_add,Nat.reduceAdd] at hp
    refine cK hp ?_
    rintro _ H3 ⟨dr3,d3,v,-,rfl⟩
    have L3:=L2.step hc1 dr3 d3
    obtain ⟨g4,L4⟩:=L3.set hc1 1 v ⟨x.kind,v,x.time,x.size,x.blocks⟩ (by omega) rfl (fun _=>rfl)
    obtain ⟨o1,o2,o3,o4⟩:=fin0 _ _ _ _ L4 (by simp only; omega)
    simp only at o1 o2 o3 o4
    simp [g4,o1,o2,o3]
    exact o4
  refine aSI (fun h2'=>?_) (fun h2'=>?_) <;> simp at h2' <;> simp [h2']
  · have hp:=pick_c [-1,100001] c H2 L2.d (by simp) (by simp)
    simp only [List.map_cons,List.map_nil,List.length_cons,List.length_nil,Nat.zero_add,Nat.reduceAdd] at hp
    refine cK hp ?_
    rintro _ H3 ⟨dr3,d3,v,-,rfl⟩
    have L3:=L2.step hc1 dr3 d3
    obtain ⟨g4,L4⟩:=L3.set hc1 2 v ⟨x.kind,x.gen,v,x.size,x.blocks⟩ (by omega) rfl (fun _=>rfl)
    obtain ⟨o1,o2,o3,o4⟩:=fin0 _ _ _ _ L4 (by simp only; omega)
    simp only at o1 o2 o3 o4
    simp [g4,o1,o2,o3]
    exact o4
  refine aSI (fun h3'=>?_) (fun h3'=>?_) <;> simp at h3' <;> simp [h3']
  · simp [q3]
    have hp:=pick_c [-1,81,IntKind.i64.wrap (x.size+16)] c H2 L2.d (by simp) (by simp)
    simp only [List.map_cons,List.map_nil,List.length_cons,List.length_nil,Nat.zero_add,Nat.reduceAdd] at hp
    refine cK hp ?_
    rintro _ H3 ⟨dr3,d3,v,-,rfl⟩
    have L3:=L2.step hc1 dr3 d3
    obtain ⟨g4,L4⟩:=L3.set hc1 3 v ⟨x.kind,x.gen,x.time,v,x.blocks⟩ (by omega) rfl (fun _=>rfl)
    obtain ⟨o1,o2,o3,o4⟩:=fin0 _ _ _ _ L4 (by simp only; omega)
    simp only at o1 o2 o3 o4
    simp [g4,o1,o2,o3]
    exact o4
  refine aSI (fun h4'=>?_) (fun h4'=>?_) <;> simp at h4' <;> simp [h4']
  · refine drawLA false [2,3,4,5] [0,1] [6,7,8] (by simp; rfl) (by simp; rfl) (by simp; rfl) (by kernel_rfl) rfl ?_
    have qq4:∀ l,cellAt (H2++l) ni 4=some (.slice b x.blocks.length x.blocks.length):=fun l=>cell_up (Ext.push H2 l) q4
    simp [q4,qq4]
    have hp:=pick_c [0,36,-1] c H2 L2.d (by simp) (by simp)
    simp only [List.map_cons,List.map_nil,List.length_cons,List.length_nil,Nat.zero_add,Nat.reduceAdd] at hp
    refine cK hp ?_
    rintro _ H3 ⟨dr3,d3,v,-,rfl⟩
    have L3:=L2.step hc1 dr3 d3
    obtain ⟨-,-,-,-,r4⟩:=L3.cells
    have rr4:∀ l,cellAt (H3++l) ni 4=some (.slice b x.blocks.length x.blocks.length):=fun l=>cell_up (Ext.push H3 l) r4
    obtain ⟨b',H',G',e1,e2,e3⟩:=L3.app hc1 v (by omega)
    obtain ⟨o1,o2,o3,o4⟩:=fin0 _ _ _ _ e3 (by simp; omega)
    simp only [List.length_append,List.length_cons,List.length_nil,Nat.zero_add] at o1 o2 o3 o4
    simp [r4,rr4,e1,e2,o1,o2,o3]
    exact o4
  refine aSI (fun h5'=>?_) (fun h5'=>?_) <;> simp at h5' <;> simp [h5']
  · simp [q4]
    refine aSI (fun h6=>?_) (fun h6=>?_) <;> simp at h6 <;> simp [h6]
    · have h6':1<x.blocks.length:=by omega
      obtain ⟨o,off,rfl,cu⟩:=intEAt L2.s h6'
      have hpos:0<x.blocks.length:=by omega
      obtain ⟨hcan,F2,o2⟩:=(Own.any L2.s L2.nd).putFlat (i:=0) hpos x.blocks[1] 0 [.int .i64 x.blocks[1]] (by simp) (by simp)
      have eF:=(Own.any L2.s L2.nd).flatF
      have eF2:=o2.flatF
      subst eF
      subst eF2
      simp at hcan o2 cu
      refine drawK true (by kernel_rfl) ?_
      simp [q4,h6',hpos,cu,hcan]
      have hno:=L2.w o (by simp)
      have hm:=L2.m
      simp at hm
      have hfr:∀ q,q≠o→(sA_ H2 o off [.int .i64 x.blocks[1]])[q]?=H2[q]?:=fun q hq=>by rw [sAg,if_neg (fun e=>hq e.symm)]
      have L4:NB h1 c ni (sA_ H2 o off [.int .i64 x.blocks[1]]) ⟨x.kind,x.gen,x.time,x.size,x.blocks.set 0 x.blocks[1]⟩ (some ⟨o,off,none⟩) [o] :=
        ⟨⟨by rw [sAl]; exact L2.dr.1,fun q hq hn=>by rw [hfr q (by omega)]; exact L2.dr.2 q hq hn⟩,L2.d.frame fun q hq=>hfr q (by omega),by rw [hfr ni hm]; simpa using L2.box,o2.sl,o2.nd,L2.w,L2.m,L2.hb⟩
      obtain ⟨o1,o2,o3,o4⟩:=fin0 _ _ _ _ L4 (by simp; omega)
      simp only [List.length_set] at o1 o2 o3 o4
      simp [o1,o2,o3]
      exact ⟨by omega,o4⟩
    · obtain ⟨o1,o2,o3,o4⟩:=fin0 _ _ _ _ L2 (by omega)
      simp [o1,o2,o3]
      exact o4
  · obtain ⟨o1,o2,o3,o4⟩:=fin0 _ _ _ _ L2 (by omega)
    simp [o1,o2,o3]
    exact o4
structure DRd (h:Hp) (c:Nat) (H:Hp) (f:Fs) (b1 b2:Option Addr) (G1 G2:List Nat):Prop where
  dr:Dr c h H
  d:Draw H c
  s1:slR true 49 (nodeE true) H f.nodes b1 G1
  s2:slR true 9 strE H f.data b2 G2
  w1:∀ q∈G1,h.length≤q
  w2:∀ q∈G2,h.length≤q
section
variable {h H H2:Hp} {c:Nat} {f g:Fs} {b1 b2:Option Addr} {G1 G2:List Nat}
theorem DRd.step (k:DRd h c H f b1 b2 G1 G2) (hc:c<h.length) (x:Dr c H H2) (d:Draw H2 c):DRd h c H2 f b1 b2 G1 G2 :=
  ⟨k.dr.trans x,d,x.sl k.s1 (fun hm=>by have:=k.w1 _ hm; omega),x.sl k.s2 (fun hm=>by have:=k.w2 _ hm; omega),k.w1,k.w2⟩
theorem DFs.rd (k:DFs h c H f b1 b2 G1 G2):DRd h c H f b1 b2 G1 G2:=⟨k.dr,k.d,k.s1,k.s2,k.w1,k.w2⟩
end
def FD (h:Hp) (c:Nat) (h':Hp) (f:Fs) (r:Value):Prop:=∃ b1 b2 G1 G2,r=.agg #[.slice b1 f.nodes.length f.nodes.length,.slice b2 f.data.length f.data.length]∧DRd h c h' f b1 b2 G1 G2
section
variable {h1 H:Hp} {c bi:Nat} {f:Fs} {b2:Option Addr} {G1 G2:List Nat} {o off:Nat}
theorem LR.done (l:LR h1 c bi H f (some ⟨o,off,none⟩) b2 G1 G2) (hc:c<h1.length) {oo p:Nat} {vs:List Value} {ns:List Node} {F':List Nat} (ho:oo∈G1) (s:slR true 49 (nodeE true) (sA_ H oo p vs) ns (some ⟨o,off,none⟩) F') (hF:∀ q∈F',h1.length≤q) :
    DRd h1 c (sA_ H oo p vs) ⟨ns,f.data⟩ (some ⟨o,off,none⟩) b2 F' G2∧(sA_ H oo p vs)[bi]?=some ⟨true,true,26,[.slice (some ⟨o,off,none⟩) f.nodes.length f.nodes.length,.slice b2 f.data.length f.data.length]⟩:=by
  have h2:=l.k.w1 oo ho
  have hne:∀ q,q≠oo→(sA_ H oo p vs)[q]?=H[q]?:=fun q hq=>by rw [sAg,if_neg (fun e=>hq e.symm)]
  refine ⟨⟨⟨by rw [sAl]; exact l.k.dr.1,fun q hq hn=>by rw [hne q (by omega)]; exact l.k.dr.2 q hq hn⟩,l.k.d.frame fun q hq=>hne q (by omega),s,l.k.s2.frame fun q hq=>hne q (fun e=>l.k.dj oo ho (e ▸ hq)),hF,l.k.w2⟩,?_⟩
  rw [hne bi (fun e=>l.m1 (e ▸ ho))]
  exact l.box
end
theorem relV_fs {φ:Inj} {a1 a2:Option Addr} {n c m:Nat} {v:Value} (hc:n≤c) (r:RelV φ (.agg #[.slice a1 n c,.slice a2 m m]) v):RelV φ (.agg #[.slice a1 n n,.slice a2 m m]) v:=by
  obtain ⟨cs,e,k⟩:=r
  refine ⟨cs,e,?_⟩
  obtain ⟨u1,l,e1,r1,k⟩:=All2.cons_iff.1 k
  rw [e1]
  exact ⟨relV_cap hc r1,k⟩
theorem nl_set (f:Fs) (i:Nat) (hi:i<f.nodes.length) (x:Node):(⟨f.nodes.set i x,f.data⟩:Fs).nl+f.nodes[i].nl=f.nl+x.nl:=by
  have:=sumL_set Node.nl f.nodes i hi x
  simp only [Fs.nl,List.length_set]
  omega
set_option maxHeartbeats 8000000 in
theorem l6DrawC_c (c:Nat) (h:Hp) (d:Draw h c) :
    ACall Try.prog 38 [.pointer (some ⟨c,0,none⟩)] h fun r h'=>∃ (f:Fs) (b1 b2:Option Addr) (G1 G2:List Nat) (cp:Nat),r=.agg #[.slice b1 f.nodes.length cp,.slice b2 f.data.length f.data.length]∧f.nodes.length≤cp∧DRd h c h' f b1 b2 G1 G2∧f.nl≤2000∧1≤f.nodes.length∧f.nodes.length≤10∧1≤f.data.length∧f.data.length≤36:=by
  refine acall mixed Try.func38 rfl (by kernel_rfl) ?_
  have hc:=d.lt
  simp [Try.f38]
  obtain ⟨h1,hh1⟩:∃ h1:Hp,h1=h++[⟨true,true,26,[.slice none 0 0,.slice none 0 0]⟩]:=⟨_,rfl⟩
  have d1:Draw h1 c:=by rw [hh1]; exact d.ext (Ext.push _ _)
  have hl1:h1.length=h.length+1:=by rw [hh1]; simp
  have hc1:c<h1.length:=by omega
  have res1:h1[h.length]?=some ⟨true,true,26,[.slice none 0 0,.slice none 0 0]⟩:=by rw [hh1]; simp
  have x1:Ext h h1:=by rw [hh1]; exact Ext.push _ _
  rw [← hh1]
  refine cK (l11Right_c c h1 d1) ?_
  rintro _ H1 ⟨f,b1,b2,G1,G2,rfl,k1,nl,n2,n10,m1,m36⟩
  have hH1:=k1.dr.1
  simp
  have L:LR h1 c H1.length (H1++[⟨true,true,26,[.slice b1 f.nodes.length f.nodes.length,.slice b2 f.data.length f.data.length]⟩]) f b1 b2 G1 G2 :=
    ⟨k1.step hc1 (Dr.of_ext (Ext.push _ _)) (k1.d.ext (Ext.push _ _)),by simp,fun hm=>by have:=k1.s1.lt _ hm; omega,fun hm=>by have:=k1.s2.lt _ hm; omega,hH1⟩
  obtain ⟨bi,hbi⟩:∃ bi,bi=H1.length:=⟨_,rfl⟩
  generalize hHb:H1++[(⟨true,true,26,[.slice b1 f.nodes.length f.nodes.length,.slice b2 f.data.length f.data.length]⟩:Ob)]=Hb at L ⊢
  rw [← hbi] at L ⊢
  clear hHb k1
  obtain ⟨p0,p1⟩:=L.cells
  refine cK (l1Below_c f.nodes.length c Hb L.k.d) ?_
  rintro _ H2 ⟨dr2,d2,z,rfl,hz0,hz1,-⟩
  have hz1:=hz1 (by omega)
  obtain ⟨i,rfl⟩:∃ i:Nat,z=i:=⟨z.toNat,by omega⟩
  have hi:i<f.nodes.length:=by omega
  have L2:=L.step hc1 dr2 d2
  try simp
  refine cK (l1Below_c 16 c H2 L2.k.d) ?_
  rintro _ H3 ⟨dr3,d3,k,rfl,-,-,-⟩
  have L3:=L2.step hc1 dr3 d3
  clear L L2 dr2 d2 dr3 d3 p0 p1 hz0 hz1
  obtain ⟨q0,q1⟩:=L3.cells
  have hlb:=L3.hb
  have lt3:=L3.k.s1.lt
  have l13:=L3.k.dr.1
  have out:∀ (HA:Hp) (g:Fs) (c1 c2:Option Addr) (K1 K2:List Nat) (cp:Nat),DRd h1 c HA g c1 c2 K1 K2→HA[bi]?=some ⟨true,true,26,[.slice c1 g.nodes.length cp,.slice c2 g.data.length g.data.length]⟩→g.nodes.length≤cp→g.nl≤2000→1≤g.nodes.length∧g.nodes.length≤10∧1≤g.data.length∧g.data.length≤36 →
      (∀ j,cellAt HA bi j=([Value.slice c1 g.nodes.length cp,.slice c2 g.data.length g.data.length])[j]?)∧cS_ HA h.length 0 2=true∧(∀ j,cellAt (sA_ HA h.length 0 [.slice c1 g.nodes.length cp,.slice c2 g.data.length g.data.length]) h.length j=([Value.slice c1 g.nodes.length cp,.slice c2 g.data.length g.data.length])[j]?) ∧
      ∃ (f:Fs) (b1 b2:Option Addr) (G1 G2:List Nat) (cp':Nat),Value.agg #[.slice c1 g.nodes.length cp,.slice c2 g.data.length g.data.length]=.agg #[.slice b1 f.nodes.length cp',.slice b2 f.data.length f.data.length]∧f.nodes.length≤cp'∧DRd h c (sA_ HA h.length 0 [.slice c1 g.nodes.length cp,.slice c2 g.data.length g.data.length]) f b1 b2 G1 G2∧f.nl≤2000∧1≤f.nodes.length∧f.nodes.length≤10∧1≤f.data.length∧f.data.length≤36:=by
    intro HA g c1 c2 K1 K2 cp kA bx hcp gnl gl
    have hr:HA[h.length]?=some ⟨true,true,26,[.slice none 0 0,.slice none 0 0]⟩:=by rw [kA.dr.2 _ (by omega) (by omega)]; exact res1
    have hne:∀ q,q≠h.length→(sA_ HA h.length 0 [.slice c1 g.nodes.length cp,.slice c2 g.data.length g.data.length])[q]?=HA[q]?:=fun q hq=>by rw [sAg,if_neg (fun e=>hq e.symm)]
    have hself:(sA_ HA h.length 0 [.slice c1 g.nodes.length cp,.slice c2 g.data.length g.data.length])[h.length]?=some ⟨true,true,26,[.slice c1 g.nodes.length cp,.slice c2 g.data.length g.data.length]⟩:=by rw [sAg,if_pos rfl,hr]; rfl
    exact ⟨fun j=>by simp [cellAt,bx],by simp [cS_,hr],fun j=>by simp [cellAt,hself],g,c1,c2,K1,K2,cp,rfl,hcp,⟨⟨by rw [sAl]; have:=kA.dr.1; omega,fun q hq hn=>by rw [hne q (by omega),kA.dr.2 q (by omega) hn]; exact x1.2 q hq⟩,kA.d.frame fun q hq=>hne q (by omega),kA.s1.frame fun q hq=>hne q (by have:=kA.w1 q hq; omega),kA.s2.frame fun q hq=>hne q (by have:=kA.w2 q hq; omega),fun q hq=>by have:=kA.w1 q hq; omega,fun q hq=>by have:=kA.w2 q hq; omega⟩,gnl,gl⟩
  simp
  refine aSI (fun h0=>?_) (fun h0=>?_) <;> simp at h0 <;> simp [h0]
  · refine drawLA false [2,3,4] [0,1] [5,6] (by simp; rfl) (by simp; rfl) (by simp; rfl) (by kernel_rfl) rfl ?_
    simp [q0]
    refine cK (l5Draw_c c H3 L3.k.d) ?_
    rintro _ H4 ⟨x,⟨bx,Gx,rfl,dr4,d4,sx,ndx,wx⟩,hxl⟩
    have L4:=L3.step hc1 dr4 d4
    have hH4:=dr4.1
    clear L3 q0 q1 dr4
    obtain ⟨r0,r1⟩:=L4.cells
    obtain ⟨o,off,bb,Gb,rfl,-⟩:=nodeAt L4.k.s1 hi
    have hlo:o∈G1:=slR_some_mem L4.k.s1
    have hlH4:=L4.k.s1.lt
    obtain ⟨cc,Fi,hR,hFi,-,hput⟩:=(Own.any L4.k.s1 L4.k.n1).put (List.getElem?_eq_getElem hi)
    have hcl:=(nodeE true).len hR
    have hlt3:∀ q∈G1,q<H3.length:=lt3
    obtain ⟨g1,F',ow,-,g4⟩:=hput 0 [.int .i64 x.kind,.int .i64 x.gen,.int .i64 x.time,.int .i64 x.size,.slice bx x.blocks.length x.blocks.length] x Gx (by show 0+5≤5; omega) (by
      have:setL cc 0 [.int .i64 x.kind,.int .i64 x.gen,.int .i64 x.time,.int .i64 x.size,.slice bx x.blocks.length x.blocks.length]=[.int .i64 x.kind,.int .i64 x.gen,.int .i64 x.time,.int .i64 x.size,.slice bx x.blocks.length x.blocks.length]:=setL_all _ _ (by rw [hcl]; rfl)
      rw [this]
      exact ⟨bx,Gx,rfl,rfl,sx⟩) (fun hm=>by have h2:=hlt3 o hlo; have:=wx _ hm; omega) ndx (fun q hq=>⟨Nat.zero_le _,fun hq1=>by have h2:=hlt3 q hq1; have:=wx _ hq; omega⟩)
    have hn5:(nodeE true).n=5:=rfl
    simp only [hn5,Nat.add_zero,List.length_cons,List.length_nil] at g1 ow
    obtain ⟨kA,bA⟩:=L4.done hc1 hlo ow.sl (fun q hq=>(g4 q hq).elim (L4.k.w1 q) (fun h2=>by have:=wx q h2; have:=L4.k.dr.1; omega))
    have hnl2:=nl_set f i hi x
    simp [r0,hi,g1]
    obtain ⟨z1,z2,z3,z4⟩:=out _ ⟨f.nodes.set i x,f.data⟩ _ _ _ _ f.nodes.length kA (by rw [bA]; simp) (by simp) (by have e5:x.nl=x.blocks.length:=rfl; omega) (by simp; omega)
    simp at z1 z2 z3 z4
    simp [z1,z2,z3]
    exact z4
  refine aSI (fun h0=>?_) (fun h0=>?_) <;> simp at h0 <;> simp [h0]
  · refine drawLA false [2,3,4,5,6] [0,1] [7,8] (by simp; rfl) (by simp; rfl) (by simp; rfl) (by kernel_rfl) rfl ?_
    simp [q1]
    refine cK (l1Below_c f.data.length c H3 L3.k.d) ?_
    rintro _ H4 ⟨dr4,d4,z,rfl,hz0,hz1,-⟩
    have hz1:=hz1 (by omega)
    obtain ⟨m,rfl⟩:∃ m:Nat,z=m:=⟨z.toNat,by omega⟩
    have hm:m<f.data.length:=by omega
    have L4:=L3.step hc1 dr4 d4
    obtain ⟨r0,r1⟩:=L4.cells
    obtain ⟨o,off,rfl,-⟩:=strEAt L4.k.s2 hm
    have od:=Own.any L4.k.s2 L4.k.n2
    have hG2:G2=[o]:=od.flatF
    obtain ⟨g1,F',ow⟩:=od.putFlat hm [120] 0 [.string (S [120])] (by show 0+1≤1; omega) (by simp [setL])
    have hF':F'=[o]:=ow.flatF
    simp only [Nat.add_zero,Nat.mul_one,List.length_cons,List.length_nil] at g1 ow
    have ho2:o∈G2:=by rw [hG2]; simp
    have h2:=L4.k.w2 o ho2
    have hne:∀ q,q≠o→(sA_ H4 o (off+m) [.string (S [120])])[q]?=H4[q]?:=fun q hq=>by rw [sAg,if_neg (fun e=>hq e.symm)]
    have kA:DRd h1 c (sA_ H4 o (off+m) [.string (S [120])]) ⟨f.nodes,f.data.set m [120]⟩ b1 (some ⟨o,off,none⟩) G1 F' :=
      ⟨⟨by rw [sAl]; exact L4.k.dr.1,fun q hq hn=>by rw [hne q (by omega)]; exact L4.k.dr.2 q hq hn⟩,L4.k.d.frame fun q hq=>hne q (by omega),L4.k.s1.frame fun q hq=>hne q (fun e=>L4.k.dj o (e ▸ hq) ho2),ow.sl,L4.k.w1,fun q hq=>by rw [hF'] at hq; simp at hq; omega⟩
    have bA:(sA_ H4 o (off+m) [.string (S [120])])[bi]?=some ⟨true,true,26,[.slice b1 f.nodes.length f.nodes.length,.slice (some ⟨o,off,none⟩) f.data.length f.data.length]⟩:=by
      rw [hne bi (fun e=>L4.m2 (e ▸ ho2))]; exact L4.box
    have hsum:=sumL_set List.length f.data m hm [120]
    have e5:f.nl=f.nodes.length+sumL Node.nl f.nodes+f.data.length+sumL List.length f.data:=rfl
    have e6:(⟨f.nodes,f.data.set m [120]⟩:Fs).nl=f.nodes.length+sumL Node.nl f.nodes+(f.data.set m [120]).length+sumL List.length (f.data.set m [120]):=rfl
    simp [r1,hm,g1]
    obtain ⟨z1,z2,z3,z4⟩:=out _ ⟨f.nodes,f.data.set m [120]⟩ _ _ _ _ f.nodes.length kA (by rw [bA]; simp) (by simp) (by rw [e6]; simp at hsum ⊢; omega) (by simp; omega)
    simp at z1 z2 z3 z4
    simp [z1,z2,z3]
    exact z4
  refine aSI (fun h0=>?_) (fun h0=>?_) <;> simp at h0 <;> simp [h0]
  · have hn0:0<f.nodes.length:=by omega
    obtain ⟨o,off,bb,Gb,rfl,-⟩:=nodeAt L3.k.s1 hn0
    have hel:elAt H3 o=some 49:=by
      obtain ⟨_,ob,css,Fs,pre,post,e1,e2,e3,e4,-⟩:=L3.k.s1
      simp only at e1
      simp [elAt,e1,e2,e4]
    obtain ⟨F',sp,hF'⟩:=L3.k.s1.part 0 1 (by omega) (by omega)
    simp only [Nat.zero_mul,Nat.add_zero,List.drop_zero] at sp
    have hne:∀ q,q≠bi→(sA_ H3 bi 0 [.slice (some ⟨o,off,none⟩) 1 f.nodes.length])[q]?=H3[q]?:=fun q hq=>by rw [sAg,if_neg (fun e=>hq e.symm)]
    have kA:DRd h1 c (sA_ H3 bi 0 [.slice (some ⟨o,off,none⟩) 1 f.nodes.length]) ⟨f.nodes.take 1,f.data⟩ (some ⟨o,off,none⟩) b2 F' G2 :=
      ⟨⟨by rw [sAl]; exact L3.k.dr.1,fun q hq hn=>by rw [hne q (by omega)]; exact L3.k.dr.2 q hq hn⟩,L3.k.d.frame fun q hq=>hne q (by omega),sp.frame fun q hq=>hne q (fun e=>L3.m1 (e ▸ hF' q hq)),L3.k.s2.frame fun q hq=>hne q (fun e=>L3.m2 (e ▸ hq)),fun q hq=>L3.k.w1 q (hF' q hq),L3.k.w2⟩
    have bA:(sA_ H3 bi 0 [.slice (some ⟨o,off,none⟩) 1 f.nodes.length])[bi]?=some ⟨true,true,26,[.slice (some ⟨o,off,none⟩) 1 f.nodes.length,.slice b2 f.data.length f.data.length]⟩:=by
      rw [sAg,if_pos rfl,L3.box]; rfl
    have hcs:cS_ H3 bi 0 1=true:=by simp [cS_,L3.box]
    have hs:=sumL_take_le Node.nl f.nodes 1
    have e5:f.nl=f.nodes.length+sumL Node.nl f.nodes+f.data.length+sumL List.length f.data:=rfl
    have e6:(⟨f.nodes.take 1,f.data⟩:Fs).nl=(f.nodes.take 1).length+sumL Node.nl (f.nodes.take 1)+f.data.length+sumL List.length f.data:=rfl
    have hl1:(f.nodes.take 1).length=1:=by simp; omega
    have hmx:max f.nodes.length f.nodes.length=f.nodes.length:=Nat.max_self _
    simp [q0,asl2_j,hel,hn0,hcs]
    obtain ⟨z1,z2,z3,z4⟩:=out _ ⟨f.nodes.take 1,f.data⟩ _ _ _ _ f.nodes.length kA (by rw [bA]; simp only [hl1]) (by simp only [hl1]; omega) (by omega) (by simp only [hl1]; omega)
    simp only [hl1] at z1 z2 z3 z4
    simp at z1 z2 z3 z4
    simp [z1,z2,z3]
    exact ⟨by omega,z4⟩
  refine aSI (fun h0=>?_) (fun h0=>?_) <;> simp at h0 <;> simp [h0]
  · refine drawLA false [2,3,4] [0,1] [5,6,7] (by simp; rfl) (by simp; rfl) (by simp; rfl) (by kernel_rfl) rfl ?_
    simp [q0]
    refine cK (l1Below_c 4 c H3 L3.k.d) ?_
    rintro _ H4 ⟨dr4,d4,z,rfl,hz0,hz1,-⟩
    have L4:=L3.step hc1 dr4 d4
    obtain ⟨r0,r1⟩:=L4.cells
    obtain ⟨o,off,bb,Gb,rfl,-⟩:=nodeAt L4.k.s1 hi
    obtain ⟨g1,ow⟩:=(Own.any L4.k.s1 L4.k.n1).nodeField' (List.getElem?_eq_getElem hi) 0 z ⟨z,f.nodes[i].gen,f.nodes[i].time,f.nodes[i].size,f.nodes[i].blocks⟩ (by omega) rfl (fun sl=>rfl)
    obtain ⟨kA,bA⟩:=L4.done hc1 (slR_some_mem L4.k.s1) ow.sl L4.k.w1
    have hnl2:=nl_set f i hi ⟨z,f.nodes[i].gen,f.nodes[i].time,f.nodes[i].size,f.nodes[i].blocks⟩
    have e5:Node.nl ⟨z,f.nodes[i].gen,f.nodes[i].time,f.nodes[i].size,f.nodes[i].blocks⟩=f.nodes[i].nl:=rfl
    simp only [Nat.add_zero] at g1 kA bA
    simp [r0,hi,g1]
    obtain ⟨z1,z2,z3,z4⟩:=out _ ⟨f.nodes.set i ⟨z,f.nodes[i].gen,f.nodes[i].time,f.nodes[i].size,f.nodes[i].blocks⟩,f.data⟩ _ _ _ _ f.nodes.length kA (by rw [bA]; simp) (by simp) (by omega) (by simp; omega)
    simp at z1 z2 z3 z4
    simp [z1,z2,z3]
    exact z4
  refine aSI (fun h0=>?_) (fun h0=>?_) <;> simp at h0 <;> simp [h0]
  · obtain ⟨o,off,bb,Gb,rfl,n0,n1,n2',n3,n4,-⟩:=nodeAt L3.k.s1 hi
    simp [q0,hi,n4]
    refine aSI (fun hb=>?_) (fun hb=>?_) <;> simp at hb <;> simp [hb]
    · refine drawLA false [6,7,8,9,10,11] [0,1,2,3,4,5] [12,13] (by simp; rfl) (by simp; rfl) (by simp; rfl) (by kernel_rfl) rfl ?_
      have wd:IntKind.i64.wrap ((f.data.length:Int)+1)=((f.data.length+1:Nat):Int):=wS (by omega)
      simp [q0,hi,n4,q1,wd]
      have hbe:=l1Below_c (f.data.length+1) c H3 L3.k.d
      simp at hbe
      refine cK hbe ?_
      rintro _ H4 ⟨dr4,d4,z,rfl,hz0',hz1',-⟩
      have L4:=L3.step hc1 dr4 d4
      obtain ⟨r0,r1⟩:=L4.cells
      have ho1:o∈G1:=slR_some_mem L4.k.s1
      obtain ⟨cc,Fi,⟨bb',Gb',rfl,rfl,sb⟩,hFn,hFs,hcell,hin,-⟩:=(Own.any L4.k.s1 L4.k.n1).row (List.getElem?_eq_getElem hi)
      have hn5:(nodeE true).n=5:=rfl
      have hc4:=hcell 4 (by show 4<5; omega)
      simp only [hn5] at hc4
      have hsame:cellAt H4 o (off+i * 5+4)=some (.slice bb f.nodes[i].blocks.length f.nodes[i].blocks.length):=by
        rw [cellAt_get (dr4.2 o (lt3 o ho1) (by have:=L3.k.w1 o ho1; omega))]
        exact n4
      rw [hsame] at hc4
      simp at hc4
      subst hc4
      obtain ⟨ob,offb,rfl,-⟩:=intEAt sb hb
      have owb:=Own.any sb hFn
      have hFi:Fi=[ob]:=owb.flatF
      obtain ⟨g1,F'',ow⟩:=owb.putFlat hb z 0 [.int .i64 z] (by show 0+1≤1; omega) (by simp [setL])
      have hF'':F''=[ob]:=ow.flatF
      simp only [Nat.add_zero,Nat.mul_one,Nat.zero_mul,List.length_cons,List.length_nil,Nat.zero_add] at g1 ow
      have hob:ob∈G1:=(hFs ob (by rw [hFi]; simp)).1
      have hne:∀ q,q≠ob→(sA_ H4 ob offb [.int .i64 z])[q]?=H4[q]?:=fun q hq=>by rw [sAg,if_neg (fun e=>hq e.symm)]
      have oN:=hin (sA_ H4 ob offb [.int .i64 z]) ⟨f.nodes[i].kind,f.nodes[i].gen,f.nodes[i].time,f.nodes[i].size,f.nodes[i].blocks.set 0 z⟩ ⟨Nat.zero_le _,fun _ hq=>by simp at hq⟩ (fun q hq hn=>hne q (fun e=>hn (by rw [e,hFi]; simp))) ⟨some ⟨ob,offb,none⟩,[ob],by simp,by rw [hFi],by rw [← hF'']; exact ow.sl⟩
      obtain ⟨kA,bA⟩:=L4.done hc1 hob oN.sl L4.k.w1
      have hnl2:=nl_set f i hi ⟨f.nodes[i].kind,f.nodes[i].gen,f.nodes[i].time,f.nodes[i].size,f.nodes[i].blocks.set 0 z⟩
      have e5:Node.nl ⟨f.nodes[i].kind,f.nodes[i].gen,f.nodes[i].time,f.nodes[i].size,f.nodes[i].blocks.set 0 z⟩=f.nodes[i].nl:=by show (f.nodes[i].blocks.set 0 z).length=f.nodes[i].blocks.length; simp
      simp [r0,hi,hsame,hb,g1]
      obtain ⟨z1,z2,z3,z4⟩:=out _ ⟨f.nodes.set i ⟨f.nodes[i].kind,f.nodes[i].gen,f.nodes[i].time,f.nodes[i].size,f.nodes[i].blocks.set 0 z⟩,f.data⟩ _ _ _ _ f.nodes.length kA (by rw [bA]; simp) (by simp) (by omega) (by simp; omega)
      simp at z1 z2 z3 z4
      simp [z1,z2,z3]
      exact z4
    · obtain ⟨z1,z2,z3,z4⟩:=out _ f _ _ _ _ f.nodes.length L3.k.rd L3.box (Nat.le_refl _) (by omega) (by omega)
      simp at z1 z2 z3 z4
      simp [z1,z2,z3]
      exact z4
  refine aSI (fun h0=>?_) (fun h0=>?_) <;> simp at h0 <;> simp [h0]
  · obtain ⟨o,off,bb,Gb,rfl,n0,n1,n2',n3,n4,-⟩:=nodeAt L3.k.s1 hi
    refine drawK true (by kernel_rfl) ?_
    obtain ⟨g1,ow⟩:=(Own.any L3.k.s1 L3.k.n1).nodeField' (List.getElem?_eq_getElem hi) 3 (IntKind.i64.wrap (f.nodes[i].size+1)) ⟨f.nodes[i].kind,f.nodes[i].gen,f.nodes[i].time,IntKind.i64.wrap (f.nodes[i].size+1),f.nodes[i].blocks⟩ (by omega) rfl (fun sl=>rfl)
    obtain ⟨kA,bA⟩:=L3.done hc1 (slR_some_mem L3.k.s1) ow.sl L3.k.w1
    have hnl2:=nl_set f i hi ⟨f.nodes[i].kind,f.nodes[i].gen,f.nodes[i].time,IntKind.i64.wrap (f.nodes[i].size+1),f.nodes[i].blocks⟩
    have e5:Node.nl ⟨f.nodes[i].kind,f.nodes[i].gen,f.nodes[i].time,IntKind.i64.wrap (f.nodes[i].size+1),f.nodes[i].blocks⟩=f.nodes[i].nl:=rfl
    simp [q0,hi,n3,g1]
    obtain ⟨z1,z2,z3,z4⟩:=out _ ⟨f.nodes.set i ⟨f.nodes[i].kind,f.nodes[i].gen,f.nodes[i].time,IntKind.i64.wrap (f.nodes[i].size+1),f.nodes[i].blocks⟩,f.data⟩ _ _ _ _ f.nodes.length kA (by rw [bA]; simp) (by simp) (by omega) (by simp; omega)
    simp at z1 z2 z3 z4
    simp [z1,z2,z3]
    exact z4
  · obtain ⟨z1,z2,z3,z4⟩:=out _ f _ _ _ _ f.nodes.length L3.k.rd L3.box (Nat.le_refl _) (by omega) (by omega)
    simp at z1 z2 z3 z4
    simp [z1,z2,z3]
    exact z4
theorem l6Draw_c (c:Nat) (h:Hp) (d:Draw h c) :
    ACall Try.prog 38 [.pointer (some ⟨c,0,none⟩)] h fun r h'=>∃ f:Fs,FD h c h' f r∧f.nl≤2000∧1≤f.nodes.length∧f.nodes.length≤10∧1≤f.data.length∧f.data.length≤36:=by
  refine (l6DrawC_c c h d).weakRes ?_
  rintro _ h' ⟨f,b1,b2,G1,G2,cp,rfl,hcp,k,hl⟩
  exact ⟨_,fun φ u r=>relV_fs hcp r,f,⟨b1,b2,G1,G2,rfl,k⟩,hl⟩
structure FsIn (h:Hp) (f:Fs) (b1 b2:Option Addr) (G1 G2:List Nat):Prop where
  s1:slR true 49 (nodeE true) h f.nodes b1 G1
  s2:slR true 9 strE h f.data b2 G2
  nl:f.nl≤2000
  n1:1≤f.nodes.length
  n10:f.nodes.length≤10
  d1:1≤f.data.length
  d36:f.data.length≤36
theorem FsIn.ext {h h':Hp} {f:Fs} {b1 b2:Option Addr} {G1 G2:List Nat} (k:FsIn h f b1 b2 G1 G2) (x:Ext h h'):FsIn h' f b1 b2 G1 G2:=⟨k.s1.ext x,k.s2.ext x,k.nl,k.n1,k.n10,k.d1,k.d36⟩
end Go.Proofs.Ytmpgpkdijfcfhaa.Hz
