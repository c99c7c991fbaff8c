/- Texts of the calculus and of the program's functions, merged: DS DU. -/
import Derived.Test.YtmpgpkdijfcfhaaHyHD
namespace Go.Proofs.Ytmpgpkdijfcfhaa.Hz
open Go.RowKit
set_option linter.unusedVariables false
set_option linter.unusedSimpArgs false
set_option maxRecDepth 20000
theorem pickS_c (xs:List Str) (c:Nat) (h:Hp) (d:Draw h c) (h1:1≤xs.length) (h2:xs.length≤256) :
    ACall Try.prog 54 [.pointer (some ⟨c,0,none⟩),.slice (some ⟨h.length,0,none⟩) xs.length xs.length] (h++[⟨true,true,9,xs.map fun x=>.string (S x)⟩]) fun r h'=>Dr c h h'∧Draw h' c∧∃ x∈xs,r=.string (S x):=by
  have o:=Own.lit (h0:=h) (h:=h) (e:=9) (A:=strE) (xs:=xs) (css:=xs.map fun x=>[.string (S x)]) (Fs:=List.replicate xs.length []) (Ext.refl h) (rowsR.mkFlat xs) (by rw [flat_rep]; exact List.nodup_nil) (by rw [flat_rep]; simp)
  rw [flat_strs,flat_rep] at o
  have hc:=d.lt
  refine (l1Pick_c c _ (some ⟨h.length,0,none⟩) [h.length] true _ xs o.sl (by simp; omega) h1 h2 (d.ext o.ext)).mono ?_
  rintro r h' ⟨dr,d2,hx⟩
  exact ⟨(Dr.of_ext o.ext).trans dr,d2,hx⟩
def oddPaths:List Str:=[[],[47],[97],[47,65],[47,97,47],[47,47],[47,116,111,111,108,111,110,103],[47,97,47,98,47,99,47,100,47,101],[47,97,47,98,47,99,47,100],[47,97,32,98],[47,126,48],[47,97,47,46,46]]
theorem l2Path_c (c:Nat) (h:Hp) (d:Draw h c) :
    ACall Try.prog 50 [.pointer (some ⟨c,0,none⟩)] h fun r h'=>Dr c h h'∧Draw h' c∧∃ s:Str,r=.string (S s)∧s.length≤10:=by
  refine acall mixed Try.func50 rfl (by kernel_rfl) ?_
  simp [Try.f50]
  refine cK (l1Once_c 12 c h d) ?_
  rintro _ H1 ⟨dr1,d1,b,rfl⟩
  simp
  cases b
  · simp
    refine cK (l2Paths_c H1) ?_
    rintro _ H2 ⟨a,F,rfl,o⟩
    have hF:=o.new
    have hc:=d1.lt
    simp
    refine cK (l1Pick_c c H2 a F true _ paths10 (o.sl.to (by simp)) (fun hm=>by have:=hF c hm; omega) (by decide) (by decide) (d1.ext o.ext)) ?_
    rintro _ H3 ⟨dr3,d3,x,hx,rfl⟩
    simp
    refine ⟨dr1.trans ((Dr.of_ext o.ext).trans dr3),d3,?_⟩
    revert hx
    unfold paths10
    intro hx
    simp only [List.mem_cons,List.not_mem_nil,or_false] at hx
    rcases hx with rfl | rfl | rfl | rfl | rfl | rfl | rfl | rfl | rfl | rfl <;> decide
  · simp
    have hp:=pickS_c oddPaths c H1 d1 (by decide) (by decide)
    simp only [oddPaths,List.map_cons,List.map_nil,List.length_cons,List.length_nil,Nat.zero_add,Nat.reduceAdd] at hp
    refine cK hp ?_
    rintro _ H3 ⟨dr3,d3,x,hx,rfl⟩
    simp
    refine ⟨dr1.trans dr3,d3,?_⟩
    simp only [List.mem_cons,List.not_mem_nil,or_false] at hx
    rcases hx with rfl | rfl | rfl | rfl | rfl | rfl | rfl | rfl | rfl | rfl | rfl | rfl <;> decide
structure LQ (h1:Hp) (c bi:Nat) (H:Hp) (f:Fs) (b1 b2:Option Addr) (G1 G2:List Nat):Prop where
  k:DRd h1 c H f b1 b2 G1 G2
  box:H[bi]?=some ⟨true,true,26,[.slice b1 f.nodes.length f.nodes.length,.slice b2 f.data.length f.data.length]⟩
  hb:h1.length≤bi
section
variable {h1 H H2:Hp} {c bi:Nat} {f g:Fs} {b1 b2:Option Addr} {G1 G2:List Nat}
theorem DRd.box (k:DRd h1 c H f b1 b2 G1 G2) (hc:c<h1.length):LQ h1 c H.length (H++[⟨true,true,26,[.slice b1 f.nodes.length f.nodes.length,.slice b2 f.data.length f.data.length]⟩]) f b1 b2 G1 G2 :=
  ⟨k.step hc (Dr.of_ext (Ext.push _ _)) (k.d.ext (Ext.push _ _)),by simp,k.dr.1⟩
theorem LQ.step (l:LQ h1 c bi H f b1 b2 G1 G2) (hc:c<h1.length) (x:Dr c H H2) (d:Draw H2 c):LQ h1 c bi H2 f b1 b2 G1 G2 :=
  ⟨l.k.step hc x d,by rw [x.2 bi (get_lt l.box) (by have:=l.hb; omega)]; exact l.box,l.hb⟩
theorem LQ.cells (l:LQ h1 c bi H f b1 b2 G1 G2):∀ j,cellAt H bi j=([Value.slice b1 f.nodes.length f.nodes.length,.slice b2 f.data.length f.data.length])[j]?:=fun j=>by simp [cellAt,l.box]
theorem LQ.out (l:LQ h1 c bi H f b1 b2 G1 G2) {r0:Nat} {v0 v1:Value} (hr:r0<h1.length) (hrc:r0≠c) (res:h1[r0]?=some ⟨true,true,26,[v0,v1]⟩) :
    cS_ H r0 0 2=true∧(∀ j,cellAt (sA_ H r0 0 [.slice b1 f.nodes.length f.nodes.length,.slice b2 f.data.length f.data.length]) r0 j=([Value.slice b1 f.nodes.length f.nodes.length,.slice b2 f.data.length f.data.length])[j]?) ∧
      (∀ q,q≠r0→(sA_ H r0 0 [.slice b1 f.nodes.length f.nodes.length,.slice b2 f.data.length f.data.length])[q]?=H[q]?) ∧
      slR true 49 (nodeE true) (sA_ H r0 0 [.slice b1 f.nodes.length f.nodes.length,.slice b2 f.data.length f.data.length]) f.nodes b1 G1 ∧
      slR true 9 strE (sA_ H r0 0 [.slice b1 f.nodes.length f.nodes.length,.slice b2 f.data.length f.data.length]) f.data b2 G2:=by
  have q3:H[r0]?=some ⟨true,true,26,[v0,v1]⟩:=by rw [l.k.dr.2 _ hr hrc]; exact res
  have hne:∀ q,q≠r0→(sA_ H r0 0 [.slice b1 f.nodes.length f.nodes.length,.slice b2 f.data.length f.data.length])[q]?=H[q]?:=fun q hq=>by rw [sAg,if_neg (fun e=>hq e.symm)]
  have hself:(sA_ H r0 0 [.slice b1 f.nodes.length f.nodes.length,.slice b2 f.data.length f.data.length])[r0]?=some ⟨true,true,26,[.slice b1 f.nodes.length f.nodes.length,.slice b2 f.data.length f.data.length]⟩:=by rw [sAg,if_pos rfl,q3]; rfl
  exact ⟨by simp [cS_,q3],fun j=>by simp [cellAt,hself],hne,l.k.s1.frame fun q hq=>hne q (by have:=l.k.w1 q hq; omega),l.k.s2.frame fun q hq=>hne q (by have:=l.k.w2 q hq; omega)⟩
theorem LQ.store (l:LQ h1 c bi H f b1 b2 G1 G2) (hc:c<h1.length) {c1 c2:Option Addr} (r:FsRes g H H2 (.agg #[.slice c1 g.nodes.length g.nodes.length,.slice c2 g.data.length g.data.length])) :
    cS_ H2 bi 0 2=true∧∃ K1 K2,LQ h1 c bi (sA_ H2 bi 0 [.slice c1 g.nodes.length g.nodes.length,.slice c2 g.data.length g.data.length]) g c1 c2 K1 K2:=by
  obtain ⟨e1,K1,e2,K2,he,o1,o2,dj⟩:=r
  simp only [Value.agg.injEq,Array.mk.injEq,List.cons.injEq,Value.slice.injEq,and_true] at he
  obtain ⟨rfl,rfl⟩:=he
  have hx:=o1.ext
  have hbi:=get_lt l.box
  have q3:H2[bi]?=some ⟨true,true,26,[.slice b1 f.nodes.length f.nodes.length,.slice b2 f.data.length f.data.length]⟩:=by rw [hx.2 bi hbi]; exact l.box
  have hne:∀ q,q≠bi→(sA_ H2 bi 0 [.slice c1 g.nodes.length g.nodes.length,.slice c2 g.data.length g.data.length])[q]?=H2[q]?:=fun q hq=>by rw [sAg,if_neg (fun e=>hq e.symm)]
  have hself:(sA_ H2 bi 0 [.slice c1 g.nodes.length g.nodes.length,.slice c2 g.data.length g.data.length])[bi]?=some ⟨true,true,26,[.slice c1 g.nodes.length g.nodes.length,.slice c2 g.data.length g.data.length]⟩:=by rw [sAg,if_pos rfl,q3]; rfl
  have hl1:=l.k.dr.1
  have hlb:=l.hb
  have n1:=o1.new
  have n2:=o2.new
  refine ⟨by simp [cS_,q3],K1,K2,⟨⟨by rw [sAl]; have:=hx.1; omega,fun q hq hn=>?_⟩,?_,?_,?_,fun q hq=>by have:=n1 q hq; omega,fun q hq=>by have:=n2 q hq; omega⟩,hself,hlb⟩
  · rw [hne q (by omega),hx.2 q (by omega)]; exact l.k.dr.2 q hq hn
  · exact l.k.d.frame fun q hq=>by rw [hne q (by omega),hx.2 q (by have:=l.k.d.lt; omega)]
  · exact (o1.sl.to (by simp)).frame fun q hq=>hne q (by have:=n1 q hq; omega)
  · exact (o2.sl.to (by simp)).frame fun q hq=>hne q (by have:=n2 q hq; omega)
end
structure Bnd (f:Fs):Prop where
  nl:f.nl≤2000
  n1:1≤f.nodes.length
  n10:f.nodes.length≤10
  d1:1≤f.data.length
  d36:f.data.length≤36
theorem nodeWrite_lens (f:Fs) (i:Int) (data:Str):(nW_ f i data).1.nodes.length=f.nodes.length∧(nW_ f i data).1.data.length=f.data.length:=by
  unfold nW_
  split
  · simp [written,putChunks_len,dropData_len]
  · exact ⟨rfl,rfl⟩
theorem nodeMake_lens (f:Fs) (kind:Int):(nodeMake f kind).1.nodes.length=f.nodes.length∧(nodeMake f kind).1.data.length=f.data.length:=by
  unfold nodeMake
  split
  · simp
  · exact ⟨rfl,rfl⟩
theorem Bnd.write {f:Fs} (b:Bnd f) (i:Int) (data:Str):Bnd (nW_ f i data).1:=by
  obtain ⟨e1,e2⟩:=nodeWrite_lens f i data
  exact ⟨nodeWrite_nlN (by omega) f i data b.nl,by rw [e1]; exact b.n1,by rw [e1]; exact b.n10,by rw [e2]; exact b.d1,by rw [e2]; exact b.d36⟩
theorem Bnd.make {f:Fs} (b:Bnd f) (kind:Int):Bnd (nodeMake f kind).1:=by
  obtain ⟨e1,e2⟩:=nodeMake_lens f kind
  exact ⟨Nat.le_trans (nodeMake_nl f kind) b.nl,by rw [e1]; exact b.n1,by rw [e1]; exact b.n10,by rw [e2]; exact b.d1,by rw [e2]; exact b.d36⟩
end Go.Proofs.Ytmpgpkdijfcfhaa.Hz
