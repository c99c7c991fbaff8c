/- The draw of a tree: a right one, and changes. -/
import Derived.Test.YtmpgpkdijfcfhaaGreatDoorHyHE
import Derived.Test.YtmpgpkdijfcfhaaGreatDoorHyZI
import Derived.Test.YtmpgpkdijfcfhaaGreatDoorHyTT
import Derived.Test.YtmpgpkdijfcfhaaGreatDoorHyMI
namespace Go.Proofs.YtmpgpkdijfcfhaaGreatDoor.Hz
open Go.RowKit
set_option linter.unusedVariables false
set_option linter.unusedSimpArgs false
set_option maxRecDepth 20000
structure TBd (xs:List Item):Prop where
  len:xs.length≤11
  it:∀ x∈xs,x.path.length≤100∧x.data.length≤80∧tW x
theorem path_smz {f:Fs} {x:Item} (hx:x∈tI_ f):x.path.length≤100:=by
  obtain ⟨ms,h,h1,h2,h3⟩:=tree_path hx
  have hne:ms≠[]:=fun e=>by rw [e] at h1; simp at h1
  rw [h,pathOf_raw hne h2 h3,rawP_len]
  have:=sum_names ms (fun x hx=>List.all_eq_true.1 h3 x hx)
  omega
theorem treeItems_bd (f:Fs):(tI_ f).length≤10∧TBd (tI_ f):=by
  cases ok:fsOk f
  · have e:tI_ f=[]:=by simp [tI_,ok]
    rw [e]
    exact ⟨by simp,by simp,fun x hx=>by cases hx⟩
  · obtain ⟨dep,C⟩:=fsOk_cert ok
    have h1:=tree_small C
    refine ⟨h1,by omega,fun x hx=>?_⟩
    have h2:=item_ok C hx
    have h3:=path_smz hx
    unfold itemOk at h2
    simp only [Bool.and_eq_true] at h2
    obtain ⟨-,h4⟩:=h2
    unfold tW
    split at h4
    · simp at h4
      refine ⟨h3,by rw [h4.1]; simp,by omega,by omega⟩
    · simp [inR] at h4
      exact ⟨h3,h4.1,by omega,by omega⟩
theorem TBd.put {xs:List Item} (b:TBd xs) (i:Nat) {y:Item} (h:y.path.length≤100∧y.data.length≤80∧tW y):TBd (xs.set i y) :=
  ⟨by rw [List.length_set]; exact b.len,fun x hx=>(List.mem_or_eq_of_mem_set hx).elim (b.it x) fun e=>e ▸ h⟩
theorem item_nd {H:Hp} {w:Bool} {t:TypeId} {xs:List Item} {a:Option Addr} {G:List Nat} (s:slR w t itemE H xs a G):G.Nodup:=by
  cases a with
  | none=>obtain ⟨_,rfl⟩:=s; exact List.nodup_nil
  | some b0 =>
    obtain ⟨o,off,sp⟩:=b0
    obtain ⟨_,ob,css,Fs,pre,post,g1,g2,g3,g4,rfl,g5,g6,g7⟩:=s
    rw [flat_nil g5.flat.2]
    simp
structure TX (h1:Hp) (c B:Nat) (H:Hp) (xs:List Item) (a:Option Addr) (G:List Nat):Prop where
  dr:Dr c h1 H
  d:Draw H c
  s:slR true 33 itemE H xs a G
  w:∀ q∈G,h1.length≤q
  box:H[B]?=some ⟨true,true,26,[.slice a xs.length xs.length]⟩
  m:B ∉ G
  hb:h1.length≤B
section
variable {h1 H H2:Hp} {c B:Nat} {xs:List Item} {a:Option Addr} {G:List Nat}
theorem TX.step (l:TX h1 c B H xs a G) (hc:c<h1.length) (y:Dr c H H2) (d:Draw H2 c):TX h1 c B H2 xs a G :=
  ⟨l.dr.trans y,d,y.sl l.s (fun hm=>by have:=l.w _ hm; omega),l.w,by rw [y.2 B (get_lt l.box) (by have:=l.hb; omega)]; exact l.box,l.m,l.hb⟩
theorem TX.cells (l:TX h1 c B H xs a G):∀ j,cellAt H B j=([Value.slice a xs.length xs.length])[j]?:=fun j=>by simp [cellAt,l.box]
theorem TX.cellsX (l:TX h1 c B H xs a G):∀ t j,cellAt (H++t) B j=([Value.slice a xs.length xs.length])[j]?:=fun t j=>by rw [cellAt_ext (Ext.push H t) (get_lt l.box)]; exact l.cells j
theorem TX.put (l:TX h1 c B H xs a G) (hc:c<h1.length) {i:Nat} (hi:i<xs.length) (y:Item) (j:Nat) (vs:List Value) (hj:j+vs.length≤4) (hv:setL (Item.cs xs[i]) j vs=Item.cs y) :
    ∃ o off,a=some ⟨o,off,none⟩∧cS_ H o (off+i * 4+j) vs.length=true∧TX h1 c B (sA_ H o (off+i * 4+j) vs) (xs.set i y) a G:=by
  obtain ⟨o,off,rfl,-⟩:=itemAt l.s hi
  have k:=Own.any l.s (item_nd l.s)
  have hF:=Own.flatF k
  obtain ⟨e1,F1,e2⟩:=Own.putFlat k hi y j vs hj hv
  have hF1:=Own.flatF e2
  have hFF:F1=G:=by rw [hF,← hF1]
  subst hFF
  have ho:o∈F1:=by rw [hF]; simp
  have hw:=l.w o ho
  have hne:∀ q,q≠o→(sA_ H o (off+i * 4+j) vs)[q]?=H[q]?:=fun q hq=>by rw [sAg,if_neg (fun e=>hq e.symm)]
  refine ⟨o,off,rfl,e1,⟨by rw [sAl]; exact l.dr.1,fun q hq hn=>?_⟩,l.d.frame fun q hq=>hne q (by omega),e2.sl,l.w,?_,l.m,l.hb⟩
  · rw [hne q (by omega)]; exact l.dr.2 q hq hn
  · rw [hne B (fun e=>l.m (e ▸ ho)),List.length_set]; exact l.box
theorem TX.app (l:TX h1 c B H xs a G) (hc:c<h1.length) (y:Item) (hl:xs.length≤1000) {cs:List Value} (hcs:cs=y.cs) :
    ∃ a' H',aappend Tryz.prog (H++[⟨true,true,33,cs⟩]) 24 24 (.slice a xs.length xs.length) (.slice (some ⟨H.length,0,none⟩) 1 1)=some (.slice a' (xs.length+1) (xs.length+1),H') ∧
      cS_ H' B 0 1=true∧∃ G',TX h1 c B (sA_ H' B 0 [.slice a' (xs.length+1) (xs.length+1)]) (xs++[y]) a' G':=by
  have hb:=l.hb
  have hBl:=get_lt l.box
  have hcl:=l.d.lt
  have hdr:=l.dr.1
  obtain ⟨a',H',F',e1,e2,e3,e4,e5⟩:=(Own.any l.s (item_nd l.s)).append1D (P:=Tryz.prog) y hcs (st:=24) (xt:=24) (bt:=48) (z:=[.string (S []),.int .i64 0,.string (S []),.int .i64 0]) (by simp) (by simp) (by unfold big; omega) (by unfold big; omega)
  have hB2:H'[B]?=some ⟨true,true,26,[.slice a xs.length xs.length]⟩:=by rw [e3 B hBl l.m]; exact l.box
  have hne:∀ q,q≠B→(sA_ H' B 0 [.slice a' (xs.length+1) (xs.length+1)])[q]?=H'[q]?:=fun q hq=>by rw [sAg,if_neg (fun e=>hq e.symm)]
  have hm:B ∉ F':=fun hq=>by
    rcases e4 B hq with h1 | h1
    · exact l.m h1
    · omega
  have hw:∀ q∈F',h1.length≤q:=fun q hq=>by
    rcases e4 q hq with h1 | h1
    · exact l.w q h1
    · omega
  refine ⟨a',H',e1,by simp [cS_,hB2],F',⟨⟨by rw [sAl]; omega,fun q hq hn=>?_⟩,?_,e2.sl.frame fun q hq=>hne q (fun e=>hm (e ▸ hq)),hw,?_,hm,hb⟩⟩
  · rw [hne q (by omega),e3 q (by omega) (fun hm=>by have:=l.w q hm; omega)]
    exact l.dr.2 q hq hn
  · refine l.d.frame fun q hq=>?_
    rw [hne q (by omega),e3 q (by omega) (fun hm=>by have:=l.w q hm; omega)]
  · rw [sAg,if_pos rfl,hB2]
    simp [setL]
theorem TX.out (l:TX h1 c B H xs a G) {r0:Nat} {v0:Value} (hr:r0<h1.length) (hrc:r0≠c) (res:h1[r0]?=some ⟨true,true,26,[v0]⟩) :
    cS_ H r0 0 1=true∧(∀ j,cellAt (sA_ H r0 0 [.slice a xs.length xs.length]) r0 j=([Value.slice a xs.length xs.length])[j]?) ∧
      (∀ q,q≠r0→(sA_ H r0 0 [.slice a xs.length xs.length])[q]?=H[q]?) ∧
      slR true 33 itemE (sA_ H r0 0 [.slice a xs.length xs.length]) xs a G:=by
  have q3:H[r0]?=some ⟨true,true,26,[v0]⟩:=by rw [l.dr.2 _ hr hrc]; exact res
  have hne:∀ q,q≠r0→(sA_ H r0 0 [.slice a xs.length xs.length])[q]?=H[q]?:=fun q hq=>by rw [sAg,if_neg (fun e=>hq e.symm)]
  have hself:(sA_ H r0 0 [.slice a xs.length xs.length])[r0]?=some ⟨true,true,26,[.slice a xs.length xs.length]⟩:=by rw [sAg,if_pos rfl,q3]; rfl
  exact ⟨by simp [cS_,q3],fun j=>by simp [cellAt,hself],hne,l.s.frame fun q hq=>hne q (by have:=l.w q hq; omega)⟩
end
def S14 (c B o off n:Nat):Nat→Value→Hp→Prop
  | 0,v,_=>v=.pointer (some ⟨B,0,none⟩)
  | 1,v,_=>v=.slice (some ⟨o,off,none⟩) n n
  | 2,v,_=>v=.pointer (some ⟨c,0,none⟩)
  | 3,v,_=>v=.int .i64 n
  | 4,v,_=>∃ i:Nat,i<n∧v=.int .i64 i
  | 5,v,_=>v=.pointer (some ⟨c,0,none⟩)
  | 6,v,H=>∃ p,v=.slice (some ⟨p,0,none⟩) 3 3∧c<p∧p≠o∧slR true 3 intE H [-1,100000,100001] (some ⟨p,0,none⟩) [p]
  | 7,v,_=>∃ t:Int,-1≤t∧t≤100001∧v=.int .i64 t
  | 8,v,_=>∃ i:Nat,i<n∧v=.pointer (some ⟨o,off+i * 4,none⟩)
  | 9,v,_=>∃ i:Nat,i<n∧v=.pointer (some ⟨o,off+i * 4+3,none⟩)
  | _,_,_=>True
structure I14 (h1:Hp) (c B:Nat) (xs:List Item) (a:Option Addr) (G:List Nat) (D:Nat→Bool) (H:Hp):Prop where
  p0:D 10=false→TX h1 c B H xs a G
  p1:D 10=true→∃ ys,TX h1 c B H ys a G∧TBd ys∧ys.length=xs.length
theorem S14.dr {c B o off n:Nat} {H H2:Hp} (y:Dr c H H2):∀ (j:Nat) (v:Value),S14 c B o off n j v H→S14 c B o off n j v H2:=by
  intro j v k
  unfold S14 at *
  split at k <;> try exact k
  obtain ⟨p,rfl,h1,h2,k⟩:=k
  exact ⟨p,rfl,h1,h2,y.sl k (by simp; omega)⟩
theorem S14.store {c B o off n:Nat} {H:Hp} (i:Nat) (vs:List Value):∀ (j:Nat) (v:Value),S14 c B o off n j v H→S14 c B o off n j v (sA_ H o i vs):=by
  intro j v k
  unfold S14 at *
  split at k <;> try exact k
  obtain ⟨p,rfl,h1,h2,k⟩:=k
  exact ⟨p,rfl,h1,h2,k.frame fun q hq=>by rw [sAg,if_neg (fun e=>by simp at hq; exact h2 (hq ▸ e.symm))]⟩
theorem I14.dr {h1 H H2:Hp} {c B:Nat} {xs:List Item} {a:Option Addr} {G:List Nat} {D D':Nat→Bool} (k:I14 h1 c B xs a G D H) (h10:D 10=false) (e10:D' 10=D 10) (hc:c<h1.length) (y:Dr c H H2) (d:Draw H2 c):I14 h1 c B xs a G D' H2 :=
  ⟨fun _=>(k.p0 h10).step hc y d,fun h=>(by rw [e10,h10] at h; cases h)⟩
theorem I14.same {h1 H:Hp} {c B:Nat} {xs:List Item} {a:Option Addr} {G:List Nat} {D D':Nat→Bool} (k:I14 h1 c B xs a G D H) (e10:D' 10=D 10):I14 h1 c B xs a G D' H :=
  ⟨fun h=>k.p0 (e10 ▸ h),fun h=>k.p1 (e10 ▸ h)⟩
theorem lit_intsZ (xs:List Int) (H:Hp):slR true 3 intE (H++[⟨true,true,3,xs.map fun x=>.int .i64 x⟩]) xs (some ⟨H.length,0,none⟩) [H.length]:=by
  have o:=Own.lit (h0:=H) (h:=H) (e:=3) (A:=intE) (xs:=xs) (css:=xs.map fun x=>[.int .i64 x]) (Fs:=List.replicate xs.length []) (Ext.refl H) (rowsR.mkFlat xs) (by rw [flat_rep]; exact List.nodup_nil) (by rw [flat_rep]; simp)
  rw [flat_ints,flat_rep] at o
  exact o.sl
def TD (h:Hp) (c:Nat) (h':Hp) (r:Value):Prop:=∃ (xs:List Item) (a:Option Addr) (G:List Nat),r=.agg #[.slice a xs.length xs.length]∧Dr c h h'∧Draw h' c∧slR true 33 itemE h' xs a G∧(∀ q∈G,h.length≤q)∧TBd xs
set_option maxHeartbeats 4000000 in
theorem l10Draw_c (c:Nat) (h:Hp) (d:Draw h c) :
    ACall Tryz.prog 15 [.pointer (some ⟨c,0,none⟩)] h fun r h'=>TD h c h' r:=by
  refine acall mixed Tryz.func15 rfl (by kernel_rfl) ?_
  have hc:=d.lt
  simp [Tryz.f15]
  obtain ⟨h1,hh1⟩:∃ h1:Hp,h1=h++[⟨true,true,26,[.slice none 0 0]⟩]:=⟨_,rfl⟩
  have d1:Draw h1 c:=by rw [hh1]; exact d.ext (Ext.push _ _)
  have hl1:h1.length=h.length+1:=by rw [hh1]; simp
  have hc1:c<h1.length:=by omega
  have res1:h1[h.length]?=some ⟨true,true,26,[.slice none 0 0]⟩:=by rw [hh1]; simp
  have x1:Ext h h1:=by rw [hh1]; exact Ext.push _ _
  rw [← hh1]
  refine cK (l11Right_c c h1 d1) ?_
  rintro _ H1 ⟨f,b1,b2,G1,G2,rfl,k1,nl,-⟩
  have hH1:=k1.dr.1
  try simp
  refine cK (treeOf_own_c f b1 b2 G1 G2 true _ H1 k1.s1 k1.s2 (by omega)) ?_
  rintro _ H2 ⟨b,G,rfl,s,gn,x⟩
  obtain ⟨hlen,bd⟩:=treeItems_bd f
  generalize tI_ f=xs at s bd hlen ⊢
  try simp
  have L:TX h1 c H2.length (H2++[(⟨true,true,26,[.slice b xs.length xs.length]⟩:Ob)]) xs b G :=
    ⟨k1.dr.trans ((Dr.of_ext x).trans (Dr.of_ext (Ext.push _ _))),(k1.d.ext x).ext (Ext.push _ _),s.ext (Ext.push _ _),fun q hq=>by have:=gn q hq; omega,by simp,fun hm=>by have:=s.lt _ hm; omega,by have:=x.1; omega⟩
  obtain ⟨bi,hbi⟩:∃ bi,bi=H2.length:=⟨_,rfl⟩
  generalize hHb:H2++[(⟨true,true,26,[.slice b xs.length xs.length]⟩:Ob)]=Hb at L ⊢
  rw [← hbi] at L ⊢
  clear hHb k1 s gn x
  have fin:∀ (HA:Hp) (g:List Item) (c1:Option Addr) (K1:List Nat),TX h1 c bi HA g c1 K1→TBd g →
      (∀ j,cellAt HA bi j=([Value.slice c1 g.length g.length])[j]?)∧cS_ HA h.length 0 1=true∧(∀ j,cellAt (sA_ HA h.length 0 [.slice c1 g.length g.length]) h.length j=([Value.slice c1 g.length g.length])[j]?) ∧
      TD h c (sA_ HA h.length 0 [.slice c1 g.length g.length]) (.agg #[.slice c1 g.length g.length]):=by
    intro HA g c1 K1 LA bg
    obtain ⟨o1,o2,o3,o4⟩:=LA.out (r0:=h.length) (by omega) (by omega) res1
    refine ⟨LA.cells,o1,o2,g,c1,K1,rfl,⟨by rw [sAl]; have:=LA.dr.1; omega,fun q hq hn=>?_⟩,LA.d.frame fun q hq=>o3 q (by omega),o4,fun q hq=>by have:=LA.w q hq; omega,bg⟩
    rw [o3 q (by omega),LA.dr.2 q (by omega) hn]
    exact x1.2 q hq
  have q:=L.cells
  try simp [q]
  refine cK (l1Below_c 10 c Hb L.d) ?_
  rintro _ H3 ⟨dr3,d3,z,rfl,hz0,hz1,-⟩
  have hz1:=hz1 (by omega)
  have L3:=L.step hc1 dr3 d3
  clear L q dr3 d3
  have q:=L3.cells
  have q2:=L3.cellsX
  have stay:=fin _ _ _ _ L3 bd
  try simp
  by_cases z0:z=0
  · subst z0
    simp
    refine drawLA false [2,3,4,5,6,7] [0,1] [8,9,10] (by simp; rfl) (by simp; rfl) (by simp; rfl) (by kernel_rfl) rfl ?_
    simp [q]
    refine cK (l2Path_c c H3 L3.d) ?_
    rintro _ H4 ⟨dr4,d4,p,rfl,hp⟩
    have L4:=L3.step hc1 dr4 d4
    have q4:=L4.cells
    try simp [q4]
    refine cK (l1Below_c 5 c H4 L4.d) ?_
    rintro _ H5 ⟨dr5,d5,k,rfl,hk0,hk1,-⟩
    have hk1:=hk1 (by omega)
    have L5:=L4.step hc1 dr5 d5
    have q5:=L5.cells
    obtain ⟨a',H6,e1,e2,G6,L6⟩:=L5.app hc1 ⟨p,k,[],0⟩ (by omega) (cs:=[.string (S p),.int .i64 k,.string (S []),.int .i64 0]) rfl
    have bd6:TBd (xs++[⟨p,k,[],0⟩]):=⟨by simp; omega,fun x hx=>by
      rcases List.mem_append.1 hx with hx | hx
      · exact bd.it x hx
      · rw [List.mem_singleton.1 hx]
        exact ⟨by simp only; omega,by simp,by unfold tW; simp⟩⟩
    have fn:=fin _ _ _ _ L6 bd6
    rw [List.length_append] at fn
    simp only [List.length_cons,List.length_nil,Nat.zero_add] at fn
    obtain ⟨w1,w2,w3,w4⟩:=fn
    try simp at e1 w1 w2 w3 w4
    simp [q5,L5.cellsX,e1,e2,w1,w2,w3]
    exact w4
  have z0':(z == 0)=false:=by simpa using z0
  simp [z0']
  by_cases z1:z=1
  · subst z1
    try simp
    by_cases hn:0<xs.length
    · have hn':(0:Int)<xs.length:=by omega
      simp [hn]
      refine drawLA false [2,3,4,5,6] [0,1] [7,8,9] (by simp; rfl) (by simp; rfl) (by simp; rfl) (by kernel_rfl) rfl ?_
      simp [q]
      refine cK (l1Below_c xs.length c H3 L3.d) ?_
      rintro _ H4 ⟨dr4,d4,i,rfl,hi0,hi1,-⟩
      have hi1:=hi1 hn'
      obtain ⟨i,rfl⟩:=Int.eq_ofNat_of_zero_le hi0
      have hi:i<xs.length:=by omega
      have L4:=L3.step hc1 dr4 d4
      have q4:=L4.cells
      try simp [q4]
      refine cK (l1Below_c 4 c H4 L4.d) ?_
      rintro _ H5 ⟨dr5,d5,k,rfl,hk0,hk1,-⟩
      have L5:=L4.step hc1 dr5 d5
      have q5:=L5.cells
      obtain ⟨o,off,rfl,e1,L6⟩:=L5.put hc1 hi { xs[i] with kind:=k } 1 [.int .i64 k] (by simp) rfl
      have bd6:=bd.put i (y:={ xs[i] with kind:=k }) (bd.it xs[i] (List.getElem_mem hi))
      obtain ⟨w1,w2,w3,w4⟩:=fin _ _ _ _ L6 bd6
      try simp at e1 w1 w2 w3 w4
      simp [q5,hi,e1,w1,w2,w3]
      exact w4
    · simp [hn]
      obtain ⟨w1,w2,w3,w4⟩:=stay
      simp [w1,w2,w3]
      exact w4
  have z1':(z == 1)=false:=by simpa using z1
  simp [z1']
  by_cases z2:z=2
  · subst z2
    try simp
    by_cases hn:1<xs.length
    · have hn0:0<xs.length:=by omega
      have hnI:(1:Int)<xs.length:=by omega
      simp [hnI]
      refine drawK false (by kernel_rfl) ?_
      obtain ⟨o,off,ea,p0,p1,p2,p3⟩:=itemAt L3.s hn
      obtain ⟨o',off',ea',e1,L6⟩:=L3.put hc1 hn0 xs[1] 0 [.string (S xs[1].path),.int .i64 xs[1].kind,.string (S xs[1].data),.int .i64 xs[1].time] (by simp) rfl
      rw [ea] at ea'
      cases ea'
      subst ea
      have bd6:=bd.put 0 (y:=xs[1]) (bd.it xs[1] (List.getElem_mem hn))
      obtain ⟨w1,w2,w3,w4⟩:=fin _ _ _ _ L6 bd6
      simp at e1 w1 w2 w3 w4 p0 p1 p2 p3
      simp [q,hn,hn0,p0,p1,p2,p3,e1,w1,w2,w3]
      exact ⟨hnI,w4⟩
    · have hnI:¬ (1:Int)<xs.length:=by omega
      simp [hnI]
      obtain ⟨w1,w2,w3,w4⟩:=stay
      simp [w1,w2,w3]
      exact w4
  have z2':(z == 2)=false:=by simpa using z2
  simp [z2']
  by_cases z3:z=3
  · subst z3
    try simp
    by_cases hn:0<xs.length
    · have hnI:(0:Int)<xs.length:=by omega
      simp [hn]
      obtain ⟨o,off,rfl,-⟩:=itemAt L3.s hn
      have hoG:o∈G:=by rw [Own.flatF (Own.any L3.s (item_nd L3.s))]; simp
      clear stay q q2
      refine drawI (S14 c bi o off xs.length) (I14 h1 c bi xs (some ⟨o,off,none⟩) G) [[],[0],[],[],[2,3],[],[],[5,6],[1,4],[8],[7,9]] (by simp; rfl) (by kernel_rfl) ⟨fun _=>L3,fun h=>(by cases h)⟩ ?_ (rl:=[0,1,2,3,4,5,6,7,8,9,10]) (by rfl) ?_
      · refine ⟨?_,?_,?_,?_,?_,?_,?_,?_,?_,?_,?_,trivial⟩ <;> rintro D H hD hdn hpre hI
        · simp -implicitDefEqProofs [dAc,dAn,S14]
          exact ⟨hI.same (by simp),Keep.refl _ _ _⟩
        · have q:=(hI.p0 (hdn.not 1 10 (by kernel_rfl) hD)).cells
          simp -implicitDefEqProofs [dAc,dAn,S14,q]
          exact ⟨hI.same (by simp),Keep.refl _ _ _⟩
        · simp -implicitDefEqProofs [dAc,dAn,S14]
          exact ⟨hI.same (by simp),Keep.refl _ _ _⟩
        · simp -implicitDefEqProofs [dAc,dAn,S14]
          exact ⟨hI.same (by simp),Keep.refl _ _ _⟩
        · have h10:=hdn.not 4 10 (by kernel_rfl) hD
          have L:=hI.p0 h10
          simp -implicitDefEqProofs [dAc,dAn,S14]
          refine cK (l1Below_c xs.length c H L.d) ?_
          rintro _ H' ⟨dr,d,z,rfl,hz0,hz1,-⟩
          have hz1:=hz1 hnI
          obtain ⟨i,rfl⟩:=Int.eq_ofNat_of_zero_le hz0
          simp -implicitDefEqProofs
          exact ⟨⟨i,by omega,rfl⟩,hI.dr h10 (by simp) hc1 dr d,fun j v _=>S14.dr dr j v⟩
        · simp -implicitDefEqProofs [dAc,dAn,S14]
          exact ⟨hI.same (by simp),Keep.refl _ _ _⟩
        · have h10:=hdn.not 6 10 (by kernel_rfl) hD
          have L:=hI.p0 h10
          have s:=lit_intsZ [-1,100000,100001] H
          simp only [List.map_cons,List.map_nil] at s
          have hcl:=L.d.lt
          have hol:=L.s.lt o hoG
          simp -implicitDefEqProofs [dAc,dAn,S14]
          exact ⟨⟨hcl,by omega,s⟩,hI.dr h10 (by simp) hc1 (Dr.of_ext (Ext.push _ _)) (L.d.ext (Ext.push _ _)),fun j v _=>S14.dr (Dr.of_ext (Ext.push _ _)) j v⟩
        · have h10:=hdn.not 7 10 (by kernel_rfl) hD
          have L:=hI.p0 h10
          simp -implicitDefEqProofs [dAc,dAn,S14]
          rintro _ p rfl hp1 hp2 s
          have hp:=l1PickInt_c c _ (some ⟨p,0,none⟩) [p] true _ [-1,100000,100001] s (by simp; omega) (by decide) (by decide) L.d
          simp only [List.length_cons,List.length_nil,Nat.zero_add,Nat.reduceAdd] at hp
          refine cK hp ?_
          rintro _ H' ⟨dr,d,z,hz,rfl⟩
          have hz':-1≤z∧z≤100001:=by simp at hz; omega
          simp -implicitDefEqProofs
          exact ⟨hz',hI.dr h10 (by simp) hc1 dr d,fun j v _=>S14.dr dr j v⟩
        · simp -implicitDefEqProofs [dAc,dAn,S14]
          intro v i hi
          rintro rfl
          simp -implicitDefEqProofs [hi]
          exact ⟨⟨i,hi,rfl⟩,hI.same (by simp),Keep.refl _ _ _⟩
        · simp -implicitDefEqProofs [dAc,dAn,S14]
          intro v i hi
          rintro rfl
          simp -implicitDefEqProofs
          exact ⟨⟨i,hi,rfl⟩,hI.same (by simp),Keep.refl _ _ _⟩
        · have L:=hI.p0 hD
          simp -implicitDefEqProofs [dAc,dAn,S14]
          rintro _ t ht1 ht2 rfl
          rintro _ i hi rfl
          obtain ⟨o',off',ea,e1,L6⟩:=L.put hc1 hi { xs[i] with time:=t } 3 [.int .i64 t] (by simp) rfl
          cases ea
          simp at e1
          have hb:=bd.it xs[i] (List.getElem_mem hi)
          simp -implicitDefEqProofs [e1]
          exact ⟨⟨fun h=>(by simp at h),fun _=>⟨_,L6,bd.put i ⟨hb.1,hb.2.1,by simp only; omega,by simp only; omega⟩,by simp⟩⟩,fun j v _=>S14.store _ _ j v⟩
      · intro D H' hall hI
        obtain ⟨ys,L6,bd6,hly⟩:=hI.p1 (hall 10 (by simp))
        clear hI hall
        obtain ⟨w1,w2,w3,w4⟩:=fin _ _ _ _ L6 bd6
        rw [hly] at w1 w3 w4
        try simp at w1 w2 w3 w4
        simp -implicitDefEqProofs [dAc,dAn,S14]
        intros
        simp -implicitDefEqProofs [w1,w2,w3]
        exact w4
    · simp [hn]
      obtain ⟨w1,w2,w3,w4⟩:=stay
      simp [w1,w2,w3]
      exact w4
  have z3':(z == 3)=false:=by simpa using z3
  obtain ⟨w1,w2,w3,w4⟩:=stay
  simp [z3',w1,w2,w3]
  exact w4
end Go.Proofs.YtmpgpkdijfcfhaaGreatDoor.Hz
