/- PoolTree: the program. -/
import Derived.Test.YtmpgpkdijfcfhaaGreatHyQM
import Derived.Test.YtmpgpkdijfcfhaaGreatHyQF
namespace Go.Proofs.YtmpgpkdijfcfhaaGreat.Hz
open Go.RowKit
set_option linter.unusedVariables false
set_option linter.unusedSimpArgs false
set_option maxRecDepth 20000
noncomputable def partP (bs:List Branch) (i:Nat) (ti:List Item) (j:Nat):List (Nat × Item):=gath bs (allQ bs i++tagged i (ti.take j))
noncomputable def partF (bs:List Branch) (i:Nat):List (Nat × Item):=gath bs (allQ bs i)
noncomputable def gensOf (bs:List Branch) (L:List (Nat × Item)):List Int:=L.map (gen2 bs)
def itemsP (L:List (Nat × Item)):List Item:=L.map Prod.snd
theorem gensOf_len (bs:List Branch) (L:List (Nat × Item)):(gensOf bs L).length=L.length:=by simp [gensOf]
theorem itemsP_len (L:List (Nat × Item)):(itemsP L).length=L.length:=by simp [itemsP]
theorem partP_zero (bs:List Branch) (i:Nat) (ti:List Item):partP bs i ti 0=partF bs i:=by simp [partP,partF,tagged]
theorem partP_all {bs:List Branch} {i:Nat}:partP bs i (tre bs i) (tre bs i).length=partF bs (i+1):=by
  unfold partP partF
  rw [List.take_length,allQ_succ]
theorem partP_succ {bs:List Branch} {i:Nat} {ti:List Item} {j:Nat} (hj:j<ti.length):partP bs i ti (j+1)=insQ bs (i,ti[j]) (partP bs i ti j):=by
  unfold partP
  rw [List.take_succ_eq_append_getElem hj]
  unfold tagged
  rw [List.map_append,← List.append_assoc,gath_app]
  rfl
theorem insQ_len (bs:List Branch) (z:Nat × Item):∀ L:List (Nat × Item),(insQ bs z L).length≤L.length+1
  | []=>by simp [insQ]
  | y :: r=>by
    have:=insQ_len bs z r
    unfold insQ
    split
    · split <;> simp
    · simp only [List.length_cons]; omega
theorem foldQ_len (bs:List Branch):∀ (P L:List (Nat × Item)),(P.foldl (fun L z=>insQ bs z L) L).length≤L.length+P.length
  | [],L=>by simp
  | z :: P,L=>by
    have h1:=foldQ_len bs P (insQ bs z L)
    have h2:=insQ_len bs z L
    simp only [List.foldl_cons,List.length_cons]
    omega
theorem allQ_len (bs:List Branch):∀ k,(allQ bs k).length≤7380 * k
  | 0=>by simp [allQ]
  | k+1=>by
    rw [allQ_succ,List.length_append]
    have h4:(tre bs k).length≤7380:=by
      unfold tre
      split
      · exact treeItems_le _
      · simp
    have:=allQ_len bs k
    have e:(tagged k (tre bs k)).length=(tre bs k).length:=by simp [tagged]
    omega
theorem partP_len (bs:List Branch) (i:Nat) (ti:List Item) (j:Nat):(partP bs i ti j).length≤7380 * i+ti.length:=by
  have h1:=foldQ_len bs (allQ bs i++tagged i (ti.take j)) []
  have h2:=allQ_len bs i
  have h3:(tagged i (ti.take j)).length≤ti.length:=by simp [tagged]; omega
  rw [List.length_append] at h1
  simp only [List.length_nil] at h1
  unfold partP gath
  omega
theorem partF_len (bs:List Branch) (i:Nat):(partF bs i).length≤7380 * i:=by
  have h1:=foldQ_len bs (allQ bs i) []
  have h2:=allQ_len bs i
  simp only [List.length_nil] at h1
  unfold partF gath
  omega
theorem part_find (bs:List Branch) (z:Nat × Item) (L:List (Nat × Item)):(findI (fun e=>e.path == z.2.path) (itemsP L) 0=-1∧itemsP (insQ bs z L)=itemsP L++[z.2]∧gensOf bs (insQ bs z L)=gensOf bs L++[gen2 bs z]) ∨
    ∃ j,∃ hj:j<L.length,findI (fun e=>e.path == z.2.path) (itemsP L) 0=(j:Int)∧(gen2 bs L[j]<gen2 bs z→itemsP (insQ bs z L)=(itemsP L).set j z.2∧gensOf bs (insQ bs z L)=(gensOf bs L).set j (gen2 bs z))∧(¬ gen2 bs L[j]<gen2 bs z→insQ bs z L=L):=by
  rcases findI_spec (fun e:Item=>e.path == z.2.path) (itemsP L) 0 with ⟨h1,h2⟩ | ⟨j,hj,h1,h2,h3⟩
  · refine .inl ⟨h1,?_⟩
    have hn:∀ y∈L,y.2.path≠z.2.path:=fun y hy=>by
      have:=h2 y.2 (List.mem_map.2 ⟨y,hy,rfl⟩)
      simpa using this
    rw [insQ_none hn]
    simp [itemsP,gensOf]
  · have hjL:j<L.length:=by rw [itemsP_len] at hj; exact hj
    refine .inr ⟨j,hjL,by rw [h1]; simp,?_⟩
    have e1:L[j].2.path=z.2.path:=by simpa [itemsP] using h2
    have e2:∀ m (hm:m<j),L[m].2.path≠z.2.path:=fun m hm=>by
      have:=h3 m (by rw [itemsP_len]; omega) hm
      simpa [itemsP] using this
    rw [insQ_some hjL (fun m hm=>e2 m hm) e1]
    constructor
    · intro hg
      rw [if_pos hg]
      simp [itemsP,gensOf,List.map_set]
    · intro hg
      rw [if_neg hg]
structure PQI (h0 H:Hp) (B C:Nat) (bs:List Branch) (L:List (Nat × Item)) (a ga:Option Addr) (cb:List Value) (ti:List Item) (bt:Option Addr) (Gt:List Nat):Prop where
  pt:∃ G K,PT h0 H B (itemsP L) (gensOf bs L) a ga G K∧(∀ q∈Gt,q ∉ G∧q ∉ K∧q≠B)∧C ∉ G∧C ∉ K
  bx:H[C]?=some (⟨true,true,47,cb⟩:Ob)
  st:slR true 38 itemE H ti bt Gt
structure POI (h0 H:Hp) (B:Nat) (bs:List Branch) (L:List (Nat × Item)) (a ga:Option Addr):Prop where
  pt:∃ G K,PT h0 H B (itemsP L) (gensOf bs L) a ga G K
section
variable (x:Pool) (b:Option Addr) (F:List Nat) (w:Bool) (tBranch tNode:TypeId) (h:Hp) (k1:slR w tBranch (branchE w tNode) h x.branches b F) (hl:x.nl≤1048576)
include k1 hl
set_option maxHeartbeats 8000000 in
theorem poolTree_impl_c :
    ACall Tryz.prog 9 [.agg #[.int .i64 x.policy,.int .i64 x.minFree,.slice b x.branches.length x.branches.length,.bool x.move.on,.bool x.move.clean,.int .i64 x.move.src,.int .i64 x.move.dst,.string (S x.move.path),.int .i64 x.move.gen,.int .i64 x.move.done]] h fun r h'=>∃ a G,r=.agg #[.slice a (poolTree x).length (poolTree x).length]∧Own h 38 itemE h' (poolTree x) a G:=by
  refine acall mixed Tryz.func9 rfl (by kernel_rfl) ?_
  obtain ⟨hn,hp,hf⟩:=pool_nl hl
  simp [Tryz.f9]
  refine cK (poolOk_impl_c x b F w tBranch tNode _ (k1.to (by simp)) hl) ?_
  rintro _ _ ⟨⟨t1,rfl⟩,rfl⟩
  cases e1:poolOk x
  · simp [poolTree,e1]
    exact ⟨_,Own.nil (Ext.push _ _)⟩
  have hn4:=(poolOk_head_t e1).2.2
  simp
  obtain ⟨h0,hh0⟩:∃ h0:Hp,h0=h++⟨true,true,28,poolV x b⟩ :: ⟨true,true,32,[.slice none 0 0]⟩ :: t1:=⟨_,rfl⟩
  have x0:Ext h h0:=by rw [hh0]; exact Ext.push _ _
  obtain ⟨B,hB⟩:∃ B,B=h.length+(t1.length+1+1):=⟨_,rfl⟩
  have l0:h0.length=B:=by rw [hh0,hB]; simp
  have q1:h0[h.length+1]?=some ⟨true,true,32,[.slice none 0 0]⟩:=by rw [hh0]; simp
  have hlB:h.length+1<B:=by omega
  have eH:(h++⟨true,true,28,poolV x b⟩ :: ⟨true,true,32,[.slice none 0 0]⟩ :: (t1++[⟨true,true,32,[.slice none 0 0]⟩,⟨true,true,3,[]⟩]):Hp)=(h0++[⟨true,true,32,[.slice none 0 0]⟩])++[⟨true,true,3,[]⟩]:=by rw [hh0]; simp
  have o0:=empty1 intE (h0++[⟨true,true,32,[.slice none 0 0]⟩]) 3
  have lB:(h0++[(⟨true,true,32,[.slice none 0 0]⟩:Ob)]).length=B+1:=by simp [l0]
  have k0:PT h0 ((h0++[⟨true,true,32,[.slice none 0 0]⟩])++[⟨true,true,3,[]⟩]) B [] [] none (some ⟨B+1,0,none⟩) [] [B+1]:=by
    rw [lB] at o0
    exact ⟨⟨(Ext.push _ _).trans (Ext.push _ _),by omega,by simp; omega,by rw [← l0]; simp,⟨rfl,rfl⟩,List.nodup_nil,fun q hq=>by cases hq⟩,o0.sl,o0.nd,fun q hq=>by simp at hq; omega,by simp⟩
  have eB1:h.length+(t1.length+1+1+1)=B+1:=by omega
  simp only [poolV] at eH
  rw [eH,eB1,← hB]
  clear eH
  refine aloop mixed [2,3,4,18,19,20] (fun (y:Nat × Option Addr × Option Addr × Hp)=>[.pointer (some ⟨h.length+1,0,none⟩),.pointer (some ⟨B,0,none⟩),.slice y.2.2.1 (gensOf x.branches (partF x.branches y.1)).length (gensOf x.branches (partF x.branches y.1)).length,.slice b x.branches.length x.branches.length,.int .i64 x.branches.length,.int .i64 y.1]) (fun y=>y.2.2.2) (fun y=>y.1≤x.branches.length∧POI h0 y.2.2.2 B x.branches (partF x.branches y.1) y.2.1 y.2.2.1) (fun y=>x.branches.length - y.1) (0,none,some ⟨B+1,0,none⟩,_) ⟨by simp,⟨[],[B+1],by simpa [partF,gath,allQ,itemsP,gensOf] using k0⟩⟩ (by simp [pickF,partF,gath,allQ,gensOf]) rfl ?_
  clear k0 o0
  rintro ⟨i,a,ga,H⟩ ⟨hi,⟨G,K,k⟩⟩
  simp only at hi k
  simp [mkF]
  refine aSI (fun hc=>?_) (fun hc=>?_) <;> simp at hc <;> simp [hc]
  · obtain ⟨o,off,b1,G1,b2,G2,rfl,c0,c1,c2,kn,kd,-,-⟩:=branchAt k1 hc
    have c0':=cell_up (x0.trans k.ai.ext) c0
    have c1':=cell_up (x0.trans k.ai.ext) c1
    have c2':=cell_up (x0.trans k.ai.ext) c2
    simp [hc,c0',c1',c2']
    refine cK (treeOf_impl_c x.branches[i].fs b1 b2 G1 G2 w tNode _ ((kn.ext (x0.trans k.ai.ext)).to (by simp)) ((kd.ext (x0.trans k.ai.ext)).to (by simp)) (hf i hc)) ?_
    rintro _ _ ⟨bt,Gt,rfl,ot⟩
    obtain ⟨u,rfl⟩:=ot.ext.pre
    simp
    have lt:=treeItems_le x.branches[i].fs
    have htre:=tre_get hc
    have hpl:∀ y∈tI_ x.branches[i].fs,y.path.length≤100:=fun y hy=>tree_plen hy
    have hall:=partP_all (bs:=x.branches) (i:=i)
    rw [htre] at hall
    have hlH:=k.ai.len
    have hN:∀ q∈Gt,q ∉ G∧q ∉ K∧q≠B:=fun q hq=>by
      have h1:=ot.new q hq
      simp at h1
      exact ⟨fun hm=>by have:=k.ai.sl.lt q hm; omega,fun hm=>by have:=k.gsl.lt q hm; omega,by omega⟩
    have st:=ot.sl
    have hnl:∀ (y:Option Addr),y=some ⟨o,off,none⟩→True:=fun _ _=>trivial
    obtain ⟨cb,hcb⟩:∃ cb:List Value,cb=[.int .i64 x.branches[i].mode,.slice b1 x.branches[i].fs.nodes.length x.branches[i].fs.nodes.length,.slice b2 x.branches[i].fs.data.length x.branches[i].fs.data.length]:=⟨_,rfl⟩
    have hgl:=walkI_get (bs:=x.branches) (p:=[]) hc
    have hgen:∀ p,genI x.branches p i=genAt x.branches[i].fs p:=fun p=>genI_get hc
    have hfi:=hf i hc
    have kC:PQI h0 (H++⟨true,true,47,[.int .i64 x.branches[i].mode,.slice b1 x.branches[i].fs.nodes.length x.branches[i].fs.nodes.length,.slice b2 x.branches[i].fs.data.length x.branches[i].fs.data.length]⟩ :: u) B H.length x.branches (partP x.branches i (tI_ x.branches[i].fs) 0) a ga cb (tI_ x.branches[i].fs) bt Gt :=
      ⟨⟨G,K,by rw [partP_zero]; exact k.to ⟨_,rfl⟩,hN,fun hm=>Nat.lt_irrefl _ (k.ai.sl.lt _ hm),fun hm=>Nat.lt_irrefl _ (k.gsl.lt _ hm)⟩,by rw [hcb]; simp,by simpa using st⟩
    rw [← partP_zero x.branches i (tI_ x.branches[i].fs)]
    generalize tI_ x.branches[i].fs=ti at kC lt hpl hall ⊢
    generalize H++(⟨true,true,47,[.int .i64 x.branches[i].mode,.slice b1 x.branches[i].fs.nodes.length x.branches[i].fs.nodes.length,.slice b2 x.branches[i].fs.data.length x.branches[i].fs.data.length]⟩:Ob) :: u=HC at kC ⊢
    obtain ⟨C,hC⟩:∃ C,C=H.length:=⟨_,rfl⟩
    rw [← hC] at kC ⊢
    have hCB:C≠B:=by omega
    clear k c0 c1 c2 c0' c1' c2' st hN ot hnl hgl
    have kn0:True:=trivial
    refine aloop mixed [2,3,4,6,18,19,20,27,28,29] (fun (y:Nat × Option Addr × Option Addr × Hp)=>[.pointer (some ⟨h.length+1,0,none⟩),.pointer (some ⟨B,0,none⟩),.slice y.2.2.1 (gensOf x.branches (partP x.branches i ti y.1)).length (gensOf x.branches (partP x.branches i ti y.1)).length,.pointer (some ⟨C,0,none⟩),.slice (some ⟨o,off,none⟩) x.branches.length x.branches.length,.int .i64 x.branches.length,.int .i64 i,.slice bt ti.length ti.length,.int .i64 ti.length,.int .i64 y.1]) (fun y=>y.2.2.2)
      (fun y=>y.1≤ti.length∧PQI h0 y.2.2.2 B C x.branches (partP x.branches i ti y.1) y.2.1 y.2.2.1 cb ti bt Gt) (fun y=>ti.length - y.1) (0,a,ga,HC) ⟨by simp,kC⟩ (by simp [pickF]) rfl ?_
    clear kC
    rintro ⟨j,a2,ga2,H2⟩ ⟨hj,⟨⟨G',K',k,hd,hCG,hCK⟩,bx,st⟩⟩
    simp only at hj k bx st
    simp [mkF]
    refine aSI (fun hc2=>?_) (fun hc2=>?_) <;> simp at hc2 <;> simp [hc2]
    · have hle:=partP_len x.branches i ti j
      have hsc:=partP_succ (bs:=x.branches) (i:=i) hc2
      have hi1:=itemsP_len (partP x.branches i ti j)
      have hg1:=gensOf_len x.branches (partP x.branches i ti j)
      obtain ⟨oi,offi,rfl,d0,d1,d2,d3⟩:=itemAt st hc2
      have hCl:C<H2.length:=(List.getElem?_eq_some_iff.1 bx).1
      have cC:∀ l m,cellAt (H2++l) C m=cb[m]?:=fun l m=>by rw [cellAt_ext (Ext.push H2 l) hCl]; simp [cellAt,bx]
      rw [hcb] at cC
      have hpj:=hpl _ (List.getElem_mem hc2)
      simp [hc2,d0,d1,d2,d3,cC]
      have kx:=x0.trans k.ai.ext
      refine cK (genAt_impl_c x.branches[i].fs b1 b2 G1 G2 w tNode _ ((kn.ext kx).to (by simp)) ((kd.ext kx).to (by simp)) hfi ti[j].path (by omega)) ?_
      rintro _ _ ⟨⟨v,rfl⟩,rfl⟩
      have cB:=k.ai.cell
      simp [cB]
      refine cK (itemAt_c (itemsP (partP x.branches i ti j)) ti[j].path a2 G' true _ _ (k.ai.sl.to (by simp)) (by omega)) ?_
      rintro _ _ ⟨⟨v2,rfl⟩,rfl⟩
      have hgz:gen2 x.branches (i,ti[j])=genAt x.branches[i].fs ti[j].path:=hgen _
      rw [← hgz]
      have kF:PT h0 (H2++⟨true,true,38,[.string (S ti[j].path),.int .i64 ti[j].kind,.string (S ti[j].data),.int .i64 ti[j].time]⟩ :: (v++v2)) B (itemsP (partP x.branches i ti j)) (gensOf x.branches (partP x.branches i ti j)) a2 ga2 G' K':=k.to ⟨_,rfl⟩
      simp
      rcases part_find x.branches (i,ti[j]) (partP x.branches i ti j) with ⟨f1,f2,f3⟩ | ⟨m,hm,f1,f2,f3⟩
      · simp only at f1 f2
        rw [← hsc] at f2 f3
        obtain ⟨a3,H3,q1',q2,ga3,H4,q3,G5,K5,k5,sd,s1,s2⟩:=kF.app ti[j] (gen2 x.branches (i,ti[j])) (by omega) (by omega)
        simp at q1'
        simp [f1,cB,q1',q2,q3]
        rw [← f2,← f3] at k5
        have hi2:=itemsP_len (partP x.branches i ti (j+1))
        have hg2:=gensOf_len x.branches (partP x.branches i ti (j+1))
        have hg3:(gensOf x.branches (partP x.branches i ti (j+1))).length=(gensOf x.branches (partP x.branches i ti j)).length+1:=by rw [f3]; simp
        refine anext (j+1,a3,ga3,H4) ⟨hc2,⟨⟨G5,K5,k5,fun q hq=>?_,fun hm=>?_,fun hm=>?_⟩,?_,?_⟩⟩ (by simp only; omega) (by simp [pickF,hg3,wS (show j<9223372036854775807 by omega)]) rfl (by simp)
        · have h1:=st.lt q hq
          obtain ⟨h2,h3,h4⟩:=hd q hq
          exact ⟨fun hm=>(s1 q hm).elim h2 (fun h5=>by simp at h5; omega),fun hm=>(s2 q hm).elim h3 (fun h5=>by simp at h5; omega),h4⟩
        · exact (s1 C hm).elim hCG (fun h5=>by simp at h5; omega)
        · exact (s2 C hm).elim hCK (fun h5=>by simp at h5; omega)
        · simp only
          rw [sd.2 C (by simp; omega) hCG hCK hCB,List.getElem?_append_left hCl]
          exact bx
        · exact sd.sl (st.to ⟨_,rfl⟩) hd
      · simp only at f1 f2
        have hmi:m<(itemsP (partP x.branches i ti j)).length:=by omega
        have hmg:m<(gensOf x.branches (partP x.branches i ti j)).length:=by omega
        obtain ⟨oa,offa,rfl,-⟩:=itemAt kF.ai.sl hmi
        obtain ⟨og,offg,rfl,cg⟩:=intEAt kF.gsl hmg
        have hgm:(gensOf x.branches (partP x.branches i ti j))[m]=gen2 x.branches (partP x.branches i ti j)[m]:=by simp [gensOf]
        rw [hgm] at cg
        have hm0:¬ ((m:Int)<0):=by omega
        simp [f1,hm0,hmg,cg]
        refine aSI (fun he=>?_) (fun he=>?_) <;> have he':=he <;> simp at he <;> simp [he']
        · obtain ⟨e1',e2'⟩:=f2 he
          rw [← hsc] at e1' e2'
          obtain ⟨c1x,c2x,k5,sd⟩:=kF.put ti[j] (gen2 x.branches (i,ti[j])) hmi hmg
          rw [← e1',← e2'] at k5
          have hg3:(gensOf x.branches (partP x.branches i ti (j+1))).length=(gensOf x.branches (partP x.branches i ti j)).length:=by rw [e2']; simp
          simp [cB,hmi,hmg,c1x,c2x]
          refine anext (j+1,some ⟨oa,offa,none⟩,some ⟨og,offg,none⟩,sA_ (sA_ (H2++⟨true,true,38,[.string (S ti[j].path),.int .i64 ti[j].kind,.string (S ti[j].data),.int .i64 ti[j].time]⟩ :: (v++v2)) oa (offa+m * 4) [.string (S ti[j].path),.int .i64 ti[j].kind,.string (S ti[j].data),.int .i64 ti[j].time]) og (offg+m) [.int .i64 (gen2 x.branches (i,ti[j]))]) ⟨hc2,⟨⟨G',K',k5,hd,hCG,hCK⟩,?_,?_⟩⟩ (by simp only; omega) (by simp [pickF,hg3,wS (show j<9223372036854775807 by omega)]) rfl (by simp)
          · simp only
            rw [sd.2 C (by simp; omega) hCG hCK hCB,List.getElem?_append_left hCl]
            exact bx
          · exact sd.sl (st.to ⟨_,rfl⟩) hd
        · have e3:=f3 (by omega)
          rw [← hsc] at e3
          refine anext (j+1,some ⟨oa,offa,none⟩,some ⟨og,offg,none⟩,_) ⟨hc2,⟨⟨G',K',by simp only; rw [e3]; exact kF,hd,hCG,hCK⟩,?_,?_⟩⟩ (by simp only; omega) (by simp [pickF,e3,wS (show j<9223372036854775807 by omega)]) rfl (by simp)
          · simp only
            rw [List.getElem?_append_left hCl]
            exact bx
          · exact st.to ⟨_,rfl⟩
    · obtain rfl:j=ti.length:=by omega
      rw [hall] at k
      exact anext (i+1,a2,ga2,H2) ⟨hc,⟨G',K',k⟩⟩ (by simp only; omega) (by simp [pickF,hall,wS (show i<9223372036854775807 by omega)]) rfl (by simp)
  · obtain rfl:i=x.branches.length:=by omega
    have cB0:=k.ai.cell []
    simp only [List.append_nil] at cB0
    have hlk:=k.ai.len
    have hle:=partF_len x.branches x.branches.length
    have hi1:=itemsP_len (partF x.branches x.branches.length)
    simp [cB0]
    refine cK (sortFunc_c (itemsP (partF x.branches x.branches.length)) a G H k.ai.sl k.ai.nd (by omega)) ?_
    rintro _ H5 ⟨rfl,ys,hperm,hord,sl2,hl2,keep⟩
    have hys:=poolTree_of e1 hperm hord
    have hyl:ys.length=(itemsP (partF x.branches x.branches.length)).length:=hperm.length_eq
    have n1:h.length+1 ∉ G:=fun hm=>by have:=k.ai.nw _ hm; omega
    have n2:B ∉ G:=fun hm=>by have:=k.ai.nw _ hm; omega
    have y1:H5[h.length+1]?=some ⟨true,true,32,[.slice none 0 0]⟩:=by
      rw [keep _ n1,k.ai.ext.2 _ (by omega)]; exact q1
    have y2:cellAt H5 B 0=some (.slice a (itemsP (partF x.branches x.branches.length)).length (itemsP (partF x.branches x.branches.length)).length):=by
      have:H5[B]?=some ⟨true,true,32,[.slice a (itemsP (partF x.branches x.branches.length)).length (itemsP (partF x.branches x.branches.length)).length]⟩:=by rw [keep _ n2]; exact k.ai.ab
      simp [cellAt,this]
    rw [← hyl] at y2
    have hc1:cS_ H5 (h.length+1) 0 1=true:=by simp [cS_,y1]
    have hr1:cellAt (sA_ H5 (h.length+1) 0 [.slice a ys.length ys.length]) (h.length+1) 0=some (.slice a ys.length ys.length):=cell_after hc1
    simp [y2,hc1,hr1]
    rw [← hys]
    have hne:∀ q,q≠h.length+1→(sA_ H5 (h.length+1) 0 [.slice a ys.length ys.length])[q]?=H5[q]?:=fun q hq=>by rw [sAg,if_neg (fun e=>hq e.symm)]
    have hxl:=(x0.trans k.ai.ext).1
    refine ⟨a,⟨rfl,rfl⟩,G,⟨by rw [sAl,hl2]; exact hxl,fun q hq=>?_⟩,sl2.frame fun q hq=>hne q (fun e=>n1 (e ▸ hq)),k.ai.nd,fun q hq=>by have:=k.ai.nw q hq; omega⟩
    rw [hne q (by omega),keep q (fun hm=>by have:=k.ai.nw q hm; omega)]
    exact (x0.trans k.ai.ext).2 q hq
end
end Go.Proofs.YtmpgpkdijfcfhaaGreat.Hz
