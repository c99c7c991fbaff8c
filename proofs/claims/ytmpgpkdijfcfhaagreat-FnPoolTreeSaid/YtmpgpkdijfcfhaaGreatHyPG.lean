/- The draw of a right pool: the walk. -/
import Derived.Test.YtmpgpkdijfcfhaaGreatHyJD
import Derived.Test.YtmpgpkdijfcfhaaGreatHyHG
import Derived.Test.YtmpgpkdijfcfhaaGreatHyGI
import Derived.Test.YtmpgpkdijfcfhaaGreatHyGS
namespace Go.Proofs.YtmpgpkdijfcfhaaGreat.Hz
open Go.RowKit
set_option linter.unusedVariables false
set_option linter.unusedSimpArgs false
set_option maxRecDepth 20000
set_option maxHeartbeats 8000000 in
theorem l12Right_c (c:Nat) (h:Hp) (d:Draw h c) :
    ACall Tryz.prog 80 [.pointer (some ⟨c,0,none⟩)] h fun r h'=>PRes h c h' r:=by
  refine acall mixed Tryz.func80 rfl (by kernel_rfl) ?_
  have hc:=d.lt
  simp -implicitDefEqProofs [Tryz.f80]
  obtain ⟨h1,hh1⟩:∃ h1:Hp,h1=h++[⟨true,true,28,[.int .i64 0,.int .i64 0,.slice none 0 0,.bool false,.bool false,.int .i64 0,.int .i64 0,.string (S []),.int .i64 0,.int .i64 0]⟩]:=⟨_,rfl⟩
  have d1:Draw h1 c:=by rw [hh1]; exact d.ext (Ext.push _ _)
  have hl1:h1.length=h.length+1:=by rw [hh1]; simp
  have hc1:c<h1.length:=by omega
  have res1:h1[h.length]?=some ⟨true,true,28,[.int .i64 0,.int .i64 0,.slice none 0 0,.bool false,.bool false,.int .i64 0,.int .i64 0,.string (S []),.int .i64 0,.int .i64 0]⟩:=by rw [hh1]; simp
  have x1:Ext h h1:=by rw [hh1]; exact Ext.push _ _
  rw [← hh1]
  refine cK (l1Below_c 6 c h1 d1) ?_
  rintro _ H2 ⟨dr2,d2,po,rfl,-,-,-⟩
  simp -implicitDefEqProofs
  have hp:=pick_c [0,0,1,4] c H2 d2 (by decide) (by decide)
  simp only [List.map_cons,List.map_nil,List.length_cons,List.length_nil,Nat.zero_add,Nat.reduceAdd] at hp
  refine cK hp ?_
  rintro _ H3 ⟨dr3,d3,mi,-,rfl⟩
  simp -implicitDefEqProofs
  have dr13:=dr2.trans dr3
  have hl3:=dr13.1
  have L:PX h1 c H3.length (H3++[⟨true,true,28,[.int .i64 po,.int .i64 mi,.slice none 0 0,.bool false,.bool false,.int .i64 0,.int .i64 0,.string (S []),.int .i64 0,.int .i64 0]⟩]) ⟨po,mi,[],move0⟩ none [] :=
    ⟨dr13.trans (Dr.of_ext (Ext.push _ _)),d3.ext (Ext.push _ _),⟨rfl,rfl⟩,List.nodup_nil,fun q hq=>(by cases hq),by simp [poolC,move0],by simp,hl3⟩
  obtain ⟨B,hB⟩:∃ B,B=H3.length:=⟨_,rfl⟩
  generalize hHb:H3++[(⟨true,true,28,[.int .i64 po,.int .i64 mi,.slice none 0 0,.bool false,.bool false,.int .i64 0,.int .i64 0,.string (S []),.int .i64 0,.int .i64 0]⟩:Ob)]=Hb at L ⊢
  rw [← hB] at L ⊢
  clear hHb dr2 dr3 d2 d3 hp dr13
  refine cK (l1Below_c 3 c Hb L.d) ?_
  rintro _ H4 ⟨dr4,d4,z,rfl,hz0,hz1,-⟩
  have hz1:=hz1 (by omega)
  obtain ⟨n,hn⟩:∃ n:Nat,1+z=n:=⟨(1+z).toNat,by omega⟩
  have hwn:IntKind.i64.wrap (1+z)=(n:Int):=by rw [wrap_in (by omega) (by omega)]; exact hn
  have L4:=L.step hc1 dr4 d4
  simp -implicitDefEqProofs [hwn]
  refine aloop mixed [0,2,3,4,5] (fun (y:Nat × Hp)=>[.pointer (some ⟨c,0,none⟩),.pointer (some ⟨h.length,0,none⟩),.pointer (some ⟨B,0,none⟩),.int .i64 n,.int .i64 y.1]) (fun y=>y.2) (fun y=>y.1≤n∧PL h1 c B y.1 y.2) (fun y=>n - y.1) (0,H4) ⟨by simp,_,_,_,L4,rfl,⟨by simp,fun y hy=>(by cases hy),by simp [move0]⟩,rfl⟩ rfl rfl ?_
  clear L L4 dr4 d4
  rintro ⟨i,H⟩ ⟨hi,x,a,G,LH,hxl,hbd,hmv⟩
  simp only at hi LH
  simp -implicitDefEqProofs [mkF]
  refine aSI (fun hcc=>?_) (fun hcc=>?_) <;> simp at hcc <;> simp -implicitDefEqProofs [hcc]
  · have hp1:=pick_c [4,6,9] c H LH.d (by decide) (by decide)
    simp only [List.map_cons,List.map_nil,List.length_cons,List.length_nil,Nat.zero_add,Nat.reduceAdd] at hp1
    refine cK hp1 ?_
    rintro _ H5 ⟨dr5,d5,nn,hnn,rfl⟩
    have L5:=LH.step hc1 dr5 d5
    simp -implicitDefEqProofs
    have hp2:=pick_c [5,9,16] c H5 L5.d (by decide) (by decide)
    simp only [List.map_cons,List.map_nil,List.length_cons,List.length_nil,Nat.zero_add,Nat.reduceAdd] at hp2
    refine cK hp2 ?_
    rintro _ H6 ⟨dr6,d6,dd,hdd,rfl⟩
    have L6:=L5.step hc1 dr6 d6
    obtain ⟨nN,rfl⟩:∃ k:Nat,nn=k:=⟨nn.toNat,by simp at hnn; omega⟩
    obtain ⟨dN,rfl⟩:∃ k:Nat,dd=k:=⟨dd.toNat,by simp at hdd; omega⟩
    simp at hnn hdd
    simp -implicitDefEqProofs
    refine cK (fsNew_spec_c nN dN H6 (by omega) (by omega)) ?_
    rintro _ H7 ⟨_,rfl,e1,K1,e2,K2,rfl,o1,o2,dj⟩
    have L7:=L6.step hc1 (Dr.of_ext o1.ext) (L6.d.ext o1.ext)
    have hBl:=get_lt L7.box
    have hBh:=LH.dr.1
    have hH7:=L7.dr.1
    simp -implicitDefEqProofs
    have Bf:FB (H7++[⟨true,true,45,[.slice e1 (freshFs nN dN).nodes.length (freshFs nN dN).nodes.length,.slice e2 (freshFs nN dN).data.length (freshFs nN dN).data.length]⟩]) H7.length (freshFs nN dN) e1 e2 K1 K2:=FB.res o1 o2
    have L8:=L7.step hc1 (Dr.of_ext (Ext.push H7 [⟨true,true,45,[.slice e1 (freshFs nN dN).nodes.length (freshFs nN dN).nodes.length,.slice e2 (freshFs nN dN).data.length (freshFs nN dN).data.length]⟩])) (L7.d.ext (Ext.push _ _))
    have c8:=L8.cells
    have f8:=Bf.cells
    have f8X:=Bf.cellsX
    have c8X:∀ l j,cellAt ((H7++[⟨true,true,45,[.slice e1 (freshFs nN dN).nodes.length (freshFs nN dN).nodes.length,.slice e2 (freshFs nN dN).data.length (freshFs nN dN).data.length]⟩])++l) B j=(poolC x x.branches.length a)[j]?:=fun l=>(L8.step hc1 (Dr.of_ext (Ext.push _ l)) (L8.d.ext (Ext.push _ l))).cells
    obtain ⟨bf,hbf⟩:∃ bf,bf=H7.length:=⟨_,rfl⟩
    generalize hH8:H7++[(⟨true,true,45,[.slice e1 (freshFs nN dN).nodes.length (freshFs nN dN).nodes.length,.slice e2 (freshFs nN dN).data.length (freshFs nN dN).data.length]⟩:Ob)]=H8 at Bf L8 c8 f8 f8X c8X ⊢
    rw [← hbf] at Bf f8 f8X ⊢
    have hKK:∀ q∈K1++K2,H6.length≤q:=fun q hq=>(List.mem_append.1 hq).elim (o1.new q) (o2.new q)
    have hG6:∀ q∈G,q<H6.length:=fun q hq=>L6.sl.lt q hq
    have hB6:B<H6.length:=get_lt L6.box
    have hl6:h1.length≤H6.length:=L6.dr.1
    have h78:H7.length<H8.length:=by rw [← hH8]; simp
    have ndK:(K1++K2).Nodup:=List.nodup_append.2 ⟨o1.nd,o2.nd,fun p hp q hq e=>dj p hp (e ▸ hq)⟩
    have hKl:∀ q∈K1++K2,h1.length≤q:=fun q hq=>by have:=hKK q hq; omega
    have hG8:∀ q∈G,q<H8.length:=fun q hq=>by have:=hG6 q hq; have:=o1.ext.1; omega
    have hbf':h1.length≤bf:=by rw [hbf]; have:=o1.ext.1; omega
    have hBb:h1.length≤B:=L8.hb
    have hB8:B<H8.length:=get_lt L8.box
    refine drawI (S7 h1 c B H8.length x a (freshFs nN dN) e1 e2) (I7 h1 c B bf H8.length x a G (freshFs nN dN) e1 e2 K1 K2) [[],[0],[],[],[2,3],[],[4,5],[6],[1,7],[],[8,9]] (by simp; rfl) (by kernel_rfl) ⟨Nat.le_refl _,fun _=>⟨L8,Bf⟩,fun h=>(by cases h),fun h=>(by cases h)⟩ ?_ (rl:=[0,1,2,3,4,5,6,7,8,9,10]) (by rfl) ?_
    · clear c8 f8 f8X c8X
      have hl8:h1.length≤H8.length:=L8.dr.1
      refine ⟨?_,?_,?_,?_,?_,?_,?_,?_,?_,?_,?_,trivial⟩ <;> rintro D H hD hdn hpre hI
      · simp -implicitDefEqProofs [dAc,dAn,S7]
        exact ⟨hI.same (by simp) (by simp),Keep.refl _ _ _⟩
      · have q:=(hI.p0 (hdn.not 1 8 (by kernel_rfl) hD)).1.cells
        simp only [poolC] at q
        simp -implicitDefEqProofs [dAc,dAn,S7,q]
        exact ⟨hI.same (by simp) (by simp),Keep.refl _ _ _⟩
      · simp -implicitDefEqProofs [dAc,dAn,S7]
        exact ⟨hI.same (by simp) (by simp),Keep.refl _ _ _⟩
      · have h8:=hdn.not 3 8 (by kernel_rfl) hD
        have L:=(hI.p0 h8).1
        have s:=lit_ints [0,0,0,0,1,2] H
        simp only [List.map_cons,List.map_nil] at s
        simp -implicitDefEqProofs [dAc,dAn,S7]
        exact ⟨⟨hI.le,s⟩,hI.dr h8 (hdn.not 3 10 (by kernel_rfl) hD) (by simp) (by simp) hc1 hbf' hKl (Dr.of_ext (Ext.push _ _)) (L.d.ext (Ext.push _ _)),fun j v _=>S7.dr hl8 hc1 (Dr.of_ext (Ext.push _ _)) j v⟩
      · have h8:=hdn.not 4 8 (by kernel_rfl) hD
        have L:=(hI.p0 h8).1
        simp -implicitDefEqProofs [dAc,dAn,S7]
        rintro _ o rfl ho s
        have hp:=l1PickInt_c c _ (some ⟨o,0,none⟩) [o] true _ [0,0,0,0,1,2] s (by simp; omega) (by decide) (by decide) L.d
        simp only [List.length_cons,List.length_nil,Nat.zero_add,Nat.reduceAdd] at hp
        refine cK hp ?_
        rintro _ H' ⟨dr,d,z,-,rfl⟩
        simp -implicitDefEqProofs
        exact ⟨hI.dr h8 (hdn.not 4 10 (by kernel_rfl) hD) (by simp) (by simp) hc1 hbf' hKl dr d,fun j v _=>S7.dr hl8 hc1 dr j v⟩
      · have q:=(hI.p0 (hdn.not 5 8 (by kernel_rfl) hD)).2.cells
        simp -implicitDefEqProofs [dAc,dAn,S7,q]
        exact ⟨hI.same (by simp) (by simp),Keep.refl _ _ _⟩
      · simp -implicitDefEqProofs [dAc,dAn,S7]
        exact ⟨hI.same (by simp) (by simp),Keep.refl _ _ _⟩
      · have h8:=hdn.not 7 8 (by kernel_rfl) hD
        have L:=(hI.p0 h8).1
        simp -implicitDefEqProofs [dAc,dAn,S7]
        intro z
        exact ⟨hI.le,hI.dr h8 (hdn.not 7 10 (by kernel_rfl) hD) (by simp) (by simp) hc1 hbf' hKl (Dr.of_ext (Ext.push _ _)) (L.d.ext (Ext.push _ _)),fun j v _=>S7.dr hl8 hc1 (Dr.of_ext (Ext.push _ _)) j v⟩
      · obtain ⟨L,Bb⟩:=hI.p0 hD
        have hle:=hI.le
        simp -implicitDefEqProofs [dAc,dAn,S7]
        rintro _ o rfl ho z hz
        obtain ⟨a',H',eq,hl,same,F',s,nd,w,m⟩:=L.appAt ⟨z,freshFs nN dN⟩ e1 e2 K1 K2 Bb.s1 Bb.s2 ndK (fun q hq=>⟨hKl q hq,fun hm=>by have:=hKK q hq; have:=hG6 q hm; omega,by have:=hKK q hq; omega⟩) (by omega) o hz
        simp -implicitDefEqProofs [eq]
        have dr':Dr c h1 H':=⟨by have:=L.dr.1; omega,fun q hq hn=>by rw [same q (by omega) (fun hm=>by have:=L.w q hm; omega)]; exact L.dr.2 q hq hn⟩
        refine ⟨⟨z,F',s,nd,w,m⟩,⟨by omega,fun h=>(by simp at h),fun _ _=>⟨dr',L.d.frame fun q hq=>same q (by omega) (fun hm=>by have:=L.w q hm; omega),by rw [same B (get_lt L.box) L.m]; exact L.box⟩,fun h=>?_⟩,fun j v hj=>S7.app hG8 hle same j v (fun e=>by rw [e,hD] at hj; cases hj)⟩
        have:=hdn.not 8 10 (by kernel_rfl) hD
        simp [this] at h
      · simp -implicitDefEqProofs [dAc,dAn,S7]
        exact ⟨hI.same (by simp) (by simp),Keep.refl _ _ _⟩
      · have h8:=pre_of hpre 8 (by kernel_rfl)
        obtain ⟨dr,d,bx⟩:=hI.p1 h8 hD
        simp -implicitDefEqProofs [dAc,dAn,S7]
        rintro _ a' rfl z G' s nd w m
        have st:=PX.row hc1 hBb dr d bx s nd w m
        simp only [List.length_append,List.length_cons,List.length_nil,Nat.zero_add] at st
        simp -implicitDefEqProofs [st.1]
        exact ⟨⟨by rw [sAl]; exact hI.le,fun h=>(by simp [h8] at h),fun _ h=>(by simp at h),fun _=>⟨z,a',G',st.2⟩⟩,fun j v _=>S7.store hB8 _ _ j v⟩
    · intro D H' hall hI
      obtain ⟨z,a',G',L9⟩:=hI.p2 (hall 10 (by simp))
      clear hI hall
      simp -implicitDefEqProofs [dAc,dAn,S7]
      intros
      have hfn:=freshFs_nl nN dN (by omega)
      have hin:i<n:=hcc
      refine anext (i+1,H') ⟨by simp only; omega,{ x with branches:=x.branches++[⟨z,freshFs nN dN⟩] },a',G',L9,by simp [hxl],hbd.app (by omega) z (by omega),hmv⟩ (by simp only; omega) (by simp [pickF,wS (show i<9223372036854775807 by omega)]) rfl (by simp)
  · -- all branches are made
    have hin:i=n:=by omega
    subst hin
    have hi1:1≤i:=by omega
    have hi3:i≤3:=by omega
    refine cK (l1Below_c 9 c H LH.d) ?_
    rintro _ H5 ⟨dr5,d5,mz,rfl,hm0,hm9,-⟩
    have hm9:=hm9 (by omega)
    have L5:=LH.step hc1 dr5 d5
    obtain ⟨many,rfl⟩:∃ k:Nat,mz=k:=⟨mz.toNat,by omega⟩
    have hmany:many<9:=by omega
    have out:∀ (H:Hp) (x:Pool) (a:Option Addr) (G:List Nat),PX h1 c B H x a G→PBd x→x.branches.length=i→(∀ j,cellAt H B j=(poolC x i a)[j]?)∧cS_ H h.length 0 10=true∧(∀ j,cellAt (sA_ H h.length 0 (poolC x i a)) h.length j=(poolC x i a)[j]?)∧PRes h c (sA_ H h.length 0 (poolC x i a)) (.agg (poolC x i a).toArray):=by
      intro H x a G L hb hxl
      subst hxl
      have hr:H[h.length]?=some ⟨true,true,28,[.int .i64 0,.int .i64 0,.slice none 0 0,.bool false,.bool false,.int .i64 0,.int .i64 0,.string (S []),.int .i64 0,.int .i64 0]⟩:=by rw [L.dr.2 _ (by omega) (by omega)]; exact res1
      have hne:∀ q,q≠h.length→(sA_ H h.length 0 (poolC x x.branches.length a))[q]?=H[q]?:=fun q hq=>by rw [sAg,if_neg (fun e=>hq e.symm)]
      have hself:(sA_ H h.length 0 (poolC x x.branches.length a))[h.length]?=some ⟨true,true,28,poolC x x.branches.length a⟩:=by
        rw [sAg,if_pos rfl,hr]
        rfl
      have hdl:=L.dr.1
      exact ⟨L.cells,by simp [cS_,hr],fun j=>by simp [cellAt,hself],x,a,G,rfl,⟨by rw [sAl]; omega,fun q hq hn=>by rw [hne q (by omega),L.dr.2 q (by omega) hn]; exact x1.2 q hq⟩,L.d.frame fun q hq=>hne q (by omega),L.sl.frame fun q hq=>hne q (by have:=L.w q hq; omega),L.nd,fun q hq=>by have:=L.w q hq; omega,hb,hi1⟩
    simp -implicitDefEqProofs
    refine aloop mixed [0,2,3,4,8,9] (fun (y:Nat × Hp)=>[.pointer (some ⟨c,0,none⟩),.pointer (some ⟨h.length,0,none⟩),.pointer (some ⟨B,0,none⟩),.int .i64 i,.int .i64 many,.int .i64 y.1]) (fun y=>y.2) (fun y=>y.1≤many∧PL h1 c B i y.2) (fun y=>many - y.1) (0,H5) ⟨by simp,x,a,G,L5,hxl,hbd,hmv⟩ rfl rfl ?_
    clear L5 LH dr5 d5 hxl hbd hmv x a G H H5
    rintro ⟨j,H⟩ ⟨hj,x,a,G,L,hxl,hbd,hmv⟩
    simp only at hj L
    simp -implicitDefEqProofs [mkF]
    refine aSI (fun hcc=>?_) (fun hcc=>?_) <;> simp at hcc <;> simp -implicitDefEqProofs [hcc]
    · -- one more thing
      refine cK (l1Below_c i c H L.d) ?_
      rintro _ H6 ⟨dr6,d6,bz,rfl,hb0,hb1,-⟩
      have L6:=L.step hc1 dr6 d6
      obtain ⟨b,rfl⟩:∃ k:Nat,bz=k:=⟨bz.toNat,by omega⟩
      have hbi:b<i:=by have:=hb1 (by omega); omega
      simp -implicitDefEqProofs
      refine cK (l2Paths_c H6) ?_
      rintro _ H7 ⟨ap,Fp,rfl,op⟩
      have L7:=L6.step hc1 (Dr.of_ext op.ext) (L6.d.ext op.ext)
      simp -implicitDefEqProofs
      refine cK (l1Pick_c c H7 ap Fp true _ paths10 op.sl (fun hm=>by have:=op.new _ hm; have:=L6.d.lt; omega) (by decide) (by decide) L7.d) ?_
      rintro _ H8 ⟨dr8,d8,path,hpath,rfl⟩
      have L8:=L7.step hc1 dr8 d8
      have hps:path.length≤6:=(show ∀ s∈paths10,s.length≤6 by decide) path hpath
      simp -implicitDefEqProofs
      have hp1:=pick_c [1,1,1,2,3] c H8 L8.d (by decide) (by decide)
      simp only [List.map_cons,List.map_nil,List.length_cons,List.length_nil,Nat.zero_add,Nat.reduceAdd] at hp1
      refine cK hp1 ?_
      rintro _ H9 ⟨dr9,d9,kind,-,rfl⟩
      have L9:=L8.step hc1 dr9 d9
      clear L L6 L7 L8 dr6 d6 dr8 d8 dr9 d9 op hp1
      have q9:=L9.cells
      simp only [poolC] at q9
      have hnl:=hbd.nl
      simp -implicitDefEqProofs [q9]
      refine cK (l12Holders_c x a G true _ _ H9 L9.sl hnl path (by omega)) ?_
      rintro _ H10 ⟨ah,Gh,rfl,oh⟩
      have L10:=L9.step hc1 (Dr.of_ext oh.ext) (L9.d.ext oh.ext)
      have q10:=L10.cells
      simp only [poolC] at q10
      simp -implicitDefEqProofs
      have hbx:b<x.branches.length:=by omega
      refine aSI (fun hlq=>?_) (fun hlq=>?_) <;> have hlq':=hlq <;> simp at hlq <;> simp -implicitDefEqProofs [hlq']
      · -- somebody has it
        have hlen:0<(asInts (holdTo x.branches path x.branches.length)).length:=by simpa using hlq'
        have hlen2:0<(holdTo x.branches path x.branches.length).length:=by rw [asInts_len] at hlen; exact hlen
        obtain ⟨k,hk,hkl⟩:∃ k:Nat,(asInts (holdTo x.branches path x.branches.length))[0]=(k:Int)∧k<x.branches.length:=⟨(holdTo x.branches path x.branches.length)[0],by simp [asInts],(holdTo_iff.1 (List.getElem_mem hlen2)).1⟩
        obtain ⟨oi,offi,rfl,ck⟩:=intEAt oh.sl hlen
        rw [hk] at ck
        simp only [Nat.add_zero] at ck
        obtain ⟨o,off,d1,E1,d2,E2,rfl,c0,c1,c2,kn,kd,-,-⟩:=branchAt L10.sl hkl
        refine drawK true (by kernel_rfl) ?_
        simp -implicitDefEqProofs [q10,ck,hkl,hlen,c1,c2]
        refine callK (kindAt_spec_c x.branches[k].fs d1 d2 E1 E2 true _ H10 kn kd (by have:=hbd.nl_ _ (List.getElem_mem hkl); omega) path (by omega)) ?_
        rintro _ _ ⟨⟨t11,rfl⟩,rfl⟩
        refine ⟨fun _=>Ext.push _ _,?_⟩
        have L11:=L10.step hc1 (Dr.of_ext (Ext.push H10 t11)) (L10.d.ext (Ext.push _ _))
        generalize kindAt x.branches[k].fs path=kind2
        generalize H10++t11=H11 at L11 ⊢
        try simp -implicitDefEqProofs
        refine aSI (fun hk2=>?_) (fun hk2=>?_) <;> have hk2':=hk2 <;> simp at hk2 <;> simp -implicitDefEqProofs [hk2']
        · have qa:=L11.cells
          simp only [poolC] at qa
          simp -implicitDefEqProofs [qa]
          have hbw:=hbd.set (i:=b) x.branches[b].mode (fsPlace_nlN (Nat.le_refl 1000) x.branches[b].fs path kind2 [] 0 0 (hbd.nl_ _ (List.getElem_mem hbx)))
          refine cK (l12With_c x _ G true _ _ H11 L11.sl hnl (by omega) b hbx path kind2 [] 0 0 (by omega) (by simp) hbw.nl) ?_
          rintro _ H12 ⟨ex,hr⟩
          rcases hr with rfl | ⟨a',G',rfl,ow⟩
          · obtain ⟨cs,L13⟩:=L11.store hc1 ex (y:=x) (L11.sl.ext ex) L11.nd (fun q hq=>.inl hq)
            simp -implicitDefEqProofs [cs]
            exact anext (j+1,sA_ H12 B 0 (poolC x x.branches.length _)) ⟨hcc,x,_,G,L13,hxl,hbd,hmv⟩ (by simp only; omega) (by simp [pickF,wS (show j<9223372036854775807 by omega)]) rfl (by simp)
          · obtain ⟨cs,L13⟩:=PX.store (y:={ x with branches:=_ }) L11 hc1 ex ow.sl ow.nd (fun q hq=>.inr (ow.new q hq))
            simp only [List.length_set] at L13
            simp -implicitDefEqProofs [cs]
            exact anext (j+1,sA_ H12 B 0 (poolC x x.branches.length a')) ⟨hcc,_,a',G',L13,by simp [hxl],hbw,hmv⟩ (by simp only; omega) (by simp [pickF,wS (show j<9223372036854775807 by omega)]) rfl (by simp)
        · have qa:=L11.cells
          simp only [poolC] at qa
          have qx:∀ l j,cellAt (H11++l) B j=(poolC x x.branches.length _)[j]?:=fun l=>(L11.step hc1 (Dr.of_ext (Ext.push _ l)) (L11.d.ext (Ext.push _ l))).cells
          simp only [poolC] at qx
          refine drawLA false [1,2,3,4,5,6,7,8,9] [0] [10,11] (by simp; rfl) (by simp; rfl) (by simp; rfl) (by kernel_rfl) rfl ?_
          simp -implicitDefEqProofs [qa,qx]
          refine cK (l7Text_c c H11 L11.d) ?_
          rintro _ Ha ⟨dra,da,s,rfl,hs⟩
          have La:=L11.step hc1 dra da
          have ra:=La.cells
          simp only [poolC] at ra
          simp -implicitDefEqProofs [ra]
          refine cK (l1Below_c 9 c Ha La.d) ?_
          rintro _ Hb ⟨drb,db,tz,rfl,-,-,-⟩
          have Lb:=La.step hc1 drb db
          have rb:=Lb.cells
          simp only [poolC] at rb
          simp -implicitDefEqProofs [rb]
          refine cK (l1Below_c 5 c Hb Lb.d) ?_
          rintro _ Hc ⟨drc,dc,gz,rfl,-,-,-⟩
          have Lc:=Lb.step hc1 drc dc
          have rc:=Lc.cells
          simp only [poolC] at rc
          simp -implicitDefEqProofs [rc]
          have hbw:=hbd.set (i:=b) x.branches[b].mode (fsPlace_nlN (Nat.le_refl 1000) x.branches[b].fs path kind2 s tz gz (hbd.nl_ _ (List.getElem_mem hbx)))
          refine cK (l12With_c x _ G true _ _ Hc Lc.sl hnl (by omega) b hbx path kind2 s tz gz (by omega) (by omega) hbw.nl) ?_
          rintro _ H12 ⟨ex,hr⟩
          rcases hr with rfl | ⟨a',G',rfl,ow⟩
          · obtain ⟨cs,L13⟩:=Lc.store hc1 ex (y:=x) (Lc.sl.ext ex) Lc.nd (fun q hq=>.inl hq)
            simp -implicitDefEqProofs [cs]
            exact anext (j+1,sA_ H12 B 0 (poolC x x.branches.length _)) ⟨hcc,x,_,G,L13,hxl,hbd,hmv⟩ (by simp only; omega) (by simp [pickF,wS (show j<9223372036854775807 by omega)]) rfl (by simp)
          · obtain ⟨cs,L13⟩:=PX.store (y:={ x with branches:=_ }) Lc hc1 ex ow.sl ow.nd (fun q hq=>.inr (ow.new q hq))
            simp only [List.length_set] at L13
            simp -implicitDefEqProofs [cs]
            exact anext (j+1,sA_ H12 B 0 (poolC x x.branches.length a')) ⟨hcc,_,a',G',L13,by simp [hxl],hbw,hmv⟩ (by simp only; omega) (by simp [pickF,wS (show j<9223372036854775807 by omega)]) rfl (by simp)
      · -- nobody has it
        refine aSI (fun hk2=>?_) (fun hk2=>?_) <;> have hk2':=hk2 <;> simp at hk2 <;> simp -implicitDefEqProofs [hk2']
        · have qa:=L10.cells
          simp only [poolC] at qa
          simp -implicitDefEqProofs [qa]
          have hbw:=hbd.set (i:=b) x.branches[b].mode (fsPlace_nlN (Nat.le_refl 1000) x.branches[b].fs path kind [] 0 0 (hbd.nl_ _ (List.getElem_mem hbx)))
          refine cK (l12With_c x _ G true _ _ H10 L10.sl hnl (by omega) b hbx path kind [] 0 0 (by omega) (by simp) hbw.nl) ?_
          rintro _ H12 ⟨ex,hr⟩
          rcases hr with rfl | ⟨a',G',rfl,ow⟩
          · obtain ⟨cs,L13⟩:=L10.store hc1 ex (y:=x) (L10.sl.ext ex) L10.nd (fun q hq=>.inl hq)
            simp -implicitDefEqProofs [cs]
            exact anext (j+1,sA_ H12 B 0 (poolC x x.branches.length _)) ⟨hcc,x,_,G,L13,hxl,hbd,hmv⟩ (by simp only; omega) (by simp [pickF,wS (show j<9223372036854775807 by omega)]) rfl (by simp)
          · obtain ⟨cs,L13⟩:=PX.store (y:={ x with branches:=_ }) L10 hc1 ex ow.sl ow.nd (fun q hq=>.inr (ow.new q hq))
            simp only [List.length_set] at L13
            simp -implicitDefEqProofs [cs]
            exact anext (j+1,sA_ H12 B 0 (poolC x x.branches.length a')) ⟨hcc,_,a',G',L13,by simp [hxl],hbw,hmv⟩ (by simp only; omega) (by simp [pickF,wS (show j<9223372036854775807 by omega)]) rfl (by simp)
        · have qa:=L10.cells
          simp only [poolC] at qa
          have qx:∀ l j,cellAt (H10++l) B j=(poolC x x.branches.length _)[j]?:=fun l=>(L10.step hc1 (Dr.of_ext (Ext.push _ l)) (L10.d.ext (Ext.push _ l))).cells
          simp only [poolC] at qx
          refine drawLA false [1,2,3,4,5,6,7,8,9] [0] [10,11] (by simp; rfl) (by simp; rfl) (by simp; rfl) (by kernel_rfl) rfl ?_
          simp -implicitDefEqProofs [qa,qx]
          refine cK (l7Text_c c H10 L10.d) ?_
          rintro _ Ha ⟨dra,da,s,rfl,hs⟩
          have La:=L10.step hc1 dra da
          have ra:=La.cells
          simp only [poolC] at ra
          simp -implicitDefEqProofs [ra]
          refine cK (l1Below_c 9 c Ha La.d) ?_
          rintro _ Hb ⟨drb,db,tz,rfl,-,-,-⟩
          have Lb:=La.step hc1 drb db
          have rb:=Lb.cells
          simp only [poolC] at rb
          simp -implicitDefEqProofs [rb]
          refine cK (l1Below_c 5 c Hb Lb.d) ?_
          rintro _ Hc ⟨drc,dc,gz,rfl,-,-,-⟩
          have Lc:=Lb.step hc1 drc dc
          have rc:=Lc.cells
          simp only [poolC] at rc
          simp -implicitDefEqProofs [rc]
          have hbw:=hbd.set (i:=b) x.branches[b].mode (fsPlace_nlN (Nat.le_refl 1000) x.branches[b].fs path kind s tz gz (hbd.nl_ _ (List.getElem_mem hbx)))
          refine cK (l12With_c x _ G true _ _ Hc Lc.sl hnl (by omega) b hbx path kind s tz gz (by omega) (by omega) hbw.nl) ?_
          rintro _ H12 ⟨ex,hr⟩
          rcases hr with rfl | ⟨a',G',rfl,ow⟩
          · obtain ⟨cs,L13⟩:=Lc.store hc1 ex (y:=x) (Lc.sl.ext ex) Lc.nd (fun q hq=>.inl hq)
            simp -implicitDefEqProofs [cs]
            exact anext (j+1,sA_ H12 B 0 (poolC x x.branches.length _)) ⟨hcc,x,_,G,L13,hxl,hbd,hmv⟩ (by simp only; omega) (by simp [pickF,wS (show j<9223372036854775807 by omega)]) rfl (by simp)
          · obtain ⟨cs,L13⟩:=PX.store (y:={ x with branches:=_ }) Lc hc1 ex ow.sl ow.nd (fun q hq=>.inr (ow.new q hq))
            simp only [List.length_set] at L13
            simp -implicitDefEqProofs [cs]
            exact anext (j+1,sA_ H12 B 0 (poolC x x.branches.length a')) ⟨hcc,_,a',G',L13,by simp [hxl],hbw,hmv⟩ (by simp only; omega) (by simp [pickF,wS (show j<9223372036854775807 by omega)]) rfl (by simp)
    · by_cases h1i:1<i
      · have h1i':(1:Int)<(i:Int):=by omega
        simp -implicitDefEqProofs [h1i,h1i']
        refine cK (l1Once_c 4 c H L.d) ?_
        rintro _ H6 ⟨dr6,d6,bb,rfl⟩
        have L6:=L.step hc1 dr6 d6
        try simp -implicitDefEqProofs
        refine aSI (fun hbb=>?_) (fun hbb=>?_) <;> simp -implicitDefEqProofs [hbb]
        · have hnl:=hbd.nl
          have q6:=L6.cells
          simp only [poolC] at q6
          simp -implicitDefEqProofs [q6]
          refine cK (l12Tree_c x a G true _ _ H6 L6.sl hnl (by omega)) ?_
          rintro _ H7 ⟨ta,TF,rfl,ot⟩
          have L7:=L6.step hc1 (Dr.of_ext ot.ext) (L6.d.ext ot.ext)
          have hts:∀ (k:Nat) (hk:k<(specF x.branches x.branches.length).length),(specF x.branches x.branches.length)[k].path.length≤100:=fun k hk=>specF_small (List.getElem_mem hk)
          have htl:=specF_len x.branches x.branches.length
          generalize specF x.branches x.branches.length=ts at ot hts htl ⊢
          try simp -implicitDefEqProofs
          have T:=TB.res ot
          have L8:=L7.step hc1 (Dr.of_ext (Ext.push H7 [⟨true,true,32,[.slice ta ts.length ts.length]⟩])) (L7.d.ext (Ext.push _ _))
          have hTF:∀ q∈TF,h1.length≤q:=fun q hq=>by have:=ot.new q hq; have:=L6.dr.1; omega
          have htb1:h1.length≤H7.length:=L7.dr.1
          have hTn:TF.Nodup:=ot.nd
          obtain ⟨tb,htb⟩:∃ tb,tb=H7.length:=⟨_,rfl⟩
          rw [← htb] at T htb1 ⊢
          generalize H7++[(⟨true,true,32,[.slice ta ts.length ts.length]⟩:Ob)]=H8 at T L8 ⊢
          clear ot L7 htb
          have cT:=T.cells
          try simp -implicitDefEqProofs [cT]
          refine aSI (fun htp=>?_) (fun htp=>?_) <;> have htp':=htp <;> simp at htp <;> simp -implicitDefEqProofs [htp']
          · refine cK (l1Below_c i c H8 L8.d) ?_
            rintro _ H9 ⟨dr9,d9,fz,rfl,hf0,hf1,-⟩
            have hf1:=hf1 (by omega)
            have L9:=L8.step hc1 dr9 d9
            have T9:TB H9 tb ts ta TF:=⟨by rw [dr9.2 tb (get_lt T.box) (by omega)]; exact T.box,dr9.sl T.s (fun hm=>by have:=hTF c hm; omega)⟩
            clear T L8 cT
            have ht0:0<ts.length:=by simpa using htp'
            obtain ⟨o,off,rfl,-⟩:=itemAt T9.s ht0
            have hBb:h1.length≤B:=L9.hb
            have hB9:B<H9.length:=get_lt L9.box
            have hl9:h1.length≤H9.length:=L9.dr.1
            try simp -implicitDefEqProofs
            have w1:IntKind.i64.wrap (fz+1)=fz+1:=wrap_in (by omega) (by omega)
            have hi0:¬ (i:Int)=0:=by omega
            have hi0':¬ i=0:=by omega
            refine drawI (S25 c B tb H9.length fz i ts o off) (I25 h1 c B tb H9.length i x a G ts (some ⟨o,off,none⟩) TF) [[],[],[1],[],[2,3],[],[5],[],[],[8],[9],[7,10],[6,11],[12],[13],[],[15],[],[17],[],[],[19,20],[0,4,14,16,18,21],[],[22,23]] (by simp; rfl) (by kernel_rfl) ⟨Nat.le_refl _,fun _=>⟨L9,T9⟩,fun h=>(by cases h)⟩ ?_ (rl:=[0,1,2,3,4,5,6,7,8,9,10,11,12,13,14,15,16,17,18,19,20,21,22,23,24]) (by rfl) ?_
            · refine ⟨?_,?_,?_,?_,?_,?_,?_,?_,?_,?_,?_,?_,?_,?_,?_,?_,?_,?_,?_,?_,?_,?_,?_,?_,?_,trivial⟩ <;> rintro D H hD hdn hpre hI
              · simp -implicitDefEqProofs [dAc,dAn,S25]
                exact ⟨hI.same (by simp),Keep.refl _ _ _⟩
              · simp -implicitDefEqProofs [dAc,dAn,S25]
                exact ⟨hI.same (by simp),Keep.refl _ _ _⟩
              · simp -implicitDefEqProofs [dAc,dAn,S25,w1]
                exact ⟨hI.same (by simp),Keep.refl _ _ _⟩
              · simp -implicitDefEqProofs [dAc,dAn,S25]
                exact ⟨hI.same (by simp),Keep.refl _ _ _⟩
              · simp -implicitDefEqProofs [dAc,dAn,S25,hi0,hi0']
                exact ⟨hI.same (by simp),Keep.refl _ _ _⟩
              · simp -implicitDefEqProofs [dAc,dAn,S25]
                exact ⟨hI.same (by simp),Keep.refl _ _ _⟩
              · have q:=(hI.p0 (hdn.not 6 24 (by kernel_rfl) hD)).2.cells
                simp -implicitDefEqProofs [dAc,dAn,S25,q]
                exact ⟨hI.same (by simp),Keep.refl _ _ _⟩
              · simp -implicitDefEqProofs [dAc,dAn,S25]
                exact ⟨hI.same (by simp),Keep.refl _ _ _⟩
              · simp -implicitDefEqProofs [dAc,dAn,S25]
                exact ⟨hI.same (by simp),Keep.refl _ _ _⟩
              · have q:=(hI.p0 (hdn.not 9 24 (by kernel_rfl) hD)).2.cells
                simp -implicitDefEqProofs [dAc,dAn,S25,q]
                exact ⟨hI.same (by simp),Keep.refl _ _ _⟩
              · simp -implicitDefEqProofs [dAc,dAn,S25]
                exact ⟨hI.same (by simp),Keep.refl _ _ _⟩
              · have h24:=hdn.not 11 24 (by kernel_rfl) hD
                have Lx:=(hI.p0 h24).1
                simp -implicitDefEqProofs [dAc,dAn,S25]
                refine cK (l1Below_c ts.length c H Lx.d) ?_
                rintro _ H' ⟨dr,d,z,rfl,hz0,hz1,-⟩
                have hz1:=hz1 (by omega)
                obtain ⟨k,rfl⟩:∃ k:Nat,z=k:=⟨z.toNat,by omega⟩
                try simp -implicitDefEqProofs
                exact ⟨by first | omega | exact ⟨k,rfl,by omega⟩,hI.dr h24 (by simp) hc1 htb1 hTF dr d,fun j v _=>S25.dr hl9 hc1 dr j v⟩
              · simp -implicitDefEqProofs [dAc,dAn,S25]
                rintro _ k rfl hk
                simp -implicitDefEqProofs [hk]
                exact ⟨by first | exact ⟨k,rfl,hk⟩ | exact hk,hI.same (by simp),Keep.refl _ _ _⟩
              · simp -implicitDefEqProofs [dAc,dAn,S25]
                rintro _ k rfl hk
                try simp -implicitDefEqProofs
                exact ⟨by first | exact ⟨k,rfl,hk⟩ | exact hk,hI.same (by simp),Keep.refl _ _ _⟩
              · have T2:=(hI.p0 (hdn.not 14 24 (by kernel_rfl) hD)).2
                simp -implicitDefEqProofs [dAc,dAn,S25]
                rintro _ k rfl hk
                obtain ⟨o2,off2,e2,ci,-,-,-⟩:=itemAt T2.s hk
                cases e2
                simp -implicitDefEqProofs [ci]
                exact ⟨by first | exact ⟨_,rfl,hts k hk⟩ | exact hts k hk,hI.same (by simp),Keep.refl _ _ _⟩
              · simp -implicitDefEqProofs [dAc,dAn,S25]
                exact ⟨hI.same (by simp),Keep.refl _ _ _⟩
              · have h24:=hdn.not 16 24 (by kernel_rfl) hD
                have Lx:=(hI.p0 h24).1
                simp -implicitDefEqProofs [dAc,dAn,S25]
                refine cK (l1Below_c 5 c H Lx.d) ?_
                rintro _ H' ⟨dr,d,z,rfl,-,-,-⟩
                try simp -implicitDefEqProofs
                exact ⟨hI.dr h24 (by simp) hc1 htb1 hTF dr d,fun j v _=>S25.dr hl9 hc1 dr j v⟩
              · simp -implicitDefEqProofs [dAc,dAn,S25]
                exact ⟨hI.same (by simp),Keep.refl _ _ _⟩
              · have h24:=hdn.not 18 24 (by kernel_rfl) hD
                have Lx:=(hI.p0 h24).1
                simp -implicitDefEqProofs [dAc,dAn,S25]
                refine cK (l1Once_c 3 c H Lx.d) ?_
                rintro _ H' ⟨dr,d,z,rfl⟩
                try simp -implicitDefEqProofs
                exact ⟨IsB.mk z,hI.dr h24 (by simp) hc1 htb1 hTF dr d,fun j v _=>S25.dr hl9 hc1 dr j v⟩
              · simp -implicitDefEqProofs [dAc,dAn,S25]
                exact ⟨hI.same (by simp),Keep.refl _ _ _⟩
              · have h24:=hdn.not 20 24 (by kernel_rfl) hD
                have Lx:=(hI.p0 h24).1
                have s:=lit_ints [0,16] H
                simp only [List.map_cons,List.map_nil] at s
                simp -implicitDefEqProofs [dAc,dAn,S25]
                exact ⟨⟨hI.le,s⟩,hI.dr h24 (by simp) hc1 htb1 hTF (Dr.of_ext (Ext.push _ _)) (Lx.d.ext (Ext.push _ _)),fun j v _=>S25.dr hl9 hc1 (Dr.of_ext (Ext.push _ _)) j v⟩
              · have h24:=hdn.not 21 24 (by kernel_rfl) hD
                have Lx:=(hI.p0 h24).1
                simp -implicitDefEqProofs [dAc,dAn,S25]
                rintro _ o' rfl ho' s
                have hp:=l1PickInt_c c _ (some ⟨o',0,none⟩) [o'] true _ [0,16] s (by simp; omega) (by decide) (by decide) Lx.d
                simp only [List.length_cons,List.length_nil,Nat.zero_add,Nat.reduceAdd] at hp
                refine cK hp ?_
                rintro _ H' ⟨dr,d,z,-,rfl⟩
                try simp -implicitDefEqProofs
                exact ⟨hI.dr h24 (by simp) hc1 htb1 hTF dr d,fun j v _=>S25.dr hl9 hc1 dr j v⟩
              · simp -implicitDefEqProofs [dAc,dAn,S25]
                rintro _ s rfl hs g _ ⟨b,rfl⟩ d
                try simp -implicitDefEqProofs
                exact ⟨MovV.mk _ _ true b s g d hs,hI.same (by simp),Keep.refl _ _ _⟩
              · simp -implicitDefEqProofs [dAc,dAn,S25]
                exact ⟨hI.same (by simp),Keep.refl _ _ _⟩
              · obtain ⟨Lx,Tx⟩:=hI.p0 hD
                simp -implicitDefEqProofs [dAc,dAn,S25]
                rintro _ ⟨on,cl,s,g,d,rfl,hs⟩
                try simp -implicitDefEqProofs
                obtain ⟨cs,L10⟩:=Lx.move hc1 ⟨on,cl,fz,(fz+1).tmod i,s,g,d⟩
                simp only at cs L10
                simp -implicitDefEqProofs [cs]
                have hmod0:0≤(fz+1).tmod (i:Int):=Int.tmod_nonneg _ (by omega)
                have hmod1:(fz+1).tmod (i:Int)<i:=Int.tmod_lt_of_pos _ (by omega)
                exact ⟨⟨by rw [sAl]; exact hI.le,fun h=>(by simp at h),fun _=>⟨_,L10,by simp only; omega,hmod0,hmod1⟩⟩,fun j v _=>S25.store hB9 _ _ j v⟩
            · intro D H' hall hI
              obtain ⟨m,L11,hmp,hm0,hm1⟩:=hI.p1 (hall 24 (by simp))
              clear hI hall T9 L9
              simp -implicitDefEqProofs [dAc,dAn,S25]
              intros
              obtain ⟨x2,hx2⟩:∃ x2:Pool,x2={ x with move:=m }:=⟨_,rfl⟩
              rw [← hx2] at L11
              have hb2:PBd x2:=by rw [hx2]; exact ⟨hbd.len,hbd.nl_,hmp⟩
              have hx2l:x2.branches.length=i:=by rw [hx2]; exact hxl
              have hm20:0≤x2.move.dst:=by rw [hx2]; exact hm0
              have hm21:x2.move.dst<i:=by rw [hx2]; exact hm1
              clear hx2 hm0 hm1 hmp
              refine cK (l1Once_c 3 c H' L11.d) ?_
              rintro _ H12 ⟨dr12,d12,bc,rfl⟩
              have L12:=L11.step hc1 dr12 d12
              try simp -implicitDefEqProofs
              refine aSI (fun hbc=>?_) (fun hbc=>?_) <;> have hbc':=hbc <;> (try simp at hbc) <;> (try simp -implicitDefEqProofs [hbc])
              · skip
                obtain ⟨z1,z2,z3,z4⟩:=out H12 x2 _ _ L12 hb2 hx2l
                simp only [poolC] at z1 z2 z3 z4
                simp -implicitDefEqProofs [z1,z2,z3]
                exact z4
              · clear L11
                obtain ⟨dz,hdz⟩:∃ k:Nat,x2.move.dst=k:=⟨x2.move.dst.toNat,by omega⟩
                have hdl:dz<x2.branches.length:=by omega
                obtain ⟨o',off',b1,G1,b2,G2,rfl,c0,c1,c2,kn,kd,hg1,hg2⟩:=branchAt L12.sl hdl
                have ho':o'∈G:=slR_some_mem L12.sl
                have hGw:=L12.w
                have hGl:∀ q∈G,q<H12.length:=fun q hq=>L12.sl.lt q hq
                have hB12:B<H12.length:=get_lt L12.box
                have hGG:∀ q∈G1++G2,h1.length≤q:=fun q hq=>hGw q ((List.mem_append.1 hq).elim (hg1 q) (hg2 q))
                refine drawI (S27 c B H12.length o' off' dz x2.branches.length x2.move.dst x2.branches[dz] b1 b2) (I27 h1 c B H12.length o' off' dz x2 x2.branches[dz] b1 b2 G G1 G2) [[],[0],[],[2],[3],[],[5],[],[7],[8],[6,9],[10],[11],[],[13],[12,14],[15],[16],[16],[1,4],[19],[17,20]] (by simp; rfl) (by kernel_rfl) ⟨Nat.le_refl _,fun _=>⟨L12,kn,kd,c1,c2⟩,fun h=>(by cases h)⟩ ?_ (rl:=[0,1,2,3,4,5,6,7,8,9,10,11,12,13,14,15,16,17,18,19,20,21]) (by rfl) ?_
                · refine ⟨?_,?_,?_,?_,?_,?_,?_,?_,?_,?_,?_,?_,?_,?_,?_,?_,?_,?_,?_,?_,?_,?_,trivial⟩ <;> rintro D H hD hdn hpre hI
                  · simp -implicitDefEqProofs [dAc,dAn,S27]
                    exact ⟨hI.same (by simp),Keep.refl _ _ _⟩
                  · have q:=(hI.p0 (hdn.not 1 21 (by kernel_rfl) hD)).1.cells
                    simp only [poolC] at q
                    simp -implicitDefEqProofs [dAc,dAn,S27,q]
                    exact ⟨hI.same (by simp),Keep.refl _ _ _⟩
                  · simp -implicitDefEqProofs [dAc,dAn,S27]
                    exact ⟨hI.same (by simp),Keep.refl _ _ _⟩
                  · simp -implicitDefEqProofs [dAc,dAn,S27]
                    exact ⟨hI.same (by simp),Keep.refl _ _ _⟩
                  · have q:=(hI.p0 (hdn.not 4 21 (by kernel_rfl) hD)).1.cells
                    simp only [poolC] at q
                    simp -implicitDefEqProofs [dAc,dAn,S27,q]
                    exact ⟨hI.same (by simp),Keep.refl _ _ _⟩
                  · simp -implicitDefEqProofs [dAc,dAn,S27]
                    exact ⟨hI.same (by simp),Keep.refl _ _ _⟩
                  · have q:=(hI.p0 (hdn.not 6 21 (by kernel_rfl) hD)).1.cells
                    simp only [poolC] at q
                    simp -implicitDefEqProofs [dAc,dAn,S27,q]
                    exact ⟨hI.same (by simp),Keep.refl _ _ _⟩
                  · simp -implicitDefEqProofs [dAc,dAn,S27]
                    exact ⟨hI.same (by simp),Keep.refl _ _ _⟩
                  · simp -implicitDefEqProofs [dAc,dAn,S27]
                    exact ⟨hI.same (by simp),Keep.refl _ _ _⟩
                  · have q:=(hI.p0 (hdn.not 9 21 (by kernel_rfl) hD)).1.cells
                    simp only [poolC] at q
                    simp -implicitDefEqProofs [dAc,dAn,S27,q]
                    exact ⟨hI.same (by simp),Keep.refl _ _ _⟩
                  · simp -implicitDefEqProofs [dAc,dAn,S27,hdz,hdl]
                    exact ⟨hI.same (by simp),Keep.refl _ _ _⟩
                  · simp -implicitDefEqProofs [dAc,dAn,S27]
                    exact ⟨hI.same (by simp),Keep.refl _ _ _⟩
                  · obtain ⟨-,-,-,q1,q2⟩:=hI.p0 (hdn.not 12 21 (by kernel_rfl) hD)
                    simp -implicitDefEqProofs [dAc,dAn,S27,q1,q2]
                    exact ⟨hI.same (by simp),Keep.refl _ _ _⟩
                  · simp -implicitDefEqProofs [dAc,dAn,S27]
                    exact ⟨hI.same (by simp),Keep.refl _ _ _⟩
                  · have h21:=hdn.not 14 21 (by kernel_rfl) hD
                    have Lx:=(hI.p0 h21).1
                    simp -implicitDefEqProofs [dAc,dAn,S27]
                    refine cK (l7Text_c c H Lx.d) ?_
                    rintro _ H' ⟨dr,d,s,rfl,hs⟩
                    try simp -implicitDefEqProofs
                    refine ⟨hs,hI.dr h21 (by simp) hc1 (hGw o' ho') hGG (hGl o' ho') dr d,fun j v hj=>S27.early (fun j hj=>?_) j v hj⟩
                    have e15:=hdn.not 14 15 (by kernel_rfl) hD
                    have e16:=hdn.not 14 16 (by kernel_rfl) hD
                    have e17:=hdn.not 14 17 (by kernel_rfl) hD
                    exact ⟨fun e=>(by rw [e,e15] at hj; cases hj),fun e=>(by rw [e,e16] at hj; cases hj),fun e=>(by rw [e,e17] at hj; cases hj)⟩
                  · have h21:=hdn.not 15 21 (by kernel_rfl) hD
                    obtain ⟨Lx,q1,q2,-,-⟩:=hI.p0 h21
                    have hle:=hI.le
                    simp -implicitDefEqProofs [dAc,dAn,S27]
                    rintro _ s rfl hs
                    refine cK (fsHide_spec_c x2.branches[dz].fs b1 b2 G1 G2 true _ H q1 q2 (by have:=hb2.nl_ _ (List.getElem_mem hdl); omega) s (by omega)) ?_
                    rintro _ H' ⟨u,rfl,fr⟩
                    try simp -implicitDefEqProofs
                    have hx:Ext H H':=(by obtain ⟨_,_,_,_,_,o1,_,_⟩:=fr; exact o1.ext)
                    refine ⟨⟨s,u,rfl,FsOwn.of fr hle⟩,hI.dr h21 (by simp) hc1 (hGw o' ho') hGG (hGl o' ho') (Dr.of_ext hx) (Lx.d.ext hx),fun j v hj=>S27.early (fun j hj=>?_) j v hj⟩
                    have e16:=hdn.not 15 16 (by kernel_rfl) hD
                    have e17:=hdn.not 15 17 (by kernel_rfl) hD
                    exact ⟨fun e=>(by rw [e,hD] at hj; cases hj),fun e=>(by rw [e,e16] at hj; cases hj),fun e=>(by rw [e,e17] at hj; cases hj)⟩
                  · simp -implicitDefEqProofs [dAc,dAn,S27]
                    intro v hv
                    exact ⟨hv,hI.same (by simp),Keep.refl _ _ _⟩
                  · simp -implicitDefEqProofs [dAc,dAn,S27]
                    rintro _ ⟨s,u,rfl,hu⟩
                    try simp -implicitDefEqProofs
                    exact ⟨⟨s,hu⟩,hI.same (by simp),Keep.refl _ _ _⟩
                  · simp -implicitDefEqProofs [dAc,dAn,S27]
                    rintro _ ⟨s,u,rfl,hu⟩
                    try simp -implicitDefEqProofs
                    exact ⟨hI.same (by simp),Keep.refl _ _ _⟩
                  · simp -implicitDefEqProofs [dAc,dAn,S27,hdz,hdl]
                    exact ⟨hI.same (by simp),Keep.refl _ _ _⟩
                  · simp -implicitDefEqProofs [dAc,dAn,S27]
                    exact ⟨hI.same (by simp),Keep.refl _ _ _⟩
                  · obtain ⟨Lx,-,-,-,-⟩:=hI.p0 hD
                    have hle:=hI.le
                    simp -implicitDefEqProofs [dAc,dAn,S27]
                    rintro _ ⟨s,e1,K1,e2,K2,rfl,s1,s2,nd,hn⟩
                    try simp -implicitDefEqProofs
                    obtain ⟨ho2,cs,G',L13⟩:=Lx.fs hc1 hdl s1 s2 nd hn hGl hB12
                    simp -implicitDefEqProofs [cs]
                    exact ⟨⟨by rw [sAl]; exact hle,fun h=>(by simp at h),fun _=>⟨s,G',L13⟩⟩,fun j v _=>S27.frame (fun q hq=>by rw [sAg,if_neg (fun e=>by have:=hGl o' ho'; omega)]) j v⟩
                · intro D H13 hall hI
                  obtain ⟨s,G',L13⟩:=hI.p1 (hall 21 (by simp))
                  clear hI hall
                  simp -implicitDefEqProofs [dAc,dAn,S27]
                  intros
                  obtain ⟨z1,z2,z3,z4⟩:=out H13 _ _ _ L13 (hb2.set _ (fsHide_nlN (Nat.le_refl 1000) _ _ (hb2.nl_ _ (List.getElem_mem hdl)))) (by simp [hx2l])
                  simp only [poolC] at z1 z2 z3 z4
                  simp -implicitDefEqProofs [z1,z2,z3]
                  exact z4
          · skip
            obtain ⟨z1,z2,z3,z4⟩:=out H8 x _ _ L8 hbd hxl
            simp only [poolC] at z1 z2 z3 z4
            simp -implicitDefEqProofs [z1,z2,z3]
            exact z4
        · skip
          obtain ⟨z1,z2,z3,z4⟩:=out H6 x _ _ L6 hbd hxl
          simp only [poolC] at z1 z2 z3 z4
          simp -implicitDefEqProofs [z1,z2,z3]
          exact z4
      · have h1i':¬ (1:Int)<(i:Int):=by omega
        simp -implicitDefEqProofs [h1i,h1i']
        obtain ⟨z1,z2,z3,z4⟩:=out H x _ _ L hbd hxl
        simp only [poolC] at z1 z2 z3 z4
        simp -implicitDefEqProofs [z1,z2,z3]
        exact z4
end Go.Proofs.YtmpgpkdijfcfhaaGreat.Hz
