/- The law of FsOf. -/
import Derived.Test.YtmpgpkdijfcfhaaHyJB
import Derived.Test.YtmpgpkdijfcfhaaHyGF
import Derived.Test.YtmpgpkdijfcfhaaHyGH
import Derived.Test.YtmpgpkdijfcfhaaHyGD
import Derived.Test.YtmpgpkdijfcfhaaHyGJ
namespace Go.Proofs.Ytmpgpkdijfcfhaa.Hz
open Go.RowKit
set_option linter.unusedVariables false
set_option linter.unusedSimpArgs false
set_option maxRecDepth 20000
theorem fsS_nl (xs:List Str) (hl:xs.length+sumL List.length xs≤1048576):(fsS xs).1.nl≤1048576:=by
  have z:fs0.nl≤1048576:=by decide
  unfold fsS
  cases xs with
  | nil=>exact z
  | cons b rest =>
    simp only
    split
    · exact z
    split
    · exact z
    rename_i h1 h2
    unfold fsBy
    split
    · exact z
    rename_i ns hns
    split
    · exact fs_nl nodeS_blocks hns (by omega) hl
    · exact z
structure GB (H:Hp) (b:Nat) (f:Fs) (a1 a2:Option Addr) (F1 F2:List Nat) (lo:Nat):Prop where
  box:H[b]?=some ⟨true,true,26,[.slice a1 f.nodes.length f.nodes.length,.slice a2 f.data.length f.data.length]⟩
  s1:slR true 49 (nodeE true) H f.nodes a1 F1
  s2:slR true 9 strE H f.data a2 F2
  w:∀ q,q=b∨q∈F1∨q∈F2→lo≤q
  n1:F1.Nodup
  n2:F2.Nodup
  dj:∀ q∈F1,q ∉ F2
  m:b ∉ F1∧b ∉ F2
section
variable {H H2:Hp} {b lo:Nat} {f:Fs} {a1 a2:Option Addr} {F1 F2:List Nat}
theorem GB.lt (k:GB H b f a1 a2 F1 F2 lo):∀ q,q=b∨q∈F1∨q∈F2→q<H.length:=fun q hq=>by
  rcases hq with rfl | h | h
  · exact get_lt k.box
  · exact k.s1.lt q h
  · exact k.s2.lt q h
theorem GB.frame (k:GB H b f a1 a2 F1 F2 lo) (x:∀ q,q=b∨q∈F1∨q∈F2→H2[q]?=H[q]?):GB H2 b f a1 a2 F1 F2 lo :=
  ⟨(x b (.inl rfl)).trans k.box,k.s1.frame fun q hq=>x q (.inr (.inl hq)),k.s2.frame fun q hq=>x q (.inr (.inr hq)),k.w,k.n1,k.n2,k.dj,k.m⟩
theorem GB.ext (k:GB H b f a1 a2 F1 F2 lo) (x:Ext H H2):GB H2 b f a1 a2 F1 F2 lo:=k.frame fun q hq=>x.2 q (k.lt q hq)
theorem GB.cells (k:GB H b f a1 a2 F1 F2 lo):∀ j,cellAt H b j=([Value.slice a1 f.nodes.length f.nodes.length,.slice a2 f.data.length f.data.length])[j]?:=fun j=>by simp [cellAt,k.box]
theorem GB.res {h:Hp} {v:Value} (k:FsRes f h H v):∃ a1 F1 a2 F2,v=.agg #[.slice a1 f.nodes.length f.nodes.length,.slice a2 f.data.length f.data.length]∧Ext h H∧GB (H++[⟨true,true,26,[.slice a1 f.nodes.length f.nodes.length,.slice a2 f.data.length f.data.length]⟩]) H.length f a1 a2 F1 F2 h.length:=by
  obtain ⟨b1,G1,b2,G2,rfl,o1,o2,dj⟩:=k
  have hx:=o1.ext.1
  refine ⟨b1,G1,b2,G2,rfl,o1.ext,by simp,o1.sl.ext (Ext.push _ _),o2.sl.ext (Ext.push _ _),fun q hq=>?_,o1.nd,o2.nd,dj,fun hm=>?_,fun hm=>?_⟩
  · rcases hq with rfl | hq | hq
    · exact hx
    · exact o1.new q hq
    · exact o2.new q hq
  · have:=o1.sl.lt _ hm; omega
  · have:=o2.sl.lt _ hm; omega
end
set_option maxHeartbeats 8000000 in
theorem FnExactFsOf_c (x:List Str) (a:Option Addr) (F:List Nat) (w:Bool) (h:Hp) (k:slR w 9 strE h x a F) (hx1:x.length≤maxLen) (hx2:∀ s∈x,s.length≤maxLen) :
    ACall Try.prog 3 [.slice a x.length x.length] h fun r _=>r=.bool true:=by
  refine acall mixed Try.func3 rfl (by kernel_rfl) ?_
  have h4:maxLen=9223372036854775807:=by decide
  simp -implicitDefEqProofs [Try.f3]
  refine callK0 (szStringS_c x a F w _ 1048576 h k (by omega) (by omega) hx1 hx2) ?_
  rintro _ _ ⟨⟨t0,rfl⟩,n0,rfl,hn1,hn2⟩
  replace k:=k.ext (Ext.push h t0)
  generalize h++t0=H at k ⊢
  simp -implicitDefEqProofs
  refine asplitK_intro (fun hc=>?_) (fun hc=>?_) <;> simp at hc <;> simp -implicitDefEqProofs [hc]
  have hl:x.length+sumL List.length x≤1048576:=by have:=hn2 hc; omega
  have hlx:x.length≤1048576:=by omega
  have hag:=fs_agree x
  have hnl:=fsS_nl x hl
  obtain ⟨⟨R,ok⟩,hR⟩:∃ q,fsS x=q:=⟨_,rfl⟩
  have hRI:fsI x=(R,ok):=hag.trans hR
  rw [hR] at hnl
  simp only at hnl
  have hlim:=Fs.lim_of R hnl
  obtain ⟨m1,m2,m3,m4⟩:=kFs_le R hnl
  try simp -implicitDefEqProofs
  refine callK0 (toStringS_c x a F w _ H k hlx) ?_
  rintro _ H2 ⟨ap,Fp,rfl,op⟩
  replace k:=k.ext op.ext
  try simp -implicitDefEqProofs
  have l2:=op.ext.1
  have ci:=fsOf_spec_c x ap Fp true H2 op.sl hl
  rw [hR] at ci
  refine callK0 ci ?_
  rintro _ H3 ⟨_,rfl,fr⟩
  obtain ⟨aw1,Fw1,aw2,Fw2,rfl,hx,W⟩:=GB.res fr
  have hx':=hx.trans (Ext.push H3 [⟨true,true,26,[.slice aw1 R.nodes.length R.nodes.length,.slice aw2 R.data.length R.data.length]⟩])
  replace k:=k.ext hx'
  try simp -implicitDefEqProofs
  clear ci op fr hx hx'
  obtain ⟨bw,hbw⟩:∃ b,b=H3.length:=⟨_,rfl⟩
  rw [← hbw] at W ⊢
  generalize H3++[(⟨true,true,26,[.slice aw1 R.nodes.length R.nodes.length,.slice aw2 R.data.length R.data.length]⟩:Ob)]=H at k W ⊢
  clear hbw
  obtain ⟨N1,hN1⟩:∃ N1,N1=H.length:=⟨_,rfl⟩
  have hWl:∀ q,q=bw∨q∈Fw1∨q∈Fw2→q<N1:=by rw [hN1]; exact W.lt
  have hkl:∀ q∈F,q<N1:=by rw [hN1]; exact k.lt
  try simp -implicitDefEqProofs
  refine callK0 (toStringS_c x a F w _ H k hlx) ?_
  rintro _ H2 ⟨ay,Fy,rfl,oy⟩
  replace k:=k.ext oy.ext
  replace W:=W.ext oy.ext
  have hFy:∀ q∈Fy,N1≤q:=by rw [hN1]; exact oy.new
  have hFyl:=oy.sl.lt
  have hFyn:=oy.nd
  have hN2:N1≤H2.length:=by rw [hN1]; exact oy.ext.1
  have Y:=oy.sl
  try simp -implicitDefEqProofs
  have ci:=fsOf_impl_c x ay Fy true H2 oy.sl hl
  rw [hRI] at ci
  refine callK0 ci ?_
  rintro _ H3 ⟨_,rfl,fr⟩
  obtain ⟨ag1,Fg1,ag2,Fg2,rfl,hx,G⟩:=GB.res fr
  have hx':=hx.trans (Ext.push H3 [⟨true,true,26,[.slice ag1 R.nodes.length R.nodes.length,.slice ag2 R.data.length R.data.length]⟩])
  replace k:=k.ext hx'
  replace W:=W.ext hx'
  replace Y:=Y.ext hx'
  try simp -implicitDefEqProofs
  have hG2:∀ q,q=H3.length∨q∈Fg1∨q∈Fg2→H2.length≤q:=G.w
  have hYG:∀ q∈Fy,¬ (q=H3.length∨q∈Fg1∨q∈Fg2):=fun q hq hm=>by have y1:=hG2 q hm; have y2:=hFyl q hq; omega
  have hGN:∀ q,q=H3.length∨q∈Fg1∨q∈Fg2→N1≤q:=fun q hm=>by have y1:=hG2 q hm; omega
  obtain ⟨bg,hbg⟩:∃ b,b=H3.length:=⟨_,rfl⟩
  rw [← hbg] at G ⊢
  generalize H3++[(⟨true,true,26,[.slice ag1 R.nodes.length R.nodes.length,.slice ag2 R.data.length R.data.length]⟩:Ob)]=H at k W G Y hYG hGN ⊢
  rw [← hbg] at hYG hGN
  clear fr hx hx' hG2 hbg
  have cW:=W.cells
  have cG:=G.cells
  simp -implicitDefEqProofs [cW,cG]
  refine callK0 (eqFs_c R R ag1 aw1 Fg1 Fw1 ag2 aw2 Fg2 Fw2 true true _ _ H G.s1 W.s1 G.s2 W.s2 hlim) ?_
  rintro _ _ ⟨⟨t1,rfl⟩,rfl⟩
  replace k:=k.ext (Ext.push H t1)
  replace W:=W.ext (Ext.push H t1)
  replace G:=G.ext (Ext.push H t1)
  replace Y:=Y.ext (Ext.push H t1)
  generalize H++t1=H at k W G Y ⊢
  clear cW cG
  try simp -implicitDefEqProofs
  refine callK0 (toStringS_c x a F w _ H k hlx) ?_
  rintro _ H2 ⟨ad,Fd,rfl,od⟩
  replace k:=k.ext od.ext
  replace W:=W.ext od.ext
  replace G:=G.ext od.ext
  replace Y:=Y.ext od.ext
  try simp -implicitDefEqProofs
  refine callK0 (eqStringS_c x x ay ad Fy Fd true true _ _ H2 Y od.sl hlx) ?_
  rintro _ _ ⟨⟨t1,rfl⟩,rfl⟩
  replace k:=k.ext (Ext.push H2 t1)
  replace W:=W.ext (Ext.push H2 t1)
  replace G:=G.ext (Ext.push H2 t1)
  replace Y:=Y.ext (Ext.push H2 t1)
  generalize H2++t1=H at k W G Y ⊢
  clear od
  try simp -implicitDefEqProofs
  refine callK0 (markStringS_c x 1 ay Fy H (Own.any Y hFyn) (by omega)) ?_
  rintro _ H ⟨rfl,-,keep,len⟩
  replace k:slR w 9 strE H x a F:=k.frame fun q hq=>keep q (k.lt q hq) (fun hm=>by have y1:=hFy q hm; have y2:=hkl q hq; omega)
  replace W:=W.frame (H2:=H) fun q hq=>keep q (W.lt q hq) (fun hm=>by have y1:=hFy q hm; have y2:=hWl q hq; omega)
  replace G:=G.frame (H2:=H) fun q hq=>keep q (G.lt q hq) (fun hm=>hYG q hm hq)
  clear keep len Y
  have kx:¬ ((1:Int)+(x.length:Int)<0):=by omega
  simp -implicitDefEqProofs [kx]
  have cW:=W.cells
  have cG:=G.cells
  simp -implicitDefEqProofs [cW,cG]
  refine callK0 (eqFs_c R R ag1 aw1 Fg1 Fw1 ag2 aw2 Fg2 Fw2 true true _ _ H G.s1 W.s1 G.s2 W.s2 hlim) ?_
  rintro _ _ ⟨⟨t1,rfl⟩,rfl⟩
  replace k:=k.ext (Ext.push H t1)
  replace W:=W.ext (Ext.push H t1)
  replace G:=G.ext (Ext.push H t1)
  generalize H++t1=H at k W G ⊢
  clear cW cG
  have cW:=W.cells
  have cG:=G.cells
  simp -implicitDefEqProofs [cG]
  refine callK0 (markFs_c R ag1 ag2 Fg1 Fg2 H (Own.any G.s1 G.n1) (Own.any G.s2 G.n2) G.dj hnl) ?_
  rintro _ H ⟨rfl,om1,om2,keep,len⟩
  replace k:slR w 9 strE H x a F:=k.frame fun q hq=>keep q (k.lt q hq) (fun hm=>by have y1:=hGN q (.inr (.inl hm)); have y2:=hkl q hq; omega) (fun hm=>by have y1:=hGN q (.inr (.inr hm)); have y2:=hkl q hq; omega)
  replace W:=W.frame (H2:=H) fun q hq=>keep q (W.lt q hq) (fun hm=>by have y1:=hGN q (.inr (.inl hm)); have y2:=hWl q hq; omega) (fun hm=>by have y1:=hGN q (.inr (.inr hm)); have y2:=hWl q hq; omega)
  have gb:H[bg]?=_:=(keep bg (G.lt bg (.inl rfl)) G.m.1 G.m.2).trans G.box
  have M1:=om1.sl
  have M2:=om2.sl
  have cG:∀ j,cellAt H bg j=([Value.slice ag1 R.nodes.length R.nodes.length,.slice ag2 R.data.length R.data.length])[j]?:=fun j=>by simp [cellAt,gb]
  clear keep len om1 om2 cW G
  have kr:¬ (((kFs R 1:Nat):Int)<0):=by omega
  simp -implicitDefEqProofs [cG]
  refine callK0 (heldFs_c R ag1 ag2 Fg1 Fg2 H M1 M2 hnl) ?_
  rintro _ _ ⟨⟨t1,rfl⟩,rfl⟩
  replace k:=k.ext (Ext.push H t1)
  replace W:=W.ext (Ext.push H t1)
  replace M1:=M1.ext (Ext.push H t1)
  replace M2:=M2.ext (Ext.push H t1)
  replace gb:(H++t1)[bg]?=_:=((Ext.push H t1).2 bg (get_lt gb)).trans gb
  generalize H++t1=H at k W M1 M2 gb ⊢
  clear cG
  simp -implicitDefEqProofs [kr]
  refine callK0 (toStringS_c x a F w _ H k hlx) ?_
  rintro _ H2 ⟨az,Fz,rfl,oz⟩
  replace k:=k.ext oz.ext
  replace W:=W.ext oz.ext
  replace M1:=M1.ext oz.ext
  replace M2:=M2.ext oz.ext
  replace gb:H2[bg]?=_:=(oz.ext.2 bg (get_lt gb)).trans gb
  try simp -implicitDefEqProofs
  have ci:=fsOf_impl_c x az Fz true H2 oz.sl hl
  rw [hRI] at ci
  refine callK0 ci ?_
  rintro _ H3 ⟨_,rfl,fr⟩
  obtain ⟨ah1,Fh1,ah2,Fh2,rfl,hx,HH⟩:=GB.res fr
  have hx':=hx.trans (Ext.push H3 [⟨true,true,26,[.slice ah1 R.nodes.length R.nodes.length,.slice ah2 R.data.length R.data.length]⟩])
  replace k:=k.ext hx'
  replace W:=W.ext hx'
  replace M1:=M1.ext hx'
  replace M2:=M2.ext hx'
  replace gb:(H3++[(⟨true,true,26,[.slice ah1 R.nodes.length R.nodes.length,.slice ah2 R.data.length R.data.length]⟩:Ob)])[bg]?=_:=(hx'.2 bg (get_lt gb)).trans gb
  try simp -implicitDefEqProofs
  obtain ⟨bh,hbh⟩:∃ b,b=H3.length:=⟨_,rfl⟩
  rw [← hbh] at HH ⊢
  generalize H3++[(⟨true,true,26,[.slice ah1 R.nodes.length R.nodes.length,.slice ah2 R.data.length R.data.length]⟩:Ob)]=H at k W M1 M2 gb HH ⊢
  clear ci fr hx hx' hbh oz
  have cW:=W.cells
  have cHH:=HH.cells
  have cG:∀ j,cellAt H bg j=([Value.slice ag1 R.nodes.length R.nodes.length,.slice ag2 R.data.length R.data.length])[j]?:=fun j=>by simp [cellAt,gb]
  simp -implicitDefEqProofs [cW,cHH]
  refine callK0 (eqFs_c R R ah1 aw1 Fh1 Fw1 ah2 aw2 Fh2 Fw2 true true _ _ H HH.s1 W.s1 HH.s2 W.s2 hlim) ?_
  rintro _ _ ⟨⟨t1,rfl⟩,rfl⟩
  replace k:=k.ext (Ext.push H t1)
  replace W:=W.ext (Ext.push H t1)
  replace M1:=M1.ext (Ext.push H t1)
  replace M2:=M2.ext (Ext.push H t1)
  replace gb:(H++t1)[bg]?=_:=((Ext.push H t1).2 bg (get_lt gb)).trans gb
  generalize H++t1=H at k W M1 M2 gb ⊢
  clear cW cHH cG
  have cG:∀ j,cellAt H bg j=([Value.slice ag1 R.nodes.length R.nodes.length,.slice ag2 R.data.length R.data.length])[j]?:=fun j=>by simp [cellAt,gb]
  simp -implicitDefEqProofs [cG]
  refine callK0 (heldFs_c R ag1 ag2 Fg1 Fg2 H M1 M2 hnl) ?_
  rintro _ _ ⟨⟨t1,rfl⟩,rfl⟩
  simp -implicitDefEqProofs [kr]
theorem u_strs:Try.prog.underlying 22=some (.slice 9):=by kernel_rfl
theorem opnV_strs:OpnV Try.prog 22 (V1 (slE false 9 strE) fun xs=>xs.length≤maxLen∧∀ x∈xs,x.length≤maxLen):=opn1 (opn_slice (opn_str u_str) u_strs (by kernel_rfl) (by kernel_rfl) (by decide)) (one_slice u_strs)
theorem FnExactFsOf_v (h:Hp) (avs:List Value) (hv:All2 (fun V av=>V h av) [(V1 (slE false 9 strE) fun xs=>xs.length≤maxLen∧∀ s∈xs,s.length≤maxLen)] avs):ACall Try.prog 3 avs h fun r _=>r=.bool true:=by
  obtain ⟨v0,vs0,rfl,q0,hv⟩:=All2.cons_iff.1 hv
  obtain rfl:=All2.nil_iff.1 hv
  obtain ⟨x,F,⟨a,e,k⟩,hx⟩:=q0
  obtain rfl:v0=_:=List.cons.inj e |>.1
  exact FnExactFsOf_c x a F false h k hx.1 hx.2
end Go.Proofs.Ytmpgpkdijfcfhaa.Hz
