/- Texts of the calculus and of the program's functions, merged: ND0 LW WP WB WX WS WL. -/
import Derived.Test.YtmpgpkdijfcfhaaHyGH
import Derived.Test.YtmpgpkdijfcfhaaHyGC
import Derived.Test.YtmpgpkdijfcfhaaHyGE
namespace Go.Proofs.Ytmpgpkdijfcfhaa.Hz
open Go.RowKit
set_option linter.unusedVariables false
set_option linter.unusedSimpArgs false
set_option maxRecDepth 20000
def dropData (d:List Str) (bs:List Int):List Str:=bs.foldl (fun d b=>d.set b.toNat []) d
theorem dropData_len (bs:List Int):∀ d,(dropData d bs).length=d.length:=by
  induction bs with
  | nil=>intro d; rfl
  | cons b bs ih=>intro d; show (dropData (d.set b.toNat []) bs).length=_; rw [ih]; simp
theorem dropData_take (d:List Str) (bs:List Int) (k:Nat) (hk:k<bs.length):dropData d (bs.take (k+1))=(dropData d (bs.take k)).set bs[k].toNat []:=by
  rw [List.take_succ_eq_append_getElem hk,dropData,List.foldl_append]
  rfl
theorem cellE {h H:Hp} (e:Ext h H) {o i:Nat} {v:Value} (c:cellAt h o i=some v):cellAt H o i=some v:=by
  rw [cellAt_ext e (by obtain ⟨ob,ho,_⟩:=cellAt_some c; exact get_lt ho),c]
noncomputable def nodeDrop (f:Fs) (i:Int):Fs × Bool :=
  if usable f i && decide (i≠0) then (⟨f.nodes.set i.toNat ⟨0,0,0,0,[]⟩,dropData f.data (nA_ f i).blocks⟩,true) else (f,false)
theorem dropData_nl (bs:List Int):∀ d,sumL List.length (dropData d bs)≤sumL List.length d:=by
  induction bs with
  | nil=>intro d; exact Nat.le_refl _
  | cons b bs ih =>
    intro d
    refine Nat.le_trans (ih (d.set b.toNat [])) ?_
    by_cases hi:b.toNat<d.length
    · have:=sumL_set List.length d _ hi []
      simp at this
      omega
    · rw [List.set_eq_of_length_le (by omega)]
      exact Nat.le_refl _
theorem nodeDrop_nl (f:Fs) (i:Int):(nodeDrop f i).1.nl≤f.nl:=by
  unfold nodeDrop
  split
  · have h1:=dropData_nl (nA_ f i).blocks f.data
    have h2:=dropData_len (nA_ f i).blocks f.data
    have h3:sumL Node.nl (f.nodes.set i.toNat ⟨0,0,0,0,[]⟩)≤sumL Node.nl f.nodes:=by
      by_cases hi:i.toNat<f.nodes.length
      · have:=sumL_set Node.nl f.nodes _ hi ⟨0,0,0,0,[]⟩
        simp [Node.nl] at this ⊢
        omega
      · rw [List.set_eq_of_length_le (by omega)]
        exact Nat.le_refl _
    simp only [Fs.nl,List.length_set,h2]
    omega
  · exact Nat.le_refl _
set_option maxHeartbeats 2000000 in
theorem nodeDrop_spec_c (f:Fs) (a1 a2:Option Addr) (F1 F2:List Nat) (w:Bool) (tNode:TypeId) (h:Hp) (k1:slR w tNode (nodeE w) h f.nodes a1 F1) (k2:slR w 9 strE h f.data a2 F2) (hl:f.nl≤1048576) (i:Int) :
    ACall Try.prog 104 [.agg #[.slice a1 f.nodes.length f.nodes.length,.slice a2 f.data.length f.data.length],.int .i64 i] h fun r h'=>∃ v,r=.tuple #[v,.bool (nodeDrop f i).2]∧FsRes (nodeDrop f i).1 h h' v:=by
  refine acall mixed Try.func104 rfl (by kernel_rfl) ?_
  have hlim:=Fs.lim_of f hl
  simp [Try.f104]
  refine cK (l6Copy_c f a1 a2 F1 F2 w w w tNode _ _ (k1.to (by simp)) (k2.to (by simp)) hlim.1 hlim.2.2 hlim.2.1) ?_
  rintro _ _ ⟨an,G1,ad,G2,rfl,o1,o2,dis⟩
  obtain ⟨u,rfl⟩:=o1.ext.pre
  simp at o1 o2
  have kk:=FsOut.start o1 o2 dis
  clear o1 o2 dis
  simp
  generalize h.length+(u.length+1+1)=oi at kk ⊢
  generalize (h++_ :: _ :: (u++_):Hp)=H at kk ⊢
  refine cK (usable_spec_c f a1 a2 F1 F2 w tNode _ (k1.ext kk.ext) (k2.ext kk.ext) hl i) ?_
  rintro _ _ ⟨⟨t1,rfl⟩,rfl⟩
  replace kk:=kk.grow t1
  generalize H++t1=H at kk ⊢
  have cc:=kk.cells
  have dn:=kk.done [.slice an f.nodes.length f.nodes.length,.slice ad f.data.length f.data.length] rfl
  cases e1:usable f i
  · have hd:nodeDrop f i=(f,false):=by simp [nodeDrop,e1]
    rw [hd]
    simp [cc,dn.1,dn.2.1,dn.2.2.1]
    exact kk.res_ _ _ rfl rfl
  have e2:=e1
  simp only [usable,Bool.and_eq_true] at e2
  have s:=shapeOk_iff.1 e2.1
  have e3:=inR_iff.1 e2.2.1
  obtain ⟨m,rfl⟩:=Int.eq_ofNat_of_zero_le e3.1
  have hi:m<f.nodes.length:=by omega
  simp
  refine aSI (fun hb=>?_) (fun hb=>?_) <;> simp at hb <;> simp [hb,cc]
  · obtain rfl:m=0:=by omega
    have hd:nodeDrop f 0=(f,false):=by simp [nodeDrop]
    rw [hd]
    simp [cc,dn.1,dn.2.1,dn.2.2.1]
    exact kk.res_ _ _ rfl rfl
  clear dn
  have hd:nodeDrop f (m:Int)=(⟨f.nodes.set m ⟨0,0,0,0,[]⟩,dropData f.data f.nodes[m].blocks⟩,true):=by simp [nodeDrop,e1,hb,nodeAtI_get hi]
  rw [hd]
  obtain ⟨o,off,b1,B1,ea,c0,c1,c2,c3,c4,kb,-⟩:=nodeAt k1 hi
  have hbl:f.nodes[m].blocks.length≤1048576:=hlim.2.1 _ (List.getElem_mem hi)
  subst ea
  refine aloop mixed [1,2,4,6,7] (fun (x:Nat × Hp)=>[.int .i64 m,.pointer (some ⟨h.length,0,none⟩),.pointer (some ⟨h.length+1,0,none⟩),.pointer (some ⟨oi,0,none⟩),.int .i64 x.1]) (fun x=>x.2)
    (fun x=>x.1≤f.nodes[m].blocks.length∧FsOut f (some ⟨o,off,none⟩) a2 h oi ⟨f.nodes,dropData f.data (f.nodes[m].blocks.take x.1)⟩ an ad x.2) (fun x=>f.nodes[m].blocks.length - x.1) (0,H) ⟨by simp,by simpa [dropData] using kk⟩ (by simp [pickF]) rfl ?_
  clear kk cc
  rintro ⟨j,H⟩ ⟨hj,kk⟩
  simp only at hj kk
  have cc:=kk.cells
  simp only [dropData_len] at cc
  have c4H:=cellE kk.ext c4
  simp [mkF,cc,hi,c4H]
  refine aSI (fun hc=>?_) (fun hc=>?_) <;> simp at hc <;> simp [hc]
  · obtain ⟨ob,offb,eb,cb⟩:=intEAt (kb.ext kk.ext) hc
    subst eb
    have hbm:=s.own.1 _ (mem_held hi hc)
    have hq:f.nodes[m].blocks[j].toNat<(dropData f.data (f.nodes[m].blocks.take j)).length:=by rw [dropData_len]; omega
    obtain ⟨Fn,Fd,-,dat,-⟩:=kk.own
    obtain ⟨od,offd,ed,-⟩:=strEAt dat.sl hq
    subst ed
    obtain ⟨hcs,kf⟩:=kk.put hq []
    simp only at kf
    rw [← dropData_take _ _ _ hc] at kf
    refine drawK false (by kernel_rfl) ?_
    simp [hc,hi,c4H,cb,cc,hbm.1,hbm.2,hcs]
    exact anext (j+1,_) ⟨hc,kf⟩ (by simp only; omega) (by simp [pickF,wS (show j<9223372036854775807 by omega)]) rfl (by simp)
  · obtain rfl:j=f.nodes[m].blocks.length:=by omega
    rw [List.take_length] at kk
    obtain ⟨Fn,Fd,own,-⟩:=kk.own
    obtain ⟨o2,off2,b0,G0,ea,-⟩:=nodeAt own.sl (show m<_ from hi)
    subst ea
    clear own
    obtain ⟨hcs,kf⟩:=kk.clear (show m<_ from hi)
    simp [cc,hi,hcs]
    generalize sA_ H o2 (off2+m * 5) [Value.int IntKind.i64 0,Value.int IntKind.i64 0,Value.int IntKind.i64 0,Value.int IntKind.i64 0,Value.slice none 0 0]=H at kf ⊢
    have dn:=kf.done [.slice (some ⟨o2,off2,none⟩) f.nodes.length f.nodes.length,.slice ad f.data.length f.data.length] rfl
    have cf:=kf.cells
    simp [dropData_len] at cf
    simp [cf,dn.1,dn.2.1,dn.2.2.1]
    simpa [dropData_len] using kf.res_ (.slice (some ⟨o2,off2,none⟩) f.nodes.length f.nodes.length) (.slice ad f.data.length f.data.length) (by simp) (by simp [dropData_len])
def WkV (v v':Value):Prop:=v'=v∨∃ a n c c',v=.slice (some a) n c∧v'=.slice (some a) n c'∧c'≤c
theorem WkV.rel {φ:Inj} {v v' u:Value} (k:WkV v v') (r:RelC φ v u):RelC φ v' u:=by
  rcases k with rfl | ⟨a,n,c,c',rfl,rfl,hc⟩
  · exact r
  · obtain ⟨p,c2,a',e,sp,h1,h2,h3⟩:=r
    exact ⟨p,c2,a',e,sp,Nat.le_trans hc h1,h2,h3⟩
theorem WkV.ok {v v':Value} (k:WkV v v'):okCell v'=okCell v:=by
  rcases k with rfl | ⟨a,n,c,c',rfl,rfl,hc⟩ <;> rfl
def WkOb (ob ob':Ob):Prop:=ob'.live=ob.live∧ob'.rw=ob.rw∧ob'.elem=ob.elem∧All2 WkV ob.cells ob'.cells
def WkH (h h':Hp):Prop:=All2 WkOb h h'
theorem wkV_list:∀ (l:List Value),All2 WkV l l
  | []=>trivial
  | _ :: l=>⟨.inl rfl,wkV_list l⟩
theorem WkOb.refl (ob:Ob):WkOb ob ob:=⟨rfl,rfl,rfl,wkV_list _⟩
theorem WkH.refl:∀ (h:Hp),WkH h h
  | []=>trivial
  | ob :: h=>⟨WkOb.refl ob,WkH.refl h⟩
theorem all2_back_get {α β:Type} {R:α→β→Prop}:∀ {ls:List α} {bs:List β} (_:All2 R ls bs) (i:Nat) (b:β),bs[i]?=some b→∃ a,ls[i]?=some a∧R a b
  | [],[],_,_,_,e=>by simp at e
  | a :: _,_ :: _,h,0,b,e=>by simp at e; subst e; exact ⟨a,rfl,h.1⟩
  | _ :: _,_ :: _,h,i+1,b,e=>by simpa using all2_back_get h.2 i b (by simpa using e)
  | [],_ :: _,h,_,_,_=>h.elim
  | _ :: _,[],h,_,_,_=>h.elim
theorem wk_all {l l':List Value} (k:All2 WkV l l') (h:l.all okCell=true):l'.all okCell=true:=by
  rw [List.all_eq_true] at h ⊢
  intro v hv
  obtain ⟨i,hi,e⟩:=List.getElem_of_mem hv
  obtain ⟨u,hu,hw⟩:=all2_back_get k i v (by rw [List.getElem?_eq_getElem hi,e])
  rw [hw.ok]
  exact h u (List.mem_of_getElem? hu)
section
variable {P:Program} {B:Bd} {w0 w:World} {φ:Inj} {h h':Hp}
theorem Rel.wk (R:Rel P B w0 φ h w) (k:WkH h h'):Rel P B w0 φ h' w:=by
  have hl:h.length=h'.length:=All2.length k
  refine ⟨R.below,R.base,R.len.trans hl,fun o ob' p ho hp=>?_,fun o ob' p ho hp hlv=>?_,fun o o' ob1 ob2 p1 p2 ho ho' hp hp' l1 l2 r1 r2 hne=>?_⟩
  · obtain ⟨ob,g,_,_,ge,_⟩:=all2_back_get k o ob' ho
    rw [ge]
    exact R.esz o ob p g hp
  · obtain ⟨ob,g,gl,gr,ge,gc⟩:=all2_back_get k o ob' ho
    have r:=R.obj o ob p g hp (by rw [← gl]; exact hlv)
    have hlen:=All2.length gc
    refine ⟨by rw [gr]; exact r.rw,wk_all gc r.ok,fun j v' hj=>?_,fun hrw=>?_,fun hrw=>?_,fun hrw=>by rw [ge]; exact r.mark (by rw [← gr]; exact hrw)⟩
    · obtain ⟨v,hv,hw⟩:=all2_back_get gc j v' hj
      obtain ⟨u,k1,k2⟩:=r.cell j v hv
      exact ⟨u,k1,hw.rel k2⟩
    · have:=r.own (by rw [← gr]; exact hrw)
      rw [hlen,← ge] at this
      exact this
    · rcases r.arg (by rw [← gr]; exact hrw) with h | h
      · exact .inl h
      · right
        rw [h] at hlen
        exact List.eq_nil_of_length_eq_zero hlen.symm
  · obtain ⟨oa,g1,gl1,gr1,_⟩:=all2_back_get k o ob1 ho
    obtain ⟨ob,g2,gl2,gr2,_⟩:=all2_back_get k o' ob2 ho'
    exact R.apart o o' oa ob p1 p2 g1 g2 hp hp' (by rw [← gl1]; exact l1) (by rw [← gl2]; exact l2) (by rw [← gr1]; exact r1) (by rw [← gr2]; exact r2) hne
theorem wk_set:∀ (l:List Value) (i:Nat) {v v':Value},WkV v v'→All2 WkV (l.set i v) (l.set i v')
  | [],_,_,_,_=>trivial
  | _ :: l,0,_,_,k=>⟨k,wkV_list l⟩
  | _ :: l,i+1,_,_,k=>⟨.inl rfl,wk_set l i k⟩
theorem wk_modify (g g':Ob→Ob) (hg:∀ ob,WkOb (g ob) (g' ob)):∀ (h:Hp) (o:Nat),WkH (h.modify o g) (h.modify o g')
  | [],o=>by simp; exact trivial
  | ob :: h,0=>⟨hg ob,WkH.refl h⟩
  | ob :: h,o+1=>⟨WkOb.refl ob,wk_modify g g' hg h o⟩
theorem WkH.set (h:Hp) (o i:Nat) {v v':Value} (k:WkV v v'):WkH (sA_ h o i [v]) (sA_ h o i [v']) :=
  wk_modify (fun ob=>{ ob with cells:=ob.cells.set i v }) (fun ob=>{ ob with cells:=ob.cells.set i v' }) (fun ob=>⟨rfl,rfl,rfl,wk_set ob.cells i k⟩) h o
end
def fillF (fr:Int→Bool) (need:Nat):List Int→List Int→List Int
  | [],bs=>bs
  | b :: cs,bs=>if bs.length<need then fillF fr need cs (if fr b then bs++[b] else bs) else bs
def idxs (n:Nat):List Int:=(List.range n).map fun (k:Nat)=>(k:Int)
def chunk (data:Str) (k:Nat):Str:=(data.take (min data.length (16 * (k+1)))).drop (16 * k)
def putChunks (data:Str):List Int→Nat→List Str→List Str
  | [],_,d=>d
  | b :: bs,k,d=>putChunks data bs (k+1) (d.set b.toNat (chunk data k))
def needOf (data:Str):Nat:=(blocksFor data.length).toNat
def freeB (f:Fs) (b:Int):Bool:=decide (b ∉ held f.nodes)
def writeBlocks (f:Fs) (i:Int) (data:Str):List Int:=fillF (freeB f) (needOf data) (idxs f.data.length) ((nA_ f i).blocks.take (needOf data))
def written (f:Fs) (i:Int) (data:Str):Fs :=
  ⟨f.nodes.set i.toNat { nA_ f i with size:=data.length,blocks:=writeBlocks f i data },putChunks data (writeBlocks f i data) 0 (dropData f.data ((nA_ f i).blocks.drop (needOf data)))⟩
noncomputable def nW_ (f:Fs) (i:Int) (data:Str):Fs × Bool :=
  if usable f i && decide (data.length≤80) && decide (needOf data≤(writeBlocks f i data).length) then (written f i data,true) else (f,false)
theorem fillF_nil {fr:Int→Bool} {need:Nat} {cs bs:List Int} (h:need≤bs.length):fillF fr need cs bs=bs:=by
  cases cs with
  | nil=>rfl
  | cons b cs=>unfold fillF; rw [if_neg (by omega)]
theorem fillF_le {fr:Int→Bool} {need:Nat}:∀ (cs bs:List Int),bs.length≤need→(fillF fr need cs bs).length≤need
  | [],bs,h=>h
  | b :: cs,bs,h=>by
    unfold fillF
    split
    · refine fillF_le cs _ ?_
      split
      · simp; omega
      · exact h
    · exact h
theorem fillF_mem {fr:Int→Bool} {need:Nat}:∀ (cs bs:List Int) (x:Int),x∈fillF fr need cs bs→x∈bs∨(x∈cs∧fr x=true)
  | [],bs,x,h=>.inl h
  | b :: cs,bs,x,h=>by
    unfold fillF at h
    split at h
    · rcases fillF_mem cs _ x h with h1 | ⟨h1,h2⟩
      · split at h1
        · rename_i hb
          rcases List.mem_append.1 h1 with h1 | h1
          · exact .inl h1
          · simp at h1; subst h1; exact .inr ⟨by simp,hb⟩
        · exact .inl h1
      · exact .inr ⟨by simp [h1],h2⟩
    · exact .inl h
theorem fillF_pre {fr:Int→Bool} {need:Nat}:∀ (cs bs:List Int),bs <+: fillF fr need cs bs
  | [],bs=>List.prefix_refl _
  | b :: cs,bs=>by
    unfold fillF
    split
    · refine List.IsPrefix.trans ?_ (fillF_pre cs _)
      split
      · exact List.prefix_append _ _
      · exact List.prefix_refl _
    · exact List.prefix_refl _
theorem fillF_nodup {fr:Int→Bool} {need:Nat}:∀ (cs bs:List Int),cs.Nodup→bs.Nodup→(∀ x∈bs,x∈cs→fr x=false)→(fillF fr need cs bs).Nodup
  | [],bs,_,h,_=>h
  | b :: cs,bs,hc,hb,hd=>by
    unfold fillF
    split
    · have hc':=List.nodup_cons.1 hc
      refine fillF_nodup cs _ hc'.2 ?_ ?_
      · split
        · rename_i hfr
          rw [List.nodup_append]
          refine ⟨hb,by simp,fun x hx y hy=>?_⟩
          simp at hy
          rintro rfl
          subst hy
          have:=hd x hx (by simp)
          rw [hfr] at this
          cases this
        · exact hb
      · intro x hx hxc
        split at hx
        · rcases List.mem_append.1 hx with hx | hx
          · exact hd x hx (by simp [hxc])
          · simp at hx; subst hx; exact absurd hxc hc'.1
        · exact hd x hx (by simp [hxc])
    · exact hb
theorem idxs_get (n k:Nat) (hk:k<(idxs n).length):(idxs n)[k]=(k:Int):=by simp [idxs]
theorem idxs_len (n:Nat):(idxs n).length=n:=by simp [idxs]
theorem idxs_drop (n k:Nat) (hk:k<n):(idxs n).drop k=(k:Int) :: (idxs n).drop (k+1):=by
  rw [List.drop_eq_getElem_cons (by rw [idxs_len]; exact hk),idxs_get]
theorem mem_idxs {n:Nat} {x:Int}:x∈idxs n↔0≤x∧x<n:=by
  simp only [idxs,List.mem_map,List.mem_range]
  constructor
  · rintro ⟨k,hk,rfl⟩; omega
  · rintro ⟨h1,h2⟩; exact ⟨x.toNat,by omega,by omega⟩
theorem idxs_nodup (n:Nat):(idxs n).Nodup:=by
  unfold idxs
  rw [List.nodup_iff_pairwise_ne,List.pairwise_map]
  exact List.nodup_range.imp fun hab e=>hab (by omega)
theorem putChunks_len (data:Str):∀ (bs:List Int) (k:Nat) (d:List Str),(putChunks data bs k d).length=d.length
  | [],_,_=>rfl
  | b :: bs,k,d=>by unfold putChunks; rw [putChunks_len data bs]; simp
theorem putChunks_drop (data:Str) (bs:List Int) (k:Nat) (hk:k<bs.length) (d:List Str):putChunks data (bs.drop k) k d=putChunks data (bs.drop (k+1)) (k+1) (d.set bs[k].toNat (chunk data k)):=by
  rw [List.drop_eq_getElem_cons hk]; rfl
theorem needOf_le (data:Str) (h:data.length≤80):needOf data≤5∧blocksFor data.length=(needOf data:Int)∧data.length≤16 * needOf data∧∀ k,k<needOf data→16 * k<data.length:=by
  unfold needOf blocksFor
  split
  · rename_i h0
    have:data.length=0:=by omega
    simp [this]
  · split
    · refine ⟨by omega,by omega,by omega,fun k hk=>by omega⟩
    · refine ⟨by omega,by omega,by omega,fun k hk=>by omega⟩
theorem held_set {ns:List Node} {i:Nat} {x:Node} (hi:i<ns.length) (hs:x.blocks.Sublist ns[i].blocks):(held (ns.set i x)).Sublist (held ns):=by
  have e1:ns.set i x=ns.take i++x :: ns.drop (i+1):=by rw [List.set_eq_take_append_cons_drop,if_pos hi]
  have e2:ns=ns.take i++ns[i] :: ns.drop (i+1):=by
    rw [← List.drop_eq_getElem_cons hi,List.take_append_drop]
  have h1:held (ns.set i x)=held (ns.take i)++(x.blocks++held (ns.drop (i+1))):=by rw [e1]; simp [held]
  have h2:held ns=held (ns.take i)++(ns[i].blocks++held (ns.drop (i+1))):=by
    have h3:held ns=held (ns.take i++ns[i] :: ns.drop (i+1)):=congrArg held e2
    rw [h3]
    simp only [held,List.flatMap_append,List.flatMap_cons]
  rw [h1,h2]
  exact (List.Sublist.refl _).append (hs.append (List.Sublist.refl _))
theorem ownOk_set {f:Fs} (ok:OwnOk f) {i:Nat} {x:Node} (hi:i<f.nodes.length) (hs:x.blocks.Sublist f.nodes[i].blocks) {d:List Str} (hd:d.length=f.data.length):OwnOk ⟨f.nodes.set i x,d⟩ :=
  ⟨fun b hb=>by rw [show (Fs.mk (f.nodes.set i x) d).data.length=f.data.length from hd]; exact ok.1 b ((held_set hi hs).mem hb),ok.2.sublist (held_set hi hs)⟩
section
variable {α:Type} {A:Enc α} {h0 h:Hp} {e:TypeId} {xs:List α} {F:List Nat} {o off:Nat}
theorem Own.swap (k:Own h0 e A h xs (some ⟨o,off,none⟩) F) {i:Nat} {x:α} (hx:xs[i]?=some x) :
    ∃ c Fi,A.R h x c Fi∧Fi.Nodup∧(∀ q∈Fi,q∈F∧q≠o)∧o∈F∧(∀ j,j<A.n→cellAt h o (off+i * A.n+j)=c[j]?) ∧
      ∀ (H':Hp) (j:Nat) (vs:List Value) (x':α) (Fi':List Nat),Ext h0 H'→(∀ q∈F,q ∉ Fi→H'[q]?=h[q]?)→j+vs.length≤A.n→A.R H' x' (setL c j vs) Fi'→o ∉ Fi'→Fi'.Nodup→(∀ q∈Fi',h0.length≤q∧(q∈F→q∈Fi)) →
        cS_ H' o (off+i * A.n+j) vs.length=true∧∃ F',Own h0 e A (sA_ H' o (off+i * A.n+j) vs) (xs.set i x') (some ⟨o,off,none⟩) F'∧∀ q∈F',q∈F∨q∈Fi':=by
  obtain ⟨e0,⟨_,ob,css,Fs,pre,post,g1,g2,g3,g4,rfl,g5,g6,g7⟩,nd,new⟩:=k
  simp only at g1 g7
  obtain ⟨c1,c,c2,F1,Fi,F2,rfl,rfl,s1,s2,s3,s4⟩:=g5.split i x hx
  have nd0:=nd
  rw [List.nodup_cons] at nd
  have hlen:=A.len s3
  have hfl:(F1++Fi :: F2).flatten=F1.flatten++(Fi++F2.flatten):=by simp
  rw [hfl] at nd
  have n1:=List.nodup_append.1 nd.2
  have n2:=List.nodup_append.1 n1.2.1
  have nr:∀ q,q∈F1.flatten∨q∈F2.flatten→q≠o:=by
    intro q hq hh
    apply nd.1
    rw [← hh]
    rcases hq with hq | hq <;> simp [hq]
  have nf:∀ q,q∈F1.flatten∨q∈F2.flatten→q ∉ Fi:=by
    intro q hq hm
    rcases hq with hq | hq
    · exact n1.2.2 q hq q (by simp [hm]) rfl
    · exact n2.2.2 q hm q hq rfl
  have inF:∀ q,q∈F1.flatten∨q∈F2.flatten→q∈o :: (F1++Fi :: F2).flatten:=by
    intro q hq
    rw [hfl]
    rcases hq with hq | hq <;> simp [hq]
  have hoFi:o ∉ Fi:=fun hm=>nd.1 (by simp [hm])
  refine ⟨c,Fi,s3,n2.1,fun q hq=>⟨by rw [hfl]; simp [hq],fun hh=>nd.1 (by rw [← hh]; simp [hq])⟩,List.mem_cons_self,?_,?_⟩
  · intro j hj
    unfold cellAt
    rw [g1]
    simp only [g2,if_true]
    rw [g6]
    simp only [List.flatten_append,List.flatten_cons,List.append_assoc]
    rw [List.getElem?_append_right (by omega),List.getElem?_append_right (by omega),List.getElem?_append_left (by omega)]
    congr 1
    omega
  · intro H' j vs x' Fi' e1 keep hj hR ho hn' hq
    have g1':H'[o]?=some ob:=by rw [keep o List.mem_cons_self hoFi]; exact g1
    have other:∀ q,q≠o→(sA_ H' o (off+i * A.n+j) vs)[q]?=H'[q]?:=fun q hq=>by rw [sAg,if_neg (by omega)]
    have hxs:xs.set i x'=xs.take i++x' :: xs.drop (i+1):=by
      have hi:=(List.getElem?_eq_some_iff.1 hx).1
      rw [List.set_eq_take_append_cons_drop,if_pos hi]
    refine ⟨?_,o :: (F1++Fi' :: F2).flatten,⟨e1.set (new o List.mem_cons_self) _ _,⟨rfl,{ ob with cells:=setL ob.cells (off+i * A.n+j) vs },c1++setL c j vs :: c2,F1++Fi' :: F2,pre,post,?_,g2,g3,g4,rfl,?_,?_,g7⟩,?_,?_⟩,?_⟩
    · have hl2:ob.cells.length=pre.length+(c1.flatten.length+(c.length+c2.flatten.length))+post.length:=by
        rw [g6]; simp only [List.flatten_append,List.flatten_cons,List.length_append]
      have:off+i * A.n+j+vs.length≤ob.cells.length:=by omega
      simp [cS_,g1',g2,g3,this]
    · show (sA_ H' o (off+i * A.n+j) vs)[o]?=_
      rw [sAg,if_pos rfl,g1']
      rfl
    · rw [hxs]
      have k1:∀ q,q∈F1.flatten∨q∈F2.flatten→(sA_ H' o (off+i * A.n+j) vs)[q]?=h[q]?:=fun q hq=>by rw [other q (nr q hq),keep q (inF q hq) (nf q hq)]
      exact rowsR.append (s2.frame fun q hq=>k1 q (.inl hq)) ⟨A.frame hR fun q hq=>other q fun hh=>ho (hh ▸ hq),s4.frame fun q hq=>k1 q (.inr hq)⟩
    · show setL ob.cells (off+i * A.n+j) vs=_
      rw [g6]
      simp only [List.flatten_append,List.flatten_cons,List.append_assoc]
      rw [show off+i * A.n+j=pre.length+(c1.flatten.length+j) by omega,setL_append_right,setL_append_right,setL_append_left _ _ _ _ (by omega)]
    · have hfl':(F1++Fi' :: F2).flatten=F1.flatten++(Fi'++F2.flatten):=by simp
      rw [List.nodup_cons,hfl']
      rw [hfl] at hq
      have hqi:∀ q∈Fi',q∈F1.flatten∨q∈F2.flatten→False:=fun q h1 h2=>nf q h2 ((hq q h1).2 (by rcases h2 with h2 | h2 <;> simp [h2]))
      refine ⟨?_,?_⟩
      · simp only [List.mem_append,not_or]
        exact ⟨fun hh=>nr o (.inl hh) rfl,ho,fun hh=>nr o (.inr hh) rfl⟩
      · rw [List.nodup_append]
        refine ⟨n1.1,?_,?_⟩
        · rw [List.nodup_append]
          exact ⟨hn',n2.2.1,fun x hx y hy=>by rintro rfl; exact hqi x hx (.inr hy)⟩
        · intro x hx y hy
          rintro rfl
          rcases List.mem_append.1 hy with hy | hy
          · exact hqi x hy (.inl hx)
          · exact n1.2.2 x hx x (by simp [hy]) rfl
    · intro q hq'
      rcases List.mem_cons.1 hq' with rfl | hq'
      · exact new q List.mem_cons_self
      · simp only [List.flatten_append,List.flatten_cons,List.mem_append] at hq'
        rcases hq' with hq' | hq' | hq'
        · exact new q (inF q (.inl hq'))
        · exact (hq q hq').1
        · exact new q (inF q (.inr hq'))
    · intro q hq'
      rcases List.mem_cons.1 hq' with rfl | hq'
      · exact .inl List.mem_cons_self
      · simp only [List.flatten_append,List.flatten_cons,List.mem_append] at hq'
        rcases hq' with hq' | hq' | hq'
        · exact .inl (inF q (.inl hq'))
        · exact .inr hq'
        · exact .inl (inF q (.inr hq'))
end
section
variable {f0 f:Fs} {a1 a2 an ad:Option Addr} {h H:Hp} {oi:Nat}
theorem FsOut.blocks {o off:Nat} (k:FsOut f0 a1 a2 h oi f (some ⟨o,off,none⟩) ad H) {i:Nat} {x:Node} (hx:f.nodes[i]?=some x) :
    ∃ ab Fb,Own h 3 intE H x.blocks ab Fb∧cellAt H o (off+i * 5+4)=some (.slice ab x.blocks.length x.blocks.length)∧(∀ q∈Fb,h.length+2≤q∧q≠oi∧q≠o) ∧
      ∀ (H':Hp) (bs':List Int) (ab':Option Addr) (Fb':List Nat),Own h 3 intE H' bs' ab' Fb'→(∀ q,q<H.length→q ∉ Fb→H'[q]?=H[q]?)→H.length≤H'.length→(∀ q∈Fb',q∈Fb∨H.length≤q) →
        cS_ H' o (off+i * 5+4) 1=true∧FsOut f0 a1 a2 h oi ⟨f.nodes.set i { x with blocks:=bs' },f.data⟩ (some ⟨o,off,none⟩) ad (sA_ H' o (off+i * 5+4) [.slice ab' bs'.length bs'.length]):=by
  obtain ⟨ext,box,⟨y,z,res⟩,out,oi2,Fn,Fd,own,dat,dn,dd⟩:=k
  obtain ⟨c,Fi,⟨ab,Fb,rfl,rfl,sl⟩,hnd,hsub,hoF,hcell,hput⟩:=own.swap hx
  have hn5:(nodeE true).n=5:=rfl
  simp only [hn5] at hcell hput
  have ho:=dn o hoF
  refine ⟨ab,Fi,⟨ext,sl,hnd,fun q hq=>own.new q (hsub q hq).1⟩,hcell 4 (by omega),fun q hq=>⟨(dn q (hsub q hq).1).1,(dn q (hsub q hq).1).2.1,(hsub q hq).2⟩,?_⟩
  intro H' bs' ab' Fb' o' keep hl hF
  have e1:Ext h H':=o'.ext
  obtain ⟨hc,F',own',sub⟩:=hput H' 4 [.slice ab' bs'.length bs'.length] { x with blocks:=bs' } Fb' e1 (fun q hq hnq=>keep q (own.sl.lt q hq) hnq) (by simp) ⟨ab',Fb',rfl,rfl,o'.sl⟩
    (fun hm=>by
      rcases hF o hm with h1 | h1
      · exact (hsub o h1).2 rfl
      · have:=own.sl.lt o hoF; omega) o'.nd (fun q hq=>⟨o'.new q hq,fun hqF=>by
      rcases hF q hq with h1 | h1
      · exact h1
      · have:=own.sl.lt q hqF; omega⟩)
  have hne:∀ q,q≠o→(sA_ H' o (off+i * 5+4) [.slice ab' bs'.length bs'.length])[q]?=H'[q]?:=fun q hq=>by rw [sAg,if_neg (fun e=>hq e.symm)]
  have hkeep:∀ q,q<H.length→q≠o→q ∉ Fi→(sA_ H' o (off+i * 5+4) [.slice ab' bs'.length bs'.length])[q]?=H[q]?:=fun q h1 h2 h3=>(hne q h2).trans (keep q h1 h3)
  have hlo:∀ q∈Fi,h.length+2≤q∧q≠oi:=fun q hq=>⟨(dn q (hsub q hq).1).1,(dn q (hsub q hq).1).2.1⟩
  have hFd:∀ q∈Fd,q ∉ Fi:=fun q hq hm=>(dn q (hsub q hm).1).2.2 hq
  refine ⟨hc,⟨own'.ext,?_,⟨y,z,?_⟩,?_,oi2,F',Fd,own',⟨own'.ext,dat.sl.frame fun q hq=>hkeep q (dat.sl.lt q hq) (fun e=>ho.2.2 (e ▸ hq)) (hFd q hq),dat.nd,dat.new⟩,fun q hq=>?_,dd⟩⟩
  · rw [hkeep h.length (get_lt box) (by omega) (fun hm=>by have:=hlo _ hm; omega)]; exact box
  · rw [hkeep (h.length+1) (get_lt res) (by omega) (fun hm=>by have:=hlo _ hm; omega)]; exact res
  · rw [hkeep oi (get_lt out) (Ne.symm ho.2.1) (fun hm=>(hlo _ hm).2 rfl),List.length_set]; exact out
  · rcases sub q hq with h1 | h1
    · exact dn q h1
    · rcases hF q h1 with h2 | h2
      · exact dn q (hsub q h2).1
      · have h3:=get_lt out
        exact ⟨by omega,by omega,fun hm=>by have:=dat.sl.lt q hm; omega⟩
end
section
variable {f0 f:Fs} {a1 a2 an ad:Option Addr} {h H:Hp} {oi:Nat}
theorem FsOut.apart {o off o' off':Nat} (k:FsOut f0 a1 a2 h oi f (some ⟨o,off,none⟩) (some ⟨o',off',none⟩) H):o≠o'∧o<H.length∧o'<H.length:=by
  obtain ⟨ext,box,res,out,oi2,Fn,Fd,own,dat,dn,dd⟩:=k
  exact ⟨fun e=>(dn o own.memF).2.2 (by rw [e]; exact dat.memF),own.sl.lt o own.memF,dat.sl.lt o' dat.memF⟩
theorem FsOut.other {g:Fs} {b1 b2:Option Addr} {G1 G2:List Nat} {H':Hp} (k:FsOut f0 a1 a2 h oi f an ad H) (o1:Own H 49 (nodeE true) H' g.nodes b1 G1) (o2:Own H 9 strE H' g.data b2 G2) (dis:∀ q∈G1,q ∉ G2) :
    cS_ H' (h.length+1) 0 2=true∧FsRes g h (sA_ H' (h.length+1) 0 [.slice b1 g.nodes.length g.nodes.length,.slice b2 g.data.length g.data.length]) (.agg #[.slice b1 g.nodes.length g.nodes.length,.slice b2 g.data.length g.data.length]) ∧
    cellAt (sA_ H' (h.length+1) 0 [.slice b1 g.nodes.length g.nodes.length,.slice b2 g.data.length g.data.length]) (h.length+1) 0=some (.slice b1 g.nodes.length g.nodes.length)∧cellAt (sA_ H' (h.length+1) 0 [.slice b1 g.nodes.length g.nodes.length,.slice b2 g.data.length g.data.length]) (h.length+1) 1=some (.slice b2 g.data.length g.data.length):=by
  obtain ⟨u,rfl⟩:=o1.ext.pre
  have k2:=k.grow u
  obtain ⟨c1,c2,c3,_⟩:=k2.done [.slice b1 g.nodes.length g.nodes.length,.slice b2 g.data.length g.data.length] rfl
  have hne:∀ q,H.length≤q→(sA_ (H++u) (h.length+1) 0 [.slice b1 g.nodes.length g.nodes.length,.slice b2 g.data.length g.data.length])[q]?=(H++u)[q]?:=fun q hq=>by
    have:=get_lt k.out
    have:=k.oi2
    rw [sAg,if_neg (by omega)]
  have e0:Ext h (H++u):=k2.ext
  refine ⟨c1,⟨b1,G1,b2,G2,rfl,⟨e0.set (by omega) 0 _,o1.sl.frame fun q hq=>hne q (o1.new q hq),o1.nd,fun q hq=>?_⟩,⟨e0.set (by omega) 0 _,o2.sl.frame fun q hq=>hne q (o2.new q hq),o2.nd,fun q hq=>?_⟩,dis⟩,c2,c3⟩
  · have:=o1.new q hq; have:=k.ext.1; omega
  · have:=o2.new q hq; have:=k.ext.1; omega
end
theorem FsRes.early {g:Fs} {h t1 u:Hp} {B R R':Ob} {b1 b2:Option Addr} {G1 G2:List Nat} (o1:Own (h++B :: R :: t1) 49 (nodeE true) (h++B :: R :: (t1++u)) g.nodes b1 G1) (o2:Own (h++B :: R :: t1) 9 strE (h++B :: R :: (t1++u)) g.data b2 G2) (dis:∀ q∈G1,q ∉ G2) :
    FsRes g h (h++B :: R' :: (t1++u)) (.agg #[.slice b1 g.nodes.length g.nodes.length,.slice b2 g.data.length g.data.length]):=by
  have hne:∀ q,(h++B :: R :: t1).length≤q→(h++B :: R' :: (t1++u))[q]?=(h++B :: R :: (t1++u))[q]?:=fun q hq=>by
    simp at hq
    rw [List.getElem?_append_right (by omega),List.getElem?_append_right (by omega)]
    obtain ⟨m,hm⟩:∃ m,q - h.length=m+2:=⟨q - h.length - 2,by omega⟩
    rw [hm]
    rfl
  refine ⟨b1,G1,b2,G2,rfl,⟨Ext.push _ _,o1.sl.frame fun q hq=>hne q (o1.new q hq),o1.nd,fun q hq=>?_⟩,⟨Ext.push _ _,o2.sl.frame fun q hq=>hne q (o2.new q hq),o2.nd,fun q hq=>?_⟩,dis⟩
  · have:=o1.new q hq; simp at this; omega
  · have:=o2.new q hq; simp at this; omega
def withB (f:Fs) (i:Nat) (x:Node) (bs:List Int) (d:List Str):Fs:=⟨f.nodes.set i { x with blocks:=bs },d⟩
@[simp] theorem withB_nodes (f:Fs) (i:Nat) (x:Node) (bs:List Int) (d:List Str):(withB f i x bs d).nodes.length=f.nodes.length:=by simp [withB]
@[simp] theorem withB_data (f:Fs) (i:Nat) (x:Node) (bs:List Int) (d:List Str):(withB f i x bs d).data=d:=rfl
section
variable {f0 f:Fs} {a1 a2 an ad:Option Addr} {h H:Hp} {oi o off:Nat} {j:Nat} {n:Node} {bs:List Int} {d:List Str}
theorem FsOut.wblocks (k:FsOut f0 a1 a2 h oi (withB f j n bs d) (some ⟨o,off,none⟩) ad H) (hj:j<f.nodes.length) :
    ∃ ab Fb,Own h 3 intE H bs ab Fb∧cellAt H o (off+j * 5+4)=some (.slice ab bs.length bs.length)∧(∀ q∈Fb,h.length+2≤q∧q≠oi∧q≠o) ∧
      ∀ (H':Hp) (bs':List Int) (ab':Option Addr) (Fb':List Nat),Own h 3 intE H' bs' ab' Fb'→(∀ q,q<H.length→q ∉ Fb→H'[q]?=H[q]?)→H.length≤H'.length→(∀ q∈Fb',q∈Fb∨H.length≤q) →
        cS_ H' o (off+j * 5+4) 1=true∧FsOut f0 a1 a2 h oi (withB f j n bs' d) (some ⟨o,off,none⟩) ad (sA_ H' o (off+j * 5+4) [.slice ab' bs'.length bs'.length]):=by
  obtain ⟨ab,Fb,sl,hcb,hFb,hput⟩:=k.blocks (i:=j) (x:={ n with blocks:=bs }) (by simp [withB,hj])
  refine ⟨ab,Fb,sl,hcb,hFb,fun H' bs' ab' Fb' e1 e2 e3 e4=>?_⟩
  obtain ⟨g1,g2⟩:=hput H' bs' ab' Fb' e1 e2 e3 e4
  refine ⟨g1,?_⟩
  simpa [withB,List.set_set] using g2
theorem FsOut.wput {od offd:Nat} (k:FsOut f0 a1 a2 h oi (withB f j n bs d) an (some ⟨od,offd,none⟩) H) {b:Nat} (hb:b<d.length) (s:Str) :
    cS_ H od (offd+b) 1=true∧FsOut f0 a1 a2 h oi (withB f j n bs (d.set b s)) an (some ⟨od,offd,none⟩) (sA_ H od (offd+b) [.string (S s)]):=k.put hb s
theorem FsOut.wdat (k:FsOut f0 a1 a2 h oi (withB f j n bs d) an ad H) (hb:0<d.length):∃ od offd,ad=some ⟨od,offd,none⟩:=by
  obtain ⟨Fn,Fd,-,dat,-⟩:=k.own
  obtain ⟨od,offd,ed,-⟩:=strEAt dat.sl (i:=0) hb
  exact ⟨od,offd,ed⟩
end
theorem own_some_lt {h:Hp} {w:Bool} {t:TypeId} {α:Type} {A:Enc α} {xs:List α} {b:Addr} {F:List Nat} (k:slR w t A h xs (some b) F):b.block<h.length:=by
  obtain ⟨_,ob,css,Fs,pre,post,g1,_⟩:=k
  exact get_lt g1
section
variable {P:Program} {α:Type} {h0 h:Hp} {e:TypeId} {xs:List α} {a:Option Addr} {F:List Nat} {n:Nat} {f:α→List Value} {hn:∀ x,(f x).length=n} {hok:∀ x,(f x).all okCell=true}
theorem Own.append1L (k:Own h0 e (flatE n f hn hok) h xs a F) (x:α) {cs:List Value} (hx:cs=f x) {st xt:TypeId} {bt:Nat} {z:List Value} (hsl:isSlice P xt=true) (hel:elOf P st=some (e,n,bt,z)) (hs1:xs.length+1≤big) (hs2:(xs.length+1) * bt≤big) :
    ∃ a' h' F',aappend P (h++[⟨true,true,e,cs⟩]) st xt (.slice a xs.length xs.length) (.slice (some ⟨h.length,0,none⟩) 1 1)=some (.slice a' (xs.length+1) (xs.length+1),h')∧Own h0 e (flatE n f hn hok) h' (xs++[x]) a' F' ∧
      (∀ q,q<h.length→q ∉ F→h'[q]?=h[q]?)∧(∀ q∈F',q∈F∨h.length≤q)∧h.length≤h'.length:=by
  subst hx
  have hl:slR true e (flatE n f hn hok) (h++[⟨true,true,e,f x⟩]) [x] (some ⟨h.length,0,none⟩) [h.length]:=by
    have:=(Own.lit (h0:=h) (h:=h) (e:=e) (A:=flatE n f hn hok) (xs:=[x]) (css:=[f x]) (Fs:=[[]]) (Ext.refl h) ⟨⟨rfl,rfl⟩,trivial⟩ (by simp) (by simp)).sl
    simpa using this
  obtain ⟨cs,h1,h2,css,Fs,rfl,h4,_⟩:=hl.cells
  have hF:=flat_nil h4.flat.2
  obtain ⟨a',h',F',e1,e2,e3,e4,e5,_⟩:=(k.grow (Ext.push h [⟨true,true,e,f x⟩])).append (P:=P) (st:=st) (xt:=xt) (x:=.slice (some ⟨h.length,0,none⟩) 1 1) (css:=css) (Fs:=Fs) (ys:=[x]) (by
    have h1':cellsAt (h++[⟨true,true,e,f x⟩]) h.length 0 (1 * n)=some css.flatten:=h1
    show srcOf P _ n xt _=_
    rw [Nat.one_mul] at h1'
    simp [srcOf,hsl,h1']) h4 hel hs1 hs2 (by rw [hF]; simp) (by rw [hF]; simp)
  refine ⟨a',h',F',e1,e2,fun q hq hm=>?_,fun q hq=>?_,by simp at e4; omega⟩
  · rw [e3 q (by simp; omega) hm,List.getElem?_append_left hq]
  · rcases e5 q hq with h | h | h
    · exact .inl h
    · rw [hF] at h; cases h
    · simp at h; exact .inr (by omega)
end
theorem slR_some_mem {h:Hp} {w:Bool} {t:TypeId} {α:Type} {A:Enc α} {xs:List α} {b:Addr} {F:List Nat} (k:slR w t A h xs (some b) F):b.block∈F:=by
  obtain ⟨_,ob,css,Fs,pre,post,g1,g2,g3,g4,rfl,_⟩:=k
  exact List.mem_cons_self
theorem FsOut.wsize {f0 f:Fs} {a1 a2 ad:Option Addr} {h H:Hp} {oi o off:Nat} {j:Nat} {n:Node} {bs:List Int} {d:List Str} (k:FsOut f0 a1 a2 h oi (withB f j n bs d) (some ⟨o,off,none⟩) ad H) (hj:j<f.nodes.length) (v:Int) :
    cS_ H o (off+j * 5+3) 1=true∧FsOut f0 a1 a2 h oi (withB f j { n with size:=v } bs d) (some ⟨o,off,none⟩) ad (sA_ H o (off+j * 5+3) [.int .i64 v]):=by
  obtain ⟨g1,g2⟩:=k.field (i:=j) (x:={ n with blocks:=bs }) (by simp [withB,hj]) 3 v { n with size:=v,blocks:=bs } (by omega) rfl (fun _=>rfl)
  exact ⟨g1,by simpa [withB,List.set_set] using g2⟩
theorem cell_otherO {h:Hp} {o o' i j:Nat} {vs:List Value} (hij:o≠o'):cellAt (sA_ h o i vs) o' j=cellAt h o' j:=by
  unfold cellAt
  rw [sAg,if_neg hij]
theorem Ext.set2 {h0 h:Hp} (e:Ext h0 h) {o:Nat} (ho:o<h0.length) (i:Nat) (vs:List Value):Ext (sA_ h0 o i vs) (sA_ h o i vs):=by
  refine ⟨by rw [sAl,sAl]; exact e.1,fun q hq=>?_⟩
  rw [sAl] at hq
  rw [sAg,sAg,e.2 q hq]
theorem canSetE {h H:Hp} (e:Ext h H) {o i n:Nat} (c:cS_ h o i n=true):cS_ H o i n=true∧o<h.length:=by
  unfold cS_ at c ⊢
  cases hg:h[o]? with
  | none=>simp [hg] at c
  | some ob =>
    have:=get_lt hg
    rw [e.2 o this,hg]
    rw [hg] at c
    exact ⟨c,this⟩
theorem Own.away {α:Type} {A:Enc α} {h0 h:Hp} {e:TypeId} {xs:List α} {a:Option Addr} {F:List Nat} (k:Own h0 e A h xs a F) {o:Nat} (h1:h0.length≤o) (h2:o ∉ F) (i:Nat) (vs:List Value):Own h0 e A (sA_ h o i vs) xs a F :=
  ⟨k.ext.set h1 i vs,k.sl.frame fun q hq=>by rw [sAg,if_neg (fun e1=>h2 (by rw [e1]; exact hq))],k.nd,k.new⟩
structure KeepI (f:Fs) (a1 a2:Option Addr) (h:Hp) (oi j:Nat) (n:Node) (o off:Nat) (ad:Option Addr) (us:List Int) (ou offu:Nat) (d:List Str) (bs:List Int) (Hm:Hp) (ak:Option Addr) (H:Hp):Prop where
  out:FsOut f a1 a2 h oi (withB f j n n.blocks d) (some ⟨o,off,none⟩) ad Hm
  ext:Ext Hm H
  own:∃ Fk,Own h 3 intE H bs ak Fk∧(∀ q∈Fk,Hm.length≤q)∧ou ∉ Fk
  us:slR true 3 intE H us (some ⟨ou,offu,none⟩) [ou]
  ou:Hm.length≤ou
section
variable {f:Fs} {a1 a2:Option Addr} {h:Hp} {oi j:Nat} {n:Node} {o off:Nat} {ad:Option Addr} {us:List Int} {ou offu:Nat} {d:List Str} {bs:List Int} {Hm:Hp} {ak:Option Addr} {H:Hp}
theorem KeepI.append (k:KeepI f a1 a2 h oi j n o off ad us ou offu d bs Hm ak H) (x:Int) (hl:bs.length≤1048576) :
    ∃ a' H',aappend Try.prog (H++[⟨true,true,3,[.int .i64 x]⟩]) 47 47 (.slice ak bs.length bs.length) (.slice (some ⟨H.length,0,none⟩) 1 1)=some (.slice a' (bs.length+1) (bs.length+1),H')∧KeepI f a1 a2 h oi j n o off ad us ou offu d (bs++[x]) Hm a' H':=by
  obtain ⟨Fk,own,new,hou⟩:=k.own
  obtain ⟨a',H',F',eq,own',keep,sub,hl'⟩:=own.append1L (P:=Try.prog) x (cs:=[.int .i64 x]) rfl (st:=47) (xt:=47) (bt:=8) (z:=[.int .i64 0]) (by simp) (by simp) (by unfold big; omega) (by unfold big; omega)
  refine ⟨a',H',eq,k.out,⟨Nat.le_trans k.ext.1 hl',fun q hq=>?_⟩,⟨F',own',fun q hq=>?_,fun hm=>?_⟩,k.us.frame fun q hq=>?_,k.ou⟩
  · rw [keep q (by have:=k.ext.1; omega) (fun hm=>by have:=new q hm; omega),k.ext.2 q hq]
  · rcases sub q hq with h1 | h1
    · exact new q h1
    · have:=k.ext.1; omega
  · rcases sub ou hm with h1 | h1
    · exact hou h1
    · have:=own_some_lt k.us; simp only at this; omega
  · simp at hq
    rw [hq]
    exact keep ou (own_some_lt k.us) hou
theorem KeepI.put (k:KeepI f a1 a2 h oi j n o off ad us ou offu d bs Hm ak H) {b:Nat} (hb:b<d.length) (s:Str) :
    ∃ od offd,ad=some ⟨od,offd,none⟩∧cS_ H od (offd+b) 1=true∧KeepI f a1 a2 h oi j n o off ad us ou offu (d.set b s) bs (sA_ Hm od (offd+b) [.string (S s)]) ak (sA_ H od (offd+b) [.string (S s)]):=by
  obtain ⟨od,offd,rfl⟩:=k.out.wdat (by omega)
  obtain ⟨hcs,kf⟩:=k.out.wput hb s
  obtain ⟨hcs',hlt⟩:=canSetE k.ext hcs
  obtain ⟨Fk,own,new,hou⟩:=k.own
  have hod:h.length≤od:=by
    obtain ⟨Fn,Fd,-,dat,-,dd⟩:=k.out.own
    have:=dd od dat.memF; omega
  refine ⟨od,offd,rfl,hcs',kf,k.ext.set2 hlt _ _,⟨Fk,own.away hod (fun hm=>by have:=new od hm; omega) _ _,fun q hq=>by rw [sAl]; exact new q hq,hou⟩,k.us.frame fun q hq=>?_,by rw [sAl]; exact k.ou⟩
  simp at hq
  rw [hq,sAg,if_neg (by have:=k.ou; omega)]
theorem KeepI.cells (k:KeepI f a1 a2 h oi j n o off ad us ou offu d bs Hm ak H) :
    cellAt H oi 0=some (.slice (some ⟨o,off,none⟩) f.nodes.length f.nodes.length)∧cellAt H oi 1=some (.slice ad d.length d.length)∧cellAt H h.length 0=some (.slice a1 f.nodes.length f.nodes.length)∧cellAt H h.length 1=some (.slice a2 f.data.length f.data.length):=by
  have cc:=k.out.cells
  simp only [withB_nodes,withB_data] at cc
  exact ⟨cellE k.ext cc.1,cellE k.ext cc.2.1,cellE k.ext cc.2.2.1,cellE k.ext cc.2.2.2⟩
theorem KeepI.finish (k:KeepI f a1 a2 h oi j n o off ad us ou offu d bs Hm ak H) (hj:j<f.nodes.length) (v:Int) :
    cS_ H o (off+j * 5+3) 1=true∧(∀ q,q≠o→∀ i,cellAt (sA_ H o (off+j * 5+3) [.int .i64 v]) q i=cellAt H q i)∧cS_ (sA_ H o (off+j * 5+3) [.int .i64 v]) o (off+j * 5+4) 1=true ∧
      FsOut f a1 a2 h oi (withB f j { n with size:=v } bs d) (some ⟨o,off,none⟩) ad (sA_ (sA_ H o (off+j * 5+3) [.int .i64 v]) o (off+j * 5+4) [.slice ak bs.length bs.length]):=by
  obtain ⟨hcs,kf⟩:=k.out.wsize hj v
  obtain ⟨hcs',hlt⟩:=canSetE k.ext hcs
  obtain ⟨Fk,own,new,hou⟩:=k.own
  have hod:h.length≤o:=by
    obtain ⟨Fn,Fd,nod,-,dn,-⟩:=k.out.own
    have:=dn o nod.memF; omega
  have e2:=k.ext.set2 hlt (off+j * 5+3) [.int .i64 v]
  obtain ⟨ab,Fb,sl,hcb,hFb,hput⟩:=kf.wblocks hj
  obtain ⟨g1,g2⟩:=hput (sA_ H o (off+j * 5+3) [.int .i64 v]) bs ak Fk (own.away hod (fun hm=>by have:=new o hm; omega) _ _) (fun q hq _=>e2.2 q hq) e2.1 (fun q hq=>.inr (by rw [sAl]; exact new q hq))
  exact ⟨hcs',fun q hq i=>cell_otherO (Ne.symm hq),g1,g2⟩
end
theorem take_take_lt (B:List Int) (N m:Nat) (h:m<B.length) (hd:m<N):(B.take (m+1)).take N=(B.take m).take N++[B[m]]:=by
  rw [List.take_take,List.take_take,Nat.min_eq_right (by omega),Nat.min_eq_right (by omega),List.take_succ_eq_append_getElem h]
theorem drop_take_lt (B:List Int) (N m:Nat) (hd:m<N):(B.take (m+1)).drop N=(B.take m).drop N:=by
  rw [List.drop_of_length_le (by simp; omega),List.drop_of_length_le (by simp; omega)]
theorem take_take_ge (B:List Int) (N m:Nat) (hd:N≤m):(B.take (m+1)).take N=(B.take m).take N:=by
  rw [List.take_take,List.take_take,Nat.min_eq_left (by omega),Nat.min_eq_left (by omega)]
theorem drop_take_ge (B:List Int) (N m:Nat) (h:m<B.length) (hd:N≤m):(B.take (m+1)).drop N=(B.take m).drop N++[B[m]]:=by
  rw [List.take_succ_eq_append_getElem h,List.drop_append_of_le_length (by simp; omega)]
theorem dropData_snoc (d:List Str) (xs:List Int) (b:Int):dropData d (xs++[b])=(dropData d xs).set b.toNat []:=by
  simp [dropData,List.foldl_append]
set_option maxHeartbeats 8000000 in
theorem nodeWrite_spec_c (f:Fs) (a1 a2:Option Addr) (F1 F2:List Nat) (w:Bool) (tNode:TypeId) (h:Hp) (k1:slR w tNode (nodeE w) h f.nodes a1 F1) (k2:slR w 9 strE h f.data a2 F2) (hl:f.nl≤1048576) (i:Int) (data:Str) (hdl:data.length≤1048576) :
    ACall Try.prog 103 [.agg #[.slice a1 f.nodes.length f.nodes.length,.slice a2 f.data.length f.data.length],.int .i64 i,.string (S data)] h fun r h'=>∃ v,r=.tuple #[v,.bool (nW_ f i data).2]∧FsRes (nW_ f i data).1 h h' v:=by
  refine acall mixed Try.func103 rfl (by kernel_rfl) ?_
  have hlim:=Fs.lim_of f hl
  simp [Try.f103]
  refine cK (l6Copy_c f a1 a2 F1 F2 w w w tNode _ _ (k1.to (by simp)) (k2.to (by simp)) hlim.1 hlim.2.2 hlim.2.1) ?_
  rintro _ _ ⟨an,G1,ad,G2,rfl,o1,o2,dis⟩
  obtain ⟨u,rfl⟩:=o1.ext.pre
  simp at o1 o2
  have kk:=FsOut.start o1 o2 dis
  clear o1 o2 dis
  simp
  generalize h.length+(u.length+1+1)=oi at kk ⊢
  generalize (h++_ :: _ :: (u++_):Hp)=H at kk ⊢
  refine cK (usable_spec_c f a1 a2 F1 F2 w tNode _ (k1.ext kk.ext) (k2.ext kk.ext) hl i) ?_
  rintro _ _ ⟨⟨t1,rfl⟩,rfl⟩
  replace kk:=kk.grow t1
  generalize H++t1=H at kk ⊢
  have cc:=kk.cells
  have dn:=kk.done [.slice an f.nodes.length f.nodes.length,.slice ad f.data.length f.data.length] rfl
  cases e1:usable f i
  · have hd:nW_ f i data=(f,false):=by simp [nW_,e1]
    rw [hd]
    simp [cc,dn.1,dn.2.1,dn.2.2.1]
    exact kk.res_ _ _ rfl rfl
  by_cases e2:data.length≤80
  rotate_left
  · have hd:nW_ f i data=(f,false):=by simp [nW_,e2]
    have e2':(80:Int)<data.length:=by omega
    rw [hd]
    simp [e2',cc,dn.1,dn.2.1,dn.2.2.1]
    exact kk.res_ _ _ rfl rfl
  clear dn
  have e2':¬ (80:Int)<data.length:=by omega
  simp [e2',cc]
  have us:=e1
  simp only [usable,Bool.and_eq_true] at us
  have sh:=shapeOk_iff.1 us.1
  have hin:=inR_iff.1 us.2.1
  obtain ⟨j,rfl⟩:=Int.eq_ofNat_of_zero_le hin.1
  have hj:j<f.nodes.length:=by omega
  have hkn:nA_ f (j:Int)=f.nodes[j]:=nodeAtI_get hj
  obtain ⟨n5,nb,nlen,nlt⟩:=needOf_le data e2
  obtain ⟨o,off,rfl⟩:∃ o off,an=some ⟨o,off,none⟩:=by
    obtain ⟨Fn,Fd,own,-⟩:=kk.own
    obtain ⟨o,off,b0,G0,e,-⟩:=nodeAt own.sl hj
    exact ⟨o,off,e⟩
  have hbl:f.nodes[j].blocks.length≤1048576:=hlim.2.1 _ (List.getElem_mem hj)
  have hN:f.data.length≤1048576:=hlim.2.2
  obtain ⟨n,hn⟩:∃ n,n=f.nodes[j]:=⟨_,rfl⟩
  have hbm:∀ k (hk:k<n.blocks.length),0≤n.blocks[k]∧n.blocks[k]<f.data.length:=fun k hk=>by
    subst hn
    exact sh.own.1 _ (mem_held hj hk)
  have hself:f.nodes.set j n=f.nodes:=by rw [hn]; exact List.set_getElem_self hj
  obtain ⟨oo,offo,b1,B1,ea,_,_,_,_,c4,kb,-⟩:=nodeAt k1 hj
  rw [← hn] at hbl c4 kb
  subst ea
  refine cK (l6Used_c f (some ⟨oo,offo,none⟩) a2 F1 F2 w tNode _ (k1.ext kk.ext) (k2.ext kk.ext) hl) ?_
  rintro _ _ ⟨us,au,Fu,rfl,uinv,uown⟩
  obtain ⟨t2,rfl⟩:=uown.ext.pre
  obtain ⟨ou,offu,rfl,-⟩:=intEAt uown.sl (i:=0) (by rw [uinv.1]; omega)
  have hFu:=uown.flatF
  subst hFu
  simp
  refine cK (blocksFor_spec_c _ _) ?_
  rintro _ H1 ⟨rfl,rfl⟩
  rw [nb]
  simp
  have kI:KeepI f (some ⟨oo,offo,none⟩) a2 h oi j n o off ad us ou offu f.data [] H (some ⟨H.length+t2.length,0,none⟩) (H++(t2++[⟨true,true,3,[]⟩])):=by
    have hou:=uown.new ou (by simp)
    have hlt:=own_some_lt uown.sl
    have ol:=Own.lit (h0:=h) (h:=H++t2) (e:=3) (A:=intE) (xs:=[]) (css:=[]) (Fs:=[]) (kk.ext.trans uown.ext) trivial (by simp) (by simp)
    simp at ol hlt
    refine ⟨?_,Ext.push _ _,⟨_,ol,?_,?_⟩,?_,hou⟩
    · have:withB f j n n.blocks f.data=f:=by unfold withB; rw [show ({ n with blocks:=n.blocks }:Node)=n from rfl,hself]
      rw [this]
      exact kk
    · simp
    · simp
      omega
    · have:=uown.sl.ext (Ext.push (H++t2) [⟨true,true,3,[]⟩])
      simpa using this
  refine aloop mixed [1,2,3,6,8,9,10,11,12] (fun (x:Nat × Hp × Option Addr × Hp)=>[.int .i64 j,.string (S data),.pointer (some ⟨h.length,0,none⟩),.pointer (some ⟨h.length+1,0,none⟩),.pointer (some ⟨oi,0,none⟩),.slice (some ⟨ou,offu,none⟩) us.length us.length,.int .i64 (needOf data),.slice x.2.2.1 ((n.blocks.take x.1).take (needOf data)).length ((n.blocks.take x.1).take (needOf data)).length,.int .i64 x.1]) (fun x=>x.2.2.2)
    (fun x=>x.1≤n.blocks.length∧KeepI f (some ⟨oo,offo,none⟩) a2 h oi j n o off ad us ou offu (dropData f.data ((n.blocks.take x.1).drop (needOf data))) ((n.blocks.take x.1).take (needOf data)) x.2.1 x.2.2.1 x.2.2.2) (fun x=>n.blocks.length - x.1)
    (0,H,some ⟨H.length+t2.length,0,none⟩,H++(t2++[⟨true,true,3,[]⟩])) ⟨by simp,by simpa [dropData] using kI⟩ (by simp [pickF]) (by simp) ?_
  have e0:=kk.ext
  clear cc kI kk
  rintro ⟨m,Hm,ak,H⟩ ⟨hm,kI⟩
  simp only at hm kI
  have cc:=kI.cells
  have ex:Ext h H:=kI.out.ext.trans kI.ext
  have hlk:((n.blocks.take m).take (needOf data)).length≤1048576:=by simp; omega
  have hlm:m≤1048576:=by omega
  simp only [dropData_len] at cc
  simp [mkF,-List.length_take,cc,cellE ex c4,hj]
  refine aSI (fun hc=>?_) (fun hc=>?_) <;> simp at hc <;> simp [-List.length_take,hc]
  · obtain ⟨ob,offb,rfl,cb⟩:=intEAt kb hc
    have hb:=hbm m hc
    refine aSI (fun hd=>?_) (fun hd=>?_) <;> simp at hd <;> simp [-List.length_take,hd]
    · obtain ⟨a',H',eq,kI'⟩:=kI.append n.blocks[m] hlk
      simp [-List.length_take,cc,cellE ex c4,hj,cellE ex cb,hc,eq]
      have q1:=take_take_lt n.blocks (needOf data) m hc hd
      have q2:=drop_take_lt n.blocks (needOf data) m hd
      rw [← q1,← q2] at kI'
      have q3:((n.blocks.take m).take (needOf data)).length+1=((n.blocks.take (m+1)).take (needOf data)).length:=by rw [q1]; simp
      rw [q3]
      exact anext (m+1,Hm,a',H') ⟨hc,kI'⟩ (by simp only; omega) (by simp [pickF,wS (show m<9223372036854775807 by omega)]) rfl (by simp)
    · obtain ⟨od,offd,rfl,hcs,kI'⟩:=kI.put (b:=n.blocks[m].toNat) (by rw [dropData_len]; omega) []
      refine drawK false (by kernel_rfl) ?_
      simp [-List.length_take,cc,cellE ex c4,hj,cellE ex cb,hc,hcs,hb.1,hb.2]
      have q1:=take_take_ge n.blocks (needOf data) m hd
      have q2:=drop_take_ge n.blocks (needOf data) m hc hd
      rw [← dropData_snoc,← q2,← q1] at kI'
      rw [← q1]
      exact anext (m+1,_,ak,_) ⟨hc,kI'⟩ (by simp only; omega) (by simp [pickF,wS (show m<9223372036854775807 by omega)]) rfl (by simp)
  · obtain rfl:m=n.blocks.length:=by omega
    rw [List.take_length] at kI
    rw [List.take_length]
    obtain ⟨d1,hd1⟩:∃ d1,d1=dropData f.data (n.blocks.drop (needOf data)):=⟨_,rfl⟩
    obtain ⟨bs0,hbs0⟩:∃ bs0,bs0=n.blocks.take (needOf data):=⟨_,rfl⟩
    rw [← hd1,← hbs0] at kI
    rw [← hbs0]
    have hb0:bs0.length≤needOf data:=by rw [hbs0]; simp; omega
    have hdlen:d1.length=f.data.length:=by rw [hd1]; exact dropData_len _ _
    have hwb0:writeBlocks f (j:Int) data=fillF (freeB f) (needOf data) (idxs f.data.length) bs0:=by unfold writeBlocks; rw [hkn,← hn,hbs0]
    have hosv:∀ (k:Nat) (hk:k<f.data.length) (hu:k<us.length),(us[k]=0)↔freeB f (k:Int)=true:=by
      intro k hk hu
      rw [uinv.2.1 k hk hu]
      simp only [freeB,decide_eq_true_eq]
      rw [← List.count_eq_zero]
      omega
    refine aloop mixed [1,2,3,6,8,9,10,11,13] (fun (x:Nat × List Int × Option Addr × Hp)=>[.int .i64 j,.string (S data),.pointer (some ⟨h.length,0,none⟩),.pointer (some ⟨h.length+1,0,none⟩),.pointer (some ⟨oi,0,none⟩),.slice (some ⟨ou,offu,none⟩) us.length us.length,.int .i64 (needOf data),.slice x.2.2.1 x.2.1.length x.2.1.length,.int .i64 x.1]) (fun x=>x.2.2.2)
      (fun x=>x.1≤f.data.length∧x.2.1.length≤needOf data∧fillF (freeB f) (needOf data) ((idxs f.data.length).drop x.1) x.2.1=writeBlocks f (j:Int) data∧KeepI f (some ⟨oo,offo,none⟩) a2 h oi j n o off ad us ou offu d1 x.2.1 Hm x.2.2.1 x.2.2.2) (fun x=>f.data.length - x.1)
      (0,bs0,ak,H) ⟨by simp,hb0,by simp [hwb0],kI⟩ (by simp [pickF]) rfl ?_
    clear kI cc ex hlk
    rintro ⟨k,bs,ak,H⟩ ⟨hk,hbn,hfl,kI⟩
    simp only at hk hbn hfl kI
    have cc:=kI.cells
    have ex:Ext h H:=kI.out.ext.trans kI.ext
    rw [hdlen] at cc
    simp [mkF,cc]
    by_cases hg:k<f.data.length∧bs.length<needOf data
    · have hg1:=hg.1
      have hg2:=hg.2
      have hku:k<us.length:=by rw [uinv.1]; omega
      obtain ⟨o3',off3',e3,c3⟩:=intEAt kI.us hku
      simp at e3
      obtain ⟨rfl,rfl⟩:=e3
      have hos3:=hosv k hg1 hku
      have hdrop:=idxs_drop f.data.length k hg1
      have hw1:IntKind.i64.wrap ((k:Int)+1)=((k+1:Nat):Int):=wS (by omega)
      refine aSI (fun hc=>?_) (fun hc=>?_) <;> simp [hg1] at hc
      simp [hg1,hg2,hku,c3]
      refine aSI (fun hc=>?_) (fun hc=>?_) <;> simp at hc <;> simp [hc]
      · obtain ⟨a',H',eq,kI'⟩:=kI.append (k:Int) (by omega)
        simp [eq]
        refine anext (k+1,bs++[(k:Int)],a',H') ⟨by simp only; omega,by simp; omega,?_,kI'⟩ (by simp only; omega) (by simp [pickF,hw1]) rfl (by simp)
        rw [← hfl,hdrop]
        simp [fillF,hg2,hos3.1 hc]
      · refine anext (k+1,bs,ak,H) ⟨by simp only; omega,hbn,?_,kI⟩ (by simp only; omega) (by simp [pickF,hw1]) rfl (by simp)
        rw [← hfl,hdrop]
        have hc':¬ freeB f (k:Int)=true:=fun hh=>hc (hos3.2 hh)
        simp [fillF,hg2,hc']
    · have hW:bs=writeBlocks f (j:Int) data:=by
        rw [← hfl]
        rcases Nat.lt_or_ge k f.data.length with hlt | hge
        · rw [fillF_nil (by omega)]
        · rw [List.drop_of_length_le (by rw [idxs_len]; exact hge)]
          rfl
      clear hfl
      have hbsm:∀ (i:Nat) (hi:i<bs.length),0≤bs[i]∧bs[i]<f.data.length:=by
        intro i hi
        have hm:bs[i]∈writeBlocks f (j:Int) data:=by rw [← hW]; exact List.getElem_mem hi
        rcases fillF_mem _ _ _ hm with h1 | ⟨h1,_⟩
        · rw [hkn,← hn] at h1
          obtain ⟨q,hq,e⟩:=List.getElem_of_mem (List.mem_of_mem_take h1)
          rw [← e]
          exact hbm q hq
        · exact mem_idxs.1 h1
      refine aSI (fun hc=>?_) (fun hc=>?_)
      rotate_left
      have hc1:¬ k<f.data.length:=by simpa using hc
      simp [hc1]
      refine aSI (fun hd=>?_) (fun hd=>?_)
      · have hd2:bs.length<needOf data:=by simpa using hd
        have hnw:nW_ f (j:Int) data=(f,false):=by
          simp [nW_,e2,← hW,show ¬ needOf data≤bs.length by omega]
        rw [hnw]
        simp [cc]
        obtain ⟨t3,ht3⟩:=kI.ext.pre
        have ko:=kI.out.grow t3
        rw [← ht3] at ko
        refine cK (l6Copy_c f (some ⟨oo,offo,none⟩) a2 F1 F2 w w w tNode _ _ (k1.ext ex) (k2.ext ex) hlim.1 hlim.2.2 hlim.2.1) ?_
        rintro _ H2 ⟨an',G1',ad',G2',rfl,o1,o2,dis'⟩
        obtain ⟨u1,u2,u3,u4⟩:=ko.other o1 o2 dis'
        simp [u1,u3,u4]
        exact u2
      have hd2:¬ bs.length<needOf data:=by simpa using hd
      simp [hd2]
      rotate_left
      have hc1:k<f.data.length:=by simpa using hc
      have hd2:¬ bs.length<needOf data:=fun hh=>hg ⟨hc1,hh⟩
      simp [hc1,hd2]
      all_goals
        have hnw:nW_ f (j:Int) data=(withB f j { n with size:=data.length } bs (putChunks data bs 0 d1),true):=by
          have h5:needOf data≤bs.length:=by omega
          simp [nW_,e1,e2,← hW,h5,written,withB,hkn,← hn,hd1]
        rw [hnw]
        have hbe:needOf data=bs.length:=by omega
        refine aloop mixed [1,2,6,8,10,11,14] (fun (x:Nat × List Str × Hp × Hp)=>[.int .i64 j,.string (S data),.pointer (some ⟨h.length+1,0,none⟩),.pointer (some ⟨oi,0,none⟩),.int .i64 (needOf data),.slice ak bs.length bs.length,.int .i64 x.1]) (fun x=>x.2.2.2)
          (fun x=>x.1≤bs.length∧x.2.1.length=f.data.length∧putChunks data (bs.drop x.1) x.1 x.2.1=putChunks data bs 0 d1∧KeepI f (some ⟨oo,offo,none⟩) a2 h oi j n o off ad us ou offu x.2.1 bs x.2.2.1 ak x.2.2.2) (fun x=>bs.length - x.1)
          (0,d1,Hm,H) ⟨by simp,hdlen,rfl,kI⟩ (by simp [pickF]) rfl ?_
        clear kI cc ex
        rintro ⟨i,d,Hm,H⟩ ⟨hi,hdl2,hpd,kI⟩
        simp only at hi hdl2 hpd kI
        have cc:=kI.cells
        rw [hdl2] at cc
        simp [mkF,hbe]
        refine aSI (fun hx=>?_) (fun hx=>?_) <;> simp at hx <;> simp [hx]
        · have hin5:i<5:=by omega
          have hnl:=nlt i (by omega)
          have hw1:IntKind.i64.wrap ((i:Int) * 16)=(i:Int) * 16:=wrap_in (by omega) (by omega)
          have hw2:IntKind.i64.wrap ((i:Int)+1)=(i:Int)+1:=wrap_in (by omega) (by omega)
          obtain ⟨Fk,own,hnew,hou⟩:=kI.own
          obtain ⟨ob,offb,rfl,cb⟩:=intEAt own.sl hx
          have hb:=hbsm i hx
          obtain ⟨od,offd,rfl,hcs,kI'⟩:=kI.put (b:=bs[i].toNat) (by omega) (chunk data i)
          simp [hw1]
          have hmin:IntKind.i64.wrap ((i:Int) * 16+min ((data.length:Int) - 16 * i) 16)=((min data.length (16 * (i+1)):Nat):Int):=by rw [wrap_in (by omega) (by omega)]; omega
          have htn:((i:Int) * 16).toNat=16 * i:=by omega
          have hch:(data.take (min data.length (16 * (i+1)))).drop (16 * i)=chunk data i:=rfl
          refine drawK true (by kernel_rfl) ?_
          simp [hx,cb,cc]
          refine callK (l6Long_c (data.length:Int) (i:Int) _ (by omega) (by omega) (by omega) (by omega)) ?_
          rintro _ _ ⟨rfl,rfl⟩
          refine ⟨fun _=>Ext.refl _,?_⟩
          simp [hx,cb,cc,hb.1,hb.2,hmin,htn]
          refine ⟨⟨by omega,by omega,by omega⟩,hcs,?_⟩
          refine anext (i+1,d.set bs[i].toNat (chunk data i),_,sA_ _ od (offd+bs[i].toNat) [.string (S (chunk data i))]) ⟨hx,?_,?_,kI'⟩ (by simp only; omega) (by simp [pickF,hw2]) rfl (by simp)
          · simp only [List.length_set]
            exact hdl2
          · simp only
            rw [← hpd,putChunks_drop data bs i hx]
        · obtain rfl:i=bs.length:=by omega
          have hpd':d=putChunks data bs 0 d1:=by
            rw [← hpd,List.drop_of_length_le (Nat.le_refl _)]
            rfl
          rw [← hpd']
          obtain ⟨g1,g2,g3,kf⟩:=kI.finish hj (data.length:Int)
          have hoio:oi≠o:=by
            obtain ⟨Fn,Fd,own,-,dn,-⟩:=kI.out.own
            exact fun e=>(dn o own.memF).2.1 e.symm
          simp [cc,hj,g1,g2 oi hoio]
          have dn:=kf.done [.slice (some ⟨o,off,none⟩) f.nodes.length f.nodes.length,.slice ad f.data.length f.data.length] rfl
          have cf:=kf.cells
          simp only [withB_nodes,withB_data,hdl2] at cf
          simp [cf,g3,dn.1,dn.2.1,dn.2.2.1]
          have hr:=kf.res_ (.slice (some ⟨o,off,none⟩) f.nodes.length f.nodes.length) (.slice ad f.data.length f.data.length) (by simp) (by simp [hdl2])
          simp only [withB_nodes,withB_data,hdl2] at hr
          exact hr
theorem sumL_all {α:Type} (g:α→Nat) (c:Nat):∀ xs:List α,(∀ x∈xs,g x≤c)→sumL g xs≤c * xs.length
  | [],_=>by simp [sumL]
  | x :: xs,h=>by
    have h1:=h x (by simp)
    have h2:=sumL_all g c xs fun y hy=>h y (by simp [hy])
    simp only [sumL,List.length_cons,Nat.mul_add]
    omega
theorem mem_dropData {s:Str}:∀ (bs:List Int) (d:List Str),s∈dropData d bs→s∈d∨s=[]
  | [],d,h=>.inl h
  | b :: bs,d,h=>by
    rcases mem_dropData bs (d.set b.toNat []) h with h1 | h1
    · rcases List.mem_or_eq_of_mem_set h1 with h2 | h2
      · exact .inl h2
      · exact .inr h2
    · exact .inr h1
theorem mem_putChunks {data s:Str}:∀ (bs:List Int) (k:Nat) (d:List Str),s∈putChunks data bs k d→s∈d∨s.length≤16
  | [],k,d,h=>.inl h
  | b :: bs,k,d,h=>by
    rcases mem_putChunks bs (k+1) _ h with h1 | h1
    · rcases List.mem_or_eq_of_mem_set h1 with h2 | h2
      · exact .inl h2
      · right
        rw [h2]
        simp [chunk]
        omega
    · exact .inr h1
theorem nodeOk_len {n:Node} (h:nodeOk n=true):n.blocks.length≤5:=by
  unfold nodeOk at h
  split at h
  · simp at h
    simp [h.2]
  · simp only [Bool.and_eq_true] at h
    have h1:=inR_iff.1 h.1.1.1.2
    have h2:badLen n=false:=by simpa using h.1.2
    have h3:(n.blocks.length:Int)=blocksFor n.size:=by simpa [badLen] using h2
    unfold blocksFor at h3
    split at h3
    · omega
    · split at h3 <;> omega
structure Small (f:Fs):Prop where
  nodes:f.nodes.length≤10
  each:∀ n∈f.nodes,n.blocks.length≤5
  data:f.data.length≤36
  strs:∀ s∈f.data,s.length≤16
theorem Small.nl {f:Fs} (k:Small f):f.nl≤1000:=by
  have h1:=sumL_all Node.nl 5 f.nodes k.each
  have h2:=sumL_all List.length 16 f.data k.strs
  have:=k.nodes
  have:=k.data
  simp only [Fs.nl]
  omega
theorem ShapeOk.small {f:Fs} (s:ShapeOk f):Small f:=by
  have h1:=inR_iff.1 s.nodes
  have h2:=inR_iff.1 s.data
  refine ⟨by omega,fun n hn=>nodeOk_len (s.ok n hn),by omega,fun x hx=>?_⟩
  obtain ⟨i,hi,rfl⟩:=List.getElem_of_mem hx
  have:=dat_le s (i:Int)
  simpa [dat,hi] using this
theorem written_small {f:Fs} (s:Small f) (i:Int) (data:Str) (h5:needOf data≤5):Small (written f i data):=by
  refine ⟨by simp [written]; exact s.nodes,fun n hn=>?_,by simp [written,putChunks_len,dropData_len]; exact s.data,fun x hx=>?_⟩
  · rcases List.mem_or_eq_of_mem_set hn with h | h
    · exact s.each n h
    · rw [h]
      have:(writeBlocks f i data).length≤needOf data:=fillF_le _ _ (by simp; omega)
      simp only
      omega
  · rcases mem_putChunks _ _ _ hx with h | h
    · rcases mem_dropData _ _ h with h | h
      · exact s.strs x h
      · rw [h]; simp
    · exact h
end Go.Proofs.Ytmpgpkdijfcfhaa.Hz
