/- Texts of the calculus and of the program's functions, merged: MG FO TS TG NW0. -/
import Derived.Test.YtmpgpkdijfcfhaaHyGF
import Derived.Test.YtmpgpkdijfcfhaaHyGE
import Derived.Test.YtmpgpkdijfcfhaaHyGC
import Derived.Test.YtmpgpkdijfcfhaaHyGD
namespace Go.Proofs.Ytmpgpkdijfcfhaa.Hz
open Go.RowKit
set_option linter.unusedVariables false
set_option linter.unusedSimpArgs false
set_option maxRecDepth 20000
theorem Own.nodeField' {h0 h:Hp} {e:TypeId} {xs:List Node} {F:List Nat} {o off:Nat} (k:Own h0 e (nodeE true) h xs (some ⟨o,off,none⟩) F) {i:Nat} {x:Node} (hx:xs[i]?=some x) (j:Nat) (v:Int) (x':Node) (hj:j<4) (hb:x'.blocks=x.blocks)
    (hs:∀ sl:Value,setL [.int .i64 x.kind,.int .i64 x.gen,.int .i64 x.time,.int .i64 x.size,sl] j [.int .i64 v]=[.int .i64 x'.kind,.int .i64 x'.gen,.int .i64 x'.time,.int .i64 x'.size,sl]) :
    cS_ h o (off+i * 5+j) 1=true∧Own h0 e (nodeE true) (sA_ h o (off+i * 5+j) [.int .i64 v]) (xs.set i x') (some ⟨o,off,none⟩) F:=by
  obtain ⟨c,Fi,⟨a1,F1,rfl,rfl,sl⟩,_,_,_,_,hput⟩:=k.row hx
  exact hput j [.int .i64 v] x' (by show j+1≤5; omega) ⟨a1,_,by rw [hs,hb],rfl,by rw [hb]; exact sl⟩
theorem Own.memF {α:Type} {A:Enc α} {h0 h:Hp} {e:TypeId} {xs:List α} {F:List Nat} {o off:Nat} (k:Own h0 e A h xs (some ⟨o,off,none⟩) F):o∈F:=by
  obtain ⟨_,ob,css,Fs,pre,post,g1,g2,g3,g4,rfl,_⟩:=k.sl
  exact List.mem_cons_self
structure FsOut (f0:Fs) (a1 a2:Option Addr) (h:Hp) (oi:Nat) (f:Fs) (an ad:Option Addr) (H:Hp):Prop where
  ext:Ext h H
  box:H[h.length]?=some ⟨true,true,26,[.slice a1 f0.nodes.length f0.nodes.length,.slice a2 f0.data.length f0.data.length]⟩
  res:∃ x y,H[h.length+1]?=some ⟨true,true,26,[x,y]⟩
  out:H[oi]?=some ⟨true,true,26,[.slice an f.nodes.length f.nodes.length,.slice ad f.data.length f.data.length]⟩
  oi2:h.length+2≤oi
  own:∃ Fn Fd,Own h 49 (nodeE true) H f.nodes an Fn∧Own h 9 strE H f.data ad Fd∧(∀ q∈Fn,h.length+2≤q∧q≠oi∧q ∉ Fd)∧∀ q∈Fd,h.length+2≤q∧q≠oi
section
variable {f0 f:Fs} {a1 a2 an ad:Option Addr} {h H:Hp} {oi:Nat}
theorem FsOut.cells (k:FsOut f0 a1 a2 h oi f an ad H) :
    cellAt H oi 0=some (.slice an f.nodes.length f.nodes.length)∧cellAt H oi 1=some (.slice ad f.data.length f.data.length)∧cellAt H h.length 0=some (.slice a1 f0.nodes.length f0.nodes.length)∧cellAt H h.length 1=some (.slice a2 f0.data.length f0.data.length):=by
  refine ⟨?_,?_,?_,?_⟩
  · rw [cellAt_of_get k.out rfl]; rfl
  · rw [cellAt_of_get k.out rfl]; rfl
  · rw [cellAt_of_get k.box rfl]; rfl
  · rw [cellAt_of_get k.box rfl]; rfl
theorem FsOut.grow (k:FsOut f0 a1 a2 h oi f an ad H) (t:Hp):FsOut f0 a1 a2 h oi f an ad (H++t):=by
  obtain ⟨ext,box,res,out,oi2,Fn,Fd,own,dat,dn,dd⟩:=k
  have xx:=Ext.push H t
  refine ⟨ext.trans xx,?_,?_,?_,oi2,Fn,Fd,own.grow xx,dat.grow xx,dn,dd⟩
  · rw [xx.2 _ (get_lt box)]; exact box
  · obtain ⟨x,y,res⟩:=res; exact ⟨x,y,by rw [xx.2 _ (get_lt res)]; exact res⟩
  · rw [xx.2 _ (get_lt out)]; exact out
theorem FsOut.start {u:Hp} {F1 F2:List Nat}
    (o1:Own (h++[⟨true,true,26,[.slice a1 f0.nodes.length f0.nodes.length,.slice a2 f0.data.length f0.data.length]⟩,⟨true,true,26,[.slice none 0 0,.slice none 0 0]⟩]) 49 (nodeE true) (h++⟨true,true,26,[.slice a1 f0.nodes.length f0.nodes.length,.slice a2 f0.data.length f0.data.length]⟩ :: ⟨true,true,26,[.slice none 0 0,.slice none 0 0]⟩ :: u) f0.nodes an F1)
    (o2:Own (h++[⟨true,true,26,[.slice a1 f0.nodes.length f0.nodes.length,.slice a2 f0.data.length f0.data.length]⟩,⟨true,true,26,[.slice none 0 0,.slice none 0 0]⟩]) 9 strE (h++⟨true,true,26,[.slice a1 f0.nodes.length f0.nodes.length,.slice a2 f0.data.length f0.data.length]⟩ :: ⟨true,true,26,[.slice none 0 0,.slice none 0 0]⟩ :: u) f0.data ad F2)
    (dis:∀ q∈F1,q ∉ F2) :
    FsOut f0 a1 a2 h (h.length+(u.length+1+1)) f0 an ad (h++⟨true,true,26,[.slice a1 f0.nodes.length f0.nodes.length,.slice a2 f0.data.length f0.data.length]⟩ :: ⟨true,true,26,[.slice none 0 0,.slice none 0 0]⟩ :: (u++[⟨true,true,26,[.slice an f0.nodes.length f0.nodes.length,.slice ad f0.data.length f0.data.length]⟩])) where
  ext:=Ext.push _ _
  box:=by simp
  res:=⟨.slice none 0 0,.slice none 0 0,by simp⟩
  out:=by
    rw [List.getElem?_append_right (by omega)]
    simp
  oi2:=by omega
  own:=by
    have e0:Ext h (h++[⟨true,true,26,[.slice a1 f0.nodes.length f0.nodes.length,.slice a2 f0.data.length f0.data.length]⟩,⟨true,true,26,[.slice none 0 0,.slice none 0 0]⟩]):=Ext.push _ _
    have p1:=(Own.of_new e0 o1).grow (Ext.push _ [⟨true,true,26,[.slice an f0.nodes.length f0.nodes.length,.slice ad f0.data.length f0.data.length]⟩])
    have p2:=(Own.of_new e0 o2).grow (Ext.push _ [⟨true,true,26,[.slice an f0.nodes.length f0.nodes.length,.slice ad f0.data.length f0.data.length]⟩])
    refine ⟨F1,F2,by simpa using p1,by simpa using p2,fun q hq=>?_,fun q hq=>?_⟩
    · have h1:=o1.new q hq
      have h2:=o1.sl.lt q hq
      simp at h1 h2
      exact ⟨by omega,by omega,dis q hq⟩
    · have h1:=o2.new q hq
      have h2:=o2.sl.lt q hq
      simp at h1 h2
      exact ⟨by omega,by omega⟩
theorem FsOut.done (k:FsOut f0 a1 a2 h oi f an ad H) (vs:List Value) (hvs:vs.length=2) :
    cS_ H (h.length+1) 0 2=true∧cellAt (sA_ H (h.length+1) 0 vs) (h.length+1) 0=vs[0]?∧cellAt (sA_ H (h.length+1) 0 vs) (h.length+1) 1=vs[1]? ∧
      ∃ G1 G2,Own h 49 (nodeE true) (sA_ H (h.length+1) 0 vs) f.nodes an G1∧Own h 9 strE (sA_ H (h.length+1) 0 vs) f.data ad G2∧∀ q∈G1,q ∉ G2:=by
  obtain ⟨ext,box,⟨x,y,res⟩,out,oi2,Fn,Fd,own,dat,dn,dd⟩:=k
  have hg:(sA_ H (h.length+1) 0 vs)[h.length+1]?=some ⟨true,true,26,vs⟩:=by
    rw [sAg,if_pos rfl,res]
    simp only [Option.map_some]
    rw [setL_all _ _ (by simpa using hvs)]
  have hne:∀ q,h.length+2≤q→(sA_ H (h.length+1) 0 vs)[q]?=H[q]?:=fun q hq=>by rw [sAg,if_neg (by omega)]
  refine ⟨by simp [cS_,res],by rw [cellAt_of_get hg rfl],by rw [cellAt_of_get hg rfl],Fn,Fd,⟨own.ext.set (by omega) 0 _,own.sl.frame fun q hq=>hne q (dn q hq).1,own.nd,own.new⟩,⟨dat.ext.set (by omega) 0 _,dat.sl.frame fun q hq=>hne q (dd q hq).1,dat.nd,dat.new⟩,fun q hq=>(dn q hq).2.2⟩
theorem FsOut.field {o off:Nat} (k:FsOut f0 a1 a2 h oi f (some ⟨o,off,none⟩) ad H) {i:Nat} {x:Node} (hx:f.nodes[i]?=some x) (j:Nat) (v:Int) (x':Node) (hj:j<4) (hb:x'.blocks=x.blocks)
    (hs:∀ sl:Value,setL [.int .i64 x.kind,.int .i64 x.gen,.int .i64 x.time,.int .i64 x.size,sl] j [.int .i64 v]=[.int .i64 x'.kind,.int .i64 x'.gen,.int .i64 x'.time,.int .i64 x'.size,sl]) :
    cS_ H o (off+i * 5+j) 1=true∧FsOut f0 a1 a2 h oi ⟨f.nodes.set i x',f.data⟩ (some ⟨o,off,none⟩) ad (sA_ H o (off+i * 5+j) [.int .i64 v]):=by
  obtain ⟨ext,box,⟨y,z,res⟩,out,oi2,Fn,Fd,own,dat,dn,dd⟩:=k
  obtain ⟨hc,own'⟩:=own.nodeField' hx j v x' hj hb hs
  have ho:=dn o own.memF
  have hne:∀ q,q≠o→(sA_ H o (off+i * 5+j) [.int .i64 v])[q]?=H[q]?:=fun q hq=>by rw [sAg,if_neg (fun e=>hq e.symm)]
  refine ⟨hc,⟨own'.ext,by rw [hne _ (by omega)]; exact box,⟨y,z,by rw [hne _ (by omega)]; exact res⟩,by rw [hne _ (Ne.symm ho.2.1),List.length_set]; exact out,oi2,Fn,Fd,own',⟨own'.ext,dat.sl.frame fun q hq=>hne q fun e=>ho.2.2 (e ▸ hq),dat.nd,dat.new⟩,dn,dd⟩⟩
theorem FsOut.clear {o off:Nat} (k:FsOut f0 a1 a2 h oi f (some ⟨o,off,none⟩) ad H) {i:Nat} (hi:i<f.nodes.length) :
    cS_ H o (off+i * 5) 5=true∧FsOut f0 a1 a2 h oi ⟨f.nodes.set i ⟨0,0,0,0,[]⟩,f.data⟩ (some ⟨o,off,none⟩) ad (sA_ H o (off+i * 5) [.int .i64 0,.int .i64 0,.int .i64 0,.int .i64 0,.slice none 0 0]):=by
  obtain ⟨ext,box,⟨y,z,res⟩,out,oi2,Fn,Fd,own,dat,dn,dd⟩:=k
  obtain ⟨c,Fi,hR,hFi,_,hput⟩:=own.put (List.getElem?_eq_getElem hi)
  have hl:c.length=5:=(nodeE true).len hR
  have hset:setL c 0 [.int .i64 0,.int .i64 0,.int .i64 0,.int .i64 0,.slice none 0 0]=[.int .i64 0,.int .i64 0,.int .i64 0,.int .i64 0,.slice none 0 0]:=setL_all _ c (by rw [hl]; rfl)
  obtain ⟨hc,F',own',_,sub⟩:=hput 0 [.int .i64 0,.int .i64 0,.int .i64 0,.int .i64 0,.slice none 0 0] ⟨0,0,0,0,[]⟩ [] (by show 0+5≤5; omega) (by rw [hset]; exact ⟨none,[],rfl,rfl,rfl,rfl⟩) (by simp) List.nodup_nil (fun q hq=>by cases hq)
  have hn5:(nodeE true).n=5:=rfl
  simp only [hn5,Nat.add_zero] at hc own'
  have ho:=dn o own.memF
  have sub':∀ q∈F',q∈Fn:=fun q hq=>by simpa using sub q hq
  have hne:∀ q,q≠o→(sA_ H o (off+i * 5) [.int .i64 0,.int .i64 0,.int .i64 0,.int .i64 0,.slice none 0 0])[q]?=H[q]?:=fun q hq=>by rw [sAg,if_neg (fun e=>hq e.symm)]
  refine ⟨hc,⟨own'.ext,by rw [hne _ (by omega)]; exact box,⟨y,z,by rw [hne _ (by omega)]; exact res⟩,by rw [hne _ (Ne.symm ho.2.1),List.length_set]; exact out,oi2,F',Fd,own',⟨own'.ext,dat.sl.frame fun q hq=>hne q fun e=>ho.2.2 (e ▸ hq),dat.nd,dat.new⟩,fun q hq=>dn q (sub' q hq),dd⟩⟩
theorem FsOut.put {o off:Nat} (k:FsOut f0 a1 a2 h oi f an (some ⟨o,off,none⟩) H) {b:Nat} (hb:b<f.data.length) (s:Str) :
    cS_ H o (off+b) 1=true∧FsOut f0 a1 a2 h oi ⟨f.nodes,f.data.set b s⟩ an (some ⟨o,off,none⟩) (sA_ H o (off+b) [.string (S s)]):=by
  obtain ⟨ext,box,⟨y,z,res⟩,out,oi2,Fn,Fd,own,dat,dn,dd⟩:=k
  obtain ⟨c,Fi,⟨rfl,rfl⟩,hFi,_,hput⟩:=dat.put (List.getElem?_eq_getElem hb)
  obtain ⟨hc,F',dat',_,sub⟩:=hput 0 [.string (S s)] s [] (by show 0+1≤1; omega) ⟨rfl,rfl⟩ (by simp) List.nodup_nil (fun q hq=>by cases hq)
  have hn1:(strE).n=1:=rfl
  simp only [hn1,Nat.add_zero,Nat.mul_one] at hc dat'
  have ho:o∈Fd:=dat.memF
  have ho2:=dd o ho
  have sub':∀ q∈F',q∈Fd:=fun q hq=>by simpa using sub q hq
  have hne:∀ q,q≠o→(sA_ H o (off+b) [.string (S s)])[q]?=H[q]?:=fun q hq=>by rw [sAg,if_neg (fun e=>hq e.symm)]
  refine ⟨hc,⟨dat'.ext,by rw [hne _ (by omega)]; exact box,⟨y,z,by rw [hne _ (by omega)]; exact res⟩,by rw [hne _ (Ne.symm ho2.2),List.length_set]; exact out,oi2,Fn,F',⟨dat'.ext,own.sl.frame fun q hq=>hne q fun e=>(dn q hq).2.2 (e ▸ ho),own.nd,own.new⟩,dat',fun q hq=>⟨(dn q hq).1,(dn q hq).2.1,fun hm=>(dn q hq).2.2 (sub' q hm)⟩,fun q hq=>dd q (sub' q hq)⟩⟩
end
section
variable (es:List Item) (a:Option Addr) (F:List Nat) (w:Bool) (t:TypeId) (h:Hp) (hr:slR w t itemE h es a F)
include hr
end
section
variable (xs ys:List Item) (a b:Option Addr) (F G:List Nat) (w w':Bool) (t t':TypeId) (h:Hp) (hx:slR w t itemE h xs a F) (hy:slR w' t' itemE h ys b G) (hl:xs.length≤1048576)
include hx hy hl
end
def treeFind:List Item→Str→Item × Bool
  | [],_=>(⟨[],0,[],0⟩,false)
  | x :: xs,p=>if x.path=p then (x,true) else treeFind xs p
def treeGet (xs:List Item) (p:Str):Item × Bool:=if p=[47] then (⟨[47],2,[],0⟩,true) else treeFind xs p
theorem treeFind_findI (xs:List Item) (p:Str):(findI (fun e=>e.path == p) xs 0=-1∧treeFind xs p=(⟨[],0,[],0⟩,false))∨∃ j,∃ hj:j<xs.length,findI (fun e=>e.path == p) xs 0=(j:Int)∧treeFind xs p=(xs[j],true):=by
  have key:∀ (es:List Item) (i:Nat),(findI (fun e=>e.path == p) es i=-1∧treeFind es p=(⟨[],0,[],0⟩,false))∨∃ j,∃ hj:j<es.length,findI (fun e=>e.path == p) es i=((i+j:Nat):Int)∧treeFind es p=(es[j],true):=by
    intro es
    induction es with
    | nil=>intro i; exact .inl ⟨rfl,rfl⟩
    | cons e es ih =>
      intro i
      by_cases hn:e.path=p
      · exact .inr ⟨0,by simp,by simp [findI,hn],by simp [treeFind,hn]⟩
      · rcases ih (i+1) with ⟨h1,h2⟩ | ⟨j,hj,h1,h2⟩
        · exact .inl ⟨by simp [findI,hn,h1],by simp [treeFind,hn,h2]⟩
        · exact .inr ⟨j+1,by simpa using hj,by simp [findI,hn,h1]; omega,by simp [treeFind,hn,h2]⟩
  simpa using key xs 0
section
variable (xs:List Item) (p:Str) (a:Option Addr) (F:List Nat) (w:Bool) (t:TypeId) (h:Hp) (hx:slR w t itemE h xs a F) (hl:xs.length≤1048576)
include hx hl
end
def freeAt (f:Fs):Int:=findI (fun n=>n.kind == 0) f.nodes 0
noncomputable def nodeMake (f:Fs) (kind:Int):Fs × Int × Bool :=
  if shapeOk f && inR kind 1 3 && decide (0≤freeAt f) then (⟨f.nodes.set (freeAt f).toNat { nA_ f (freeAt f) with kind:=kind },f.data⟩,freeAt f,true) else (f,-1,false)
theorem sumL_set {α:Type} (g:α→Nat):∀ (xs:List α) (i:Nat) (hi:i<xs.length) (x:α),sumL g (xs.set i x)+g xs[i]=sumL g xs+g x
  | y :: xs,0,_,x=>by simp [sumL]; omega
  | y :: xs,i+1,hi,x=>by
    have:=sumL_set g xs i (by simpa using hi) x
    simp [sumL]
    omega
theorem nodes_set_nl (f:Fs) (i:Nat) (hi:i<f.nodes.length) (x':Node) (hx:Node.nl x'=Node.nl f.nodes[i]):Fs.nl ⟨f.nodes.set i x',f.data⟩≤f.nl:=by
  have h1:=sumL_set Node.nl f.nodes _ hi x'
  have h3:(f.nodes.set i x').length=f.nodes.length:=List.length_set
  simp only [Fs.nl]
  omega
theorem nodeMake_nl (f:Fs) (kind:Int):(nodeMake f kind).1.nl≤f.nl:=by
  unfold nodeMake
  split
  · by_cases hi:(freeAt f).toNat<f.nodes.length
    · exact nodes_set_nl f _ hi _ (by simp [nA_,hi,Node.nl])
    · rw [List.set_eq_of_length_le (by omega)]
      exact Nat.le_refl _
  · exact Nat.le_refl _
def FsRes (f:Fs) (h h':Hp) (v:Value):Prop:=∃ b1 G1 b2 G2,v=.agg #[.slice b1 f.nodes.length f.nodes.length,.slice b2 f.data.length f.data.length]∧Own h 49 (nodeE true) h' f.nodes b1 G1∧Own h 9 strE h' f.data b2 G2∧∀ q∈G1,q ∉ G2
theorem FsOut.res_ {f0 f:Fs} {a1 a2 an ad:Option Addr} {h H:Hp} {oi:Nat} (k:FsOut f0 a1 a2 h oi f an ad H) (v0 v1:Value) (e0:v0=.slice an f.nodes.length f.nodes.length) (e1:v1=.slice ad f.data.length f.data.length):FsRes f h (sA_ H (h.length+1) 0 [v0,v1]) (.agg #[.slice an f.nodes.length f.nodes.length,.slice ad f.data.length f.data.length]):=by
  obtain ⟨-,-,-,G1,G2,o1,o2,d⟩:=k.done [v0,v1] rfl
  exact ⟨an,G1,ad,G2,rfl,o1,o2,d⟩
set_option maxHeartbeats 2000000 in
theorem nodeMake_spec_c (f:Fs) (a1 a2:Option Addr) (F1 F2:List Nat) (w:Bool) (tNode:TypeId) (h:Hp) (k1:slR w tNode (nodeE w) h f.nodes a1 F1) (k2:slR w 9 strE h f.data a2 F2) (hl:f.nl≤1048576) (kind:Int) :
    ACall Try.prog 101 [.agg #[.slice a1 f.nodes.length f.nodes.length,.slice a2 f.data.length f.data.length],.int .i64 kind] h fun r h'=>∃ v,r=.tuple #[v,.int .i64 (nodeMake f kind).2.1,.bool (nodeMake f kind).2.2]∧FsRes (nodeMake f kind).1 h h' v:=by
  refine acall mixed Try.func101 rfl (by kernel_rfl) ?_
  have hlim:=Fs.lim_of f hl
  have hM:f.nodes.length≤1048576:=hlim.1
  simp [Try.f101]
  refine cK (l6Copy_c f a1 a2 F1 F2 w w w tNode _ _ (k1.to (by simp)) (k2.to (by simp)) hlim.1 hlim.2.2 hlim.2.1) ?_
  rintro _ _ ⟨an,G1,ad,G2,rfl,o1,o2,dis⟩
  obtain ⟨u,rfl⟩:=o1.ext.pre
  simp at o1 o2
  have kk:=FsOut.start o1 o2 dis
  simp
  generalize h.length+(u.length+1+1)=oi at kk ⊢
  generalize (h++_ :: _ :: (u++_):Hp)=H at kk ⊢
  refine cK (shapeOk_spec_c f a1 a2 F1 F2 w tNode _ (k1.ext kk.ext) (k2.ext kk.ext) hl) ?_
  rintro _ _ ⟨⟨t1,rfl⟩,rfl⟩
  replace kk:=kk.grow t1
  generalize H++t1=H at kk ⊢
  have cc:=kk.cells
  have dn:=kk.done [.slice an f.nodes.length f.nodes.length,.slice ad f.data.length f.data.length] rfl
  cases e1:shapeOk f
  · have hd:nodeMake f kind=(f,-1,false):=by simp [nodeMake,e1]
    rw [hd]
    simp [cc,dn.1,dn.2.1,dn.2.2.1]
    exact kk.res_ _ _ rfl rfl
  simp
  refine cK (l1InR kind 1 3 _) ?_
  rintro _ H ⟨rfl,rfl⟩
  cases e2:inR kind 1 3
  · have hd:nodeMake f kind=(f,-1,false):=by simp [nodeMake,e2]
    rw [hd]
    simp [cc,dn.1,dn.2.1,dn.2.2.1]
    exact kk.res_ _ _ rfl rfl
  simp [cc]
  refine aloop mixed [1,2,4,7,8] (fun (k:Nat)=>[.int .i64 kind,.pointer (some ⟨h.length,0,none⟩),.pointer (some ⟨h.length+1,0,none⟩),.pointer (some ⟨oi,0,none⟩),.int .i64 k]) (fun _=>H) (fun k=>k≤f.nodes.length∧findI (fun n=>n.kind == 0) (f.nodes.drop k) k=freeAt f) (fun k=>f.nodes.length - k) 0 ⟨by omega,rfl⟩ rfl rfl ?_
  rintro j ⟨hk,he⟩
  simp [mkF,cc]
  refine aSI (fun hb=>?_) (fun hb=>?_) <;> simp at hb <;> simp [hb,cc]
  · obtain ⟨o,off,b1,G3,ea,c0,-⟩:=nodeAt (k1.ext kk.ext) hb
    subst ea
    rw [findI_drop _ f.nodes j hb] at he
    simp [hb,c0]
    refine aSI (fun hc=>?_) (fun hc=>?_) <;> (have hc':=hc; simp at hc; simp [hc,hc',cc])
    · have q1':freeAt f=(j:Int):=by rw [← he]; simp [hc]
      have hd:nodeMake f kind=(⟨f.nodes.set j { f.nodes[j] with kind:=kind },f.data⟩,(j:Int),true):=by
        have:=nodeAtI_get hb
        simp [nodeMake,q1',e1,e2,this]
      rw [hd]
      clear dn
      obtain ⟨Fn,Fd,own,-⟩:=kk.own
      obtain ⟨o,off,b0,G0,ea,-⟩:=nodeAt own.sl hb
      subst ea
      clear own
      obtain ⟨hcs,kf⟩:=kk.field (List.getElem?_eq_getElem hb) 0 kind { f.nodes[j] with kind:=kind } (by omega) rfl (fun _=>rfl)
      simp only [Nat.add_zero] at hcs kf
      simp [cc,hb,hcs]
      generalize sA_ H o (off+j * 5) [Value.int IntKind.i64 kind]=H at kf ⊢
      have dn:=kf.done [.slice (some ⟨o,off,none⟩) f.nodes.length f.nodes.length,.slice ad f.data.length f.data.length] rfl
      have cf:=kf.cells
      simp at cf
      simp [cf,dn.1,dn.2.1,dn.2.2.1]
      simpa using kf.res_ (.slice (some ⟨o,off,none⟩) f.nodes.length f.nodes.length) (.slice ad f.data.length f.data.length) (by simp) rfl
    · rw [show (f.nodes[j].kind == 0)=false by simpa using hc] at he
      exact anext (j+1) ⟨hb,by simpa using he⟩ (by omega) (by simp [pickF,wS (show j<9223372036854775807 by omega)]) rfl (by simp)
  · obtain rfl:j=f.nodes.length:=by omega
    simp [findI] at he
    have hd:nodeMake f kind=(f,-1,false):=by simp [nodeMake,← he]
    rw [hd]
    simp [cc,dn.1,dn.2.1,dn.2.2.1]
    exact kk.res_ _ _ rfl rfl
end Go.Proofs.Ytmpgpkdijfcfhaa.Hz
