/- Texts of the calculus and of the program's functions, merged: MG FO TS TG NW0 TO TP. -/
import Derived.Test.YtmpgpkdijfcfhaaGreatDoorHyGF
import Derived.Test.YtmpgpkdijfcfhaaGreatDoorHyGE
import Derived.Test.YtmpgpkdijfcfhaaGreatDoorHyGC
import Derived.Test.YtmpgpkdijfcfhaaGreatDoorHyGD
namespace Go.Proofs.YtmpgpkdijfcfhaaGreatDoor.Hz
open Go.RowKit
set_option linter.unusedVariables false
set_option linter.unusedSimpArgs false
set_option maxRecDepth 20000
theorem Own.nodeField' {h0 h:Hp} {e:TypeId} {xs:List Node} {F:List Nat} {o off:Nat} (k:Own h0 e (nodeE true) h xs (some ⟨o,off,none⟩) F) {i:Nat} {x:Node} (hx:xs[i]?=some x) (j:Nat) (v:Int) (x':Node) (hj:j<4) (hb:x'.blocks=x.blocks)
    (hs:∀ sl:Value,setL [.int .i64 x.kind,.int .i64 x.gen,.int .i64 x.time,.int .i64 x.size,sl] j [.int .i64 v]=[.int .i64 x'.kind,.int .i64 x'.gen,.int .i64 x'.time,.int .i64 x'.size,sl]) :
    cS_ h o (off+i * 5+j) 1=true∧Own h0 e (nodeE true) (sA_ h o (off+i * 5+j) [.int .i64 v]) (xs.set i x') (some ⟨o,off,none⟩) F:=by
  obtain ⟨c,Fi,⟨a1,F1,rfl,rfl,sl⟩,_,_,_,_,hput⟩:=k.row hx
  exact hput j [.int .i64 v] x' (by show j+1≤5; omega) ⟨a1,_,by rw [hs,hb],rfl,by rw [hb]; exact sl⟩
theorem Own.memF {α:Type} {A:Enc α} {h0 h:Hp} {e:TypeId} {xs:List α} {F:List Nat} {o off:Nat} (k:Own h0 e A h xs (some ⟨o,off,none⟩) F):o∈F:=by
  obtain ⟨_,ob,css,Fs,pre,post,g1,g2,g3,g4,rfl,_⟩:=k.sl
  exact List.mem_cons_self
structure FsOut (f0:Fs) (a1 a2:Option Addr) (h:Hp) (oi:Nat) (f:Fs) (an ad:Option Addr) (H:Hp):Prop where
  ext:Ext h H
  box:H[h.length]?=some ⟨true,true,56,[.slice a1 f0.nodes.length f0.nodes.length,.slice a2 f0.data.length f0.data.length]⟩
  res:∃ x y,H[h.length+1]?=some ⟨true,true,56,[x,y]⟩
  out:H[oi]?=some ⟨true,true,56,[.slice an f.nodes.length f.nodes.length,.slice ad f.data.length f.data.length]⟩
  oi2:h.length+2≤oi
  own:∃ Fn Fd,Own h 96 (nodeE true) H f.nodes an Fn∧Own h 9 strE H f.data ad Fd∧(∀ q∈Fn,h.length+2≤q∧q≠oi∧q ∉ Fd)∧∀ q∈Fd,h.length+2≤q∧q≠oi
section
variable {f0 f:Fs} {a1 a2 an ad:Option Addr} {h H:Hp} {oi:Nat}
theorem FsOut.cells (k:FsOut f0 a1 a2 h oi f an ad H) :
    cellAt H oi 0=some (.slice an f.nodes.length f.nodes.length)∧cellAt H oi 1=some (.slice ad f.data.length f.data.length)∧cellAt H h.length 0=some (.slice a1 f0.nodes.length f0.nodes.length)∧cellAt H h.length 1=some (.slice a2 f0.data.length f0.data.length):=by
  refine ⟨?_,?_,?_,?_⟩
  · rw [cellAt_of_get k.out rfl]; rfl
  · rw [cellAt_of_get k.out rfl]; rfl
  · rw [cellAt_of_get k.box rfl]; rfl
  · rw [cellAt_of_get k.box rfl]; rfl
theorem FsOut.grow (k:FsOut f0 a1 a2 h oi f an ad H) (t:Hp):FsOut f0 a1 a2 h oi f an ad (H++t):=by
  obtain ⟨ext,box,res,out,oi2,Fn,Fd,own,dat,dn,dd⟩:=k
  have xx:=Ext.push H t
  refine ⟨ext.trans xx,?_,?_,?_,oi2,Fn,Fd,own.grow xx,dat.grow xx,dn,dd⟩
  · rw [xx.2 _ (get_lt box)]; exact box
  · obtain ⟨x,y,res⟩:=res; exact ⟨x,y,by rw [xx.2 _ (get_lt res)]; exact res⟩
  · rw [xx.2 _ (get_lt out)]; exact out
theorem FsOut.start {u:Hp} {F1 F2:List Nat}
    (o1:Own (h++[⟨true,true,56,[.slice a1 f0.nodes.length f0.nodes.length,.slice a2 f0.data.length f0.data.length]⟩,⟨true,true,56,[.slice none 0 0,.slice none 0 0]⟩]) 96 (nodeE true) (h++⟨true,true,56,[.slice a1 f0.nodes.length f0.nodes.length,.slice a2 f0.data.length f0.data.length]⟩ :: ⟨true,true,56,[.slice none 0 0,.slice none 0 0]⟩ :: u) f0.nodes an F1)
    (o2:Own (h++[⟨true,true,56,[.slice a1 f0.nodes.length f0.nodes.length,.slice a2 f0.data.length f0.data.length]⟩,⟨true,true,56,[.slice none 0 0,.slice none 0 0]⟩]) 9 strE (h++⟨true,true,56,[.slice a1 f0.nodes.length f0.nodes.length,.slice a2 f0.data.length f0.data.length]⟩ :: ⟨true,true,56,[.slice none 0 0,.slice none 0 0]⟩ :: u) f0.data ad F2)
    (dis:∀ q∈F1,q ∉ F2) :
    FsOut f0 a1 a2 h (h.length+(u.length+1+1)) f0 an ad (h++⟨true,true,56,[.slice a1 f0.nodes.length f0.nodes.length,.slice a2 f0.data.length f0.data.length]⟩ :: ⟨true,true,56,[.slice none 0 0,.slice none 0 0]⟩ :: (u++[⟨true,true,56,[.slice an f0.nodes.length f0.nodes.length,.slice ad f0.data.length f0.data.length]⟩])) where
  ext:=Ext.push _ _
  box:=by simp
  res:=⟨.slice none 0 0,.slice none 0 0,by simp⟩
  out:=by
    rw [List.getElem?_append_right (by omega)]
    simp
  oi2:=by omega
  own:=by
    have e0:Ext h (h++[⟨true,true,56,[.slice a1 f0.nodes.length f0.nodes.length,.slice a2 f0.data.length f0.data.length]⟩,⟨true,true,56,[.slice none 0 0,.slice none 0 0]⟩]):=Ext.push _ _
    have p1:=(Own.of_new e0 o1).grow (Ext.push _ [⟨true,true,56,[.slice an f0.nodes.length f0.nodes.length,.slice ad f0.data.length f0.data.length]⟩])
    have p2:=(Own.of_new e0 o2).grow (Ext.push _ [⟨true,true,56,[.slice an f0.nodes.length f0.nodes.length,.slice ad f0.data.length f0.data.length]⟩])
    refine ⟨F1,F2,by simpa using p1,by simpa using p2,fun q hq=>?_,fun q hq=>?_⟩
    · have h1:=o1.new q hq
      have h2:=o1.sl.lt q hq
      simp at h1 h2
      exact ⟨by omega,by omega,dis q hq⟩
    · have h1:=o2.new q hq
      have h2:=o2.sl.lt q hq
      simp at h1 h2
      exact ⟨by omega,by omega⟩
theorem FsOut.done (k:FsOut f0 a1 a2 h oi f an ad H) (vs:List Value) (hvs:vs.length=2) :
    cS_ H (h.length+1) 0 2=true∧cellAt (sA_ H (h.length+1) 0 vs) (h.length+1) 0=vs[0]?∧cellAt (sA_ H (h.length+1) 0 vs) (h.length+1) 1=vs[1]? ∧
      ∃ G1 G2,Own h 96 (nodeE true) (sA_ H (h.length+1) 0 vs) f.nodes an G1∧Own h 9 strE (sA_ H (h.length+1) 0 vs) f.data ad G2∧∀ q∈G1,q ∉ G2:=by
  obtain ⟨ext,box,⟨x,y,res⟩,out,oi2,Fn,Fd,own,dat,dn,dd⟩:=k
  have hg:(sA_ H (h.length+1) 0 vs)[h.length+1]?=some ⟨true,true,56,vs⟩:=by
    rw [sAg,if_pos rfl,res]
    simp only [Option.map_some]
    rw [setL_all _ _ (by simpa using hvs)]
  have hne:∀ q,h.length+2≤q→(sA_ H (h.length+1) 0 vs)[q]?=H[q]?:=fun q hq=>by rw [sAg,if_neg (by omega)]
  refine ⟨by simp [cS_,res],by rw [cellAt_of_get hg rfl],by rw [cellAt_of_get hg rfl],Fn,Fd,⟨own.ext.set (by omega) 0 _,own.sl.frame fun q hq=>hne q (dn q hq).1,own.nd,own.new⟩,⟨dat.ext.set (by omega) 0 _,dat.sl.frame fun q hq=>hne q (dd q hq).1,dat.nd,dat.new⟩,fun q hq=>(dn q hq).2.2⟩
theorem FsOut.field {o off:Nat} (k:FsOut f0 a1 a2 h oi f (some ⟨o,off,none⟩) ad H) {i:Nat} {x:Node} (hx:f.nodes[i]?=some x) (j:Nat) (v:Int) (x':Node) (hj:j<4) (hb:x'.blocks=x.blocks)
    (hs:∀ sl:Value,setL [.int .i64 x.kind,.int .i64 x.gen,.int .i64 x.time,.int .i64 x.size,sl] j [.int .i64 v]=[.int .i64 x'.kind,.int .i64 x'.gen,.int .i64 x'.time,.int .i64 x'.size,sl]) :
    cS_ H o (off+i * 5+j) 1=true∧FsOut f0 a1 a2 h oi ⟨f.nodes.set i x',f.data⟩ (some ⟨o,off,none⟩) ad (sA_ H o (off+i * 5+j) [.int .i64 v]):=by
  obtain ⟨ext,box,⟨y,z,res⟩,out,oi2,Fn,Fd,own,dat,dn,dd⟩:=k
  obtain ⟨hc,own'⟩:=own.nodeField' hx j v x' hj hb hs
  have ho:=dn o own.memF
  have hne:∀ q,q≠o→(sA_ H o (off+i * 5+j) [.int .i64 v])[q]?=H[q]?:=fun q hq=>by rw [sAg,if_neg (fun e=>hq e.symm)]
  refine ⟨hc,⟨own'.ext,by rw [hne _ (by omega)]; exact box,⟨y,z,by rw [hne _ (by omega)]; exact res⟩,by rw [hne _ (Ne.symm ho.2.1),List.length_set]; exact out,oi2,Fn,Fd,own',⟨own'.ext,dat.sl.frame fun q hq=>hne q fun e=>ho.2.2 (e ▸ hq),dat.nd,dat.new⟩,dn,dd⟩⟩
theorem FsOut.clear {o off:Nat} (k:FsOut f0 a1 a2 h oi f (some ⟨o,off,none⟩) ad H) {i:Nat} (hi:i<f.nodes.length) :
    cS_ H o (off+i * 5) 5=true∧FsOut f0 a1 a2 h oi ⟨f.nodes.set i ⟨0,0,0,0,[]⟩,f.data⟩ (some ⟨o,off,none⟩) ad (sA_ H o (off+i * 5) [.int .i64 0,.int .i64 0,.int .i64 0,.int .i64 0,.slice none 0 0]):=by
  obtain ⟨ext,box,⟨y,z,res⟩,out,oi2,Fn,Fd,own,dat,dn,dd⟩:=k
  obtain ⟨c,Fi,hR,hFi,_,hput⟩:=own.put (List.getElem?_eq_getElem hi)
  have hl:c.length=5:=(nodeE true).len hR
  have hset:setL c 0 [.int .i64 0,.int .i64 0,.int .i64 0,.int .i64 0,.slice none 0 0]=[.int .i64 0,.int .i64 0,.int .i64 0,.int .i64 0,.slice none 0 0]:=setL_all _ c (by rw [hl]; rfl)
  obtain ⟨hc,F',own',_,sub⟩:=hput 0 [.int .i64 0,.int .i64 0,.int .i64 0,.int .i64 0,.slice none 0 0] ⟨0,0,0,0,[]⟩ [] (by show 0+5≤5; omega) (by rw [hset]; exact ⟨none,[],rfl,rfl,rfl,rfl⟩) (by simp) List.nodup_nil (fun q hq=>by cases hq)
  have hn5:(nodeE true).n=5:=rfl
  simp only [hn5,Nat.add_zero] at hc own'
  have ho:=dn o own.memF
  have sub':∀ q∈F',q∈Fn:=fun q hq=>by simpa using sub q hq
  have hne:∀ q,q≠o→(sA_ H o (off+i * 5) [.int .i64 0,.int .i64 0,.int .i64 0,.int .i64 0,.slice none 0 0])[q]?=H[q]?:=fun q hq=>by rw [sAg,if_neg (fun e=>hq e.symm)]
  refine ⟨hc,⟨own'.ext,by rw [hne _ (by omega)]; exact box,⟨y,z,by rw [hne _ (by omega)]; exact res⟩,by rw [hne _ (Ne.symm ho.2.1),List.length_set]; exact out,oi2,F',Fd,own',⟨own'.ext,dat.sl.frame fun q hq=>hne q fun e=>ho.2.2 (e ▸ hq),dat.nd,dat.new⟩,fun q hq=>dn q (sub' q hq),dd⟩⟩
theorem FsOut.put {o off:Nat} (k:FsOut f0 a1 a2 h oi f an (some ⟨o,off,none⟩) H) {b:Nat} (hb:b<f.data.length) (s:Str) :
    cS_ H o (off+b) 1=true∧FsOut f0 a1 a2 h oi ⟨f.nodes,f.data.set b s⟩ an (some ⟨o,off,none⟩) (sA_ H o (off+b) [.string (S s)]):=by
  obtain ⟨ext,box,⟨y,z,res⟩,out,oi2,Fn,Fd,own,dat,dn,dd⟩:=k
  obtain ⟨c,Fi,⟨rfl,rfl⟩,hFi,_,hput⟩:=dat.put (List.getElem?_eq_getElem hb)
  obtain ⟨hc,F',dat',_,sub⟩:=hput 0 [.string (S s)] s [] (by show 0+1≤1; omega) ⟨rfl,rfl⟩ (by simp) List.nodup_nil (fun q hq=>by cases hq)
  have hn1:(strE).n=1:=rfl
  simp only [hn1,Nat.add_zero,Nat.mul_one] at hc dat'
  have ho:o∈Fd:=dat.memF
  have ho2:=dd o ho
  have sub':∀ q∈F',q∈Fd:=fun q hq=>by simpa using sub q hq
  have hne:∀ q,q≠o→(sA_ H o (off+b) [.string (S s)])[q]?=H[q]?:=fun q hq=>by rw [sAg,if_neg (fun e=>hq e.symm)]
  refine ⟨hc,⟨dat'.ext,by rw [hne _ (by omega)]; exact box,⟨y,z,by rw [hne _ (by omega)]; exact res⟩,by rw [hne _ (Ne.symm ho2.2),List.length_set]; exact out,oi2,Fn,F',⟨dat'.ext,own.sl.frame fun q hq=>hne q fun e=>(dn q hq).2.2 (e ▸ ho),own.nd,own.new⟩,dat',fun q hq=>⟨(dn q hq).1,(dn q hq).2.1,fun hm=>(dn q hq).2.2 (sub' q hm)⟩,fun q hq=>dd q (sub' q hq)⟩⟩
end
theorem itemEq {x y:Item}:x=y↔(x.path=y.path∧x.kind=y.kind∧x.data=y.data∧x.time=y.time):=by cases x; cases y; simp
section
variable (es:List Item) (a:Option Addr) (F:List Nat) (w:Bool) (t:TypeId) (h:Hp) (hr:slR w t itemE h es a F)
include hr
end
section
variable (xs ys:List Item) (a b:Option Addr) (F G:List Nat) (w w':Bool) (t t':TypeId) (h:Hp) (hx:slR w t itemE h xs a F) (hy:slR w' t' itemE h ys b G) (hl:xs.length≤1048576)
include hx hy hl
theorem equalItem_c:ACall Tryz.prog 26 [.slice a xs.length xs.length,.slice b ys.length ys.length] h fun r h'=>h'=h∧r=.bool (decide (xs=ys)):=by
  refine acall mixed Tryz.func26 rfl (by kernel_rfl) ?_
  simp [Tryz.f26]
  refine aSI (fun hb=>?_) (fun hb=>?_) <;> simp at hb <;> simp [hb]
  · rintro rfl; exact hb rfl
  have hl2:xs.length=ys.length:=by omega
  refine aloop mixed [0,1,12,13] (fun (k:Nat)=>[.slice a xs.length xs.length,.slice b ys.length ys.length,.int .i64 xs.length,.int .i64 k]) (fun _=>h) (fun k=>k≤xs.length∧xs.take k=ys.take k) (fun k=>xs.length - k) 0 ⟨by omega,by simp⟩ (by simp [pickF,hl2]) rfl ?_
  rintro k ⟨hk,he⟩
  simp [mkF]
  refine aSI (fun hc=>?_) (fun hc=>?_) <;> simp at hc <;> simp [hc]
  · have hc2:k<ys.length:=by omega
    obtain ⟨o,off,rfl,c0,c1,c2,c3⟩:=itemAt hx hc
    obtain ⟨o',off',rfl,d0,d1,d2,d3⟩:=itemAt hy hc2
    refine drawK false (by kernel_rfl) ?_
    simp [hc,hc2,c0,c1,c2,c3,d0,d1,d2,d3]
    refine aSI (fun hd=>?_) (fun hd=>?_)
    · have hne:xs≠ys:=by rintro rfl; simp at hd
      simp [hne]
    · have hd2:xs[k]=ys[k]:=by simp at hd; exact itemEq.2 (by simp [hd])
      simp
      exact anext (k+1) ⟨hc,take_snoc hc hc2 he hd2⟩ (by omega) (by simp [pickF,wS (show k<9223372036854775807 by omega)]) rfl (by simp)
  · obtain rfl:k=xs.length:=by omega
    exact take_all hl2 he
theorem treeSame_impl_c:ACall Tryz.prog 12 [.agg #[.slice a xs.length xs.length],.agg #[.slice b ys.length ys.length]] h fun r h'=>(∃ t,h'=h++t)∧r=.bool (decide (xs=ys)):=by
  refine acall mixed Tryz.func12 rfl (by kernel_rfl) ?_
  simp [Tryz.f12]
  refine cK (equalItem_c xs ys a b F G w w' t t' _ (hx.ext (Ext.push h _)) (hy.ext (Ext.push h _)) hl) ?_
  rintro _ _ ⟨rfl,rfl⟩
  simp
end
def treeFind:List Item→Str→Item × Bool
  | [],_=>(⟨[],0,[],0⟩,false)
  | x :: xs,p=>if x.path=p then (x,true) else treeFind xs p
def treeGet (xs:List Item) (p:Str):Item × Bool:=if p=[47] then (⟨[47],2,[],0⟩,true) else treeFind xs p
theorem treeFind_drop (xs:List Item) (p:Str) (k:Nat) (hk:k<xs.length):treeFind (xs.drop k) p=if xs[k].path=p then (xs[k],true) else treeFind (xs.drop (k+1)) p:=by
  rw [List.drop_eq_getElem_cons hk]; rfl
theorem treeFind_findI (xs:List Item) (p:Str):(findI (fun e=>e.path == p) xs 0=-1∧treeFind xs p=(⟨[],0,[],0⟩,false))∨∃ j,∃ hj:j<xs.length,findI (fun e=>e.path == p) xs 0=(j:Int)∧treeFind xs p=(xs[j],true):=by
  have key:∀ (es:List Item) (i:Nat),(findI (fun e=>e.path == p) es i=-1∧treeFind es p=(⟨[],0,[],0⟩,false))∨∃ j,∃ hj:j<es.length,findI (fun e=>e.path == p) es i=((i+j:Nat):Int)∧treeFind es p=(es[j],true):=by
    intro es
    induction es with
    | nil=>intro i; exact .inl ⟨rfl,rfl⟩
    | cons e es ih =>
      intro i
      by_cases hn:e.path=p
      · exact .inr ⟨0,by simp,by simp [findI,hn],by simp [treeFind,hn]⟩
      · rcases ih (i+1) with ⟨h1,h2⟩ | ⟨j,hj,h1,h2⟩
        · exact .inl ⟨by simp [findI,hn,h1],by simp [treeFind,hn,h2]⟩
        · exact .inr ⟨j+1,by simpa using hj,by simp [findI,hn,h1]; omega,by simp [treeFind,hn,h2]⟩
  simpa using key xs 0
theorem indexFuncItem_c (es:List Item) (a:Option Addr) (F:List Nat) (w:Bool) (t:TypeId) (h:Hp) (hr:slR w t itemE h es a F) (hl:es.length≤1048576) (p:Item→Bool) (g:FuncId) (cap:Array Value)
    (hg:∀ e∈es,∀ t,ACall Tryz.prog g (e.v :: cap.toList) (h++t) fun r h'=>(∃ t',h'=h++t++t')∧r=.bool (p e)) :
    ACall Tryz.prog 39 [.slice a es.length es.length,.func (.func g) #[] cap] h fun r h'=>(∃ t,h'=h++t)∧r=.int .i64 (findI p es 0):=by
  refine acall mixed Tryz.func39 rfl (by kernel_rfl) ?_
  simp [Tryz.f39]
  refine aloop mixed [0,1,7,8] (fun (x:Nat × Hp)=>[.slice a es.length es.length,.func (.func g) #[] cap,.int .i64 es.length,.int .i64 x.1]) (fun x=>h++x.2) (fun x=>x.1≤es.length∧findI p (es.drop x.1) x.1=findI p es 0) (fun x=>es.length - x.1) (0,[]) ⟨by simp,by simp⟩ (by simp [pickF]) (by simp) ?_
  rintro ⟨k,t'⟩ ⟨hk,he⟩
  simp only at hk he
  simp [mkF]
  refine aSI (fun hb=>?_) (fun hb=>?_) <;> simp at hb <;> simp [hb]
  · obtain ⟨o,off,rfl,c0,c1,c2,c3⟩:=itemAt (hr.ext (Ext.push h t')) hb
    rw [findI_drop p es k hb] at he
    simp [hb,c0,c1,c2,c3]
    refine cK (hg es[k] (List.getElem_mem hb) t') ?_
    rintro _ _ ⟨⟨t2,rfl⟩,rfl⟩
    simp
    refine aSI (fun hc=>?_) (fun hc=>?_) <;> simp [hc] at he <;> simp [he]
    exact anext (k+1,t'++t2) ⟨hb,he⟩ (by simp only; omega) (by simp [pickF,wS (show k<9223372036854775807 by omega)]) (by simp) (by simp)
  · obtain rfl:k=es.length:=by omega
    simpa [findI] using he
theorem itemAt1_c (e:Item) (name:Str) (o:Nat) (h:Hp) (ho:o<h.length) (hc:cellAt h o 0=some (.string (S name))) :
    ACall Tryz.prog 40 [e.v,.pointer (some ⟨o,0,none⟩)] h fun r h'=>(∃ t',h'=h++t')∧r=.bool (e.path == name):=by
  refine acall mixed Tryz.func40 rfl (by kernel_rfl) ?_
  have hc2:∀ l,cellAt (h++l) o 0=some (.string (S name)):=fun l=>by rw [cellAt_ext (Ext.push h l) ho]; exact hc
  simp [Tryz.f40,Item.v,hc2]
section
variable (xs:List Item) (p:Str) (a:Option Addr) (F:List Nat) (w:Bool) (t:TypeId) (h:Hp) (hx:slR w t itemE h xs a F) (hl:xs.length≤1048576)
include hx hl
theorem itemAt_c:ACall Tryz.prog 23 [.agg #[.slice a xs.length xs.length],.string (S p)] h fun r h'=>(∃ t',h'=h++t')∧r=.int .i64 (findI (fun e=>e.path == p) xs 0):=by
  refine acall mixed Tryz.func23 rfl (by kernel_rfl) ?_
  simp [Tryz.f23]
  refine cK (indexFuncItem_c xs a F w t _ (hx.ext (Ext.push _ _)) hl (fun e=>e.path == p) _ _ fun e he t=>?_) ?_
  · refine (itemAt1_c e p (h.length+1) _ (by simp) (by simp)).mono ?_
    simp
  · rintro _ _ ⟨⟨t2,rfl⟩,rfl⟩
    simp
theorem treeGet_spec_c:ACall Tryz.prog 19 [.agg #[.slice a xs.length xs.length],.string (S p)] h fun r h'=>(∃ t',h'=h++t')∧r=.tuple #[(treeGet xs p).1.v,.bool (treeGet xs p).2]:=by
  refine acall mixed Tryz.func19 rfl (by kernel_rfl) ?_
  simp [Tryz.f19]
  refine aSI (fun hb=>?_) (fun hb=>?_) <;> simp at hb <;> simp [hb,treeGet,Item.v]
  refine aloop mixed [1,2,4,6] (fun (k:Nat)=>[.string (S p),.pointer (some ⟨h.length,0,none⟩),.pointer (some ⟨h.length+1,0,none⟩),.int .i64 k]) (fun _=>_) (fun k=>k≤xs.length∧treeFind (xs.drop k) p=treeFind xs p) (fun k=>xs.length - k) 0 ⟨by omega,by simp⟩ rfl rfl ?_
  rintro k ⟨hk,he⟩
  simp [mkF]
  refine aSI (fun hc=>?_) (fun hc=>?_) <;> simp at hc <;> simp [hc]
  · obtain ⟨o,off,rfl,c0,c1,c2,c3⟩:=itemAt (hx.ext (Ext.push h [⟨true,true,26,[.slice a xs.length xs.length]⟩,⟨true,true,33,[.string (S []),.int .i64 0,.string (S []),.int .i64 0]⟩])) hc
    rw [treeFind_drop xs p k hc] at he
    simp [hc,c0]
    refine aSI (fun hd=>?_) (fun hd=>?_) <;> simp at hd <;> simp [hd] at he <;> simp [hd]
    · simp [hc,c0,c1,c2,c3,← he,hd]
    exact anext (k+1) ⟨hc,he⟩ (by omega) (by simp [pickF,wS (show k<9223372036854775807 by omega)]) rfl (by simp)
  · obtain rfl:k=xs.length:=by omega
    have h0:treeFind xs p=(⟨[],0,[],0⟩,false):=by simpa [treeFind] using he.symm
    simp [h0]
theorem treeGet_impl_c:ACall Tryz.prog 9 [.agg #[.slice a xs.length xs.length],.string (S p)] h fun r h'=>(∃ t',h'=h++t')∧r=.tuple #[(treeGet xs p).1.v,.bool (treeGet xs p).2]:=by
  refine acall mixed Tryz.func9 rfl (by kernel_rfl) ?_
  simp [Tryz.f9]
  refine aSI (fun hb=>?_) (fun hb=>?_) <;> simp at hb <;> simp [hb,treeGet,Item.v]
  refine cK (itemAt_c xs p a F w t _ (hx.ext (Ext.push h _)) hl) ?_
  rintro _ _ ⟨⟨t1,rfl⟩,rfl⟩
  rcases treeFind_findI xs p with ⟨h1,h2⟩ | ⟨j,hj,h1,h2⟩
  · simp [h1,h2]
  · obtain ⟨o,off,rfl,c0,c1,c2,c3⟩:=itemAt (hx.ext (Ext.push h (⟨true,true,26,[.slice a xs.length xs.length]⟩ :: ⟨true,true,33,[.string (S []),.int .i64 0,.string (S []),.int .i64 0]⟩ :: t1))) hj
    have:¬ (j:Int)<0:=by omega
    simp [h1,h2,this,hj,c0,c1,c2,c3]
end
def freeAt (f:Fs):Int:=findI (fun n=>n.kind == 0) f.nodes 0
noncomputable def nodeMake (f:Fs) (kind:Int):Fs × Int × Bool :=
  if shapeOk f && inR kind 1 3 && decide (0≤freeAt f) then (⟨f.nodes.set (freeAt f).toNat { nA_ f (freeAt f) with kind:=kind },f.data⟩,freeAt f,true) else (f,-1,false)
theorem sumL_set {α:Type} (g:α→Nat):∀ (xs:List α) (i:Nat) (hi:i<xs.length) (x:α),sumL g (xs.set i x)+g xs[i]=sumL g xs+g x
  | y :: xs,0,_,x=>by simp [sumL]; omega
  | y :: xs,i+1,hi,x=>by
    have:=sumL_set g xs i (by simpa using hi) x
    simp [sumL]
    omega
theorem nodes_set_nl (f:Fs) (i:Nat) (hi:i<f.nodes.length) (x':Node) (hx:Node.nl x'=Node.nl f.nodes[i]):Fs.nl ⟨f.nodes.set i x',f.data⟩≤f.nl:=by
  have h1:=sumL_set Node.nl f.nodes _ hi x'
  have h3:(f.nodes.set i x').length=f.nodes.length:=List.length_set
  simp only [Fs.nl]
  omega
theorem nodeMake_nl (f:Fs) (kind:Int):(nodeMake f kind).1.nl≤f.nl:=by
  unfold nodeMake
  split
  · by_cases hi:(freeAt f).toNat<f.nodes.length
    · exact nodes_set_nl f _ hi _ (by simp [nA_,hi,Node.nl])
    · rw [List.set_eq_of_length_le (by omega)]
      exact Nat.le_refl _
  · exact Nat.le_refl _
def FsRes (f:Fs) (h h':Hp) (v:Value):Prop:=∃ b1 G1 b2 G2,v=.agg #[.slice b1 f.nodes.length f.nodes.length,.slice b2 f.data.length f.data.length]∧Own h 96 (nodeE true) h' f.nodes b1 G1∧Own h 9 strE h' f.data b2 G2∧∀ q∈G1,q ∉ G2
theorem isKind_c (k:Int) (h:Hp):ACall Tryz.prog 61 [.int .i64 k] h fun r h'=>r=.bool (inR k 1 3)∧h'=h:=by
  refine acall mixed Tryz.func61 rfl (by kernel_rfl) ?_
  simp [Tryz.f61]
  refine cK (withinR k 1 3 _) ?_
  rintro _ _ ⟨rfl,rfl⟩
  simp
theorem FsOut.res_ {f0 f:Fs} {a1 a2 an ad:Option Addr} {h H:Hp} {oi:Nat} (k:FsOut f0 a1 a2 h oi f an ad H) (v0 v1:Value) (e0:v0=.slice an f.nodes.length f.nodes.length) (e1:v1=.slice ad f.data.length f.data.length):FsRes f h (sA_ H (h.length+1) 0 [v0,v1]) (.agg #[.slice an f.nodes.length f.nodes.length,.slice ad f.data.length f.data.length]):=by
  obtain ⟨-,-,-,G1,G2,o1,o2,d⟩:=k.done [v0,v1] rfl
  exact ⟨an,G1,ad,G2,rfl,o1,o2,d⟩
set_option maxHeartbeats 2000000 in
theorem nodeMake_spec_c (f:Fs) (a1 a2:Option Addr) (F1 F2:List Nat) (w:Bool) (tNode:TypeId) (h:Hp) (k1:slR w tNode (nodeE w) h f.nodes a1 F1) (k2:slR w 9 strE h f.data a2 F2) (hl:f.nl≤1048576) (kind:Int) :
    ACall Tryz.prog 92 [.agg #[.slice a1 f.nodes.length f.nodes.length,.slice a2 f.data.length f.data.length],.int .i64 kind] h fun r h'=>∃ v,r=.tuple #[v,.int .i64 (nodeMake f kind).2.1,.bool (nodeMake f kind).2.2]∧FsRes (nodeMake f kind).1 h h' v:=by
  refine acall mixed Tryz.func92 rfl (by kernel_rfl) ?_
  have hlim:=Fs.lim_of f hl
  have hM:f.nodes.length≤1048576:=hlim.1
  simp [Tryz.f92]
  refine cK (l6Copy_c f a1 a2 F1 F2 w w w tNode _ _ (k1.to (by simp)) (k2.to (by simp)) hlim.1 hlim.2.2 hlim.2.1) ?_
  rintro _ _ ⟨an,G1,ad,G2,rfl,o1,o2,dis⟩
  obtain ⟨u,rfl⟩:=o1.ext.pre
  simp at o1 o2
  have kk:=FsOut.start o1 o2 dis
  simp
  generalize h.length+(u.length+1+1)=oi at kk ⊢
  generalize (h++_ :: _ :: (u++_):Hp)=H at kk ⊢
  refine cK (shapeOk_spec_c f a1 a2 F1 F2 w tNode _ (k1.ext kk.ext) (k2.ext kk.ext) hl) ?_
  rintro _ _ ⟨⟨t1,rfl⟩,rfl⟩
  replace kk:=kk.grow t1
  generalize H++t1=H at kk ⊢
  have cc:=kk.cells
  have dn:=kk.done [.slice an f.nodes.length f.nodes.length,.slice ad f.data.length f.data.length] rfl
  cases e1:shapeOk f
  · have hd:nodeMake f kind=(f,-1,false):=by simp [nodeMake,e1]
    rw [hd]
    simp [cc,dn.1,dn.2.1,dn.2.2.1]
    exact kk.res_ _ _ rfl rfl
  simp
  refine cK (l1InR kind 1 3 _) ?_
  rintro _ H ⟨rfl,rfl⟩
  cases e2:inR kind 1 3
  · have hd:nodeMake f kind=(f,-1,false):=by simp [nodeMake,e2]
    rw [hd]
    simp [cc,dn.1,dn.2.1,dn.2.2.1]
    exact kk.res_ _ _ rfl rfl
  simp [cc]
  refine aloop mixed [1,2,4,7,8] (fun (k:Nat)=>[.int .i64 kind,.pointer (some ⟨h.length,0,none⟩),.pointer (some ⟨h.length+1,0,none⟩),.pointer (some ⟨oi,0,none⟩),.int .i64 k]) (fun _=>H) (fun k=>k≤f.nodes.length∧findI (fun n=>n.kind == 0) (f.nodes.drop k) k=freeAt f) (fun k=>f.nodes.length - k) 0 ⟨by omega,rfl⟩ rfl rfl ?_
  rintro j ⟨hk,he⟩
  simp [mkF,cc]
  refine aSI (fun hb=>?_) (fun hb=>?_) <;> simp at hb <;> simp [hb,cc]
  · obtain ⟨o,off,b1,G3,ea,c0,-⟩:=nodeAt (k1.ext kk.ext) hb
    subst ea
    rw [findI_drop _ f.nodes j hb] at he
    simp [hb,c0]
    refine aSI (fun hc=>?_) (fun hc=>?_) <;> (have hc':=hc; simp at hc; simp [hc,hc',cc])
    · have q1':freeAt f=(j:Int):=by rw [← he]; simp [hc]
      have hd:nodeMake f kind=(⟨f.nodes.set j { f.nodes[j] with kind:=kind },f.data⟩,(j:Int),true):=by
        have:=nodeAtI_get hb
        simp [nodeMake,q1',e1,e2,this]
      rw [hd]
      clear dn
      obtain ⟨Fn,Fd,own,-⟩:=kk.own
      obtain ⟨o,off,b0,G0,ea,-⟩:=nodeAt own.sl hb
      subst ea
      clear own
      obtain ⟨hcs,kf⟩:=kk.field (List.getElem?_eq_getElem hb) 0 kind { f.nodes[j] with kind:=kind } (by omega) rfl (fun _=>rfl)
      simp only [Nat.add_zero] at hcs kf
      simp [cc,hb,hcs]
      generalize sA_ H o (off+j * 5) [Value.int IntKind.i64 kind]=H at kf ⊢
      have dn:=kf.done [.slice (some ⟨o,off,none⟩) f.nodes.length f.nodes.length,.slice ad f.data.length f.data.length] rfl
      have cf:=kf.cells
      simp at cf
      simp [cf,dn.1,dn.2.1,dn.2.2.1]
      simpa using kf.res_ (.slice (some ⟨o,off,none⟩) f.nodes.length f.nodes.length) (.slice ad f.data.length f.data.length) (by simp) rfl
    · rw [show (f.nodes[j].kind == 0)=false by simpa using hc] at he
      exact anext (j+1) ⟨hb,by simpa using he⟩ (by omega) (by simp [pickF,wS (show j<9223372036854775807 by omega)]) rfl (by simp)
  · obtain rfl:j=f.nodes.length:=by omega
    simp [findI] at he
    have hd:nodeMake f kind=(f,-1,false):=by simp [nodeMake,← he]
    rw [hd]
    simp [cc,dn.1,dn.2.1,dn.2.2.1]
    exact kk.res_ _ _ rfl rfl
theorem above_spec_c (p:Str) (h:Hp) (hl:p.length≤1048576) :
    ACall Tryz.prog 21 [.string (S p)] h fun r h'=>(∃ t,h'=h++t)∧r=.string (S (above p)):=by
  refine acall mixed Tryz.func21 rfl (by kernel_rfl) ?_
  simp [Tryz.f21]
  refine cK (names_spec_c p _ hl) ?_
  rintro _ _ ⟨a,F,rfl,own⟩
  obtain ⟨u,rfl⟩:=own.ext.pre
  simp
  refine cK (pathOk_spec_c p _ hl) ?_
  rintro _ _ ⟨⟨t0,rfl⟩,rfl⟩
  have hn:=names_len p
  cases hok:pathOk p
  · simp [above,hok]
  simp
  refine aSI (fun hb=>?_) (fun hb=>?_) <;> (have hb':=hb; simp at hb; simp [hb,hb'])
  · have:pathOf []=[47]:=rfl
    simp [above,hok,hb,this]
  have ht:=sum_names ((names p).take ((names p).length - 1)) fun x hx=>names_mem (List.mem_of_mem_take hx)
  have htl:((names p).take ((names p).length - 1)).length=(names p).length - 1:=by simp
  have hbd:((names p).take ((names p).length - 1)).length+sumL List.length ((names p).take ((names p).length - 1))≤1048576:=by omega
  have hpos:0<(names p).length:=List.length_pos_iff.2 hb
  have w1:IntKind.i64.wrap ((names p).length - 1:Int)=(((names p).length - 1:Nat):Int):=by rw [wrap_in (by omega) (by omega)]; omega
  obtain ⟨o,off,rfl,-⟩:=strEAt own.sl hpos
  have cut:=(own.grow (Ext.push _ t0)).cut 0 ((names p).length - 1) (by omega) (by omega)
  simp only [List.drop_zero,Nat.zero_mul,Nat.add_zero] at cut
  have hpo:=pathOf_spec_c _ _ _ true _ _ cut.sl hbd
  rw [htl] at hpo
  simp at hpo
  have hel:=(own.grow (Ext.push _ t0)).sl.el
  simp at hel
  have hle:(((names p).length - 1:Nat):Int)≤(names p).length:=by omega
  simp [w1,asl2_j,hel,hle]
  refine cK (hpo.cap (by omega)) ?_
  rintro _ _ ⟨⟨t1,rfl⟩,rfl⟩
  simp [above,hok]
def itemOk (x:Item):Bool:=pathOk x.path && !(x.path == [47]) && inR x.kind 1 3 && (if x.kind=2 then decide (x.data=[]) && decide (x.time=0) else decide (x.data.length≤80) && inR x.time 0 100000)
theorem itemOk_c (x:Item) (h:Hp) (hl:x.path.length≤1048576) :
    ACall Tryz.prog 33 [x.v] h fun r h'=>(∃ t,h'=h++t)∧r=.bool (itemOk x):=by
  refine acall mixed Tryz.func33 rfl (by kernel_rfl) ?_
  simp [Tryz.f33,Item.v]
  refine cK (pathOk_impl_c x.path _ hl) ?_
  rintro _ _ ⟨⟨t0,rfl⟩,rfl⟩
  cases e1:pathOk x.path
  · simp [itemOk,e1]
  simp
  refine aSI (fun hb=>?_) (fun hb=>?_) <;> (have hb':=hb; simp at hb; simp [hb,hb'])
  · simp [itemOk,hb]
  refine cK (isKind_c x.kind _) ?_
  rintro _ H ⟨rfl,rfl⟩
  cases e2:inR x.kind 1 3
  · simp [itemOk,e2]
  simp
  refine aSI (fun hc=>?_) (fun hc=>?_) <;> (have hc':=hc; simp at hc; simp [hc,hc'])
  · refine aSI (fun hd=>?_) (fun hd=>?_) <;> (have hd':=hd; simp at hd; simp [hd,hd'])
    · have e3:inR 2 1 3=true:=by decide
      by_cases ht:x.time=0 <;> simp [itemOk,e1,hb,e3,hc,hd,ht]
    · have e3:inR 2 1 3=true:=by decide
      simp [itemOk,e1,hb,e3,hc,hd]
  · refine aSI (fun hd=>?_) (fun hd=>?_) <;> (have hd':=hd; simp at hd; simp [hd,hd'])
    · refine cK (withinR x.time 0 100000 _) ?_
      rintro _ H ⟨rfl,rfl⟩
      have hd2:x.data.length≤80:=by omega
      simp [itemOk,e1,hb,e2,hc,hd2]
    · have hd2:¬ x.data.length≤80:=by omega
      simp [itemOk,e1,hb,e2,hc,hd2]
def stepOk (xs:List Item) (i:Nat) (x:Item):Bool:=itemOk x && (match i with | 0=>true | j+1=>match xs[j]? with | some y=>Op.bytesLess y.path x.path | none=>true) && ((treeGet xs (above x.path)).2 && decide ((treeGet xs (above x.path)).1.kind=2))
def treeFrom (xs:List Item):List Item→Nat→Bool
  | [],_=>true
  | x :: r,i=>stepOk xs i x && treeFrom xs r (i+1)
def treeOk (xs:List Item):Bool:=decide (xs.length≤40) && treeFrom xs xs 0
theorem treeFrom_drop (xs:List Item) (k:Nat) (hk:k<xs.length):treeFrom xs (xs.drop k) k=(stepOk xs k xs[k] && treeFrom xs (xs.drop (k+1)) (k+1)):=by
  rw [List.drop_eq_getElem_cons hk]; rfl
theorem stepOk_pos (xs:List Item) (x:Item) (k:Nat) (h0:0<k) (hk:k - 1<xs.length):stepOk xs k x=(itemOk x && Op.bytesLess xs[k - 1].path x.path && ((treeGet xs (above x.path)).2 && decide ((treeGet xs (above x.path)).1.kind=2))):=by
  obtain ⟨j,rfl⟩:∃ j,k=j+1:=⟨k - 1,by omega⟩
  simp only [Nat.add_sub_cancel] at hk
  simp [stepOk,hk]
theorem stepOk_zero (xs:List Item) (x:Item):stepOk xs 0 x=(itemOk x && ((treeGet xs (above x.path)).2 && decide ((treeGet xs (above x.path)).1.kind=2))):=by
  simp [stepOk]
section
variable (xs:List Item) (a:Option Addr) (F:List Nat) (w:Bool) (h:Hp) (hx:slR w 33 itemE h xs a F) (hl:xs.length+sumL Item.nl xs≤1048576)
include hx hl
set_option maxHeartbeats 2000000 in
theorem treeOk_impl_c:ACall Tryz.prog 17 [.agg #[.slice a xs.length xs.length]] h fun r h'=>(∃ t,h'=h++t)∧r=.bool (treeOk xs):=by
  refine acall mixed Tryz.func17 rfl (by kernel_rfl) ?_
  simp [Tryz.f17]
  refine aSI (fun hb=>?_) (fun hb=>?_) <;> (have hb':=hb; simp at hb; simp [hb,hb'])
  · have:¬ xs.length≤40:=by omega
    simp [treeOk,this]
  have h40:xs.length≤40:=by omega
  have hroot:treeFrom xs xs 0=treeOk xs:=by simp [treeOk,h40]
  refine aloop mixed [1,12,13,14] (fun (x:Nat × Hp)=>[.pointer (some ⟨h.length,0,none⟩),.slice a xs.length xs.length,.int .i64 xs.length,.int .i64 x.1]) (fun x=>h++⟨true,true,26,[.slice a xs.length xs.length]⟩ :: x.2) (fun x=>x.1≤xs.length∧treeFrom xs (xs.drop x.1) x.1=treeOk xs) (fun x=>xs.length - x.1) (0,[]) ⟨by simp,by simpa using hroot⟩ (by simp [pickF]) (by simp) ?_
  rintro ⟨k,t⟩ ⟨hk,he⟩
  simp only at hk he
  simp [mkF]
  refine aSI (fun hb=>?_) (fun hb=>?_) <;> simp at hb <;> simp [hb]
  rotate_left
  · obtain rfl:k=xs.length:=by omega
    rw [List.drop_length] at he
    simpa [treeFrom] using he
  have hnl:xs[k].path.length≤1048576:=by
    have:=sumL_mem Item.nl (List.getElem_mem hb)
    have h2:xs[k].nl=xs[k].path.length+xs[k].data.length:=rfl
    omega
  obtain ⟨o,off,rfl,c0,c1,c2,c3⟩:=itemAt (hx.ext (Ext.push h (⟨true,true,26,[.slice a xs.length xs.length]⟩ :: t))) hb
  rw [treeFrom_drop xs k hb] at he
  simp [hb,c0,c1,c2,c3]
  refine drawK false (by kernel_rfl) ?_
  simp
  have hio:=itemOk_c xs[k] (h++⟨true,true,26,[.slice (some ⟨o,off,none⟩) xs.length xs.length]⟩ :: (t++[⟨true,true,33,[.string (S xs[k].path),.int .i64 xs[k].kind,.string (S xs[k].data),.int .i64 xs[k].time]⟩])) hnl
  simp only [Item.v] at hio
  refine cK hio ?_
  rintro _ _ ⟨⟨t1,rfl⟩,rfl⟩
  cases e1:itemOk xs[k]
  · have:stepOk xs k xs[k]=false:=by simp [stepOk,e1]
    rw [this] at he
    simp at he
    simp [he]
  simp
  have hlx:xs.length≤1048576:=by omega
  by_cases hk0:k=0
  · subst hk0
    have hstep:stepOk xs 0 xs[0]=((treeGet xs (above xs[0].path)).2 && decide ((treeGet xs (above xs[0].path)).1.kind=2)):=by rw [stepOk_zero,e1]; rfl
    simp
    refine drawS true 8 [0,1,2,3,4,5,6,7] [9,10] (by simp; rfl) (by simp; rfl) (by simp; rfl) (by kernel_rfl) ?_
    simp
    refine callK (above_impl_c xs[0].path _ hnl) ?_
    rintro _ _ ⟨⟨t2,rfl⟩,rfl⟩
    refine ⟨fun _=>Ext.push _ _,?_⟩
    simp
    refine callK (treeGet_impl_c xs (above xs[0].path) _ F w _ _ (hx.to (by simp)) hlx) ?_
    rintro _ _ ⟨⟨t3,rfl⟩,rfl⟩
    refine ⟨fun _=>Ext.push _ _,?_⟩
    simp [Item.v]
    cases e3:(treeGet xs (above xs[0].path)).2
    · rw [hstep,e3] at he
      simp at he
      simp [he]
    simp
    refine aSI (fun hd=>?_) (fun hd=>?_) <;> (have hd':=hd; simp at hd; simp [hd,hd'])
    · rw [hstep,e3] at he
      simp [hd] at he
      simp [he]
    · rw [hstep,e3] at he
      simp [hd] at he
      exact anext (0+1,t++⟨true,true,33,[.string (S xs[0].path),.int .i64 xs[0].kind,.string (S xs[0].data),.int .i64 xs[0].time]⟩ :: (t1++(t2++(t3++[⟨true,true,33,[.string (S (treeGet xs (above xs[0].path)).1.path),.int .i64 (treeGet xs (above xs[0].path)).1.kind,.string (S (treeGet xs (above xs[0].path)).1.data),.int .i64 (treeGet xs (above xs[0].path)).1.time]⟩])))) ⟨hb,by simpa using he⟩ (by simp only; omega) (by simp [pickF,(by decide:IntKind.i64.wrap 1=1)]) (by simp [hd]) (by simp)
  · have hk1:k - 1<xs.length:=by omega
    have wk:IntKind.i64.wrap ((k:Int) - 1)=((k - 1:Nat):Int):=by rw [wrap_in (by omega) (by omega)]; omega
    obtain ⟨o',off',ea,d0,-⟩:=itemAt (hx.ext (Ext.push h (⟨true,true,26,[.slice (some ⟨o,off,none⟩) xs.length xs.length]⟩ :: (t++⟨true,true,33,[.string (S xs[k].path),.int .i64 xs[k].kind,.string (S xs[k].data),.int .i64 xs[k].time]⟩ :: t1)))) hk1
    cases ea
    have hkp:0<k:=by omega
    cases hle:Op.bytesLess xs[k - 1].path xs[k].path
    · have hf:stepOk xs k xs[k]=false:=by rw [stepOk_pos xs xs[k] k hkp hk1,hle]; simp
      rw [hf] at he
      simp at he
      simp [hkp,wk,hk1,d0,hle,he]
    have hstep:stepOk xs k xs[k]=((treeGet xs (above xs[k].path)).2 && decide ((treeGet xs (above xs[k].path)).1.kind=2)):=by rw [stepOk_pos xs xs[k] k hkp hk1,hle,e1]; rfl
    simp [hkp,wk,hk1,d0,hle]
    refine drawS true 8 [0,1,2,3,4,5,6,7] [9,10] (by simp; rfl) (by simp; rfl) (by simp; rfl) (by kernel_rfl) ?_
    simp
    refine callK (above_impl_c xs[k].path _ hnl) ?_
    rintro _ _ ⟨⟨t2,rfl⟩,rfl⟩
    refine ⟨fun _=>Ext.push _ _,?_⟩
    simp
    refine callK (treeGet_impl_c xs (above xs[k].path) _ F w _ _ (hx.to (by simp)) hlx) ?_
    rintro _ _ ⟨⟨t3,rfl⟩,rfl⟩
    refine ⟨fun _=>Ext.push _ _,?_⟩
    simp [Item.v]
    cases e3:(treeGet xs (above xs[k].path)).2
    · rw [hstep,e3] at he
      simp at he
      simp [he]
    simp
    refine aSI (fun hd=>?_) (fun hd=>?_) <;> (have hd':=hd; simp at hd; simp [hd,hd'])
    · rw [hstep,e3] at he
      simp [hd] at he
      simp [he]
    · rw [hstep,e3] at he
      simp [hd] at he
      exact anext (k+1,t++⟨true,true,33,[.string (S xs[k].path),.int .i64 xs[k].kind,.string (S xs[k].data),.int .i64 xs[k].time]⟩ :: (t1++(t2++(t3++[⟨true,true,33,[.string (S (treeGet xs (above xs[k].path)).1.path),.int .i64 (treeGet xs (above xs[k].path)).1.kind,.string (S (treeGet xs (above xs[k].path)).1.data),.int .i64 (treeGet xs (above xs[k].path)).1.time]⟩])))) ⟨hb,by simpa using he⟩ (by simp only; omega) (by simp [pickF,wS (show k<9223372036854775807 by omega)]) (by simp [hd]) (by simp)
end
section
variable (xs:List Item) (a:Option Addr) (F:List Nat) (w:Bool) (h:Hp) (hx:slR w 33 itemE h xs a F) (hl:xs.length+sumL Item.nl xs≤1048576)
include hx hl
set_option maxHeartbeats 4000000 in
theorem treeOk_spec_c:ACall Tryz.prog 20 [.agg #[.slice a xs.length xs.length]] h fun r h'=>(∃ t,h'=h++t)∧r=.bool (treeOk xs):=by
  refine acall mixed Tryz.func20 rfl (by kernel_rfl) ?_
  simp [Tryz.f20]
  refine aSI (fun hb=>?_) (fun hb=>?_) <;> (have hb':=hb; simp at hb; simp [hb,hb'])
  · have:¬ xs.length≤40:=by omega
    simp [treeOk,this]
  have h40:xs.length≤40:=by omega
  have hroot:treeFrom xs xs 0=treeOk xs:=by simp [treeOk,h40]
  refine aloop mixed [1,3] (fun (x:Nat × Hp)=>[.pointer (some ⟨h.length,0,none⟩),.int .i64 x.1]) (fun x=>h++⟨true,true,26,[.slice a xs.length xs.length]⟩ :: x.2) (fun x=>x.1≤xs.length∧treeFrom xs (xs.drop x.1) x.1=treeOk xs) (fun x=>xs.length - x.1) (0,[]) ⟨by simp,by simpa using hroot⟩ (by simp [pickF]) (by simp) ?_
  rintro ⟨k,t⟩ ⟨hk,he⟩
  simp only at hk he
  simp [mkF]
  refine aSI (fun hb=>?_) (fun hb=>?_) <;> simp at hb <;> simp [hb]
  rotate_left
  · obtain rfl:k=xs.length:=by omega
    rw [List.drop_length] at he
    simpa [treeFrom] using he
  have hnl:xs[k].path.length≤1048576:=by
    have:=sumL_mem Item.nl (List.getElem_mem hb)
    have h2:xs[k].nl=xs[k].path.length+xs[k].data.length:=rfl
    omega
  obtain ⟨o,off,rfl,c0,c1,c2,c3⟩:=itemAt (hx.ext (Ext.push h (⟨true,true,26,[.slice a xs.length xs.length]⟩ :: t))) hb
  rw [treeFrom_drop xs k hb] at he
  simp [hb,c0,c1,c2,c3]
  have hlx:xs.length≤1048576:=by omega
  have bad:stepOk xs k xs[k]=false→treeOk xs=false:=fun hf=>by rw [hf] at he; simpa using he.symm
  have goodGet:∀ b,(stepOk xs k xs[k]=b)→(itemOk xs[k]=true)→True:=fun _ _ _=>trivial
  refine drawK false (by kernel_rfl) ?_
  simp
  refine cK (pathOk_spec_c xs[k].path _ hnl) ?_
  rintro _ _ ⟨⟨t1,rfl⟩,rfl⟩
  cases e1:pathOk xs[k].path
  · have hf:=bad (by simp [stepOk,itemOk,e1])
    simp [hf]
  simp
  by_cases e2:xs[k].path=[47]
  · have hf:=bad (by simp [stepOk,itemOk,e2])
    simp [e2,hf]
  have e2':(xs[k].path == [47])=false:=by simpa using e2
  simp [e2']
  rcases Nat.eq_zero_or_pos k with hk0 | hkp
  · subst hk0
    simp
    refine cK (l1InR xs[0].kind 1 3 _) ?_
    rintro _ H ⟨rfl,rfl⟩
    cases e3:inR xs[0].kind 1 3
    · have hf:=bad (by simp [stepOk,itemOk,e3])
      simp [hf]
    simp
    by_cases e4:xs[0].data.length≤80
    rotate_left
    · have hf:=bad (by
        have hne:¬ xs[0].data=[]:=fun h0=>e4 (by rw [h0]; simp)
        by_cases h2:xs[0].kind=2 <;> simp [stepOk,itemOk,e4,h2,hne])
      have e4':(80:Int)<xs[0].data.length:=by omega
      simp [e4',hf]
    have e4':¬ (80:Int)<xs[0].data.length:=by omega
    simp [e4']
    refine cK (l1InR xs[0].time 0 100000 _) ?_
    rintro _ H ⟨rfl,rfl⟩
    cases e5:inR xs[0].time 0 100000
    · have hf:=bad (by
        have hne:¬ xs[0].time=0:=fun h0=>by rw [h0] at e5; revert e5; decide
        by_cases h2:xs[0].kind=2 <;> simp [stepOk,itemOk,e5,h2,hne])
      simp [hf]
    simp
    have get:itemOk xs[0]=true→stepOk xs 0 xs[0]=((treeGet xs (above xs[0].path)).2 && decide ((treeGet xs (above xs[0].path)).1.kind=2)):=fun hi=>by rw [stepOk_zero,hi]; rfl
    have fin:∀ {t':Hp},itemOk xs[0]=true→True:=fun _=>trivial
    by_cases h2:xs[0].kind=2
    · by_cases h3:xs[0].data=[]
      rotate_left
      · have hf:=bad (by simp [stepOk,itemOk,h2,h3])
        have h3':(xs[0].data == [])=false:=by simpa using h3
        simp [h2,h3',hf]
      by_cases h4:xs[0].time=0
      rotate_left
      · have hf:=bad (by simp [stepOk,itemOk,h2,h4])
        have h4':(xs[0].time != 0)=true:=by simpa using h4
        simp [h2,h3,h4',hf]
      have hi:itemOk xs[0]=true:=by simp [itemOk,e1,e2,e3,h2,h3,h4]; decide
      simp [h2,h3,h4]
      refine drawS true 8 [0,1,2,3,4,5,6,7] [9,10] (by simp; rfl) (by simp; rfl) (by simp; rfl) (by kernel_rfl) ?_
      simp
      refine callK (above_spec_c xs[0].path _ hnl) ?_
      rintro _ _ ⟨⟨t2,rfl⟩,rfl⟩
      refine ⟨fun _=>Ext.push _ _,?_⟩
      simp
      refine callK (treeGet_spec_c xs (above xs[0].path) _ F w _ _ (hx.to (by simp)) hlx) ?_
      rintro _ _ ⟨⟨t3,rfl⟩,rfl⟩
      refine ⟨fun _=>Ext.push _ _,?_⟩
      simp [Item.v]
      cases g3:(treeGet xs (above xs[0].path)).2
      · have hf:=bad (by rw [get hi,g3]; rfl)
        simp [hf]
      simp
      by_cases g4:(treeGet xs (above xs[0].path)).1.kind=2
      · have g4':((treeGet xs (above xs[0].path)).1.kind != 2)=false:=by simpa using g4
        rw [get hi,g3] at he
        simp [g4] at he
        simp [g4]
        exact anext (0+1,t++⟨true,true,33,[.string (S xs[0].path),.int .i64 xs[0].kind,.string (S xs[0].data),.int .i64 xs[0].time]⟩ :: (t1++(t2++(t3++[⟨true,true,33,[.string (S (treeGet xs (above xs[0].path)).1.path),.int .i64 (treeGet xs (above xs[0].path)).1.kind,.string (S (treeGet xs (above xs[0].path)).1.data),.int .i64 (treeGet xs (above xs[0].path)).1.time]⟩])))) ⟨hb,by simpa using he⟩ (by simp only; omega) (by simp [pickF,(by decide:IntKind.i64.wrap 1=1)]) (by simp [h2,h3,h4,g4]) (by simp)
      · have g4':((treeGet xs (above xs[0].path)).1.kind != 2)=true:=by simpa using g4
        have hf:=bad (by rw [get hi,g3]; simp [g4])
        simp [g4',hf]
    · have hi:itemOk xs[0]=true:=by simp [itemOk,e1,e2,e3,h2,e4,e5]
      have h2':(xs[0].kind == 2)=false:=by simpa using h2
      simp [h2']
      refine drawS true 8 [0,1,2,3,4,5,6,7] [9,10] (by simp; rfl) (by simp; rfl) (by simp; rfl) (by kernel_rfl) ?_
      simp
      refine callK (above_spec_c xs[0].path _ hnl) ?_
      rintro _ _ ⟨⟨t2,rfl⟩,rfl⟩
      refine ⟨fun _=>Ext.push _ _,?_⟩
      simp
      refine callK (treeGet_spec_c xs (above xs[0].path) _ F w _ _ (hx.to (by simp)) hlx) ?_
      rintro _ _ ⟨⟨t3,rfl⟩,rfl⟩
      refine ⟨fun _=>Ext.push _ _,?_⟩
      simp [Item.v]
      cases g3:(treeGet xs (above xs[0].path)).2
      · have hf:=bad (by rw [get hi,g3]; rfl)
        simp [hf]
      simp
      by_cases g4:(treeGet xs (above xs[0].path)).1.kind=2
      · have g4':((treeGet xs (above xs[0].path)).1.kind != 2)=false:=by simpa using g4
        rw [get hi,g3] at he
        simp [g4] at he
        simp [g4]
        exact anext (0+1,t++⟨true,true,33,[.string (S xs[0].path),.int .i64 xs[0].kind,.string (S xs[0].data),.int .i64 xs[0].time]⟩ :: (t1++(t2++(t3++[⟨true,true,33,[.string (S (treeGet xs (above xs[0].path)).1.path),.int .i64 (treeGet xs (above xs[0].path)).1.kind,.string (S (treeGet xs (above xs[0].path)).1.data),.int .i64 (treeGet xs (above xs[0].path)).1.time]⟩])))) ⟨hb,by simpa using he⟩ (by simp only; omega) (by simp [pickF,(by decide:IntKind.i64.wrap 1=1)]) (by simp [g4]) (by simp)
      · have g4':((treeGet xs (above xs[0].path)).1.kind != 2)=true:=by simpa using g4
        have hf:=bad (by rw [get hi,g3]; simp [g4])
        simp [g4',hf]
  · have hk1:k - 1<xs.length:=by omega
    have wk:IntKind.i64.wrap ((k:Int) - 1)=((k - 1:Nat):Int):=by rw [wrap_in (by omega) (by omega)]; omega
    obtain ⟨o',off',ea,d0,-⟩:=itemAt (hx.ext (Ext.push h (⟨true,true,26,[.slice (some ⟨o,off,none⟩) xs.length xs.length]⟩ :: (t++⟨true,true,33,[.string (S xs[k].path),.int .i64 xs[k].kind,.string (S xs[k].data),.int .i64 xs[k].time]⟩ :: t1)))) hk1
    cases ea
    have hlt:(Op.bytesLess xs[k].path xs[k - 1].path || xs[k].path == xs[k - 1].path)=!Op.bytesLess xs[k - 1].path xs[k].path:=(less_total xs[k - 1].path xs[k].path).symm
    cases hle:Op.bytesLess xs[k - 1].path xs[k].path
    · have hf:=bad (by rw [stepOk_pos xs xs[k] k hkp hk1,hle]; simp)
      rw [hle] at hlt
      simp [hkp,wk,hk1,d0,hlt,hf]
    rw [hle] at hlt
    simp [hkp,wk,hk1,d0,hlt]
    refine cK (l1InR xs[k].kind 1 3 _) ?_
    rintro _ H ⟨rfl,rfl⟩
    cases e3:inR xs[k].kind 1 3
    · have hf:=bad (by simp [stepOk,itemOk,e3])
      simp [hf]
    simp
    by_cases e4:xs[k].data.length≤80
    rotate_left
    · have hf:=bad (by
        have hne:¬ xs[k].data=[]:=fun h0=>e4 (by rw [h0]; simp)
        by_cases h2:xs[k].kind=2 <;> simp [stepOk,itemOk,e4,h2,hne])
      have e4':(80:Int)<xs[k].data.length:=by omega
      simp [e4',hf]
    have e4':¬ (80:Int)<xs[k].data.length:=by omega
    simp [e4']
    refine cK (l1InR xs[k].time 0 100000 _) ?_
    rintro _ H ⟨rfl,rfl⟩
    cases e5:inR xs[k].time 0 100000
    · have hf:=bad (by
        have hne:¬ xs[k].time=0:=fun h0=>by rw [h0] at e5; revert e5; decide
        by_cases h2:xs[k].kind=2 <;> simp [stepOk,itemOk,e5,h2,hne])
      simp [hf]
    simp
    have get:itemOk xs[k]=true→stepOk xs k xs[k]=((treeGet xs (above xs[k].path)).2 && decide ((treeGet xs (above xs[k].path)).1.kind=2)):=fun hi=>by rw [stepOk_pos xs xs[k] k hkp hk1,hle,hi]; rfl
    have fin:∀ {t':Hp},itemOk xs[k]=true→True:=fun _=>trivial
    by_cases h2:xs[k].kind=2
    · by_cases h3:xs[k].data=[]
      rotate_left
      · have hf:=bad (by simp [stepOk,itemOk,h2,h3])
        have h3':(xs[k].data == [])=false:=by simpa using h3
        simp [h2,h3',hf]
      by_cases h4:xs[k].time=0
      rotate_left
      · have hf:=bad (by simp [stepOk,itemOk,h2,h4])
        have h4':(xs[k].time != 0)=true:=by simpa using h4
        simp [h2,h3,h4',hf]
      have hi:itemOk xs[k]=true:=by simp [itemOk,e1,e2,e3,h2,h3,h4]; decide
      simp [h2,h3,h4]
      refine drawS true 8 [0,1,2,3,4,5,6,7] [9,10] (by simp; rfl) (by simp; rfl) (by simp; rfl) (by kernel_rfl) ?_
      simp
      refine callK (above_spec_c xs[k].path _ hnl) ?_
      rintro _ _ ⟨⟨t2,rfl⟩,rfl⟩
      refine ⟨fun _=>Ext.push _ _,?_⟩
      simp
      refine callK (treeGet_spec_c xs (above xs[k].path) _ F w _ _ (hx.to (by simp)) hlx) ?_
      rintro _ _ ⟨⟨t3,rfl⟩,rfl⟩
      refine ⟨fun _=>Ext.push _ _,?_⟩
      simp [Item.v]
      cases g3:(treeGet xs (above xs[k].path)).2
      · have hf:=bad (by rw [get hi,g3]; rfl)
        simp [hf]
      simp
      by_cases g4:(treeGet xs (above xs[k].path)).1.kind=2
      · have g4':((treeGet xs (above xs[k].path)).1.kind != 2)=false:=by simpa using g4
        rw [get hi,g3] at he
        simp [g4] at he
        simp [g4]
        exact anext (k+1,t++⟨true,true,33,[.string (S xs[k].path),.int .i64 xs[k].kind,.string (S xs[k].data),.int .i64 xs[k].time]⟩ :: (t1++(t2++(t3++[⟨true,true,33,[.string (S (treeGet xs (above xs[k].path)).1.path),.int .i64 (treeGet xs (above xs[k].path)).1.kind,.string (S (treeGet xs (above xs[k].path)).1.data),.int .i64 (treeGet xs (above xs[k].path)).1.time]⟩])))) ⟨hb,by simpa using he⟩ (by simp only; omega) (by simp [pickF,wS (show k<9223372036854775807 by omega)]) (by simp [h2,h3,h4,g4]) (by simp)
      · have g4':((treeGet xs (above xs[k].path)).1.kind != 2)=true:=by simpa using g4
        have hf:=bad (by rw [get hi,g3]; simp [g4])
        simp [g4',hf]
    · have hi:itemOk xs[k]=true:=by simp [itemOk,e1,e2,e3,h2,e4,e5]
      have h2':(xs[k].kind == 2)=false:=by simpa using h2
      simp [h2']
      refine drawS true 8 [0,1,2,3,4,5,6,7] [9,10] (by simp; rfl) (by simp; rfl) (by simp; rfl) (by kernel_rfl) ?_
      simp
      refine callK (above_spec_c xs[k].path _ hnl) ?_
      rintro _ _ ⟨⟨t2,rfl⟩,rfl⟩
      refine ⟨fun _=>Ext.push _ _,?_⟩
      simp
      refine callK (treeGet_spec_c xs (above xs[k].path) _ F w _ _ (hx.to (by simp)) hlx) ?_
      rintro _ _ ⟨⟨t3,rfl⟩,rfl⟩
      refine ⟨fun _=>Ext.push _ _,?_⟩
      simp [Item.v]
      cases g3:(treeGet xs (above xs[k].path)).2
      · have hf:=bad (by rw [get hi,g3]; rfl)
        simp [hf]
      simp
      by_cases g4:(treeGet xs (above xs[k].path)).1.kind=2
      · have g4':((treeGet xs (above xs[k].path)).1.kind != 2)=false:=by simpa using g4
        rw [get hi,g3] at he
        simp [g4] at he
        simp [g4]
        exact anext (k+1,t++⟨true,true,33,[.string (S xs[k].path),.int .i64 xs[k].kind,.string (S xs[k].data),.int .i64 xs[k].time]⟩ :: (t1++(t2++(t3++[⟨true,true,33,[.string (S (treeGet xs (above xs[k].path)).1.path),.int .i64 (treeGet xs (above xs[k].path)).1.kind,.string (S (treeGet xs (above xs[k].path)).1.data),.int .i64 (treeGet xs (above xs[k].path)).1.time]⟩])))) ⟨hb,by simpa using he⟩ (by simp only; omega) (by simp [pickF,wS (show k<9223372036854775807 by omega)]) (by simp [g4]) (by simp)
      · have g4':((treeGet xs (above xs[k].path)).1.kind != 2)=true:=by simpa using g4
        have hf:=bad (by rw [get hi,g3]; simp [g4])
        simp [g4',hf]
end
end Go.Proofs.YtmpgpkdijfcfhaaGreatDoor.Hz
