/- Texts of the calculus and of the program's functions, merged: ND0 LW WP WB WX WS WL. -/
import Derived.Test.YtmpgpkdijfcfhaaHyGH
import Derived.Test.YtmpgpkdijfcfhaaHyGC
import Derived.Test.YtmpgpkdijfcfhaaHyGE
/- NodeDrop: both programs. -/
namespace Go.Proofs.Ytmpgpkdijfcfhaa.Hz
open Go.RowKit
set_option linter.unusedVariables false
set_option linter.unusedSimpArgs false
set_option maxRecDepth 20000
def dropData (d:List Str) (bs:List Int):List Str:=bs.foldl (fun d b=>d.set b.toNat []) d
theorem cellE {h H:Hp} (e:Ext h H) {o i:Nat} {v:Value} (c:cellAt h o i=some v):cellAt H o i=some v:=by
  rw [cellAt_ext e (by obtain ⟨ob,ho,_⟩:=cellAt_some c; exact get_lt ho),c]
end Go.Proofs.Ytmpgpkdijfcfhaa.Hz
/- Slices on the plain heap may be told with less room than they have: a loop whose rounds end so. -/
namespace Go.Proofs.Ytmpgpkdijfcfhaa.Hz
open Go.RowKit
set_option linter.unusedVariables false
set_option linter.unusedSimpArgs false
def WkV (v v':Value):Prop:=v'=v∨∃ a n c c',v=.slice (some a) n c∧v'=.slice (some a) n c'∧c'≤c
theorem WkV.rel {φ:Inj} {v v' u:Value} (k:WkV v v') (r:RelC φ v u):RelC φ v' u:=by
  rcases k with rfl | ⟨a,n,c,c',rfl,rfl,hc⟩
  · exact r
  · obtain ⟨p,c2,a',e,sp,h1,h2,h3⟩:=r
    exact ⟨p,c2,a',e,sp,Nat.le_trans hc h1,h2,h3⟩
theorem WkV.ok {v v':Value} (k:WkV v v'):okCell v'=okCell v:=by
  rcases k with rfl | ⟨a,n,c,c',rfl,rfl,hc⟩ <;> rfl
def WkOb (ob ob':Ob):Prop:=ob'.live=ob.live∧ob'.rw=ob.rw∧ob'.elem=ob.elem∧All2 WkV ob.cells ob'.cells
def WkH (h h':Hp):Prop:=All2 WkOb h h'
theorem wkV_list:∀ (l:List Value),All2 WkV l l
  | []=>trivial
  | _ :: l=>⟨.inl rfl,wkV_list l⟩
theorem WkOb.refl (ob:Ob):WkOb ob ob:=⟨rfl,rfl,rfl,wkV_list _⟩
theorem WkH.refl:∀ (h:Hp),WkH h h
  | []=>trivial
  | ob :: h=>⟨WkOb.refl ob,WkH.refl h⟩
theorem all2_back_get {α β:Type} {R:α→β→Prop}:∀ {ls:List α} {bs:List β} (_:All2 R ls bs) (i:Nat) (b:β),bs[i]?=some b→∃ a,ls[i]?=some a∧R a b
  | [],[],_,_,_,e=>by simp at e
  | a :: _,_ :: _,h,0,b,e=>by simp at e; subst e; exact ⟨a,rfl,h.1⟩
  | _ :: _,_ :: _,h,i+1,b,e=>by simpa using all2_back_get h.2 i b (by simpa using e)
  | [],_ :: _,h,_,_,_=>h.elim
  | _ :: _,[],h,_,_,_=>h.elim
theorem wk_all {l l':List Value} (k:All2 WkV l l') (h:l.all okCell=true):l'.all okCell=true:=by
  rw [List.all_eq_true] at h ⊢
  intro v hv
  obtain ⟨i,hi,e⟩:=List.getElem_of_mem hv
  obtain ⟨u,hu,hw⟩:=all2_back_get k i v (by rw [List.getElem?_eq_getElem hi,e])
  rw [hw.ok]
  exact h u (List.mem_of_getElem? hu)
section
variable {P:Program} {B:Bd} {w0 w:World} {φ:Inj} {h h':Hp}
theorem Rel.wk (R:Rel P B w0 φ h w) (k:WkH h h'):Rel P B w0 φ h' w:=by
  have hl:h.length=h'.length:=All2.length k
  refine ⟨R.below,R.base,R.len.trans hl,fun o ob' p ho hp=>?_,fun o ob' p ho hp hlv=>?_,fun o o' ob1 ob2 p1 p2 ho ho' hp hp' l1 l2 r1 r2 hne=>?_⟩
  · obtain ⟨ob,g,_,_,ge,_⟩:=all2_back_get k o ob' ho
    rw [ge]
    exact R.esz o ob p g hp
  · obtain ⟨ob,g,gl,gr,ge,gc⟩:=all2_back_get k o ob' ho
    have r:=R.obj o ob p g hp (by rw [← gl]; exact hlv)
    have hlen:=All2.length gc
    refine ⟨by rw [gr]; exact r.rw,wk_all gc r.ok,fun j v' hj=>?_,fun hrw=>?_,fun hrw=>?_,fun hrw=>by rw [ge]; exact r.mark (by rw [← gr]; exact hrw)⟩
    · obtain ⟨v,hv,hw⟩:=all2_back_get gc j v' hj
      obtain ⟨u,k1,k2⟩:=r.cell j v hv
      exact ⟨u,k1,hw.rel k2⟩
    · have:=r.own (by rw [← gr]; exact hrw)
      rw [hlen,← ge] at this
      exact this
    · rcases r.arg (by rw [← gr]; exact hrw) with h | h
      · exact .inl h
      · right
        rw [h] at hlen
        exact List.eq_nil_of_length_eq_zero hlen.symm
  · obtain ⟨oa,g1,gl1,gr1,_⟩:=all2_back_get k o ob1 ho
    obtain ⟨ob,g2,gl2,gr2,_⟩:=all2_back_get k o' ob2 ho'
    exact R.apart o o' oa ob p1 p2 g1 g2 hp hp' (by rw [← gl1]; exact l1) (by rw [← gl2]; exact l2) (by rw [← gr1]; exact r1) (by rw [← gr2]; exact r2) hne
theorem wk_set:∀ (l:List Value) (i:Nat) {v v':Value},WkV v v'→All2 WkV (l.set i v) (l.set i v')
  | [],_,_,_,_=>trivial
  | _ :: l,0,_,_,k=>⟨k,wkV_list l⟩
  | _ :: l,i+1,_,_,k=>⟨.inl rfl,wk_set l i k⟩
theorem wk_modify (g g':Ob→Ob) (hg:∀ ob,WkOb (g ob) (g' ob)):∀ (h:Hp) (o:Nat),WkH (h.modify o g) (h.modify o g')
  | [],o=>by simp; exact trivial
  | ob :: h,0=>⟨hg ob,WkH.refl h⟩
  | ob :: h,o+1=>⟨WkOb.refl ob,wk_modify g g' hg h o⟩
theorem WkH.set (h:Hp) (o i:Nat) {v v':Value} (k:WkV v v'):WkH (setsAt h o i [v]) (setsAt h o i [v']) :=
  wk_modify (fun ob=>{ ob with cells:=ob.cells.set i v }) (fun ob=>{ ob with cells:=ob.cells.set i v' }) (fun ob=>⟨rfl,rfl,rfl,wk_set ob.cells i k⟩) h o
end
end Go.Proofs.Ytmpgpkdijfcfhaa.Hz
/- NodeWrite: what it gives. No program in sight. -/
namespace Go.Proofs.Ytmpgpkdijfcfhaa.Hz
open Go.RowKit
set_option linter.unusedVariables false
set_option linter.unusedSimpArgs false
set_option maxRecDepth 20000
def fillF (fr:Int→Bool) (need:Nat):List Int→List Int→List Int
  | [],bs=>bs
  | b :: cs,bs=>if bs.length<need then fillF fr need cs (if fr b then bs++[b] else bs) else bs
def idxs (n:Nat):List Int:=(List.range n).map fun (k:Nat)=>(k:Int)
def chunk (data:Str) (k:Nat):Str:=(data.take (min data.length (16 * (k+1)))).drop (16 * k)
def putChunks (data:Str):List Int→Nat→List Str→List Str
  | [],_,d=>d
  | b :: bs,k,d=>putChunks data bs (k+1) (d.set b.toNat (chunk data k))
def needOf (data:Str):Nat:=(blocksFor data.length).toNat
def freeB (f:Fs) (b:Int):Bool:=decide (b ∉ held f.nodes)
def writeBlocks (f:Fs) (i:Int) (data:Str):List Int:=fillF (freeB f) (needOf data) (idxs f.data.length) ((nodeAtI f i).blocks.take (needOf data))
def written (f:Fs) (i:Int) (data:Str):Fs :=
  ⟨f.nodes.set i.toNat { nodeAtI f i with size:=data.length,blocks:=writeBlocks f i data },putChunks data (writeBlocks f i data) 0 (dropData f.data ((nodeAtI f i).blocks.drop (needOf data)))⟩
end Go.Proofs.Ytmpgpkdijfcfhaa.Hz
/- An image that is copied and turned: a node's blocks are replaced. -/
namespace Go.Proofs.Ytmpgpkdijfcfhaa.Hz
open Go.RowKit
set_option linter.unusedVariables false
set_option linter.unusedSimpArgs false
set_option maxRecDepth 20000
section
variable {α:Type} {A:Enc α} {h0 h:Hp} {e:TypeId} {xs:List α} {F:List Nat} {o off:Nat}
theorem Own.swap (k:Own h0 e A h xs (some ⟨o,off,none⟩) F) {i:Nat} {x:α} (hx:xs[i]?=some x) :
    ∃ c Fi,A.R h x c Fi∧Fi.Nodup∧(∀ q∈Fi,q∈F∧q≠o)∧o∈F∧(∀ j,j<A.n→cellAt h o (off+i * A.n+j)=c[j]?) ∧
      ∀ (H':Hp) (j:Nat) (vs:List Value) (x':α) (Fi':List Nat),Ext h0 H'→(∀ q∈F,q ∉ Fi→H'[q]?=h[q]?)→j+vs.length≤A.n→A.R H' x' (setL c j vs) Fi'→o ∉ Fi'→Fi'.Nodup→(∀ q∈Fi',h0.length≤q∧(q∈F→q∈Fi)) →
        canSet H' o (off+i * A.n+j) vs.length=true∧∃ F',Own h0 e A (setsAt H' o (off+i * A.n+j) vs) (xs.set i x') (some ⟨o,off,none⟩) F'∧∀ q∈F',q∈F∨q∈Fi':=by
  obtain ⟨e0,⟨_,ob,css,Fs,pre,post,g1,g2,g3,g4,rfl,g5,g6,g7⟩,nd,new⟩:=k
  simp only at g1 g7
  obtain ⟨c1,c,c2,F1,Fi,F2,rfl,rfl,s1,s2,s3,s4⟩:=g5.split i x hx
  have nd0:=nd
  rw [List.nodup_cons] at nd
  have hlen:=A.len s3
  have hfl:(F1++Fi :: F2).flatten=F1.flatten++(Fi++F2.flatten):=by simp
  rw [hfl] at nd
  have n1:=List.nodup_append.1 nd.2
  have n2:=List.nodup_append.1 n1.2.1
  have nr:∀ q,q∈F1.flatten∨q∈F2.flatten→q≠o:=by
    intro q hq hh
    apply nd.1
    rw [← hh]
    rcases hq with hq | hq <;> simp [hq]
  have nf:∀ q,q∈F1.flatten∨q∈F2.flatten→q ∉ Fi:=by
    intro q hq hm
    rcases hq with hq | hq
    · exact n1.2.2 q hq q (by simp [hm]) rfl
    · exact n2.2.2 q hm q hq rfl
  have inF:∀ q,q∈F1.flatten∨q∈F2.flatten→q∈o :: (F1++Fi :: F2).flatten:=by
    intro q hq
    rw [hfl]
    rcases hq with hq | hq <;> simp [hq]
  have hoFi:o ∉ Fi:=fun hm=>nd.1 (by simp [hm])
  refine ⟨c,Fi,s3,n2.1,fun q hq=>⟨by rw [hfl]; simp [hq],fun hh=>nd.1 (by rw [← hh]; simp [hq])⟩,List.mem_cons_self,?_,?_⟩
  · intro j hj
    unfold cellAt
    rw [g1]
    simp only [g2,if_true]
    rw [g6]
    simp only [List.flatten_append,List.flatten_cons,List.append_assoc]
    rw [List.getElem?_append_right (by omega),List.getElem?_append_right (by omega),List.getElem?_append_left (by omega)]
    congr 1
    omega
  · intro H' j vs x' Fi' e1 keep hj hR ho hn' hq
    have g1':H'[o]?=some ob:=by rw [keep o List.mem_cons_self hoFi]; exact g1
    have other:∀ q,q≠o→(setsAt H' o (off+i * A.n+j) vs)[q]?=H'[q]?:=fun q hq=>by rw [setsAt_get,if_neg (by omega)]
    have hxs:xs.set i x'=xs.take i++x' :: xs.drop (i+1):=by
      have hi:=(List.getElem?_eq_some_iff.1 hx).1
      rw [List.set_eq_take_append_cons_drop,if_pos hi]
    refine ⟨?_,o :: (F1++Fi' :: F2).flatten,⟨e1.set (new o List.mem_cons_self) _ _,⟨rfl,{ ob with cells:=setL ob.cells (off+i * A.n+j) vs },c1++setL c j vs :: c2,F1++Fi' :: F2,pre,post,?_,g2,g3,g4,rfl,?_,?_,g7⟩,?_,?_⟩,?_⟩
    · have hl2:ob.cells.length=pre.length+(c1.flatten.length+(c.length+c2.flatten.length))+post.length:=by
        rw [g6]; simp only [List.flatten_append,List.flatten_cons,List.length_append]
      have:off+i * A.n+j+vs.length≤ob.cells.length:=by omega
      simp [canSet,g1',g2,g3,this]
    · show (setsAt H' o (off+i * A.n+j) vs)[o]?=_
      rw [setsAt_get,if_pos rfl,g1']
      rfl
    · rw [hxs]
      have k1:∀ q,q∈F1.flatten∨q∈F2.flatten→(setsAt H' o (off+i * A.n+j) vs)[q]?=h[q]?:=fun q hq=>by rw [other q (nr q hq),keep q (inF q hq) (nf q hq)]
      exact rowsR.append (s2.frame fun q hq=>k1 q (.inl hq)) ⟨A.frame hR fun q hq=>other q fun hh=>ho (hh ▸ hq),s4.frame fun q hq=>k1 q (.inr hq)⟩
    · show setL ob.cells (off+i * A.n+j) vs=_
      rw [g6]
      simp only [List.flatten_append,List.flatten_cons,List.append_assoc]
      rw [show off+i * A.n+j=pre.length+(c1.flatten.length+j) by omega,setL_append_right,setL_append_right,setL_append_left _ _ _ _ (by omega)]
    · have hfl':(F1++Fi' :: F2).flatten=F1.flatten++(Fi'++F2.flatten):=by simp
      rw [List.nodup_cons,hfl']
      rw [hfl] at hq
      have hqi:∀ q∈Fi',q∈F1.flatten∨q∈F2.flatten→False:=fun q h1 h2=>nf q h2 ((hq q h1).2 (by rcases h2 with h2 | h2 <;> simp [h2]))
      refine ⟨?_,?_⟩
      · simp only [List.mem_append,not_or]
        exact ⟨fun hh=>nr o (.inl hh) rfl,ho,fun hh=>nr o (.inr hh) rfl⟩
      · rw [List.nodup_append]
        refine ⟨n1.1,?_,?_⟩
        · rw [List.nodup_append]
          exact ⟨hn',n2.2.1,fun x hx y hy=>by rintro rfl; exact hqi x hx (.inr hy)⟩
        · intro x hx y hy
          rintro rfl
          rcases List.mem_append.1 hy with hy | hy
          · exact hqi x hy (.inl hx)
          · exact n1.2.2 x hx x (by simp [hy]) rfl
    · intro q hq'
      rcases List.mem_cons.1 hq' with rfl | hq'
      · exact new q List.mem_cons_self
      · simp only [List.flatten_append,List.flatten_cons,List.mem_append] at hq'
        rcases hq' with hq' | hq' | hq'
        · exact new q (inF q (.inl hq'))
        · exact (hq q hq').1
        · exact new q (inF q (.inr hq'))
    · intro q hq'
      rcases List.mem_cons.1 hq' with rfl | hq'
      · exact .inl List.mem_cons_self
      · simp only [List.flatten_append,List.flatten_cons,List.mem_append] at hq'
        rcases hq' with hq' | hq' | hq'
        · exact .inl (inF q (.inl hq'))
        · exact .inr hq'
        · exact .inl (inF q (.inr hq'))
end
section
variable {f0 f:Fs} {a1 a2 an ad:Option Addr} {h H:Hp} {oi:Nat}
theorem FsOut.blocks {o off:Nat} (k:FsOut f0 a1 a2 h oi f (some ⟨o,off,none⟩) ad H) {i:Nat} {x:Node} (hx:f.nodes[i]?=some x) :
    ∃ ab Fb,Own h 3 intE H x.blocks ab Fb∧cellAt H o (off+i * 5+4)=some (.slice ab x.blocks.length x.blocks.length)∧(∀ q∈Fb,h.length+2≤q∧q≠oi∧q≠o) ∧
      ∀ (H':Hp) (bs':List Int) (ab':Option Addr) (Fb':List Nat),Own h 3 intE H' bs' ab' Fb'→(∀ q,q<H.length→q ∉ Fb→H'[q]?=H[q]?)→H.length≤H'.length→(∀ q∈Fb',q∈Fb∨H.length≤q) →
        canSet H' o (off+i * 5+4) 1=true∧FsOut f0 a1 a2 h oi ⟨f.nodes.set i { x with blocks:=bs' },f.data⟩ (some ⟨o,off,none⟩) ad (setsAt H' o (off+i * 5+4) [.slice ab' bs'.length bs'.length]):=by
  obtain ⟨ext,box,⟨y,z,res⟩,out,oi2,Fn,Fd,own,dat,dn,dd⟩:=k
  obtain ⟨c,Fi,⟨ab,Fb,rfl,rfl,sl⟩,hnd,hsub,hoF,hcell,hput⟩:=own.swap hx
  have hn5:(nodeE true).n=5:=rfl
  simp only [hn5] at hcell hput
  have ho:=dn o hoF
  refine ⟨ab,Fi,⟨ext,sl,hnd,fun q hq=>own.new q (hsub q hq).1⟩,hcell 4 (by omega),fun q hq=>⟨(dn q (hsub q hq).1).1,(dn q (hsub q hq).1).2.1,(hsub q hq).2⟩,?_⟩
  intro H' bs' ab' Fb' o' keep hl hF
  have e1:Ext h H':=o'.ext
  obtain ⟨hc,F',own',sub⟩:=hput H' 4 [.slice ab' bs'.length bs'.length] { x with blocks:=bs' } Fb' e1 (fun q hq hnq=>keep q (own.sl.lt q hq) hnq) (by simp) ⟨ab',Fb',rfl,rfl,o'.sl⟩
    (fun hm=>by
      rcases hF o hm with h1 | h1
      · exact (hsub o h1).2 rfl
      · have:=own.sl.lt o hoF; omega) o'.nd (fun q hq=>⟨o'.new q hq,fun hqF=>by
      rcases hF q hq with h1 | h1
      · exact h1
      · have:=own.sl.lt q hqF; omega⟩)
  have hne:∀ q,q≠o→(setsAt H' o (off+i * 5+4) [.slice ab' bs'.length bs'.length])[q]?=H'[q]?:=fun q hq=>by rw [setsAt_get,if_neg (fun e=>hq e.symm)]
  have hkeep:∀ q,q<H.length→q≠o→q ∉ Fi→(setsAt H' o (off+i * 5+4) [.slice ab' bs'.length bs'.length])[q]?=H[q]?:=fun q h1 h2 h3=>(hne q h2).trans (keep q h1 h3)
  have hlo:∀ q∈Fi,h.length+2≤q∧q≠oi:=fun q hq=>⟨(dn q (hsub q hq).1).1,(dn q (hsub q hq).1).2.1⟩
  have hFd:∀ q∈Fd,q ∉ Fi:=fun q hq hm=>(dn q (hsub q hm).1).2.2 hq
  refine ⟨hc,⟨own'.ext,?_,⟨y,z,?_⟩,?_,oi2,F',Fd,own',⟨own'.ext,dat.sl.frame fun q hq=>hkeep q (dat.sl.lt q hq) (fun e=>ho.2.2 (e ▸ hq)) (hFd q hq),dat.nd,dat.new⟩,fun q hq=>?_,dd⟩⟩
  · rw [hkeep h.length (get_lt box) (by omega) (fun hm=>by have:=hlo _ hm; omega)]; exact box
  · rw [hkeep (h.length+1) (get_lt res) (by omega) (fun hm=>by have:=hlo _ hm; omega)]; exact res
  · rw [hkeep oi (get_lt out) (Ne.symm ho.2.1) (fun hm=>(hlo _ hm).2 rfl),List.length_set]; exact out
  · rcases sub q hq with h1 | h1
    · exact dn q h1
    · rcases hF q h1 with h2 | h2
      · exact dn q (hsub q h2).1
      · have h3:=get_lt out
        exact ⟨by omega,by omega,fun hm=>by have:=dat.sl.lt q hm; omega⟩
end
end Go.Proofs.Ytmpgpkdijfcfhaa.Hz
/- NodeWrite: the program. -/
namespace Go.Proofs.Ytmpgpkdijfcfhaa.Hz
open Go.RowKit
set_option linter.unusedVariables false
set_option linter.unusedSimpArgs false
set_option maxRecDepth 20000
section
variable {f0 f:Fs} {a1 a2 an ad:Option Addr} {h H:Hp} {oi:Nat}
theorem FsOut.apart {o off o' off':Nat} (k:FsOut f0 a1 a2 h oi f (some ⟨o,off,none⟩) (some ⟨o',off',none⟩) H):o≠o'∧o<H.length∧o'<H.length:=by
  obtain ⟨ext,box,res,out,oi2,Fn,Fd,own,dat,dn,dd⟩:=k
  exact ⟨fun e=>(dn o own.memF).2.2 (by rw [e]; exact dat.memF),own.sl.lt o own.memF,dat.sl.lt o' dat.memF⟩
theorem FsOut.other {g:Fs} {b1 b2:Option Addr} {G1 G2:List Nat} {H':Hp} (k:FsOut f0 a1 a2 h oi f an ad H) (o1:Own H 49 (nodeE true) H' g.nodes b1 G1) (o2:Own H 9 strE H' g.data b2 G2) (dis:∀ q∈G1,q ∉ G2) :
    canSet H' (h.length+1) 0 2=true∧FsRes g h (setsAt H' (h.length+1) 0 [.slice b1 g.nodes.length g.nodes.length,.slice b2 g.data.length g.data.length]) (.agg #[.slice b1 g.nodes.length g.nodes.length,.slice b2 g.data.length g.data.length]) ∧
    cellAt (setsAt H' (h.length+1) 0 [.slice b1 g.nodes.length g.nodes.length,.slice b2 g.data.length g.data.length]) (h.length+1) 0=some (.slice b1 g.nodes.length g.nodes.length)∧cellAt (setsAt H' (h.length+1) 0 [.slice b1 g.nodes.length g.nodes.length,.slice b2 g.data.length g.data.length]) (h.length+1) 1=some (.slice b2 g.data.length g.data.length):=by
  obtain ⟨u,rfl⟩:=o1.ext.pre
  have k2:=k.grow u
  obtain ⟨c1,c2,c3,_⟩:=k2.done [.slice b1 g.nodes.length g.nodes.length,.slice b2 g.data.length g.data.length] rfl
  have hne:∀ q,H.length≤q→(setsAt (H++u) (h.length+1) 0 [.slice b1 g.nodes.length g.nodes.length,.slice b2 g.data.length g.data.length])[q]?=(H++u)[q]?:=fun q hq=>by
    have:=get_lt k.out
    have:=k.oi2
    rw [setsAt_get,if_neg (by omega)]
  have e0:Ext h (H++u):=k2.ext
  refine ⟨c1,⟨b1,G1,b2,G2,rfl,⟨e0.set (by omega) 0 _,o1.sl.frame fun q hq=>hne q (o1.new q hq),o1.nd,fun q hq=>?_⟩,⟨e0.set (by omega) 0 _,o2.sl.frame fun q hq=>hne q (o2.new q hq),o2.nd,fun q hq=>?_⟩,dis⟩,c2,c3⟩
  · have:=o1.new q hq; have:=k.ext.1; omega
  · have:=o2.new q hq; have:=k.ext.1; omega
end
def withB (f:Fs) (i:Nat) (x:Node) (bs:List Int) (d:List Str):Fs:=⟨f.nodes.set i { x with blocks:=bs },d⟩
@[simp] theorem withB_nodes (f:Fs) (i:Nat) (x:Node) (bs:List Int) (d:List Str):(withB f i x bs d).nodes.length=f.nodes.length:=by simp [withB]
@[simp] theorem withB_data (f:Fs) (i:Nat) (x:Node) (bs:List Int) (d:List Str):(withB f i x bs d).data=d:=rfl
section
variable {f0 f:Fs} {a1 a2 an ad:Option Addr} {h H:Hp} {oi o off:Nat} {j:Nat} {n:Node} {bs:List Int} {d:List Str}
theorem FsOut.wput {od offd:Nat} (k:FsOut f0 a1 a2 h oi (withB f j n bs d) an (some ⟨od,offd,none⟩) H) {b:Nat} (hb:b<d.length) (s:Str) :
    canSet H od (offd+b) 1=true∧FsOut f0 a1 a2 h oi (withB f j n bs (d.set b s)) an (some ⟨od,offd,none⟩) (setsAt H od (offd+b) [.string (S s)]):=k.put hb s
theorem FsOut.wdat (k:FsOut f0 a1 a2 h oi (withB f j n bs d) an ad H) (hb:0<d.length):∃ od offd,ad=some ⟨od,offd,none⟩:=by
  obtain ⟨Fn,Fd,-,dat,-⟩:=k.own
  obtain ⟨od,offd,ed,-⟩:=strEAt dat.sl (i:=0) hb
  exact ⟨od,offd,ed⟩
end
theorem own_some_lt {h:Hp} {w:Bool} {t:TypeId} {α:Type} {A:Enc α} {xs:List α} {b:Addr} {F:List Nat} (k:slR w t A h xs (some b) F):b.block<h.length:=by
  obtain ⟨_,ob,css,Fs,pre,post,g1,_⟩:=k
  exact get_lt g1
section
variable {P:Program} {α:Type} {h0 h:Hp} {e:TypeId} {xs:List α} {a:Option Addr} {F:List Nat} {n:Nat} {f:α→List Value} {hn:∀ x,(f x).length=n} {hok:∀ x,(f x).all okCell=true}
theorem Own.append1L (k:Own h0 e (flatE n f hn hok) h xs a F) (x:α) {cs:List Value} (hx:cs=f x) {st xt:TypeId} {bt:Nat} {z:List Value} (hsl:isSlice P xt=true) (hel:elOf P st=some (e,n,bt,z)) (hs1:xs.length+1≤big) (hs2:(xs.length+1) * bt≤big) :
    ∃ a' h' F',aappend P (h++[⟨true,true,e,cs⟩]) st xt (.slice a xs.length xs.length) (.slice (some ⟨h.length,0,none⟩) 1 1)=some (.slice a' (xs.length+1) (xs.length+1),h')∧Own h0 e (flatE n f hn hok) h' (xs++[x]) a' F' ∧
      (∀ q,q<h.length→q ∉ F→h'[q]?=h[q]?)∧(∀ q∈F',q∈F∨h.length≤q)∧h.length≤h'.length:=by
  subst hx
  have hl:slR true e (flatE n f hn hok) (h++[⟨true,true,e,f x⟩]) [x] (some ⟨h.length,0,none⟩) [h.length]:=by
    have:=(Own.lit (h0:=h) (h:=h) (e:=e) (A:=flatE n f hn hok) (xs:=[x]) (css:=[f x]) (Fs:=[[]]) (Ext.refl h) ⟨⟨rfl,rfl⟩,trivial⟩ (by simp) (by simp)).sl
    simpa using this
  obtain ⟨cs,h1,h2,css,Fs,rfl,h4,_⟩:=hl.cells
  have hF:=flat_nil h4.flat.2
  obtain ⟨a',h',F',e1,e2,e3,e4,e5,_⟩:=(k.grow (Ext.push h [⟨true,true,e,f x⟩])).append (P:=P) (st:=st) (xt:=xt) (x:=.slice (some ⟨h.length,0,none⟩) 1 1) (css:=css) (Fs:=Fs) (ys:=[x]) (by
    have h1':cellsAt (h++[⟨true,true,e,f x⟩]) h.length 0 (1 * n)=some css.flatten:=h1
    show srcOf P _ n xt _=_
    rw [Nat.one_mul] at h1'
    simp [srcOf,hsl,h1']) h4 hel hs1 hs2 (by rw [hF]; simp) (by rw [hF]; simp)
  refine ⟨a',h',F',e1,e2,fun q hq hm=>?_,fun q hq=>?_,by simp at e4; omega⟩
  · rw [e3 q (by simp; omega) hm,List.getElem?_append_left hq]
  · rcases e5 q hq with h | h | h
    · exact .inl h
    · rw [hF] at h; cases h
    · simp at h; exact .inr (by omega)
end
end Go.Proofs.Ytmpgpkdijfcfhaa.Hz
/- NodeWrite: the reference. -/
namespace Go.Proofs.Ytmpgpkdijfcfhaa.Hz
open Go.RowKit
set_option linter.unusedVariables false
set_option linter.unusedSimpArgs false
set_option maxRecDepth 20000
theorem Ext.set2 {h0 h:Hp} (e:Ext h0 h) {o:Nat} (ho:o<h0.length) (i:Nat) (vs:List Value):Ext (setsAt h0 o i vs) (setsAt h o i vs):=by
  refine ⟨by rw [setsAt_len,setsAt_len]; exact e.1,fun q hq=>?_⟩
  rw [setsAt_len] at hq
  rw [setsAt_get,setsAt_get,e.2 q hq]
theorem canSetE {h H:Hp} (e:Ext h H) {o i n:Nat} (c:canSet h o i n=true):canSet H o i n=true∧o<h.length:=by
  unfold canSet at c ⊢
  cases hg:h[o]? with
  | none=>simp [hg] at c
  | some ob =>
    have:=get_lt hg
    rw [e.2 o this,hg]
    rw [hg] at c
    exact ⟨c,this⟩
theorem Own.away {α:Type} {A:Enc α} {h0 h:Hp} {e:TypeId} {xs:List α} {a:Option Addr} {F:List Nat} (k:Own h0 e A h xs a F) {o:Nat} (h1:h0.length≤o) (h2:o ∉ F) (i:Nat) (vs:List Value):Own h0 e A (setsAt h o i vs) xs a F :=
  ⟨k.ext.set h1 i vs,k.sl.frame fun q hq=>by rw [setsAt_get,if_neg (fun e1=>h2 (by rw [e1]; exact hq))],k.nd,k.new⟩
structure KeepI (f:Fs) (a1 a2:Option Addr) (h:Hp) (oi j:Nat) (n:Node) (o off:Nat) (ad:Option Addr) (us:List Int) (ou offu:Nat) (d:List Str) (bs:List Int) (Hm:Hp) (ak:Option Addr) (H:Hp):Prop where
  out:FsOut f a1 a2 h oi (withB f j n n.blocks d) (some ⟨o,off,none⟩) ad Hm
  ext:Ext Hm H
  own:∃ Fk,Own h 3 intE H bs ak Fk∧(∀ q∈Fk,Hm.length≤q)∧ou ∉ Fk
  us:slR true 3 intE H us (some ⟨ou,offu,none⟩) [ou]
  ou:Hm.length≤ou
section
variable {f:Fs} {a1 a2:Option Addr} {h:Hp} {oi j:Nat} {n:Node} {o off:Nat} {ad:Option Addr} {us:List Int} {ou offu:Nat} {d:List Str} {bs:List Int} {Hm:Hp} {ak:Option Addr} {H:Hp}
theorem KeepI.append (k:KeepI f a1 a2 h oi j n o off ad us ou offu d bs Hm ak H) (x:Int) (hl:bs.length≤1048576) :
    ∃ a' H',aappend Try.prog (H++[⟨true,true,3,[.int .i64 x]⟩]) 47 47 (.slice ak bs.length bs.length) (.slice (some ⟨H.length,0,none⟩) 1 1)=some (.slice a' (bs.length+1) (bs.length+1),H')∧KeepI f a1 a2 h oi j n o off ad us ou offu d (bs++[x]) Hm a' H':=by
  obtain ⟨Fk,own,new,hou⟩:=k.own
  obtain ⟨a',H',F',eq,own',keep,sub,hl'⟩:=own.append1L (P:=Try.prog) x (cs:=[.int .i64 x]) rfl (st:=47) (xt:=47) (bt:=8) (z:=[.int .i64 0]) (by simp) (by simp) (by unfold big; omega) (by unfold big; omega)
  refine ⟨a',H',eq,k.out,⟨Nat.le_trans k.ext.1 hl',fun q hq=>?_⟩,⟨F',own',fun q hq=>?_,fun hm=>?_⟩,k.us.frame fun q hq=>?_,k.ou⟩
  · rw [keep q (by have:=k.ext.1; omega) (fun hm=>by have:=new q hm; omega),k.ext.2 q hq]
  · rcases sub q hq with h1 | h1
    · exact new q h1
    · have:=k.ext.1; omega
  · rcases sub ou hm with h1 | h1
    · exact hou h1
    · have:=own_some_lt k.us; simp only at this; omega
  · simp at hq
    rw [hq]
    exact keep ou (own_some_lt k.us) hou
theorem KeepI.put (k:KeepI f a1 a2 h oi j n o off ad us ou offu d bs Hm ak H) {b:Nat} (hb:b<d.length) (s:Str) :
    ∃ od offd,ad=some ⟨od,offd,none⟩∧canSet H od (offd+b) 1=true∧KeepI f a1 a2 h oi j n o off ad us ou offu (d.set b s) bs (setsAt Hm od (offd+b) [.string (S s)]) ak (setsAt H od (offd+b) [.string (S s)]):=by
  obtain ⟨od,offd,rfl⟩:=k.out.wdat (by omega)
  obtain ⟨hcs,kf⟩:=k.out.wput hb s
  obtain ⟨hcs',hlt⟩:=canSetE k.ext hcs
  obtain ⟨Fk,own,new,hou⟩:=k.own
  have hod:h.length≤od:=by
    obtain ⟨Fn,Fd,-,dat,-,dd⟩:=k.out.own
    have:=dd od dat.memF; omega
  refine ⟨od,offd,rfl,hcs',kf,k.ext.set2 hlt _ _,⟨Fk,own.away hod (fun hm=>by have:=new od hm; omega) _ _,fun q hq=>by rw [setsAt_len]; exact new q hq,hou⟩,k.us.frame fun q hq=>?_,by rw [setsAt_len]; exact k.ou⟩
  simp at hq
  rw [hq,setsAt_get,if_neg (by have:=k.ou; omega)]
theorem KeepI.cells (k:KeepI f a1 a2 h oi j n o off ad us ou offu d bs Hm ak H) :
    cellAt H oi 0=some (.slice (some ⟨o,off,none⟩) f.nodes.length f.nodes.length)∧cellAt H oi 1=some (.slice ad d.length d.length)∧cellAt H h.length 0=some (.slice a1 f.nodes.length f.nodes.length)∧cellAt H h.length 1=some (.slice a2 f.data.length f.data.length):=by
  have cc:=k.out.cells
  simp only [withB_nodes,withB_data] at cc
  exact ⟨cellE k.ext cc.1,cellE k.ext cc.2.1,cellE k.ext cc.2.2.1,cellE k.ext cc.2.2.2⟩
end
end Go.Proofs.Ytmpgpkdijfcfhaa.Hz
/- NodeWrite: what it gives is small. -/
namespace Go.Proofs.Ytmpgpkdijfcfhaa.Hz
open Go.RowKit
set_option linter.unusedVariables false
set_option linter.unusedSimpArgs false
set_option maxRecDepth 20000
theorem sumL_all {α:Type} (g:α→Nat) (c:Nat):∀ xs:List α,(∀ x∈xs,g x≤c)→sumL g xs≤c * xs.length
  | [],_=>by simp [sumL]
  | x :: xs,h=>by
    have h1:=h x (by simp)
    have h2:=sumL_all g c xs fun y hy=>h y (by simp [hy])
    simp only [sumL,List.length_cons,Nat.mul_add]
    omega
theorem nodeOk_len {n:Node} (h:nodeOk n=true):n.blocks.length≤5:=by
  unfold nodeOk at h
  split at h
  · simp at h
    simp [h.2]
  · simp only [Bool.and_eq_true] at h
    have h1:=inR_iff.1 h.1.1.1.2
    have h2:badLen n=false:=by simpa using h.1.2
    have h3:(n.blocks.length:Int)=blocksFor n.size:=by simpa [badLen] using h2
    unfold blocksFor at h3
    split at h3
    · omega
    · split at h3 <;> omega
structure Small (f:Fs):Prop where
  nodes:f.nodes.length≤10
  each:∀ n∈f.nodes,n.blocks.length≤5
  data:f.data.length≤36
  strs:∀ s∈f.data,s.length≤16
theorem Small.nl {f:Fs} (k:Small f):f.nl≤1000:=by
  have h1:=sumL_all Node.nl 5 f.nodes k.each
  have h2:=sumL_all List.length 16 f.data k.strs
  have:=k.nodes
  have:=k.data
  simp only [Fs.nl]
  omega
theorem ShapeOk.small {f:Fs} (s:ShapeOk f):Small f:=by
  have h1:=inR_iff.1 s.nodes
  have h2:=inR_iff.1 s.data
  refine ⟨by omega,fun n hn=>nodeOk_len (s.ok n hn),by omega,fun x hx=>?_⟩
  obtain ⟨i,hi,rfl⟩:=List.getElem_of_mem hx
  have:=dat_le s (i:Int)
  simpa [dat,hi] using this
end Go.Proofs.Ytmpgpkdijfcfhaa.Hz
