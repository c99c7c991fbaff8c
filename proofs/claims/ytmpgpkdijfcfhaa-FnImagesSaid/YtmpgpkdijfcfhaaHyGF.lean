/- Texts of the calculus and of the program's functions, merged: MF CF CG PA PB PC JN PO. -/
import Derived.Test.YtmpgpkdijfcfhaaHyGD
import Derived.Test.YtmpgpkdijfcfhaaHyGC
import Derived.Test.YtmpgpkdijfcfhaaHyGE
import Derived.Shelf.Strings.OnBuilder
namespace Go.Proofs.Ytmpgpkdijfcfhaa.Hz
open Go.RowKit
set_option linter.unusedVariables false
set_option linter.unusedSimpArgs false
set_option maxRecDepth 20000
section
variable {α:Type} {A:Enc α} {h0 h:Hp} {e:TypeId} {xs:List α} {F:List Nat} {o off:Nat}
theorem Own.row (k:Own h0 e A h xs (some ⟨o,off,none⟩) F) {i:Nat} {x:α} (hx:xs[i]?=some x) :
    ∃ c Fi,A.R h x c Fi∧Fi.Nodup∧(∀ q∈Fi,q∈F∧q≠o)∧(∀ j,j<A.n→cellAt h o (off+i * A.n+j)=c[j]?) ∧
      (∀ (H':Hp) (x':α),Ext h0 H'→(∀ q∈F,q ∉ Fi→H'[q]?=h[q]?)→A.R H' x' c Fi→Own h0 e A H' (xs.set i x') (some ⟨o,off,none⟩) F) ∧
      (∀ (j:Nat) (vs:List Value) (x':α),j+vs.length≤A.n→A.R h x' (setL c j vs) Fi→cS_ h o (off+i * A.n+j) vs.length=true∧Own h0 e A (sA_ h o (off+i * A.n+j) vs) (xs.set i x') (some ⟨o,off,none⟩) F):=by
  obtain ⟨e0,⟨_,ob,css,Fs,pre,post,g1,g2,g3,g4,rfl,g5,g6,g7⟩,nd,new⟩:=k
  simp only at g1 g7
  obtain ⟨c1,c,c2,F1,Fi,F2,rfl,rfl,s1,s2,s3,s4⟩:=g5.split i x hx
  have nd0:=nd
  rw [List.nodup_cons] at nd
  have hlen:=A.len s3
  have hfl:(F1++Fi :: F2).flatten=F1.flatten++(Fi++F2.flatten):=by simp
  rw [hfl] at nd
  have n1:=List.nodup_append.1 nd.2
  have n2:=List.nodup_append.1 n1.2.1
  have hxs:∀ x':α,xs.set i x'=xs.take i++x' :: xs.drop (i+1):=fun x'=>by
    have hi:=(List.getElem?_eq_some_iff.1 hx).1
    rw [List.set_eq_take_append_cons_drop,if_pos hi]
  have nr:∀ q,q∈F1.flatten∨q∈F2.flatten→q≠o:=by
    intro q hq hh
    apply nd.1
    rw [← hh]
    rcases hq with hq | hq <;> simp [hq]
  have nf:∀ q,q∈F1.flatten∨q∈F2.flatten→q ∉ Fi:=by
    intro q hq hm
    rcases hq with hq | hq
    · exact n1.2.2 q hq q (by simp [hm]) rfl
    · exact n2.2.2 q hm q hq rfl
  have inF:∀ q,q∈F1.flatten∨q∈F2.flatten→q∈o :: (F1++Fi :: F2).flatten:=by
    intro q hq
    rw [hfl]
    rcases hq with hq | hq <;> simp [hq]
  refine ⟨c,Fi,s3,n2.1,fun q hq=>⟨by rw [hfl]; simp [hq],fun hh=>nd.1 (by rw [← hh]; simp [hq])⟩,?_,?_,?_⟩
  · intro j hj
    unfold cellAt
    rw [g1]
    simp only [g2,if_true]
    rw [g6]
    simp only [List.flatten_append,List.flatten_cons,List.append_assoc]
    rw [List.getElem?_append_right (by omega),List.getElem?_append_right (by omega),List.getElem?_append_left (by omega)]
    congr 1
    omega
  · intro H' x' e1 keep hR
    have ho:o ∉ Fi:=fun hm=>nd.1 (by simp [hm])
    refine ⟨e1,⟨rfl,ob,c1++c :: c2,F1++Fi :: F2,pre,post,?_,g2,g3,g4,rfl,?_,g6,g7⟩,nd0,new⟩
    · show H'[o]?=_
      rw [keep o List.mem_cons_self ho]; exact g1
    · rw [hxs]
      exact rowsR.append (s2.frame fun q hq=>keep q (inF q (.inl hq)) (nf q (.inl hq))) ⟨hR,s4.frame fun q hq=>keep q (inF q (.inr hq)) (nf q (.inr hq))⟩
  · intro j vs x' hj hR
    have other:∀ q,q≠o→(sA_ h o (off+i * A.n+j) vs)[q]?=h[q]?:=fun q hq=>by rw [sAg,if_neg (by omega)]
    refine ⟨?_,e0.set (new o List.mem_cons_self) _ _,⟨rfl,{ ob with cells:=setL ob.cells (off+i * A.n+j) vs },c1++setL c j vs :: c2,F1++Fi :: F2,pre,post,?_,g2,g3,g4,rfl,?_,?_,g7⟩,nd0,new⟩
    · have hl2:ob.cells.length=pre.length+(c1.flatten.length+(c.length+c2.flatten.length))+post.length:=by
        rw [g6]; simp only [List.flatten_append,List.flatten_cons,List.length_append]
      have:off+i * A.n+j+vs.length≤ob.cells.length:=by omega
      simp [cS_,g1,g2,g3,this]
    · show (sA_ h o (off+i * A.n+j) vs)[o]?=_
      rw [sAg,if_pos rfl,g1]
      rfl
    · rw [hxs]
      exact rowsR.append (s2.frame fun q hq=>other q (nr q (.inl hq))) ⟨A.frame hR fun q hq=>other q fun hh=>nd.1 (by rw [← hh]; simp [hq]),s4.frame fun q hq=>other q (nr q (.inr hq))⟩
    · show setL ob.cells (off+i * A.n+j) vs=_
      rw [g6]
      simp only [List.flatten_append,List.flatten_cons,List.append_assoc]
      rw [show off+i * A.n+j=pre.length+(c1.flatten.length+j) by omega,setL_append_right,setL_append_right,setL_append_left _ _ _ _ (by omega)]
end
theorem cloneStr_c (es:List Str) (a:Option Addr) (F:List Nat) (w:Bool) (t:TypeId) (h:Hp) (hr:slR w t strE h es a F) (hl:es.length≤1048576) :
    ACall Try.prog 29 [.slice a es.length es.length] h fun r h'=>∃ a' F',r=.slice a' es.length es.length∧Own h 9 strE h' es a' F':=by
  refine acall mixed Try.func29 rfl (by kernel_rfl) ?_
  cases a with
  | none =>
    obtain ⟨rfl,rfl⟩:=hr
    simp [Try.f29]
    exact ⟨_,Own.nil (Ext.refl h)⟩
  | some ad =>
    obtain ⟨a',h',F',eq,own',_⟩:=(empty1 strE h 9).appendSl (P:=Try.prog) (hr.ext (Ext.push h _)) (st:=22) (xt:=22) (bt:=16) (z:=[.string (S [])]) (by simp) (by simp) (by unfold big; simp; omega) (by unfold big; simp; omega)
    simp at eq own'
    simp [Try.f29,eq]
    exact ⟨_,own'⟩
theorem l1Copy_c (es:List Str) (a:Option Addr) (F:List Nat) (w:Bool) (t:TypeId) (h:Hp) (hr:slR w t strE h es a F) (hl:es.length≤1048576) :
    ACall Try.prog 24 [.slice a es.length es.length] h fun r h'=>∃ a' F',r=.slice a' es.length es.length∧Own h 9 strE h' es a' F':=by
  refine acall mixed Try.func24 rfl (by kernel_rfl) ?_
  obtain ⟨a',h',F',eq,own',_⟩:=(empty1 strE h 9).appendSl (P:=Try.prog) (hr.ext (Ext.push h _)) (st:=22) (xt:=22) (bt:=16) (z:=[.string (S [])]) (by simp) (by simp) (by unfold big; simp; omega) (by unfold big; simp; omega)
  simp at eq own'
  simp [Try.f24,eq]
  exact ⟨_,own'⟩
structure CloneI (f:Fs) (a1 a2:Option Addr) (h:Hp) (oi:Nat) (ad:Option Addr) (Fd:List Nat) (i:Nat) (an:Option Addr) (H:Hp):Prop where
  ext:Ext h H
  box:H[h.length]?=some ⟨true,true,26,[.slice a1 f.nodes.length f.nodes.length,.slice a2 f.data.length f.data.length]⟩
  res:H[h.length+1]?=some ⟨true,true,26,[.slice none 0 0,.slice none 0 0]⟩
  out:H[oi]?=some ⟨true,true,26,[.slice an i i,.slice ad f.data.length f.data.length]⟩
  oi2:h.length+2≤oi
  dat:Own h 9 strE H f.data ad Fd
  dd:∀ q∈Fd,h.length+2≤q∧q≠oi
  nod:∃ Fn,Own h 49 (nodeE true) H (f.nodes.take i) an Fn∧∀ q∈Fn,h.length+2≤q∧q≠oi∧q ∉ Fd
theorem get_lt {h:Hp} {q:Nat} {ob:Ob} (e:h[q]?=some ob):q<h.length:=(List.getElem?_eq_some_iff.1 e).1
theorem cellAt_of_get {h:Hp} {q:Nat} {ob:Ob} (e:h[q]?=some ob) (hl:ob.live=true) (i:Nat):cellAt h q i=ob.cells[i]?:=by
  simp [cellAt,e,hl]
theorem CloneI.step {f:Fs} {a1 a2:Option Addr} {h:Hp} {oi:Nat} {ad:Option Addr} {Fd:List Nat} {i:Nat} {an:Option Addr} {H:Hp} (k:CloneI f a1 a2 h oi ad Fd i an H) (hi:i<f.nodes.length) (hlen:f.nodes.length≤1048576) {nb nb':Ob} {t:Hp} {bc:Option Addr} {Fc:List Nat}
    (oc:Own (H++[nb]) 3 intE (H++[nb]++t) f.nodes[i].blocks bc Fc) :
    ∃ a' H'',aappend Try.prog (H++nb' :: (t++[⟨true,true,49,[.int .i64 f.nodes[i].kind,.int .i64 f.nodes[i].gen,.int .i64 f.nodes[i].time,.int .i64 f.nodes[i].size,.slice bc f.nodes[i].blocks.length f.nodes[i].blocks.length]⟩])) 24 24 (.slice an i i) (.slice (some ⟨H.length+(t.length+1),0,none⟩) 1 1)=some (.slice a' (i+1) (i+1),H'') ∧
      cS_ H'' oi 0 1=true∧CloneI f a1 a2 h oi ad Fd (i+1) a' (sA_ H'' oi 0 [.slice a' (i+1) (i+1)]):=by
  obtain ⟨ext,box,res,out,oi2,dat,dd,Fn,own,dn⟩:=k
  generalize hlit:(⟨true,true,49,[.int .i64 f.nodes[i].kind,.int .i64 f.nodes[i].gen,.int .i64 f.nodes[i].time,.int .i64 f.nodes[i].size,.slice bc f.nodes[i].blocks.length f.nodes[i].blocks.length]⟩:Ob)=lit
  have xx:Ext H (H++nb' :: (t++[lit])):=Ext.push H _
  have own1:=own.grow xx
  have slc:slR true 3 intE (H++nb' :: (t++[lit])) f.nodes[i].blocks bc Fc:=by
    have s0:=oc.sl
    simp only [List.append_assoc] at s0
    exact slR.late (l:=[nb]) (l':=[nb']) (u:=t) (t:=[lit]) s0 (fun q hq=>by have:=oc.new q hq; simpa using this) rfl
  have hcs:cellsAt (H++nb' :: (t++[lit])) (H.length+(t.length+1)) 0 (1 * 5)=some lit.cells:=by
    have e1:H++nb' :: (t++[lit])=(H++nb' :: t)++[lit]:=by simp
    have e2:H.length+(t.length+1)=(H++nb' :: t).length:=by simp
    rw [e1,e2,← hlit]
    simp
  have hln:(f.nodes.take i).length=i:=by simp; omega
  have hFcl:∀ q∈Fc,H.length+1≤q:=fun q hq=>by have:=oc.new q hq; simpa using this
  obtain ⟨a',H'',F',eq,own',keep,lenk,sub,_⟩:=own1.append (P:=Try.prog) (st:=24) (xt:=24) (x:=.slice (some ⟨H.length+(t.length+1),0,none⟩) 1 1) (css:=[lit.cells]) (Fs:=[Fc]) (ys:=[f.nodes[i]]) (bt:=56) (z:=[.int .i64 0,.int .i64 0,.int .i64 0,.int .i64 0,.slice none 0 0]) (by
      show srcOf Try.prog _ 5 _ _=_
      simp only [srcOf,hcs,Option.map_some]
      simp) ⟨⟨bc,Fc,by rw [← hlit],rfl,slc⟩,trivial⟩ (by simp; rfl) (by rw [hln]; unfold big; simp; omega) (by rw [hln]; unfold big; simp; omega) (by simpa using oc.nd) (by
      intro q hq
      have hq':q∈Fc:=by simpa using hq
      have h1:=hFcl q hq'
      exact ⟨by have:=ext.1; omega,fun hm=>by have:=own.sl.lt q hm; omega⟩)
  rw [hln] at eq
  have hoL:oi<H.length:=get_lt out
  have hoF:oi ∉ Fn:=fun hm=>(dn oi hm).2.1 rfl
  have hkeep:∀ q,q<H.length→q ∉ Fn→H''[q]?=H[q]?:=fun q hq hm=>by
    rw [keep q (by simp; omega) hm,List.getElem?_append_left hq]
  have hout:H''[oi]?=some ⟨true,true,26,[.slice an i i,.slice ad f.data.length f.data.length]⟩:=by rw [hkeep oi hoL hoF]; exact out
  have hset:∀ (v:Value) (q:Nat),q≠oi→(sA_ H'' oi 0 [v])[q]?=H''[q]?:=fun v q hq=>by rw [sAg,if_neg (by omega)]
  have hn1:h.length ∉ Fn:=fun hm=>by have:=(dn _ hm).1; omega
  have hn2:h.length+1 ∉ Fn:=fun hm=>by have:=(dn _ hm).1; omega
  have hF':∀ q∈F',h.length+2≤q∧q≠oi∧q ∉ Fd:=fun q hq=>by
    have hge:H.length≤q→h.length+2≤q∧q≠oi∧q ∉ Fd:=fun hg=>⟨by omega,by omega,fun hm=>by have:=dat.sl.lt q hm; omega⟩
    rcases sub q hq with hh | hh | hh
    · exact dn q hh
    · exact hge (by have:=hFcl q (by simpa using hh); omega)
    · exact hge (by simp at hh; omega)
  refine ⟨a',H'',eq,by simp [cS_,hout],⟨?_,?_,?_,?_,oi2,?_,dd,F',?_,hF'⟩⟩
  · exact own'.ext.set (by omega) 0 _
  · rw [hset _ _ (by omega),hkeep _ (get_lt box) hn1]; exact box
  · rw [hset _ _ (by omega),hkeep _ (get_lt res) hn2]; exact res
  · rw [sAg,if_pos rfl,hout]; rfl
  · refine ⟨own'.ext.set (by omega) 0 _,dat.sl.frame fun q hq=>?_,dat.nd,dat.new⟩
    rw [hset _ _ (dd q hq).2,hkeep q (dat.sl.lt q hq) (fun hm=>(dn q hm).2.2 hq)]
  · rw [List.take_succ_eq_append_getElem hi]
    exact ⟨own'.ext.set (by omega) 0 _,own'.sl.frame fun q hq=>hset _ _ (hF' q hq).2.1,own'.nd,own'.new⟩
theorem CloneI.cells {f:Fs} {a1 a2:Option Addr} {h:Hp} {oi:Nat} {ad:Option Addr} {Fd:List Nat} {i:Nat} {an:Option Addr} {H:Hp} (k:CloneI f a1 a2 h oi ad Fd i an H) :
    (∀ l,cellAt (H++l) oi 0=some (.slice an i i))∧(∀ l,cellAt (H++l) oi 1=some (.slice ad f.data.length f.data.length))∧(∀ l,cellAt (H++l) h.length 0=some (.slice a1 f.nodes.length f.nodes.length)):=by
  refine ⟨fun l=>?_,fun l=>?_,fun l=>?_⟩
  · rw [cellAt_ext (Ext.push H l) (get_lt k.out),cellAt_of_get k.out rfl]; rfl
  · rw [cellAt_ext (Ext.push H l) (get_lt k.out),cellAt_of_get k.out rfl]; rfl
  · rw [cellAt_ext (Ext.push H l) (get_lt k.box),cellAt_of_get k.box rfl]; rfl
theorem CloneI.start {f:Fs} {a1 a2:Option Addr} {h:Hp} {ad:Option Addr} {Fd:List Nat} {u:Hp} {e:TypeId}
    (od:Own (h++[⟨true,true,26,[.slice a1 f.nodes.length f.nodes.length,.slice a2 f.data.length f.data.length]⟩,⟨true,true,26,[.slice none 0 0,.slice none 0 0]⟩]) 9 strE (h++⟨true,true,26,[.slice a1 f.nodes.length f.nodes.length,.slice a2 f.data.length f.data.length]⟩ :: ⟨true,true,26,[.slice none 0 0,.slice none 0 0]⟩ :: u) f.data ad Fd) :
    CloneI f a1 a2 h (h.length+(u.length+1+1)) ad Fd 0 none (h++⟨true,true,26,[.slice a1 f.nodes.length f.nodes.length,.slice a2 f.data.length f.data.length]⟩ :: ⟨true,true,26,[.slice none 0 0,.slice none 0 0]⟩ :: (u++[⟨true,true,26,[.slice none 0 0,.slice ad f.data.length f.data.length]⟩])) where
  ext:=Ext.push _ _
  box:=by simp
  res:=by simp
  out:=by
    rw [List.getElem?_append_right (by omega)]
    simp
  oi2:=by omega
  dat:=by
    have e0:Ext h (h++[⟨true,true,26,[.slice a1 f.nodes.length f.nodes.length,.slice a2 f.data.length f.data.length]⟩,⟨true,true,26,[.slice none 0 0,.slice none 0 0]⟩]):=Ext.push _ _
    have:=(Own.of_new e0 od).grow (Ext.push _ [⟨true,true,26,[.slice none 0 0,.slice ad f.data.length f.data.length]⟩])
    simpa using this
  dd q hq:=by
    have h1:=od.new q hq
    have h2:=od.sl.lt q hq
    simp at h1 h2
    omega
  nod:=⟨[],Own.nil (Ext.push _ _),fun q hq=>by cases hq⟩
theorem CloneI.done {f:Fs} {a1 a2:Option Addr} {h:Hp} {oi:Nat} {ad:Option Addr} {Fd:List Nat} {an:Option Addr} {H:Hp} (k:CloneI f a1 a2 h oi ad Fd f.nodes.length an H) (vs:List Value) (hvs:vs.length=2) :
    cS_ H (h.length+1) 0 2=true∧cellAt (sA_ H (h.length+1) 0 vs) (h.length+1) 0=vs[0]?∧cellAt (sA_ H (h.length+1) 0 vs) (h.length+1) 1=vs[1]? ∧
      ∃ G1 G2,Own h 49 (nodeE true) (sA_ H (h.length+1) 0 vs) f.nodes an G1∧Own h 9 strE (sA_ H (h.length+1) 0 vs) f.data ad G2∧∀ q∈G1,q ∉ G2:=by
  obtain ⟨ext,box,res,out,oi2,dat,dd,Fn,own,dn⟩:=k
  rw [List.take_length] at own
  have hg:(sA_ H (h.length+1) 0 vs)[h.length+1]?=some ⟨true,true,26,vs⟩:=by
    rw [sAg,if_pos rfl,res]
    simp only [Option.map_some]
    rw [setL_all _ _ (by simpa using hvs)]
  have hne:∀ q,h.length+2≤q→(sA_ H (h.length+1) 0 vs)[q]?=H[q]?:=fun q hq=>by rw [sAg,if_neg (by omega)]
  refine ⟨by simp [cS_,res],by rw [cellAt_of_get hg rfl],by rw [cellAt_of_get hg rfl],Fn,Fd,⟨own.ext.set (by omega) 0 _,own.sl.frame fun q hq=>hne q (dn q hq).1,own.nd,own.new⟩,⟨dat.ext.set (by omega) 0 _,dat.sl.frame fun q hq=>hne q (dd q hq).1,dat.nd,dat.new⟩,fun q hq=>(dn q hq).2.2⟩
set_option maxHeartbeats 2000000 in
theorem l6Copy_c (f:Fs) (a1 a2:Option Addr) (F1 F2:List Nat) (w1 w2 w:Bool) (t1 t2:TypeId) (h:Hp) (r1:slR w t1 (nodeE w) h f.nodes a1 F1) (r2:slR w2 t2 strE h f.data a2 F2) (hl1:f.nodes.length≤1048576) (hl2:f.data.length≤1048576) (hlb:∀ x∈f.nodes,x.blocks.length≤1048576) :
    ACall Try.prog 72 [.agg #[.slice a1 f.nodes.length f.nodes.length,.slice a2 f.data.length f.data.length]] h fun r h'=>∃ b1 G1 b2 G2,r=.agg #[.slice b1 f.nodes.length f.nodes.length,.slice b2 f.data.length f.data.length]∧Own h 49 (nodeE true) h' f.nodes b1 G1∧Own h 9 strE h' f.data b2 G2∧∀ q∈G1,q ∉ G2:=by
  refine acall mixed Try.func72 rfl (by kernel_rfl) ?_
  simp [Try.f72]
  refine cK (l1Copy_c f.data a2 F2 w2 t2 _ (r2.to (by simp)) hl2) ?_
  rintro _ _ ⟨ad,Fd,rfl,od⟩
  obtain ⟨u,rfl⟩:=od.ext.pre
  simp at od
  simp
  refine aloop mixed [1,2,3,4] (fun (x:Nat × Option Addr × Hp)=>[.pointer (some ⟨h.length,0,none⟩),.pointer (some ⟨h.length+1,0,none⟩),.pointer (some ⟨h.length+(u.length+1+1),0,none⟩),.int .i64 x.1]) (fun x=>x.2.2)
    (fun x=>x.1≤f.nodes.length∧CloneI f a1 a2 h (h.length+(u.length+1+1)) ad Fd x.1 x.2.1 x.2.2) (fun x=>f.nodes.length - x.1) (0,none,_) ⟨by simp,CloneI.start (e:=0) od⟩ (by simp [pickF]) rfl ?_
  rintro ⟨i,an,H⟩ ⟨hi,k⟩
  simp only at hi k
  generalize h.length+(u.length+1+1)=oi at k ⊢
  have cc:=k.cells
  have cb:=cc.2.2 []
  simp at cb
  simp [mkF,cb]
  refine aSI (fun hb=>?_) (fun hb=>?_) <;> simp at hb <;> simp [hb]
  · obtain ⟨o,off,bb,GB,rfl,c0,c1,c2,c3,c4,kb,-⟩:=nodeAt (r1.ext k.ext) hb
    have c4':∀ l,cellAt (H++l) o (off+i * 5+4)=some (.slice bb f.nodes[i].blocks.length f.nodes[i].blocks.length):=fun l=>by
      rw [cellAt_ext (Ext.push H l) (by obtain ⟨ob,ho,_⟩:=cellAt_some c4; exact get_lt ho),c4]
    have hbl:=hlb _ (List.getElem_mem hb)
    obtain ⟨bc,h2,Fc,eqc,oc,_⟩:=(empty1 intE (H++[⟨true,true,49,[.int .i64 f.nodes[i].kind,.int .i64 f.nodes[i].gen,.int .i64 f.nodes[i].time,.int .i64 f.nodes[i].size,.slice bb f.nodes[i].blocks.length f.nodes[i].blocks.length]⟩]) 3).appendSl (P:=Try.prog) (kb.to (by simp)) (st:=47) (xt:=47) (bt:=8) (z:=[.int .i64 0]) (by simp) (by simp) (by unfold big; simp; omega) (by unfold big; simp; omega)
    obtain ⟨t,rfl⟩:=oc.ext.pre
    simp at eqc
    simp only [List.nil_append] at oc
    obtain ⟨a',H'',eq,hc,k'⟩:=k.step (nb:=_) (nb':=⟨true,true,49,[.int .i64 f.nodes[i].kind,.int .i64 f.nodes[i].gen,.int .i64 f.nodes[i].time,.int .i64 f.nodes[i].size,.slice bc f.nodes[i].blocks.length f.nodes[i].blocks.length]⟩) (t:=t) hb hl1 oc
    simp [hb,cb,c0,c1,c2,c3,c4,c4',cc.2.2,eqc,cc.1]
    simp [eq,hc]
    exact anext (i+1,a',_) ⟨hb,k'⟩ (by simp only; omega) (by simp [pickF,wS (show i<9223372036854775807 by omega)]) rfl (by simp)
  · obtain rfl:i=f.nodes.length:=by omega
    obtain ⟨h1,h2,h3,G1,G2,o1,o2,dis⟩:=k.done [.slice an f.nodes.length f.nodes.length,.slice ad f.data.length f.data.length] rfl
    have c1:=cc.1 []
    have c2:=cc.2.1 []
    simp at c1 c2
    simp [c1,c2,h1,h2,h3]
    exact ⟨an,G1,ad,⟨rfl,rfl⟩,o1,G2,o2,dis⟩
def headCons (p:Str):List Str→List Str
  | []=>[p]
  | q :: qs=>(p++q) :: qs
def parts (b:UInt8):Str→List Str
  | []=>[[]]
  | c :: cs=>if c=b then [] :: parts b cs else headCons [c] (parts b cs)
theorem parts_ne (b:UInt8):∀ s,parts b s≠[]
  | []=>by simp [parts]
  | c :: cs=>by
    unfold parts
    split
    · simp
    · cases parts b cs <;> simp [headCons]
theorem headCons_nil {l:List Str} (h:l≠[]):headCons [] l=l:=by
  cases l with
  | nil=>exact absurd rfl h
  | cons q qs=>rfl
theorem headCons_two (p q:Str) (l:List Str):headCons p (headCons q l)=headCons (p++q) l:=by
  cases l <;> simp [headCons]
theorem parts_at {b:UInt8} {s:Str} {i:Nat} (hi:i<s.length):parts b (s.drop i)=if s[i]=b then [] :: parts b (s.drop (i+1)) else headCons [s[i]] (parts b (s.drop (i+1))):=by
  rw [List.drop_eq_getElem_cons hi]
  rfl
theorem parts_hit {b:UInt8} {s:Str} {from_ i:Nat} (hi:i<s.length) (h:s[i]=b):headCons ((s.take i).drop from_) (parts b (s.drop i))=(s.take i).drop from_ :: headCons ((s.take (i+1)).drop (i+1)) (parts b (s.drop (i+1))):=by
  rw [parts_at hi,if_pos h]
  have:(s.take (i+1)).drop (i+1)=[]:=by simp
  rw [this,headCons_nil (parts_ne _ _)]
  simp [headCons]
theorem parts_miss {b:UInt8} {s:Str} {from_ i:Nat} (hf:from_≤i) (hi:i<s.length) (h:s[i]≠b):headCons ((s.take i).drop from_) (parts b (s.drop i))=headCons ((s.take (i+1)).drop from_) (parts b (s.drop (i+1))):=by
  rw [parts_at hi,if_neg h,headCons_two,List.take_succ_eq_append_getElem hi,List.drop_append_of_le_length (by simp; omega)]
theorem parts_len (b:UInt8):∀ s:Str,(parts b s).length≤s.length+1
  | []=>by simp [parts]
  | c :: cs=>by
    have:=parts_len b cs
    have hn:=parts_ne b cs
    unfold parts
    split
    · simp; omega
    · cases hp:parts b cs with
      | nil=>exact absurd hp hn
      | cons q qs=>rw [hp] at this; simp [headCons] at *; omega
theorem u8_inj {a b:UInt8} (h:(a.toNat:Int)=(b.toNat:Int)):a=b:=by
  have:a.toNat=b.toNat:=by omega
  exact UInt8.toNat_inj.1 this
theorem parts_end {b:UInt8} {s:Str} {fr:Nat}:headCons ((s.take s.length).drop fr) (parts b (s.drop s.length))=[s.drop fr]:=by simp [parts,headCons]
set_option maxHeartbeats 2000000 in
theorem parts_spec_c (s:Str) (b:UInt8) (h:Hp) (hl:s.length≤1048576) :
    ACall Try.prog 97 [.string (S s),.int .u8 b.toNat] h fun r h'=>∃ a' F',r=.slice a' (parts b s).length (parts b s).length∧Own h 9 strE h' (parts b s) a' F':=by
  refine acall mixed Try.func97 rfl (by kernel_rfl) ?_
  simp [Try.f97]
  refine aloop mixed [0,1,5,6,7] (fun (x:Nat × Nat × List Str × Option Addr × Hp)=>[.string (S s),.int .u8 b.toNat,.slice x.2.2.2.1 x.2.2.1.length x.2.2.1.length,.int .i64 x.2.1,.int .i64 x.1]) (fun x=>x.2.2.2.2)
    (fun x=>x.2.2.1.length≤x.1∧((x.1≤s.length∧x.2.1≤x.1∧parts b s=x.2.2.1++headCons ((s.take x.1).drop x.2.1) (parts b (s.drop x.1)))∨(x.1=s.length+1∧parts b s=x.2.2.1))∧∃ F',Own h 9 strE x.2.2.2.2 x.2.2.1 x.2.2.2.1 F') (fun x=>s.length+1 - x.1) (0,0,[],_,_) ⟨by simp,.inl ⟨by simp,by simp,by simp [headCons_nil (parts_ne b s)]⟩,_,empty1 strE h 9⟩ (by simp [pickF]) rfl ?_
  rintro ⟨i,fr,out,a,H⟩ ⟨ho,he,F,own⟩
  simp only at ho he own
  simp [mkF]
  refine aSI (fun hb=>?_) (fun hb=>?_) <;> simp at hb <;> simp [hb]
  · obtain ⟨hi,hf,he⟩:i≤s.length∧fr≤i∧parts b s=out++headCons ((s.take i).drop fr) (parts b (s.drop i)):=by
      rcases he with he | ⟨he,_⟩
      · exact he
      · omega
    obtain ⟨a',H',F',eq,own'⟩:=own.append1 (P:=Try.prog) ((s.take i).drop fr) (cs:=[.string (S ((s.take i).drop fr))]) rfl (st:=22) (xt:=22) (bt:=16) (z:=[.string (S [])]) (by simp) (by simp) (by unfold big; omega) (by unfold big; omega)
    refine aSI (fun hd=>?_) (fun hd=>?_) <;> (have hd':=hd; simp at hd; simp [hd,hd'])
    · obtain rfl:i=s.length:=by omega
      simp at eq
      simp [hf,eq]
      exact anext (s.length+1,s.length+1,out++[(s.take s.length).drop fr],a',H') ⟨by simp; omega,.inr ⟨rfl,by rw [he,parts_end]; simp⟩,F',own'⟩ (by simp only; omega) (by simp [pickF,wS (show s.length<9223372036854775807 by omega)]) rfl (by simp)
    · have hi2:i<s.length:=by omega
      simp [hi2]
      refine aSI (fun hc=>?_) (fun hc=>?_) <;> (have hc':=hc; simp at hc; simp [hc,hc'])
      · have hc2:s[i]=b:=u8_inj (by omega)
        simp [hf,hi,eq]
        exact anext (i+1,i+1,out++[(s.take i).drop fr],a',H') ⟨by simp; omega,.inl ⟨hi2,by simp,by rw [he,parts_hit hi2 hc2]; simp⟩,F',own'⟩ (by simp only; omega) (by simp [pickF,wS (show i<9223372036854775807 by omega)]) rfl (by simp)
      · have hc2:s[i]≠b:=fun e=>hc (by rw [e])
        exact anext (i+1,fr,out,a,H) ⟨by simp only; omega,.inl ⟨hi2,by simp only; omega,by rw [he,parts_miss hf hi2 hc2]⟩,F,own⟩ (by simp only; omega) (by simp [pickF,wS (show i<9223372036854775807 by omega)]) rfl (by simp)
  · have he2:parts b s=out:=by
      rcases he with ⟨he,_⟩ | ⟨_,he⟩
      · omega
      · exact he
    rw [he2]
    exact ⟨a,⟨rfl,rfl⟩,_,own⟩
theorem parts_mem {b:UInt8}:∀ (s:Str) (q:Str),q∈parts b s→q.length≤s.length
  | [],q,h=>by simp [parts] at h; subst h; exact Nat.le_refl _
  | c :: cs,q,h=>by
    unfold parts at h
    split at h
    · rcases List.mem_cons.1 h with rfl | h
      · simp
      · have:=parts_mem cs q h; simp; omega
    · have ih:=fun q=>parts_mem cs q (b:=b)
      cases hp:parts b cs with
      | nil=>exact absurd hp (parts_ne b cs)
      | cons x xs =>
        rw [hp] at h ih
        rcases List.mem_cons.1 h with rfl | h
        · have:=ih x (by simp); simp; omega
        · have:=ih q (by simp [h]); simp; omega
def pathGood (p:Str):Bool:=(parts 47 p).head? == some [] && inR (parts 47 p).length 2 5 && ((parts 47 p).drop 1).all nameOk
def pathOk (p:Str):Bool:=p == [47] || pathGood p
def names (p:Str):List Str:=if p=[47] then [] else if pathGood p then (parts 47 p).drop 1 else []
theorem names_root:names [47]=[]:=rfl
theorem names_len (p:Str):(names p).length≤4:=by
  unfold names
  split
  · simp
  split
  · rename_i h
    simp only [pathGood,Bool.and_eq_true] at h
    have:=inR_iff.1 h.1.2
    simp; omega
  · simp
theorem names_mem {p q:Str} (h:q∈names p):nameOk q=true:=by
  unfold names at h
  split at h
  · cases h
  split at h
  · rename_i hg
    simp only [pathGood,Bool.and_eq_true,List.all_eq_true] at hg
    exact hg.2 q h
  · cases h
theorem nameOk_len {q:Str} (h:nameOk q=true):1≤q.length∧q.length≤6:=by
  simp only [nameOk,Bool.and_eq_true,decide_eq_true_eq] at h
  exact h.1
theorem Own.cut {α:Type} {n:Nat} {f:α→List Value} {hn:∀ x,(f x).length=n} {hok:∀ x,(f x).all okCell=true} {h0 h:Hp} {e:TypeId} {xs:List α} {o off:Nat} {F:List Nat} (k:Own h0 e (flatE n f hn hok) h xs (some ⟨o,off,none⟩) F) (i j:Nat) (hij:i≤j) (hj:j≤xs.length) :
    Own h0 e (flatE n f hn hok) h ((xs.take j).drop i) (some ⟨o,off+i * n,none⟩) [o]:=by
  have hF:=k.flatF
  obtain ⟨F',sl,_⟩:=k.sl.part i j hij hj
  have sl2:=sl
  obtain ⟨_,ob,css,Fs,pre,post,g1,g2,g3,g4,rfl,g5,g6,g7⟩:=sl
  rw [flat_nil g5.flat.2] at sl2
  have ho:h0.length≤o:=k.new o (by rw [hF]; simp)
  exact ⟨k.ext,sl2,by simp,fun q hq=>by simp at hq; omega⟩
set_option maxHeartbeats 2000000 in
theorem pathOk_spec_c (p:Str) (h:Hp) (hl:p.length≤1048576) :
    ACall Try.prog 75 [.string (S p)] h fun r h'=>(∃ t,h'=h++t)∧r=.bool (pathOk p):=by
  refine acall mixed Try.func75 rfl (by kernel_rfl) ?_
  simp [Try.f75]
  refine aSI (fun hb=>?_) (fun hb=>?_) <;> (have hb':=hb; simp at hb; simp [hb,hb'])
  · simp [pathOk]
  have hp:=parts_spec_c p 47 h hl
  rw [show ((47:UInt8).toNat:Int)=47 from rfl] at hp
  refine cK hp ?_
  rintro _ _ ⟨a,F,rfl,own⟩
  obtain ⟨u,rfl⟩:=own.ext.pre
  have hlen:=parts_len 47 p
  have hpos:0<(parts 47 p).length:=List.length_pos_iff.2 (parts_ne 47 p)
  obtain ⟨o,off,rfl,c0⟩:=strEAt own.sl hpos
  have hhead:(parts 47 p).head?=some (parts 47 p)[0]:=by rw [List.head?_eq_getElem?]; simp [hpos]
  simp at c0
  simp
  refine cK (l1InR _ 2 5 _) ?_
  rintro _ _ ⟨rfl,rfl⟩
  cases e2:inR (parts 47 p).length 2 5
  · have:pathGood p=false:=by simp [pathGood,e2]
    simp [pathOk,hb,this]
  simp [hpos,c0]
  refine aSI (fun hc=>?_) (fun hc=>?_) <;> (have hc':=hc; simp at hc; simp [hc,hc'])
  rotate_left
  · have:pathGood p=false:=by simp [pathGood,hhead,hc]
    simp [pathOk,hb,this]
  have hall:((parts 47 p).drop 1).all nameOk=pathOk p:=by
    simp [pathOk,hb,pathGood,hhead,hc,e2]
  refine aloop mixed [3,4] (fun (x:Nat × Hp)=>[.slice (some ⟨o,off,none⟩) (parts 47 p).length (parts 47 p).length,.int .i64 x.1]) (fun x=>h++u++x.2) (fun x=>x.1≤(parts 47 p).length∧((parts 47 p).drop x.1).all nameOk=pathOk p) (fun x=>(parts 47 p).length - x.1) (1,[]) ⟨hpos,hall⟩ (by simp [pickF]) (by simp) ?_
  rintro ⟨k,t⟩ ⟨hk,he⟩
  simp only at hk he
  simp [mkF]
  refine aSI (fun hd=>?_) (fun hd=>?_) <;> simp at hd <;> simp [hd]
  · obtain ⟨o',off',ea,ck⟩:=strEAt (own.sl.ext (Ext.push (h++u) t)) hd
    cases ea
    simp at ck
    simp [hd,ck]
    refine cK (nameOk_spec_c _ _ (by have:=parts_mem p _ (List.getElem_mem hd); omega)) ?_
    rintro _ _ ⟨rfl,rfl⟩
    rw [all_drop _ _ _ hd] at he
    cases e3:nameOk (parts 47 p)[k]
    · rw [e3] at he
      simp at he
      simp [he]
    · rw [e3] at he
      simp at he
      simp
      exact anext (k+1,t) ⟨hd,by simpa using he⟩ (by simp only; omega) (by simp [pickF,wS (show k<9223372036854775807 by omega)]) (by simp) (by simp)
  · obtain rfl:k=(parts 47 p).length:=by omega
    rw [List.drop_length] at he
    simp at he
    simp [he]
set_option maxHeartbeats 2000000 in
theorem names_spec_c (p:Str) (h:Hp) (hl:p.length≤1048576) :
    ACall Try.prog 76 [.string (S p)] h fun r h'=>∃ a F,r=.slice a (names p).length (names p).length∧Own h 9 strE h' (names p) a F:=by
  refine acall mixed Try.func76 rfl (by kernel_rfl) ?_
  simp [Try.f76]
  refine cK (pathOk_spec_c p _ hl) ?_
  rintro _ _ ⟨⟨t0,rfl⟩,rfl⟩
  cases e1:pathOk p
  · have hn:names p=[]:=by
      simp only [pathOk,Bool.or_eq_false_iff] at e1
      simp [names,e1.2]
    rw [hn]
    simp
    exact ⟨_,by simpa using (empty1 strE (h++t0) 9).of_new (Ext.push h t0)⟩
  simp
  refine aSI (fun hb=>?_) (fun hb=>?_) <;> (have hb':=hb; simp at hb; simp [hb,hb'])
  · have hn:names p=[]:=by rw [hb,names_root]
    rw [hb] at hn
    rw [hn]
    simp
    exact ⟨_,by simpa using (empty1 strE (h++t0) 9).of_new (Ext.push h t0)⟩
  have hn:names p=(parts 47 p).drop 1:=by
    simp only [pathOk,Bool.or_eq_true,beq_iff_eq,hb,false_or] at e1
    simp [names,hb,e1]
  have hp:=parts_spec_c p 47 (h++t0) hl
  rw [show ((47:UInt8).toNat:Int)=47 from rfl] at hp
  refine cK hp ?_
  rintro _ _ ⟨a,F,rfl,own⟩
  obtain ⟨u,rfl⟩:=own.ext.pre
  have hpos:0<(parts 47 p).length:=List.length_pos_iff.2 (parts_ne 47 p)
  obtain ⟨o,off,rfl,c0⟩:=strEAt own.sl hpos
  have cut:=own.cut 1 (parts 47 p).length (by omega) (Nat.le_refl _)
  rw [List.take_length] at cut
  have hel:=own.sl.el
  have hlen:=parts_len 47 p
  have hcl:((parts 47 p).drop 1).length=(parts 47 p).length - 1:=by simp
  have hge:(1:Int)≤(parts 47 p).length:=by omega
  simp at hel
  simp [asl2_i,hel,hge]
  have hcp:=l1Copy_c ((parts 47 p).drop 1) _ _ true _ _ cut.sl (by rw [hcl]; omega)
  rw [hcl] at hcp
  simp at hcp
  refine cK hcp ?_
  rintro _ _ ⟨a2,rfl,F2,own2⟩
  simp [hn]
  exact ⟨_,own2.of_new (by simpa using Ext.push h (t0++u))⟩
theorem parts_app (b:UInt8) (y:Str):∀ x:Str,parts b (x++b :: y)=parts b x++parts b y
  | []=>by simp [parts]
  | c :: x=>by
    have ih:=parts_app b y x
    simp only [List.cons_append,parts]
    rw [ih]
    split
    · rfl
    · cases hx:parts b x with
      | nil=>exact absurd hx (parts_ne b x)
      | cons q qs=>rfl
def rawP:List Str→Str
  | []=>[]
  | x :: xs=>47 :: (x++rawP xs)
theorem parts_raw:∀ (xs:List Str) (x:Str),parts 47 (x++rawP xs)=parts 47 x++(xs.map (parts 47)).flatten
  | [],x=>by simp [rawP]
  | y :: ys,x=>by
    simp only [rawP,List.map_cons,List.flatten_cons]
    rw [parts_app,parts_raw ys y]
theorem parts_raw_cons (x:Str) (xs:List Str):parts 47 (rawP (x :: xs))=[] :: ((x :: xs).map (parts 47)).flatten:=by
  simp only [rawP,parts,if_true,List.map_cons,List.flatten_cons]
  rw [parts_raw]
theorem raw_tail:∀ xs:List Str,rawP xs=Lib.joinTail [47] xs
  | []=>rfl
  | x :: xs=>by
    have:=raw_tail xs
    simp only [rawP,Lib.joinTail,List.map_cons,List.flatten_cons] at *
    rw [this]; rfl
theorem raw_join (x:Str) (xs:List Str):47 :: Lib.join (x :: xs) [47]=rawP (x :: xs):=by
  rw [Lib.join_cons,rawP,raw_tail]
theorem parts_none {b:UInt8}:∀ x:Str,(∀ c∈x,c≠b)→parts b x=[x]
  | [],_=>rfl
  | c :: x,h=>by
    rw [parts,if_neg (h c (by simp)),parts_none x fun d hd=>h d (by simp [hd])]
    rfl
theorem nameOk_parts {x:Str} (h:nameOk x=true):parts 47 x=[x]:=by
  refine parts_none x fun c hc e=>?_
  simp only [nameOk,Bool.and_eq_true,List.all_eq_true] at h
  have:=h.2 c hc
  subst e
  revert this
  decide
theorem flat_ok:∀ l:List Str,l.all nameOk=true→(l.map (parts 47)).flatten=l
  | [],_=>rfl
  | x :: xs,h=>by
    simp only [List.all_cons,Bool.and_eq_true] at h
    simp only [List.map_cons,List.flatten_cons]
    rw [nameOk_parts h.1,flat_ok xs h.2]
    rfl
def pathOf (l:List Str):Str:=if decide (4<l.length) || l.any (fun s=>!nameOk s) then [] else 47 :: Lib.join l [47]
def above (p:Str):Str:=if pathOk p then pathOf ((names p).take ((names p).length - 1)) else []
end Go.Proofs.Ytmpgpkdijfcfhaa.Hz
