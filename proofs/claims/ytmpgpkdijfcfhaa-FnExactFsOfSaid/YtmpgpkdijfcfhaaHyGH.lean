/- Texts of the calculus and of the program's functions, merged: MG FO NW0. -/
import Derived.Test.YtmpgpkdijfcfhaaHyGF
import Derived.Test.YtmpgpkdijfcfhaaHyGE
/- The laws' marks on nodes and images of file systems: the walks. -/
namespace Go.Proofs.Ytmpgpkdijfcfhaa.Hz
open Go.RowKit
set_option linter.unusedVariables false
set_option linter.unusedSimpArgs false
set_option maxRecDepth 20000
theorem Own.nodeField' {h0 h:Hp} {e:TypeId} {xs:List Node} {F:List Nat} {o off:Nat} (k:Own h0 e (nodeE true) h xs (some ⟨o,off,none⟩) F) {i:Nat} {x:Node} (hx:xs[i]?=some x) (j:Nat) (v:Int) (x':Node) (hj:j<4) (hb:x'.blocks=x.blocks)
    (hs:∀ sl:Value,setL [.int .i64 x.kind,.int .i64 x.gen,.int .i64 x.time,.int .i64 x.size,sl] j [.int .i64 v]=[.int .i64 x'.kind,.int .i64 x'.gen,.int .i64 x'.time,.int .i64 x'.size,sl]) :
    canSet h o (off+i * 5+j) 1=true∧Own h0 e (nodeE true) (setsAt h o (off+i * 5+j) [.int .i64 v]) (xs.set i x') (some ⟨o,off,none⟩) F:=by
  obtain ⟨c,Fi,⟨a1,F1,rfl,rfl,sl⟩,_,_,_,_,hput⟩:=k.row hx
  exact hput j [.int .i64 v] x' (by show j+1≤5; omega) ⟨a1,_,by rw [hs,hb],rfl,by rw [hb]; exact sl⟩
theorem Own.memF {α:Type} {A:Enc α} {h0 h:Hp} {e:TypeId} {xs:List α} {F:List Nat} {o off:Nat} (k:Own h0 e A h xs (some ⟨o,off,none⟩) F):o∈F:=by
  obtain ⟨_,ob,css,Fs,pre,post,g1,g2,g3,g4,rfl,_⟩:=k.sl
  exact List.mem_cons_self
set_option maxHeartbeats 2000000 in
theorem markNodeS_c (es:List Node) (k:Nat) (a:Option Addr) (F:List Nat) (h:Hp) (own:Own [] 49 (nodeE true) h es a F) (hk:k+4 * es.length+sumL Node.nl es≤1073741824) :
    ACall Try.prog 35 [.slice a es.length es.length,.int .i64 k] h fun r h'=>r=.int .i64 (kAt es k es.length:Nat)∧Own [] 49 (nodeE true) h' (mkNodes es k) a F∧(∀ q,q<h.length→q ∉ F→h'[q]?=h[q]?)∧h.length≤h'.length:=by
  refine acall mixed Try.func35 rfl (by kernel_rfl) ?_
  have hml:=mkNodes_len es k
  have hk0:kAt es k 0=k:=by simp [kAt,sumL]
  simp [Try.f35]
  refine aloop mixed [0,1,5] (fun (x:Nat × Hp)=>[.slice a es.length es.length,.int .i64 (kAt es k x.1:Nat),.int .i64 x.1]) (fun x=>x.2) (fun x=>x.1≤es.length∧Own [] 49 (nodeE true) x.2 ((mkNodes es k).take x.1++es.drop x.1) a F∧(∀ q,q<h.length→q ∉ F→x.2[q]?=h[q]?)∧h.length≤x.2.length) (fun x=>es.length - x.1) (0,h) ⟨by simp,by simpa using own,fun q _ _=>rfl,Nat.le_refl _⟩ (by simp [pickF,hk0]) rfl ?_
  rintro ⟨j,H⟩ ⟨hj,oj,keep,hlen⟩
  simp only at hj oj keep hlen
  simp [mkF]
  refine asplitK_intro (fun hb=>?_) (fun hb=>?_) <;> simp at hb <;> simp [hb]
  · have hjl:j<((mkNodes es k).take j++es.drop j).length:=by simp [hml]; omega
    have hjm:j<(mkNodes es k).length:=by omega
    obtain ⟨o,off,b0,G0,rfl,-,-,-,-,-,-,-⟩:=nodeAt oj.sl hjl
    have hLj:((mkNodes es k).take j++es.drop j)[j]?=some es[j]:=by
      rw [List.getElem?_append_right (by simp; omega)]
      have e1:j - ((mkNodes es k).take j).length=0:=by simp; omega
      rw [e1,List.getElem?_drop]
      simp [hb]
    have hg:=mkNodes_get es k j hjm hb
    have hkn:=kAt_le es k (j+1)
    have hks:=kAt_succ es k j hb
    have hbl:es[j].blocks.length≤sumL Node.nl es:=sumL_mem Node.nl (List.getElem_mem hb)
    obtain ⟨K,hK⟩:∃ K,K=kAt es k j:=⟨_,rfl⟩
    rw [← hK] at hg hks
    rw [← hK]
    have hKb:K+4+es[j].blocks.length≤1073741824:=by omega
    obtain ⟨hc1,o1⟩:=oj.nodeField' hLj 0 (K:Int) ⟨(K:Int),es[j].gen,es[j].time,es[j].size,es[j].blocks⟩ (by omega) rfl (fun sl=>rfl)
    have hm1:∀ (x:Node),(((mkNodes es k).take j++es.drop j).set j x)[j]?=some x:=fun x=>by rw [List.getElem?_set_self hjl]
    obtain ⟨hc2,o2⟩:=o1.nodeField' (hm1 _) 1 ((K:Int)+1) ⟨(K:Int),(K:Int)+1,es[j].time,es[j].size,es[j].blocks⟩ (by omega) rfl (fun sl=>rfl)
    rw [List.set_set] at o2
    obtain ⟨hc3,o3⟩:=o2.nodeField' (hm1 _) 2 ((K:Int)+2) ⟨(K:Int),(K:Int)+1,(K:Int)+2,es[j].size,es[j].blocks⟩ (by omega) rfl (fun sl=>rfl)
    rw [List.set_set] at o3
    obtain ⟨hc4,o4⟩:=o3.nodeField' (hm1 _) 3 ((K:Int)+3) ⟨(K:Int),(K:Int)+1,(K:Int)+2,(K:Int)+3,es[j].blocks⟩ (by omega) rfl (fun sl=>rfl)
    rw [List.set_set] at o4
    obtain ⟨c,Fi,⟨b1,G1,rfl,rfl,sl⟩,hFn,hFs,hcell,hin,_⟩:=o4.row (hm1 _)
    have hcs:=hcell 4 (by show 4<5; omega)
    simp at hcs hc1 hc2 hc3 hc4
    have w1:IntKind.i64.wrap ((K:Int)+1)=(K:Int)+1:=wrap_in (by omega) (by omega)
    have w2:IntKind.i64.wrap ((K:Int)+1+1)=(K:Int)+2:=by rw [wrap_in (by omega) (by omega)]; omega
    have w3:IntKind.i64.wrap ((K:Int)+2+1)=(K:Int)+3:=by rw [wrap_in (by omega) (by omega)]; omega
    have w4:IntKind.i64.wrap ((K:Int)+3+1)=((K+4:Nat):Int):=by rw [wrap_in (by omega) (by omega)]; omega
    have hn5:(nodeE true).n=5:=rfl
    simp only [hn5] at hcs
    simp [hb,hc1,w1,hc2,w2,hc3,w3,hc4,w4,hcs]
    simp only [Nat.add_zero] at o4 sl hin
    have keep4:∀ (v1 v2 v3 v4:Value) (q:Nat),q<h.length→q ∉ F→(setsAt (setsAt (setsAt (setsAt H o (off+j * 5) [v1]) o (off+j * 5+1) [v2]) o (off+j * 5+2) [v3]) o (off+j * 5+3) [v4])[q]?=h[q]?:=fun v1 v2 v3 v4 q hq hm=>by
      have hqo:¬ (o=q):=fun e=>hm (e ▸ oj.memF)
      rw [setsAt_get,if_neg hqo,setsAt_get,if_neg hqo,setsAt_get,if_neg hqo,setsAt_get,if_neg hqo]
      exact keep q hq hm
    have len4:∀ (v1 v2 v3 v4:Value),(setsAt (setsAt (setsAt (setsAt H o (off+j * 5) [v1]) o (off+j * 5+1) [v2]) o (off+j * 5+2) [v3]) o (off+j * 5+3) [v4]).length=H.length:=fun v1 v2 v3 v4=>by
      rw [setsAt_len,setsAt_len,setsAt_len,setsAt_len]
    have hl4:=len4 (.int .i64 K) (.int .i64 ((K:Int)+1)) (.int .i64 ((K:Int)+2)) (.int .i64 ((K:Int)+3))
    have hk4:=keep4 (.int .i64 K) (.int .i64 ((K:Int)+1)) (.int .i64 ((K:Int)+2)) (.int .i64 ((K:Int)+3))
    generalize setsAt (setsAt (setsAt (setsAt H o (off+j * 5) [.int .i64 K]) o (off+j * 5+1) [.int .i64 ((K:Int)+1)]) o (off+j * 5+2) [.int .i64 ((K:Int)+2)]) o (off+j * 5+3) [.int .i64 ((K:Int)+3)]=H4 at o4 sl hin hl4 hk4 ⊢
    have hmi:=markIntS_c es[j].blocks (K+4) b1 Fi H4 (Own.any sl hFn) (by omega)
    simp only [Int.natCast_add,Int.cast_ofNat_Int] at hmi
    refine callK0 hmi ?_
    rintro _ H5 ⟨rfl,omi,keep5,len5⟩
    have o5:=hin H5 (mkNode es[j] K) ⟨Nat.zero_le _,fun _ hq=>by simp at hq⟩ (fun q hq hn=>keep5 q (o4.sl.lt q hq) hn) ⟨b1,_,by simp [mkNode,mkInts_len],rfl,omi.sl⟩
    rw [List.set_set,← hg,take_drop_set hjm hml] at o5
    simp
    exact anext (j+1,H5) ⟨hb,o5,fun q hq hm=>(keep5 q (by omega) (fun hh=>hm (hFs q hh).1)).trans (hk4 q hq hm),by simp only; omega⟩ (by simp only; omega) (by simp [pickF,hks,wrap_succ (show j<9223372036854775807 by omega)]) rfl (by simp)
  · obtain rfl:j=es.length:=by omega
    rw [List.drop_length,List.append_nil,List.take_of_length_le (by omega)] at oj
    exact ⟨rfl,oj,keep,hlen⟩
set_option maxHeartbeats 2000000 in
theorem heldNodeS_c (es:List Node) (k:Nat) (a:Option Addr) (F:List Nat) (w:Bool) (t:TypeId) (h:Hp) (hr:slR w t (nodeE w) h (mkNodes es k) a F) (hk:k+4 * es.length+sumL Node.nl es≤1073741824) :
    ACall Try.prog 36 [.slice a es.length es.length,.int .i64 k] h fun r h'=>(∃ t,h'=h++t)∧r=.int .i64 (kAt es k es.length:Nat):=by
  refine acall mixed Try.func36 rfl (by kernel_rfl) ?_
  have hml:=mkNodes_len es k
  have hk0:kAt es k 0=k:=by simp [kAt,sumL]
  simp [Try.f36]
  refine aloop mixed [0,1,5] (fun (x:Nat × Hp)=>[.slice a es.length es.length,.int .i64 (kAt es k x.1:Nat),.int .i64 x.1]) (fun x=>h++x.2) (fun x=>x.1≤es.length) (fun x=>es.length - x.1) (0,[]) (by simp) (by simp [pickF,hk0]) (by simp) ?_
  rintro ⟨j,t⟩ hj
  simp only at hj
  simp [mkF]
  refine asplitK_intro (fun hb=>?_) (fun hb=>?_) <;> simp at hb <;> simp [hb]
  · have hjm:j<(mkNodes es k).length:=by omega
    obtain ⟨o,off,b1,G1,rfl,c0,c1,c2,c3,c4,kb,-⟩:=nodeAt (hr.ext (Ext.push h t)) hjm
    have hg:=mkNodes_get es k j hjm hb
    have hkn:=kAt_le es k (j+1)
    have hks:=kAt_succ es k j hb
    obtain ⟨K,hK⟩:∃ K,K=kAt es k j:=⟨_,rfl⟩
    rw [← hK] at hg hks
    rw [hg] at c0 c1 c2 c3 c4 kb
    rw [← hK]
    have hKb:K+4+es[j].blocks.length≤1073741824:=by omega
    have w1:IntKind.i64.wrap ((K:Int)+1)=(K:Int)+1:=wrap_in (by omega) (by omega)
    have w2:IntKind.i64.wrap ((K:Int)+1+1)=(K:Int)+2:=by rw [wrap_in (by omega) (by omega)]; omega
    have w3:IntKind.i64.wrap ((K:Int)+2+1)=(K:Int)+3:=by rw [wrap_in (by omega) (by omega)]; omega
    have w4:IntKind.i64.wrap ((K:Int)+3+1)=(K:Int)+4:=by rw [wrap_in (by omega) (by omega)]; omega
    simp [mkNode,mkInts_len] at c0 c1 c2 c3 c4
    have hpos:¬ ((K:Int)+4+es[j].blocks.length<0):=by omega
    simp [hb,c0,w1,c1,w2,c2,w3,c3,w4,c4]
    have hmi:=heldIntS_c es[j].blocks.length (K+4) b1 G1 w _ _ kb (by omega)
    simp only [Int.natCast_add,Int.cast_ofNat_Int] at hmi
    refine callK0 hmi ?_
    rintro _ _ ⟨⟨t2,rfl⟩,rfl⟩
    simp [hpos]
    exact anext (j+1,t++t2) hb (by simp only; omega) (by simp [pickF,hks,wrap_succ (show j<9223372036854775807 by omega)]) (by simp) (by simp)
  · obtain rfl:j=es.length:=by omega
    rfl
def kFs (f:Fs) (k:Nat):Nat:=kAt f.nodes k f.nodes.length+f.data.length
theorem kFs_le (f:Fs) (hl:f.nl≤1048576):kAt f.nodes 1 f.nodes.length≤10000000∧kFs f 1≤20000000∧1+4 * f.nodes.length+sumL Node.nl f.nodes≤10000000∧f.data.length≤1048576:=by
  have h1:=kAt_le f.nodes 1 f.nodes.length
  have e:f.nl=f.nodes.length+sumL Node.nl f.nodes+f.data.length+sumL List.length f.data:=rfl
  unfold kFs
  omega
theorem markFs_c (f:Fs) (a1 a2:Option Addr) (F1 F2:List Nat) (h:Hp) (o1:Own [] 49 (nodeE true) h f.nodes a1 F1) (o2:Own [] 9 strE h f.data a2 F2) (dis:∀ q∈F1,q ∉ F2) (hl:f.nl≤1048576) :
    ACall Try.prog 12 [.agg #[.slice a1 f.nodes.length f.nodes.length,.slice a2 f.data.length f.data.length],.int .i64 1] h fun r h'=>r=.int .i64 (kFs f 1:Nat)∧Own [] 49 (nodeE true) h' (mkNodes f.nodes 1) a1 F1∧Own [] 9 strE h' (mkStrs f.data.length (kAt f.nodes 1 f.nodes.length)) a2 F2∧(∀ q,q<h.length→q ∉ F1→q ∉ F2→h'[q]?=h[q]?)∧h.length≤h'.length:=by
  refine acall mixed Try.func12 rfl (by kernel_rfl) ?_
  obtain ⟨b1,b2,b3,b4⟩:=kFs_le f hl
  simp [Try.f12]
  have hm1:=markNodeS_c f.nodes 1 a1 F1 _ (o1.to (h':=h++[⟨true,true,26,[.slice a1 f.nodes.length f.nodes.length,.slice a2 f.data.length f.data.length]⟩]) ⟨_,rfl⟩) (by omega)
  simp only [Int.cast_ofNat_Int,Int.natCast_one] at hm1
  refine callK0 hm1 ?_
  rintro _ H1 ⟨rfl,om1,keep1,len1⟩
  have hbx:h.length ∉ F1:=fun hm=>Nat.lt_irrefl _ (o1.sl.lt _ hm)
  have hcell:cellAt H1 h.length 1=some (.slice a2 f.data.length f.data.length):=by
    rw [cellAt_get (keep1 h.length (by simp) hbx)]
    simp
  simp at len1
  have o2':Own [] 9 strE H1 f.data a2 F2:=Own.any (slR.frame (o2.sl.to (by simp)) (fun q hq=>keep1 q (by have:=o2.sl.lt q hq; simp; omega) (fun hm=>dis q hm hq))) o2.nd
  simp [hcell]
  refine callK0 (markStringS_c f.data (kAt f.nodes 1 f.nodes.length) a2 F2 H1 o2' (by omega)) ?_
  rintro _ H2 ⟨rfl,om2,keep2,len2⟩
  simp
  refine ⟨by simp [kFs],Own.any (slR.frame om1.sl (fun q hq=>keep2 q (om1.sl.lt q hq) (dis q hq))) om1.nd,om2,fun q hq hn1 hn2=>?_,by omega⟩
  rw [keep2 q (by omega) hn2,keep1 q (by simp; omega) hn1,List.getElem?_append_left hq]
theorem heldFs_c (f:Fs) (a1 a2:Option Addr) (F1 F2:List Nat) (h:Hp) (o1:slR true 49 (nodeE true) h (mkNodes f.nodes 1) a1 F1) (o2:slR true 9 strE h (mkStrs f.data.length (kAt f.nodes 1 f.nodes.length)) a2 F2) (hl:f.nl≤1048576) :
    ACall Try.prog 13 [.agg #[.slice a1 f.nodes.length f.nodes.length,.slice a2 f.data.length f.data.length],.int .i64 1] h fun r h'=>(∃ t,h'=h++t)∧r=.int .i64 (kFs f 1:Nat):=by
  refine acall mixed Try.func13 rfl (by kernel_rfl) ?_
  obtain ⟨b1,b2,b3,b4⟩:=kFs_le f hl
  simp [Try.f13]
  have hm1:=heldNodeS_c f.nodes 1 a1 F1 true _ _ (o1.to (h':=h++[⟨true,true,26,[.slice a1 f.nodes.length f.nodes.length,.slice a2 f.data.length f.data.length]⟩]) ⟨_,rfl⟩) (by omega)
  simp only [Int.cast_ofNat_Int,Int.natCast_one] at hm1
  refine callK0 hm1 ?_
  rintro _ _ ⟨⟨t1,rfl⟩,rfl⟩
  have hp1:¬ (((kAt f.nodes 1 f.nodes.length:Nat):Int)<0):=by omega
  simp [hp1]
  refine callK0 (heldStringS_c f.data.length (kAt f.nodes 1 f.nodes.length) a2 F2 true _ _ (o2.to (by simp)) (by omega)) ?_
  rintro _ _ ⟨⟨t2,rfl⟩,rfl⟩
  have hp2:¬ (((kAt f.nodes 1 f.nodes.length:Nat):Int)+f.data.length<0):=by omega
  simp [hp2,kFs]
end Go.Proofs.Ytmpgpkdijfcfhaa.Hz
/- A file system's image that is copied,turned and given back. -/
namespace Go.Proofs.Ytmpgpkdijfcfhaa.Hz
open Go.RowKit
set_option linter.unusedVariables false
set_option linter.unusedSimpArgs false
set_option maxRecDepth 20000
structure FsOut (f0:Fs) (a1 a2:Option Addr) (h:Hp) (oi:Nat) (f:Fs) (an ad:Option Addr) (H:Hp):Prop where
  ext:Ext h H
  box:H[h.length]?=some ⟨true,true,26,[.slice a1 f0.nodes.length f0.nodes.length,.slice a2 f0.data.length f0.data.length]⟩
  res:∃ x y,H[h.length+1]?=some ⟨true,true,26,[x,y]⟩
  out:H[oi]?=some ⟨true,true,26,[.slice an f.nodes.length f.nodes.length,.slice ad f.data.length f.data.length]⟩
  oi2:h.length+2≤oi
  own:∃ Fn Fd,Own h 49 (nodeE true) H f.nodes an Fn∧Own h 9 strE H f.data ad Fd∧(∀ q∈Fn,h.length+2≤q∧q≠oi∧q ∉ Fd)∧∀ q∈Fd,h.length+2≤q∧q≠oi
section
variable {f0 f:Fs} {a1 a2 an ad:Option Addr} {h H:Hp} {oi:Nat}
theorem FsOut.cells (k:FsOut f0 a1 a2 h oi f an ad H) :
    cellAt H oi 0=some (.slice an f.nodes.length f.nodes.length)∧cellAt H oi 1=some (.slice ad f.data.length f.data.length)∧cellAt H h.length 0=some (.slice a1 f0.nodes.length f0.nodes.length)∧cellAt H h.length 1=some (.slice a2 f0.data.length f0.data.length):=by
  refine ⟨?_,?_,?_,?_⟩
  · rw [cellAt_of_get k.out rfl]; rfl
  · rw [cellAt_of_get k.out rfl]; rfl
  · rw [cellAt_of_get k.box rfl]; rfl
  · rw [cellAt_of_get k.box rfl]; rfl
theorem FsOut.grow (k:FsOut f0 a1 a2 h oi f an ad H) (t:Hp):FsOut f0 a1 a2 h oi f an ad (H++t):=by
  obtain ⟨ext,box,res,out,oi2,Fn,Fd,own,dat,dn,dd⟩:=k
  have xx:=Ext.push H t
  refine ⟨ext.trans xx,?_,?_,?_,oi2,Fn,Fd,own.grow xx,dat.grow xx,dn,dd⟩
  · rw [xx.2 _ (get_lt box)]; exact box
  · obtain ⟨x,y,res⟩:=res; exact ⟨x,y,by rw [xx.2 _ (get_lt res)]; exact res⟩
  · rw [xx.2 _ (get_lt out)]; exact out
theorem FsOut.start {u:Hp} {F1 F2:List Nat}
    (o1:Own (h++[⟨true,true,26,[.slice a1 f0.nodes.length f0.nodes.length,.slice a2 f0.data.length f0.data.length]⟩,⟨true,true,26,[.slice none 0 0,.slice none 0 0]⟩]) 49 (nodeE true) (h++⟨true,true,26,[.slice a1 f0.nodes.length f0.nodes.length,.slice a2 f0.data.length f0.data.length]⟩ :: ⟨true,true,26,[.slice none 0 0,.slice none 0 0]⟩ :: u) f0.nodes an F1)
    (o2:Own (h++[⟨true,true,26,[.slice a1 f0.nodes.length f0.nodes.length,.slice a2 f0.data.length f0.data.length]⟩,⟨true,true,26,[.slice none 0 0,.slice none 0 0]⟩]) 9 strE (h++⟨true,true,26,[.slice a1 f0.nodes.length f0.nodes.length,.slice a2 f0.data.length f0.data.length]⟩ :: ⟨true,true,26,[.slice none 0 0,.slice none 0 0]⟩ :: u) f0.data ad F2)
    (dis:∀ q∈F1,q ∉ F2) :
    FsOut f0 a1 a2 h (h.length+(u.length+1+1)) f0 an ad (h++⟨true,true,26,[.slice a1 f0.nodes.length f0.nodes.length,.slice a2 f0.data.length f0.data.length]⟩ :: ⟨true,true,26,[.slice none 0 0,.slice none 0 0]⟩ :: (u++[⟨true,true,26,[.slice an f0.nodes.length f0.nodes.length,.slice ad f0.data.length f0.data.length]⟩])) where
  ext:=Ext.push _ _
  box:=by simp
  res:=⟨.slice none 0 0,.slice none 0 0,by simp⟩
  out:=by
    rw [List.getElem?_append_right (by omega)]
    simp
  oi2:=by omega
  own:=by
    have e0:Ext h (h++[⟨true,true,26,[.slice a1 f0.nodes.length f0.nodes.length,.slice a2 f0.data.length f0.data.length]⟩,⟨true,true,26,[.slice none 0 0,.slice none 0 0]⟩]):=Ext.push _ _
    have p1:=(Own.of_new e0 o1).grow (Ext.push _ [⟨true,true,26,[.slice an f0.nodes.length f0.nodes.length,.slice ad f0.data.length f0.data.length]⟩])
    have p2:=(Own.of_new e0 o2).grow (Ext.push _ [⟨true,true,26,[.slice an f0.nodes.length f0.nodes.length,.slice ad f0.data.length f0.data.length]⟩])
    refine ⟨F1,F2,by simpa using p1,by simpa using p2,fun q hq=>?_,fun q hq=>?_⟩
    · have h1:=o1.new q hq
      have h2:=o1.sl.lt q hq
      simp at h1 h2
      exact ⟨by omega,by omega,dis q hq⟩
    · have h1:=o2.new q hq
      have h2:=o2.sl.lt q hq
      simp at h1 h2
      exact ⟨by omega,by omega⟩
theorem FsOut.done (k:FsOut f0 a1 a2 h oi f an ad H) (vs:List Value) (hvs:vs.length=2) :
    canSet H (h.length+1) 0 2=true∧cellAt (setsAt H (h.length+1) 0 vs) (h.length+1) 0=vs[0]?∧cellAt (setsAt H (h.length+1) 0 vs) (h.length+1) 1=vs[1]? ∧
      ∃ G1 G2,Own h 49 (nodeE true) (setsAt H (h.length+1) 0 vs) f.nodes an G1∧Own h 9 strE (setsAt H (h.length+1) 0 vs) f.data ad G2∧∀ q∈G1,q ∉ G2:=by
  obtain ⟨ext,box,⟨x,y,res⟩,out,oi2,Fn,Fd,own,dat,dn,dd⟩:=k
  have hg:(setsAt H (h.length+1) 0 vs)[h.length+1]?=some ⟨true,true,26,vs⟩:=by
    rw [setsAt_get,if_pos rfl,res]
    simp only [Option.map_some]
    rw [setL_all _ _ (by simpa using hvs)]
  have hne:∀ q,h.length+2≤q→(setsAt H (h.length+1) 0 vs)[q]?=H[q]?:=fun q hq=>by rw [setsAt_get,if_neg (by omega)]
  refine ⟨by simp [canSet,res],by rw [cellAt_of_get hg rfl],by rw [cellAt_of_get hg rfl],Fn,Fd,⟨own.ext.set (by omega) 0 _,own.sl.frame fun q hq=>hne q (dn q hq).1,own.nd,own.new⟩,⟨dat.ext.set (by omega) 0 _,dat.sl.frame fun q hq=>hne q (dd q hq).1,dat.nd,dat.new⟩,fun q hq=>(dn q hq).2.2⟩
theorem FsOut.field {o off:Nat} (k:FsOut f0 a1 a2 h oi f (some ⟨o,off,none⟩) ad H) {i:Nat} {x:Node} (hx:f.nodes[i]?=some x) (j:Nat) (v:Int) (x':Node) (hj:j<4) (hb:x'.blocks=x.blocks)
    (hs:∀ sl:Value,setL [.int .i64 x.kind,.int .i64 x.gen,.int .i64 x.time,.int .i64 x.size,sl] j [.int .i64 v]=[.int .i64 x'.kind,.int .i64 x'.gen,.int .i64 x'.time,.int .i64 x'.size,sl]) :
    canSet H o (off+i * 5+j) 1=true∧FsOut f0 a1 a2 h oi ⟨f.nodes.set i x',f.data⟩ (some ⟨o,off,none⟩) ad (setsAt H o (off+i * 5+j) [.int .i64 v]):=by
  obtain ⟨ext,box,⟨y,z,res⟩,out,oi2,Fn,Fd,own,dat,dn,dd⟩:=k
  obtain ⟨hc,own'⟩:=own.nodeField' hx j v x' hj hb hs
  have ho:=dn o own.memF
  have hne:∀ q,q≠o→(setsAt H o (off+i * 5+j) [.int .i64 v])[q]?=H[q]?:=fun q hq=>by rw [setsAt_get,if_neg (fun e=>hq e.symm)]
  refine ⟨hc,⟨own'.ext,by rw [hne _ (by omega)]; exact box,⟨y,z,by rw [hne _ (by omega)]; exact res⟩,by rw [hne _ (Ne.symm ho.2.1),List.length_set]; exact out,oi2,Fn,Fd,own',⟨own'.ext,dat.sl.frame fun q hq=>hne q fun e=>ho.2.2 (e ▸ hq),dat.nd,dat.new⟩,dn,dd⟩⟩
theorem FsOut.clear {o off:Nat} (k:FsOut f0 a1 a2 h oi f (some ⟨o,off,none⟩) ad H) {i:Nat} (hi:i<f.nodes.length) :
    canSet H o (off+i * 5) 5=true∧FsOut f0 a1 a2 h oi ⟨f.nodes.set i ⟨0,0,0,0,[]⟩,f.data⟩ (some ⟨o,off,none⟩) ad (setsAt H o (off+i * 5) [.int .i64 0,.int .i64 0,.int .i64 0,.int .i64 0,.slice none 0 0]):=by
  obtain ⟨ext,box,⟨y,z,res⟩,out,oi2,Fn,Fd,own,dat,dn,dd⟩:=k
  obtain ⟨c,Fi,hR,hFi,_,hput⟩:=own.put (List.getElem?_eq_getElem hi)
  have hl:c.length=5:=(nodeE true).len hR
  have hset:setL c 0 [.int .i64 0,.int .i64 0,.int .i64 0,.int .i64 0,.slice none 0 0]=[.int .i64 0,.int .i64 0,.int .i64 0,.int .i64 0,.slice none 0 0]:=setL_all _ c (by rw [hl]; rfl)
  obtain ⟨hc,F',own',_,sub⟩:=hput 0 [.int .i64 0,.int .i64 0,.int .i64 0,.int .i64 0,.slice none 0 0] ⟨0,0,0,0,[]⟩ [] (by show 0+5≤5; omega) (by rw [hset]; exact ⟨none,[],rfl,rfl,rfl,rfl⟩) (by simp) List.nodup_nil (fun q hq=>by cases hq)
  have hn5:(nodeE true).n=5:=rfl
  simp only [hn5,Nat.add_zero] at hc own'
  have ho:=dn o own.memF
  have sub':∀ q∈F',q∈Fn:=fun q hq=>by simpa using sub q hq
  have hne:∀ q,q≠o→(setsAt H o (off+i * 5) [.int .i64 0,.int .i64 0,.int .i64 0,.int .i64 0,.slice none 0 0])[q]?=H[q]?:=fun q hq=>by rw [setsAt_get,if_neg (fun e=>hq e.symm)]
  refine ⟨hc,⟨own'.ext,by rw [hne _ (by omega)]; exact box,⟨y,z,by rw [hne _ (by omega)]; exact res⟩,by rw [hne _ (Ne.symm ho.2.1),List.length_set]; exact out,oi2,F',Fd,own',⟨own'.ext,dat.sl.frame fun q hq=>hne q fun e=>ho.2.2 (e ▸ hq),dat.nd,dat.new⟩,fun q hq=>dn q (sub' q hq),dd⟩⟩
theorem FsOut.put {o off:Nat} (k:FsOut f0 a1 a2 h oi f an (some ⟨o,off,none⟩) H) {b:Nat} (hb:b<f.data.length) (s:Str) :
    canSet H o (off+b) 1=true∧FsOut f0 a1 a2 h oi ⟨f.nodes,f.data.set b s⟩ an (some ⟨o,off,none⟩) (setsAt H o (off+b) [.string (S s)]):=by
  obtain ⟨ext,box,⟨y,z,res⟩,out,oi2,Fn,Fd,own,dat,dn,dd⟩:=k
  obtain ⟨c,Fi,⟨rfl,rfl⟩,hFi,_,hput⟩:=dat.put (List.getElem?_eq_getElem hb)
  obtain ⟨hc,F',dat',_,sub⟩:=hput 0 [.string (S s)] s [] (by show 0+1≤1; omega) ⟨rfl,rfl⟩ (by simp) List.nodup_nil (fun q hq=>by cases hq)
  have hn1:(strE).n=1:=rfl
  simp only [hn1,Nat.add_zero,Nat.mul_one] at hc dat'
  have ho:o∈Fd:=dat.memF
  have ho2:=dd o ho
  have sub':∀ q∈F',q∈Fd:=fun q hq=>by simpa using sub q hq
  have hne:∀ q,q≠o→(setsAt H o (off+b) [.string (S s)])[q]?=H[q]?:=fun q hq=>by rw [setsAt_get,if_neg (fun e=>hq e.symm)]
  refine ⟨hc,⟨dat'.ext,by rw [hne _ (by omega)]; exact box,⟨y,z,by rw [hne _ (by omega)]; exact res⟩,by rw [hne _ (Ne.symm ho2.2),List.length_set]; exact out,oi2,Fn,F',⟨dat'.ext,own.sl.frame fun q hq=>hne q fun e=>(dn q hq).2.2 (e ▸ ho),own.nd,own.new⟩,dat',fun q hq=>⟨(dn q hq).1,(dn q hq).2.1,fun hm=>(dn q hq).2.2 (sub' q hm)⟩,fun q hq=>dd q (sub' q hq)⟩⟩
end
end Go.Proofs.Ytmpgpkdijfcfhaa.Hz
/- NodeMake and NodeDrop: both programs. -/
namespace Go.Proofs.Ytmpgpkdijfcfhaa.Hz
open Go.RowKit
set_option linter.unusedVariables false
set_option linter.unusedSimpArgs false
set_option maxRecDepth 20000
def FsRes (f:Fs) (h h':Hp) (v:Value):Prop:=∃ b1 G1 b2 G2,v=.agg #[.slice b1 f.nodes.length f.nodes.length,.slice b2 f.data.length f.data.length]∧Own h 49 (nodeE true) h' f.nodes b1 G1∧Own h 9 strE h' f.data b2 G2∧∀ q∈G1,q ∉ G2
end Go.Proofs.Ytmpgpkdijfcfhaa.Hz
