/- Texts of the calculus and of the program's functions, merged: MF CF CG. -/
import Derived.Test.YtmpgpkdijfcfhaaHyGD
import Derived.Test.YtmpgpkdijfcfhaaHyGC
/- The laws' marks on integers, texts, nodes and images of file systems. -/
namespace Go.Proofs.Ytmpgpkdijfcfhaa.Hz
open Go.RowKit
set_option linter.unusedVariables false
set_option linter.unusedSimpArgs false
set_option maxRecDepth 20000
section
variable {α:Type} {A:Enc α} {h0 h:Hp} {e:TypeId} {xs:List α} {F:List Nat} {o off:Nat}
theorem Own.row (k:Own h0 e A h xs (some ⟨o,off,none⟩) F) {i:Nat} {x:α} (hx:xs[i]?=some x) :
    ∃ c Fi,A.R h x c Fi∧Fi.Nodup∧(∀ q∈Fi,q∈F∧q≠o)∧(∀ j,j<A.n→cellAt h o (off+i * A.n+j)=c[j]?) ∧
      (∀ (H':Hp) (x':α),Ext h0 H'→(∀ q∈F,q ∉ Fi→H'[q]?=h[q]?)→A.R H' x' c Fi→Own h0 e A H' (xs.set i x') (some ⟨o,off,none⟩) F) ∧
      (∀ (j:Nat) (vs:List Value) (x':α),j+vs.length≤A.n→A.R h x' (setL c j vs) Fi→canSet h o (off+i * A.n+j) vs.length=true∧Own h0 e A (setsAt h o (off+i * A.n+j) vs) (xs.set i x') (some ⟨o,off,none⟩) F):=by
  obtain ⟨e0,⟨_,ob,css,Fs,pre,post,g1,g2,g3,g4,rfl,g5,g6,g7⟩,nd,new⟩:=k
  simp only at g1 g7
  obtain ⟨c1,c,c2,F1,Fi,F2,rfl,rfl,s1,s2,s3,s4⟩:=g5.split i x hx
  have nd0:=nd
  rw [List.nodup_cons] at nd
  have hlen:=A.len s3
  have hfl:(F1++Fi :: F2).flatten=F1.flatten++(Fi++F2.flatten):=by simp
  rw [hfl] at nd
  have n1:=List.nodup_append.1 nd.2
  have n2:=List.nodup_append.1 n1.2.1
  have hxs:∀ x':α,xs.set i x'=xs.take i++x' :: xs.drop (i+1):=fun x'=>by
    have hi:=(List.getElem?_eq_some_iff.1 hx).1
    rw [List.set_eq_take_append_cons_drop,if_pos hi]
  have nr:∀ q,q∈F1.flatten∨q∈F2.flatten→q≠o:=by
    intro q hq hh
    apply nd.1
    rw [← hh]
    rcases hq with hq | hq <;> simp [hq]
  have nf:∀ q,q∈F1.flatten∨q∈F2.flatten→q ∉ Fi:=by
    intro q hq hm
    rcases hq with hq | hq
    · exact n1.2.2 q hq q (by simp [hm]) rfl
    · exact n2.2.2 q hm q hq rfl
  have inF:∀ q,q∈F1.flatten∨q∈F2.flatten→q∈o :: (F1++Fi :: F2).flatten:=by
    intro q hq
    rw [hfl]
    rcases hq with hq | hq <;> simp [hq]
  refine ⟨c,Fi,s3,n2.1,fun q hq=>⟨by rw [hfl]; simp [hq],fun hh=>nd.1 (by rw [← hh]; simp [hq])⟩,?_,?_,?_⟩
  · intro j hj
    unfold cellAt
    rw [g1]
    simp only [g2,if_true]
    rw [g6]
    simp only [List.flatten_append,List.flatten_cons,List.append_assoc]
    rw [List.getElem?_append_right (by omega),List.getElem?_append_right (by omega),List.getElem?_append_left (by omega)]
    congr 1
    omega
  · intro H' x' e1 keep hR
    have ho:o ∉ Fi:=fun hm=>nd.1 (by simp [hm])
    refine ⟨e1,⟨rfl,ob,c1++c :: c2,F1++Fi :: F2,pre,post,?_,g2,g3,g4,rfl,?_,g6,g7⟩,nd0,new⟩
    · show H'[o]?=_
      rw [keep o List.mem_cons_self ho]; exact g1
    · rw [hxs]
      exact rowsR.append (s2.frame fun q hq=>keep q (inF q (.inl hq)) (nf q (.inl hq))) ⟨hR,s4.frame fun q hq=>keep q (inF q (.inr hq)) (nf q (.inr hq))⟩
  · intro j vs x' hj hR
    have other:∀ q,q≠o→(setsAt h o (off+i * A.n+j) vs)[q]?=h[q]?:=fun q hq=>by rw [setsAt_get,if_neg (by omega)]
    refine ⟨?_,e0.set (new o List.mem_cons_self) _ _,⟨rfl,{ ob with cells:=setL ob.cells (off+i * A.n+j) vs },c1++setL c j vs :: c2,F1++Fi :: F2,pre,post,?_,g2,g3,g4,rfl,?_,?_,g7⟩,nd0,new⟩
    · have hl2:ob.cells.length=pre.length+(c1.flatten.length+(c.length+c2.flatten.length))+post.length:=by
        rw [g6]; simp only [List.flatten_append,List.flatten_cons,List.length_append]
      have:off+i * A.n+j+vs.length≤ob.cells.length:=by omega
      simp [canSet,g1,g2,g3,this]
    · show (setsAt h o (off+i * A.n+j) vs)[o]?=_
      rw [setsAt_get,if_pos rfl,g1]
      rfl
    · rw [hxs]
      exact rowsR.append (s2.frame fun q hq=>other q (nr q (.inl hq))) ⟨A.frame hR fun q hq=>other q fun hh=>nd.1 (by rw [← hh]; simp [hq]),s4.frame fun q hq=>other q (nr q (.inr hq))⟩
    · show setL ob.cells (off+i * A.n+j) vs=_
      rw [g6]
      simp only [List.flatten_append,List.flatten_cons,List.append_assoc]
      rw [show off+i * A.n+j=pre.length+(c1.flatten.length+j) by omega,setL_append_right,setL_append_right,setL_append_left _ _ _ _ (by omega)]
end
def mkInts:Nat→Nat→List Int
  | 0,_=>[]
  | n+1,k=>(k:Int) :: mkInts n (k+1)
theorem mkInts_len:∀ (n k:Nat),(mkInts n k).length=n
  | 0,_=>rfl
  | n+1,k=>by simp [mkInts,mkInts_len n (k+1)]
theorem mkInts_get:∀ (n k j:Nat) (hj:j<(mkInts n k).length),(mkInts n k)[j]=((k+j:Nat):Int)
  | 0,_,_,hj=>by simp [mkInts] at hj
  | n+1,k,0,_=>by simp [mkInts]
  | n+1,k,j+1,hj=>by
    have:=mkInts_get n (k+1) j (by simpa [mkInts] using hj)
    simp only [mkInts,List.getElem_cons_succ,this]
    rw [show k+1+j=k+(j+1) by omega]
def mkStrs:Nat→Nat→List Str
  | 0,_=>[]
  | n+1,k=>markT k :: mkStrs n (k+1)
theorem mkStrs_len:∀ (n k:Nat),(mkStrs n k).length=n
  | 0,_=>rfl
  | n+1,k=>by simp [mkStrs,mkStrs_len n (k+1)]
theorem mkStrs_get:∀ (n k j:Nat) (hj:j<(mkStrs n k).length),(mkStrs n k)[j]=markT (k+j)
  | 0,_,_,hj=>by simp [mkStrs] at hj
  | n+1,k,0,_=>by simp [mkStrs]
  | n+1,k,j+1,hj=>by
    have:=mkStrs_get n (k+1) j (by simpa [mkStrs] using hj)
    simp only [mkStrs,List.getElem_cons_succ,this]
    rw [show k+1+j=k+(j+1) by omega]
theorem markIntS_c (es:List Int) (k:Nat) (a:Option Addr) (F:List Nat) (h:Hp) (own:Own [] 3 intE h es a F) (hk:k+es.length≤1073741824) :
    ACall Try.prog 64 [.slice a es.length es.length,.int .i64 k] h fun r h'=>r=.int .i64 ((k+es.length:Nat):Int)∧Own [] 3 intE h' (mkInts es.length k) a F∧(∀ q,q<h.length→q ∉ F→h'[q]?=h[q]?)∧h.length≤h'.length:=by
  refine acall mixed Try.func64 rfl (by kernel_rfl) ?_
  have hml:=mkInts_len es.length k
  simp [Try.f64]
  refine aloop mixed [0,1,5] (fun (x:Nat × Hp)=>[.slice a es.length es.length,.int .i64 ((k+x.1:Nat):Int),.int .i64 x.1]) (fun x=>x.2) (fun x=>x.1≤es.length∧Own [] 3 intE x.2 ((mkInts es.length k).take x.1++es.drop x.1) a F∧(∀ q,q<h.length→q ∉ F→x.2[q]?=h[q]?)∧h.length≤x.2.length) (fun x=>es.length - x.1) (0,h) ⟨by simp,by simpa using own,fun q _ _=>rfl,Nat.le_refl _⟩ (by simp [pickF]) rfl ?_
  rintro ⟨j,H⟩ ⟨hj,oj,keep,hlen⟩
  simp only at hj oj keep hlen
  simp [mkF]
  refine asplitK_intro (fun hb=>?_) (fun hb=>?_) <;> simp at hb <;> simp [hb]
  · have hjl:j<((mkInts es.length k).take j++es.drop j).length:=by simp [hml]; omega
    obtain ⟨o,off,rfl,-⟩:=intEAt oj.sl hjl
    have hF:=oj.flatF
    subst hF
    have hjm:j<(mkInts es.length k).length:=by omega
    have hg:=mkInts_get es.length k j hjm
    obtain ⟨hcan1,F1,o2⟩:=oj.putFlat (i:=j) hjl ((k+j:Nat):Int) 0 [.int .i64 ((k+j:Nat):Int)] (by simp) (by simp)
    obtain rfl:=o2.flatF
    rw [← hg,take_drop_set hjm hml,hg] at o2
    have w1':IntKind.i64.wrap ((k:Int)+(j:Int)+1)=(k:Int)+((j:Int)+1):=by rw [wrap_in (by omega) (by omega)]; omega
    simp at hcan1 o2
    simp [hb,hcan1,w1']
    have keep3:∀ (v:Value) (q:Nat),q<h.length→q ∉ [o]→(setsAt H o (off+j) [v])[q]?=h[q]?:=fun v q hq hm=>by
      have hqo:¬ (o=q):=by simpa [eq_comm] using hm
      rw [setsAt_get,if_neg hqo]
      exact keep q hq hm
    have len3:∀ (v:Value),h.length≤(setsAt H o (off+j) [v]).length:=fun v=>by
      rw [setsAt_len]; omega
    exact anext (j+1,setsAt H o (off+j) [.int .i64 ((k:Int)+(j:Int))]) ⟨hb,o2,by simpa using keep3 (.int .i64 ((k:Int)+(j:Int))),len3 _⟩ (by simp only; omega) (by simp [pickF,wrap_succ (show j<9223372036854775807 by omega)]) rfl (by simp)
  · obtain rfl:j=es.length:=by omega
    rw [List.drop_length,List.append_nil,List.take_of_length_le (by omega)] at oj
    exact ⟨by omega,oj,keep,hlen⟩
theorem markStringS_c (es:List Str) (k:Nat) (a:Option Addr) (F:List Nat) (h:Hp) (own:Own [] 9 strE h es a F) (hk:k+es.length≤1073741824) :
    ACall Try.prog 11 [.slice a es.length es.length,.int .i64 k] h fun r h'=>r=.int .i64 ((k+es.length:Nat):Int)∧Own [] 9 strE h' (mkStrs es.length k) a F∧(∀ q,q<h.length→q ∉ F→h'[q]?=h[q]?)∧h.length≤h'.length:=by
  refine acall mixed Try.func11 rfl (by kernel_rfl) ?_
  have hml:=mkStrs_len es.length k
  simp [Try.f11]
  refine aloop mixed [0,1,5] (fun (x:Nat × Hp)=>[.slice a es.length es.length,.int .i64 ((k+x.1:Nat):Int),.int .i64 x.1]) (fun x=>x.2) (fun x=>x.1≤es.length∧Own [] 9 strE x.2 ((mkStrs es.length k).take x.1++es.drop x.1) a F∧(∀ q,q<h.length→q ∉ F→x.2[q]?=h[q]?)∧h.length≤x.2.length) (fun x=>es.length - x.1) (0,h) ⟨by simp,by simpa using own,fun q _ _=>rfl,Nat.le_refl _⟩ (by simp [pickF]) rfl ?_
  rintro ⟨j,H⟩ ⟨hj,oj,keep,hlen⟩
  simp only at hj oj keep hlen
  simp [mkF]
  refine asplitK_intro (fun hb=>?_) (fun hb=>?_) <;> simp at hb <;> simp [hb]
  · have hjl:j<((mkStrs es.length k).take j++es.drop j).length:=by simp [hml]; omega
    obtain ⟨o,off,rfl,-⟩:=strEAt oj.sl hjl
    have hF:=oj.flatF
    subst hF
    have hjm:j<(mkStrs es.length k).length:=by omega
    have hg:=mkStrs_get es.length k j hjm
    have wk:(k:Int)+(j:Int)=((k+j:Nat):Int):=by omega
    rw [wk]
    refine callK0 (markText_c (k+j) _ (by omega)) ?_
    rintro _ _ ⟨⟨t,rfl⟩,rfl⟩
    obtain ⟨hcan1,F1,o2⟩:=(oj.grow (Ext.push H t)).putFlat (i:=j) hjl (markT (k+j)) 0 [.string (S (markT (k+j)))] (by simp) (by simp)
    obtain rfl:=o2.flatF
    rw [← hg,take_drop_set hjm hml,hg] at o2
    have w1':IntKind.i64.wrap ((k:Int)+(j:Int)+1)=(k:Int)+((j:Int)+1):=by rw [wrap_in (by omega) (by omega)]; omega
    simp at hcan1 o2
    simp [hb,hcan1,w1']
    have keep3:∀ (v:Value) (q:Nat),q<h.length→q ∉ [o]→(setsAt (H++t) o (off+j) [v])[q]?=h[q]?:=fun v q hq hm=>by
      have hqo:¬ (o=q):=by simpa [eq_comm] using hm
      rw [setsAt_get,if_neg hqo,List.getElem?_append_left (by omega)]
      exact keep q hq hm
    have len3:∀ (v:Value),h.length≤(setsAt (H++t) o (off+j) [v]).length:=fun v=>by
      rw [setsAt_len,List.length_append]; omega
    exact anext (j+1,setsAt (H++t) o (off+j) [.string (S (markT (k+j)))]) ⟨hb,o2,by simpa using keep3 (.string (S (markT (k+j)))),len3 _⟩ (by simp only; omega) (by simp [pickF,wrap_succ (show j<9223372036854775807 by omega)]) rfl (by simp)
  · obtain rfl:j=es.length:=by omega
    rw [List.drop_length,List.append_nil,List.take_of_length_le (by omega)] at oj
    exact ⟨by omega,oj,keep,hlen⟩
theorem heldIntS_c (n k:Nat) (a:Option Addr) (F:List Nat) (w:Bool) (t:TypeId) (h:Hp) (hr:slR w t intE h (mkInts n k) a F) (hk:k+n≤1073741824) :
    ACall Try.prog 65 [.slice a n n,.int .i64 k] h fun r h'=>(∃ t,h'=h++t)∧r=.int .i64 ((k+n:Nat):Int):=by
  refine acall mixed Try.func65 rfl (by kernel_rfl) ?_
  have hml:=mkInts_len n k
  simp [Try.f65]
  refine aloop mixed [0,1,5] (fun (x:Nat × Hp)=>[.slice a n n,.int .i64 ((k+x.1:Nat):Int),.int .i64 x.1]) (fun x=>h++x.2) (fun x=>x.1≤n) (fun x=>n - x.1) (0,[]) (by simp) (by simp [pickF]) (by simp) ?_
  rintro ⟨j,t⟩ hj
  simp only at hj
  simp [mkF]
  refine asplitK_intro (fun hb=>?_) (fun hb=>?_) <;> simp at hb <;> simp [hb]
  · have hjl:j<(mkInts n k).length:=by omega
    obtain ⟨o,off,rfl,c0⟩:=intEAt (hr.ext (Ext.push h t)) hjl
    have hg:=mkInts_get n k j hjl
    rw [hg] at c0
    have wk:(k:Int)+(j:Int)=((k+j:Nat):Int):=by omega
    have w1':IntKind.i64.wrap ((k:Int)+(j:Int)+1)=(k:Int)+((j:Int)+1):=by rw [wrap_in (by omega) (by omega)]; omega
    simp at c0
    simp [hb,c0,w1']
    exact anext (j+1,t) hb (by simp only; omega) (by simp [pickF,wrap_succ (show j<9223372036854775807 by omega)]) rfl (by simp)
  · obtain rfl:j=n:=by omega
    omega
theorem heldStringS_c (n k:Nat) (a:Option Addr) (F:List Nat) (w:Bool) (t:TypeId) (h:Hp) (hr:slR w t strE h (mkStrs n k) a F) (hk:k+n≤1073741824) :
    ACall Try.prog 37 [.slice a n n,.int .i64 k] h fun r h'=>(∃ t,h'=h++t)∧r=.int .i64 ((k+n:Nat):Int):=by
  refine acall mixed Try.func37 rfl (by kernel_rfl) ?_
  have hml:=mkStrs_len n k
  simp [Try.f37]
  refine aloop mixed [0,1,5] (fun (x:Nat × Hp)=>[.slice a n n,.int .i64 ((k+x.1:Nat):Int),.int .i64 x.1]) (fun x=>h++x.2) (fun x=>x.1≤n) (fun x=>n - x.1) (0,[]) (by simp) (by simp [pickF]) (by simp) ?_
  rintro ⟨j,t⟩ hj
  simp only at hj
  simp [mkF]
  refine asplitK_intro (fun hb=>?_) (fun hb=>?_) <;> simp at hb <;> simp [hb]
  · have hjl:j<(mkStrs n k).length:=by omega
    obtain ⟨o,off,rfl,c0⟩:=strEAt (hr.ext (Ext.push h t)) hjl
    have hg:=mkStrs_get n k j hjl
    rw [hg] at c0
    have wk:(k:Int)+(j:Int)=((k+j:Nat):Int):=by omega
    have w1':IntKind.i64.wrap ((k:Int)+(j:Int)+1)=(k:Int)+((j:Int)+1):=by rw [wrap_in (by omega) (by omega)]; omega
    refine drawK true (by kernel_rfl) ?_
    simp [hb,c0]
    rw [wk]
    refine callK (markText_c (k+j) _ (by omega)) ?_
    rintro _ _ ⟨⟨t2,rfl⟩,rfl⟩
    refine ⟨fun _=>Ext.push _ _,?_⟩
    simp [w1']
    exact anext (j+1,t++t2) hb (by simp only; omega) (by simp [pickF,w1',wrap_succ (show j<9223372036854775807 by omega)]) (by simp) (by simp)
  · obtain rfl:j=n:=by omega
    omega
def mkNode (x:Node) (k:Nat):Node:=⟨(k:Int),((k+1:Nat):Int),((k+2:Nat):Int),((k+3:Nat):Int),mkInts x.blocks.length (k+4)⟩
def mkNodes:List Node→Nat→List Node
  | [],_=>[]
  | x :: xs,k=>mkNode x k :: mkNodes xs (k+4+x.blocks.length)
def kAt (xs:List Node) (k j:Nat):Nat:=k+4 * j+sumL Node.nl (xs.take j)
theorem mkNodes_len:∀ (xs:List Node) (k:Nat),(mkNodes xs k).length=xs.length
  | [],_=>rfl
  | x :: xs,k=>by simp [mkNodes,mkNodes_len xs]
theorem mkNodes_get:∀ (xs:List Node) (k j:Nat) (hj:j<(mkNodes xs k).length) (hj':j<xs.length),(mkNodes xs k)[j]=mkNode xs[j] (kAt xs k j)
  | [],_,_,hj,_=>by simp [mkNodes] at hj
  | x :: xs,k,0,_,_=>by simp [mkNodes,kAt,sumL]
  | x :: xs,k,j+1,hj,hj'=>by
    have:=mkNodes_get xs (k+4+x.blocks.length) j (by simpa [mkNodes] using hj) (by simpa using hj')
    simp only [mkNodes,List.getElem_cons_succ,this]
    congr 1
    have e:sumL Node.nl (x :: xs.take j)=x.blocks.length+sumL Node.nl (xs.take j):=rfl
    simp only [kAt,List.take_succ_cons,e]
    omega
theorem kAt_succ (xs:List Node) (k j:Nat) (hj:j<xs.length):kAt xs k (j+1)=kAt xs k j+4+xs[j].blocks.length:=by
  have:=sumL_take Node.nl xs j hj
  have e:Node.nl xs[j]=xs[j].blocks.length:=rfl
  simp only [kAt,this,e]
  omega
theorem kAt_le (xs:List Node) (k j:Nat):kAt xs k j≤k+4 * j+sumL Node.nl xs:=by
  have:sumL Node.nl (xs.take j)≤sumL Node.nl xs:=by
    have e:sumL Node.nl xs=sumL Node.nl (xs.take j)+sumL Node.nl (xs.drop j):=by
      conv=>lhs; rw [← List.take_append_drop j xs]
      have app:∀ (ys zs:List Node),sumL Node.nl (ys++zs)=sumL Node.nl ys+sumL Node.nl zs:=by
        intro ys
        induction ys with
        | nil=>intro zs; simp [sumL]
        | cons y ys ih=>intro zs; simp only [List.cons_append,sumL,ih]; omega
      exact app _ _
    omega
  unfold kAt; omega
end Go.Proofs.Ytmpgpkdijfcfhaa.Hz
/- A copy of a file system's image: both programs. -/
namespace Go.Proofs.Ytmpgpkdijfcfhaa.Hz
open Go.RowKit
set_option linter.unusedVariables false
set_option linter.unusedSimpArgs false
set_option maxRecDepth 20000
theorem cloneStr_c (es:List Str) (a:Option Addr) (F:List Nat) (w:Bool) (t:TypeId) (h:Hp) (hr:slR w t strE h es a F) (hl:es.length≤1048576) :
    ACall Try.prog 29 [.slice a es.length es.length] h fun r h'=>∃ a' F',r=.slice a' es.length es.length∧Own h 9 strE h' es a' F':=by
  refine acall mixed Try.func29 rfl (by kernel_rfl) ?_
  cases a with
  | none =>
    obtain ⟨rfl,rfl⟩:=hr
    simp [Try.f29]
    exact ⟨_,Own.nil (Ext.refl h)⟩
  | some ad =>
    obtain ⟨a',h',F',eq,own',_⟩:=(empty1 strE h 9).appendSl (P:=Try.prog) (hr.ext (Ext.push h _)) (st:=22) (xt:=22) (bt:=16) (z:=[.string (S [])]) (by simp) (by simp) (by unfold big; simp; omega) (by unfold big; simp; omega)
    simp at eq own'
    simp [Try.f29,eq]
    exact ⟨_,own'⟩
theorem l1Copy_c (es:List Str) (a:Option Addr) (F:List Nat) (w:Bool) (t:TypeId) (h:Hp) (hr:slR w t strE h es a F) (hl:es.length≤1048576) :
    ACall Try.prog 24 [.slice a es.length es.length] h fun r h'=>∃ a' F',r=.slice a' es.length es.length∧Own h 9 strE h' es a' F':=by
  refine acall mixed Try.func24 rfl (by kernel_rfl) ?_
  obtain ⟨a',h',F',eq,own',_⟩:=(empty1 strE h 9).appendSl (P:=Try.prog) (hr.ext (Ext.push h _)) (st:=22) (xt:=22) (bt:=16) (z:=[.string (S [])]) (by simp) (by simp) (by unfold big; simp; omega) (by unfold big; simp; omega)
  simp at eq own'
  simp [Try.f24,eq]
  exact ⟨_,own'⟩
structure CloneI (f:Fs) (a1 a2:Option Addr) (h:Hp) (oi:Nat) (ad:Option Addr) (Fd:List Nat) (i:Nat) (an:Option Addr) (H:Hp):Prop where
  ext:Ext h H
  box:H[h.length]?=some ⟨true,true,26,[.slice a1 f.nodes.length f.nodes.length,.slice a2 f.data.length f.data.length]⟩
  res:H[h.length+1]?=some ⟨true,true,26,[.slice none 0 0,.slice none 0 0]⟩
  out:H[oi]?=some ⟨true,true,26,[.slice an i i,.slice ad f.data.length f.data.length]⟩
  oi2:h.length+2≤oi
  dat:Own h 9 strE H f.data ad Fd
  dd:∀ q∈Fd,h.length+2≤q∧q≠oi
  nod:∃ Fn,Own h 49 (nodeE true) H (f.nodes.take i) an Fn∧∀ q∈Fn,h.length+2≤q∧q≠oi∧q ∉ Fd
theorem get_lt {h:Hp} {q:Nat} {ob:Ob} (e:h[q]?=some ob):q<h.length:=(List.getElem?_eq_some_iff.1 e).1
theorem cellAt_of_get {h:Hp} {q:Nat} {ob:Ob} (e:h[q]?=some ob) (hl:ob.live=true) (i:Nat):cellAt h q i=ob.cells[i]?:=by
  simp [cellAt,e,hl]
theorem CloneI.step {f:Fs} {a1 a2:Option Addr} {h:Hp} {oi:Nat} {ad:Option Addr} {Fd:List Nat} {i:Nat} {an:Option Addr} {H:Hp} (k:CloneI f a1 a2 h oi ad Fd i an H) (hi:i<f.nodes.length) (hlen:f.nodes.length≤1048576) {nb nb':Ob} {t:Hp} {bc:Option Addr} {Fc:List Nat}
    (oc:Own (H++[nb]) 3 intE (H++[nb]++t) f.nodes[i].blocks bc Fc) :
    ∃ a' H'',aappend Try.prog (H++nb' :: (t++[⟨true,true,49,[.int .i64 f.nodes[i].kind,.int .i64 f.nodes[i].gen,.int .i64 f.nodes[i].time,.int .i64 f.nodes[i].size,.slice bc f.nodes[i].blocks.length f.nodes[i].blocks.length]⟩])) 24 24 (.slice an i i) (.slice (some ⟨H.length+(t.length+1),0,none⟩) 1 1)=some (.slice a' (i+1) (i+1),H'') ∧
      canSet H'' oi 0 1=true∧CloneI f a1 a2 h oi ad Fd (i+1) a' (setsAt H'' oi 0 [.slice a' (i+1) (i+1)]):=by
  obtain ⟨ext,box,res,out,oi2,dat,dd,Fn,own,dn⟩:=k
  generalize hlit:(⟨true,true,49,[.int .i64 f.nodes[i].kind,.int .i64 f.nodes[i].gen,.int .i64 f.nodes[i].time,.int .i64 f.nodes[i].size,.slice bc f.nodes[i].blocks.length f.nodes[i].blocks.length]⟩:Ob)=lit
  have xx:Ext H (H++nb' :: (t++[lit])):=Ext.push H _
  have own1:=own.grow xx
  have slc:slR true 3 intE (H++nb' :: (t++[lit])) f.nodes[i].blocks bc Fc:=by
    have s0:=oc.sl
    simp only [List.append_assoc] at s0
    exact slR.late (l:=[nb]) (l':=[nb']) (u:=t) (t:=[lit]) s0 (fun q hq=>by have:=oc.new q hq; simpa using this) rfl
  have hcs:cellsAt (H++nb' :: (t++[lit])) (H.length+(t.length+1)) 0 (1 * 5)=some lit.cells:=by
    have e1:H++nb' :: (t++[lit])=(H++nb' :: t)++[lit]:=by simp
    have e2:H.length+(t.length+1)=(H++nb' :: t).length:=by simp
    rw [e1,e2,← hlit]
    simp
  have hln:(f.nodes.take i).length=i:=by simp; omega
  have hFcl:∀ q∈Fc,H.length+1≤q:=fun q hq=>by have:=oc.new q hq; simpa using this
  obtain ⟨a',H'',F',eq,own',keep,lenk,sub,_⟩:=own1.append (P:=Try.prog) (st:=24) (xt:=24) (x:=.slice (some ⟨H.length+(t.length+1),0,none⟩) 1 1) (css:=[lit.cells]) (Fs:=[Fc]) (ys:=[f.nodes[i]]) (bt:=56) (z:=[.int .i64 0,.int .i64 0,.int .i64 0,.int .i64 0,.slice none 0 0]) (by
      show srcOf Try.prog _ 5 _ _=_
      simp only [srcOf,hcs,Option.map_some]
      simp) ⟨⟨bc,Fc,by rw [← hlit],rfl,slc⟩,trivial⟩ (by simp; rfl) (by rw [hln]; unfold big; simp; omega) (by rw [hln]; unfold big; simp; omega) (by simpa using oc.nd) (by
      intro q hq
      have hq':q∈Fc:=by simpa using hq
      have h1:=hFcl q hq'
      exact ⟨by have:=ext.1; omega,fun hm=>by have:=own.sl.lt q hm; omega⟩)
  rw [hln] at eq
  have hoL:oi<H.length:=get_lt out
  have hoF:oi ∉ Fn:=fun hm=>(dn oi hm).2.1 rfl
  have hkeep:∀ q,q<H.length→q ∉ Fn→H''[q]?=H[q]?:=fun q hq hm=>by
    rw [keep q (by simp; omega) hm,List.getElem?_append_left hq]
  have hout:H''[oi]?=some ⟨true,true,26,[.slice an i i,.slice ad f.data.length f.data.length]⟩:=by rw [hkeep oi hoL hoF]; exact out
  have hset:∀ (v:Value) (q:Nat),q≠oi→(setsAt H'' oi 0 [v])[q]?=H''[q]?:=fun v q hq=>by rw [setsAt_get,if_neg (by omega)]
  have hn1:h.length ∉ Fn:=fun hm=>by have:=(dn _ hm).1; omega
  have hn2:h.length+1 ∉ Fn:=fun hm=>by have:=(dn _ hm).1; omega
  have hF':∀ q∈F',h.length+2≤q∧q≠oi∧q ∉ Fd:=fun q hq=>by
    have hge:H.length≤q→h.length+2≤q∧q≠oi∧q ∉ Fd:=fun hg=>⟨by omega,by omega,fun hm=>by have:=dat.sl.lt q hm; omega⟩
    rcases sub q hq with hh | hh | hh
    · exact dn q hh
    · exact hge (by have:=hFcl q (by simpa using hh); omega)
    · exact hge (by simp at hh; omega)
  refine ⟨a',H'',eq,by simp [canSet,hout],⟨?_,?_,?_,?_,oi2,?_,dd,F',?_,hF'⟩⟩
  · exact own'.ext.set (by omega) 0 _
  · rw [hset _ _ (by omega),hkeep _ (get_lt box) hn1]; exact box
  · rw [hset _ _ (by omega),hkeep _ (get_lt res) hn2]; exact res
  · rw [setsAt_get,if_pos rfl,hout]; rfl
  · refine ⟨own'.ext.set (by omega) 0 _,dat.sl.frame fun q hq=>?_,dat.nd,dat.new⟩
    rw [hset _ _ (dd q hq).2,hkeep q (dat.sl.lt q hq) (fun hm=>(dn q hm).2.2 hq)]
  · rw [List.take_succ_eq_append_getElem hi]
    exact ⟨own'.ext.set (by omega) 0 _,own'.sl.frame fun q hq=>hset _ _ (hF' q hq).2.1,own'.nd,own'.new⟩
end Go.Proofs.Ytmpgpkdijfcfhaa.Hz
/- A copy of a file system's image: both programs. -/
namespace Go.Proofs.Ytmpgpkdijfcfhaa.Hz
open Go.RowKit
set_option linter.unusedVariables false
set_option linter.unusedSimpArgs false
set_option maxRecDepth 20000
theorem CloneI.cells {f:Fs} {a1 a2:Option Addr} {h:Hp} {oi:Nat} {ad:Option Addr} {Fd:List Nat} {i:Nat} {an:Option Addr} {H:Hp} (k:CloneI f a1 a2 h oi ad Fd i an H) :
    (∀ l,cellAt (H++l) oi 0=some (.slice an i i))∧(∀ l,cellAt (H++l) oi 1=some (.slice ad f.data.length f.data.length))∧(∀ l,cellAt (H++l) h.length 0=some (.slice a1 f.nodes.length f.nodes.length)):=by
  refine ⟨fun l=>?_,fun l=>?_,fun l=>?_⟩
  · rw [cellAt_ext (Ext.push H l) (get_lt k.out),cellAt_of_get k.out rfl]; rfl
  · rw [cellAt_ext (Ext.push H l) (get_lt k.out),cellAt_of_get k.out rfl]; rfl
  · rw [cellAt_ext (Ext.push H l) (get_lt k.box),cellAt_of_get k.box rfl]; rfl
theorem CloneI.start {f:Fs} {a1 a2:Option Addr} {h:Hp} {ad:Option Addr} {Fd:List Nat} {u:Hp} {e:TypeId}
    (od:Own (h++[⟨true,true,26,[.slice a1 f.nodes.length f.nodes.length,.slice a2 f.data.length f.data.length]⟩,⟨true,true,26,[.slice none 0 0,.slice none 0 0]⟩]) 9 strE (h++⟨true,true,26,[.slice a1 f.nodes.length f.nodes.length,.slice a2 f.data.length f.data.length]⟩ :: ⟨true,true,26,[.slice none 0 0,.slice none 0 0]⟩ :: u) f.data ad Fd) :
    CloneI f a1 a2 h (h.length+(u.length+1+1)) ad Fd 0 none (h++⟨true,true,26,[.slice a1 f.nodes.length f.nodes.length,.slice a2 f.data.length f.data.length]⟩ :: ⟨true,true,26,[.slice none 0 0,.slice none 0 0]⟩ :: (u++[⟨true,true,26,[.slice none 0 0,.slice ad f.data.length f.data.length]⟩])) where
  ext:=Ext.push _ _
  box:=by simp
  res:=by simp
  out:=by
    rw [List.getElem?_append_right (by omega)]
    simp
  oi2:=by omega
  dat:=by
    have e0:Ext h (h++[⟨true,true,26,[.slice a1 f.nodes.length f.nodes.length,.slice a2 f.data.length f.data.length]⟩,⟨true,true,26,[.slice none 0 0,.slice none 0 0]⟩]):=Ext.push _ _
    have:=(Own.of_new e0 od).grow (Ext.push _ [⟨true,true,26,[.slice none 0 0,.slice ad f.data.length f.data.length]⟩])
    simpa using this
  dd q hq:=by
    have h1:=od.new q hq
    have h2:=od.sl.lt q hq
    simp at h1 h2
    omega
  nod:=⟨[],Own.nil (Ext.push _ _),fun q hq=>by cases hq⟩
theorem CloneI.done {f:Fs} {a1 a2:Option Addr} {h:Hp} {oi:Nat} {ad:Option Addr} {Fd:List Nat} {an:Option Addr} {H:Hp} (k:CloneI f a1 a2 h oi ad Fd f.nodes.length an H) (vs:List Value) (hvs:vs.length=2) :
    canSet H (h.length+1) 0 2=true∧cellAt (setsAt H (h.length+1) 0 vs) (h.length+1) 0=vs[0]?∧cellAt (setsAt H (h.length+1) 0 vs) (h.length+1) 1=vs[1]? ∧
      ∃ G1 G2,Own h 49 (nodeE true) (setsAt H (h.length+1) 0 vs) f.nodes an G1∧Own h 9 strE (setsAt H (h.length+1) 0 vs) f.data ad G2∧∀ q∈G1,q ∉ G2:=by
  obtain ⟨ext,box,res,out,oi2,dat,dd,Fn,own,dn⟩:=k
  rw [List.take_length] at own
  have hg:(setsAt H (h.length+1) 0 vs)[h.length+1]?=some ⟨true,true,26,vs⟩:=by
    rw [setsAt_get,if_pos rfl,res]
    simp only [Option.map_some]
    rw [setL_all _ _ (by simpa using hvs)]
  have hne:∀ q,h.length+2≤q→(setsAt H (h.length+1) 0 vs)[q]?=H[q]?:=fun q hq=>by rw [setsAt_get,if_neg (by omega)]
  refine ⟨by simp [canSet,res],by rw [cellAt_of_get hg rfl],by rw [cellAt_of_get hg rfl],Fn,Fd,⟨own.ext.set (by omega) 0 _,own.sl.frame fun q hq=>hne q (dn q hq).1,own.nd,own.new⟩,⟨dat.ext.set (by omega) 0 _,dat.sl.frame fun q hq=>hne q (dd q hq).1,dat.nd,dat.new⟩,fun q hq=>(dn q hq).2.2⟩
end Go.Proofs.Ytmpgpkdijfcfhaa.Hz
