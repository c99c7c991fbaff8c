/- The law of names: its walk. -/
import Derived.Test.YtmpgpkdijfcfhaaGreatDoorHyTM
import Derived.Test.YtmpgpkdijfcfhaaGreatDoorHyHE
namespace Go.Proofs.YtmpgpkdijfcfhaaGreatDoor.Hz
open Go.RowKit
set_option linter.unusedVariables false
set_option linter.unusedSimpArgs false
set_option maxRecDepth 20000
theorem big_cz (code:Str) (a:Option Addr) (h:Hp):ACall Tryz.prog 4 [.slice a code.length code.length] h fun r h'=>h'=h∧r=.bool (decide (1048576<(code.length:Int))):=by
  refine acall mixed Tryz.func4 rfl (by kernel_rfl) ?_
  simp [Tryz.f4]
theorem sum_tx {c:Nat}:∀ xs:List Item,(∀ x∈xs,x.nl≤c)→sumL Item.nl xs≤c * xs.length
  | [],_=>by simp [sumL]
  | x :: xs,h=>by
    have h1:=sum_tx xs (fun y hy=>h y (by simp [hy]))
    have h2:=h x (by simp)
    simp only [sumL,List.length_cons,Nat.mul_add]
    omega
set_option maxHeartbeats 8000000 in
theorem FnNamesOf_c (code:Str) (a:Option Addr) (F:List Nat) (w:Bool) (t:TypeId) (h:Hp) (k:slR w t byteE h code a F) :
    ACall Tryz.prog 3 [.slice a code.length code.length] h fun r _=>r=.bool true:=by
  refine acall mixed Tryz.func3 rfl (by kernel_rfl) ?_
  simp [Tryz.f3]
  refine cK (big_cz code a h) ?_
  rintro _ _ ⟨rfl,rfl⟩
  simp
  refine aSI (fun hb=>?_) (fun hb=>?_) <;> simp at hb <;> simp
  refine cK (drawTreeNames_c code a F w t _ k (by omega)) ?_
  rintro _ H0 ⟨xs,b,G,d,rfl,s,bd,hd⟩
  simp
  have hlx:=bd.len
  have hl:xs.length+sumL Item.nl xs≤1048576:=by
    have:=sum_tx (c:=200) xs (fun x hx=>by have h1:=bd.it x hx; show x.path.length+x.data.length≤200; omega)
    omega
  have htw:∀ x∈xs,tW x:=fun x hx=>(bd.it x hx).2.2
  obtain ⟨bi,hbi⟩:∃ bi,bi=H0.length:=⟨_,rfl⟩
  have T:TB (H0++[(⟨true,true,26,[.slice b xs.length xs.length]⟩:Ob)]) bi xs b G:=⟨by simp [hbi],s.ext (Ext.push _ _)⟩
  generalize hHb:H0++[(⟨true,true,26,[.slice b xs.length xs.length]⟩:Ob)]=B at T ⊢
  rw [← hbi]
  clear hHb s
  have q:=T.cells
  try simp [q]
  refine cK (treeNames_impl_c xs d b G true B T.s hl) ?_
  rintro _ H1 ⟨b1,G1,rfl,o1⟩
  have T1:=T.ext o1.ext
  have q1:=T1.cells
  try simp [q1]
  refine cK (treeNames_spec_c xs d b G true H1 T1.s hl) ?_
  rintro _ H2 ⟨b2,G2,rfl,o2⟩
  have T2:=T1.ext o2.ext
  have s1:=o1.sl.ext o2.ext
  have hnl:(treeNames xs d).length≤1048576:=by
    have:=under_len xs d
    unfold treeNames
    split
    · omega
    · simp
  try simp
  refine cK (sameTexts_c (treeNames xs d) (treeNames xs d) b1 b2 G1 G2 true true _ _ H2 s1 o2.sl hnl) ?_
  rintro _ _ ⟨⟨t3,rfl⟩,rfl⟩
  have T3:=T2.ext (Ext.push H2 t3)
  have s3:=s1.ext (Ext.push H2 t3)
  generalize H2++t3=H3 at T3 s3 ⊢
  have hlaw:∀ n∈treeNames xs d,_:=fun n hn=>names_law hn
  generalize treeNames xs d=ns at *
  clear T T1 T2 o1 o2 s1 q q1
  simp
  refine aloop mixed [3,4,5,7] (fun (y:Nat × Hp)=>[.pointer (some ⟨bi,0,none⟩),.string (S d),.slice b1 ns.length ns.length,.int .i64 y.1]) (fun y=>y.2) (fun y=>y.1≤ns.length∧Ext H3 y.2) (fun y=>ns.length - y.1) (0,H3) ⟨by simp,Ext.refl _⟩ rfl rfl ?_
  rintro ⟨i,H⟩ ⟨hi,ex⟩
  simp only at hi ex
  have T4:=T3.ext ex
  have s4:=s3.ext ex
  have q4:=T4.cells
  simp [mkF]
  refine aSI (fun hc=>?_) (fun hc=>?_) <;> simp at hc <;> simp [hc]
  · obtain ⟨o,off,rfl,c0⟩:=strEAt s4 hc
    obtain ⟨g1,g2,g3,x,hx,g4⟩:=hlaw ns[i] (List.getElem_mem hc)
    refine drawS true 11 [0,1,2,3,4,5,6,7,8,9,10] [12,13] (by simp; rfl) (by simp; rfl) (by simp; rfl) (by kernel_rfl) ?_
    simp [q4,hc,c0]
    refine callK (pathJoin_impl_c d ns[i] H (by omega) g3) ?_
    rintro _ _ ⟨⟨t5,rfl⟩,rfl⟩
    refine ⟨fun _=>Ext.push _ _,?_⟩
    have T5:=T4.ext (Ext.push H t5)
    simp
    refine callK (treeGet_impl_c xs (pathJoin d ns[i]) b G true _ _ T5.s (by omega)) ?_
    rintro _ _ ⟨⟨t6,rfl⟩,rfl⟩
    refine ⟨fun _=>Ext.push _ _,?_⟩
    simp [Item.v,g1]
    have hpl:(treeGet xs (pathJoin d ns[i])).1.path.length≤1048576:=by
      rw [g4]
      have:=(bd.it x hx).1
      omega
    refine cK (above_impl_c _ _ hpl) ?_
    rintro _ _ ⟨⟨t7,rfl⟩,rfl⟩
    rw [g2]
    simp
    exact anext (i+1,H++(t5++(t6++⟨true,true,33,[.string (S (treeGet xs (pathJoin d ns[i])).1.path),.int .i64 (treeGet xs (pathJoin d ns[i])).1.kind,.string (S (treeGet xs (pathJoin d ns[i])).1.data),.int .i64 (treeGet xs (pathJoin d ns[i])).1.time]⟩ :: t7))) ⟨hc,ex.trans (Ext.push H _)⟩ (by simp only; omega) (by simp [pickF,wS (show i<9223372036854775807 by omega)]) (by simp) (by simp)
  · -- the copy
    try simp [q4]
    have o0:=empty1 itemE H 33
    obtain ⟨a',H',F',e1,e2,e3,e4⟩:=o0.appendSl (P:=Tryz.prog) (T4.s.ext (Ext.push H [⟨true,true,33,[]⟩])) (st:=24) (xt:=24) (bt:=48) (z:=[.string (S []),.int .i64 0,.string (S []),.int .i64 0]) (by simp) (by simp) (by unfold big; simp; omega) (by unfold big; simp; omega)
    simp at e1 e2
    simp [T4.cellsX,e1]
    have T5:=T4.ext e2.ext
    have q5:=T5.cells
    have q5x:=T5.cellsX
    refine drawK true (by kernel_rfl) ?_
    simp [q5,q5x]
    have s6:=T5.s.ext (Ext.push H' [(⟨true,true,26,[.slice a' xs.length xs.length]⟩:Ob)])
    have y6:=e2.sl.ext (Ext.push H' [(⟨true,true,26,[.slice a' xs.length xs.length]⟩:Ob)])
    have by6:∀ l j,cellAt ((H'++[(⟨true,true,26,[.slice a' xs.length xs.length]⟩:Ob)])++l) H'.length j=([Value.slice a' xs.length xs.length])[j]?:=fun l j=>by
      rw [cellAt_ext (Ext.push _ l) (by simp)]
      simp [cellAt]
    have bx6:∀ l j,cellAt ((H'++[(⟨true,true,26,[.slice a' xs.length xs.length]⟩:Ob)])++l) bi j=([Value.slice b xs.length xs.length])[j]?:=fun l j=>by
      rw [List.append_assoc]
      exact q5x _ j
    generalize H'++[(⟨true,true,26,[.slice a' xs.length xs.length]⟩:Ob)]=H6 at s6 y6 by6 bx6 ⊢
    refine callK (treeSame_impl_c xs xs b a' G F' true true _ _ H6 s6 y6 (by omega)) ?_
    rintro _ _ ⟨⟨t7,rfl⟩,rfl⟩
    refine ⟨fun _=>Ext.push _ _,?_⟩
    simp [by6,bx6]
    refine callK (treeText_impl_c xs a' F' true _ _ (y6.ext (Ext.push H6 t7)) hl htw) ?_
    rintro _ H7 ⟨x7,rfl⟩
    obtain ⟨t8,rfl⟩:=x7.pre
    refine ⟨fun _=>Ext.push _ _,?_⟩
    simp [by6,bx6]
    refine callK (treeText_impl_c xs b G true _ _ (s6.to (by simp)) hl htw) ?_
    rintro _ H8 ⟨x8,rfl⟩
    refine ⟨fun _=>x8,?_⟩
    simp
end Go.Proofs.YtmpgpkdijfcfhaaGreatDoor.Hz
