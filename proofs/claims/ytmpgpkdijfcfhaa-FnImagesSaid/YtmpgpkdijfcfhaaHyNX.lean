/- NodeText: both programs. -/
import Derived.Test.YtmpgpkdijfcfhaaHyGC
import Derived.Test.YtmpgpkdijfcfhaaHyGD
import Derived.Test.YtmpgpkdijfcfhaaHyGE
import Derived.Test.YtmpgpkdijfcfhaaHyGF
namespace Go.Proofs.Ytmpgpkdijfcfhaa.Hz
open Go.RowKit
set_option linter.unusedVariables false
set_option linter.unusedSimpArgs false
set_option maxRecDepth 20000
def numsText (xs:List Int):Str:=catL putNum xs
def kindB (x:Node):UInt8:=UInt8.ofNat x.kind.toNat
def nodeText (x:Node):Str:=if nodeOk x=false then [] else if x.kind=0 then [kindB x] else kindB x :: numsText ([x.gen,x.time,x.size]++x.blocks)
theorem nodeOk_kind {x:Node} (h:nodeOk x=true):0≤x.kind∧x.kind≤3:=by
  unfold nodeOk at h
  split at h
  · rename_i hk
    have:x.kind=0:=by simpa using hk
    omega
  · simp only [Bool.and_eq_true] at h
    have:=inR_iff.1 h.1.1.1.1.1.1
    omega
theorem kindB_nat {x:Node} (h:0≤x.kind∧x.kind≤3):((kindB x).toNat:Int)=x.kind:=by
  unfold kindB
  have h1:(UInt8.ofNat x.kind.toNat).toNat=x.kind.toNat % 256:=UInt8.toNat_ofNat'
  rw [h1]
  omega
theorem numsText_take (xs:List Int) (k:Nat) (hk:k<xs.length):numsText (xs.take (k+1))=numsText (xs.take k)++putNum xs[k]:=catL_take putNum xs k hk
theorem numsText_len:∀ xs:List Int,(numsText xs).length≤5 * xs.length
  | []=>Nat.le_refl _
  | x :: xs=>by
    have h1:=putNum_len x
    have h2:=numsText_len xs
    simp only [numsText,catL,List.map_cons,List.flatten_cons,List.length_append,List.length_cons] at *
    omega
def numsOf (x:Node):List Int:=[x.gen,x.time,x.size]++x.blocks
def partT (x:Node) (n:Nat):Str:=kindB x :: numsText ((numsOf x).take n)
theorem partT_zero (x:Node):partT x 0=[kindB x]:=rfl
theorem partT_succ (x:Node) (n:Nat) (hn:n<(numsOf x).length):partT x (n+1)=partT x n++putNum (numsOf x)[n]:=by
  unfold partT
  rw [numsText_take _ n hn]
  rfl
theorem partT_len (x:Node) (n:Nat):(partT x n).length≤5 * n+1:=by
  have:=numsText_len ((numsOf x).take n)
  have h2:((numsOf x).take n).length≤n:=by simp; omega
  simp only [partT,List.length_cons]
  omega
theorem partT_all (x:Node):partT x (numsOf x).length=kindB x :: numsText ([x.gen,x.time,x.size]++x.blocks):=by
  unfold partT
  rw [List.take_length]
  rfl
section
variable {P:Program} {α:Type} {h0 h:Hp} {e e':TypeId} {xs ys:List α} {a b:Option Addr} {F G:List Nat} {n:Nat} {f:α→List Value} {hn:∀ x,(f x).length=n} {hok:∀ x,(f x).all okCell=true}
theorem Own.appendSlK (k:Own h0 e (flatE n f hn hok) h xs a F) {w:Bool} (hy:slR w e' (flatE n f hn hok) h ys b G) {st xt:TypeId} {bt:Nat} {z:List Value} (hx:isSlice P xt=true) (hel:elOf P st=some (e,n,bt,z)) (hs1:xs.length+ys.length≤big) (hs2:(xs.length+ys.length) * bt≤big) :
    ∃ a' h' F',aappend P h st xt (.slice a xs.length xs.length) (.slice b ys.length ys.length)=some (.slice a' (xs.length+ys.length) (xs.length+ys.length),h')∧Own h0 e (flatE n f hn hok) h' (xs++ys) a' F'∧(∀ q,q<h.length→q ∉ F→h'[q]?=h[q]?)∧h.length≤h'.length∧(∀ q∈F',q∈F∨h.length≤q):=by
  cases b with
  | none =>
    obtain ⟨rfl,rfl⟩:=hy
    obtain ⟨a',h',F',h1,h2,h3,h4,h5,_⟩:=k.append (P:=P) (st:=st) (xt:=xt) (x:=.slice none 0 0) (css:=[]) (Fs:=[]) (ys:=[]) (by simp [srcOf,hx]) trivial hel hs1 hs2 (by simp) (by simp)
    exact ⟨a',h',F',h1,h2,h3,h4,fun q hq=>by simpa using h5 q hq⟩
  | some b =>
    obtain ⟨o,off,sp⟩:=b
    obtain rfl:sp=none:=hy.1
    obtain ⟨cs,h1,h2,css,Fs,rfl,h4,_⟩:=hy.cells
    have hF:=flat_nil h4.flat.2
    obtain ⟨a',h',F',h1,h2,h3,h4,h5,_⟩:=k.append (P:=P) (st:=st) (xt:=xt) (x:=.slice (some ⟨o,off,none⟩) ys.length ys.length) (css:=css) (Fs:=Fs) (ys:=ys) (by
      have h1':cellsAt h o off (ys.length * n)=some css.flatten:=h1
      show srcOf P h n xt _=_
      simp [srcOf,hx,h1']) h4 hel hs1 hs2 (by rw [hF]; simp) (by rw [hF]; simp)
    exact ⟨a',h',F',h1,h2,h3,h4,fun q hq=>by have:=h5 q hq; rw [hF] at this; simpa using this⟩
end
theorem own_some_lt' {h:Hp} {w:Bool} {t:TypeId} {α:Type} {A:Enc α} {xs:List α} {o off:Nat} {F:List Nat} (k:slR w t A h xs (some ⟨o,off,none⟩) F):o<h.length:=by
  obtain ⟨_,ob,css,Fs,pre,post,g1,_⟩:=k
  exact get_lt g1
theorem bytesApp {B H H':Hp} {xs ys:Str} {a b:Option Addr} {F G:List Nat} (k:Own B 5 byteE H xs a F) (o:Own H 5 byteE H' ys b G) (h1:xs.length+ys.length≤100000000) :
    ∃ a' H2 F',aappend Try.prog H' 34 34 (.slice a xs.length xs.length) (.slice b ys.length ys.length)=some (.slice a' (xs.length+ys.length) (xs.length+ys.length),H2)∧Own B 5 byteE H2 (xs++ys) a' F':=by
  obtain ⟨a',H2,F',eq,own',_,_⟩:=(k.grow o.ext).appendSl (P:=Try.prog) o.sl (st:=34) (xt:=34) (bt:=1) (z:=[.int .u8 0]) (by simp) (by simp) (by unfold big; omega) (by unfold big; omega)
  exact ⟨a',H2,F',eq,own'⟩
section
variable (x:Node) (a1:Option Addr) (F1:List Nat) (w:Bool) (h:Hp) (k1:slR w 3 intE h x.blocks a1 F1) (hl:x.lim)
include k1 hl
set_option maxHeartbeats 4000000 in
theorem nodeText_spec_c :
    ACall Try.prog 58 [.agg #[.int .i64 x.kind,.int .i64 x.gen,.int .i64 x.time,.int .i64 x.size,.slice a1 x.blocks.length x.blocks.length]] h fun r h'=>(∃ t,h'=h++t)∧r=.string (S (nodeText x)):=by
  refine acall mixed Try.func58 rfl (by kernel_rfl) ?_
  have hbl:x.blocks.length≤1048576:=hl
  simp [Try.f58]
  refine cK (nodeOk_spec_c x a1 F1 w _ (k1.to (by simp)) hl) ?_
  rintro _ _ ⟨⟨t1,rfl⟩,rfl⟩
  cases e1:nodeOk x
  · simp [nodeText,e1]
  have hk:=nodeOk_kind e1
  have hkb:=kindB_nat hk
  have hwk:IntKind.u8.wrap x.kind=((kindB x).toNat:Int):=by rw [hkb]; exact wrap_u8 hk.1 (by omega)
  obtain ⟨B,hB⟩:∃ B,B=h++[(⟨true,true,49,[.int .i64 x.kind,.int .i64 x.gen,.int .i64 x.time,.int .i64 x.size,.slice a1 x.blocks.length x.blocks.length]⟩:Ob)]:=⟨_,rfl⟩
  have eh:Ext h B:=by rw [hB]; exact Ext.push _ _
  have b0:cellAt B h.length 0=some (.int .i64 x.kind):=by rw [hB]; simp
  have b1:cellAt B h.length 1=some (.int .i64 x.gen):=by rw [hB]; simp
  have b2:cellAt B h.length 2=some (.int .i64 x.time):=by rw [hB]; simp
  have b3:cellAt B h.length 3=some (.int .i64 x.size):=by rw [hB]; simp
  have b4:cellAt B h.length 4=some (.slice a1 x.blocks.length x.blocks.length):=by rw [hB]; simp
  have eB:Ext B (h++⟨true,true,49,[.int .i64 x.kind,.int .i64 x.gen,.int .i64 x.time,.int .i64 x.size,.slice a1 x.blocks.length x.blocks.length]⟩ :: t1):=by rw [hB]; simpa using Ext.push (h++[(⟨true,true,49,[.int .i64 x.kind,.int .i64 x.gen,.int .i64 x.time,.int .i64 x.size,.slice a1 x.blocks.length x.blocks.length]⟩:Ob)]) t1
  clear hB
  simp only [List.append_assoc,List.cons_append,List.nil_append]
  generalize (h++_ :: t1:Hp)=H at eB ⊢
  have o0:Own B 5 byteE (H++[⟨true,true,5,[.int .u8 (kindB x).toNat]⟩]) [kindB x] (some ⟨H.length,0,none⟩) [H.length]:=by
    have:=Own.lit (h0:=B) (h:=H) (e:=5) (A:=byteE) (xs:=[kindB x]) (css:=[[.int .u8 (kindB x).toNat]]) (Fs:=[[]]) eB ⟨⟨rfl,rfl⟩,trivial⟩ (by simp) (by simp)
    simpa using this
  simp [cell_up eB b0,hwk]
  have own0:=o0
  rw [← partT_zero] at own0
  have hl0:(partT x 0).length=1:=rfl
  simp [cell_up o0.ext b0]
  by_cases hk0:x.kind=0
  · have hd:nodeText x=[kindB x]:=by simp [nodeText,e1,hk0]
    rw [hd]
    simp [hk0,lev_cvBS o0.sl]
    exact (eh.trans o0.ext).pre
  have hd:nodeText x=partT x (numsOf x).length:=by rw [partT_all]; simp [nodeText,e1,hk0]
  rw [hd]
  have hk0':(x.kind == 0)=false:=by simpa using hk0
  have c1:=cell_up o0.ext b1
  simp [hk0',c1]
  clear c1
  refine cK (putNum_spec_c x.gen _) ?_
  rintro _ H1 ⟨b,G,rfl,on⟩
  obtain ⟨a1,H12,F1,eq,own1⟩:=bytesApp own0 on (by have:=partT_len x 0; have:=putNum_len x.gen; omega)
  have hs:partT x 1=partT x 0++putNum x.gen:=partT_succ x 0 (by simp [numsOf])
  have hsl:(partT x 0).length+(putNum x.gen).length=(partT x 1).length:=by rw [hs,List.length_append]
  rw [← hs] at own1
  rw [hsl,hl0] at eq
  simp [eq,cell_up own1.ext b1,cell_up own1.ext b2,cell_up own1.ext b3,cell_up own1.ext b4]
  clear eq on hs hsl own0
  refine cK (putNum_spec_c x.time _) ?_
  rintro _ H1 ⟨b,G,rfl,on⟩
  obtain ⟨a2,H13,F2,eq,own2⟩:=bytesApp own1 on (by have:=partT_len x 1; have:=putNum_len x.time; omega)
  have hs:partT x 2=partT x 1++putNum x.time:=partT_succ x 1 (by simp [numsOf])
  have hsl:(partT x 1).length+(putNum x.time).length=(partT x 2).length:=by rw [hs,List.length_append]
  rw [← hs] at own2
  rw [hsl] at eq
  simp [eq,cell_up own2.ext b1,cell_up own2.ext b2,cell_up own2.ext b3,cell_up own2.ext b4]
  clear eq on hs hsl own1
  refine cK (putNum_spec_c x.size _) ?_
  rintro _ H1 ⟨b,G,rfl,on⟩
  obtain ⟨a3,H14,F3,eq,own3⟩:=bytesApp own2 on (by have:=partT_len x 2; have:=putNum_len x.size; omega)
  have hs:partT x 3=partT x 2++putNum x.size:=partT_succ x 2 (by simp [numsOf])
  have hsl:(partT x 2).length+(putNum x.size).length=(partT x 3).length:=by rw [hs,List.length_append]
  rw [← hs] at own3
  rw [hsl] at eq
  simp [eq,cell_up own3.ext b1,cell_up own3.ext b2,cell_up own3.ext b3,cell_up own3.ext b4]
  clear eq on hs hsl own2
  have hnl:(numsOf x).length=x.blocks.length+3:=by simp [numsOf]
  have own3':=own3
  have hg:∀ (j:Nat) (hj:j<x.blocks.length),(numsOf x)[j+3]'(by omega)=x.blocks[j]:=fun j hj=>by simp [numsOf]
  refine aloop mixed [1,3,4] (fun (y:Nat × Option Addr × Hp)=>[.pointer (some ⟨h.length,0,none⟩),.slice y.2.1 (partT x (y.1+3)).length (partT x (y.1+3)).length,.int .i64 y.1]) (fun y=>y.2.2)
    (fun y=>y.1≤x.blocks.length∧∃ G,Own B 5 byteE y.2.2 (partT x (y.1+3)) y.2.1 G) (fun y=>x.blocks.length - y.1) (0,a3,H14) ⟨by simp,F3,own3⟩ (by simp [pickF]) rfl ?_
  clear own3 own3'
  rintro ⟨j,a,H⟩ ⟨hj,G0,own⟩
  simp only at hj own
  have cb:=cell_up own.ext b4
  simp [mkF,cb]
  refine aSI (fun hc=>?_) (fun hc=>?_) <;> simp at hc <;> simp [hc]
  · obtain ⟨o,off,ea,ck⟩:=intEAt (k1.ext (eh.trans own.ext)) hc
    subst ea
    have hw:IntKind.i64.wrap ((j:Int)+1)=((j+1:Nat):Int):=wS (by omega)
    simp [hc,cb,ck]
    refine cK (putNum_spec_c x.blocks[j] _) ?_
    rintro _ H1 ⟨b,G,rfl,on⟩
    obtain ⟨a',H2,F',eq,own2⟩:=bytesApp own on (by have:=partT_len x (j+3); have:=putNum_len x.blocks[j]; omega)
    have hs:partT x (j+1+3)=partT x (j+3)++putNum x.blocks[j]:=by rw [← hg j hc]; exact partT_succ x (j+3) (by omega)
    have hsl:(partT x (j+3)).length+(putNum x.blocks[j]).length=(partT x (j+1+3)).length:=by rw [hs,List.length_append]
    rw [← hs] at own2
    rw [hsl] at eq
    simp [eq]
    exact anext (j+1,a',H2) ⟨hc,F',own2⟩ (by simp only; omega) (by simp [pickF,hw]) rfl (by simp)
  · obtain rfl:j=x.blocks.length:=by omega
    rw [← hnl] at own ⊢
    simp [lev_cvBS own.sl]
    exact (eh.trans own.ext).pre
set_option maxHeartbeats 4000000 in
theorem nodeText_impl_c :
    ACall Try.prog 42 [.agg #[.int .i64 x.kind,.int .i64 x.gen,.int .i64 x.time,.int .i64 x.size,.slice a1 x.blocks.length x.blocks.length]] h fun r h'=>(∃ t,h'=h++t)∧r=.string (S (nodeText x)):=by
  refine acall mixed Try.func42 rfl (by kernel_rfl) ?_
  have hbl:x.blocks.length≤1048576:=hl
  simp [Try.f42]
  refine cK (nodeOk_impl_c x a1 F1 w _ (k1.to (by simp)) hl) ?_
  rintro _ _ ⟨⟨t1,rfl⟩,rfl⟩
  cases e1:nodeOk x
  · simp [nodeText,e1]
  have hk:=nodeOk_kind e1
  have hkb:=kindB_nat hk
  have hwk:IntKind.u8.wrap x.kind=((kindB x).toNat:Int):=by rw [hkb]; exact wrap_u8 hk.1 (by omega)
  obtain ⟨B,hB⟩:∃ B,B=h++[(⟨true,true,49,[.int .i64 x.kind,.int .i64 x.gen,.int .i64 x.time,.int .i64 x.size,.slice a1 x.blocks.length x.blocks.length]⟩:Ob)]:=⟨_,rfl⟩
  have eh:Ext h B:=by rw [hB]; exact Ext.push _ _
  have b0:cellAt B h.length 0=some (.int .i64 x.kind):=by rw [hB]; simp
  have b1:cellAt B h.length 1=some (.int .i64 x.gen):=by rw [hB]; simp
  have b2:cellAt B h.length 2=some (.int .i64 x.time):=by rw [hB]; simp
  have b3:cellAt B h.length 3=some (.int .i64 x.size):=by rw [hB]; simp
  have b4:cellAt B h.length 4=some (.slice a1 x.blocks.length x.blocks.length):=by rw [hB]; simp
  have eB:Ext B (h++⟨true,true,49,[.int .i64 x.kind,.int .i64 x.gen,.int .i64 x.time,.int .i64 x.size,.slice a1 x.blocks.length x.blocks.length]⟩ :: t1):=by rw [hB]; simpa using Ext.push (h++[(⟨true,true,49,[.int .i64 x.kind,.int .i64 x.gen,.int .i64 x.time,.int .i64 x.size,.slice a1 x.blocks.length x.blocks.length]⟩:Ob)]) t1
  clear hB
  simp only [List.append_assoc,List.cons_append,List.nil_append]
  generalize (h++_ :: t1:Hp)=H at eB ⊢
  have o0:Own B 5 byteE (H++[⟨true,true,5,[.int .u8 (kindB x).toNat]⟩]) [kindB x] (some ⟨H.length,0,none⟩) [H.length]:=by
    have:=Own.lit (h0:=B) (h:=H) (e:=5) (A:=byteE) (xs:=[kindB x]) (css:=[[.int .u8 (kindB x).toNat]]) (Fs:=[[]]) eB ⟨⟨rfl,rfl⟩,trivial⟩ (by simp) (by simp)
    simpa using this
  simp [cell_up eB b0,hwk]
  have own0:=o0
  rw [← partT_zero] at own0
  have hl0:(partT x 0).length=1:=rfl
  simp [cell_up o0.ext b0]
  by_cases hk0:x.kind=0
  · have hd:nodeText x=[kindB x]:=by simp [nodeText,e1,hk0]
    rw [hd]
    simp [hk0,lev_cvBS o0.sl]
    exact (eh.trans o0.ext).pre
  have hd:nodeText x=partT x (numsOf x).length:=by rw [partT_all]; simp [nodeText,e1,hk0]
  rw [hd]
  have hk0':(x.kind != 0)=true:=by simpa using hk0
  have hnl:(numsOf x).length=x.blocks.length+3:=by simp [numsOf]
  obtain ⟨Hb,hHb⟩:∃ Hb,Hb=H++[(⟨true,true,5,[.int .u8 (kindB x).toNat]⟩:Ob)]:=⟨_,rfl⟩
  have hlb:Hb.length=H.length+1:=by rw [hHb]; simp
  rw [← hHb] at o0 own0 ⊢
  have i0:Own Hb 3 intE (Hb++[⟨true,true,3,[.int .i64 x.gen,.int .i64 x.time,.int .i64 x.size]⟩]) [x.gen,x.time,x.size] (some ⟨Hb.length,0,none⟩) [Hb.length]:=by
    have:=Own.lit (h0:=Hb) (h:=Hb) (e:=3) (A:=intE) (xs:=[x.gen,x.time,x.size]) (css:=[[.int .i64 x.gen],[.int .i64 x.time],[.int .i64 x.size]]) (Fs:=[[],[],[]]) (Ext.refl Hb) ⟨⟨rfl,rfl⟩,⟨rfl,rfl⟩,⟨rfl,rfl⟩,trivial⟩ (by simp) (by simp)
    simpa using this
  obtain ⟨ai,Hi,Fi,eqi,owni,keepi,leni,-⟩:=i0.appendSlK (P:=Try.prog) (k1.ext (eh.trans (o0.ext.trans (Ext.push Hb _)))) (st:=47) (xt:=47) (bt:=8) (z:=[.int .i64 0]) (by simp) (by simp) (by unfold big; simp; omega) (by unfold big; simp; omega)
  have hl3:([x.gen,x.time,x.size]:List Int).length+x.blocks.length=(numsOf x).length:=by rw [hnl]; simp; omega
  rw [hl3] at eqi
  simp at eqi
  simp [hk0',cell_up o0.ext b0,cell_up o0.ext b1,cell_up o0.ext b2,cell_up o0.ext b3,cell_up (o0.ext.trans (Ext.push Hb [⟨true,true,3,[.int .i64 x.gen,.int .i64 x.time,.int .i64 x.size]⟩])) b4,eqi]
  have hnums:([x.gen,x.time,x.size]++x.blocks:List Int)=numsOf x:=rfl
  rw [hnums] at owni
  obtain ⟨il,ioff,rfl,-⟩:=intEAt owni.sl (i:=0) (by omega)
  have hFi:=owni.flatF
  subst hFi
  have hil:=owni.new il (by simp)
  have ownb:=own0.grow owni.ext
  refine aloop mixed [3,25,26,27] (fun (y:Nat × Option Addr × Hp)=>[.slice y.2.1 (partT x y.1).length (partT x y.1).length,.slice (some ⟨il,ioff,none⟩) (numsOf x).length (numsOf x).length,.int .i64 (numsOf x).length,.int .i64 y.1]) (fun y=>y.2.2)
    (fun y=>y.1≤(numsOf x).length∧(∃ G,Own B 5 byteE y.2.2 (partT x y.1) y.2.1 G∧il ∉ G)∧slR true 3 intE y.2.2 (numsOf x) (some ⟨il,ioff,none⟩) [il]) (fun y=>(numsOf x).length - y.1) (0,some ⟨H.length,0,none⟩,Hi) ⟨by simp,⟨_,ownb,by simp; omega⟩,owni.sl⟩ (by simp [pickF,hl0]) rfl ?_
  have xlen:=hnl
  clear own0 ownb o0 owni eqi keepi leni i0 hil hl0 hHb hlb eB
  rintro ⟨j,a,H⟩ ⟨hj,⟨G0,own,hn0⟩,si⟩
  simp only at hj own si
  simp [mkF]
  refine aSI (fun hc=>?_) (fun hc=>?_) <;> simp at hc <;> simp [hc]
  · obtain ⟨o,off,ea,ck⟩:=intEAt si hc
    simp at ea
    obtain ⟨rfl,rfl⟩:=ea
    have hw:IntKind.i64.wrap ((j:Int)+1)=((j+1:Nat):Int):=wS (by omega)
    simp [hc,ck]
    refine cK (putNum_impl_c (numsOf x)[j] _) ?_
    rintro _ H1 ⟨b,G,rfl,on⟩
    obtain ⟨a',H2,F',eq,own2,keep,hlen,sub⟩:=(own.grow on.ext).appendSlK (P:=Try.prog) on.sl (st:=34) (xt:=34) (bt:=1) (z:=[.int .u8 0]) (by simp) (by simp) (by have:=partT_len x j; have:=putNum_len (numsOf x)[j]; unfold big; omega) (by have:=partT_len x j; have:=putNum_len (numsOf x)[j]; unfold big; omega)
    have hs:partT x (j+1)=partT x j++putNum (numsOf x)[j]:=partT_succ x j hc
    have hsl:(partT x j).length+(putNum (numsOf x)[j]).length=(partT x (j+1)).length:=by rw [hs,List.length_append]
    rw [← hs] at own2
    rw [hsl] at eq
    have hilt:=own_some_lt' si
    have hx1:=on.ext.1
    simp [eq]
    refine anext (j+1,a',H2) ⟨hc,⟨F',own2,fun hm=>?_⟩,?_⟩ (by simp only; omega) (by simp [pickF,hw]) rfl (by simp)
    · rcases sub _ hm with h1 | h1
      · exact hn0 h1
      · omega
    · refine (si.ext on.ext).frame fun q hq=>?_
      simp at hq
      simp only
      rw [hq]
      exact keep _ (by omega) hn0
  · obtain rfl:j=(numsOf x).length:=by omega
    simp [lev_cvBS own.sl]
    exact (eh.trans own.ext).pre
end
end Go.Proofs.Ytmpgpkdijfcfhaa.Hz
