/- Texts of the calculus and of the program's functions, merged: U NM DT EO EI MK F1 MU F2 RP. -/
import Derived.Test.YtmpgpkdijfcfhaaHyGC
import Derived.Test.YtmpgpkdijfcfhaaHyT
import Derived.Shelf.Bits.Mul64
/- Finding an entry: the program's way. -/
namespace Go.Proofs.Ytmpgpkdijfcfhaa.Hz
open Go.RowKit
set_option linter.unusedVariables false
set_option linter.unusedSimpArgs false
set_option maxRecDepth 20000
def findI {α:Type} (p:α→Bool):List α→Nat→Int
  | [],_=>-1
  | x :: xs,i=>if p x then i else findI p xs (i+1)
theorem findI_drop {α:Type} (p:α→Bool) (xs:List α) (k:Nat) (hk:k<xs.length):findI p (xs.drop k) k=if p xs[k] then (k:Int) else findI p (xs.drop (k+1)) (k+1):=by
  rw [List.drop_eq_getElem_cons hk]; rfl
theorem findI_spec {α:Type} (p:α→Bool):∀ (xs:List α) (i:Nat),(findI p xs i=-1∧∀ x∈xs,p x=false)∨∃ j,∃ hj:j<xs.length,findI p xs i=((i+j:Nat):Int)∧p xs[j]=true∧∀ j',∀ hj':j'<xs.length,j'<j→p xs[j']=false
  | [],i=>.inl ⟨rfl,by simp⟩
  | x :: xs,i=>by
    cases hp:p x with
    | true=>exact .inr ⟨0,by simp,by simp [findI,hp],by simpa using hp,by omega⟩
    | false =>
      rcases findI_spec p xs (i+1) with ⟨h1,h2⟩ | ⟨j,hj,h1,h2,h3⟩
      · refine .inl ⟨by simp [findI,hp,h1],fun y hy=>?_⟩
        rcases List.mem_cons.1 hy with rfl | hy
        · exact hp
        · exact h2 y hy
      · refine .inr ⟨j+1,by simpa using hj,?_,by simpa using h2,fun j' hj' hlt=>?_⟩
        · simp only [findI,hp,h1]
          simp
          omega
        · cases j' with
          | zero=>simpa using hp
          | succ j'=>simpa using h3 j' (by simpa using hj') (by omega)
end Go.Proofs.Ytmpgpkdijfcfhaa.Hz
/- Names: both programs. -/
namespace Go.Proofs.Ytmpgpkdijfcfhaa.Hz
open Go.RowKit
set_option linter.unusedVariables false
set_option linter.unusedSimpArgs false
set_option maxRecDepth 20000
def okC (c:UInt8):Bool:=decide ((97≤c.toNat∧c.toNat≤122)∨(48≤c.toNat∧c.toNat≤57))
def nameOk (s:Str):Bool:=decide (1≤s.length∧s.length≤6) && s.all okC
end Go.Proofs.Ytmpgpkdijfcfhaa.Hz
/- The text of a directory: both programs. -/
namespace Go.Proofs.Ytmpgpkdijfcfhaa.Hz
open Go.RowKit
set_option linter.unusedVariables false
set_option linter.unusedSimpArgs false
set_option maxRecDepth 20000
def catL {α:Type} (f:α→Str) (xs:List α):Str:=(xs.map f).flatten
theorem catL_take {α:Type} (f:α→Str) (xs:List α) (k:Nat) (hk:k<xs.length):catL f (xs.take (k+1))=catL f (xs.take k)++f xs[k]:=by
  unfold catL
  rw [List.take_succ_eq_append_getElem hk]
  simp only [List.map_append,List.flatten_append,List.map_cons,List.map_nil,List.flatten_cons,List.flatten_nil,List.append_nil]
def entTxt (e:Ent):Str:=putText e.name++putNum e.node
def dirText (es:List Ent):Str:=catL entTxt es
section
variable (es:List Ent) (a:Option Addr) (F:List Nat) (w:Bool) (t:TypeId) (h:Hp) (hr:slR w t entE h es a F) (hl:es.length≤4194304) (hn:sumL Ent.nl es≤4194304)
include hr hl hn
end
end Go.Proofs.Ytmpgpkdijfcfhaa.Hz
/- Entries that are in order: both programs. -/
namespace Go.Proofs.Ytmpgpkdijfcfhaa.Hz
open Go.RowKit
set_option linter.unusedVariables false
set_option linter.unusedSimpArgs false
set_option maxRecDepth 20000
def nameH (s:Str):Bool:=s == [126] || nameOk s
def okAt (es:List Ent) (i:Nat) (e:Ent):Bool :=
  nameH e.name && decide (1≤e.node∧e.node≤9) && (match i with | 0=>true | j+1=>match es[j]? with | some x=>Op.bytesLess x.name e.name | none=>true) && (es.take i).all (fun x=>!(x.node == e.node))
def okFrom (es:List Ent):List Ent→Nat→Bool
  | [],_=>true
  | e :: l,i=>okAt es i e && okFrom es l (i+1)
def entriesOk (es:List Ent):Bool:=okFrom es es 0 && decide ((dirText es).length≤80)
section
variable (es:List Ent) (a:Option Addr) (F:List Nat) (w:Bool) (t:TypeId) (h:Hp) (hr:slR w t entE h es a F) (hl:es.length≤4194304) (hn:sumL Ent.nl es≤4194304)
include hr hl hn
end
end Go.Proofs.Ytmpgpkdijfcfhaa.Hz
/- Entries that are in order: the program,and the law. -/
namespace Go.Proofs.Ytmpgpkdijfcfhaa.Hz
open Go.RowKit
set_option linter.unusedVariables false
set_option linter.unusedSimpArgs false
set_option maxRecDepth 20000
set_option maxHeartbeats 1000000
section
variable (es:List Ent) (a:Option Addr) (F:List Nat) (w:Bool) (h:Hp) (hr:slR w 124 entE h es a F) (hl:es.length≤4194304) (hn:sumL Ent.nl es≤4194304)
include hr hl hn
end
end Go.Proofs.Ytmpgpkdijfcfhaa.Hz
/- The laws' marks on entries: written into an own slice,and found there again. -/
namespace Go.Proofs.Ytmpgpkdijfcfhaa.Hz
open Go.RowKit
set_option linter.unusedVariables false
set_option linter.unusedSimpArgs false
set_option maxRecDepth 20000
def digs (n:Nat):Str:=if h:n=0 then [] else digs (n / 10)++[UInt8.ofNat (48+n % 10)]
termination_by n
theorem digs_zero:digs 0=[]:=by unfold digs; simp
theorem digs_pos {n:Nat} (h:n≠0):digs n=digs (n / 10)++[UInt8.ofNat (48+n % 10)]:=by
  conv=>lhs; unfold digs
  simp [h]
def markT (k:Nat):Str:=if k=0 then [109,48] else 109 :: digs k
theorem digs_len:∀ (m n:Nat),n<10 ^ m→(digs n).length≤m
  | 0,n,h=>by
    have:n=0:=by simpa using h
    rw [this,digs_zero]; simp
  | m+1,n,h=>by
    by_cases h0:n=0
    · rw [h0,digs_zero]; simp
    · rw [digs_pos h0,List.length_append]
      have:=digs_len m (n / 10) (by rw [Nat.pow_succ] at h; omega)
      simp
      exact this
theorem markText_c (k:Nat) (h:Hp) (hk:k≤1073741824):ACall Try.prog 34 [.int .i64 k] h fun r h'=>(∃ t,h'=h++t)∧r=.string (S (markT k)):=by
  refine acall mixed Try.func34 rfl (by kernel_rfl) ?_
  have hdl:=digs_len 10 k (by omega)
  simp [Try.f34]
  refine asplitK_intro (fun h0=>?_) (fun h0=>?_) <;> simp at h0
  · obtain rfl:k=0:=by omega
    simp [markT]
  have h0':¬ ((k:Int)≤0):=by omega
  have hm:markT k=109 :: digs k:=by simp [markT,h0]
  simp [h0']
  refine aloop mixed [0,3] (fun (x:Nat × Str × Hp)=>[.int .i64 x.1,.string (S x.2.1)]) (fun x=>h++x.2.2) (fun x=>x.1≤k∧digs x.1++x.2.1=digs k) (fun x=>x.1) (k,[],[]) ⟨Nat.le_refl _,by simp⟩ (by simp [pickF]) (by simp) ?_
  rintro ⟨m,out,t⟩ ⟨hmk,hd⟩
  simp only at hmk hd
  simp [mkF]
  refine asplitK_intro (fun hb=>?_) (fun hb=>?_) <;> simp at hb
  · have hb':(0:Int)<m:=by omega
    have hmm:(m:Int).tmod 10=(m:Int) % 10:=by rw [Int.tmod_eq_emod_of_nonneg (by omega)]
    have hq:(m:Int).tdiv 10=(m:Int) / 10:=by rw [Int.tdiv_eq_ediv_of_nonneg (by omega)]
    have w1:IntKind.i64.wrap (48+(m:Int) % 10)=48+(m:Int) % 10:=wrap_in (by omega) (by omega)
    have w2:IntKind.u8.wrap (48+(m:Int) % 10)=48+(m:Int) % 10:=wrap_u8 (by omega) (by omega)
    have e1:((UInt8.ofNat (48+m % 10)).toNat:Int)=48+(m:Int) % 10:=by simp; omega
    have hdp:=digs_pos (n:=m) (by omega)
    have hol:out.length≤10:=by rw [← hd] at hdl; simp at hdl; omega
    have w3:IntKind.i64.wrap ((m:Int) / 10)=(m:Int) / 10:=wrap_in (by omega) (by omega)
    have hlit:=lit1 (h++t) 5 (UInt8.ofNat (48+m % 10))
    rw [e1] at hlit
    simp only [List.append_assoc,List.length_append] at hlit
    have hsz:1+out.length≤9223372036854775807:=by omega
    simp [hb',hmm,hq,w1,w2,w3]
    rw [lev_cvBS hlit _ _ _ _ rfl (by simp) (by simp)]
    simp [hsz,hq,w3]
    exact anext (m / 10,(48+UInt8.ofNat (m % 10)) :: out,_) ⟨by simp only; omega,by simp only; rw [← hd,hdp]; simp⟩ (by simp only; omega) (by simp [pickF]) rfl (by simp)
  · have hb':¬ ((0:Int)<m):=by omega
    obtain rfl:m=0:=by omega
    rw [digs_zero] at hd
    simp at hd
    subst hd
    simp [hm]
    omega
theorem take_drop_set {α:Type} {xs es:List α} {j:Nat} (h1:j<xs.length) (h2:xs.length=es.length):(xs.take j++es.drop j).set j xs[j]=xs.take (j+1)++es.drop (j+1):=by
  rw [List.set_append_right _ _ (by simp; omega)]
  have hl:j - (xs.take j).length=0:=by simp; omega
  rw [hl,List.drop_eq_getElem_cons (by omega:j<es.length),List.set_cons_zero,List.take_succ_eq_append_getElem h1,List.append_assoc]
  rfl
end Go.Proofs.Ytmpgpkdijfcfhaa.Hz
/- Slices of integers and of texts,nodes and branches' images: the laws' helpers. -/
namespace Go.Proofs.Ytmpgpkdijfcfhaa.Hz
open Go.RowKit
set_option linter.unusedVariables false
set_option linter.unusedSimpArgs false
set_option maxRecDepth 20000
theorem intEAt {h:Hp} {w:Bool} {t:TypeId} {es:List Int} {a:Option Addr} {F:List Nat} (k:slR w t intE h es a F) {i:Nat} (hi:i<es.length):∃ o off,a=some ⟨o,off,none⟩∧cellAt h o (off+i)=some (.int .i64 es[i]):=by
  obtain ⟨o,off,c,Fi,rfl,⟨rfl,_⟩,-,hc⟩:=k.at_ (List.getElem?_eq_getElem hi)
  have:=hc 0 (by decide)
  exact ⟨o,off,rfl,by simpa [intE,flatE] using this⟩
theorem eqIntS_c (xs ys:List Int) (a b:Option Addr) (F G:List Nat) (w w':Bool) (t t':TypeId) (h:Hp) (hx:slR w t intE h xs a F) (hy:slR w' t' intE h ys b G) (hl:xs.length≤1048576) :
    ACall Try.prog 93 [.slice a xs.length xs.length,.slice b ys.length ys.length] h fun r h'=>(∃ t,h'=h++t)∧r=.bool (decide (xs=ys)):=by
  refine acall mixed Try.func93 rfl (by kernel_rfl) ?_
  simp [Try.f93]
  refine asplitK_intro (fun hb=>?_) (fun hb=>?_) <;> simp at hb <;> simp [hb]
  · rintro rfl; exact hb rfl
  have hl2:xs.length=ys.length:=by omega
  refine aloop mixed [0,1,5] (fun (x:Nat × Hp)=>[.slice a xs.length xs.length,.slice b ys.length ys.length,.int .i64 x.1]) (fun x=>h++x.2) (fun x=>x.1≤xs.length∧xs.take x.1=ys.take x.1) (fun x=>xs.length - x.1) (0,[]) ⟨by simp,by simp⟩ (by simp [pickF]) (by simp) ?_
  rintro ⟨k,t⟩ ⟨hk,he⟩
  simp only at hk he
  simp [mkF]
  refine asplitK_intro (fun hc=>?_) (fun hc=>?_) <;> simp at hc <;> simp [hc]
  · have hc2:k<ys.length:=by omega
    obtain ⟨o,off,rfl,c0⟩:=intEAt (hx.ext (Ext.push h t)) hc
    obtain ⟨o',off',rfl,d0⟩:=intEAt (hy.ext (Ext.push h t)) hc2
    refine drawK false (by kernel_rfl) ?_
    simp [hc,hc2,c0,d0]
    refine asplitK_intro (fun hd=>?_) (fun hd=>?_) <;> simp at hd <;> simp [hd]
    · rintro rfl; exact hd rfl
    · exact anext (k+1,t) ⟨hc,take_snoc hc hc2 he hd⟩ (by simp only; omega) (by simp [pickF,wrap_succ (show k<9223372036854775807 by omega)]) (by simp) (by simp)
  · obtain rfl:k=xs.length:=by omega
    exact take_all (by omega) he
theorem strEAt {h:Hp} {w:Bool} {t:TypeId} {es:List Str} {a:Option Addr} {F:List Nat} (k:slR w t strE h es a F) {i:Nat} (hi:i<es.length):∃ o off,a=some ⟨o,off,none⟩∧cellAt h o (off+i)=some (.string (S es[i])):=by
  obtain ⟨o,off,c,Fi,rfl,⟨rfl,_⟩,-,hc⟩:=k.at_ (List.getElem?_eq_getElem hi)
  have:=hc 0 (by decide)
  exact ⟨o,off,rfl,by simpa [strE,flatE] using this⟩
theorem szStringS_c (es:List Str) (a:Option Addr) (F:List Nat) (w:Bool) (t:TypeId) (left:Int) (h:Hp) (hr:slR w t strE h es a F) (h1:0≤left) (h2:left≤1048576) (hl:es.length≤maxLen) (h3:∀ s∈es,s.length≤maxLen) :
    ACall Try.prog 5 [.slice a es.length es.length,.int .i64 left] h fun r h'=>(∃ t,h'=h++t)∧∃ n:Int,r=.int .i64 n∧n≤left∧(0≤n→es.length+sumL List.length es+n=left):=by
  refine acall mixed Try.func5 rfl (by kernel_rfl) ?_
  have h4:maxLen=9223372036854775807:=by decide
  have w1:IntKind.i64.wrap (left - es.length)=left - es.length:=wrap_in (by omega) (by omega)
  simp [Try.f5,w1]
  refine asplitK_intro (fun hb=>?_) (fun hb=>?_) <;> simp at hb <;> simp [hb]
  · omega
  refine aloop mixed [0,1,5] (fun (x:Nat × Int × Hp)=>[.slice a es.length es.length,.int .i64 x.2.1,.int .i64 x.1]) (fun x=>h++x.2.2) (fun x=>x.1≤es.length∧0≤x.2.1∧es.length+sumL List.length (es.take x.1)+x.2.1=left) (fun x=>es.length - x.1) (0,left - es.length,[]) ⟨by simp,by simp only; omega,by simp; omega⟩ (by simp [pickF]) (by simp) ?_
  rintro ⟨k,l,t'⟩ ⟨hk,hl0,hs⟩
  simp only at hk hl0 hs
  simp [mkF]
  refine asplitK_intro (fun hb=>?_) (fun hb=>?_) <;> simp at hb <;> simp [hb]
  · obtain ⟨o,off,rfl,c0⟩:=strEAt (hr.ext (Ext.push h t')) hb
    have h5:=h3 _ (List.getElem_mem hb)
    have w2:IntKind.i64.wrap (l - es[k].length)=l - es[k].length:=wrap_in (by omega) (by omega)
    simp [hb,c0,w2]
    have:=sumL_take List.length es k hb
    refine asplitK_intro (fun hb2=>?_) (fun hb2=>?_) <;> simp at hb2 <;> simp [hb2]
    · omega
    · exact anext (k+1,l - es[k].length,t') ⟨hb,by simp only; omega,by simp only; omega⟩ (by simp only; omega) (by simp [pickF,wrap_succ (show k<9223372036854775807 by omega)]) rfl (by simp)
  · obtain rfl:k=es.length:=by omega
    simp only [List.take_length] at hs
    omega
theorem toStringS_c (es:List Str) (a:Option Addr) (F:List Nat) (w:Bool) (t:TypeId) (h:Hp) (hr:slR w t strE h es a F) (hl:es.length≤1048576) :
    ACall Try.prog 7 [.slice a es.length es.length] h fun r h'=>∃ a' F',r=.slice a' es.length es.length∧Own h 9 strE h' es a' F':=by
  refine acall mixed Try.func7 rfl (by kernel_rfl) ?_
  have hb1:(es.length:Int) * 16≤(big:Int):=by unfold big; omega
  have hb2:es.length≤big:=by unfold big; omega
  simp [Try.f7,hb1,hb2]
  have own0:=Own.rep (A:=strE) h 9 es.length (z:=[]) (zs:=[.string (S [])]) ⟨rfl,rfl⟩
  refine aloop mixed [0,3,4] (fun (x:Nat × Hp)=>[.slice a es.length es.length,.slice (some ⟨h.length,0,none⟩) es.length es.length,.int .i64 x.1]) (fun x=>x.2)
    (fun x=>x.1≤es.length∧∃ F',Own h 9 strE x.2 (es.take x.1++List.replicate (es.length - x.1) []) (some ⟨h.length,0,none⟩) F') (fun x=>es.length - x.1) (0,_) ⟨by simp,_,by simpa using own0⟩ (by simp [pickF]) rfl ?_
  rintro ⟨k,H⟩ ⟨hk,F',own⟩
  simp only at hk own
  simp [mkF]
  refine asplitK_intro (fun hb=>?_) (fun hb=>?_) <;> simp at hb <;> simp [hb]
  · obtain ⟨o,off,rfl,c0⟩:=strEAt (hr.ext own.ext) hb
    obtain ⟨hcan,F2,own2⟩:=own.putFlat (i:=k) (by simp; omega) es[k] 0 [.string (S es[k])] (by simp) (by simp)
    rw [fill_set _ k hb] at own2
    simp at hcan own2
    simp [hb,c0,hcan]
    exact anext (k+1,_) ⟨hb,F2,own2⟩ (by simp only; omega) (by simp [pickF,wrap_succ (show k<9223372036854775807 by omega)]) rfl (by simp)
  · obtain rfl:k=es.length:=by omega
    simp at own
    exact ⟨_,own⟩
theorem eqStringS_c (xs ys:List Str) (a b:Option Addr) (F G:List Nat) (w w':Bool) (t t':TypeId) (h:Hp) (hx:slR w t strE h xs a F) (hy:slR w' t' strE h ys b G) (hl:xs.length≤1048576) :
    ACall Try.prog 10 [.slice a xs.length xs.length,.slice b ys.length ys.length] h fun r h'=>(∃ t,h'=h++t)∧r=.bool (decide (xs=ys)):=by
  refine acall mixed Try.func10 rfl (by kernel_rfl) ?_
  simp [Try.f10]
  refine asplitK_intro (fun hb=>?_) (fun hb=>?_) <;> simp at hb <;> simp [hb]
  · rintro rfl; exact hb rfl
  have hl2:xs.length=ys.length:=by omega
  refine aloop mixed [0,1,5] (fun (x:Nat × Hp)=>[.slice a xs.length xs.length,.slice b ys.length ys.length,.int .i64 x.1]) (fun x=>h++x.2) (fun x=>x.1≤xs.length∧xs.take x.1=ys.take x.1) (fun x=>xs.length - x.1) (0,[]) ⟨by simp,by simp⟩ (by simp [pickF]) (by simp) ?_
  rintro ⟨k,t⟩ ⟨hk,he⟩
  simp only at hk he
  simp [mkF]
  refine asplitK_intro (fun hc=>?_) (fun hc=>?_) <;> simp at hc <;> simp [hc]
  · have hc2:k<ys.length:=by omega
    obtain ⟨o,off,rfl,c0⟩:=strEAt (hx.ext (Ext.push h t)) hc
    obtain ⟨o',off',rfl,d0⟩:=strEAt (hy.ext (Ext.push h t)) hc2
    refine drawK false (by kernel_rfl) ?_
    simp [hc,hc2,c0,d0]
    refine asplitK_intro (fun hd=>?_) (fun hd=>?_) <;> simp at hd <;> simp [hd]
    · exact anext (k+1,t) ⟨hc,take_snoc hc hc2 he hd⟩ (by simp only; omega) (by simp [pickF,wrap_succ (show k<9223372036854775807 by omega)]) (by simp) (by simp)
    · rintro rfl; exact hd rfl
  · obtain rfl:k=xs.length:=by omega
    exact take_all (by omega) he
structure Node where
  kind:Int
  gen:Int
  time:Int
  size:Int
  blocks:List Int
  deriving DecidableEq
def Node.nl (x:Node):Nat:=x.blocks.length
def Node.bd (x:Node):Prop:=x.blocks.length≤maxLen
def Node.lim (x:Node):Prop:=x.blocks.length≤1048576
def nodeE (w:Bool) :Enc Node where
  n:=5
  R h x cs F:=∃ a1 F1,cs=[.int .i64 x.kind,.int .i64 x.gen,.int .i64 x.time,.int .i64 x.size,.slice a1 x.blocks.length x.blocks.length]∧F=F1∧slR w 3 intE h x.blocks a1 F1
  len:=by rintro h x cs F ⟨a1,F1,rfl,_⟩; rfl
  ok:=by rintro h x cs F ⟨a1,F1,rfl,_⟩; rfl
  frame:=by rintro h h' x cs F ⟨a1,F1,rfl,rfl,k1⟩ hf; exact ⟨a1,_,rfl,rfl,k1.frame fun q hq=>hf q (by simp [hq])⟩
  lt:=by rintro h x cs F ⟨a1,F1,rfl,rfl,k1⟩ q hq; exact k1.lt q hq
theorem Node.lim_of (x:Node) (h:x.nl≤1048576):x.lim:=show x.blocks.length≤1048576 by simp only [Node.nl] at h; omega
theorem nodeAt {h:Hp} {w:Bool} {t:TypeId} {es:List Node} {a:Option Addr} {F:List Nat} (k:slR w t (nodeE w) h es a F) {i:Nat} (hi:i<es.length):∃ o off b1 G1,a=some ⟨o,off,none⟩∧cellAt h o (off+i * 5)=some (.int .i64 es[i].kind)∧cellAt h o (off+i * 5+1)=some (.int .i64 es[i].gen)∧cellAt h o (off+i * 5+2)=some (.int .i64 es[i].time)∧cellAt h o (off+i * 5+3)=some (.int .i64 es[i].size)∧cellAt h o (off+i * 5+4)=some (.slice b1 es[i].blocks.length es[i].blocks.length)∧slR w 3 intE h es[i].blocks b1 G1∧(∀ q∈G1,q∈F):=by
  obtain ⟨o,off,c,Fi,rfl,⟨b1,G1,rfl,rfl,k1⟩,hq,hc⟩:=k.at_ (List.getElem?_eq_getElem hi)
  exact ⟨o,off,b1,_,rfl,hc 0 (by show _<5; omega),hc 1 (by show _<5; omega),hc 2 (by show _<5; omega),hc 3 (by show _<5; omega),hc 4 (by show _<5; omega),k1,fun q hq'=>hq q (by simp [hq'])⟩
theorem eqNode_c (x y:Node) (a1 b1:Option Addr) (F1 G1:List Nat) (w w':Bool)  (h:Hp) (k1:slR w 3 intE h x.blocks a1 F1) (l1:slR w' 3 intE h y.blocks b1 G1) (hl:x.lim) :
    ACall Try.prog 63 [.agg #[.int .i64 x.kind,.int .i64 x.gen,.int .i64 x.time,.int .i64 x.size,.slice a1 x.blocks.length x.blocks.length],.agg #[.int .i64 y.kind,.int .i64 y.gen,.int .i64 y.time,.int .i64 y.size,.slice b1 y.blocks.length y.blocks.length]] h fun r h'=>(∃ t,h'=h++t)∧r=.bool (decide (x=y)):=by
  refine acall mixed Try.func63 rfl (by kernel_rfl) ?_
  have he:(x=y)↔(x.kind=y.kind∧x.gen=y.gen∧x.time=y.time∧x.size=y.size∧x.blocks=y.blocks):=by cases x; cases y; simp
  simp [Try.f63,he]
  refine asplitK_intro (fun hb=>?_) (fun hb=>?_) <;> simp at hb <;> simp [hb]
  refine asplitK_intro (fun hb=>?_) (fun hb=>?_) <;> simp at hb <;> simp [hb]
  refine asplitK_intro (fun hb=>?_) (fun hb=>?_) <;> simp at hb <;> simp [hb]
  refine asplitK_intro (fun hb=>?_) (fun hb=>?_) <;> simp at hb <;> simp [hb]
  refine callK0 (eqIntS_c x.blocks y.blocks a1 b1 F1 G1 w w' _ _ _ (k1.ext (Ext.push h _)) (l1.ext (Ext.push h _)) hl) ?_
  rintro _ _ ⟨⟨t1,rfl⟩,rfl⟩
  simp
  refine asplitK_intro (fun hb=>?_) (fun hb=>?_) <;> simp at hb <;> simp [hb]
theorem eqNodeS_c (xs ys:List Node) (a b:Option Addr) (F G:List Nat) (w w':Bool) (t t':TypeId) (h:Hp) (hx:slR w t (nodeE w) h xs a F) (hy:slR w' t' (nodeE w') h ys b G) (hl:xs.length≤1048576) (hb1:∀ x∈xs,x.lim) :
    ACall Try.prog 33 [.slice a xs.length xs.length,.slice b ys.length ys.length] h fun r h'=>(∃ t,h'=h++t)∧r=.bool (decide (xs=ys)):=by
  refine acall mixed Try.func33 rfl (by kernel_rfl) ?_
  simp [Try.f33]
  refine asplitK_intro (fun hb=>?_) (fun hb=>?_) <;> simp at hb <;> simp [hb]
  · rintro rfl; exact hb rfl
  have hl2:xs.length=ys.length:=by omega
  refine aloop mixed [0,1,5] (fun (x:Nat × Hp)=>[.slice a xs.length xs.length,.slice b ys.length ys.length,.int .i64 x.1]) (fun x=>h++x.2) (fun x=>x.1≤xs.length∧xs.take x.1=ys.take x.1) (fun x=>xs.length - x.1) (0,[]) ⟨by simp,by simp⟩ (by simp [pickF]) (by simp) ?_
  rintro ⟨k,t⟩ ⟨hk,he⟩
  simp only at hk he
  simp [mkF]
  refine asplitK_intro (fun hc=>?_) (fun hc=>?_) <;> simp at hc <;> simp [hc]
  · have hc2:k<ys.length:=by omega
    obtain ⟨o,off,ax1,fx1,rfl,c0,c1,c2,c3,c4,ck1,-⟩:=nodeAt (hx.ext (Ext.push h t)) hc
    obtain ⟨o',off',ay1,fy1,rfl,d0,d1,d2,d3,d4,dk1,-⟩:=nodeAt (hy.ext (Ext.push h t)) hc2
    refine drawK false (by kernel_rfl) ?_
    simp [hc,hc2,c0,c1,c2,c3,c4,d0,d1,d2,d3,d4]
    refine callK0 (eqNode_c xs[k] ys[k] ax1 ay1 fx1 fy1 w w' _ ck1 dk1 (hb1 _ (List.getElem_mem hc))) ?_
    rintro _ _ ⟨⟨t2,rfl⟩,rfl⟩
    simp
    refine asplitK_intro (fun hd=>?_) (fun hd=>?_) <;> simp at hd <;> simp [hd]
    · exact anext (k+1,t++t2) ⟨hc,take_snoc hc hc2 he hd⟩ (by simp only; omega) (by simp [pickF,wrap_succ (show k<9223372036854775807 by omega)]) (by simp) (by simp)
    · rintro rfl; exact hd rfl
  · obtain rfl:k=xs.length:=by omega
    exact take_all (by omega) he
structure Fs where
  nodes:List Node
  data:List Str
  deriving DecidableEq
def Fs.nl (x:Fs):Nat:=x.nodes.length+sumL Node.nl x.nodes+x.data.length+sumL List.length x.data
def Fs.bd (x:Fs):Prop:=x.nodes.length≤maxLen∧(∀ y∈x.nodes,y.bd)∧x.data.length≤maxLen∧(∀ s∈x.data,s.length≤maxLen)
def Fs.lim (x:Fs):Prop:=x.nodes.length≤1048576∧(∀ y∈x.nodes,y.lim)∧x.data.length≤1048576
theorem Fs.lim_of (x:Fs) (h:x.nl≤1048576):x.lim:=⟨show x.nodes.length≤1048576 by simp only [Fs.nl] at h; omega,fun y hy=>Node.lim_of y (by have:=sumL_mem Node.nl hy; simp only [Fs.nl] at h; omega),show x.data.length≤1048576 by simp only [Fs.nl] at h; omega⟩
theorem eqFs_c (x y:Fs) (a1 b1:Option Addr) (F1 G1:List Nat) (a2 b2:Option Addr) (F2 G2:List Nat) (w w':Bool) (tNode tNode':TypeId) (h:Hp) (k1:slR w tNode (nodeE w) h x.nodes a1 F1) (l1:slR w' tNode' (nodeE w') h y.nodes b1 G1) (k2:slR w 9 strE h x.data a2 F2) (l2:slR w' 9 strE h y.data b2 G2) (hl:x.lim) :
    ACall Try.prog 9 [.agg #[.slice a1 x.nodes.length x.nodes.length,.slice a2 x.data.length x.data.length],.agg #[.slice b1 y.nodes.length y.nodes.length,.slice b2 y.data.length y.data.length]] h fun r h'=>(∃ t,h'=h++t)∧r=.bool (decide (x=y)):=by
  refine acall mixed Try.func9 rfl (by kernel_rfl) ?_
  have he:(x=y)↔(x.nodes=y.nodes∧x.data=y.data):=by cases x; cases y; simp
  simp [Try.f9,he]
  refine callK0 (eqNodeS_c x.nodes y.nodes a1 b1 F1 G1 w w' _ _ _ (k1.ext (Ext.push h _)) (l1.ext (Ext.push h _)) hl.1 hl.2.1) ?_
  rintro _ _ ⟨⟨t1,rfl⟩,rfl⟩
  simp
  refine asplitK_intro (fun hb=>?_) (fun hb=>?_) <;> simp at hb <;> simp [hb]
  refine callK0 (eqStringS_c x.data y.data a2 b2 F2 G2 w w' _ _ _ (k2.ext (Ext.push h _)) (l2.ext (Ext.push h _)) hl.2.2) ?_
  rintro _ _ ⟨⟨t2,rfl⟩,rfl⟩
  simp
  refine asplitK_intro (fun hb=>?_) (fun hb=>?_) <;> simp at hb <;> simp [hb]
end Go.Proofs.Ytmpgpkdijfcfhaa.Hz
/- math/bits.Mul of small numbers,by the library's proved summary of Mul64. -/
namespace Go.Proofs.Ytmpgpkdijfcfhaa.Hz
open Go.RowKit
set_option linter.unusedVariables false
set_option linter.unusedSimpArgs false
set_option maxRecDepth 20000
def plainV:Value→Bool
  | .int _ _ | .string _ | .bool _=>true
  | _=>false
theorem relV_plain {φ:Inj} {a v:Value} (h:plainV a=true) (r:RelV φ a v):v=a:=by
  cases a <;> simp [plainV] at h <;> exact r
theorem all2_plain {φ:Inj}:∀ {xs vs:List Value},xs.all plainV=true→All2 (RelV φ) xs vs→vs=xs
  | [],_,_,r=>by rw [All2.nil_iff] at r; exact r
  | a :: xs,vs,h,r=>by
    obtain ⟨b,bs,rfl,h1,h2⟩:=All2.cons_iff.1 r
    simp only [List.all_cons,Bool.and_eq_true] at h
    rw [relV_plain h.1 h1,all2_plain h.2 h2]
theorem ACall.same {P:Program} {f:FuncId} {fn:Func} {c:Code} {args:List Value} {h:Hp} {v:Value} (hf:P.funcs[f]?=some fn) (hb:fn.body=some c) (hn:(fn.name == "runtime.NumGoroutine")=false)
    (hs:args.all plainV=true) (hv:∀ φ,RelV φ v v) (k:∀ w,Calls P f args.toArray w fun e w'=>e=.returned v∧w'=w):ACall P f args h fun r h'=>h'=h∧r=v:=by
  intro B w0 φ w args' R ha
  obtain rfl:=all2_plain hs ha
  have hen:(callFunc f args'.toArray).run P w=.ok (.enter f args'.toArray) w:=by
    unfold callFunc
    simp only [Sem.run_bind,run_program,Result.andThen_ok,hf]
    simp [hn,hb]
  unfold CallsV
  rw [hen]
  refine (k w).mono ?_
  rintro e w' ⟨rfl,rfl⟩
  exact ⟨v,rfl,φ,v,h,List.prefix_rfl,R,hv φ,rfl,rfl⟩
def mulRen:Shelf.Ren:=⟨fun _=>108,fun x=>if x=46 then 82 else 120,fun x=>x⟩
theorem mulLays:Go.Proofs.Lays.n264 Try.prog mulRen where
  mixed:=mixed
  f264:=by kernel_rfl
  t46:=by kernel_rfl
  a46:=fun _=>by kernel_rfl
  z46:=fun _=>by kernel_rfl
  v46:=fun _=>by kernel_rfl
  t53:=by kernel_rfl
  a53:=fun _=>by kernel_rfl
  z53:=fun _=>by kernel_rfl
  v53:=fun _=>by kernel_rfl
theorem mul64_c (m:Nat) (hm:m≤1048576) (h:Hp):ACall Try.prog 108 [.int .u64 1,.int .u64 m] h fun r h'=>h'=h∧r=.tuple #[.int .u64 0,.int .u64 m]:=by
  refine ACall.same Try.func108 rfl (by kernel_rfl) rfl (fun φ=>⟨_,rfl,rfl,rfl,trivial⟩) fun w=>?_
  have:=Any.bits_Mul64 mulLays 1 m (by omega) (by omega) w
  have e1:1 * m / 18446744073709551616=0:=by omega
  have e2:1 * m % 18446744073709551616=m:=by omega
  rw [e1,e2] at this
  exact this
theorem mul_c (m:Nat) (hm:m≤1048576) (h:Hp):ACall Try.prog 95 [.int .u64 1,.int .u64 m] h fun r h'=>h'=h∧r=.tuple #[.int .u64 0,.int .u64 m]:=by
  refine acall mixed Try.func95 rfl (by kernel_rfl) ?_
  simp [Try.f95]
  refine callK0 (mul64_c m hm _) ?_
  rintro _ _ ⟨rfl,rfl⟩
  simp
end Go.Proofs.Ytmpgpkdijfcfhaa.Hz
/- Nodes and branches' images: the copies that the laws make. -/
namespace Go.Proofs.Ytmpgpkdijfcfhaa.Hz
open Go.RowKit
set_option linter.unusedVariables false
set_option linter.unusedSimpArgs false
set_option maxRecDepth 20000
end Go.Proofs.Ytmpgpkdijfcfhaa.Hz
/- slices.Repeat of one integer. -/
namespace Go.Proofs.Ytmpgpkdijfcfhaa.Hz
open Go.RowKit
set_option linter.unusedVariables false
set_option linter.unusedSimpArgs false
set_option maxRecDepth 20000
theorem wrap_u64 {n:Int} (h1:0≤n) (h2:n≤9223372036854775807):IntKind.u64.wrap n=n:=by
  simp only [IntKind.wrap,IntKind.bits,IntKind.signed]
  simp
  omega
theorem setL_rep (n m k:Nat) (v z:Value) (hk:k≤m):setL (List.replicate n v++List.replicate m z) n (List.replicate k v)=List.replicate (n+k) v++List.replicate (m - k) z:=by
  have e1:n=(List.replicate n v).length+0:=by simp
  conv=>lhs; arg 2; rw [e1]
  rw [setL_append_right]
  have e2:List.replicate m z=List.replicate k z++List.replicate (m - k) z:=by rw [List.replicate_append_replicate]; congr 1; omega
  rw [e2,setL_append_left _ _ _ _ (by simp),setL_all _ _ (by simp),← List.append_assoc,List.replicate_append_replicate]
theorem setsAt_one (i:Nat) (ob:Ob):∀ (vs:List Value),setsAt [ob] 0 i vs=[⟨ob.live,ob.rw,ob.elem,setL ob.cells i vs⟩]:=by
  have key:∀ (vs:List Value) (i:Nat) (ob:Ob),setsAt [ob] 0 i vs=[⟨ob.live,ob.rw,ob.elem,setL ob.cells i vs⟩]:=by
    intro vs
    induction vs with
    | nil=>intro i ob; rfl
    | cons v vs ih=>intro i ob; rw [setsAt_hd,ih]; rfl
  exact fun vs=>key vs i ob
theorem cellsAt_rep (h:Hp) (e:TypeId) (n m k:Nat) (v z:Value) (hk:k≤n):cellsAt (h++[⟨true,true,e,List.replicate n v++List.replicate m z⟩]) h.length 0 k=some (List.replicate k v):=by
  have:=cellsAt_of (h:=h++[⟨true,true,e,List.replicate n v++List.replicate m z⟩]) (o:=h.length) (cs:=List.replicate k v) (i:=0) (fun j hj=>by
    simp only [List.length_replicate] at hj
    rw [cellAt_app0]
    show (List.replicate n v++List.replicate m z)[0+j]?=_
    rw [Nat.zero_add,List.getElem?_append_left (by simp; omega),List.getElem?_replicate,List.getElem?_replicate,if_pos (by omega),if_pos hj])
  simpa using this
theorem acopy_rep {t:TypeId} {e bt:Nat} {z0:List Value} (hel:elOf Try.prog t=some (e,1,bt,z0)) (h:Hp) (n m:Nat) (v z:Value) (hn:0<n) (hm:0<m) :
    acopy Try.prog (h++[⟨true,true,e,List.replicate n v++List.replicate m z⟩]) t (.slice (some ⟨h.length,n,none⟩) m m) (.slice (some ⟨h.length,0,none⟩) n (n+m)) =
      some (.int .i64 (min n m:Nat),h++[⟨true,true,e,List.replicate (n+min n m) v++List.replicate (m - min n m) z⟩]):=by
  have h0:¬ (min n m=0):=by omega
  have hcan:canSet (h++[⟨true,true,e,List.replicate n v++List.replicate m z⟩]) h.length n (min n m)=true:=by
    rw [canSet_app0]
    simp [canSet_hd]
    exact Nat.min_le_right n m
  have hc:=cellsAt_rep h e n m (min n m) v z (by omega)
  simp only [acopy,hel,Option.bind_some,h0,if_false,Nat.mul_one,hcan,if_true,hc,Option.map_some]
  rw [setsAt_app0,setsAt_one,setL_rep _ _ _ _ _ (Nat.min_le_right n m)]
theorem acopy_first {t:TypeId} {e bt:Nat} {z0:List Value} (hel:elOf Try.prog t=some (e,1,bt,z0)) (h:Hp) (m:Nat) (v z:Value) (o off:Nat) (ho:cellAt h o off=some v) (hm:0<m) :
    acopy Try.prog (h++[⟨true,true,e,List.replicate m z⟩]) t (.slice (some ⟨h.length,0,none⟩) m m) (.slice (some ⟨o,off,none⟩) 1 1) =
      some (.int .i64 1,h++[⟨true,true,e,List.replicate 1 v++List.replicate (m - 1) z⟩]):=by
  have h1:min 1 m=1:=by omega
  have hlt:o<h.length:=by
    obtain ⟨ob,ho,_⟩:=cellAt_some ho
    exact (List.getElem?_eq_some_iff.1 ho).1
  have hcan:canSet (h++[⟨true,true,e,List.replicate m z⟩]) h.length 0 1=true:=by
    rw [canSet_app0]
    simp [canSet_hd]
    omega
  have hc:cellsAt (h++[⟨true,true,e,List.replicate m z⟩]) o off 1=some [v]:=by
    have:cellAt (h++[⟨true,true,e,List.replicate m z⟩]) o off=some v:=by rw [cellAt_ext (Ext.push h _) hlt]; exact ho
    simp [this]
  simp only [acopy,hel,Option.bind_some,h1,Nat.mul_one,hcan,if_true,hc,Option.map_some]
  rw [setsAt_app0,setsAt_one]
  have:=setL_rep 0 m 1 v z (by omega)
  simp only [List.replicate_zero,List.nil_append,Nat.zero_add] at this
  have e1:([v]:List Value)=List.replicate 1 v:=rfl
  rw [e1,this]
  simp
theorem rep_one (n:Nat) (v:Value):Hz.rep n [v]=List.replicate n v:=by
  induction n with
  | zero=>rfl
  | succ n ih=>rw [rep_succ,ih,List.replicate_succ]; rfl
theorem repeat_c (N:Nat) (h1:1≤N) (hN:N≤1048576) (a:Option Addr) (F:List Nat) (w:Bool) (t:TypeId) (h:Hp) (hr:slR w t intE h [-1] a F) :
    ACall Try.prog 67 [.slice a 1 1,.int .i64 N] h fun r h'=>∃ a' F',r=.slice a' N N∧Own h 3 intE h' (List.replicate N (-1)) a' F':=by
  refine acall mixed Try.func67 rfl (by kernel_rfl) ?_
  have hN':(N:Int)≤1048576:=by omega
  have w1:IntKind.u64.wrap (N:Int)=N:=wrap_u64 (by omega) (by omega)
  have w2:IntKind.u64.wrap 1=1:=wrap_u64 (by omega) (by omega)
  have w3:IntKind.i64.wrap (N:Int)=N:=wrap_in (by omega) (by omega)
  have hneg:¬ ((N:Int)<0):=by omega
  have hbig:¬ (9223372036854775807<(N:Int)):=by omega
  have hb1:(N:Int) * 8≤(big:Int):=by unfold big; omega
  have hb2:N≤big:=by unfold big; omega
  simp [Try.f67,w1,w2,hneg]
  refine callK0 (mul_c N hN _) ?_
  rintro _ h ⟨rfl,rfl⟩
  obtain ⟨o,off,rfl,c0⟩:=intEAt hr (i:=0) (by simp)
  simp only [Nat.add_zero,List.getElem_cons_zero] at c0
  have hcp:=acopy_first (t:=47) (e:=3) (bt:=8) (z0:=[.int .i64 0]) (by simp) h N (.int .i64 (-1)) (.int .i64 0) o off c0 h1
  simp [hbig,w3,hb1,hb2,rep_one,hcp]
  refine aloop mixed [7,8] (fun (n:Nat)=>[.slice (some ⟨h.length,0,none⟩) N N,.int .i64 n]) (fun n=>h++[⟨true,true,3,List.replicate n (.int .i64 (-1))++List.replicate (N - n) (.int .i64 0)⟩]) (fun n=>1≤n∧n≤N) (fun n=>N - n) 1 ⟨Nat.le_refl _,h1⟩ rfl (by simp) ?_
  rintro n ⟨hn1,hn2⟩
  simp [mkF]
  refine asplitK_intro (fun hb=>?_) (fun hb=>?_) <;> simp at hb <;> simp [hb]
  · have hcp2:=acopy_rep (t:=47) (e:=3) (bt:=8) (z0:=[.int .i64 0]) (by simp) h n (N - n) (.int .i64 (-1)) (.int .i64 0) (by omega) (by omega)
    have hs:n+(N - n)=N:=by omega
    rw [hs] at hcp2
    have wk:IntKind.i64.wrap ((n:Int)+(min n (N - n):Nat))=((n+min n (N - n):Nat):Int):=by rw [wrap_in (by omega) (by omega)]; omega
    refine drawK false (by kernel_rfl) ?_
    simp [asl2_i,asl2_j,hn2,hcp2]
    exact anext (n+min n (N - n)) ⟨by omega,by omega⟩ (by omega) (by simp [pickF,wk]) (by simp [Nat.sub_sub]) (by simp)
  · obtain rfl:n=N:=by omega
    have:=Own.rep (A:=intE) h 3 n (z:=-1) (zs:=[.int .i64 (-1)]) ⟨rfl,rfl⟩
    rw [rep_one] at this
    simpa using ⟨_,this⟩
end Go.Proofs.Ytmpgpkdijfcfhaa.Hz
