/- Texts of the calculus and of the program's functions, merged: AD AE AI IS IC. -/
import Derived.Test.YtmpgpkdijfcfhaaHyGM
import Derived.Test.YtmpgpkdijfcfhaaHyGE
import Derived.Test.YtmpgpkdijfcfhaaHyGD
import Derived.Test.YtmpgpkdijfcfhaaHyT
import Derived.Shelf.RegionOpenPlain
import Derived.WalkKit
import Derived.Lib.Walk
import Derived.Lib.SliceRun
import Derived.Lib.AppendZeros
import Derived.Lib.AppendZerosOnto
import Derived.Lib.Overlaps
import Derived.Laws.Externs
import Derived.Laws.IdiomCopy
import Derived.Laws.NewBlocks
namespace Go.Proofs.Ytmpgpkdijfcfhaa.Hz
open Go.RowKit
set_option linter.unusedVariables false
set_option linter.unusedSimpArgs false
set_option maxRecDepth 20000
def insAt (name:Str):List Ent→Nat
  | []=>0
  | e :: es=>if Op.bytesLess name e.name then 0 else 1+insAt name es
theorem insAt_le (name:Str):∀ es:List Ent,insAt name es≤es.length
  | []=>Nat.le_refl _
  | e :: es=>by
    have:=insAt_le name es
    unfold insAt
    split
    · omega
    · simp; omega
theorem insAt_drop (name:Str) (es:List Ent) (k:Nat) (hk:k<es.length):insAt name (es.drop k)=if Op.bytesLess name es[k].name then 0 else 1+insAt name (es.drop (k+1)):=by
  rw [List.drop_eq_getElem_cons hk]; rfl
def insE (es:List Ent) (name:Str) (node:Int):List Ent:=es.take (insAt name es)++[⟨name,node⟩]++es.drop (insAt name es)
def dirAdd (es:List Ent) (name:Str) (node:Int):List Ent × Bool :=
  if entriesOk es && entriesOk (insE es name node) then (insE es name node,true) else (es,false)
theorem insE_len (es:List Ent) (name:Str) (node:Int):(insE es name node).length=es.length+1:=by
  have:=insAt_le name es
  simp [insE]
  omega
theorem insE_nl (es:List Ent) (name:Str) (node:Int):sumL Ent.nl (insE es name node)=sumL Ent.nl es+name.length:=by
  have h1:sumL Ent.nl es=sumL Ent.nl (es.take (insAt name es))+sumL Ent.nl (es.drop (insAt name es)):=by rw [← sumL_append,List.take_append_drop]
  unfold insE
  rw [sumL_append,sumL_append,h1]
  simp [sumL,Ent.nl]
  omega
theorem cutLo {H:Hp} {w:Bool} {es:List Ent} {a:Option Addr} {F:List Nat} (k:slR w 124 entE H es a F) {n:Nat} (hn:n≤es.length) :
    ∃ b c G,asl2 Try.prog H 108 (.slice a es.length es.length) none (some (.int .i64 n)) none=some (.slice b n c)∧n≤c∧slR w 124 entE H (es.take n) b G:=by
  cases a with
  | none =>
    obtain ⟨rfl,rfl⟩:=k
    obtain rfl:n=0:=by simpa using hn
    exact ⟨none,0,[],by simp [asl2,asl,bound],Nat.le_refl _,⟨by simp,rfl⟩⟩
  | some b =>
    obtain ⟨o,off,sp⟩:=b
    obtain rfl:sp=none:=k.1
    have hel:=k.el
    obtain ⟨G,kp,-⟩:=k.part 0 n (by omega) hn
    simp only [List.drop_zero,Nat.zero_mul,Nat.add_zero] at kp
    exact ⟨_,es.length,G,by simp [asl2_j,hel,hn],hn,kp⟩
theorem cutHi {H:Hp} {w:Bool} {es:List Ent} {a:Option Addr} {F:List Nat} (k:slR w 124 entE H es a F) {n:Nat} (hn:n≤es.length) :
    ∃ b G,asl2 Try.prog H 108 (.slice a es.length es.length) (some (.int .i64 n)) none none=some (.slice b (es.length - n) (es.length - n))∧slR w 124 entE H (es.drop n) b G:=by
  cases a with
  | none =>
    obtain ⟨rfl,rfl⟩:=k
    obtain rfl:n=0:=by simpa using hn
    exact ⟨none,[],by simp [asl2,asl,bound],⟨by simp,rfl⟩⟩
  | some b =>
    obtain ⟨o,off,sp⟩:=b
    obtain rfl:sp=none:=k.1
    have hel:=k.el
    obtain ⟨G,kp,-⟩:=k.part n es.length hn (Nat.le_refl _)
    rw [List.take_length] at kp
    exact ⟨_,G,by simp [asl2_i,hel,hn]; rfl,kp⟩
section
variable (es:List Ent) (name:Str) (node:Int) (a:Option Addr) (F:List Nat) (w:Bool) (h:Hp) (hr:slR w 124 entE h es a F) (hl:es.length≤1048576) (hn:sumL Ent.nl es+name.length≤2097152)
include hr hl hn
set_option maxHeartbeats 4000000 in
theorem dirAdd_spec_c :
    ACall Try.prog 111 [.slice a es.length es.length,.string (S name),.int .i64 node] h fun r h'=>∃ a' F',r=.tuple #[.slice a' (dirAdd es name node).1.length (dirAdd es name node).1.length,.bool (dirAdd es name node).2]∧Own h 124 entE h' (dirAdd es name node).1 a' F':=by
  refine acall mixed Try.func111 rfl (by kernel_rfl) ?_
  have hw0:IntKind.i64.wrap ((es.length:Int) - 1)=(es.length:Int) - 1:=wrap_in (by omega) (by omega)
  simp [Try.f111,hw0]
  refine aloop mixed [0,1,2,8,9] (fun (x:Nat)=>[.slice a es.length es.length,.string (S name),.int .i64 node,.int .i64 ((x+insAt name (es.drop x):Nat):Int),.int .i64 ((x:Int) - 1)]) (fun _=>h) (fun x=>x≤es.length) (fun x=>x)
    es.length (Nat.le_refl _) (by simp [pickF,insAt]) rfl ?_
  intro c hc
  simp [mkF]
  refine aSI (fun hb=>?_) (fun hb=>?_) <;> simp at hb <;> simp [hb]
  · obtain ⟨c,rfl⟩:∃ c',c=c'+1:=⟨c - 1,by omega⟩
    have hlt:c<es.length:=by omega
    obtain ⟨o,off,rfl,c0,c1⟩:=entAt hr hlt
    have hd:=insAt_drop name es c hlt
    have hi:((c+1:Nat):Int) - 1=(c:Int):=by omega
    have hw1:IntKind.i64.wrap ((c:Int) - 1)=(c:Int) - 1:=wrap_in (by omega) (by omega)
    simp [hi,hlt,c0]
    refine aSI (fun hd1=>?_) (fun hd1=>?_)
    · rw [if_pos hd1] at hd
      simp [hw1]
      exact anext c (by omega) (by simp) (by simp [pickF,hd]) rfl (by simp)
    · rw [if_neg (by simpa using hd1)] at hd
      simp [hw1]
      exact anext c (by omega) (by simp) (by simp [pickF,hd]; omega) rfl (by simp)
  · obtain rfl:c=0:=by omega
    simp
    have hle:=insAt_le name es
    have hlen:=insE_len es name node
    have hnl:=insE_nl es name node
    obtain ⟨n,hnn⟩:∃ n,n=insAt name es:=⟨_,rfl⟩
    have hins:insE es name node=es.take n++[⟨name,node⟩]++es.drop n:=by rw [hnn]; rfl
    rw [← hnn] at hle ⊢
    obtain ⟨b1,c1,G1,e1,q1,s1⟩:=cutLo hr hle
    have hl1:(es.take n).length=n:=by simp; omega
    have hcp:=l8Copy_c (es.take n) b1 G1 w _ h s1 (by omega)
    rw [hl1] at hcp
    simp [e1]
    refine cK (hcp.cap q1) ?_
    rintro _ H1 ⟨b2,G2,rfl,o2⟩
    obtain ⟨a',H',F',eq,own',keep,sub⟩:=o2.append1K (P:=Try.prog) ⟨name,node⟩ (cs:=[.string (S name),.int .i64 node]) rfl (st:=108) (xt:=108) (bt:=24) (z:=[.string (S []),.int .i64 0]) (by simp) (by simp) (by unfold big; omega) (by unfold big; omega)
    rw [hl1] at eq
    simp [eq]
    obtain ⟨b3,G3,e2,s3⟩:=cutHi (hr.ext own'.ext) hle
    have hl3:(es.drop n).length=es.length - n:=by simp
    have hl4:(es.take n++[(⟨name,node⟩:Ent)]).length=n+1:=by rw [List.length_append,hl1]; rfl
    obtain ⟨a4,H4,F4,eq4,own4,keep4,len4⟩:=own'.appendSl (P:=Try.prog) s3 (st:=108) (xt:=108) (bt:=24) (z:=[.string (S []),.int .i64 0]) (by simp) (by simp) (by unfold big; omega) (by unfold big; omega)
    rw [hl3,hl4] at eq4
    rw [← hins] at own4
    have hl5:n+1+(es.length - n)=(insE es name node).length:=by omega
    rw [hl5] at eq4
    simp [e2,eq4]
    have hr4:=hr.ext own4.ext
    refine cK (entriesOk_spec_c es a F w _ _ hr4 (by omega) (by omega)) ?_
    rintro _ _ ⟨⟨t5,rfl⟩,rfl⟩
    cases e5:entriesOk es
    · have hd:dirAdd es name node=(es,false):=by simp [dirAdd,e5]
      rw [hd]
      simp
      refine cK (l8Copy_c es a F w _ _ (hr4.to (by simp)) (by omega)) ?_
      rintro _ H6 ⟨a6,F6,rfl,o6⟩
      simp
      exact ⟨F6,o6.of_new (own4.ext.app _)⟩
    simp
    refine cK (entriesOk_spec_c (insE es name node) a4 F4 true _ _ (own4.sl.to (by simp)) (by omega) (by omega)) ?_
    rintro _ _ ⟨⟨t6,rfl⟩,rfl⟩
    cases e6:entriesOk (insE es name node)
    · have hd:dirAdd es name node=(es,false):=by simp [dirAdd,e6]
      rw [hd]
      simp
      refine cK (l8Copy_c es a F w _ _ (hr4.to (by simp)) (by omega)) ?_
      rintro _ H6 ⟨a6,F6,rfl,o6⟩
      simp
      exact ⟨F6,o6.of_new (own4.ext.app _)⟩
    have hd:dirAdd es name node=(insE es name node,true):=by simp [dirAdd,e5,e6]
    rw [hd]
    simp
    exact ⟨F4,own4.to (by simp)⟩
end
theorem less_irr:∀ a:Str,Op.bytesLess a a=false
  | []=>rfl
  | a :: x=>by simp [Op.bytesLess,less_irr x]
theorem less_trans:∀ a b c:Str,Op.bytesLess a b=true→Op.bytesLess b c=true→Op.bytesLess a c=true
  | _,_,[],_,h=>by simp [Op.bytesLess] at h
  | [],_,_ :: _,_,_=>rfl
  | _ :: _,[],_ :: _,h,_=>by simp [Op.bytesLess] at h
  | a :: x,b :: y,c :: z,h1,h2=>by
    simp only [Op.bytesLess,Bool.or_eq_true,Bool.and_eq_true,decide_eq_true_eq,beq_iff_eq] at h1 h2 ⊢
    rcases h1 with h1 | ⟨rfl,h1⟩
    · rcases h2 with h2 | ⟨rfl,h2⟩
      · exact .inl (UInt8.lt_trans h1 h2)
      · exact .inl h1
    · rcases h2 with h2 | ⟨rfl,h2⟩
      · exact .inl h2
      · exact .inr ⟨rfl,less_trans x y z h1 h2⟩
def adj:List Ent→Bool
  | []=>true
  | [_]=>true
  | e :: e' :: r=>Op.bytesLess e.name e'.name && adj (e' :: r)
theorem okFrom_adj (es:List Ent):∀ (l pre:List Ent),es=pre++l→okFrom es l pre.length=true→adj l=true
  | [],_,_,_=>rfl
  | [_],_,_,_=>rfl
  | e :: e' :: r,pre,he,h=>by
    simp only [okFrom,Bool.and_eq_true] at h
    have h2:=h.2.1
    have ih:=okFrom_adj es (e' :: r) (pre++[e]) (by rw [he]; simp) (by
      simp only [okFrom,Bool.and_eq_true,List.length_append,List.length_singleton]
      exact h.2)
    simp only [okAt,Bool.and_eq_true] at h2
    have h3:=h2.1.2
    have hg:es[pre.length]?=some e:=by rw [he]; simp
    rw [hg] at h3
    simp only [adj,Bool.and_eq_true]
    exact ⟨h3,ih⟩
theorem entriesOk_adj {es:List Ent} (h:entriesOk es=true):adj es=true:=by
  simp only [entriesOk,Bool.and_eq_true] at h
  exact okFrom_adj es es [] rfl h.1
theorem adj_least:∀ (e:Ent) (r:List Ent),adj (e :: r)=true→∀ x∈r,Op.bytesLess e.name x.name=true
  | _,[],_,x,hx=>by cases hx
  | e,e' :: r,h,x,hx=>by
    simp only [adj,Bool.and_eq_true] at h
    rcases List.mem_cons.1 hx with rfl | hx
    · exact h.1
    · exact less_trans _ _ _ h.1 (adj_least e' r h.2 x hx)
theorem entTxt_pos (e:Ent):1≤(entTxt e).length:=by
  simp only [entTxt,putText,List.length_append]
  by_cases h:(e.name.length:Int)≤2147483647
  · have:1≤(putNum (e.name.length:Int)).length:=by
      unfold putNum
      rw [if_pos ⟨by omega,h⟩,numB]
      split <;> simp
    omega
  · omega
theorem dirText_pos:∀ es:List Ent,es.length≤(dirText es).length
  | []=>Nat.zero_le _
  | e :: es=>by
    have ih:=dirText_pos es
    have h2:=entTxt_pos e
    have:(dirText (e :: es)).length=(entTxt e).length+(dirText es).length:=by simp [dirText,catL]
    simp only [List.length_cons]
    omega
theorem entriesOk_small {es:List Ent} (h:entriesOk es=true):es.length≤80:=by
  simp only [entriesOk,Bool.and_eq_true,decide_eq_true_eq] at h
  exact Nat.le_trans (dirText_pos es) h.2
section
end
end Go.Proofs.Ytmpgpkdijfcfhaa.Hz
namespace Go.Proofs.Ytmpgpkdijfcfhaa.Hz
open Go.RowKit Go.Lib
set_option linter.unusedVariables false
set_option linter.unusedSimpArgs false
section
variable {P:Program}
end
end Go.Proofs.Ytmpgpkdijfcfhaa.Hz
namespace Go.Proofs.Ytmpgpkdijfcfhaa.Hz
open Go.RowKit
set_option linter.unusedVariables false
set_option linter.unusedSimpArgs false
set_option maxRecDepth 20000
end Go.Proofs.Ytmpgpkdijfcfhaa.Hz
