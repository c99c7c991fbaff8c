/- Texts of the calculus and of the program's functions, merged: AD AE AI IS IC. -/
import Derived.Test.YtmpgpkdijfcfhaaGreatHyGM
import Derived.Test.YtmpgpkdijfcfhaaGreatHyGE
import Derived.Test.YtmpgpkdijfcfhaaGreatHyGD
import Derived.Test.YtmpgpkdijfcfhaaGreatHyT
import Derived.Shelf.RegionOpenPlain
import Derived.WalkKit
import Derived.Lib.Walk
import Derived.Lib.SliceRun
import Derived.Lib.AppendZeros
import Derived.Lib.AppendZerosOnto
import Derived.Lib.Overlaps
import Derived.Laws.Externs
import Derived.Laws.IdiomCopy
import Derived.Laws.NewBlocks
/- DirAdd: what it gives; the reference. -/
namespace Go.Proofs.YtmpgpkdijfcfhaaGreat.Hz
open Go.RowKit
set_option linter.unusedVariables false
set_option linter.unusedSimpArgs false
set_option maxRecDepth 20000
def insAt (name:Str):List Ent→Nat
  | []=>0
  | e :: es=>if Op.bytesLess name e.name then 0 else 1+insAt name es
theorem insAt_le (name:Str):∀ es:List Ent,insAt name es≤es.length
  | []=>Nat.le_refl _
  | e :: es=>by
    have:=insAt_le name es
    unfold insAt
    split
    · omega
    · simp; omega
theorem insAt_drop (name:Str) (es:List Ent) (k:Nat) (hk:k<es.length):insAt name (es.drop k)=if Op.bytesLess name es[k].name then 0 else 1+insAt name (es.drop (k+1)):=by
  rw [List.drop_eq_getElem_cons hk]; rfl
def insE (es:List Ent) (name:Str) (node:Int):List Ent:=es.take (insAt name es)++[⟨name,node⟩]++es.drop (insAt name es)
def dirAdd (es:List Ent) (name:Str) (node:Int):List Ent × Bool :=
  if entriesOk es && entriesOk (insE es name node) then (insE es name node,true) else (es,false)
theorem insE_len (es:List Ent) (name:Str) (node:Int):(insE es name node).length=es.length+1:=by
  have:=insAt_le name es
  simp [insE]
  omega
theorem insE_nl (es:List Ent) (name:Str) (node:Int):sumL Ent.nl (insE es name node)=sumL Ent.nl es+name.length:=by
  have h1:sumL Ent.nl es=sumL Ent.nl (es.take (insAt name es))+sumL Ent.nl (es.drop (insAt name es)):=by rw [← sumL_append,List.take_append_drop]
  unfold insE
  rw [sumL_append,sumL_append,h1]
  simp [sumL,Ent.nl]
  omega
theorem cutLo {H:Hp} {w:Bool} {es:List Ent} {a:Option Addr} {F:List Nat} (k:slR w 117 entE H es a F) {n:Nat} (hn:n≤es.length) :
    ∃ b c G,asl2 Tryz.prog H 113 (.slice a es.length es.length) none (some (.int .i64 n)) none=some (.slice b n c)∧n≤c∧slR w 117 entE H (es.take n) b G:=by
  cases a with
  | none =>
    obtain ⟨rfl,rfl⟩:=k
    obtain rfl:n=0:=by simpa using hn
    exact ⟨none,0,[],by simp [asl2,asl,bound],Nat.le_refl _,⟨by simp,rfl⟩⟩
  | some b =>
    obtain ⟨o,off,sp⟩:=b
    obtain rfl:sp=none:=k.1
    have hel:=k.el
    obtain ⟨G,kp,-⟩:=k.part 0 n (by omega) hn
    simp only [List.drop_zero,Nat.zero_mul,Nat.add_zero] at kp
    exact ⟨_,es.length,G,by simp [asl2_j,hel,hn],hn,kp⟩
theorem cutHi {H:Hp} {w:Bool} {es:List Ent} {a:Option Addr} {F:List Nat} (k:slR w 117 entE H es a F) {n:Nat} (hn:n≤es.length) :
    ∃ b G,asl2 Tryz.prog H 113 (.slice a es.length es.length) (some (.int .i64 n)) none none=some (.slice b (es.length - n) (es.length - n))∧slR w 117 entE H (es.drop n) b G:=by
  cases a with
  | none =>
    obtain ⟨rfl,rfl⟩:=k
    obtain rfl:n=0:=by simpa using hn
    exact ⟨none,[],by simp [asl2,asl,bound],⟨by simp,rfl⟩⟩
  | some b =>
    obtain ⟨o,off,sp⟩:=b
    obtain rfl:sp=none:=k.1
    have hel:=k.el
    obtain ⟨G,kp,-⟩:=k.part n es.length hn (Nat.le_refl _)
    rw [List.take_length] at kp
    exact ⟨_,G,by simp [asl2_i,hel,hn]; rfl,kp⟩
section
variable (es:List Ent) (name:Str) (node:Int) (a:Option Addr) (F:List Nat) (w:Bool) (h:Hp) (hr:slR w 117 entE h es a F) (hl:es.length≤1048576) (hn:sumL Ent.nl es+name.length≤2097152)
include hr hl hn
set_option maxHeartbeats 4000000 in
theorem dirAdd_spec_c :
    ACall Tryz.prog 121 [.slice a es.length es.length,.string (S name),.int .i64 node] h fun r h'=>∃ a' F',r=.tuple #[.slice a' (dirAdd es name node).1.length (dirAdd es name node).1.length,.bool (dirAdd es name node).2]∧Own h 117 entE h' (dirAdd es name node).1 a' F':=by
  refine acall mixed Tryz.func121 rfl (by kernel_rfl) ?_
  have hw0:IntKind.i64.wrap ((es.length:Int) - 1)=(es.length:Int) - 1:=wrap_in (by omega) (by omega)
  simp [Tryz.f121,hw0]
  refine aloop mixed [0,1,2,8,9] (fun (x:Nat)=>[.slice a es.length es.length,.string (S name),.int .i64 node,.int .i64 ((x+insAt name (es.drop x):Nat):Int),.int .i64 ((x:Int) - 1)]) (fun _=>h) (fun x=>x≤es.length) (fun x=>x)
    es.length (Nat.le_refl _) (by simp [pickF,insAt]) rfl ?_
  intro c hc
  simp [mkF]
  refine asplitK_intro (fun hb=>?_) (fun hb=>?_) <;> simp at hb <;> simp [hb]
  · obtain ⟨c,rfl⟩:∃ c',c=c'+1:=⟨c - 1,by omega⟩
    have hlt:c<es.length:=by omega
    obtain ⟨o,off,rfl,c0,c1⟩:=entAt hr hlt
    have hd:=insAt_drop name es c hlt
    have hi:((c+1:Nat):Int) - 1=(c:Int):=by omega
    have hw1:IntKind.i64.wrap ((c:Int) - 1)=(c:Int) - 1:=wrap_in (by omega) (by omega)
    simp [hi,hlt,c0]
    refine asplitK_intro (fun hd1=>?_) (fun hd1=>?_)
    · rw [if_pos hd1] at hd
      simp [hw1]
      exact anext c (by omega) (by simp) (by simp [pickF,hd]) rfl (by simp)
    · rw [if_neg (by simpa using hd1)] at hd
      simp [hw1]
      exact anext c (by omega) (by simp) (by simp [pickF,hd]; omega) rfl (by simp)
  · obtain rfl:c=0:=by omega
    simp
    have hle:=insAt_le name es
    have hlen:=insE_len es name node
    have hnl:=insE_nl es name node
    obtain ⟨n,hnn⟩:∃ n,n=insAt name es:=⟨_,rfl⟩
    have hins:insE es name node=es.take n++[⟨name,node⟩]++es.drop n:=by rw [hnn]; rfl
    rw [← hnn] at hle ⊢
    obtain ⟨b1,c1,G1,e1,q1,s1⟩:=cutLo hr hle
    have hl1:(es.take n).length=n:=by simp; omega
    have hcp:=l8Copy_c (es.take n) b1 G1 w _ h s1 (by omega)
    rw [hl1] at hcp
    simp [e1]
    refine callK0 (hcp.cap q1) ?_
    rintro _ H1 ⟨b2,G2,rfl,o2⟩
    obtain ⟨a',H',F',eq,own',keep,sub⟩:=o2.append1K (P:=Tryz.prog) ⟨name,node⟩ (cs:=[.string (S name),.int .i64 node]) rfl (st:=113) (xt:=113) (bt:=24) (z:=[.string (S []),.int .i64 0]) (by simp) (by simp) (by unfold big; omega) (by unfold big; omega)
    rw [hl1] at eq
    simp [eq]
    obtain ⟨b3,G3,e2,s3⟩:=cutHi (hr.ext own'.ext) hle
    have hl3:(es.drop n).length=es.length - n:=by simp
    have hl4:(es.take n++[(⟨name,node⟩:Ent)]).length=n+1:=by rw [List.length_append,hl1]; rfl
    obtain ⟨a4,H4,F4,eq4,own4,keep4,len4⟩:=own'.appendSl (P:=Tryz.prog) s3 (st:=113) (xt:=113) (bt:=24) (z:=[.string (S []),.int .i64 0]) (by simp) (by simp) (by unfold big; omega) (by unfold big; omega)
    rw [hl3,hl4] at eq4
    rw [← hins] at own4
    have hl5:n+1+(es.length - n)=(insE es name node).length:=by omega
    rw [hl5] at eq4
    simp [e2,eq4]
    have hr4:=hr.ext own4.ext
    refine callK0 (entriesOk_spec_c es a F w _ _ hr4 (by omega) (by omega)) ?_
    rintro _ _ ⟨⟨t5,rfl⟩,rfl⟩
    cases e5:entriesOk es
    · have hd:dirAdd es name node=(es,false):=by simp [dirAdd,e5]
      rw [hd]
      simp
      refine callK0 (l8Copy_c es a F w _ _ (hr4.to (by simp)) (by omega)) ?_
      rintro _ H6 ⟨a6,F6,rfl,o6⟩
      simp
      exact ⟨F6,o6.of_new (own4.ext.app _)⟩
    simp
    refine callK0 (entriesOk_spec_c (insE es name node) a4 F4 true _ _ (own4.sl.to (by simp)) (by omega) (by omega)) ?_
    rintro _ _ ⟨⟨t6,rfl⟩,rfl⟩
    cases e6:entriesOk (insE es name node)
    · have hd:dirAdd es name node=(es,false):=by simp [dirAdd,e6]
      rw [hd]
      simp
      refine callK0 (l8Copy_c es a F w _ _ (hr4.to (by simp)) (by omega)) ?_
      rintro _ H6 ⟨a6,F6,rfl,o6⟩
      simp
      exact ⟨F6,o6.of_new (own4.ext.app _)⟩
    have hd:dirAdd es name node=(insE es name node,true):=by simp [dirAdd,e5,e6]
    rw [hd]
    simp
    exact ⟨F4,own4.to (by simp)⟩
end
end Go.Proofs.YtmpgpkdijfcfhaaGreat.Hz
/- A name that is there already is not added. No program in sight. -/
namespace Go.Proofs.YtmpgpkdijfcfhaaGreat.Hz
open Go.RowKit
set_option linter.unusedVariables false
set_option linter.unusedSimpArgs false
set_option maxRecDepth 20000
theorem less_irr:∀ a:Str,Op.bytesLess a a=false
  | []=>rfl
  | a :: x=>by simp [Op.bytesLess,less_irr x]
theorem less_trans:∀ a b c:Str,Op.bytesLess a b=true→Op.bytesLess b c=true→Op.bytesLess a c=true
  | _,_,[],_,h=>by simp [Op.bytesLess] at h
  | [],_,_ :: _,_,_=>rfl
  | _ :: _,[],_ :: _,h,_=>by simp [Op.bytesLess] at h
  | a :: x,b :: y,c :: z,h1,h2=>by
    simp only [Op.bytesLess,Bool.or_eq_true,Bool.and_eq_true,decide_eq_true_eq,beq_iff_eq] at h1 h2 ⊢
    rcases h1 with h1 | ⟨rfl,h1⟩
    · rcases h2 with h2 | ⟨rfl,h2⟩
      · exact .inl (UInt8.lt_trans h1 h2)
      · exact .inl h1
    · rcases h2 with h2 | ⟨rfl,h2⟩
      · exact .inl h2
      · exact .inr ⟨rfl,less_trans x y z h1 h2⟩
def adj:List Ent→Bool
  | []=>true
  | [_]=>true
  | e :: e' :: r=>Op.bytesLess e.name e'.name && adj (e' :: r)
theorem okFrom_adj (es:List Ent):∀ (l pre:List Ent),es=pre++l→okFrom es l pre.length=true→adj l=true
  | [],_,_,_=>rfl
  | [_],_,_,_=>rfl
  | e :: e' :: r,pre,he,h=>by
    simp only [okFrom,Bool.and_eq_true] at h
    have h2:=h.2.1
    have ih:=okFrom_adj es (e' :: r) (pre++[e]) (by rw [he]; simp) (by
      simp only [okFrom,Bool.and_eq_true,List.length_append,List.length_singleton]
      exact h.2)
    simp only [okAt,Bool.and_eq_true] at h2
    have h3:=h2.1.2
    have hg:es[pre.length]?=some e:=by rw [he]; simp
    rw [hg] at h3
    simp only [adj,Bool.and_eq_true]
    exact ⟨h3,ih⟩
theorem entriesOk_adj {es:List Ent} (h:entriesOk es=true):adj es=true:=by
  simp only [entriesOk,Bool.and_eq_true] at h
  exact okFrom_adj es es [] rfl h.1
theorem adj_least:∀ (e:Ent) (r:List Ent),adj (e :: r)=true→∀ x∈r,Op.bytesLess e.name x.name=true
  | _,[],_,x,hx=>by cases hx
  | e,e' :: r,h,x,hx=>by
    simp only [adj,Bool.and_eq_true] at h
    rcases List.mem_cons.1 hx with rfl | hx
    · exact h.1
    · exact less_trans _ _ _ h.1 (adj_least e' r h.2 x hx)
theorem insE_cons (e:Ent) (r:List Ent) (name:Str) (node:Int):insE (e :: r) name node=if Op.bytesLess name e.name then ⟨name,node⟩ :: e :: r else e :: insE r name node:=by
  unfold insE
  simp only [insAt]
  split
  · simp
  · rw [Nat.add_comm]
    simp
theorem adj_dup (name:Str) (node:Int):∀ es:List Ent,adj es=true→(∃ x∈es,x.name=name)→adj (insE es name node)=false
  | [],_,h=>by obtain ⟨x,hx,_⟩:=h; cases hx
  | e :: r,h,hx=>by
    rw [insE_cons]
    obtain ⟨x,hx,hn⟩:=hx
    by_cases hl:Op.bytesLess name e.name=true
    · exfalso
      rcases List.mem_cons.1 hx with rfl | hx
      · rw [hn,less_irr] at hl; cases hl
      · have h1:=adj_least e r h x hx
        rw [hn] at h1
        have:=less_trans _ _ _ hl h1
        rw [less_irr] at this; cases this
    · rw [if_neg hl]
      by_cases he:e.name=name
      · cases r with
        | nil=>simp [insE,insAt,adj,he,less_irr]
        | cons e2 r2 =>
          simp only [adj,Bool.and_eq_true] at h
          rw [he] at h
          rw [insE_cons,if_pos h.1]
          simp [adj,he,less_irr]
      · have hr:x∈r:=by
          rcases List.mem_cons.1 hx with rfl | hx
          · exact absurd hn he
          · exact hx
        have hadj:adj r=true:=by
          cases r with
          | nil=>rfl
          | cons e2 r2=>simp only [adj,Bool.and_eq_true] at h; exact h.2
        have ih:=adj_dup name node r hadj ⟨x,hr,hn⟩
        cases hq:insE r name node with
        | nil=>rw [hq] at ih; simp [adj] at ih
        | cons y ys=>rw [hq] at ih; simp [adj,ih]
theorem entTxt_pos (e:Ent):1≤(entTxt e).length:=by
  simp only [entTxt,putText,List.length_append]
  by_cases h:(e.name.length:Int)≤2147483647
  · have:1≤(putNum (e.name.length:Int)).length:=by
      unfold putNum
      rw [if_pos ⟨by omega,h⟩,numB]
      split <;> simp
    omega
  · omega
theorem dirText_pos:∀ es:List Ent,es.length≤(dirText es).length
  | []=>Nat.zero_le _
  | e :: es=>by
    have ih:=dirText_pos es
    have h2:=entTxt_pos e
    have:(dirText (e :: es)).length=(entTxt e).length+(dirText es).length:=by simp [dirText,catL]
    simp only [List.length_cons]
    omega
theorem entriesOk_small {es:List Ent} (h:entriesOk es=true):es.length≤80:=by
  simp only [entriesOk,Bool.and_eq_true,decide_eq_true_eq] at h
  exact Nat.le_trans (dirText_pos es) h.2
end Go.Proofs.YtmpgpkdijfcfhaaGreat.Hz
/- DirAdd: the program,given what slices.Insert does. -/
namespace Go.Proofs.YtmpgpkdijfcfhaaGreat.Hz
open Go.RowKit
set_option linter.unusedVariables false
set_option linter.unusedSimpArgs false
set_option maxRecDepth 20000
def InsertC:Prop:=∀ (es:List Ent) (x:Ent) (i:Nat) (a:Option Addr) (F:List Nat) (h0 h:Hp) (b:Nat),Own h0 117 entE h es a F→i≤es.length→es.length≤1048576 →
  h[b]?=some ⟨true,true,117,[.string (S x.name),.int .i64 x.node]⟩→b ∉ F→h0.length≤b →
  ACall Tryz.prog 176 [.slice a es.length es.length,.int .i64 i,.slice (some ⟨b,0,none⟩) 1 1] h fun r h'=>∃ a' F',r=.slice a' (es.length+1) (es.length+1)∧Own h0 117 entE h' (es.take i++[x]++es.drop i) a' F'
theorem findI_insAt (name:Str):∀ (es:List Ent) (k:Nat),(findI (fun e=>!(Op.bytesLess e.name name || e.name == name)) es k=-1∧insAt name es=es.length)∨findI (fun e=>!(Op.bytesLess e.name name || e.name == name)) es k=((k+insAt name es:Nat):Int)
  | [],k=>.inl ⟨rfl,rfl⟩
  | e :: es,k=>by
    have hl:(!(Op.bytesLess e.name name || e.name == name))=Op.bytesLess name e.name:=by
      rw [← less_total name e.name,Bool.not_not]
    unfold findI
    simp only [hl]
    by_cases h:Op.bytesLess name e.name=true
    · right
      simp [insAt,h]
    · have h':Op.bytesLess name e.name=false:=by simpa using h
      have hi:insAt name (e :: es)=1+insAt name es:=by simp [insAt,h']
      rw [h',if_neg (by simp),hi]
      rcases findI_insAt name es (k+1) with ⟨h1,h2⟩ | h1
      · exact .inl ⟨h1,by rw [h2,List.length_cons]; omega⟩
      · right
        rw [h1]
        omega
theorem cell_upA {B H:Hp} (x:Ext B H) {o i:Nat} {v:Value} (c:cellAt B o i=some v):cellAt H o i=some v:=by
  rw [cellAt_ext x (by obtain ⟨ob,ho,_⟩:=cellAt_some c; exact (List.getElem?_eq_some_iff.1 ho).1),c]
theorem findI_name {es:List Ent} {name:Str} (h:0≤findI (fun e=>e.name == name) es 0):∃ e∈es,e.name=name:=by
  rcases findI_spec (fun e=>e.name == name) es 0 with ⟨h1,_⟩ | ⟨j,hj,_,h2,_⟩
  · rw [h1] at h; exact absurd h (by decide)
  · exact ⟨es[j],List.getElem_mem hj,by simpa using h2⟩
theorem insE_dup2 {es:List Ent} {name:Str} (node:Int) (ok:entriesOk es=true) (h:∃ e∈es,e.name=name):entriesOk (insE es name node)=false:=by
  cases hk:entriesOk (insE es name node)
  · rfl
  · have h1:=entriesOk_adj hk
    rw [adj_dup name node es (entriesOk_adj ok) h] at h1
    cases h1
theorem add1_c (e:Ent) (name:Str) (o:Nat) (h:Hp) (ho:o<h.length) (hc:cellAt h o 0=some (.string (S name))) :
    ACall Tryz.prog 175 [e.v,.pointer (some ⟨o,0,none⟩)] h fun r h'=>(∃ t',h'=h++t')∧r=.bool (!(Op.bytesLess e.name name || e.name == name)):=by
  refine acall mixed Tryz.func175 rfl (by kernel_rfl) ?_
  have hc2:∀ l,cellAt (h++l) o 0=some (.string (S name)):=fun l=>by rw [cellAt_ext (Ext.push h l) ho]; exact hc
  simp [Tryz.f175,Ent.v,hc2]
section
variable (ins:InsertC) (es:List Ent) (name:Str) (node:Int) (a:Option Addr) (F:List Nat) (w:Bool) (h:Hp) (hr:slR w 117 entE h es a F) (hl:es.length≤1048576) (hn:sumL Ent.nl es+name.length≤2097152)
include ins hr hl hn
set_option maxHeartbeats 4000000 in
theorem dirAdd_impl_of :
    ACall Tryz.prog 113 [.slice a es.length es.length,.string (S name),.int .i64 node] h fun r h'=>∃ a' F',r=.tuple #[.slice a' (dirAdd es name node).1.length (dirAdd es name node).1.length,.bool (dirAdd es name node).2]∧Own h 117 entE h' (dirAdd es name node).1 a' F':=by
  refine acall mixed Tryz.func113 rfl (by kernel_rfl) ?_
  have hle:=insAt_le name es
  have hlen:=insE_len es name node
  have hnl:=insE_nl es name node
  simp [Tryz.f113]
  refine callK0 (indexFuncEnt_c es a F w _ _ (hr.ext (Ext.push _ _)) (by omega) (fun e=>!(Op.bytesLess e.name name || e.name == name)) _ _ fun e he t=>?_) ?_
  · refine (add1_c e name h.length _ (by simp) (by simp)).mono ?_
    simp
  rintro _ _ ⟨⟨t1,rfl⟩,rfl⟩
  have hpos:∀ v:Int,v=findI (fun e=>!(Op.bytesLess e.name name || e.name == name)) es 0→(v<0∧insAt name es=es.length)∨(¬ v<0∧v=(insAt name es:Int)):=fun v hv=>by
    rcases findI_insAt name es 0 with ⟨h1,h2⟩ | h1
    · left; rw [hv,h1]; exact ⟨by decide,h2⟩
    · right; rw [hv,h1]; refine ⟨by omega,by omega⟩
  generalize findI (fun e=>!(Op.bytesLess e.name name || e.name == name)) es 0=v at hpos ⊢
  simp
  refine asplitK_intro (fun hv=>?_) (fun hv=>?_) <;> simp at hv
  · have hat:=((hpos v rfl).resolve_right (fun h=>h.1 hv)).2
    simp [hv]
    clear hpos hv
    refine drawS2 true false 6 [0,1,2,3,4,5] [7,8] (by simp; rfl) (by simp; rfl) (by simp; rfl) (by kernel_rfl) ?_
    simp
    refine callK (cloneEnt_c es a F w _ _ (hr.to (by simp)) (by omega)) ?_
    rintro _ _ ⟨b,G,rfl,own⟩
    obtain ⟨u,rfl⟩:=own.ext.pre
    refine ⟨fun _=>Ext.push _ _,?_⟩
    simp
    have fin:=ins es ⟨name,node⟩ es.length b G _ _ _ (own.grow (Ext.push _ [⟨true,true,117,[.string (S name),.int .i64 node]⟩])) (by omega) hl (List.getElem?_concat_length) (fun hm=>by have:=own.sl.lt _ hm; omega) own.ext.1
    simp at fin
    refine callK fin ?_
    rintro _ H1 ⟨a',rfl,F',o2⟩
    refine ⟨fun hf=>(Bool.false_ne_true hf).elim,?_⟩
    have hq:insE es name node=es++[⟨name,node⟩]:=by unfold insE; simp [hat]
    rw [← hq] at o2
    have hlq:es.length+1=(insE es name node).length:=hlen.symm
    rw [hlq]
    have ex:Ext h H1:=Ext.trans (Ext.push h _) o2.ext
    have cb:cellAt H1 h.length 0=some (.string (S name)):=cell_upA o2.ext (by simp)
    clear fin
    simp
    refine callK0 (entriesOk_impl_c es a F w _ (hr.ext ex) (by omega) (by omega)) ?_
    rintro _ _ ⟨⟨t5,rfl⟩,rfl⟩
    have no:∀ (T:Hp),dirAdd es name node=(es,false)→True:=fun _ _=>trivial
    cases e5:entriesOk es
    · have hd:dirAdd es name node=(es,false):=by simp [dirAdd,e5]
      rw [hd]
      simp
      refine callK0 (cloneEnt_c es a F w _ _ ((hr.ext ex).to (by simp)) (by omega)) ?_
      rintro _ H6 ⟨a6,F6,rfl,o6⟩
      simp
      exact ⟨F6,o6.of_new (ex.app _)⟩
    simp [cb,cell_upA (Ext.push H1 t5) cb]
    refine callK0 (placeOf_c es name a F w _ _ ((hr.ext ex).to (by simp)) (by omega)) ?_
    rintro _ _ ⟨⟨t6,rfl⟩,rfl⟩
    have hdup:=insE_dup2 (es:=es) (name:=name) node e5
    have hfn:=findI_name (es:=es) (name:=name)
    generalize findI (fun e=>e.name == name) es 0=fi at hfn ⊢
    by_cases hfi:0≤fi
    · have hd:dirAdd es name node=(es,false):=by simp [dirAdd,hdup (hfn hfi)]
      rw [hd]
      simp [hfi]
      refine callK0 (cloneEnt_c es a F w _ _ ((hr.ext ex).to (by simp)) (by omega)) ?_
      rintro _ H6 ⟨a6,F6,rfl,o6⟩
      simp
      exact ⟨F6,o6.of_new (by simpa using ex.trans (Ext.push H1 (t5++t6)))⟩
    simp [hfi]
    refine callK0 (entriesOk_impl_c (insE es name node) a' F' true _ (o2.sl.to (by simp)) (by omega) (by omega)) ?_
    rintro _ _ ⟨⟨t7,rfl⟩,rfl⟩
    cases e6:entriesOk (insE es name node)
    · have hd:dirAdd es name node=(es,false):=by simp [dirAdd,e6]
      rw [hd]
      simp
      refine callK0 (cloneEnt_c es a F w _ _ ((hr.ext ex).to (by simp)) (by omega)) ?_
      rintro _ H6 ⟨a6,F6,rfl,o6⟩
      simp
      exact ⟨F6,o6.of_new (by simpa using ex.trans (Ext.push H1 (t5++(t6++t7))))⟩
    have hd:dirAdd es name node=(insE es name node,true):=by simp [dirAdd,e5,e6]
    rw [hd]
    simp
    exact ⟨F',Own.of_new (Ext.push h _) (o2.to (by simp))⟩
  · have hat:=((hpos v rfl).resolve_left (fun h=>by omega)).2
    simp [show ¬ v<0 by omega]
    subst hat
    clear hpos hv
    refine drawS2 true false 6 [0,1,2,3,4,5] [7,8] (by simp; rfl) (by simp; rfl) (by simp; rfl) (by kernel_rfl) ?_
    simp
    refine callK (cloneEnt_c es a F w _ _ (hr.to (by simp)) (by omega)) ?_
    rintro _ _ ⟨b,G,rfl,own⟩
    obtain ⟨u,rfl⟩:=own.ext.pre
    refine ⟨fun _=>Ext.push _ _,?_⟩
    simp
    have fin:=ins es ⟨name,node⟩ (insAt name es) b G _ _ _ (own.grow (Ext.push _ [⟨true,true,117,[.string (S name),.int .i64 node]⟩])) (by omega) hl (List.getElem?_concat_length) (fun hm=>by have:=own.sl.lt _ hm; omega) own.ext.1
    simp at fin
    refine callK fin ?_
    rintro _ H1 ⟨a',rfl,F',o2⟩
    refine ⟨fun hf=>(Bool.false_ne_true hf).elim,?_⟩
    have hq:insE es name node=es.take (insAt name es)++⟨name,node⟩ :: es.drop (insAt name es):=by unfold insE; simp [insAt]
    rw [← hq] at o2
    have hlq:es.length+1=(insE es name node).length:=hlen.symm
    rw [hlq]
    have ex:Ext h H1:=Ext.trans (Ext.push h _) o2.ext
    have cb:cellAt H1 h.length 0=some (.string (S name)):=cell_upA o2.ext (by simp)
    clear fin
    simp
    refine callK0 (entriesOk_impl_c es a F w _ (hr.ext ex) (by omega) (by omega)) ?_
    rintro _ _ ⟨⟨t5,rfl⟩,rfl⟩
    have no:∀ (T:Hp),dirAdd es name node=(es,false)→True:=fun _ _=>trivial
    cases e5:entriesOk es
    · have hd:dirAdd es name node=(es,false):=by simp [dirAdd,e5]
      rw [hd]
      simp
      refine callK0 (cloneEnt_c es a F w _ _ ((hr.ext ex).to (by simp)) (by omega)) ?_
      rintro _ H6 ⟨a6,F6,rfl,o6⟩
      simp
      exact ⟨F6,o6.of_new (ex.app _)⟩
    simp [cb,cell_upA (Ext.push H1 t5) cb]
    refine callK0 (placeOf_c es name a F w _ _ ((hr.ext ex).to (by simp)) (by omega)) ?_
    rintro _ _ ⟨⟨t6,rfl⟩,rfl⟩
    have hdup:=insE_dup2 (es:=es) (name:=name) node e5
    have hfn:=findI_name (es:=es) (name:=name)
    generalize findI (fun e=>e.name == name) es 0=fi at hfn ⊢
    by_cases hfi:0≤fi
    · have hd:dirAdd es name node=(es,false):=by simp [dirAdd,hdup (hfn hfi)]
      rw [hd]
      simp [hfi]
      refine callK0 (cloneEnt_c es a F w _ _ ((hr.ext ex).to (by simp)) (by omega)) ?_
      rintro _ H6 ⟨a6,F6,rfl,o6⟩
      simp
      exact ⟨F6,o6.of_new (by simpa using ex.trans (Ext.push H1 (t5++t6)))⟩
    simp [hfi]
    refine callK0 (entriesOk_impl_c (insE es name node) a' F' true _ (o2.sl.to (by simp)) (by omega) (by omega)) ?_
    rintro _ _ ⟨⟨t7,rfl⟩,rfl⟩
    cases e6:entriesOk (insE es name node)
    · have hd:dirAdd es name node=(es,false):=by simp [dirAdd,e6]
      rw [hd]
      simp
      refine callK0 (cloneEnt_c es a F w _ _ ((hr.ext ex).to (by simp)) (by omega)) ?_
      rintro _ H6 ⟨a6,F6,rfl,o6⟩
      simp
      exact ⟨F6,o6.of_new (by simpa using ex.trans (Ext.push H1 (t5++(t6++t7))))⟩
    have hd:dirAdd es name node=(insE es name node,true):=by simp [dirAdd,e5,e6]
    rw [hd]
    simp
    exact ⟨F',Own.of_new (Ext.push h _) (o2.to (by simp))⟩
end
end Go.Proofs.YtmpgpkdijfcfhaaGreat.Hz
/- slices.Insert of one entry,in the machine: the two roads on which the place is inside. -/
namespace Go.Proofs.YtmpgpkdijfcfhaaGreat.Hz
open Go.RowKit Go.Lib
set_option linter.unusedVariables false
set_option linter.unusedSimpArgs false
section
variable {P:Program}
theorem step_copyI {ops:Array Oper} {o:Oper} {a:Act} {w:World} {K:Act→World→Prop} {Q:Exit→Act→World→Prop} {E:Prop}
    (hg:o.guard=none) (d x:Operand) (dT sT:TypeId) (hop:o.op=Op.call { callee:=Callee.builtin Builtin.copy,args:=#[d,x],argTypes:=#[dT,sT] })
    (v u:Value) (hd:a.eval d=v) (hx:a.eval x=u) {v':Value} {w':World} (hr:(Builtin.copy_ #[dT,sT] o.type #[v,u]).run P w=.ok v' w') (hK:K (a.put o.dst v') w') :
    if Region.wanted o (yielded ops a.tmps)=true then Oper.wp P o a w K Q else E:=by
  have hw:Region.wanted o (yielded ops a.tmps)=true:=by simp [Region.wanted,hg]
  rw [if_pos hw]
  unfold Oper.wp
  simp [execOp,hop,resolve,invoke,builtin,hd,hx,hr,Result.andThen]
  exact hK
theorem copy_runI (w:World) {o:Oper} {a:Act} {K:Act→World→Prop} {Q:Exit→Act→World→Prop} (d s:Operand) (t t':TypeId)
    (ho:o.op=.call { callee:=.builtin .copy,args:=#[d,s],argTypes:=#[t,t'] }) (v u:Value) (hd:a.eval d=v) (hs:a.eval s=u) {v':Value} {w':World}
    (hr:(Builtin.copy_ #[t,t'] o.type #[v,u]).run P w=.ok v' w') (h:K (a.put o.dst v') w'):o.wp P a w K Q:=by
  unfold Oper.wp execOp
  simp only [ho,resolve,invoke,builtin,Sem.run_bind,Sem.run_pure,Result.andThen_ok,List.map_toArray,List.map_cons,List.map_nil,hd,hs,hr]
  exact h
theorem list_copyI (w:World) {ops:Array Oper} {rest:List Oper} {o:Oper} {a:Act} {Q:Exit→Act→World→Prop} (hgd:o.guard=none) (d s:Operand) (t t':TypeId)
    (ho:o.op=.call { callee:=.builtin .copy,args:=#[d,s],argTypes:=#[t,t'] }) (v u:Value) (hd:a.eval d=v) (hs:a.eval s=u) {v':Value} {w':World}
    (hr:(Builtin.copy_ #[t,t'] o.type #[v,u]).run P w=.ok v' w') (h:wpList P ops Q rest (a.put o.dst v') w'):wpList P ops Q (o :: rest) a w :=
  wpList_plain hgd fun _ hK=>copy_runI w d s t t' ho v u hd hs hr (hK _ _ h)
theorem copy_cells (w:World) (dT sT ty elem:TypeId) (sz k b o dLen dCap:Nat) (a:Addr) (sLen sCap:Nat) (cs:List Value)
    (hu:P.underlying dT=some (.slice elem)) (hs:∀ w,(Go.sizeOf elem).run P w=.ok sz w) (hk:k=Nat.min sLen dLen) (hn:cs.length=k * sz)
    (hsrc:∀ j v,cs[j]?=some v→w.cell? (a.add j)=some v) (hc:∀ j,j<cs.length→(w.cell? ⟨b,o+j,none⟩).isSome=true) (hf:∀ j,j<cs.length→w.frozen? ⟨b,o+j,none⟩=false) (h1:∀ v∈cs,v.oneCell'=true) :
    (Builtin.copy_ #[dT,sT] ty #[.slice (some ⟨b,o,none⟩) dLen dCap,.slice (some a) sLen sCap]).run P w=.ok (goInt k) (w.setCells b o cs):=by
  have hl:=run_loadCells_list (P:=P) w a cs hsrc
  have hst:=run_storeCells_cells (P:=P) b o cs 0 w (by simpa using hc) (by simpa using hf) h1
  rw [hn] at hl
  simp [Builtin.copy_,run_underlying hu,Builtin.lenOf,Builtin.firstCells,hs,← hk,hl,hst]
theorem some_setCells (b:Nat) (vs:List Value) (o:Nat) (w:World) (h:∀ j,j<vs.length→(w.cell? ⟨b,o+j,none⟩).isSome=true) (k:Nat) (hk:(w.cell? ⟨b,k,none⟩).isSome=true):((w.setCells b o vs).cell? ⟨b,k,none⟩).isSome=true:=by
  by_cases hin:o≤k∧k<o+vs.length
  · have:=World.cell?_setCells_in b vs o w h (k - o) (by omega)
    rw [show o+(k - o)=k by omega] at this
    rw [this]; rfl
  · rw [World.cell?_setCells_out b vs o w ⟨b,k,none⟩ (fun _ _=>by show k<o∨o+vs.length≤k; omega)]
    exact hk
end
theorem tSE:Tryz.prog.underlying 113=some (.slice 117):=by kernel_rfl
theorem tIN:Tryz.prog.underlying 3=some (.int .i64):=by kernel_rfl
theorem zEN (w:World):(Go.sizeOf 117).run Tryz.prog w=.ok 2 w:=szR (by kernel_rfl) w
theorem iEN:(Tryz.prog.info? 117).map (fun i=>(i.zero,i.size,i.bytes))=some (some (.agg #[.string ⟨#[]⟩,.int .i64 0]),2,24):=by kernel_rfl
set_option maxHeartbeats 4000000 in
set_option maxRecDepth 100000 in
theorem ins_shift (b off n c i vb voff vc:Nat) (cs vs:List Value) (w:World) (hi:i<n) (hroom:n+1≤c) (hvb:vb≠b) (hn:n≤1048576)
    (hcl:cs.length=n * 2) (hvl:vs.length=2)
    (hcs:∀ j v,cs[j]?=some v→w.cell? ⟨b,off+j,none⟩=some v) (hsp:∀ j,j<(n+1) * 2→(w.cell? ⟨b,off+j,none⟩).isSome=true) (hfz:∀ j,j<(n+1) * 2→w.frozen? ⟨b,off+j,none⟩=false)
    (hvs:∀ j v,vs[j]?=some v→w.cell? ⟨vb,voff+j,none⟩=some v) (h1c:∀ v∈cs,v.oneCell'=true) (h1v:∀ v∈vs,v.oneCell'=true)
    (tA tB:TypeId) (kA kB:Nat) (hsa:w.shape? vb=some (tA,kA)) (hsb:w.shape? b=some (tB,kB)) (hkB:kB≠0) (hfa:w.frozen? ⟨vb,voff,none⟩=false) (hfe:w.frozen? ⟨vb,kA,none⟩=false) :
    Calls Tryz.prog 176 #[.slice (some ⟨b,off,none⟩) n c,.int .i64 i,.slice (some ⟨vb,voff,none⟩) 1 vc] w fun e w' =>
      e=.returned (.slice (some ⟨b,off,none⟩) (n+1) c)∧w'=(w.drew.setCells b (off+(i+1) * 2) (cs.drop (i * 2))).setCells b (off+i * 2) vs:=by
  have hmixed:Tryz.prog.follows .mixedOrders=true:=mixed
  have hz1:¬ ((1:Int)=0):=by omega
  have hz2:¬ ((i:Int)=(n:Int)):=by omega
  have hov:∀ lb cb,(callFunc 207 #[.slice (some ⟨vb,voff,none⟩) 1 vc,.slice (some ⟨b,off+(i+1) * 2,none⟩) lb cb]).run Tryz.prog w=.ok (.value (.bool false)) w:=fun lb cb=>by
    rw [run_callFunc_extern Tryz.func207 (by kernel_rfl) (by kernel_rfl) (by kernel_rfl) (e:=Extern.SlicesOverlaps.overlaps #[113,113] #[4]) (by kernel_rfl),
      Lib.run_overlaps_apart w 113 4 117 tSE 2 zEN ⟨vb,voff,none⟩ ⟨b,off+(i+1) * 2,none⟩ 1 vc lb cb hvb tA tB kA kB hsa hsb hkB hfa hfe]
    rfl
  have hdl:(cs.drop (i * 2)).length=(n - i) * 2:=by rw [List.length_drop,hcl]; omega
  have hw1:IntKind.i64.wrap ((i:Int)+1)=(i:Int)+1:=by rw [IntKind.wrap_i64]; omega
  have hw2:IntKind.i64.wrap ((n:Int)+1)=(n:Int)+1:=by rw [IntKind.wrap_i64]; omega
  have hb1:(0:Int)≤(i:Int)+1:=by omega
  have hin:i≤n:=by omega
  have htn:((i:Int)+1).toNat=i+1:=by omega
  have hb2:¬ (c=i+1):=by omega
  have hb3:(i:Int)≤(n:Int)+1:=by omega
  have hb4:¬ (c=i):=by omega
  have hcp1:∀ ty dc sc,(Builtin.copy_ #[113,113] ty #[.slice (some ⟨b,off+(i+1) * 2,none⟩) (n - i) dc,.slice (some ⟨b,off+i * 2,none⟩) (n+1 - i) sc]).run Tryz.prog w.drew=.ok (goInt ((n - i:Nat):Int)) (w.drew.setCells b (off+(i+1) * 2) (cs.drop (i * 2))):=fun ty dc sc =>
    copy_cells w.drew _ _ ty 117 2 (n - i) b (off+(i+1) * 2) (n - i) dc ⟨b,off+i * 2,none⟩ (n+1 - i) sc (cs.drop (i * 2)) tSE zEN (by simp only [Nat.min_def]; split <;> omega) hdl
      (fun j v hj=>by rw [Addr.add_lit,Nat.add_assoc]; exact hcs (i * 2+j) v (by rwa [List.getElem?_drop] at hj))
      (fun j hj=>by rw [Nat.add_assoc]; exact hsp _ (by omega)) (fun j hj=>by rw [Nat.add_assoc]; exact hfz _ (by omega)) (fun v hv=>h1c v (List.mem_of_mem_drop hv))
  obtain ⟨W1,hW1⟩:∃ W1,W1=w.drew.setCells b (off+(i+1) * 2) (cs.drop (i * 2)):=⟨_,rfl⟩
  have hsp1:∀ k,k<(n+1) * 2→(W1.cell? ⟨b,off+k,none⟩).isSome=true:=fun k hk=>by
    rw [hW1]
    exact some_setCells b _ _ _ (fun j hj=>by rw [Nat.add_assoc]; exact hsp _ (by omega)) _ (hsp k hk)
  have hcp2:∀ (W:World),(∀ x,W.cell? x=W1.cell? x)→(∀ x,W.frozen? x=W1.frozen? x)→∀ ty dc,(Builtin.copy_ #[113,113] ty #[.slice (some ⟨b,off+i * 2,none⟩) (n+1 - i) dc,.slice (some ⟨vb,voff,none⟩) 1 vc]).run Tryz.prog W=.ok (goInt ((1:Nat):Int)) (W.setCells b (off+i * 2) vs):=fun W hWc hWf ty dc =>
    copy_cells W _ _ ty 117 2 1 b (off+i * 2) (n+1 - i) dc ⟨vb,voff,none⟩ 1 vc vs tSE zEN (by simp only [Nat.min_def]; split <;> omega) (by omega)
      (fun j v hj=>by
        rw [Addr.add_lit,hWc,hW1,World.cell?_setCells_out b _ _ _ _ (fun h _=>absurd h hvb)]
        exact hvs j v hj)
      (fun j hj=>by rw [hWc,Nat.add_assoc]; exact hsp1 _ (by omega)) (fun j hj=>by rw [hWf,hW1,World.frozen?_setCells,Nat.add_assoc]; exact hfz _ (by omega)) h1v
  rw [← hW1] at hcp1
  go_enter Tryz.func176,Tryz.ntmps176
  go_wp2_with (simp only [hov])
  go_region_law_o (refine step_copyI rfl _ _ 113 113 rfl _ _ (by simp [Act.eval,Act.put]) (by simp [Act.eval,Act.put]) (hcp1 _ _ _) ?_)
  go_wp2_with (at_builtin; refine list_copyI _ rfl _ _ 113 113 rfl _ _ rfl rfl (hcp2 _ (fun _=>rfl) (fun _=>rfl) _ _) ?_)
  go_ret
  first | exact ⟨rfl,rfl⟩ | exact ⟨rfl,by rw [hW1]⟩
set_option maxHeartbeats 4000000 in
set_option maxRecDepth 100000 in
theorem ins_grow (b off n c i vb voff vc:Nat) (cs vs:List Value) (w:World) (hi:i<n) (hnc:n≤c) (hroom:c<n+1) (hn:n≤1048576)
    (hcl:cs.length=n * 2) (hvl:vs.length=2)
    (hcs:∀ j v,cs[j]?=some v→w.cell? ⟨b,off+j,none⟩=some v)
    (hvs:∀ j v,vs[j]?=some v→w.cell? ⟨vb,voff+j,none⟩=some v) (h1c:∀ v∈cs,v.oneCell'=true) (h1v:∀ v∈vs,v.oneCell'=true) :
    Calls Tryz.prog 176 #[.slice (some ⟨b,off,none⟩) n c,.int .i64 i,.slice (some ⟨vb,voff,none⟩) 1 vc] w fun e w' =>
      e=.returned (.slice (some ⟨w.heap.size,0,none⟩) (n+1) (grownCap w (n+1) c 117)) ∧
      w'=(((w.alloc (.cells ((cs.take (i * 2)).toArray++Builtin.zeroCells (Value.agg #[.string ⟨#[]⟩,.int .i64 0]).cells (n+1 - i)++Builtin.zeroCells (Value.agg #[.string ⟨#[]⟩,.int .i64 0]).cells (grownCap w (n+1) c 117 - (n+1))) 117)).drew.setCells w.heap.size (i * 2) vs).drew).setCells w.heap.size ((i+1) * 2) (cs.drop (i * 2)):=by
  have hmixed:Tryz.prog.follows .mixedOrders=true:=mixed
  obtain ⟨i0,hi0,hz0,hzs,hzb⟩:=info_parts iEN
  have hz1:¬ ((1:Int)=0):=by omega
  have hz2:¬ ((i:Int)=(n:Int)):=by omega
  have hz3:(c:Int)<(n:Int)+1:=by omega
  have hbw:b<w.heap.size:=cell_block (hcs 0 _ (List.getElem?_eq_getElem (by omega)))
  have hvw:vb<w.heap.size:=cell_block (hvs 0 _ (List.getElem?_eq_getElem (by omega)))
  have hkk:(n:Int)+1 - (i:Int)=((n+1 - i:Nat):Int):=by omega
  have hik:i+(n+1 - i)=n+1:=by omega
  have hold:(Builtin.firstCells i0.size i (.slice (some ⟨b,off,none⟩) i c)).run Tryz.prog w.drew=.ok (cs.take (i * 2)).toArray w.drew:=by
    rw [hzs]
    exact run_firstCells_some w.drew 2 i ⟨b,off,none⟩ i c (cs.take (i * 2)) (by rw [List.length_take]; omega) (fun j v hj=>by
      rw [Addr.add_lit]
      rw [List.getElem?_take] at hj
      split at hj
      · exact hcs j v hj
      · cases hj)
  have hrz:∀ ty,(Builtin.append_ #[113,3] ty #[.slice (some ⟨b,off,none⟩) i c,.int .i64 ((n:Int)+1 - (i:Int))]).run Tryz.prog w =
      .ok (.slice (some ⟨w.heap.size,0,none⟩) (n+1) (grownCap w (n+1) c 117)) (w.drew.alloc (.cells ((cs.take (i * 2)).toArray++Builtin.zeroCells (Value.agg #[.string ⟨#[]⟩,.int .i64 0]).cells (n+1 - i)++Builtin.zeroCells (Value.agg #[.string ⟨#[]⟩,.int .i64 0]).cells (grownCap w (n+1) c 117 - (n+1))) 117)):=fun ty=>by
    have h:=Lib.run_append_grow_zeros w 113 3 ty 117 i0 _ .i64 .i64 tSE tIN hi0 hz0 (some ⟨b,off,none⟩) i c (cs.take (i * 2)) hold (n+1 - i) (by omega) (by omega) (by omega) (by omega) (by rw [hzb]; omega) (by rw [hzb,hik]; exact growslice_fits hroom (by omega))
    rw [hik] at h
    rw [hkk]
    exact h
  obtain ⟨G,hG⟩:∃ G,G=grownCap w (n+1) c 117:=⟨_,rfl⟩
  obtain ⟨ROW,hROW⟩:∃ ROW:Array Value,ROW=(cs.take (i * 2)).toArray++Builtin.zeroCells (Value.agg #[.string ⟨#[]⟩,.int .i64 0]).cells (n+1 - i)++Builtin.zeroCells (Value.agg #[.string ⟨#[]⟩,.int .i64 0]).cells (G - (n+1)):=⟨_,rfl⟩
  rw [← hG] at hrz ⊢
  rw [← hROW] at hrz ⊢
  have hRl:(n+1) * 2≤ROW.size:=by
    rw [hROW]
    simp [Builtin.zeroCells,Value.cells]
    omega
  obtain ⟨W1,hW1⟩:∃ W1,W1=w.drew.alloc (.cells ROW 117):=⟨_,rfl⟩
  rw [← hW1] at hrz
  have hN:∀ j,j<(n+1) * 2→(W1.cell? ⟨w.heap.size,j,none⟩).isSome=true:=fun j hj=>by
    rw [hW1,World.cell?_alloc_at (w:=w.drew) ROW _ w.heap.size j rfl,Array.getElem?_eq_getElem (by omega)]; rfl
  have hNf:∀ j,W1.frozen? ⟨w.heap.size,j,none⟩=false:=fun j=>by rw [hW1]; exact World.frozen?_alloc_at (w:=w.drew) ROW _ w.heap.size j rfl
  have hOb:∀ j v,w.cell? ⟨b,j,none⟩=some v→W1.cell? ⟨b,j,none⟩=some v:=fun j v h=>by rw [hW1,World.cell?_alloc_past (w:=w.drew) _ b j hbw]; exact h
  have hOv:∀ j v,w.cell? ⟨vb,j,none⟩=some v→W1.cell? ⟨vb,j,none⟩=some v:=fun j v h=>by rw [hW1,World.cell?_alloc_past (w:=w.drew) _ vb j hvw]; exact h
  have hcpA:∀ (W:World),(∀ x,W.cell? x=W1.cell? x)→(∀ x,W.frozen? x=W1.frozen? x)→∀ ty dc,(Builtin.copy_ #[113,113] ty #[.slice (some ⟨w.heap.size,i * 2,none⟩) (n+1 - i) dc,.slice (some ⟨vb,voff,none⟩) 1 vc]).run Tryz.prog W=.ok (goInt ((1:Nat):Int)) (W.setCells w.heap.size (i * 2) vs):=fun W hWc hWf ty dc =>
    copy_cells W _ _ ty 117 2 1 w.heap.size (i * 2) (n+1 - i) dc ⟨vb,voff,none⟩ 1 vc vs tSE zEN (by simp only [Nat.min_def]; split <;> omega) (by omega)
      (fun j v hj=>by rw [Addr.add_lit,hWc]; exact hOv _ v (hvs j v hj))
      (fun j hj=>by rw [hWc]; exact hN _ (by omega)) (fun j hj=>by rw [hWf]; exact hNf _) h1v
  have hGn:n+1≤G:=by rw [hG]; exact grownCap_ge w _ _ _
  have hGi:¬ (G=i):=by omega
  have hGim:¬ (G=i+1):=by omega
  have hci:¬ (c=i):=by omega
  have hbN:b≠w.heap.size:=by omega
  have hdl:(cs.drop (i * 2)).length=(n - i) * 2:=by rw [List.length_drop,hcl]; omega
  have hcpB:∀ (W:World),(∀ x,W.cell? x=(W1.setCells w.heap.size (i * 2) vs).cell? x)→(∀ x,W.frozen? x=(W1.setCells w.heap.size (i * 2) vs).frozen? x)→∀ ty dc sc,(Builtin.copy_ #[113,113] ty #[.slice (some ⟨w.heap.size,(i+1) * 2,none⟩) (n - i) dc,.slice (some ⟨b,off+i * 2,none⟩) (n - i) sc]).run Tryz.prog W=.ok (goInt ((n - i:Nat):Int)) (W.setCells w.heap.size ((i+1) * 2) (cs.drop (i * 2))):=fun W hWc hWf ty dc sc =>
    copy_cells W _ _ ty 117 2 (n - i) w.heap.size ((i+1) * 2) (n - i) dc ⟨b,off+i * 2,none⟩ (n - i) sc (cs.drop (i * 2)) tSE zEN (by simp) hdl
      (fun j v hj=>by
        rw [Addr.add_lit,hWc,World.cell?_setCells_out _ _ _ _ _ (fun h _=>absurd h hbN),Nat.add_assoc]
        exact hOb _ v (hcs (i * 2+j) v (by rwa [List.getElem?_drop] at hj)))
      (fun j hj=>by rw [hWc]; exact some_setCells _ _ _ _ (fun t ht=>hN _ (by omega)) _ (hN _ (by omega)))
      (fun j hj=>by rw [hWf,World.frozen?_setCells]; exact hNf _) (fun v hv=>h1c v (List.mem_of_mem_drop hv))
  subst hW1
  have hE1:∀ x,((w.alloc (.cells ROW 117)).drew).cell? x=(w.drew.alloc (.cells ROW 117)).cell? x:=fun x=>rfl
  have hE2:∀ x,((w.alloc (.cells ROW 117)).drew).frozen? x=(w.drew.alloc (.cells ROW 117)).frozen? x:=fun x=>rfl
  have hF1:∀ x,(((w.alloc (.cells ROW 117)).drew.setCells w.heap.size (i * 2) vs).drew).cell? x=((w.drew.alloc (.cells ROW 117)).setCells w.heap.size (i * 2) vs).cell? x:=fun x=>rfl
  have hF2:∀ x,(((w.alloc (.cells ROW 117)).drew.setCells w.heap.size (i * 2) vs).drew).frozen? x=((w.drew.alloc (.cells ROW 117)).setCells w.heap.size (i * 2) vs).frozen? x:=fun x=>rfl
  have hw1:IntKind.i64.wrap ((i:Int)+1)=(i:Int)+1:=by rw [IntKind.wrap_i64]; omega
  have hw2:IntKind.i64.wrap ((n:Int)+1)=(n:Int)+1:=by rw [IntKind.wrap_i64]; omega
  have hw3:IntKind.i64.wrap ((n:Int)+1 - (i:Int))=(n:Int)+1 - (i:Int):=by rw [IntKind.wrap_i64]; omega
  have hb1:(0:Int)≤(i:Int)+1:=by omega
  have hin:i≤n:=by omega
  have htn:((i:Int)+1).toNat=i+1:=by omega
  have hb3:(i:Int)≤(n:Int):=by omega
  clear hkk hik hold hROW hG hRl
  go_enter Tryz.func176,Tryz.ntmps176
  go_wp2_with (first
    | (at_builtin; refine Lib.wpList_append_run _ rfl _ _ _ _ rfl _ _ rfl rfl _ _ (hrz _) ?_)
    | (at_builtin; refine list_copyI _ rfl _ _ 113 113 rfl _ _ rfl rfl (hcpA _ hE1 hE2 _ _) ?_)
    | (at_builtin; refine list_copyI _ rfl _ _ 113 113 rfl _ _ rfl rfl (hcpB _ (fun _=>rfl) (fun _=>rfl) _ _ _) ?_))
  go_region_law_o (refine step_copyI rfl _ _ 113 113 rfl (.slice (some ⟨w.heap.size,(i+1) * 2,none⟩) (n - i) (G - (i+1))) (.slice (some ⟨b,off+i * 2,none⟩) (n - i) (c - i)) (by simp [Act.eval,Act.put]) (by simp [Act.eval,Act.put]) (hcpB _ hF1 hF2 3 (G - (i+1)) (c - i)) ?_)
  go_wp2
  go_ret
  exact ⟨rfl,rfl⟩
end Go.Proofs.YtmpgpkdijfcfhaaGreat.Hz
/- slices.Insert of one entry: the contract. -/
namespace Go.Proofs.YtmpgpkdijfcfhaaGreat.Hz
open Go.RowKit
set_option linter.unusedVariables false
set_option linter.unusedSimpArgs false
set_option maxRecDepth 20000
theorem insEl:elOf Tryz.prog 113=some (117,2,24,[.string ⟨#[]⟩,.int .i64 0]):=by kernel_rfl
theorem callsV_enter {P:Program} {f:FuncId} {fn:Func} {c:Code} (hf:P.funcs[f]?=some fn) (hb:fn.body=some c) (hn:(fn.name == "runtime.NumGoroutine")=false) {args:Array Value} {w:World} {S:Value→World→Prop}
    (k:Calls P f args w fun e w2=>∃ v,e=.returned v∧S v w2):CallsV P f args w S:=by
  have hen:(callFunc f args).run P w=.ok (.enter f args) w:=by
    unfold callFunc
    simp only [Sem.run_bind,run_program,Result.andThen_ok,hf]
    simp [hn,hb]
  unfold CallsV
  rw [hen]
  exact k
theorem setsAt_last (h:Hp) (ob:Ob) (i:Nat) (vs:List Value):setsAt (h++[ob]) h.length i vs=h++[{ ob with cells:=setL ob.cells i vs }]:=by
  apply List.ext_getElem?
  intro q
  rw [setsAt_get]
  by_cases hq:h.length=q
  · subst hq
    simp
  · rw [if_neg hq]
    by_cases hlt:q<h.length
    · rw [List.getElem?_append_left hlt,List.getElem?_append_left hlt]
    · rw [List.getElem?_eq_none (by simp; omega),List.getElem?_eq_none (by simp; omega)]
theorem ins_cells (es:List Ent) (x:Ent) (i:Nat):((es.take i++[x]++es.drop i).map Ent.cs).flatten=((es.map Ent.cs).flatten.take (i * 2)++Ent.cs x)++(es.map Ent.cs).flatten.drop (i * 2):=by
  have key:∀ (es:List Ent) (i:Nat),((es.map Ent.cs).take i).flatten=(es.map Ent.cs).flatten.take (i * 2)∧((es.map Ent.cs).drop i).flatten=(es.map Ent.cs).flatten.drop (i * 2):=by
    intro es
    induction es with
    | nil=>intro i; simp
    | cons e es ih =>
      intro i
      cases i with
      | zero=>simp
      | succ i =>
        obtain ⟨h1,h2⟩:=ih i
        have e2:(i+1) * 2=i * 2+1+1:=by omega
        simp [h1,h2,e2,Ent.cs]
  obtain ⟨h1,h2⟩:=key es i
  simp [h1,h2]
theorem Own.mem0 {α:Type} {A:Enc α} {h0 h:Hp} {e:TypeId} {xs:List α} {F:List Nat} {o off:Nat} (k:Own h0 e A h xs (some ⟨o,off,none⟩) F):o∈F:=by
  obtain ⟨_,ob,css,Fs,pre,post,g1,g2,g3,g4,rfl,_⟩:=k.sl
  exact List.mem_cons_self
theorem ins_own {es:List Ent} {x:Ent} {i o off:Nat} {F:List Nat} {h0 h:Hp} (own:Own h0 117 entE h es (some ⟨o,off,none⟩) F):Own h0 117 entE (kill h o++[⟨true,true,117,((es.take i++[x]++es.drop i).map Ent.cs).flatten⟩]) (es.take i++[x]++es.drop i) (some ⟨h.length,0,none⟩) [h.length]:=by
  have:=Own.lit (h0:=h0) (h:=kill h o) (e:=117) (A:=entE) (own.ext.kill (own.new o (Own.mem0 own))) (rowsR.mkFlat (es.take i++[x]++es.drop i)) (by rw [flat_rep]; exact List.nodup_nil) (by rw [flat_rep]; simp)
  rw [flat_rep,kill_len] at this
  exact this
set_option maxHeartbeats 4000000 in
theorem insert_in (es:List Ent) (x:Ent) (i o off:Nat) (F:List Nat) (h0 h:Hp) (b:Nat) (own:Own h0 117 entE h es (some ⟨o,off,none⟩) F) (hi:i<es.length) (hl:es.length≤1048576)
    (hb:h[b]?=some ⟨true,true,117,[.string (S x.name),.int .i64 x.node]⟩) (hbF:b ∉ F) :
    ACall Tryz.prog 176 [.slice (some ⟨o,off,none⟩) es.length es.length,.int .i64 i,.slice (some ⟨b,0,none⟩) 1 1] h fun r h'=>∃ a' F',r=.slice a' (es.length+1) (es.length+1)∧Own h0 117 entE h' (es.take i++[x]++es.drop i) a' F':=by
  intro B w0 φ w args' R ha
  obtain ⟨v1,l,rfl,r1,ha⟩:=All2.cons_iff.1 ha
  obtain ⟨v2,l,rfl,r2,ha⟩:=All2.cons_iff.1 ha
  obtain ⟨v3,l,rfl,r3,ha⟩:=All2.cons_iff.1 ha
  obtain rfl:=All2.nil_iff.1 ha
  obtain rfl:v2=.int .i64 i:=r2
  obtain ⟨p,c',a',hp,-,hcc,hnc,rfl,hor⟩:=r1
  obtain ⟨p2,c2,a2,hp2,-,hcc2,hnc2,rfl,hor2⟩:=r3
  simp only at hor hp
  rcases hor with ⟨rfl,hcap⟩ | ⟨h1,-⟩
  rotate_left
  · omega
  simp only at hor2 hp2
  rcases hor2 with ⟨rfl,hcap2⟩ | ⟨h1,-⟩
  rotate_left
  · omega
  obtain ⟨cs,hcs,hcl,css,Fs,rfl,hrow,hF⟩:=own.sl.cells
  obtain ⟨rfl,-⟩:=hrow.flat
  obtain ⟨-,ob,css2,Fs2,pre,post,g1,g2,g3,g4,-⟩:=own.sl
  simp only at g1
  have hrw:=g3 rfl
  have robj:=R.obj o ob p g1 hp g2
  obtain ⟨hB,hsize,ca,fr,hk,hcsz,hf⟩:=robj.own hrw
  have robj2:=R.obj b _ p2 hb hp2 rfl
  obtain ⟨hB2,hsize2,ca2,fr2,hk2,hcsz2,hf2⟩:=robj2.own rfl
  simp only [List.length_cons,List.length_nil] at hsize2 hk2
  have hne:o≠b:=fun e=>hbF (e ▸ Own.mem0 own)
  have hpb:p2.block≠p.block:=R.apart b o _ ob p2 p hb g1 hp2 hp rfl g2 rfl hrw (Ne.symm hne)
  have hez:=R.esz o ob p g1 hp
  rw [g4] at hez
  have hez':szOf Tryz.prog 117=some 2:=by kernel_rfl
  rw [hez'] at hez
  injection hez with hez
  have hcap':=hcap (robj.rw.trans hrw)
  rw [← hez] at hcap'
  obtain ⟨cs',k1,k2,k3⟩:=R.cells hp _ off _ hcs
  have hxs:cellsAt h b 0 2=some (Ent.cs x):=by simp [cellsAt,cellAt,hb,Ent.cs]
  obtain ⟨vs',j1,j2,j3⟩:=R.cells hp2 _ 0 _ hxs
  have hok1:=R.okCells hcs
  have hok2:(Ent.cs x).all okCell=true:=rfl
  have hn2:es.length * entE.n=es.length * 2:=rfl
  rw [hn2] at k1 hcl
  have hcl2:=hcl
  have hz:szOf Tryz.prog 117=some 2:=hez'
  refine callsV_enter Tryz.func176 rfl (by kernel_rfl) ?_
  have hkl:(kill h o).length=h.length:=kill_len h o
  have Rk:=R.kill o
  have hall:All2 (RelC φ) (((es.map Ent.cs).flatten.take (i * 2)++Ent.cs x)++(es.map Ent.cs).flatten.drop (i * 2)) ((cs'.take (i * 2)++vs')++cs'.drop (i * 2)):=((k3.take _).append j3).append (k3.drop _)
  by_cases hroom:es.length+1≤c'
  · -- in place
    have hcb:(es.length+1) * 2≤c' * 2:=Nat.mul_le_mul_right _ hroom
    refine (ins_shift p.block (p.off+off) es.length c' i p2.block (p2.off+0) c2 cs' vs' w hi hroom hpb (by omega) k1 j1 (fun j v hj=>k2 j v hj) (fun j hj=>by rw [cell_of hk,Array.getElem?_eq_getElem (by omega)]; rfl) (fun j hj=>frozen_no hk (hf _ (by omega)))
      (fun j v hj=>by have:=j2 j v hj; exact this) (all_one k3 hok1) (all_one j3 hok2) 117 ob.elem p2.size p.size
      (by simp [World.shape?,hk2,hcsz2]) (by simp [World.shape?,hk,hcsz]) (by omega) (frozen_no hk2 (hf2 _ (by omega))) (by
        rcases (robj2.mark rfl).2 with hm | hm
        · have hu8:intOf' Tryz.prog 117=none:=by kernel_rfl
          simp only [hu8] at hm
          cases hm
        · exact hm)).mono ?_
    rintro e w' ⟨rfl,rfl⟩
    simp only [wset_eq]
    have hdead:∀ (q:Nat) (ob':Ob) (p':Pl),(kill h o)[q]?=some ob'→φ[q]?=some p'→ob'.live=true→ob'.rw=true→p'.block≠p.block:=by
      intro q ob' p' ho' hp' hl' hr'
      rw [kill_get] at ho'
      split at ho'
      · simp only [Option.map_eq_some_iff] at ho'
        obtain ⟨ob2,_,rfl⟩:=ho'
        cases hl'
      · rename_i hne'
        exact R.apart q o ob' ob p' p ho' g1 hp' hp hl' g2 hr' hrw (Ne.symm hne')
    have Rd:Rel Tryz.prog B w0 φ (kill h o) w.drew:=Rk.drew _
    have Rw:=Rd.world (wset_below (vs:=cs'.drop (i * 2)) hB (p.off+off+(i+1) * 2)) p.block (fun k hk' _=>wset_other hk' _) hdead
    have Rw2:=Rw.world (wset_below (vs:=vs') hB (p.off+off+i * 2)) p.block (fun k hk' _=>wset_other hk' _) hdead
    obtain ⟨cs1,hk3,hcl3⟩:=wset_heap (vs:=cs'.drop (i * 2)) (w:=w.drew) (p.off+off+(i+1) * 2) p.block hk
    obtain ⟨cs3,hk4,hcl4⟩:=wset_heap (vs:=vs') (p.off+off+i * 2) p.block hk3
    have hs1:cs1.size=ca.size:=by
      have:=congrArg List.length hcl3
      rw [setL_length] at this
      simpa using this
    have hs3:cs3.size=ca.size:=by
      have:=congrArg List.length hcl4
      rw [setL_length] at this
      simpa [hs1] using this
    have hdl:(cs'.drop (i * 2)).length=(es.length - i) * 2:=by rw [List.length_drop,k1]; omega
    have Rn:=Rw2.adopt ⟨true,true,117,((es.take i++[x]++es.drop i).map Ent.cs).flatten⟩ ⟨p.block,p.off+off,p.size,2,true⟩ hz ⟨rfl,?_,fun j v hj=>?_,fun _=>⟨hB,?_,cs3,fr,by rw [hk4,g4],hs3.trans hcsz,hf⟩,fun hh=>(by cases hh),fun _=>⟨fun cs5 e5 fr5 h5=>(by rw [hk4] at h5; cases h5; exact (robj.mark hrw).1 _ _ _ hk),(robj.mark hrw).2.imp (fun hm=>by rw [g4] at hm; exact hm) fun hm=>by unfold World.frozen? at hm ⊢; simp only [hk4]; simp only [hk] at hm; exact hm⟩⟩ hdead
    · have hrow':=relV_row Rw2 ⟨p.block,p.off+off,p.size,2,true⟩ (n:=es.length+1) (c:=es.length+1) (c':=c') hroom hroom (fun _=>hcap')
      rw [hkl] at hrow'
      exact ⟨_,rfl,_,_,_,List.prefix_append _ _,Rn,hrow',_,_,rfl,ins_own own⟩
    · rw [ins_cells]
      simp only [List.all_append,Bool.and_eq_true]
      rw [List.all_eq_true] at hok1
      exact ⟨⟨List.all_eq_true.2 fun v hv=>hok1 v (List.mem_of_mem_take hv),hok2⟩,List.all_eq_true.2 fun v hv=>hok1 v (List.mem_of_mem_drop hv)⟩
    · rw [ins_cells] at hj
      obtain ⟨v',hv1,hv2⟩:=hall.get j v hj
      refine ⟨v',?_,hv2⟩
      rw [cell_of hk4]
      have h4:cs3[p.off+off+j]?=cs3.toList[p.off+off+j]?:=by simp
      have hjl:j<(es.length+1) * 2:=by
        have:=(List.getElem?_eq_some_iff.1 hv1).1
        simp only [List.length_append,List.length_take,hdl,j1,k1] at this
        omega
      rw [h4,hcl4,setL_get _ _ _ _ (by simp [hs1]; omega),hcl3,setL_get _ _ _ _ (by rw [hdl]; simp; omega)]
      by_cases hj1:j<i * 2
      · rw [if_neg (by omega),if_neg (by omega)]
        rw [List.getElem?_append_left (by simp; omega),List.getElem?_append_left (by simp; omega),List.getElem?_take_of_lt hj1] at hv1
        have:=k2 j v' hv1
        rw [cell_of hk] at this
        simpa using this
      · by_cases hj2:j<(i+1) * 2
        · rw [if_pos (by omega)]
          rw [List.getElem?_append_left (by simp; omega),List.getElem?_append_right (by simp; omega)] at hv1
          simp only [List.length_take] at hv1
          rw [show p.off+off+j - (p.off+off+i * 2)=j - min (i * 2) cs'.length by omega]
          exact hv1
        · rw [if_neg (by omega),if_pos (by omega)]
          rw [List.getElem?_append_right (by simp; omega)] at hv1
          simp only [List.length_append,List.length_take] at hv1
          rw [show p.off+off+j - (p.off+off+(i+1) * 2)=j - (min (i * 2) cs'.length+vs'.length) by omega]
          exact hv1
    · have hlen:((es.take i++[x]++es.drop i).map Ent.cs).flatten.length=(es.length+1) * 2:=by
        rw [ins_cells]
        simp only [List.length_append,List.length_take,List.length_drop,hcl2]
        show min (i * 2) (es.length * 2)+2+(es.length * 2 - i * 2)=_
        omega
      show p.off+off+(List.flatten _).length≤p.size
      rw [hlen]
      omega
  · -- a new row
    have hcn:c'=es.length:=by omega
    subst hcn
    refine (ins_grow p.block (p.off+off) es.length es.length i p2.block (p2.off+0) c2 cs' vs' w hi (Nat.le_refl _) (by omega) (by omega) k1 j1 (fun j v hj=>k2 j v hj) (fun j v hj=>by have:=j2 j v hj; exact this) (all_one k3 hok1) (all_one j3 hok2)).mono ?_
    rintro e w' ⟨rfl,rfl⟩
    simp only [wset_eq]
    have hzr:∀ k,(Builtin.zeroCells (Value.agg #[.string ⟨#[]⟩,.int .i64 0]).cells k).toList=rep k [.string ⟨#[]⟩,.int .i64 0]:=fun k=>madeRow k _
    have hge:=grownCap_ge w (es.length+1) es.length 117
    generalize grownCap w (es.length+1) es.length 117=G at hge ⊢
    generalize hROW:(cs'.take (i * 2)).toArray++Builtin.zeroCells (Value.agg #[.string ⟨#[]⟩,.int .i64 0]).cells (es.length+1 - i)++Builtin.zeroCells (Value.agg #[.string ⟨#[]⟩,.int .i64 0]).cells (G - (es.length+1))=ROW
    have hRl:ROW.toList=(cs'.take (i * 2)++rep (es.length+1 - i) [.string ⟨#[]⟩,.int .i64 0])++rep (G - (es.length+1)) [.string ⟨#[]⟩,.int .i64 0]:=by
      rw [← hROW]
      simp only [Array.toList_append,hzr]
    have hRs:ROW.size=G * 2:=by
      have:=congrArg List.length hRl
      simp only [Array.length_toList,List.length_append,List.length_take,rep_length,List.length_cons,List.length_nil,k1] at this
      omega
    have hsc:∀ k,(rep k [Value.string ⟨#[]⟩,.int .i64 0]).all scal=true:=fun k=>rep_scal (by rfl) k
    have hT:((es.map Ent.cs).flatten.take (i * 2)).length=i * 2:=by rw [List.length_take,hcl2]; omega
    have hD:((es.map Ent.cs).flatten.drop (i * 2)).length=(es.length - i) * 2:=by rw [List.length_drop,hcl2]; omega
    have hokT:((es.map Ent.cs).flatten.take (i * 2)).all okCell=true:=by
      rw [List.all_eq_true] at hok1 ⊢
      exact fun v hv=>hok1 v (List.mem_of_mem_take hv)
    have hokD:((es.map Ent.cs).flatten.drop (i * 2)).all okCell=true:=by
      rw [List.all_eq_true] at hok1 ⊢
      exact fun v hv=>hok1 v (List.mem_of_mem_drop hv)
    have Rm:=Rk.made (e:=117) (cells:=(es.map Ent.cs).flatten.take (i * 2)++rep (es.length+1 - i) [.string ⟨#[]⟩,.int .i64 0]) (cs:=ROW) hz (by rw [List.all_append,hokT,all_ok (hsc _)]; rfl) hRl ((k3.take _).append (relC_scals (hsc _))) w.drawn
    have hpl:=at_end Rk ⟨w.heap.size,0,ROW.size,2,true⟩
    have R2:=Rel.sets hpl (Ent.cs x) vs' (i * 2) _ _ (Rm.drew (w.drawn+1)) (by
      unfold canSet
      simp only [List.getElem?_concat_length,List.length_append,hT,rep_length,List.length_cons,List.length_nil,Bool.and_self,Bool.true_and,decide_eq_true_eq]
      show i * 2+2≤_
      omega) (j3.mono fun _ _ r=>r.mono (List.prefix_append _ _)) hok2
    rw [setsAt_last] at R2
    have e1:setL ((es.map Ent.cs).flatten.take (i * 2)++rep (es.length+1 - i) [.string ⟨#[]⟩,.int .i64 0]) (i * 2) (Ent.cs x)=((es.map Ent.cs).flatten.take (i * 2)++Ent.cs x)++rep (es.length - i) [.string ⟨#[]⟩,.int .i64 0]:=by
      have h1:=setL_append_right (Ent.cs x) ((es.map Ent.cs).flatten.take (i * 2)) (rep (es.length+1 - i) [.string ⟨#[]⟩,.int .i64 0]) 0
      simp only [hT,Nat.add_zero] at h1
      rw [h1]
      have h2:rep (es.length+1 - i) [Value.string ⟨#[]⟩,.int .i64 0]=[.string ⟨#[]⟩,.int .i64 0]++rep (es.length - i) [.string ⟨#[]⟩,.int .i64 0]:=by
        rw [show es.length+1 - i=(es.length - i)+1 by omega]
        simp [rep,List.replicate_succ]
      rw [h2,setL_append_left _ _ _ _ (by simp [Ent.cs]),setL_all _ _ (by simp [Ent.cs]),List.append_assoc]
    simp only [e1,Nat.zero_add] at R2
    have R2d:Rel Tryz.prog B w0 _ _ (wset (w.alloc (.cells ROW 117)).drew w.heap.size (i * 2) vs').drew:=R2.drew _
    have R3:=Rel.sets hpl ((es.map Ent.cs).flatten.drop (i * 2)) (cs'.drop (i * 2)) ((i+1) * 2) _ _ R2d (by
      unfold canSet
      simp only [List.getElem?_concat_length,List.length_append,hT,hD,rep_length,List.length_cons,List.length_nil,Bool.and_self,Bool.true_and,decide_eq_true_eq]
      show (i+1) * 2+(es.length - i) * 2≤i * 2+2+_
      omega) ((k3.drop _).mono fun _ _ r=>r.mono (List.prefix_append _ _)) hokD
    rw [setsAt_last] at R3
    have e2:setL (((es.map Ent.cs).flatten.take (i * 2)++Ent.cs x)++rep (es.length - i) [.string ⟨#[]⟩,.int .i64 0]) ((i+1) * 2) ((es.map Ent.cs).flatten.drop (i * 2))=((es.map Ent.cs).flatten.take (i * 2)++Ent.cs x)++(es.map Ent.cs).flatten.drop (i * 2):=by
      have h1:=setL_append_right ((es.map Ent.cs).flatten.drop (i * 2)) ((es.map Ent.cs).flatten.take (i * 2)++Ent.cs x) (rep (es.length - i) [.string ⟨#[]⟩,.int .i64 0]) 0
      have h3:((es.map Ent.cs).flatten.take (i * 2)++Ent.cs x).length=(i+1) * 2:=by
        rw [List.length_append,hT]
        show i * 2+2=_
        omega
      simp only [h3,Nat.add_zero] at h1
      rw [h1,setL_all _ _ (by rw [hD,rep_length]; rfl)]
    simp only [e2,← ins_cells] at R3
    have hrow':=relV_row Rk ⟨w.heap.size,0,ROW.size,2,true⟩ (n:=es.length+1) (c:=es.length+1) (c':=G) hge hge (fun _=>by
      show 0+G * 2≤ROW.size
      omega)
    rw [hkl] at hrow'
    simp only [Nat.zero_add] at R3
    exact ⟨_,rfl,_,_,_,List.prefix_append _ _,R3,hrow',_,_,rfl,ins_own own⟩
theorem slices_Insert_c:InsertC:=by
  intro es x i a F h0 h b own hi hl hb hbF hb0
  by_cases hend:i=es.length
  · subst hend
    refine acall mixed Tryz.func176 rfl (by kernel_rfl) ?_
    obtain ⟨bb,GG,c1,-⟩:=cutHi own.sl (Nat.le_refl _)
    have hy:slR true 117 entE h [x] (some ⟨b,0,none⟩) [b]:=⟨rfl,_,[Ent.cs x],[[]],[],[],hb,rfl,fun _=>rfl,rfl,rfl,⟨⟨rfl,rfl⟩,trivial⟩,rfl,rfl⟩
    obtain ⟨a',h',F',c2,c3,-⟩:=own.appendSl (P:=Tryz.prog) (st:=113) (xt:=113) hy (by kernel_rfl) insEl (by show es.length+1≤70368744177664; omega) (by show (es.length+1) * 24≤70368744177664; omega)
    simp at c2
    simp [Tryz.f176,c1,c2]
    refine ⟨F',?_⟩
    first | exact c3 | (simp; exact c3)
  · cases a with
    | none =>
      obtain ⟨rfl,-⟩:=own.sl
      simp at hi
      exact absurd hi hend
    | some a =>
      obtain ⟨o,off,sp⟩:=a
      obtain ⟨hsp,-⟩:=own.sl
      simp only at hsp
      subst hsp
      exact insert_in es x i o off F h0 h b own (by omega) hl hb hbF
end Go.Proofs.YtmpgpkdijfcfhaaGreat.Hz
