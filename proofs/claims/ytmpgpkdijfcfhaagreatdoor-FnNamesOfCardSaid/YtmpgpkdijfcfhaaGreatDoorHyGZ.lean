/- Texts of the calculus and of the program's functions, merged: TQ TR TV TW TX. -/
import Derived.Test.YtmpgpkdijfcfhaaGreatDoorHyGC
import Derived.Test.YtmpgpkdijfcfhaaGreatDoorHyGE
import Derived.Test.YtmpgpkdijfcfhaaGreatDoorHyGF
import Derived.Test.YtmpgpkdijfcfhaaGreatDoorHyGK
import Derived.Test.YtmpgpkdijfcfhaaGreatDoorHyGI
import Derived.Test.YtmpgpkdijfcfhaaGreatDoorHyGM
import Derived.Test.YtmpgpkdijfcfhaaGreatDoorHyGD
import Derived.Test.YtmpgpkdijfcfhaaGreatDoorHyGP
import Derived.Test.YtmpgpkdijfcfhaaGreatDoorHyGY
import Derived.Test.YtmpgpkdijfcfhaaGreatDoorHyGO
namespace Go.Proofs.YtmpgpkdijfcfhaaGreatDoor.Hz
open Go.RowKit
set_option linter.unusedVariables false
set_option linter.unusedSimpArgs false
set_option maxRecDepth 20000
def putA (o:List Item × Bool) (x y:Item):List Item × Bool:=if !o.2 && Op.bytesLess x.path y.path then (o.1++[x],true) else o
def putB (o:List Item × Bool) (x y:Item):List Item × Bool:=if y.path≠x.path then (o.1++[y],o.2) else o
def putUp (x:Item):List Item→List Item × Bool→List Item × Bool
  | [],o=>o
  | y :: t,o=>putUp x t (putB (putA o x y) x y)
def putIt (t:List Item) (x:Item):List Item:=if (putUp x t ([],false)).2 then (putUp x t ([],false)).1 else (putUp x t ([],false)).1++[x]
theorem putUp_drop (x:Item) (t:List Item) (k:Nat) (hk:k<t.length) (o:List Item × Bool):putUp x (t.drop k) o=putUp x (t.drop (k+1)) (putB (putA o x t[k]) x t[k]):=by
  rw [List.drop_eq_getElem_cons hk]; rfl
def nd (b:Bool):Nat:=cond b 0 1
theorem put2_len (o:List Item × Bool) (x y:Item):(putB (putA o x y) x y).1.length+nd (putB (putA o x y) x y).2≤o.1.length+nd o.2+1:=by
  unfold putB putA
  obtain ⟨l,d⟩:=o
  cases d <;> cases Op.bytesLess x.path y.path <;> by_cases hy:y.path=x.path <;> simp [hy,nd]
theorem putUp_len2 (x:Item):∀ (t:List Item) (o:List Item × Bool),(putUp x t o).1.length+nd (putUp x t o).2≤o.1.length+nd o.2+t.length
  | [],o=>Nat.le_refl _
  | y :: t,o=>by
    have h1:=putUp_len2 x t (putB (putA o x y) x y)
    have h2:=put2_len o x y
    simp only [putUp,List.length_cons]; omega
theorem putIt_len (t:List Item) (x:Item):(putIt t x).length≤t.length+1:=by
  have h:=putUp_len2 x t ([],false)
  unfold putIt
  generalize putUp x t ([],false)=o at h ⊢
  obtain ⟨l,d⟩:=o
  cases d <;> simp [nd] at h ⊢ <;> omega
set_option maxHeartbeats 2000000 in
theorem l10Put_c (t:List Item) (x:Item) (a:Option Addr) (F:List Nat) (w:Bool) (h:Hp) (k1:slR w 33 itemE h t a F) (hl:t.length≤1048576000) :
    ACall Tryz.prog 73 [.slice a t.length t.length,x.v] h fun r h'=>∃ b G,r=.slice b (putIt t x).length (putIt t x).length∧Own h 33 itemE h' (putIt t x) b G:=by
  refine acall mixed Tryz.func73 rfl (by kernel_rfl) ?_
  simp [Tryz.f73,Item.v]
  obtain ⟨B,hB⟩:∃ B,B=h++[(⟨true,true,33,[.string (S x.path),.int .i64 x.kind,.string (S x.data),.int .i64 x.time]⟩:Ob)]:=⟨_,rfl⟩
  have eh:Ext h B:=by rw [hB]; exact Ext.push _ _
  have hlB:B.length=h.length+1:=by rw [hB]; simp
  have b0:cellAt B h.length 0=some (.string (S x.path)):=by rw [hB]; simp
  have b1:cellAt B h.length 1=some (.int .i64 x.kind):=by rw [hB]; simp
  have b2:cellAt B h.length 2=some (.string (S x.data)):=by rw [hB]; simp
  have b3:cellAt B h.length 3=some (.int .i64 x.time):=by rw [hB]; simp
  have o0:=empty1 itemE B 33
  rw [hlB] at o0
  have eB:(h++[(⟨true,true,33,[.string (S x.path),.int .i64 x.kind,.string (S x.data),.int .i64 x.time]⟩:Ob),⟨true,true,33,[]⟩]:Hp)=B++[⟨true,true,33,[]⟩]:=by rw [hB]; simp
  rw [eB]
  clear eB hB
  refine aloop mixed [0,3,5,6,7] (fun (z:Nat × (List Item × Bool) × Option Addr × Hp)=>[.slice a t.length t.length,.pointer (some ⟨h.length,0,none⟩),.slice z.2.2.1 z.2.1.1.length z.2.1.1.length,.bool z.2.1.2,.int .i64 z.1]) (fun z=>z.2.2.2)
    (fun z=>z.1≤t.length∧putUp x (t.drop z.1) z.2.1=putUp x t ([],false)∧z.2.1.1.length≤2 * z.1∧∃ G,Own B 33 itemE z.2.2.2 z.2.1.1 z.2.2.1 G) (fun z=>t.length - z.1) (0,([],false),some ⟨h.length+1,0,none⟩,_) ⟨by simp,by simp,by simp,_,o0⟩ rfl rfl ?_
  clear o0
  rintro ⟨k,o,b,H⟩ ⟨hk,hu,hlo,G,own⟩
  simp only at hk hu hlo own
  simp [mkF]
  refine aSI (fun hc=>?_) (fun hc=>?_) <;> simp at hc <;> simp [hc]
  · rw [putUp_drop x t k hc o] at hu
    have st:=k1.ext (eh.trans own.ext)
    obtain ⟨oo,off,rfl,c0,c1,c2,c3⟩:=itemAt st hc
    obtain ⟨ol,d⟩:=o
    simp only at hlo own
    have q0:=cell_up own.ext b0
    have q1:=cell_up own.ext b1
    have q2:=cell_up own.ext b2
    have q3:=cell_up own.ext b3
    refine drawK false (by kernel_rfl) ?_
    cases d with
    | true =>
      have hA:putA (ol,true) x t[k]=(ol,true):=by simp [putA]
      rw [hA] at hu
      try simp
      have st2:=k1.ext (eh.trans own.ext)
      obtain ⟨oo2,off2,ea2,e0,e1,e2,e3⟩:=itemAt st2 hc
      simp only [Option.some.injEq,Addr.mk.injEq,and_true] at ea2
      obtain ⟨rfl,rfl⟩:=ea2
      have q0:=cell_up own.ext b0
      refine drawK false (by kernel_rfl) ?_
      simp [hc,e0,q0]
      by_cases hy:t[k].path=x.path
      · have hB2:putB ((ol,true):List Item × Bool) x t[k]=((ol,true):List Item × Bool):=by unfold putB; rw [if_neg (by simpa using hy)]
        rw [hB2] at hu
        try simp [hy]
        exact anext (k+1,((ol,true):List Item × Bool),_,H) ⟨hc,hu,by simp only; omega,_,own⟩ (by simp only; omega) (by simp [pickF,wS (show k<9223372036854775807 by omega)]) rfl (by simp)
      · have hB2:putB ((ol,true):List Item × Bool) x t[k]=(ol++[t[k]],((ol,true):List Item × Bool).2):=by unfold putB; rw [if_pos hy]
        rw [hB2] at hu
        have hy':(t[k].path == x.path)=false:=by simpa using hy
        have hy2:(t[k].path != x.path)=true:=by simpa using hy
        simp [hy',hy2,hc,e0,e1,e2,e3]
        obtain ⟨b9,H9,G9,eq9,own9⟩:=own.append1 (P:=Tryz.prog) t[k] (cs:=Item.cs t[k]) rfl (st:=24) (xt:=24) (bt:=48) (z:=[.string (S []),.int .i64 0,.string (S []),.int .i64 0]) (by simp) (by simp) (by unfold big; (try simp); omega) (by unfold big; (try simp); omega)
        try simp [Item.cs] at eq9
        try simp [eq9]
        exact anext (k+1,(ol++[t[k]],((ol,true):List Item × Bool).2),b9,H9) ⟨hc,hu,by simp; omega,G9,own9⟩ (by simp only; omega) (by simp [pickF,wS (show k<9223372036854775807 by omega)]) rfl (by simp)
    | false =>
      simp [hc,c0,q0]
      cases hls:Op.bytesLess x.path t[k].path
      · have hA:putA (ol,false) x t[k]=(ol,false):=by simp [putA,hls]
        rw [hA] at hu
        try simp
        have st2:=k1.ext (eh.trans own.ext)
        obtain ⟨oo2,off2,ea2,e0,e1,e2,e3⟩:=itemAt st2 hc
        simp only [Option.some.injEq,Addr.mk.injEq,and_true] at ea2
        obtain ⟨rfl,rfl⟩:=ea2
        have q0:=cell_up own.ext b0
        refine drawK false (by kernel_rfl) ?_
        simp [hc,e0,q0]
        by_cases hy:t[k].path=x.path
        · have hB2:putB ((ol,false):List Item × Bool) x t[k]=((ol,false):List Item × Bool):=by unfold putB; rw [if_neg (by simpa using hy)]
          rw [hB2] at hu
          try simp [hy]
          exact anext (k+1,((ol,false):List Item × Bool),_,H) ⟨hc,hu,by simp only; omega,_,own⟩ (by simp only; omega) (by simp [pickF,wS (show k<9223372036854775807 by omega)]) rfl (by simp)
        · have hB2:putB ((ol,false):List Item × Bool) x t[k]=(ol++[t[k]],((ol,false):List Item × Bool).2):=by unfold putB; rw [if_pos hy]
          rw [hB2] at hu
          have hy':(t[k].path == x.path)=false:=by simpa using hy
          have hy2:(t[k].path != x.path)=true:=by simpa using hy
          simp [hy',hy2,hc,e0,e1,e2,e3]
          obtain ⟨b9,H9,G9,eq9,own9⟩:=own.append1 (P:=Tryz.prog) t[k] (cs:=Item.cs t[k]) rfl (st:=24) (xt:=24) (bt:=48) (z:=[.string (S []),.int .i64 0,.string (S []),.int .i64 0]) (by simp) (by simp) (by unfold big; (try simp); omega) (by unfold big; (try simp); omega)
          try simp [Item.cs] at eq9
          try simp [eq9]
          exact anext (k+1,(ol++[t[k]],((ol,false):List Item × Bool).2),b9,H9) ⟨hc,hu,by simp; omega,G9,own9⟩ (by simp only; omega) (by simp [pickF,wS (show k<9223372036854775807 by omega)]) rfl (by simp)
      · have hA:putA (ol,false) x t[k]=(ol++[x],true):=by simp [putA,hls]
        rw [hA] at hu
        simp [q0,q1,q2,q3]
        obtain ⟨b1,H1,G1,eq1,own1⟩:=own.append1 (P:=Tryz.prog) x (cs:=Item.cs x) rfl (st:=24) (xt:=24) (bt:=48) (z:=[.string (S []),.int .i64 0,.string (S []),.int .i64 0]) (by simp) (by simp) (by unfold big; (try simp); omega) (by unfold big; (try simp); omega)
        try simp [Item.cs] at eq1
        simp [eq1]
        have st2:=k1.ext (eh.trans own1.ext)
        obtain ⟨oo2,off2,ea2,e0,e1,e2,e3⟩:=itemAt st2 hc
        simp only [Option.some.injEq,Addr.mk.injEq,and_true] at ea2
        obtain ⟨rfl,rfl⟩:=ea2
        have q0:=cell_up own1.ext b0
        refine drawK false (by kernel_rfl) ?_
        simp [hc,e0,q0]
        by_cases hy:t[k].path=x.path
        · have hB2:putB ((ol++[x],true):List Item × Bool) x t[k]=((ol++[x],true):List Item × Bool):=by unfold putB; rw [if_neg (by simpa using hy)]
          rw [hB2] at hu
          try simp [hy]
          exact anext (k+1,((ol++[x],true):List Item × Bool),_,H1) ⟨hc,hu,by simp only; simp; omega,_,own1⟩ (by simp only; omega) (by simp [pickF,wS (show k<9223372036854775807 by omega)]) rfl (by simp)
        · have hB2:putB ((ol++[x],true):List Item × Bool) x t[k]=((ol++[x])++[t[k]],((ol++[x],true):List Item × Bool).2):=by unfold putB; rw [if_pos hy]
          rw [hB2] at hu
          have hy':(t[k].path == x.path)=false:=by simpa using hy
          have hy2:(t[k].path != x.path)=true:=by simpa using hy
          simp [hy',hy2,hc,e0,e1,e2,e3]
          obtain ⟨b9,H9,G9,eq9,own9⟩:=own1.append1 (P:=Tryz.prog) t[k] (cs:=Item.cs t[k]) rfl (st:=24) (xt:=24) (bt:=48) (z:=[.string (S []),.int .i64 0,.string (S []),.int .i64 0]) (by simp) (by simp) (by unfold big; (try simp); omega) (by unfold big; (try simp); omega)
          try simp [Item.cs] at eq9
          try simp [eq9]
          exact anext (k+1,((ol++[x])++[t[k]],((ol++[x],true):List Item × Bool).2),b9,H9) ⟨hc,hu,by simp; omega,G9,own9⟩ (by simp only; omega) (by simp [pickF,wS (show k<9223372036854775807 by omega)]) rfl (by simp)
  · obtain rfl:k=t.length:=by omega
    obtain ⟨ol,d⟩:=o
    simp only at hlo own
    have q0:=cell_up own.ext b0
    have q1:=cell_up own.ext b1
    have q2:=cell_up own.ext b2
    have q3:=cell_up own.ext b3
    rw [List.drop_length] at hu
    have hp:putUp x t ([],false)=(ol,d):=hu.symm
    cases d with
    | true =>
      have hf:putIt t x=ol:=by unfold putIt; rw [hp]; rfl
      rw [hf]
      try simp
      exact ⟨_,own.of_new eh⟩
    | false =>
      have hf:putIt t x=ol++[x]:=by unfold putIt; rw [hp]; rfl
      rw [hf]
      simp [q0,q1,q2,q3]
      obtain ⟨b1',H1,G1,eq1,own1⟩:=own.append1 (P:=Tryz.prog) x (cs:=Item.cs x) rfl (st:=24) (xt:=24) (bt:=48) (z:=[.string (S []),.int .i64 0,.string (S []),.int .i64 0]) (by simp) (by simp) (by unfold big; omega) (by unfold big; omega)
      simp [Item.cs] at eq1
      simp [eq1]
      exact ⟨_,own1.of_new eh⟩
def pathJoin (p n:Str):Str:=if pathOk p then pathOf (names p++[n]) else []
theorem names_small (p:Str):sumL List.length (names p)≤24:=by
  have h1:=names_len p
  have h2:=sumL_all List.length 6 (names p) (fun x hx=>(nameOk_len (names_mem hx)).2)
  omega
theorem pathJoin_impl_c (p n:Str) (h:Hp) (hp:p.length≤1048576) (hn:n.length≤1000) :
    ACall Tryz.prog 10 [.string (S p),.string (S n)] h fun r h'=>(∃ t,h'=h++t)∧r=.string (S (pathJoin p n)):=by
  refine acall mixed Tryz.func10 rfl (by kernel_rfl) ?_
  simp [Tryz.f10]
  refine cK (readPath_c p h hp) ?_
  rintro _ H1 ⟨a,F,rfl,o1⟩
  obtain ⟨t1,rfl⟩:=o1.ext.pre
  have hnl:=names_len p
  have hns:=names_small p
  cases e1:pathOk p
  · simp [pathJoin,e1]
  simp
  obtain ⟨a2,H2,F2,eq2,o2⟩:=o1.append1 (P:=Tryz.prog) n (cs:=[.string (S n)]) rfl (st:=29) (xt:=29) (bt:=16) (z:=[.string (S [])]) (by simp) (by simp) (by unfold big; omega) (by unfold big; omega)
  obtain ⟨t2,ht2⟩:=o2.ext.pre
  simp at eq2
  simp [eq2]
  have hlen:(names p++[n]).length=(names p).length+1:=by simp
  have hsum:sumL List.length (names p++[n])=sumL List.length (names p)+n.length:=by rw [sumL_append]; simp [sumL]
  have hc:=pathOf_impl_c (names p++[n]) a2 F2 true _ H2 o2.sl (by rw [hlen,hsum]; omega)
  rw [hlen] at hc
  refine cK hc ?_
  rintro _ _ ⟨⟨t3,rfl⟩,rfl⟩
  subst ht2
  simp [pathJoin,e1]
def Vis (f:Fs) (k:Nat) (i:Int):Prop:=∃ s T,visit f k i s=some T
theorem Vis.read {f:Fs} {k:Nat} {i:Int} (v:Vis f k i):(dirI f i).2=true:=by
  obtain ⟨s,T,hv⟩:=v
  cases k with
  | zero =>
    unfold visit at hv
    split at hv
    · rename_i h
      simp only [Bool.and_eq_true] at h
      exact h.1
    · cases hv
  | succ k =>
    unfold visit at hv
    split at hv
    · assumption
    · cases hv
theorem Vis.step {f:Fs} {k:Nat} {i:Int} (v:Vis f k i) {e:Ent} (he:e∈(dirI f i).1):∃ j,k=j+1∧0≤e.node∧e.node<f.nodes.length∧((nA_ f e.node).kind=2→Vis f j e.node):=by
  obtain ⟨s,T,hv⟩:=v
  cases k with
  | zero =>
    unfold visit at hv
    split at hv
    · rename_i h
      simp only [Bool.and_eq_true,List.isEmpty_iff] at h
      rw [h.2] at he
      cases he
    · cases hv
  | succ k =>
    unfold visit at hv
    split at hv
    · obtain ⟨h1,h2⟩:=visitL_mem hv e he
      simp only [lost,Bool.or_eq_false_iff,decide_eq_false_iff_not] at h1
      exact ⟨k,rfl,dirOf_pos _ e he,by omega,h2⟩
    · cases hv
def itemOf (f:Fs) (ns:List Str) (e:Ent):Item:=⟨pathOf (ns++[e.name]),(nA_ f e.node).kind,if (nA_ f e.node).kind=2 then [] else contentI f e.node,if (nA_ f e.node).kind=2 then 0 else (nA_ f e.node).time⟩
def itemsE (f:Fs) (rec:Int→List Str→List Item) (ns:List Str) (e:Ent):List Item:=if e.name=[126] then [] else itemOf f ns e :: (if (nA_ f e.node).kind=2 then rec e.node (ns++[e.name]) else [])
def itemsL (f:Fs) (rec:Int→List Str→List Item) (ns:List Str) (es:List Ent):List Item:=(es.map (itemsE f rec ns)).flatten
def itemsOf (f:Fs):Nat→Int→List Str→List Item
  | 0,_,_=>[]
  | k+1,i,ns=>itemsL f (itemsOf f k) ns (dirI f i).1
theorem itemsL_drop (f:Fs) (rec:Int→List Str→List Item) (ns:List Str) (es:List Ent) (j:Nat) (hj:j<es.length):itemsL f rec ns (es.drop j)=itemsE f rec ns es[j]++itemsL f rec ns (es.drop (j+1)):=by
  rw [List.drop_eq_getElem_cons hj]; rfl
def capI:Nat→Nat
  | 0=>0
  | k+1=>80 * (1+capI k)
theorem itemsE_len {f:Fs} {rec:Int→List Str→List Item} {c:Nat} (h:∀ i ns,(rec i ns).length≤c) (ns:List Str) (e:Ent):(itemsE f rec ns e).length≤1+c:=by
  unfold itemsE
  split
  · simp
  · split
    · have:=h e.node (ns++[e.name]); simp; omega
    · simp
theorem itemsL_len {f:Fs} {rec:Int→List Str→List Item} {c:Nat} (h:∀ i ns,(rec i ns).length≤c) (ns:List Str):∀ es:List Ent,(itemsL f rec ns es).length≤es.length * (1+c)
  | []=>by simp [itemsL]
  | e :: es=>by
    have h1:=itemsL_len (f:=f) h ns es
    have h2:=itemsE_len (f:=f) h ns e
    have e1:itemsL f rec ns (e :: es)=itemsE f rec ns e++itemsL f rec ns es:=rfl
    rw [e1,List.length_append,List.length_cons,Nat.succ_mul]; omega
theorem itemsOf_len {f:Fs} (s:ShapeOk f):∀ k i ns,(itemsOf f k i ns).length≤capI k
  | 0,_,_=>by simp [itemsOf,capI]
  | k+1,i,ns=>by
    have h1:=itemsL_len (f:=f) (itemsOf_len s k) ns (dirI f i).1
    have h2:=dirI_small s i
    have h3:(dirI f i).1.length * (1+capI k)≤80 * (1+capI k):=Nat.mul_le_mul_right _ h2
    simp only [itemsOf,capI]; omega
theorem foldPut_len:∀ (xs:List Item) (t:List Item),(xs.foldl putIt t).length≤t.length+xs.length
  | [],t=>by simp
  | x :: xs,t=>by
    have h1:=foldPut_len xs (putIt t x)
    have h2:=putIt_len t x
    simp only [List.foldl_cons,List.length_cons]; omega
def BelowC (f:Fs) (k:Nat):Prop:=∀ (a1 a2:Option Addr) (F1 F2:List Nat) (w:Bool) (tNode:TypeId) (h:Hp) (k1:slR w tNode (nodeE w) h f.nodes a1 F1) (k2:slR w 9 strE h f.data a2 F2) (i:Nat) (hi:i<f.nodes.length) (hk:(nA_ f (i:Int)).kind=2) (v:Vis f k (i:Int)) (ns:List Str) (an:Option Addr) (Fn:List Nat) (wn:Bool) (tn:TypeId) (kn:slR wn tn strE h ns an Fn) (hns:ns.length+k≤4) (hn6:∀ n∈ns,n.length≤6) (t:List Item) (at_:Option Addr) (Ft:List Nat) (kt:slR true 33 itemE h t at_ Ft) (ht:t.length+capI k≤100000000),
  ACall Tryz.prog 50 [.agg #[.slice a1 f.nodes.length f.nodes.length,.slice a2 f.data.length f.data.length],.int .i64 i,.slice an ns.length ns.length,.slice at_ t.length t.length] h fun r h'=>∃ b G,r=.slice b ((itemsOf f k i ns).foldl putIt t).length ((itemsOf f k i ns).foldl putIt t).length∧slR true 33 itemE h' ((itemsOf f k i ns).foldl putIt t) b G∧(∀ q∈G,q∈Ft∨h.length≤q)∧Ext h h'
theorem itemsOf_vis {f:Fs} {k:Nat} {i:Int} (v:Vis f k i) (ns:List Str):itemsOf f k i ns=itemsL f (itemsOf f (k - 1)) ns (dirI f i).1:=by
  cases k with
  | succ k=>rfl
  | zero =>
    obtain ⟨s,T,hv⟩:=v
    unfold visit at hv
    split at hv
    · rename_i h
      simp only [Bool.and_eq_true,List.isEmpty_iff] at h
      rw [h.2]; rfl
    · cases hv
set_option maxHeartbeats 4000000 in
theorem below_step (f:Fs) (hl:f.nl≤1048576) (sh:ShapeOk f) (k:Nat) (ih:∀ j,k=j+1→BelowC f j):BelowC f k:=by
  intro a1 a2 F1 F2 w tNode h k1 k2 i hi hk v ns an Fn wn tn kn hns hn6 t at_ Ft kt ht
  refine acall mixed Tryz.func50 rfl (by kernel_rfl) ?_
  simp [Tryz.f50]
  refine cK (l9Dir_c f a1 a2 F1 F2 w tNode _ (k1.to (by simp)) (k2.to (by simp)) hl sh i hi) ?_
  have hdk:dirK f (i:Int)=dirI f (i:Int):=by simp [dirK,hk]
  rw [hdk]
  rintro _ _ ⟨al,Fl,rfl,ol⟩
  obtain ⟨u,rfl⟩:=ol.ext.pre
  have hdl:=dirI_small sh (i:Int)
  have hnm:=dirI_names f (i:Int)
  rw [itemsOf_vis v ns]
  obtain ⟨B,hB⟩:∃ B,B=h++⟨true,true,56,[.slice a1 f.nodes.length f.nodes.length,.slice a2 f.data.length f.data.length]⟩ :: u:=⟨_,rfl⟩
  have eh:Ext h B:=by rw [hB]; exact Ext.push _ _
  have b0:cellAt B h.length 0=some (.slice a1 f.nodes.length f.nodes.length):=by rw [hB]; simp
  have b1:cellAt B h.length 1=some (.slice a2 f.data.length f.data.length):=by rw [hB]; simp
  have sl:slR true 101 entE B (dirI f (i:Int)).1 al Fl:=by rw [hB]; simpa using ol.sl
  simp
  rw [← hB]
  clear hB ol
  refine aloop mixed [1,2,3,4,9,11] (fun (y:Nat × List Item × Option Addr × Hp)=>[.int .i64 i,.slice an ns.length ns.length,.slice y.2.2.1 y.2.1.length y.2.1.length,.pointer (some ⟨h.length,0,none⟩),.slice al (dirI f (i:Int)).1.length (dirI f (i:Int)).1.length,.int .i64 y.1]) (fun y=>y.2.2.2)
    (fun y=>y.1≤(dirI f (i:Int)).1.length∧(itemsL f (itemsOf f (k - 1)) ns ((dirI f (i:Int)).1.drop y.1)).foldl putIt y.2.1=(itemsL f (itemsOf f (k - 1)) ns (dirI f (i:Int)).1).foldl putIt t∧y.2.1.length≤t.length+y.1 * (1+capI (k - 1))∧Ext B y.2.2.2∧∃ G,slR true 33 itemE y.2.2.2 y.2.1 y.2.2.1 G∧∀ q∈G,q∈Ft∨h.length≤q) (fun y=>(dirI f (i:Int)).1.length - y.1) (0,t,at_,B) ⟨by simp,by simp,by simp,Ext.refl _,Ft,kt.ext eh,fun q hq=>.inl hq⟩ rfl rfl ?_
  rintro ⟨j,tj,bj,H⟩ ⟨hj,hu,hlen,xB,G,st,hG⟩
  simp only at hj hu hlen xB st
  simp [mkF]
  refine aSI (fun hc=>?_) (fun hc=>?_) <;> simp at hc <;> simp [hc]
  · have hc':j<(dirI f (i:Int)).1.length:=by omega
    obtain ⟨oe,offe,rfl,d0,d1⟩:=entAt (sl.ext xB) hc'
    have hmem:=List.getElem_mem hc'
    rw [itemsL_drop _ _ _ _ j hc',List.foldl_append] at hu
    have hn6e:=hnm _ hmem
    have q0:=cell_up xB b0
    have q1:=cell_up xB b1
    simp [hc',d0]
    by_cases e0:(dirI f (i:Int)).1[j].name=[126]
    · have hE:itemsE f (itemsOf f (k - 1)) ns (dirI f (i:Int)).1[j]=[]:=by unfold itemsE; rw [if_pos e0]
      rw [hE] at hu
      simp [e0]
      exact anext (j+1,tj,bj,H) ⟨hc',hu,by simp only [Nat.succ_mul,Nat.add_mul] at hlen ⊢; omega,xB,G,st,hG⟩ (by simp only; omega) (by simp [pickF,wS (show j<9223372036854775807 by omega)]) rfl (by simp)
    have e0':((dirI f (i:Int)).1[j].name == [126])=false:=by simpa using e0
    simp [e0']
    obtain ⟨j',rfl,hp,hltm,hrec⟩:=v.step hmem
    have ihj:=ih j' rfl
    simp only [Nat.add_sub_cancel] at hu hlen
    obtain ⟨m,hm⟩:=Int.eq_ofNat_of_zero_le hp
    have hml:m<f.nodes.length:=by omega
    obtain ⟨on,offn,bb,Gb,rfl,c0,c1,c2,c3,c4,kb,-⟩:=nodeAt (k1.ext (eh.trans xB)) hml
    have hkn:nA_ f (m:Int)=f.nodes[m]:=nodeAtI_get hml
    rw [hm] at d1
    refine drawK true (by kernel_rfl) ?_
    simp [hc',d1,q0,hml,c0,c1,c2,c3,c4]
    refine drawS2 true false 7 [0,1,2,3,4,5,6] [8,9] (by simp; rfl) (by simp; rfl) (by simp; rfl) (by kernel_rfl) ?_
    simp
    refine callK (l1Copy_c ns an Fn wn tn _ ((kn.ext (eh.trans xB)).to (by simp)) (by omega)) ?_
    rintro _ H1 ⟨ac,Fc,rfl,oc⟩
    refine ⟨fun _=>oc.ext,?_⟩
    obtain ⟨ul,hul⟩:=oc.ext.pre
    have dd0:∀ l,cellAt (H++l) oe (offe+j * 2)=some (.string (S (dirI f (i:Int)).1[j].name)):=fun l=>cell_up (Ext.push H l) d0
    have dd1:∀ l,cellAt (H++l) oe (offe+j * 2+1)=some (.int .i64 m):=fun l=>cell_up (Ext.push H l) d1
    have qq0:∀ l,cellAt (H++l) h.length 0=some (.slice (some ⟨on,offn,none⟩) f.nodes.length f.nodes.length):=fun l=>cell_up (Ext.push H l) q0
    have qq1:∀ l,cellAt (H++l) h.length 1=some (.slice a2 f.data.length f.data.length):=fun l=>cell_up (Ext.push H l) q1
    obtain ⟨am,H2,Fm,eqm,om⟩:=oc.append1 (P:=Tryz.prog) (dirI f (i:Int)).1[j].name (cs:=[.string (S (dirI f (i:Int)).1[j].name)]) rfl (st:=29) (xt:=29) (bt:=16) (z:=[.string (S [])]) (by simp) (by simp) (by unfold big; omega) (by unfold big; omega)
    obtain ⟨u2,rfl⟩:=om.ext.pre
    subst hul
    simp at eqm
    simp [hc',dd0,eqm]
    refine drawS true 5 [0,1,2,3,4] [6] (by simp; rfl) (by simp; rfl) (by simp; rfl) (by kernel_rfl) ?_
    simp
    have hlen1:(ns++[(dirI f (i:Int)).1[j].name]).length=ns.length+1:=by simp
    have hsm:sumL List.length (ns++[(dirI f (i:Int)).1[j].name])≤100:=by
      have:=sumL_all List.length 6 (ns++[(dirI f (i:Int)).1[j].name]) (fun x hx=>by
        rcases List.mem_append.1 hx with hx | hx
        · exact hn6 x hx
        · rw [List.mem_singleton.1 hx]; exact hn6e)
      rw [hlen1] at this
      omega
    have hpo:=pathOf_spec_c (ns++[(dirI f (i:Int)).1[j].name]) am Fm true _ (H++⟨true,true,96,[.int .i64 f.nodes[m].kind,.int .i64 f.nodes[m].gen,.int .i64 f.nodes[m].time,.int .i64 f.nodes[m].size,.slice bb f.nodes[m].blocks.length f.nodes[m].blocks.length]⟩ :: u2) (om.sl.to (by simp)) (by rw [hlen1]; omega)
    rw [hlen1] at hpo
    refine callK hpo ?_
    rintro _ _ ⟨⟨t3,rfl⟩,rfl⟩
    refine ⟨fun _=>Ext.push _ _,?_⟩
    simp
    have hEk:itemOf f ns (dirI f (i:Int)).1[j]=⟨pathOf (ns++[(dirI f (i:Int)).1[j].name]),f.nodes[m].kind,if f.nodes[m].kind=2 then [] else contentI f (m:Int),if f.nodes[m].kind=2 then 0 else f.nodes[m].time⟩:=by unfold itemOf; rw [hm,hkn]
    have sm:=om.sl
    have hcap:tj.length+(1+capI j')≤100000000:=by
      simp only [capI] at ht
      have:j * (1+capI j')+(1+capI j')≤80 * (1+capI j'):=by
        rw [← Nat.succ_mul]
        exact Nat.mul_le_mul_right _ (by omega)
      omega
    by_cases hk2:f.nodes[m].kind=2
    · simp [hk2,dd1,qq0,qq1]
      refine drawK true (by kernel_rfl) ?_
      simp [hc',dd1,qq0,qq1]
      have hE:itemsE f (itemsOf f j') ns (dirI f (i:Int)).1[j]=⟨pathOf (ns++[(dirI f (i:Int)).1[j].name]),2,[],0⟩ :: itemsOf f j' (m:Int) (ns++[(dirI f (i:Int)).1[j].name]):=by
        unfold itemsE
        rw [if_neg e0,hEk,hm,hkn,if_pos hk2,hk2]
        rfl
      rw [hE,List.foldl_cons] at hu
      have hp1:=putIt_len tj ⟨pathOf (ns++[(dirI f (i:Int)).1[j].name]),2,[],0⟩
      refine callK (l10Put_c tj ⟨pathOf (ns++[(dirI f (i:Int)).1[j].name]),2,[],0⟩ bj G true _ (st.to (by simp)) (by omega)) ?_
      generalize putIt tj ⟨pathOf (ns++[(dirI f (i:Int)).1[j].name]),2,[],0⟩=tp at hu hp1 ⊢
      rintro _ _ ⟨bp,Gp,rfl,op⟩
      obtain ⟨u4,rfl⟩:=op.ext.pre
      refine ⟨fun _=>Ext.push _ _,?_⟩
      simp
      rw [hm] at hrec
      have hb:=ihj (some ⟨on,offn,none⟩) a2 F1 F2 w tNode _ ((k1.ext (eh.trans xB)).to (h':=H++⟨true,true,96,[.int .i64 2,.int .i64 f.nodes[m].gen,.int .i64 f.nodes[m].time,.int .i64 f.nodes[m].size,.slice bb f.nodes[m].blocks.length f.nodes[m].blocks.length]⟩ :: (u2++(t3++⟨true,true,33,[.string (S (pathOf (ns++[(dirI f (i:Int)).1[j].name]))),.int .i64 2,.string (S []),.int .i64 0]⟩ :: u4))) (by simp)) ((k2.ext (eh.trans xB)).to (by simp)) m hml (by rw [hkn]; exact hk2) (hrec (by rw [hkn]; exact hk2)) (ns++[(dirI f (i:Int)).1[j].name]) am Fm true _ (sm.to (by simp [hk2])) (by rw [hlen1]; omega) (fun x hx=>by
        rcases List.mem_append.1 hx with hx | hx
        · exact hn6 x hx
        · rw [List.mem_singleton.1 hx]; exact hn6e) tp bp Gp (op.sl.to (by simp)) (by omega)
      rw [hlen1] at hb
      refine callK hb ?_
      have hl2:=foldPut_len (itemsOf f j' (m:Int) (ns++[(dirI f (i:Int)).1[j].name])) tp
      have hl3:=itemsOf_len sh j' (m:Int) (ns++[(dirI f (i:Int)).1[j].name])
      rintro _ _ ⟨b',G',rfl,s',g',x'⟩
      obtain ⟨u5,rfl⟩:=x'.pre
      refine ⟨fun _=>Ext.push _ _,?_⟩
      simp
      exact anext (j+1,(itemsOf f j' (m:Int) (ns++[(dirI f (i:Int)).1[j].name])).foldl putIt tp,b',_) ⟨hc',hu,by simp only [Nat.succ_mul,Nat.add_mul] at hlen ⊢; omega,xB.trans (Ext.push H _),G',by simpa using s',fun q hq=>.inr (by have y1:=(eh.trans xB).1; rcases g' q hq with y2 | y2 <;> first | (have y3:=op.new q y2; simp at y3; omega) | (simp at y2; omega))⟩ (by simp only; omega) (by simp [pickF,wS (show j<9223372036854775807 by omega)]) (by simp) (by simp)
    · have hk2':(f.nodes[m].kind == 2)=false:=by simpa using hk2
      simp [hk2']
      refine drawK true (by kernel_rfl) ?_
      simp [hc',dd1,qq0,qq1]
      refine callK (l7Read_c f (some ⟨on,offn,none⟩) a2 F1 F2 w tNode _ ((k1.ext (eh.trans xB)).to (by simp)) ((k2.ext (eh.trans xB)).to (by simp)) hl sh m hml) ?_
      rintro _ _ ⟨⟨t5,rfl⟩,rfl⟩
      refine ⟨fun _=>Ext.push _ _,?_⟩
      simp
      have hE:itemsE f (itemsOf f j') ns (dirI f (i:Int)).1[j]=[⟨pathOf (ns++[(dirI f (i:Int)).1[j].name]),f.nodes[m].kind,contentOf f f.nodes[m].blocks,f.nodes[m].time⟩]:=by
        unfold itemsE
        rw [if_neg e0,hEk,hm,hkn,if_neg hk2,if_neg hk2,if_neg hk2]
        unfold contentI
        rw [hkn]
      rw [hE,List.foldl_cons,List.foldl_nil] at hu
      have hp1:=putIt_len tj ⟨pathOf (ns++[(dirI f (i:Int)).1[j].name]),f.nodes[m].kind,contentOf f f.nodes[m].blocks,f.nodes[m].time⟩
      refine cK (l10Put_c tj ⟨pathOf (ns++[(dirI f (i:Int)).1[j].name]),f.nodes[m].kind,contentOf f f.nodes[m].blocks,f.nodes[m].time⟩ bj G true _ (st.to (by simp)) (by omega)) ?_
      generalize putIt tj ⟨pathOf (ns++[(dirI f (i:Int)).1[j].name]),f.nodes[m].kind,contentOf f f.nodes[m].blocks,f.nodes[m].time⟩=tp at hu hp1 ⊢
      rintro _ _ ⟨bp,Gp,rfl,op⟩
      obtain ⟨u4,rfl⟩:=op.ext.pre
      simp
      exact anext (j+1,tp,bp,_) ⟨hc',hu,by simp only [Nat.succ_mul,Nat.add_mul] at hlen ⊢; omega,xB.trans (Ext.push H _),Gp,by simpa using op.sl,fun q hq=>.inr (by have y1:=(eh.trans xB).1; have y3:=op.new q hq; simp at y3; omega)⟩ (by simp only; omega) (by simp [pickF,wS (show j<9223372036854775807 by omega)]) (by simp) (by simp)
  · obtain rfl:j=(dirI f (i:Int)).1.length:=by omega
    rw [List.drop_length] at hu
    have hu':tj=(itemsL f (itemsOf f (k - 1)) ns (dirI f (i:Int)).1).foldl putIt t:=hu
    rw [← hu']
    exact ⟨_,⟨rfl,rfl⟩,_,st,hG,eh.trans xB⟩
theorem below_all (f:Fs) (hl:f.nl≤1048576) (sh:ShapeOk f):∀ k,BelowC f k
  | 0=>below_step f hl sh 0 (fun j e=>by cases e)
  | k+1=>below_step f hl sh (k+1) (fun j e=>by
    have:j=k:=by omega
    subst this
    exact below_all f hl sh j)
noncomputable def tI_ (f:Fs):List Item:=if fsOk f then (itemsOf f 4 0 []).foldl putIt [] else []
theorem vis_root {f:Fs} (h:fsOk f=true):Vis f 4 0:=by
  unfold fsOk at h
  simp only [Bool.and_eq_true] at h
  cases hv:visit f 4 0 (zeros f) with
  | none=>rw [hv] at h; cases h.2
  | some T=>exact ⟨_,_,hv⟩
theorem two_get (h:Hp) (A B B':Ob) (L:Hp) (q:Nat) (hq:q≠h.length+1):(h++A :: B' :: L)[q]?=(h++A :: B :: L)[q]?:=by
  by_cases hl:q<h.length
  · rw [List.getElem?_append_left hl,List.getElem?_append_left hl]
  · rw [List.getElem?_append_right (by omega),List.getElem?_append_right (by omega)]
    obtain ⟨r,hr⟩:∃ r,q - h.length=r:=⟨_,rfl⟩
    rw [hr]
    match r,hr with
    | 0,_=>rfl
    | 1,hr=>omega
    | r+2,_=>rfl
theorem treeOf_own_c (f:Fs) (a1 a2:Option Addr) (F1 F2:List Nat) (w:Bool) (tNode:TypeId) (h:Hp) (k1:slR w tNode (nodeE w) h f.nodes a1 F1) (k2:slR w 9 strE h f.data a2 F2) (hl:f.nl≤1048576) :
    ACall Tryz.prog 28 [.agg #[.slice a1 f.nodes.length f.nodes.length,.slice a2 f.data.length f.data.length]] h fun r h'=>∃ b G,r=.agg #[.slice b (tI_ f).length (tI_ f).length]∧slR true 33 itemE h' (tI_ f) b G∧(∀ q∈G,h.length≤q)∧Ext h h':=by
  refine acall mixed Tryz.func28 rfl (by kernel_rfl) ?_
  simp [Tryz.f28]
  refine cK (fsOk_spec_c f a1 a2 F1 F2 w tNode _ (k1.to (by simp)) (k2.to (by simp)) hl) ?_
  rintro _ _ ⟨⟨t1,rfl⟩,rfl⟩
  cases e1:fsOk f
  · simp [tI_,e1]
    exact ⟨[],⟨rfl,rfl⟩,by simp,Ext.push _ _⟩
  have sh:=fsOk_shape e1
  obtain ⟨hr1,hr2⟩:=shape_root sh
  have hT:tI_ f=(itemsOf f 4 ((0:Nat):Int) []).foldl putIt []:=by unfold tI_; rw [if_pos e1]; rfl
  rw [hT]
  simp
  have on:=(empty1 strE (h++⟨true,true,56,[.slice a1 f.nodes.length f.nodes.length,.slice a2 f.data.length f.data.length]⟩ :: ⟨true,true,26,[.slice none 0 0]⟩ :: t1:Hp) 9).sl
  have oi:=(empty1 itemE (h++⟨true,true,56,[.slice a1 f.nodes.length f.nodes.length,.slice a2 f.data.length f.data.length]⟩ :: ⟨true,true,26,[.slice none 0 0]⟩ :: (t1++[⟨true,true,9,[]⟩]):Hp) 33).sl
  simp at on oi
  have hb:=below_all f hl sh 4 a1 a2 F1 F2 w tNode (h++⟨true,true,56,[.slice a1 f.nodes.length f.nodes.length,.slice a2 f.data.length f.data.length]⟩ :: ⟨true,true,26,[.slice none 0 0]⟩ :: (t1++[⟨true,true,9,[]⟩,⟨true,true,33,[]⟩])) (k1.to (by simp)) (k2.to (by simp)) 0 (by omega) (by simpa using hr1) (by simpa using vis_root e1) [] _ _ true 9 (on.to (by simp)) (by simp) (by simp) [] _ _ oi (by simp [capI])
  refine cK hb ?_
  rintro _ _ ⟨b,G,rfl,s',g',x'⟩
  obtain ⟨u,rfl⟩:=x'.pre
  have hG:∀ q∈G,q≠h.length+1:=by
    intro q hq e
    subst e
    cases b with
    | none=>obtain ⟨_,rfl⟩:=s'; cases hq
    | some b0 =>
      obtain ⟨o,off,sp⟩:=b0
      obtain ⟨_,ob,css,Fs,pre,post,g1,g2,g3,g4,rfl,g5,g6,g7⟩:=s'
      rw [flat_nil g5.flat.2] at hq
      simp at hq
      subst hq
      simp at g1
      subst g1
      simp at g4
  simp at s'
  simp
  exact ⟨G,s'.frame fun q hq=>two_get _ _ _ _ _ _ (hG q hq),fun q hq=>by rcases g' q hq with y2 | y2 <;> simp at y2 <;> omega,Ext.push _ _⟩
def insP (x:Item):List Item→List Item
  | []=>[x]
  | y :: t=>if Op.bytesLess x.path y.path then x :: y :: t else y :: insP x t
theorem putUp_done (x:Item):∀ (t o:List Item),(∀ y∈t,y.path≠x.path)→putUp x t (o,true)=(o++t,true)
  | [],o,_=>by simp [putUp]
  | y :: t,o,h=>by
    have hy:=h y (by simp)
    have e:putB (putA (o,true) x y) x y=(o++[y],true):=by simp [putA,putB,hy]
    rw [putUp,e,putUp_done x t (o++[y]) (fun z hz=>h z (by simp [hz]))]
    simp
theorem putUp_ins (x:Item):∀ (t o:List Item),(∀ y∈t,y.path≠x.path)→(if (putUp x t (o,false)).2 then (putUp x t (o,false)).1 else (putUp x t (o,false)).1++[x])=o++insP x t
  | [],o,_=>by simp [putUp,insP]
  | y :: t,o,h=>by
    have hy:=h y (by simp)
    have ht:∀ z∈t,z.path≠x.path:=fun z hz=>h z (by simp [hz])
    cases hl:Op.bytesLess x.path y.path
    · have e:putB (putA (o,false) x y) x y=(o++[y],false):=by simp [putA,putB,hy,hl]
      rw [putUp,e,putUp_ins x t (o++[y]) ht]
      simp [insP,hl]
    · have e:putB (putA (o,false) x y) x y=(o++[x]++[y],true):=by simp [putA,putB,hy,hl]
      rw [putUp,e,putUp_done x t (o++[x]++[y]) ht]
      simp [insP,hl]
theorem putIt_ins {t:List Item} {x:Item} (h:∀ y∈t,y.path≠x.path):putIt t x=insP x t:=by
  have:=putUp_ins x t [] h
  simpa [putIt] using this
theorem insP_perm (x:Item):∀ t:List Item,(insP x t).Perm (x :: t)
  | []=>List.Perm.refl _
  | y :: t=>by
    unfold insP
    split
    · exact List.Perm.refl _
    · exact ((insP_perm x t).cons y).trans (List.Perm.swap x y t)
def SortedP (t:List Item):Prop:=t.Pairwise fun a b=>Op.bytesLess a.path b.path=true
theorem insP_sorted (x:Item):∀ {t:List Item},SortedP t→(∀ y∈t,y.path≠x.path)→SortedP (insP x t)
  | [],_,_=>by simp [insP,SortedP]
  | y :: t,hs,h=>by
    obtain ⟨h1,h2⟩:=List.pairwise_cons.1 hs
    have hy:=h y (by simp)
    unfold insP
    cases hl:Op.bytesLess x.path y.path
    · have ht:=less_total x.path y.path
      rw [hl] at ht
      have hyx:Op.bytesLess y.path x.path=true:=by
        cases hb:Op.bytesLess y.path x.path
        · rw [hb] at ht
          simp at ht
          exact absurd ht hy
        · rfl
      simp
      refine List.pairwise_cons.2 ⟨fun z hz=>?_,insP_sorted x h2 fun z hz=>h z (by simp [hz])⟩
      rcases List.mem_cons.1 ((insP_perm x t).mem_iff.1 hz) with rfl | hz
      · exact hyx
      · exact h1 z hz
    · simp
      refine List.pairwise_cons.2 ⟨fun z hz=>?_,hs⟩
      rcases List.mem_cons.1 hz with rfl | hz
      · exact hl
      · exact less_trans _ _ _ hl (h1 z hz)
theorem foldPut_sorted:∀ (xs t:List Item),SortedP t→(t++xs).Pairwise (fun a b=>a.path≠b.path)→SortedP (xs.foldl putIt t)∧(xs.foldl putIt t).Perm (t++xs)
  | [],t,hs,_=>⟨hs,by simp⟩
  | x :: xs,t,hs,hd=>by
    obtain ⟨d1,d2,d3⟩:=List.pairwise_append.1 hd
    have hx:∀ y∈t,y.path≠x.path:=fun y hy=>d3 y hy x (by simp)
    have e:=putIt_ins hx
    have hp:(insP x t++xs).Perm (t++x :: xs):=((insP_perm x t).append_right xs).trans (by
      rw [List.cons_append]; exact (List.perm_middle (a:=x) (l₁:=t) (l₂:=xs)).symm)
    have hd':(insP x t++xs).Pairwise (fun a b=>a.path≠b.path):=(hp.pairwise_iff (fun h=>Ne.symm h)).2 hd
    obtain ⟨r1,r2⟩:=foldPut_sorted xs (insP x t) (insP_sorted x hs hx) hd'
    rw [List.foldl_cons,e]
    exact ⟨r1,r2.trans hp⟩
theorem pathOf_inj {l m:List Str} (h1:l.length≤4) (h2:m.length≤4) (a1:l.all nameOk=true) (a2:m.all nameOk=true) (h:pathOf l=pathOf m):l=m:=by
  rw [← (pathOf_names h1 a1).2,h,(pathOf_names h2 a2).2]
theorem nameH_ok {s:Str} (h:nameH s=true) (hn:s≠[126]):nameOk s=true:=by
  simp only [nameH,Bool.or_eq_true,beq_iff_eq] at h
  exact h.resolve_left hn
theorem itemsOf_path {f:Fs}:∀ (k:Nat) (i:Int) (ns:List Str),Vis f k i→ns.length+k≤4→ns.all nameOk=true→∀ x∈itemsOf f k i ns,∃ ms:List Str,x.path=pathOf (ns++ms)∧1≤ms.length∧ms.length≤k∧ms.all nameOk=true∧∃ e∈(dirI f i).1,ms.head?=some e.name
  | 0,i,ns,_,_,_,x,hx=>by simp [itemsOf] at hx
  | k+1,i,ns,v,hl,ha,x,hx=>by
    simp only [itemsOf,itemsL,List.mem_flatten,List.mem_map] at hx
    obtain ⟨l,⟨e,he,rfl⟩,hx⟩:=hx
    obtain ⟨j,hj,hp,hlt,hrec⟩:=v.step he
    have hj':j=k:=by omega
    subst hj'
    unfold itemsE at hx
    split at hx
    · cases hx
    rename_i hne
    have hok:=nameH_ok ((ok_all (dirI_two v.read).1 e he).1) hne
    rcases List.mem_cons.1 hx with rfl | hx
    · exact ⟨[e.name],rfl,by simp,by simp,by simp [hok],e,he,rfl⟩
    · split at hx
      · rename_i hk2
        obtain ⟨ms,p1,p2,p3,p4,_⟩:=itemsOf_path j e.node (ns++[e.name]) (hrec hk2) (by simp; omega) (by simp [hok]; simpa using ha) x hx
        exact ⟨e.name :: ms,by rw [p1]; simp,by simp,by simp; omega,by simp [hok]; simpa using p4,e,he,rfl⟩
      · cases hx
theorem itemsE_path {f:Fs} {k:Nat} {ns:List Str} {e:Ent} (hok:nameH e.name=true) (hv:(nA_ f e.node).kind=2→Vis f k e.node) (hl:ns.length+(k+1)≤4) (ha:ns.all nameOk=true) {x:Item} (hx:x∈itemsE f (itemsOf f k) ns e):∃ ms:List Str,x.path=pathOf (ns++e.name :: ms)∧ms.length≤k∧(e.name :: ms).all nameOk=true:=by
  unfold itemsE at hx
  split at hx
  · cases hx
  rename_i hne
  have hk:=nameH_ok hok hne
  rcases List.mem_cons.1 hx with rfl | hx
  · exact ⟨[],rfl,by simp,by simp [hk]⟩
  · split at hx
    · rename_i hk2
      obtain ⟨ms,p1,p2,p3,p4,_⟩:=itemsOf_path k e.node (ns++[e.name]) (hv hk2) (by simp; omega) (by simp [hk]; simpa using ha) x hx
      exact ⟨ms,by rw [p1]; simp,p3,by simp [hk]; simpa using p4⟩
    · cases hx
theorem itemsOf_distinct {f:Fs}:∀ (k:Nat) (i:Int) (ns:List Str),Vis f k i→ns.length+k≤4→ns.all nameOk=true→(itemsOf f k i ns).Pairwise fun a b=>a.path≠b.path
  | 0,i,ns,_,_,_=>by simp [itemsOf]
  | k+1,i,ns,v,hl,ha=>by
    have hes:=(dirI_two v.read).1
    have hall:=ok_all hes
    have hstep:∀ e∈(dirI f i).1,(nA_ f e.node).kind=2→Vis f k e.node:=fun e he hk=>by
      obtain ⟨j,hj,_,_,hrec⟩:=v.step he
      have:j=k:=by omega
      subst this
      exact hrec hk
    simp only [itemsOf,itemsL]
    rw [List.pairwise_flatten]
    constructor
    · intro l hlm
      obtain ⟨e,he,rfl⟩:=List.mem_map.1 hlm
      unfold itemsE
      split
      · exact List.Pairwise.nil
      rename_i hne
      have hk:=nameH_ok (hall e he).1 hne
      have ha':(ns++[e.name]).all nameOk=true:=by simp [hk]; simpa using ha
      split
      · rename_i hk2
        refine List.pairwise_cons.2 ⟨fun y hy=>?_,itemsOf_distinct k e.node (ns++[e.name]) (hstep e he hk2) (by simp; omega) ha'⟩
        obtain ⟨ms,p1,p2,p3,p4,_⟩:=itemsOf_path k e.node (ns++[e.name]) (hstep e he hk2) (by simp; omega) ha' y hy
        rw [p1]
        intro h
        have:=pathOf_inj (by simp; omega) (by simp; omega) ha' (by rw [List.all_append,ha',p4]; rfl) h
        have h2:=congrArg List.length this
        simp only [List.length_append,List.length_cons,List.length_nil] at h2
        omega
      · exact List.pairwise_singleton _ _
    · rw [List.pairwise_map]
      refine List.Pairwise.imp_of_mem ?_ (adj_less (entriesOk_adj hes))
      intro e1 e2 h1 h2 hlt x hx y hy h
      obtain ⟨ms1,p1,q1,r1⟩:=itemsE_path (hall e1 h1).1 (hstep e1 h1) hl ha hx
      obtain ⟨ms2,p2,q2,r2⟩:=itemsE_path (hall e2 h2).1 (hstep e2 h2) hl ha hy
      rw [p1,p2] at h
      have:=pathOf_inj (by simp; omega) (by simp; omega) (by rw [List.all_append,ha,r1]; rfl) (by rw [List.all_append,ha,r2]; rfl) h
      have h3:=List.append_cancel_left this
      injection h3 with h3 _
      rw [h3,less_irr] at hlt
      cases hlt
end Go.Proofs.YtmpgpkdijfcfhaaGreatDoor.Hz
