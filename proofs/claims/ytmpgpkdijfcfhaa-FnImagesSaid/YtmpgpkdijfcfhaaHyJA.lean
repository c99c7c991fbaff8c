/- Texts of the calculus and of the program's functions, merged: NO NP NQ NR NS NU. -/
import Derived.Test.YtmpgpkdijfcfhaaHyNX
import Derived.Test.YtmpgpkdijfcfhaaHyGE
import Derived.Test.YtmpgpkdijfcfhaaHyGC
import Derived.Test.YtmpgpkdijfcfhaaHyGQ
import Derived.Test.YtmpgpkdijfcfhaaHyGV
import Derived.Test.YtmpgpkdijfcfhaaHyRT
namespace Go.Proofs.Ytmpgpkdijfcfhaa.Hz
open Go.RowKit
set_option linter.unusedVariables false
set_option linter.unusedSimpArgs false
set_option maxRecDepth 20000
def numF (b:Str):Nat→Nat→List Int→Option (List Int)
  | 0,_,_=>none
  | fuel+1,at_,acc=>if at_<b.length then (match getNum b at_ with | none=>none | some (n,e)=>numF b fuel e (acc++[(n:Int)])) else some acc
def numbersOf (b:Str):Option (List Int):=numF b (b.length+1) 1 []
theorem numF_fuel (b:Str):∀ (k k' at_:Nat) (acc:List Int),at_≤b.length→b.length<at_+k→b.length<at_+k'→numF b k at_ acc=numF b k' at_ acc
  | 0,_,_,_,ha,h,_=>by omega
  | _+1,0,_,_,ha,_,h=>by omega
  | k+1,k'+1,at_,acc,ha,h,h'=>by
    unfold numF
    split
    · split
      · rfl
      · rename_i n e hg
        have:=getNum_bound hg
        exact numF_fuel b k k' e _ this.2.2 (by omega) (by omega)
    · rfl
def mkN (s:Str) (l:List Int):Node:=⟨((s.headD 0).toNat:Int),l[0]?.getD 0,l[1]?.getD 0,l[2]?.getD 0,l.drop 3⟩
def mkI (s:Str) (l:List Int):Node:=if 3≤l.length then mkN s l else ⟨((s.headD 0).toNat:Int),0,0,0,[]⟩
def node0:Node:=⟨0,0,0,0,[]⟩
noncomputable def nodeI (s:Str):Node × Bool:=if s=[] then (node0,false) else match numbersOf s with | none=>(node0,false) | some l=>if nodeText (mkI s l)=s then (mkI s l,true) else (node0,false)
def NodeRes (n:Node) (h h':Hp) (v:Value):Prop:=∃ b G,v=.agg #[.int .i64 n.kind,.int .i64 n.gen,.int .i64 n.time,.int .i64 n.size,.slice b n.blocks.length n.blocks.length]∧Own h 3 intE h' n.blocks b G
theorem NodeRes.zero {h h':Hp} (x:Ext h h'):NodeRes node0 h h' (.agg #[.int .i64 0,.int .i64 0,.int .i64 0,.int .i64 0,.slice none 0 0]):=⟨none,[],rfl,Own.nil x⟩
structure NumI (s:Str) (h0 H:Hp) (bo at_:Nat) (acc:List Int) (a:Option Addr):Prop where
  ge:1≤at_
  le:at_≤s.length
  eq:numF s (s.length+1) at_ acc=numbersOf s
  ln:acc.length≤at_
  by_:slR true 5 byteE H s (some ⟨bo,0,none⟩) [bo]
  ow:∃ F,Own h0 3 intE H acc a F∧bo ∉ F
theorem NumI.more {s:Str} {h0 H:Hp} {bo at_:Nat} {acc:List Int} {a:Option Addr} (k:NumI s h0 H bo at_ acc a) (t:Hp):NumI s h0 (H++t) bo at_ acc a:=by
  obtain ⟨F,o,hb⟩:=k.ow
  exact ⟨k.ge,k.le,k.eq,k.ln,k.by_.to ⟨_,rfl⟩,F,o.grow (Ext.push _ _),hb⟩
theorem NumI.step {s:Str} {h0 H:Hp} {bo at_:Nat} {acc:List Int} {a:Option Addr} (k:NumI s h0 H bo at_ acc a) (hs:s.length≤1048576) {n e:Nat} (hlt:at_<s.length) (hg:getNum s at_=some (n,e)) :
    ∃ a' H',aappend Try.prog (H++[⟨true,true,3,[.int .i64 n]⟩]) 47 47 (.slice a acc.length acc.length) (.slice (some ⟨H.length,0,none⟩) 1 1)=some (.slice a' (acc.length+1) (acc.length+1),H')∧NumI s h0 H' bo e (acc++[(n:Int)]) a':=by
  obtain ⟨F,o,hb⟩:=k.ow
  have hbd:=getNum_bound hg
  have hl:=k.ln
  obtain ⟨a',H',F',e1,o',keep,sub⟩:=o.append1K (P:=Try.prog) (n:Int) (cs:=[.int .i64 n]) rfl (st:=47) (xt:=47) (bt:=8) (z:=[.int .i64 0]) (by simp) (by simp) (by unfold big; omega) (by unfold big; omega)
  have hbl:=k.by_.lt bo (by simp)
  refine ⟨a',H',e1,by omega,by omega,?_,by simp; omega,k.by_.frame fun q hq=>?_,F',o',fun hm=>?_⟩
  · rw [← k.eq]
    conv=>rhs; unfold numF
    rw [if_pos hlt,hg]
    exact numF_fuel s _ _ _ _ hbd.2.2 (by omega) (by omega)
  · have:q=bo:=by simpa using hq
    subst this
    exact keep q hbl hb
  · rcases sub bo hm with h1 | h1
    · exact hb h1
    · omega
theorem NumI.start (s:Str) (h0:Hp) (hs:1≤s.length):NumI s h0 (h0++[⟨true,true,3,[]⟩,⟨true,true,5,bytesL (S s)⟩]) (h0.length+1) 1 [] (some ⟨h0.length,0,none⟩) where
  ge:=Nat.le_refl _
  le:=hs
  eq:=rfl
  ln:=by simp
  by_:=by
    have:=bytesR (h0++[⟨true,true,3,[]⟩]) 5 s
    simpa using this
  ow:=by
    have:=(empty1 intE h0 3).grow (Ext.push _ [⟨true,true,5,bytesL (S s)⟩])
    simp only [List.append_assoc,List.cons_append,List.nil_append] at this
    exact ⟨_,this,by simp⟩
theorem int_flat {H:Hp} {w:Bool} {xs:List Int} {o off:Nat} {F:List Nat} (k:slR w 3 intE H xs (some ⟨o,off,none⟩) F):F=[o]:=by
  obtain ⟨_,ob,css,Fs,pre,post,g1,g2,g3,g4,rfl,g5,g6,g7⟩:=k
  rw [flat_nil g5.flat.2]
theorem node_out {h X:Hp} {n:Node} {b:Option Addr} {G:List Nat} {k0 k1 k2 k3 k4:Value} (xe:Ext h X) (bx:X[h.length]?=some ⟨true,true,49,[k0,k1,k2,k3,k4]⟩) (o:Own h 3 intE X n.blocks b G) (hG:h.length ∉ G) :
    cS_ X h.length 0 5=true∧(∀ j,cellAt (sA_ X h.length 0 [.int .i64 n.kind,.int .i64 n.gen,.int .i64 n.time,.int .i64 n.size,.slice b n.blocks.length n.blocks.length]) h.length j=([Value.int .i64 n.kind,.int .i64 n.gen,.int .i64 n.time,.int .i64 n.size,.slice b n.blocks.length n.blocks.length])[j]?) ∧
      NodeRes n h (sA_ X h.length 0 [.int .i64 n.kind,.int .i64 n.gen,.int .i64 n.time,.int .i64 n.size,.slice b n.blocks.length n.blocks.length]) (.agg #[.int .i64 n.kind,.int .i64 n.gen,.int .i64 n.time,.int .i64 n.size,.slice b n.blocks.length n.blocks.length]):=by
  have hne:∀ q,q≠h.length→(sA_ X h.length 0 [.int .i64 n.kind,.int .i64 n.gen,.int .i64 n.time,.int .i64 n.size,.slice b n.blocks.length n.blocks.length])[q]?=X[q]?:=fun q hq=>by rw [sAg,if_neg (fun e=>hq e.symm)]
  have hself:(sA_ X h.length 0 [.int .i64 n.kind,.int .i64 n.gen,.int .i64 n.time,.int .i64 n.size,.slice b n.blocks.length n.blocks.length])[h.length]?=some ⟨true,true,49,[.int .i64 n.kind,.int .i64 n.gen,.int .i64 n.time,.int .i64 n.size,.slice b n.blocks.length n.blocks.length]⟩:=by rw [sAg,if_pos rfl,bx]; rfl
  refine ⟨by simp [cS_,bx],fun j=>by simp [cellAt,hself],b,G,rfl,⟨by rw [sAl]; exact xe.1,fun q hq=>by rw [hne q (by omega)]; exact xe.2 q hq⟩,o.sl.frame fun q hq=>hne q (fun e=>hG (e ▸ hq)),o.nd,o.new⟩
set_option maxHeartbeats 4000000 in
theorem nodeOf_impl_c (s:Str) (h:Hp) (hs:s.length≤1048576) :
    ACall Try.prog 30 [.string (S s)] h fun r h'=>∃ v,r=.tuple #[v,.bool (nodeI s).2]∧NodeRes (nodeI s).1 h h' v:=by
  refine acall mixed Try.func30 rfl (by kernel_rfl) ?_
  simp [Try.f30]
  refine aSI (fun hs0=>?_) (fun hs0=>?_) <;> simp at hs0 <;> simp [hs0]
  · simp [nodeI]
    exact NodeRes.zero (Ext.push _ _)
  have hs1:1≤s.length:=by
    cases s with
    | nil=>exact absurd rfl hs0
    | cons x xs=>simp
  obtain ⟨h0,hh0⟩:∃ h0:Hp,h0=h++[⟨true,true,49,[.int .i64 0,.int .i64 0,.int .i64 0,.int .i64 0,.slice none 0 0]⟩]:=⟨_,rfl⟩
  have l0:h0.length=h.length+1:=by rw [hh0]; simp
  have x0:Ext h h0:=by rw [hh0]; exact Ext.push _ _
  have q0:h0[h.length]?=some ⟨true,true,49,[.int .i64 0,.int .i64 0,.int .i64 0,.int .i64 0,.slice none 0 0]⟩:=by rw [hh0]; simp
  have start:=NumI.start s h0 hs1
  rw [l0] at start
  have eH:(h++[⟨true,true,49,[.int .i64 0,.int .i64 0,.int .i64 0,.int .i64 0,.slice none 0 0]⟩,⟨true,true,3,[]⟩,⟨true,true,5,bytesL (S s)⟩]:Hp)=h0++[⟨true,true,3,[]⟩,⟨true,true,5,bytesL (S s)⟩]:=by rw [hh0]; simp
  rw [eH]
  refine aloop mixed [0,2,4,5,6] (fun (y:Nat × List Int × Option Addr × Hp)=>[.string (S s),.pointer (some ⟨h.length,0,none⟩),.slice y.2.2.1 y.2.1.length y.2.1.length,.slice (some ⟨h.length+2,0,none⟩) s.length s.length,.int .i64 y.1]) (fun y=>y.2.2.2) (fun y=>NumI s h0 y.2.2.2 (h.length+2) y.1 y.2.1 y.2.2.1) (fun y=>s.length - y.1) (1,[],some ⟨h.length+1,0,none⟩,_) start (by simp [pickF]) rfl ?_
  clear start eH
  rintro ⟨at_,acc,a,H⟩ inv
  simp only at inv
  simp [mkF]
  refine aSI (fun hb=>?_) (fun hb=>?_) <;> simp at hb <;> simp [hb]
  · refine cK (getNum_impl_c s at_ _ _ true _ H inv.by_ hs (by omega)) ?_
    rintro _ _ ⟨⟨t1,rfl⟩,rfl⟩
    have inv1:=inv.more t1
    cases hg:getNum s at_ with
    | none =>
      have hno:numbersOf s=none:=by
        rw [← inv.eq]
        unfold numF
        rw [if_pos hb,hg]
      obtain ⟨F,o,-⟩:=inv1.ow
      have qH:(H++t1)[h.length]?=some ⟨true,true,49,[.int .i64 0,.int .i64 0,.int .i64 0,.int .i64 0,.slice none 0 0]⟩:=by rw [o.ext.2 _ (by omega)]; exact q0
      have hI:nodeI s=(node0,false):=by unfold nodeI; rw [if_neg hs0,hno]
      obtain ⟨z1,z2,z3⟩:=node_out (n:=node0) (x0.trans o.ext) qH (Own.nil (x0.trans o.ext)) (by simp)
      simp [node0] at z1 z2 z3
      simp [gnV,z1,z2,hI]
      simpa [node0] using z3
    | some ne =>
      obtain ⟨n,e⟩:=ne
      obtain ⟨a',H',eq,inv'⟩:=inv1.step hs hb hg
      simp [gnV]
      simp at eq
      simp [eq]
      have:=getNum_bound hg
      exact anext (e,acc++[(n:Int)],a',H') inv' (by simp only; omega) (by simp [pickF]) rfl (by simp)
  · obtain rfl:at_=s.length:=by have:=inv.le; omega
    have hno:numbersOf s=some acc:=by
      rw [← inv.eq]
      unfold numF
      rw [if_neg (by omega)]
    have hI:nodeI s=if nodeText (mkI s acc)=s then (mkI s acc,true) else (node0,false):=by unfold nodeI; rw [if_neg hs0,hno]
    obtain ⟨ob,offb,eb,cb⟩:=byteAt inv.by_ hs1
    simp at eb
    obtain ⟨rfl,rfl⟩:=eb
    simp at cb
    have hh0':s.headD 0=s[0]:=by
      cases s with
      | nil=>exact absurd rfl hs0
      | cons x xs=>rfl
    obtain ⟨K,hK⟩:∃ K:Int,K=(s[0].toNat:Int):=⟨_,rfl⟩
    have hKb:0≤K∧K≤255:=by
      have:=s[0].toNat_lt
      omega
    have wK:IntKind.i64.wrap K=K:=wrap_in (by omega) (by omega)
    rw [← hK] at cb
    simp [hs1,cb,wK]
    obtain ⟨F,o,hbF⟩:=inv.ow
    have hln:=inv.ln
    refine ⟨by omega,?_⟩
    refine aSI (fun hl3=>?_) (fun hl3=>?_) <;> simp at hl3 <;> simp [hl3]
    · have hl3':3≤acc.length:=by omega
      obtain ⟨oa,offa,rfl,c0⟩:=intEAt o.sl (show 0<acc.length by omega)
      obtain ⟨oa1,offa1,e1,c1⟩:=intEAt o.sl (show 1<acc.length by omega)
      obtain ⟨oa2,offa2,e2,c2⟩:=intEAt o.sl (show 2<acc.length by omega)
      simp only [Option.some.injEq,Addr.mk.injEq,and_true] at e1 e2
      obtain ⟨rfl,rfl⟩:=e1
      obtain ⟨rfl,rfl⟩:=e2
      have C0:=fun l=>cell_up (Ext.push H l) c0
      have C1:=fun l=>cell_up (Ext.push H l) c1
      have C2:=fun l=>cell_up (Ext.push H l) c2
      simp only [Nat.add_zero] at C0
      refine drawE false [0,1,2,9] [3,4,5,6,7,8,10,11,12] [[6,7,8,10,3,4,5,11,12],[3,4,5,10,6,7,8,11,12],[10,3,4,5,6,7,8,11,12],[3,4,5,10,11,12,6,7,8],[10,3,4,5,11,12,6,7,8]] [13,14] (by simp; rfl) (by simp; rfl) (by simp; rfl) (by simp; rfl) (by kernel_rfl) rfl ?_
      have g0:(0:Nat)<acc.length:=by omega
      have g1:(1:Nat)<acc.length:=by omega
      have g2:(2:Nat)<acc.length:=by omega
      simp [g0,g1,g2,C0,C1,C2]
      have hel:elAt (H++[⟨true,true,49,[.int .i64 K,.int .i64 acc[0],.int .i64 acc[1],.int .i64 acc[2],.slice none 0 0]⟩]) oa=some 3:=(o.sl.ext (Ext.push H _)).el
      refine ⟨by omega,by omega,?_⟩
      have h33:(3:Int)≤acc.length:=by omega
      simp [asl2_i,hel,hl3',h33]
      have hmk:mkI s acc=⟨K,acc[0],acc[1],acc[2],acc.drop 3⟩:=by
        unfold mkI mkN
        rw [if_pos hl3',hh0',← hK]
        simp [g0,g1,g2]
      rw [hmk] at hI
      refine ⟨⟨⟨by omega,by omega⟩,by omega,by omega⟩,?_⟩
      obtain ⟨hx2,hhx2⟩:∃ hx2:Ob,hx2=⟨true,true,49,[.int .i64 K,.int .i64 acc[0],.int .i64 acc[1],.int .i64 acc[2],.slice (some ⟨oa,offa+3,none⟩) (acc.length - 3) (acc.length - 3)]⟩:=⟨_,rfl⟩
      rw [← hhx2]
      obtain ⟨Fp,sp,-⟩:=o.sl.part 3 acc.length hl3' (Nat.le_refl _)
      rw [List.take_length] at sp
      have sp2:slR true 3 intE H (acc.drop 3) (some ⟨oa,offa+3,none⟩) Fp:=sp
      have hFo:F=[oa]:=int_flat o.sl
      have hFp:Fp=[oa]:=int_flat sp2
      have hlh:Node.lim ⟨K,acc[0],acc[1],acc[2],acc.drop 3⟩:=by show (acc.drop 3).length≤1048576; simp; omega
      have hnt:=nodeText_impl_c ⟨K,acc[0],acc[1],acc[2],acc.drop 3⟩ (some ⟨oa,offa+3,none⟩) Fp true (H++[hx2]) (sp2.to ⟨_,rfl⟩) hlh
      simp only [List.length_drop] at hnt
      refine cK hnt ?_
      rintro _ _ ⟨⟨t2,rfl⟩,rfl⟩
      have xX:Ext h (H++[hx2]++t2):=((x0.trans o.ext).trans (Ext.push _ _)).trans (Ext.push _ _)
      have qX:(H++[hx2]++t2)[h.length]?=some ⟨true,true,49,[.int .i64 0,.int .i64 0,.int .i64 0,.int .i64 0,.slice none 0 0]⟩:=by rw [((o.ext.trans (Ext.push H [hx2])).trans (Ext.push _ t2)).2 _ (by omega)]; exact q0
      have oX:Own h 3 intE (H++[hx2]++t2) (acc.drop 3) (some ⟨oa,offa+3,none⟩) Fp:=⟨xX,(sp2.to ⟨[hx2]++t2,by simp⟩),by rw [hFp]; simp,fun q hq=>by
        rw [hFp,← hFo] at hq
        have:=o.new q hq
        omega⟩
      have hGX:h.length ∉ Fp:=fun hm=>by
        rw [hFp,← hFo] at hm
        have:=o.new _ hm
        omega
      simp only [List.append_assoc,List.cons_append,List.nil_append] at xX qX oX
      simp
      refine aSI (fun hq=>?_) (fun hq=>?_) <;> have hq':=hq <;> simp at hq <;> simp [hq']
      · rw [if_pos hq] at hI
        obtain ⟨z1,z2,z3⟩:=node_out (n:=⟨K,acc[0],acc[1],acc[2],acc.drop 3⟩) xX qX oX hGX
        have hv:hx2.live=true:=by rw [hhx2]
        have hcs:hx2.cells=[.int .i64 K,.int .i64 acc[0],.int .i64 acc[1],.int .i64 acc[2],.slice (some ⟨oa,offa+3,none⟩) (acc.length - 3) (acc.length - 3)]:=by rw [hhx2]
        simp at z1 z2 z3
        simp [hv,hcs,z1,z2,hI]
        exact z3
      · rw [if_neg hq] at hI
        obtain ⟨z1,z2,z3⟩:=node_out (n:=node0) xX qX (Own.nil xX) (by simp)
        simp [node0] at z1 z2 z3
        simp [z1,z2,hI]
        simpa [node0] using z3
    · have hmk:mkI s acc=⟨K,0,0,0,[]⟩:=by
        unfold mkI
        rw [if_neg (by omega),hh0',← hK]
      rw [hmk] at hI
      have hnt:=nodeText_impl_c ⟨K,0,0,0,[]⟩ none [] true (H++[⟨true,true,49,[.int .i64 K,.int .i64 0,.int .i64 0,.int .i64 0,.slice none 0 0]⟩]) ⟨rfl,rfl⟩ (by show (0:Nat)≤1048576; omega)
      refine cK hnt ?_
      rintro _ _ ⟨⟨t2,rfl⟩,rfl⟩
      have xX:Ext h (H++⟨true,true,49,[.int .i64 K,.int .i64 0,.int .i64 0,.int .i64 0,.slice none 0 0]⟩ :: t2):=(x0.trans o.ext).trans (Ext.push _ _)
      have qX:(H++⟨true,true,49,[.int .i64 K,.int .i64 0,.int .i64 0,.int .i64 0,.slice none 0 0]⟩ :: t2)[h.length]?=some ⟨true,true,49,[.int .i64 0,.int .i64 0,.int .i64 0,.int .i64 0,.slice none 0 0]⟩:=by rw [(o.ext.trans (Ext.push H _)).2 _ (by omega)]; exact q0
      simp
      refine aSI (fun hq=>?_) (fun hq=>?_) <;> have hq':=hq <;> simp at hq <;> simp [hq']
      · rw [if_pos hq] at hI
        obtain ⟨z1,z2,z3⟩:=node_out (n:=⟨K,0,0,0,[]⟩) xX qX (Own.nil xX) (by simp)
        simp at z1 z2 z3
        simp [z1,z2,hI]
        exact z3
      · rw [if_neg hq] at hI
        obtain ⟨z1,z2,z3⟩:=node_out (n:=node0) xX qX (Own.nil xX) (by simp)
        simp [node0] at z1 z2 z3
        simp [z1,z2,hI]
        simpa [node0] using z3
noncomputable def nodeS (s:Str):Node × Bool:=if s=[] then (node0,false) else if (s.headD 0).toNat=0 then (node0,decide (s.length=1)) else match numbersOf s with | none=>(node0,false) | some l=>if 3≤l.length∧nodeOk (mkN s l)=true then (mkN s l,true) else (node0,false)
theorem NumI.start2 (s:Str) (h0:Hp) (bo:Nat) (hs:1≤s.length) (hb:slR true 5 byteE h0 s (some ⟨bo,0,none⟩) [bo]):NumI s h0 (h0++[⟨true,true,3,[]⟩]) bo 1 [] (some ⟨h0.length,0,none⟩) where
  ge:=Nat.le_refl _
  le:=hs
  eq:=rfl
  ln:=by simp
  by_:=hb.to ⟨_,rfl⟩
  ow:=⟨_,empty1 intE h0 3,by have:=hb.lt bo (by simp); simp; omega⟩
set_option maxHeartbeats 4000000 in
theorem nodeOf_spec_c (s:Str) (h:Hp) (hs:s.length≤1048576) :
    ACall Try.prog 25 [.string (S s)] h fun r h'=>∃ v,r=.tuple #[v,.bool (nodeS s).2]∧NodeRes (nodeS s).1 h h' v:=by
  refine acall mixed Try.func25 rfl (by kernel_rfl) ?_
  simp [Try.f25]
  refine aSI (fun hs0=>?_) (fun hs0=>?_) <;> simp at hs0 <;> simp [hs0]
  · have hse:s=[]:=by simpa using hs0
    subst hse
    simp [nodeS]
    exact NodeRes.zero (Ext.push _ _)
  have hne:s≠[]:=by simpa using hs0
  have hs1:1≤s.length:=List.length_pos_iff.2 hne
  have hh0':s.headD 0=s[0]:=by
    cases s with
    | nil=>exact absurd rfl hne
    | cons x xs=>rfl
  have hby:=bytesR (h++[⟨true,true,49,[.int .i64 0,.int .i64 0,.int .i64 0,.int .i64 0,.slice none 0 0]⟩]) 5 s
  obtain ⟨ob,offb,eb,cb⟩:=byteAt hby hs1
  simp at eb
  obtain ⟨rfl,rfl⟩:=eb
  simp at cb
  obtain ⟨K,hK⟩:∃ K:Int,K=(s[0].toNat:Int):=⟨_,rfl⟩
  have hKb:0≤K∧K≤255:=by
    have:=s[0].toNat_lt
    omega
  have wK:IntKind.i64.wrap K=K:=wrap_in (by omega) (by omega)
  rw [← hK] at cb
  simp [cb,wK]
  refine ⟨by omega,?_⟩
  refine aSI (fun hk0=>?_) (fun hk0=>?_) <;> simp at hk0 <;> simp [hk0]
  · have hI:nodeS s=(node0,decide (s.length=1)):=by
      unfold nodeS
      rw [if_neg hne,hh0',if_pos (by omega)]
    rw [hI]
    refine ⟨_,⟨rfl,?_⟩,NodeRes.zero (Ext.push _ _)⟩
    rw [Bool.eq_iff_iff]
    simp
    omega
  · have hK0:¬ s[0].toNat=0:=by omega
    obtain ⟨h0,hh0⟩:∃ h0:Hp,h0=h++[⟨true,true,49,[.int .i64 0,.int .i64 0,.int .i64 0,.int .i64 0,.slice none 0 0]⟩,⟨true,true,5,bytesL (S s)⟩,⟨true,true,49,[.int .i64 K,.int .i64 0,.int .i64 0,.int .i64 0,.slice none 0 0]⟩]:=⟨_,rfl⟩
    have l0:h0.length=h.length+3:=by rw [hh0]; simp
    have x0:Ext h h0:=by rw [hh0]; exact Ext.push _ _
    have q0:h0[h.length]?=some ⟨true,true,49,[.int .i64 0,.int .i64 0,.int .i64 0,.int .i64 0,.slice none 0 0]⟩:=by rw [hh0]; simp
    have q2:h0[h.length+2]?=some ⟨true,true,49,[.int .i64 K,.int .i64 0,.int .i64 0,.int .i64 0,.slice none 0 0]⟩:=by rw [hh0]; simp
    have hb0:slR true 5 byteE h0 s (some ⟨h.length+1,0,none⟩) [h.length+1]:=by
      have:=hby.to (h':=h0) ⟨[⟨true,true,49,[.int .i64 K,.int .i64 0,.int .i64 0,.int .i64 0,.slice none 0 0]⟩],by rw [hh0]; simp⟩
      simpa using this
    have start:=NumI.start2 s h0 (h.length+1) hs1 hb0
    rw [l0] at start
    have eH:(h++[⟨true,true,49,[.int .i64 0,.int .i64 0,.int .i64 0,.int .i64 0,.slice none 0 0]⟩,⟨true,true,5,bytesL (S s)⟩,⟨true,true,49,[.int .i64 K,.int .i64 0,.int .i64 0,.int .i64 0,.slice none 0 0]⟩,⟨true,true,3,[]⟩]:Hp)=h0++[⟨true,true,3,[]⟩]:=by rw [hh0]; simp
    rw [eH]
    refine aloop mixed [2,4,5,6,7] (fun (y:Nat × List Int × Option Addr × Hp)=>[.pointer (some ⟨h.length,0,none⟩),.slice (some ⟨h.length+1,0,none⟩) s.length s.length,.pointer (some ⟨h.length+2,0,none⟩),.slice y.2.2.1 y.2.1.length y.2.1.length,.int .i64 y.1]) (fun y=>y.2.2.2) (fun y=>NumI s h0 y.2.2.2 (h.length+1) y.1 y.2.1 y.2.2.1) (fun y=>s.length - y.1) (1,[],some ⟨h.length+3,0,none⟩,_) start (by simp [pickF]) rfl ?_
    clear start eH
    rintro ⟨at_,acc,a,H⟩ inv
    simp only at inv
    simp [mkF]
    refine aSI (fun hb=>?_) (fun hb=>?_) <;> simp at hb <;> simp [hb]
    · refine cK (getNum_spec_c s at_ _ _ true _ H inv.by_ hs (by omega)) ?_
      rintro _ _ ⟨⟨t1,rfl⟩,rfl⟩
      have inv1:=inv.more t1
      cases hg:getNum s at_ with
      | none =>
        have hno:numbersOf s=none:=by
          rw [← inv.eq]
          unfold numF
          rw [if_pos hb,hg]
        obtain ⟨F,o,-⟩:=inv1.ow
        have qH:(H++t1)[h.length]?=some ⟨true,true,49,[.int .i64 0,.int .i64 0,.int .i64 0,.int .i64 0,.slice none 0 0]⟩:=by rw [o.ext.2 _ (by omega)]; exact q0
        have hI:nodeS s=(node0,false):=by unfold nodeS; rw [if_neg hne,hh0',if_neg hK0,hno]
        obtain ⟨z1,z2,z3⟩:=node_out (n:=node0) (x0.trans o.ext) qH (Own.nil (x0.trans o.ext)) (by simp)
        simp [node0] at z1 z2 z3
        simp [gnV,z1,z2,hI]
        simpa [node0] using z3
      | some ne =>
        obtain ⟨n,e⟩:=ne
        obtain ⟨a',H',eq,inv'⟩:=inv1.step hs hb hg
        simp [gnV]
        simp at eq
        simp [eq]
        have:=getNum_bound hg
        exact anext (e,acc++[(n:Int)],a',H') inv' (by simp only; omega) (by simp [pickF]) rfl (by simp)
    · obtain rfl:at_=s.length:=by have:=inv.le; omega
      have hno:numbersOf s=some acc:=by
        rw [← inv.eq]
        unfold numF
        rw [if_neg (by omega)]
      have hI:nodeS s=if 3≤acc.length∧nodeOk (mkN s acc)=true then (mkN s acc,true) else (node0,false):=by unfold nodeS; rw [if_neg hne,hh0',if_neg hK0,hno]
      obtain ⟨F,o,hbF⟩:=inv.ow
      have hln:=inv.ln
      have qH:H[h.length]?=some ⟨true,true,49,[.int .i64 0,.int .i64 0,.int .i64 0,.int .i64 0,.slice none 0 0]⟩:=by rw [o.ext.2 _ (by omega)]; exact q0
      refine aSI (fun hl3=>?_) (fun hl3=>?_) <;> simp at hl3 <;> simp [hl3]
      · rw [if_neg (by omega)] at hI
        obtain ⟨z1,z2,z3⟩:=node_out (n:=node0) (x0.trans o.ext) qH (Own.nil (x0.trans o.ext)) (by simp)
        simp [node0] at z1 z2 z3
        simp [z1,z2,hI]
        simpa [node0] using z3
      · have hl3':3≤acc.length:=by omega
        obtain ⟨oa,offa,rfl,c0⟩:=intEAt o.sl (show 0<acc.length by omega)
        obtain ⟨oa1,offa1,e1,c1⟩:=intEAt o.sl (show 1<acc.length by omega)
        obtain ⟨oa2,offa2,e2,c2⟩:=intEAt o.sl (show 2<acc.length by omega)
        simp only [Option.some.injEq,Addr.mk.injEq,and_true] at e1 e2
        obtain ⟨rfl,rfl⟩:=e1
        obtain ⟨rfl,rfl⟩:=e2
        simp only [Nat.add_zero] at c0
        have g0:(0:Nat)<acc.length:=by omega
        have g1:(1:Nat)<acc.length:=by omega
        have g2:(2:Nat)<acc.length:=by omega
        have hFo:F=[oa]:=int_flat o.sl
        have hoa:h0.length≤oa:=o.new oa (by rw [hFo]; simp)
        have bH:H[h.length+2]?=some ⟨true,true,49,[.int .i64 K,.int .i64 0,.int .i64 0,.int .i64 0,.slice none 0 0]⟩:=by rw [o.ext.2 _ (by omega)]; exact q2
        have hn1:∀ (X:Hp) (j:Nat) (v:Value) (q:Nat),q≠h.length+2→(sA_ X (h.length+2) j [v])[q]?=X[q]?:=fun X j v q hq=>by rw [sAg,if_neg (fun e=>hq e.symm)]
        obtain ⟨X1,hX1⟩:∃ X1,sA_ H (h.length+2) 1 [.int .i64 acc[0]]=X1:=⟨_,rfl⟩
        obtain ⟨X2,hX2⟩:∃ X2,sA_ X1 (h.length+2) 2 [.int .i64 acc[1]]=X2:=⟨_,rfl⟩
        obtain ⟨X3,hX3⟩:∃ X3,sA_ X2 (h.length+2) 3 [.int .i64 acc[2]]=X3:=⟨_,rfl⟩
        have b1:X1[h.length+2]?=some ⟨true,true,49,[.int .i64 K,.int .i64 acc[0],.int .i64 0,.int .i64 0,.slice none 0 0]⟩:=by rw [← hX1,sAg,if_pos rfl,bH]; rfl
        have b2:X2[h.length+2]?=some ⟨true,true,49,[.int .i64 K,.int .i64 acc[0],.int .i64 acc[1],.int .i64 0,.slice none 0 0]⟩:=by rw [← hX2,sAg,if_pos rfl,b1]; rfl
        have b3:X3[h.length+2]?=some ⟨true,true,49,[.int .i64 K,.int .i64 acc[0],.int .i64 acc[1],.int .i64 acc[2],.slice none 0 0]⟩:=by rw [← hX3,sAg,if_pos rfl,b2]; rfl
        have n1:∀ q,q≠h.length+2→X1[q]?=H[q]?:=fun q hq=>by rw [← hX1]; exact hn1 _ _ _ q hq
        have n2:∀ q,q≠h.length+2→X2[q]?=H[q]?:=fun q hq=>by rw [← hX2,hn1 _ _ _ q hq]; exact n1 q hq
        have n3:∀ q,q≠h.length+2→X3[q]?=H[q]?:=fun q hq=>by rw [← hX3,hn1 _ _ _ q hq]; exact n2 q hq
        have l3:X3.length=H.length:=by rw [← hX3,sAl,← hX2,sAl,← hX1,sAl]
        have k1:cS_ H (h.length+2) 1 1=true:=by simp [cS_,bH]
        have k2:cS_ X1 (h.length+2) 2 1=true:=by simp [cS_,b1]
        have k3:cS_ X2 (h.length+2) 3 1=true:=by simp [cS_,b2]
        have c1':cellAt X1 oa (offa+1)=some (.int .i64 acc[1]):=by rw [cellAt_get (n1 oa (by omega))]; exact c1
        have c2':cellAt X2 oa (offa+2)=some (.int .i64 acc[2]):=by rw [cellAt_get (n2 oa (by omega))]; exact c2
        have sl3:slR true 3 intE X3 acc (some ⟨oa,offa,none⟩) F:=o.sl.frame fun q hq=>n3 q (by have:=o.new q hq; omega)
        have x3:Ext h X3:=⟨by rw [l3]; exact (x0.trans o.ext).1,fun q hq=>by rw [n3 q (by omega)]; exact (x0.trans o.ext).2 q hq⟩
        have q3:X3[h.length]?=some ⟨true,true,49,[.int .i64 0,.int .i64 0,.int .i64 0,.int .i64 0,.slice none 0 0]⟩:=by rw [n3 _ (by omega)]; exact qH
        have hlH:h.length+3≤H.length:=by have:=o.ext.1; omega
        have hel:elAt (X3++[⟨true,true,3,[]⟩]) oa=some 3:=(sl3.ext (Ext.push X3 _)).el
        have h33:(3:Int)≤acc.length:=by omega
        obtain ⟨Fp,sp,-⟩:=sl3.part 3 acc.length hl3' (Nat.le_refl _)
        rw [List.take_length] at sp
        have sp2:slR true 3 intE X3 (acc.drop 3) (some ⟨oa,offa+3,none⟩) Fp:=sp
        have oe:=empty1 intE X3 3
        obtain ⟨a',H4,F',eqa,o4,keep4,len4⟩:=oe.appendSl (P:=Try.prog) (sp2.ext (Ext.push X3 [⟨true,true,3,[]⟩])) (st:=47) (xt:=47) (bt:=8) (z:=[.int .i64 0]) (by simp) (by simp) (by unfold big; simp; omega) (by unfold big; simp; omega)
        simp at eqa o4
        simp [g0,g1,g2,c0,k1,hX1,c1',k2,hX2,c2',k3,hX3,asl2_i,hel,hl3',h33,eqa]
        have hmk:mkN s acc=⟨K,acc[0],acc[1],acc[2],acc.drop 3⟩:=by
          unfold mkN
          rw [hh0',← hK]
          simp [g0,g1,g2]
        rw [hmk] at hI
        have b4:H4[h.length+2]?=some ⟨true,true,49,[.int .i64 K,.int .i64 acc[0],.int .i64 acc[1],.int .i64 acc[2],.slice none 0 0]⟩:=by rw [o4.ext.2 _ (by omega)]; exact b3
        have k4:cS_ H4 (h.length+2) 4 1=true:=by simp [cS_,b4]
        have hF':∀ q∈F',h.length+3≤q:=fun q hq=>by have:=o4.new q hq; omega
        obtain ⟨X5,hX5⟩:∃ X5,sA_ H4 (h.length+2) 4 [.slice a' (acc.length - 3) (acc.length - 3)]=X5:=⟨_,rfl⟩
        have b5:X5[h.length+2]?=some ⟨true,true,49,[.int .i64 K,.int .i64 acc[0],.int .i64 acc[1],.int .i64 acc[2],.slice a' (acc.length - 3) (acc.length - 3)]⟩:=by rw [← hX5,sAg,if_pos rfl,b4]; rfl
        have n5:∀ q,q≠h.length+2→X5[q]?=H4[q]?:=fun q hq=>by rw [← hX5]; exact hn1 _ _ _ q hq
        have l5:X5.length=H4.length:=by rw [← hX5,sAl]
        have x4:=x3.trans o4.ext
        have q4:H4[h.length]?=some ⟨true,true,49,[.int .i64 0,.int .i64 0,.int .i64 0,.int .i64 0,.slice none 0 0]⟩:=by rw [o4.ext.2 _ (by omega)]; exact q3
        have x5:Ext h X5:=⟨by rw [l5]; exact x4.1,fun q hq=>by rw [n5 q (by omega)]; exact x4.2 q hq⟩
        have q5:X5[h.length]?=some ⟨true,true,49,[.int .i64 0,.int .i64 0,.int .i64 0,.int .i64 0,.slice none 0 0]⟩:=by rw [n5 _ (by omega)]; exact q4
        have sl5:slR true 3 intE X5 (acc.drop 3) a' F':=o4.sl.frame fun q hq=>n5 q (by have:=hF' q hq; omega)
        have c5:∀ j,cellAt X5 (h.length+2) j=([.int .i64 K,.int .i64 acc[0],.int .i64 acc[1],.int .i64 acc[2],.slice a' (acc.length - 3) (acc.length - 3)]:List Value)[j]?:=fun j=>by simp [cellAt,b5]
        have c5l:∀ l j,cellAt (X5++l) (h.length+2) j=([.int .i64 K,.int .i64 acc[0],.int .i64 acc[1],.int .i64 acc[2],.slice a' (acc.length - 3) (acc.length - 3)]:List Value)[j]?:=fun l j=>by
          rw [cellAt_ext (Ext.push X5 l) (List.getElem?_eq_some_iff.1 b5).1]
          exact c5 j
        have hlh:Node.lim ⟨K,acc[0],acc[1],acc[2],acc.drop 3⟩:=by show (acc.drop 3).length≤1048576; simp; omega
        have hok:=nodeOk_spec_c ⟨K,acc[0],acc[1],acc[2],acc.drop 3⟩ a' F' true X5 sl5 hlh
        simp only [List.length_drop] at hok
        refine ⟨by omega,by omega,k4,?_⟩
        rw [hX5]
        simp [c5]
        refine cK hok ?_
        rintro _ _ ⟨⟨t2,rfl⟩,rfl⟩
        have xX:Ext h (X5++t2):=x5.trans (Ext.push _ _)
        have qX:(X5++t2)[h.length]?=some ⟨true,true,49,[.int .i64 0,.int .i64 0,.int .i64 0,.int .i64 0,.slice none 0 0]⟩:=by rw [(Ext.push X5 t2).2 _ (List.getElem?_eq_some_iff.1 q5).1]; exact q5
        have oX:Own h 3 intE (X5++t2) (acc.drop 3) a' F':=⟨xX,sl5.to ⟨_,rfl⟩,o4.nd,fun q hq=>by have:=hF' q hq; omega⟩
        cases hno2:nodeOk ⟨K,acc[0],acc[1],acc[2],acc.drop 3⟩
        · rw [if_neg (by rw [hno2]; simp)] at hI
          obtain ⟨z1,z2,z3⟩:=node_out (n:=node0) xX qX (Own.nil xX) (by simp)
          simp [node0] at z1 z2 z3
          simp [z1,z2,hI]
          simpa [node0] using z3
        · rw [if_pos ⟨hl3',hno2⟩] at hI
          obtain ⟨z1,z2,z3⟩:=node_out (n:=⟨K,acc[0],acc[1],acc[2],acc.drop 3⟩) xX qX oX (fun hm=>by have:=hF' _ hm; omega)
          simp at z1 z2 z3
          simp [c5l,z1,z2,hI]
          exact z3
theorem mkI_kind (s:Str) (l:List Int):(mkI s l).kind=((s.headD 0).toNat:Int):=by
  unfold mkI
  split <;> rfl
theorem text_ok {x:Node} {s:Str} (h:nodeText x=s) (hs:s≠[]):nodeOk x=true:=by
  cases e:nodeOk x
  · rw [nodeText,if_pos e] at h
    exact absurd h.symm hs
  · rfl
theorem three_zero (k:UInt8):numbersOf [k,0,0,0]=some [0,0,0]:=by
  simp [numbersOf,numF,getNum,gnF]
theorem one_none (k:UInt8):numbersOf [k]=some []:=by
  simp [numbersOf,numF]
theorem zeros_text:numsText [0,0,0]=[0,0,0]:=by simp [numsText,catL,putNum,numB_lt]
theorem nodeI_yes {s:Str} (h:(nodeI s).2=true):nodeS s=nodeI s∧nodeText (nodeI s).1=s∧nodeOk (nodeI s).1=true:=by
  unfold nodeI at h ⊢
  by_cases hs:s=[]
  · rw [if_pos hs] at h; cases h
  rw [if_neg hs] at h ⊢
  cases hn:numbersOf s with
  | none=>rw [hn] at h; cases h
  | some l =>
    rw [hn] at h
    simp only at h ⊢
    by_cases ht:nodeText (mkI s l)=s
    · rw [if_pos ht]
      have hok:=text_ok ht hs
      refine ⟨?_,ht,hok⟩
      unfold nodeS
      rw [if_neg hs,hn]
      by_cases hk:(s.headD 0).toNat=0
      · rw [if_pos hk]
        have hk0:(mkI s l).kind=0:=by rw [mkI_kind,hk]; rfl
        have hz:mkI s l=node0:=by
          rcases nodeOk_iff.1 hok with ⟨a0,a1,a2,a3,a4⟩ | ⟨a0,_⟩
          · generalize mkI s l=n at *
            obtain ⟨a,b,c,d,e⟩:=n
            simp only at *
            subst a0 a1 a2 a3 a4
            rfl
          · exact absurd hk0 a0
        rw [hz] at ht ⊢
        have:s.length=1:=by rw [← ht]; rfl
        simp [this]
      · rw [if_neg hk]
        by_cases hl:3≤l.length
        · have hm:mkI s l=mkN s l:=by unfold mkI; rw [if_pos hl]
          rw [hm] at hok ⊢
          simp only
          rw [if_pos ⟨hl,hok⟩]
        · exfalso
          have hm:mkI s l=⟨((s.headD 0).toNat:Int),0,0,0,[]⟩:=by unfold mkI; rw [if_neg hl]
          rw [hm] at ht hok
          have hkk:¬ (((s.headD 0).toNat:Int)=0):=by omega
          rw [nodeText,if_neg (by rw [hok]; simp),if_neg hkk] at ht
          simp only [List.append_nil] at ht
          rw [zeros_text] at ht
          rw [← ht,three_zero] at hn
          have:l=[0,0,0]:=by simpa using hn.symm
          rw [this] at hl
          simp at hl
    · rw [if_neg ht] at h; cases h
theorem nodeS_yes {s:Str} (h:(nodeS s).2=true) (ht:nodeText (nodeS s).1=s):nodeI s=nodeS s:=by
  unfold nodeS at h ht ⊢
  unfold nodeI
  by_cases hs:s=[]
  · rw [if_pos hs] at h; cases h
  rw [if_neg hs] at h ht ⊢
  rw [if_neg hs]
  by_cases hk:(s.headD 0).toNat=0
  · rw [if_pos hk] at h ht ⊢
    simp only [decide_eq_true_eq] at h ht
    obtain ⟨k,rfl⟩:=List.length_eq_one_iff.1 h
    rw [one_none]
    have hm:mkI [k] []=node0:=by
      unfold mkI
      rw [if_neg (by simp),hk]
      rfl
    simp only
    rw [hm,if_pos ht]
    simp
  · rw [if_neg hk] at h ht ⊢
    cases hn:numbersOf s with
    | none=>simp [hn] at h
    | some l =>
      rw [hn] at h ht
      simp only at h ht ⊢
      by_cases hc:3≤l.length∧nodeOk (mkN s l)=true
      · rw [if_pos hc] at ht ⊢
        have hm:mkI s l=mkN s l:=by unfold mkI; rw [if_pos hc.1]
        rw [hm,if_pos ht]
      · rw [if_neg hc] at h; cases h
def fs0:Fs:=⟨[],[]⟩
noncomputable def nodesBy (N:Str→Node × Bool):List Str→Option (List Node)
  | []=>some []
  | s :: r=>if (N s).2=true then (nodesBy N r).map fun l=>(N s).1 :: l else none
noncomputable def fsBy (N:Str→Node × Bool) (list:List Str) (n:Nat):Fs × Bool:=match nodesBy N ((list.drop 2).take n) with
  | none=>(fs0,false)
  | some ns=>if shapeOk ⟨ns,list.drop (2+n)⟩=true∧fsBlocks ⟨ns,list.drop (2+n)⟩=list then (⟨ns,list.drop (2+n)⟩,true) else (fs0,false)
noncomputable def fsS (list:List Str):Fs × Bool:=match list with
  | []=>(fs0,false)
  | b :: _=>if list.length<2∨b.length≠6 then (fs0,false) else if list.length≠2+(b[4]?.getD 0).toNat+(b[5]?.getD 0).toNat then (fs0,false) else fsBy nodeS list (b[4]?.getD 0).toNat
noncomputable def fsI (list:List Str):Fs × Bool:=match list with
  | []=>(fs0,false)
  | b :: _=>if list.length<2∨b.length<4 then (fs0,false) else match getNum b 4 with
    | none=>(fs0,false)
    | some (n,e)=>match getNum b e with
      | none=>(fs0,false)
      | some (d,_)=>if 10<n∨list.length≠2+n+d then (fs0,false) else fsBy nodeI list n
theorem nodesBy_len {N:Str→Node × Bool}:∀ {r:List Str} {ns:List Node},nodesBy N r=some ns→ns.length=r.length
  | [],ns,h=>by simp [nodesBy] at h; simp [h]
  | s :: r,ns,h=>by
    unfold nodesBy at h
    split at h
    · cases hr:nodesBy N r with
      | none=>rw [hr] at h; simp at h
      | some l =>
        rw [hr] at h
        simp at h
        rw [← h]
        simp [nodesBy_len hr]
    · cases h
theorem nodesBy_SI:∀ {r:List Str} {ns:List Node},nodesBy nodeS r=some ns→ns.map nodeText=r→nodesBy nodeI r=some ns
  | [],ns,h,_=>by simpa [nodesBy] using h
  | s :: r,ns,h,ht=>by
    unfold nodesBy at h ⊢
    split at h
    · rename_i h2
      cases hr:nodesBy nodeS r with
      | none=>rw [hr] at h; simp at h
      | some l =>
        rw [hr] at h
        simp at h
        subst h
        simp only [List.map_cons,List.cons.injEq] at ht
        have e:=nodeS_yes h2 ht.1
        rw [e,if_pos h2,nodesBy_SI hr ht.2]
        rfl
    · cases h
theorem nodesBy_IS:∀ {r:List Str} {ns:List Node},nodesBy nodeI r=some ns→nodesBy nodeS r=some ns
  | [],ns,h=>by simpa [nodesBy] using h
  | s :: r,ns,h=>by
    unfold nodesBy at h ⊢
    split at h
    · rename_i h2
      cases hr:nodesBy nodeI r with
      | none=>rw [hr] at h; simp at h
      | some l =>
        rw [hr] at h
        simp at h
        subst h
        have e:=(nodeI_yes h2).1
        rw [e,if_pos h2,nodesBy_IS hr]
        rfl
    · cases h
theorem fsBy_yes {N:Str→Node × Bool} {list:List Str} {n:Nat} (h:(fsBy N list n).2=true):∃ ns,nodesBy N ((list.drop 2).take n)=some ns∧shapeOk ⟨ns,list.drop (2+n)⟩=true∧fsBlocks ⟨ns,list.drop (2+n)⟩=list∧fsBy N list n=(⟨ns,list.drop (2+n)⟩,true):=by
  unfold fsBy at h ⊢
  cases hn:nodesBy N ((list.drop 2).take n) with
  | none=>simp [hn] at h
  | some ns =>
    simp only [hn] at h ⊢
    split at h
    · rename_i hc
      exact ⟨ns,rfl,hc.1,hc.2,by rw [if_pos hc]⟩
    · cases h
theorem fsBy_no {N:Str→Node × Bool} {list:List Str} {n:Nat} (h:(fsBy N list n).2=false):fsBy N list n=(fs0,false):=by
  unfold fsBy at h ⊢
  cases hn:nodesBy N ((list.drop 2).take n) with
  | none=>rfl
  | some ns =>
    simp only [hn] at h ⊢
    split at h
    · cases h
    · rename_i hc
      rw [if_neg hc]
theorem fsBy_set {N:Str→Node × Bool} {list:List Str} {n:Nat} {ns:List Node} (h1:nodesBy N ((list.drop 2).take n)=some ns) (h2:shapeOk ⟨ns,list.drop (2+n)⟩=true) (h3:fsBlocks ⟨ns,list.drop (2+n)⟩=list):fsBy N list n=(⟨ns,list.drop (2+n)⟩,true):=by
  unfold fsBy
  rw [h1]
  simp only
  rw [if_pos ⟨h2,h3⟩]
theorem put_small {n:Nat} (h:n<128):putNum (n:Int)=[UInt8.ofNat n]:=by
  unfold putNum
  rw [if_pos (by omega),Int.toNat_natCast,numB_lt h]
theorem head_form {f:Fs} (s:shapeOk f=true):fsHead f=[66,65,83,78,UInt8.ofNat f.nodes.length,UInt8.ofNat f.data.length]∧f.nodes.length≤10∧f.data.length≤36:=by
  have sh:=shapeOk_iff.1 s
  have h1:=inR_iff.1 sh.nodes
  have h2:=inR_iff.1 sh.data
  refine ⟨?_,by omega,by omega⟩
  unfold fsHead
  rw [put_small (by omega),put_small (by omega)]
  rfl
theorem blocks_form {f:Fs} (s:shapeOk f=true):fsBlocks f=fsHead f :: fsBits f :: (f.nodes.map nodeText++f.data):=by
  unfold fsBlocks
  rw [if_pos s]
  simp
theorem fs_IS {list:List Str} (h:(fsI list).2=true):fsS list=fsI list:=by
  unfold fsI at h ⊢
  unfold fsS
  cases list with
  | nil=>cases h
  | cons b rest =>
    simp only at h ⊢
    split at h
    · cases h
    rename_i hc1
    rw [if_neg hc1]
    cases hg:getNum b 4 with
    | none=>simp [hg] at h
    | some ne =>
      obtain ⟨n,e⟩:=ne
      simp only [hg] at h ⊢
      cases hg2:getNum b e with
      | none=>simp [hg2] at h
      | some de =>
        obtain ⟨d,e2⟩:=de
        simp only [hg2] at h ⊢
        split at h
        · cases h
        rename_i hc2
        rw [if_neg hc2]
        obtain ⟨ns,k1,k2,k3,k4⟩:=fsBy_yes h
        have hlen:(b :: rest).length=2+n+d:=by
          rcases Nat.lt_or_ge 10 n with h1 | h1
          · exact absurd (.inl h1) hc2
          · by_cases h2:(b :: rest).length=2+n+d
            · exact h2
            · exact absurd (.inr h2) hc2
        have hnn:ns.length=n:=by
          rw [nodesBy_len k1,List.length_take,List.length_drop]
          omega
        have hdd:((b :: rest).drop (2+n)).length=d:=by rw [List.length_drop]; omega
        obtain ⟨hd1,hd2,hd3⟩:=head_form k2
        simp only [hnn,hdd] at hd1 hd2 hd3
        have hb:=blocks_form k2
        rw [k3] at hb
        have hbe:b=[66,65,83,78,UInt8.ofNat n,UInt8.ofNat d]:=by
          rw [← hd1]
          exact (List.cons.inj hb).1
        have hn4:(b[4]?.getD 0).toNat=n:=by rw [hbe]; simp; omega
        have hd4:(b[5]?.getD 0).toNat=d:=by rw [hbe]; simp; omega
        rw [if_neg (by rw [hbe]; simp; simp at hlen; omega),hn4,hd4,if_neg (by simpa using hlen)]
        rw [k4]
        exact fsBy_set (nodesBy_IS k1) k2 k3
theorem fs_SI {list:List Str} (h:(fsS list).2=true):fsI list=fsS list:=by
  unfold fsS at h ⊢
  unfold fsI
  cases list with
  | nil=>cases h
  | cons b rest =>
    simp only at h ⊢
    split at h
    · cases h
    rename_i hc1
    rw [if_neg hc1]
    split at h
    · cases h
    rename_i hc2
    rw [if_neg hc2]
    obtain ⟨n,hn⟩:∃ n,n=(b[4]?.getD 0).toNat:=⟨_,rfl⟩
    obtain ⟨d,hd⟩:∃ d,d=(b[5]?.getD 0).toNat:=⟨_,rfl⟩
    rw [← hn] at h hc2 ⊢
    rw [← hd] at hc2
    have hlen:(b :: rest).length=2+n+d:=by omega
    obtain ⟨ns,k1,k2,k3,k4⟩:=fsBy_yes h
    have hnn:ns.length=n:=by
      rw [nodesBy_len k1,List.length_take,List.length_drop]
      omega
    have hdd:((b :: rest).drop (2+n)).length=d:=by rw [List.length_drop]; omega
    obtain ⟨hd1,hd2,hd3⟩:=head_form k2
    simp only [hnn,hdd] at hd1 hd2 hd3
    have hb:=blocks_form k2
    rw [k3] at hb
    have hbe:b=[66,65,83,78,UInt8.ofNat n,UInt8.ofNat d]:=by
      rw [← hd1]
      exact (List.cons.inj hb).1
    have e1:getNum b 4=some (n,5):=getNum_small b 4 n (by rw [hbe]; rfl) (by omega)
    have e2:getNum b 5=some (d,6):=getNum_small b 5 d (by rw [hbe]; rfl) (by omega)
    have htx:ns.map nodeText=((b :: rest).drop 2).take n:=by
      rw [hb]
      simp [hnn]
    rw [if_neg (by rw [hbe]; simp; simp at hlen; omega),e1]
    simp only
    rw [e2]
    simp only
    rw [if_neg (by rintro (h1 | h1) <;> omega),k4]
    exact fsBy_set (nodesBy_SI k1 htx) k2 k3
theorem fsI_no {list:List Str} (h:(fsI list).2=false):fsI list=(fs0,false):=by
  unfold fsI at h ⊢
  cases list with
  | nil=>rfl
  | cons b rest =>
    simp only at h ⊢
    split
    · rfl
    · rename_i hc1
      rw [if_neg hc1] at h
      cases hg:getNum b 4 with
      | none=>rfl
      | some ne =>
        obtain ⟨n,e⟩:=ne
        simp only [hg] at h ⊢
        cases hg2:getNum b e with
        | none=>rfl
        | some de =>
          obtain ⟨d,e2⟩:=de
          simp only [hg2] at h ⊢
          split
          · rfl
          · rename_i hc2
            rw [if_neg hc2] at h
            exact fsBy_no h
theorem fsS_no {list:List Str} (h:(fsS list).2=false):fsS list=(fs0,false):=by
  unfold fsS at h ⊢
  cases list with
  | nil=>rfl
  | cons b rest =>
    simp only at h ⊢
    split
    · rfl
    · rename_i hc1
      rw [if_neg hc1] at h
      split
      · rfl
      · rename_i hc2
        rw [if_neg hc2] at h
        exact fsBy_no h
theorem fs_agree (list:List Str):fsI list=fsS list:=by
  cases h1:(fsI list).2
  · cases h2:(fsS list).2
    · rw [fsI_no h1,fsS_no h2]
    · exact fs_SI h2
  · exact (fs_IS h1).symm
theorem Own.appNode {h0 h:Hp} {xs:List Node} {a:Option Addr} {F:List Nat} (k:Own h0 49 (nodeE true) h xs a F) (x:Node) (b:Option Addr) (G:List Nat) (s:slR true 3 intE h x.blocks b G) (nd:G.Nodup) (hG:∀ q∈G,h0.length≤q∧q ∉ F) (hl:xs.length≤100000) :
    ∃ a' h' F',aappend Try.prog (h++[⟨true,true,49,[.int .i64 x.kind,.int .i64 x.gen,.int .i64 x.time,.int .i64 x.size,.slice b x.blocks.length x.blocks.length]⟩]) 24 24 (.slice a xs.length xs.length) (.slice (some ⟨h.length,0,none⟩) 1 1)=some (.slice a' (xs.length+1) (xs.length+1),h')∧Own h0 49 (nodeE true) h' (xs++[x]) a' F' ∧
      (∀ q,q<h.length→q ∉ F→h'[q]?=h[q]?)∧h.length≤h'.length∧∀ q∈F',q∈F∨q∈G∨h.length≤q:=by
  have hR:(nodeE true).R (h++[⟨true,true,49,[.int .i64 x.kind,.int .i64 x.gen,.int .i64 x.time,.int .i64 x.size,.slice b x.blocks.length x.blocks.length]⟩]) x [.int .i64 x.kind,.int .i64 x.gen,.int .i64 x.time,.int .i64 x.size,.slice b x.blocks.length x.blocks.length] G:=⟨b,G,rfl,rfl,s.ext (Ext.push _ _)⟩
  obtain ⟨a',h',F',e1,e2,e3,e4,e5,_⟩:=(k.grow (Ext.push h [⟨true,true,49,[.int .i64 x.kind,.int .i64 x.gen,.int .i64 x.time,.int .i64 x.size,.slice b x.blocks.length x.blocks.length]⟩])).append (P:=Try.prog) (st:=24) (xt:=24) (x:=.slice (some ⟨h.length,0,none⟩) 1 1) (css:=[[.int .i64 x.kind,.int .i64 x.gen,.int .i64 x.time,.int .i64 x.size,.slice b x.blocks.length x.blocks.length]]) (Fs:=[G]) (ys:=[x]) (bt:=56) (z:=[.int .i64 0,.int .i64 0,.int .i64 0,.int .i64 0,.slice none 0 0]) (by
    show srcOf Try.prog _ 5 _ _=_
    simp [srcOf,cellsAt,cellAt]) ⟨hR,trivial⟩ (by show elOf _ _=some (_,5,_,_); simp) (by unfold big; simp; omega) (by unfold big; simp; omega) (by simpa using nd) (by simpa using hG)
  refine ⟨a',h',F',e1,e2,fun q hq hm=>?_,by simp at e4; omega,fun q hq=>?_⟩
  · rw [e3 q (by simp; omega) hm,List.getElem?_append_left hq]
  · rcases e5 q hq with h1 | h1 | h1
    · exact .inl h1
    · exact .inr (.inl (by simpa using h1))
    · exact .inr (.inr (by simp at h1; omega))
theorem numF_len {b:Str}:∀ (k at_:Nat) (acc l:List Int),acc.length≤at_→at_≤b.length∨b.length<at_→numF b k at_ acc=some l→l.length≤max at_ b.length
  | 0,_,_,_,_,_,h=>by cases h
  | k+1,at_,acc,l,ha,hb,h=>by
    unfold numF at h
    split at h
    · cases hg:getNum b at_ with
      | none=>simp [hg] at h
      | some ne =>
        obtain ⟨n,e⟩:=ne
        simp only [hg] at h
        have hbd:=getNum_bound hg
        have:=numF_len k e (acc++[(n:Int)]) l (by simp; omega) (.inl hbd.2.2) h
        omega
    · simp at h
      subst h
      omega
theorem numbers_len {s:Str} {l:List Int} (h:numbersOf s=some l):l.length≤s.length+1:=by
  have:=numF_len _ 1 [] l (by simp) (by omega) h
  omega
theorem mkN_blocks (s:Str) (l:List Int):(mkN s l).blocks.length=l.length - 3:=by simp [mkN]
theorem nodeS_blocks (s:Str):(nodeS s).1.blocks.length≤s.length:=by
  unfold nodeS
  split
  · simp [node0]
  split
  · simp [node0]
  cases hn:numbersOf s with
  | none=>simp [node0]
  | some l =>
    have:=numbers_len hn
    simp only
    split
    · show (mkN s l).blocks.length≤s.length
      rw [mkN_blocks]
      omega
    · simp [node0]
theorem nodeI_blocks (s:Str):(nodeI s).1.blocks.length≤s.length:=by
  unfold nodeI
  split
  · simp [node0]
  cases hn:numbersOf s with
  | none=>simp [node0]
  | some l =>
    have:=numbers_len hn
    simp only
    split
    · unfold mkI
      split
      · show (mkN s l).blocks.length≤s.length
        rw [mkN_blocks]
        omega
      · simp
    · simp [node0]
end Go.Proofs.Ytmpgpkdijfcfhaa.Hz
