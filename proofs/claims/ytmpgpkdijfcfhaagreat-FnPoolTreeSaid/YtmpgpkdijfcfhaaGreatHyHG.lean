/- Texts of the calculus and of the program's functions, merged: QG QH QJ QK QL. -/
import Derived.Test.YtmpgpkdijfcfhaaGreatHyHF
import Derived.Test.YtmpgpkdijfcfhaaGreatHyGI
import Derived.Test.YtmpgpkdijfcfhaaGreatHyQI
import Derived.Test.YtmpgpkdijfcfhaaGreatHyHA
namespace Go.Proofs.YtmpgpkdijfcfhaaGreat.Hz
open Go.RowKit
set_option linter.unusedVariables false
set_option linter.unusedSimpArgs false
set_option maxRecDepth 20000
noncomputable def walkI (bs:List Branch) (p:Str) (i:Nat):Int:=match bs[i]? with | some b=>walk b.fs p | none=>-1
noncomputable def genI (bs:List Branch) (p:Str) (i:Nat):Int:=match bs[i]? with | some b=>genAt b.fs p | none=>-1
theorem walkI_get {bs:List Branch} {p:Str} {i:Nat} (hi:i<bs.length):walkI bs p i=walk bs[i].fs p:=by simp [walkI,hi]
theorem genI_get {bs:List Branch} {p:Str} {i:Nat} (hi:i<bs.length):genI bs p i=genAt bs[i].fs p:=by simp [genI,hi]
noncomputable def holdTo (bs:List Branch) (p:Str) (k:Nat):List Nat:=(List.range k).filter fun i=>decide (0≤walkI bs p i)
def asInts (ks:List Nat):List Int:=ks.map fun k:Nat=>(k:Int)
theorem asInts_len (ks:List Nat):(asInts ks).length=ks.length:=by simp [asInts]
theorem holdTo_succ (bs:List Branch) (p:Str) (k:Nat):holdTo bs p (k+1)=holdTo bs p k++(if 0≤walkI bs p k then [k] else []):=by
  unfold holdTo
  rw [List.range_succ,List.filter_append]
  by_cases h:0≤walkI bs p k <;> simp [h]
theorem holdTo_yes {bs:List Branch} {p:Str} {k:Nat} (h:0≤walkI bs p k):asInts (holdTo bs p (k+1))=asInts (holdTo bs p k)++[(k:Int)]:=by
  rw [holdTo_succ,if_pos h]; simp [asInts]
theorem holdTo_no {bs:List Branch} {p:Str} {k:Nat} (h:¬ 0≤walkI bs p k):asInts (holdTo bs p (k+1))=asInts (holdTo bs p k):=by
  rw [holdTo_succ,if_neg h]; simp
theorem holdTo_len (bs:List Branch) (p:Str) (k:Nat):(holdTo bs p k).length≤k:=by
  have:=List.length_filter_le (fun i=>decide (0≤walkI bs p i)) (List.range k)
  simpa [holdTo] using this
theorem holdTo_mem {bs:List Branch} {p:Str} {k i:Nat} (h:i∈holdTo bs p k):i<k∧0≤walkI bs p i:=by
  simpa [holdTo] using h
noncomputable def holders (x:Pool) (p:Str):List Int:=if poolOk x then asInts (holdTo x.branches p x.branches.length) else []
section
variable (x:Pool) (b:Option Addr) (F:List Nat) (w:Bool) (tBranch tNode:TypeId) (h:Hp) (k1:slR w tBranch (branchE w tNode) h x.branches b F) (hl:x.nl≤1048576) (p:Str) (hps:p.length≤1048576)
include k1 hl hps
set_option maxHeartbeats 4000000 in
theorem holders_impl_c :
    ACall Tryz.prog 28 [.agg #[.int .i64 x.policy,.int .i64 x.minFree,.slice b x.branches.length x.branches.length,.bool x.move.on,.bool x.move.clean,.int .i64 x.move.src,.int .i64 x.move.dst,.string (S x.move.path),.int .i64 x.move.gen,.int .i64 x.move.done],.string (S p)] h fun r h'=>∃ a G,r=.slice a (holders x p).length (holders x p).length∧Own h 3 intE h' (holders x p) a G:=by
  refine acall mixed Tryz.func28 rfl (by kernel_rfl) ?_
  obtain ⟨hn,hp,hf⟩:=pool_nl hl
  simp [Tryz.f28]
  refine cK (poolOk_impl_c x b F w tBranch tNode _ (k1.to (by simp)) hl) ?_
  rintro _ _ ⟨⟨t1,rfl⟩,rfl⟩
  cases e1:poolOk x
  · simp [holders,e1]
    exact ⟨_,Own.nil (Ext.push _ _)⟩
  have hn4:x.branches.length≤1048576:=hn
  simp [holders,e1]
  have o0:=empty1 intE (h++⟨true,true,28,poolV x b⟩ :: t1) 3
  simp at o0
  generalize hB:(h++⟨true,true,28,poolV x b⟩ :: t1:Hp)=B at o0
  have xB:Ext h B:=by rw [← hB]; exact Ext.push _ _
  refine aloop mixed [1,5,13,14,15] (fun (y:Nat × Option Addr × Hp)=>[.string (S p),.slice y.2.1 (asInts (holdTo x.branches p y.1)).length (asInts (holdTo x.branches p y.1)).length,.slice b x.branches.length x.branches.length,.int .i64 x.branches.length,.int .i64 y.1]) (fun y=>y.2.2) (fun y=>y.1≤x.branches.length∧∃ G,Own B 3 intE y.2.2 (asInts (holdTo x.branches p y.1)) y.2.1 G) (fun y=>x.branches.length - y.1) (0,some ⟨h.length+(t1.length+1),0,none⟩,_) ⟨by simp,_,by simpa [holdTo,asInts] using o0⟩ (by simp [pickF,holdTo,asInts]) (by simp [poolV]) ?_
  clear o0
  rintro ⟨i,a,H⟩ ⟨hi,G,own⟩
  simp only at hi own
  simp [mkF]
  have hlen:=holdTo_len x.branches p i
  have hal:=asInts_len (holdTo x.branches p i)
  refine aSI (fun hc=>?_) (fun hc=>?_) <;> simp at hc <;> simp [hc]
  · obtain ⟨o,off,b1,G1,b2,G2,rfl,c0,c1,c2,kn,kd⟩:=branchAtX (k1.ext (xB.trans own.ext)) hc
    have c0':=c0 []
    have c1':=c1 []
    have c2':=c2 []
    simp only [List.append_nil] at c0' c1' c2'
    simp [hc,c0',c1',c2']
    refine cK (walk_impl_c x.branches[i].fs b1 b2 G1 G2 w tNode _ (kn.to (by simp)) (kd.to (by simp)) (hf i hc) p hps) ?_
    rintro _ _ ⟨⟨t2,rfl⟩,rfl⟩
    have hwi:=walkI_get (p:=p) hc
    simp
    refine aSI (fun hd=>?_) (fun hd=>?_) <;> have hd':=hd <;> simp at hd <;> simp [hd']
    · have hy:=holdTo_yes (by rw [hwi]; exact hd)
      obtain ⟨a',H',F',eq,own'⟩:=(own.to (h':=H++⟨true,true,47,[.int .i64 x.branches[i].mode,.slice b1 x.branches[i].fs.nodes.length x.branches[i].fs.nodes.length,.slice b2 x.branches[i].fs.data.length x.branches[i].fs.data.length]⟩ :: t2) ⟨_,rfl⟩).append1 (P:=Tryz.prog) (i:Int) (cs:=[.int .i64 i]) rfl (st:=58) (xt:=58) (bt:=8) (z:=[.int .i64 0]) (by simp) (by simp) (by unfold big; omega) (by unfold big; omega)
      simp at eq
      simp [eq]
      exact anext (i+1,a',H') ⟨hc,F',by rw [hy]; exact own'⟩ (by simp only; omega) (by simp [pickF,hy,wS (show i<9223372036854775807 by omega)]) rfl (by simp)
    · have hy:=holdTo_no (by rw [hwi]; omega)
      exact anext (i+1,a,_) ⟨hc,G,by rw [hy]; exact own.grow (Ext.push _ _)⟩ (by simp only; omega) (by simp [pickF,hy,wS (show i<9223372036854775807 by omega)]) rfl (by simp)
  · obtain rfl:i=x.branches.length:=by omega
    exact ⟨_,⟨rfl,rfl⟩,_,Own.of_new xB own⟩
set_option maxHeartbeats 4000000 in
theorem l12Holders_c :
    ACall Tryz.prog 131 [.agg #[.int .i64 x.policy,.int .i64 x.minFree,.slice b x.branches.length x.branches.length,.bool x.move.on,.bool x.move.clean,.int .i64 x.move.src,.int .i64 x.move.dst,.string (S x.move.path),.int .i64 x.move.gen,.int .i64 x.move.done],.string (S p)] h fun r h'=>∃ a G,r=.slice a (asInts (holdTo x.branches p x.branches.length)).length (asInts (holdTo x.branches p x.branches.length)).length∧Own h 3 intE h' (asInts (holdTo x.branches p x.branches.length)) a G:=by
  refine acall mixed Tryz.func131 rfl (by kernel_rfl) ?_
  obtain ⟨hn,hp,hf⟩:=pool_nl hl
  simp [Tryz.f131]
  have o0:=empty1 intE (h++[⟨true,true,28,poolV x b⟩]) 3
  simp at o0
  generalize hB:(h++[⟨true,true,28,poolV x b⟩]:Hp)=B at o0
  have xB:Ext h B:=by rw [← hB]; exact Ext.push _ _
  have pb:∀ i,cellAt B h.length i=(poolV x b)[i]?:=fun i=>by rw [← hB]; simp [cellAt]
  refine aloop mixed [1,2,5,6] (fun (y:Nat × Option Addr × Hp)=>[.string (S p),.pointer (some ⟨h.length,0,none⟩),.slice y.2.1 (asInts (holdTo x.branches p y.1)).length (asInts (holdTo x.branches p y.1)).length,.int .i64 y.1]) (fun y=>y.2.2) (fun y=>y.1≤x.branches.length∧∃ G,Own B 3 intE y.2.2 (asInts (holdTo x.branches p y.1)) y.2.1 G) (fun y=>x.branches.length - y.1) (0,some ⟨h.length+1,0,none⟩,_) ⟨by simp,_,by simpa [holdTo,asInts] using o0⟩ (by simp [pickF,holdTo,asInts]) (by simp [poolV]) ?_
  clear o0
  rintro ⟨i,a,H⟩ ⟨hi,G,own⟩
  simp only at hi own
  have hlB:h.length<B.length:=by rw [← hB]; simp
  have p2:cellAt H h.length 2=some (.slice b x.branches.length x.branches.length):=by rw [cellAt_ext own.ext hlB,pb]; simp [poolV]
  simp [mkF,p2]
  have hlen:=holdTo_len x.branches p i
  have hal:=asInts_len (holdTo x.branches p i)
  refine aSI (fun hc=>?_) (fun hc=>?_) <;> simp at hc <;> simp [hc]
  · obtain ⟨o,off,b1,G1,b2,G2,rfl,c0,c1,c2,kn,kd⟩:=branchAtX (k1.ext (xB.trans own.ext)) hc
    have c0':=c0 []
    have c1':=c1 []
    have c2':=c2 []
    simp only [List.append_nil] at c0' c1' c2'
    simp [hc,c0',c1',c2',p2]
    refine cK (walk_spec_c x.branches[i].fs b1 b2 G1 G2 w tNode _ (kn.to (by simp)) (kd.to (by simp)) (hf i hc) p hps) ?_
    rintro _ _ ⟨⟨t2,rfl⟩,rfl⟩
    have hwi:=walkI_get (p:=p) hc
    simp
    refine aSI (fun hd=>?_) (fun hd=>?_) <;> have hd':=hd <;> simp at hd <;> simp [hd']
    · have hy:=holdTo_yes (by rw [hwi]; exact hd)
      obtain ⟨a',H',F',eq,own'⟩:=(own.to (h':=H++t2) ⟨_,rfl⟩).append1 (P:=Tryz.prog) (i:Int) (cs:=[.int .i64 i]) rfl (st:=58) (xt:=58) (bt:=8) (z:=[.int .i64 0]) (by simp) (by simp) (by unfold big; omega) (by unfold big; omega)
      simp at eq
      simp [eq]
      exact anext (i+1,a',H') ⟨hc,F',by rw [hy]; exact own'⟩ (by simp only; omega) (by simp [pickF,hy,wS (show i<9223372036854775807 by omega)]) rfl (by simp)
    · have hy:=holdTo_no (by rw [hwi]; omega)
      exact anext (i+1,a,_) ⟨hc,G,by rw [hy]; exact own.grow (Ext.push _ _)⟩ (by simp only; omega) (by simp [pickF,hy,wS (show i<9223372036854775807 by omega)]) rfl (by simp)
  · obtain rfl:i=x.branches.length:=by omega
    exact ⟨_,⟨rfl,rfl⟩,_,Own.of_new xB own⟩
end
noncomputable def pickW (bs:List Branch) (p:Str):List Nat→Int→Int
  | [],b=>b
  | k :: ks,b=>pickW bs p ks (if b<0∨genI bs p b.toNat<genI bs p k then (k:Int) else b)
noncomputable def winner (x:Pool) (p:Str):Int:=if poolOk x then pickW x.branches p (holdTo x.branches p x.branches.length) (-1) else -1
theorem pickW_drop (bs:List Branch) (p:Str) (ks:List Nat) (k:Nat) (hk:k<ks.length) (b:Int):pickW bs p (ks.drop k) b=pickW bs p (ks.drop (k+1)) (if b<0∨genI bs p b.toNat<genI bs p ks[k] then (ks[k]:Int) else b):=by
  rw [List.drop_eq_getElem_cons hk]; rfl
theorem genAt_pos {f:Fs} {p:Str} (hw:0≤walk f p):0≤genAt f p:=by
  rcases walk_okd f p with h1 | ⟨hf,-,h0,h1,-⟩
  · omega
  have sh:=fsOk_shape hf
  obtain ⟨m,hm⟩:=Int.eq_ofNat_of_zero_le h0
  have hlt:m<f.nodes.length:=by omega
  have hkn:nA_ f (m:Int)=f.nodes[m]:=nodeAtI_get hlt
  have hn:=sh.ok _ (List.getElem_mem hlt)
  unfold genAt
  rw [if_neg (by omega),hm]
  show 0≤(nA_ f (m:Int)).gen
  rw [hkn]
  unfold nodeOk at hn
  split at hn
  · simp at hn
    omega
  · simp only [Bool.and_eq_true] at hn
    exact (inR_iff.1 hn.1.1.1.1.1.2).1
theorem asInts_get (ks:List Nat) (k:Nat) (hk:k<ks.length):(asInts ks)[k]'(by rw [asInts_len]; exact hk)=(ks[k]:Int):=by simp [asInts]
section
variable (x:Pool) (b:Option Addr) (F:List Nat) (w:Bool) (tBranch tNode:TypeId) (h:Hp) (k1:slR w tBranch (branchE w tNode) h x.branches b F) (hl:x.nl≤1048576) (p:Str) (hps:p.length≤1048576)
include k1 hl hps
set_option maxHeartbeats 8000000 in
theorem l12Winner_c :
    ACall Tryz.prog 79 [.agg #[.int .i64 x.policy,.int .i64 x.minFree,.slice b x.branches.length x.branches.length,.bool x.move.on,.bool x.move.clean,.int .i64 x.move.src,.int .i64 x.move.dst,.string (S x.move.path),.int .i64 x.move.gen,.int .i64 x.move.done],.string (S p)] h fun r h'=>(∃ t,h'=h++t)∧r=.int .i64 (pickW x.branches p (holdTo x.branches p x.branches.length) (-1)):=by
  refine acall mixed Tryz.func79 rfl (by kernel_rfl) ?_
  obtain ⟨hn,hp,hf⟩:=pool_nl hl
  simp [Tryz.f79]
  refine cK (l12Holders_c x b F w tBranch tNode _ (k1.to (by simp)) hl p hps) ?_
  rintro _ _ ⟨a,G,rfl,own⟩
  obtain ⟨t,rfl⟩:=own.ext.pre
  have sl0:=own.sl
  simp at sl0
  have hlen:=holdTo_len x.branches p x.branches.length
  have hin:∀ i∈holdTo x.branches p x.branches.length,i<x.branches.length:=fun i hi=>(holdTo_mem hi).1
  generalize holdTo x.branches p x.branches.length=ks at sl0 own hlen hin ⊢
  have hal:=asInts_len ks
  simp
  refine aloop mixed [1,2,5,6,7] (fun (y:Nat × Int × Hp)=>[.string (S p),.pointer (some ⟨h.length,0,none⟩),.int .i64 y.2.1,.slice a (asInts ks).length (asInts ks).length,.int .i64 y.1]) (fun y=>h++⟨true,true,28,poolV x b⟩ :: y.2.2) (fun y=>y.1≤ks.length∧(y.2.1=-1∨∃ m:Nat,m<x.branches.length∧y.2.1=m)∧pickW x.branches p (ks.drop y.1) y.2.1=pickW x.branches p ks (-1)∧slR true 3 intE (h++⟨true,true,28,poolV x b⟩ :: y.2.2) (asInts ks) a G) (fun y=>ks.length - y.1) (0,-1,t) ⟨by simp,.inl rfl,by simp,by simpa [poolV] using sl0⟩ rfl (by simp [poolV]) ?_
  clear sl0 own
  rintro ⟨i,bst,u⟩ ⟨hi,hb,hs,sl⟩
  simp only at hi hb hs sl
  simp [mkF,poolV]
  refine aSI (fun hc=>?_) (fun hc=>?_) <;> simp at hc <;> simp [hc]
  · have hci:i<ks.length:=by omega
    have hci':i<(asInts ks).length:=by omega
    obtain ⟨oi,offi,rfl,ci⟩:=intEAt sl hci'
    rw [asInts_get ks i hci] at ci
    have hki:=hin _ (List.getElem_mem hci)
    rw [pickW_drop _ _ _ _ hci] at hs
    simp only [poolV] at ci
    rcases hb with rfl | ⟨m,hm,rfl⟩
    · refine drawK true (by kernel_rfl) ?_
      simp [hci',ci]
      rw [if_pos (.inl (by omega))] at hs
      exact anext (i+1,_,u) ⟨hci,.inr ⟨_,hki,rfl⟩,hs,sl⟩ (by simp only; omega) (by simp [pickF,wS (show i<9223372036854775807 by omega)]) rfl (by simp [poolV])
    · obtain ⟨o,off,b1,G1,b2,G2,rfl,c0,c1,c2,kn,kd⟩:=branchAtX k1 hki
      obtain ⟨o',off',b3,G3,b4,G4,eo,d0,d1,d2,kn2,kd2⟩:=branchAtX k1 hm
      simp at eo
      obtain ⟨rfl,rfl⟩:=eo
      have hm0:¬ ((m:Int)<0):=by omega
      refine drawK true (by kernel_rfl) ?_
      simp [hm0,hci',ci,hki,c1,c2,hm,d1,d2]
      refine callK (genAt_spec_c x.branches[ks[i]].fs b1 b2 G1 G2 w tNode _ (kn.to (by simp)) (kd.to (by simp)) (hf _ hki) p hps) ?_
      rintro _ _ ⟨⟨t2,rfl⟩,rfl⟩
      refine ⟨fun _=>Ext.push _ _,?_⟩
      simp [hm0,hm,d1,d2]
      refine callK (genAt_spec_c x.branches[m].fs b3 b4 G3 G4 w tNode _ (kn2.to (by simp)) (kd2.to (by simp)) (hf _ hm) p hps) ?_
      rintro _ _ ⟨⟨t3,rfl⟩,rfl⟩
      refine ⟨fun _=>Ext.push _ _,?_⟩
      have e1:=genI_get (p:=p) hki
      have e2:=genI_get (p:=p) hm
      simp only [Int.toNat_natCast,e1,e2] at hs
      have sl2:slR true 3 intE (h++⟨true,true,28,poolV x (some ⟨o,off,none⟩)⟩ :: (u++(t2++t3))) (asInts ks) (some ⟨oi,offi,none⟩) G:=sl.to ⟨t2++t3,by simp⟩
      have ci2:cellAt (h++⟨true,true,28,poolV x (some ⟨o,off,none⟩)⟩ :: (u++(t2++t3))) oi (offi+i)=some (.int .i64 ks[i]):=by
        obtain ⟨oj,offj,ej,cj⟩:=intEAt sl2 hci'
        simp at ej
        obtain ⟨rfl,rfl⟩:=ej
        rw [cj,asInts_get ks i hci]
      simp only [poolV] at ci2
      simp
      refine aSI (fun hd=>?_) (fun hd=>?_) <;> have hd':=hd <;> simp at hd <;> simp [hd',hci',ci2]
      · rw [if_pos (.inr hd)] at hs
        exact anext (i+1,_,u++(t2++t3)) ⟨hci,.inr ⟨_,hki,rfl⟩,hs,sl2⟩ (by simp only; omega) (by simp [pickF,wS (show i<9223372036854775807 by omega)]) rfl (by simp [poolV])
      · rw [if_neg (by rintro (h1 | h1) <;> omega)] at hs
        exact anext (i+1,_,u++(t2++t3)) ⟨hci,.inr ⟨_,hm,rfl⟩,hs,sl2⟩ (by simp only; omega) (by simp [pickF,wS (show i<9223372036854775807 by omega)]) rfl (by simp [poolV])
  · obtain rfl:i=ks.length:=by omega
    simpa [pickW] using hs
set_option maxHeartbeats 8000000 in
theorem winner_impl_c :
    ACall Tryz.prog 13 [.agg #[.int .i64 x.policy,.int .i64 x.minFree,.slice b x.branches.length x.branches.length,.bool x.move.on,.bool x.move.clean,.int .i64 x.move.src,.int .i64 x.move.dst,.string (S x.move.path),.int .i64 x.move.gen,.int .i64 x.move.done],.string (S p)] h fun r h'=>(∃ t,h'=h++t)∧r=.int .i64 (winner x p):=by
  refine acall mixed Tryz.func13 rfl (by kernel_rfl) ?_
  obtain ⟨hn,hp,hf⟩:=pool_nl hl
  simp [Tryz.f13]
  refine cK (holders_impl_c x b F w tBranch tNode _ (k1.to (by simp)) hl p hps) ?_
  rintro _ _ ⟨a,G,rfl,own⟩
  obtain ⟨t,rfl⟩:=own.ext.pre
  have sl0:=own.sl
  simp at sl0
  obtain ⟨ks,hks,hlen,hin,hwin⟩:∃ ks:List Nat,holders x p=asInts ks∧ks.length≤x.branches.length∧(∀ i∈ks,i<x.branches.length∧0≤walkI x.branches p i)∧winner x p=pickW x.branches p ks (-1):=by
    cases e1:poolOk x
    · exact ⟨[],by simp [holders,e1,asInts],by simp,by simp,by simp [winner,e1,pickW]⟩
    · exact ⟨holdTo x.branches p x.branches.length,by simp [holders,e1],holdTo_len _ _ _,fun i hi=>holdTo_mem hi,by simp [winner,e1]⟩
  rw [hwin]
  rw [hks] at own sl0 ⊢
  clear hwin hks
  have hal:=asInts_len ks
  simp
  refine aloop mixed [1,2,5,6,12,13,14] (fun (y:Nat × Int × Hp)=>[.string (S p),.pointer (some ⟨h.length,0,none⟩),.int .i64 y.2.1,.int .i64 (if y.2.1<0 then -1 else genI x.branches p y.2.1.toNat),.slice a (asInts ks).length (asInts ks).length,.int .i64 (asInts ks).length,.int .i64 y.1]) (fun y=>h++⟨true,true,28,poolV x b⟩ :: y.2.2) (fun y=>y.1≤ks.length∧(y.2.1=-1∨∃ m:Nat,m<x.branches.length∧y.2.1=m)∧pickW x.branches p (ks.drop y.1) y.2.1=pickW x.branches p ks (-1)∧slR true 3 intE (h++⟨true,true,28,poolV x b⟩ :: y.2.2) (asInts ks) a G) (fun y=>ks.length - y.1) (0,-1,t) ⟨by simp,.inl rfl,by simp,by simpa [poolV] using sl0⟩ (by simp [pickF]) (by simp [poolV]) ?_
  clear sl0 own
  rintro ⟨i,bst,u⟩ ⟨hi,hb,hs,sl⟩
  simp only at hi hb hs sl
  simp [mkF,poolV]
  refine aSI (fun hc=>?_) (fun hc=>?_) <;> simp at hc <;> simp [hc]
  · have hci:i<ks.length:=by omega
    have hci':i<(asInts ks).length:=by omega
    obtain ⟨oi,offi,rfl,ci⟩:=intEAt sl hci'
    rw [asInts_get ks i hci] at ci
    have hki:=(hin _ (List.getElem_mem hci)).1
    have hwi:=(hin _ (List.getElem_mem hci)).2
    rw [walkI_get hki] at hwi
    have hg0:=genAt_pos hwi
    rw [pickW_drop _ _ _ _ hci] at hs
    simp only [poolV] at ci
    obtain ⟨o,off,b1,G1,b2,G2,rfl,c0,c1,c2,kn,kd⟩:=branchAtX k1 hki
    simp [hci',ci,hki,c1,c2]
    refine cK (genAt_impl_c x.branches[ks[i]].fs b1 b2 G1 G2 w tNode _ (kn.to (by simp)) (kd.to (by simp)) (hf _ hki) p hps) ?_
    rintro _ _ ⟨⟨t2,rfl⟩,rfl⟩
    have e1:=genI_get (p:=p) hki
    have sl2:slR true 3 intE (h++⟨true,true,28,poolV x (some ⟨o,off,none⟩)⟩ :: (u++t2)) (asInts ks) (some ⟨oi,offi,none⟩) G:=sl.to ⟨t2,by simp⟩
    have hk0:¬ ((ks[i]:Int)<0):=by omega
    have hcond:(bst<0∨genI x.branches p bst.toNat<genI x.branches p ks[i])↔(if bst<0 then -1 else genI x.branches p bst.toNat)<genAt x.branches[ks[i]].fs p:=by
      rw [e1]
      split
      · rename_i h1
        simp only [h1,true_or,true_iff]
        omega
      · rename_i h1
        simp [h1]
    generalize hmost:(if bst<0 then -1 else genI x.branches p bst.toNat)=most at hcond ⊢
    simp
    refine aSI (fun hd=>?_) (fun hd=>?_) <;> have hd':=hd <;> simp at hd <;> simp [hd']
    · rw [if_pos (hcond.2 hd)] at hs
      exact anext (i+1,_,u++t2) ⟨hci,.inr ⟨_,hki,rfl⟩,hs,sl2⟩ (by simp only; omega) (by simp [pickF,hk0,e1,wS (show i<9223372036854775807 by omega)]) rfl (by simp [poolV])
    · rw [if_neg (fun h1=>by have:=hcond.1 h1; omega)] at hs
      exact anext (i+1,_,u++t2) ⟨hci,hb,hs,sl2⟩ (by simp only; omega) (by simp [pickF,hmost,wS (show i<9223372036854775807 by omega)]) rfl (by simp [poolV])
  · obtain rfl:i=ks.length:=by omega
    simpa [pickW] using hs
end
def Wins (g:Nat→Int) (ks:List Nat) (j:Nat):Prop:=j∈ks∧∀ m∈ks,(m<j→g m<g j)∧(j<m→g m≤g j)
theorem Wins.le {g:Nat→Int} {ks:List Nat} {j:Nat} (w:Wins g ks j) {m:Nat} (hm:m∈ks):g m≤g j:=by
  have:=w.2 m hm
  rcases Nat.lt_trichotomy m j with h | h | h
  · have:=this.1 h; omega
  · rw [h]; exact Int.le_refl _
  · exact this.2 h
theorem Wins.only {g:Nat→Int} {ks:List Nat} {i j:Nat} (a:Wins g ks i) (b:Wins g ks j):i=j:=by
  rcases Nat.lt_trichotomy i j with h | h | h
  · have h1:=(b.2 i a.1).1 h; have h2:=(a.2 j b.1).2 h; omega
  · exact h
  · have h1:=(a.2 j b.1).1 h; have h2:=(b.2 i a.1).2 h; omega
theorem pickW_wins (bs:List Branch) (p:Str):∀ (ks pre:List Nat) (b:Nat),(pre++ks).Pairwise (·<·)→Wins (genI bs p) pre b→∃ j:Nat,pickW bs p ks b=j∧Wins (genI bs p) (pre++ks) j
  | [],pre,b,_,w=>⟨b,rfl,by simpa using w⟩
  | k :: ks,pre,b,hs,w=>by
    have hlt:∀ m∈pre,m<k:=fun m hm=>(List.pairwise_append.1 hs).2.2 m hm k (by simp)
    have hs':((pre++[k])++ks).Pairwise (·<·):=by simpa using hs
    have e:pre++k :: ks=(pre++[k])++ks:=by simp
    rw [e]
    unfold pickW
    have hb0:¬ ((b:Int)<0):=by omega
    simp only [hb0,false_or,Int.toNat_natCast]
    by_cases h:genI bs p b<genI bs p k
    · rw [if_pos h]
      refine pickW_wins bs p ks (pre++[k]) k hs' ⟨by simp,fun m hm=>?_⟩
      rcases List.mem_append.1 hm with hm | hm
      · have:=w.le hm
        have:=hlt m hm
        exact ⟨fun _=>by omega,fun h=>by omega⟩
      · have:m=k:=by simpa using hm
        subst this
        exact ⟨fun h=>by omega,fun h=>by omega⟩
    · rw [if_neg h]
      refine pickW_wins bs p ks (pre++[k]) b hs' ⟨by simp [w.1],fun m hm=>?_⟩
      rcases List.mem_append.1 hm with hm | hm
      · exact w.2 m hm
      · have:m=k:=by simpa using hm
        subst this
        have:=hlt b w.1
        exact ⟨fun h=>by omega,fun _=>by omega⟩
noncomputable def win (bs:List Branch) (p:Str):Int:=pickW bs p (holdTo bs p bs.length) (-1)
theorem holdTo_sorted (bs:List Branch) (p:Str) (k:Nat):(holdTo bs p k).Pairwise (·<·):=List.Pairwise.filter _ List.pairwise_lt_range
theorem holdTo_iff {bs:List Branch} {p:Str} {k i:Nat}:i∈holdTo bs p k↔i<k∧0≤walkI bs p i:=by simp [holdTo]
theorem win_iff (bs:List Branch) (p:Str) (j:Nat):win bs p=j↔Wins (genI bs p) (holdTo bs p bs.length) j:=by
  unfold win
  have hs:=holdTo_sorted bs p bs.length
  generalize holdTo bs p bs.length=ks at hs
  cases ks with
  | nil =>
    constructor
    · intro h
      simp only [pickW] at h
      omega
    · rintro ⟨h,_⟩
      cases h
  | cons k ks =>
    have h0:pickW bs p (k :: ks) (-1)=pickW bs p ks (k:Int):=by
      show pickW bs p ks (if (-1:Int)<0∨_ then _ else _)=_
      rw [if_pos (.inl (by omega))]
    rw [h0]
    obtain ⟨r,hr,wr⟩:=pickW_wins bs p ks [k] k (by simpa using hs) ⟨by simp,fun m hm=>by
      have:m=k:=by simpa using hm
      subst this
      exact ⟨fun h=>by omega,fun h=>by omega⟩⟩
    rw [hr]
    constructor
    · intro h
      have:r=j:=by omega
      rw [← this]; simpa using wr
    · intro w
      have:=(show Wins (genI bs p) ([k]++ks) j from w).only wr
      omega
noncomputable def gen2 (bs:List Branch) (z:Nat × Item):Int:=genI bs z.2.path z.1
noncomputable def insQ (bs:List Branch) (z:Nat × Item):List (Nat × Item)→List (Nat × Item)
  | []=>[z]
  | y :: r=>if y.2.path=z.2.path then (if gen2 bs y<gen2 bs z then z :: r else y :: r) else y :: insQ bs z r
theorem insQ_none {bs:List Branch} {z:Nat × Item}:∀ {L:List (Nat × Item)},(∀ y∈L,y.2.path≠z.2.path)→insQ bs z L=L++[z]
  | [],_=>rfl
  | y :: r,h=>by
    unfold insQ
    rw [if_neg (h y (by simp)),insQ_none fun q hq=>h q (by simp [hq])]
    rfl
theorem insQ_some {bs:List Branch} {z:Nat × Item}:∀ {L:List (Nat × Item)} {i:Nat} (hi:i<L.length),(∀ m (hm:m<i),L[m].2.path≠z.2.path)→L[i].2.path=z.2.path→insQ bs z L=if gen2 bs L[i]<gen2 bs z then L.set i z else L
  | [],i,hi,_,_=>by simp at hi
  | y :: r,0,_,_,h=>by
    simp only [List.getElem_cons_zero] at h
    unfold insQ
    rw [if_pos h]
    simp
  | y :: r,i+1,hi,hn,h=>by
    have h0:=hn 0 (by omega)
    simp only [List.getElem_cons_zero] at h0
    unfold insQ
    rw [if_neg h0,insQ_some (i:=i) (by simpa using hi) (fun m hm=>by have:=hn (m+1) (by omega); simpa using this) (by simpa using h)]
    simp only [List.getElem_cons_succ,List.set_cons_succ]
    split <;> rfl
def beats (bs:List Branch) (y z:Nat × Item):Prop:=(z.1<y.1→gen2 bs z<gen2 bs y)∧(y.1<z.1→gen2 bs z≤gen2 bs y)
structure InvQ (bs:List Branch) (P L:List (Nat × Item)):Prop where
  dis:L.Pairwise fun a b=>a.2.path≠b.2.path
  sub:∀ y∈L,y∈P
  cov:∀ z∈P,∃ y∈L,y.2.path=z.2.path∧beats bs y z
theorem beats.le {bs:List Branch} {y z:Nat × Item} (b:beats bs y z) (hp:y.2.path=z.2.path):gen2 bs z≤gen2 bs y:=by
  rcases Nat.lt_trichotomy z.1 y.1 with h | h | h
  · have:=b.1 h; omega
  · unfold gen2; rw [h,hp]; exact Int.le_refl _
  · exact b.2 h
theorem dis_eq {L:List (Nat × Item)} (h:L.Pairwise fun a b=>a.2.path≠b.2.path) {a b:Nat × Item} (ha:a∈L) (hb:b∈L) (e:a.2.path=b.2.path):a=b:=by
  rcases List.mem_iff_getElem.1 ha with ⟨i,hi,ei⟩
  rcases List.mem_iff_getElem.1 hb with ⟨j,hj,ej⟩
  rcases Nat.lt_trichotomy i j with h1 | h1 | h1
  · exact absurd e (by rw [← ei,← ej]; exact List.pairwise_iff_getElem.1 h i j hi hj h1)
  · subst h1; rw [← ei,← ej]
  · exact absurd e.symm (by rw [← ei,← ej]; exact List.pairwise_iff_getElem.1 h j i hj hi h1)
theorem InvQ.step {bs:List Branch} {P L:List (Nat × Item)} (k:InvQ bs P L) (z:Nat × Item) (hP:∀ y∈P,y.1≤z.1∧(y.1=z.1→y.2.path≠z.2.path)):InvQ bs (P++[z]) (insQ bs z L):=by
  by_cases hn:∀ y∈L,y.2.path≠z.2.path
  · rw [insQ_none hn]
    refine ⟨?_,?_,?_⟩
    · rw [List.pairwise_append]
      exact ⟨k.dis,by simp,fun a ha b hb=>by
        have:b=z:=by simpa using hb
        rw [this]; exact hn a ha⟩
    · intro y hy
      rcases List.mem_append.1 hy with hy | hy
      · exact List.mem_append.2 (.inl (k.sub y hy))
      · exact List.mem_append.2 (.inr hy)
    · intro q hq
      rcases List.mem_append.1 hq with hq | hq
      · obtain ⟨y,hy,h1,h2⟩:=k.cov q hq
        exact ⟨y,List.mem_append.2 (.inl hy),h1,h2⟩
      · have:q=z:=by simpa using hq
        subst this
        exact ⟨q,by simp,rfl,fun h=>by omega,fun h=>by omega⟩
  · obtain ⟨y,hy,hp⟩:∃ y∈L,y.2.path=z.2.path:=by
      by_cases h:∃ y∈L,y.2.path=z.2.path
      · exact h
      · exact absurd (fun y hy hp=>h ⟨y,hy,hp⟩) hn
    obtain ⟨i,hi,ei⟩:=List.mem_iff_getElem.1 hy
    have hdi:∀ m (hm:m<L.length),m≠i→L[m].2.path≠z.2.path:=fun m hm hne e=>by
      rw [← hp,← ei] at e
      rcases Nat.lt_or_gt_of_ne hne with h1 | h1
      · exact List.pairwise_iff_getElem.1 k.dis m i hm hi h1 e
      · exact List.pairwise_iff_getElem.1 k.dis i m hi hm h1 e.symm
    have hyP:=hP y (k.sub y hy)
    have hlt:y.1<z.1:=by
      rcases Nat.lt_or_ge y.1 z.1 with h | h
      · exact h
      · exact absurd hp (hyP.2 (by omega))
    rw [insQ_some hi (fun m hm=>hdi m (by omega) (by omega)) (by rw [ei]; exact hp),ei]
    by_cases hg:gen2 bs y<gen2 bs z
    · rw [if_pos hg]
      have hmem:∀ q,q∈L.set i z→q=z∨(q∈L∧q.2.path≠z.2.path):=fun q hq=>by
        obtain ⟨m,hm,em⟩:=List.mem_iff_getElem.1 hq
        rw [List.getElem_set] at em
        rw [List.length_set] at hm
        split at em
        · exact .inl em.symm
        · rename_i hne
          exact .inr ⟨em ▸ List.getElem_mem hm,em ▸ hdi m hm (fun e=>hne e.symm)⟩
      refine ⟨?_,?_,?_⟩
      · rw [List.pairwise_iff_getElem]
        intro a b ha hb hab
        rw [List.length_set] at ha hb
        rw [List.getElem_set,List.getElem_set]
        split
        · rename_i e
          subst e
          rw [if_neg (by omega)]
          exact fun e=>hdi b hb (by omega) e.symm
        · split
          · rename_i hne e
            subst e
            exact hdi a ha (by omega)
          · exact List.pairwise_iff_getElem.1 k.dis a b ha hb hab
      · intro q hq
        rcases hmem q hq with rfl | ⟨h1,_⟩
        · simp
        · exact List.mem_append.2 (.inl (k.sub q h1))
      · intro q hq
        have hz:z∈L.set i z:=List.mem_set hi z
        by_cases hpq:q.2.path=z.2.path
        · refine ⟨z,hz,hpq.symm,fun h=>?_,fun h=>?_⟩
          · rcases List.mem_append.1 hq with hq | hq
            · obtain ⟨y',hy',h1,h2⟩:=k.cov q hq
              have:y'=y:=dis_eq k.dis hy' hy (by rw [h1,hpq,hp])
              subst this
              have:=h2.le h1
              omega
            · have:q=z:=by simpa using hq
              subst this; omega
          · rcases List.mem_append.1 hq with hq | hq
            · have:=(hP q hq).1; omega
            · have:q=z:=by simpa using hq
              subst this; omega
        · rcases List.mem_append.1 hq with hq | hq
          · obtain ⟨y',hy',h1,h2⟩:=k.cov q hq
            obtain ⟨m,hm,em⟩:=List.mem_iff_getElem.1 hy'
            have hne:¬ i=m:=fun e=>by
              subst e
              rw [ei] at em
              rw [← em,hp] at h1
              exact hpq h1.symm
            refine ⟨y',?_,h1,h2⟩
            rw [List.mem_iff_getElem]
            exact ⟨m,by rw [List.length_set]; exact hm,by rw [List.getElem_set,if_neg hne]; exact em⟩
          · have:q=z:=by simpa using hq
            exact absurd (by rw [this]) hpq
    · rw [if_neg hg]
      refine ⟨k.dis,fun q hq=>List.mem_append.2 (.inl (k.sub q hq)),fun q hq=>?_⟩
      rcases List.mem_append.1 hq with hq | hq
      · exact k.cov q hq
      · have:q=z:=by simpa using hq
        subst this
        exact ⟨y,hy,hp,fun h=>by omega,fun _=>by omega⟩
noncomputable def tre (bs:List Branch) (i:Nat):List Item:=match bs[i]? with | some b=>tI_ b.fs | none=>[]
theorem tre_get {bs:List Branch} {i:Nat} (hi:i<bs.length):tre bs i=tI_ bs[i].fs:=by simp [tre,hi]
def tagged (i:Nat) (t:List Item):List (Nat × Item):=t.map fun x=>(i,x)
noncomputable def allQ (bs:List Branch) (k:Nat):List (Nat × Item):=((List.range k).map fun i=>tagged i (tre bs i)).flatten
theorem allQ_succ (bs:List Branch) (k:Nat):allQ bs (k+1)=allQ bs k++tagged k (tre bs k):=by
  unfold allQ
  rw [List.range_succ,List.map_append,List.flatten_append]
  simp
theorem allQ_mem {bs:List Branch} {k:Nat} {z:Nat × Item}:z∈allQ bs k↔z.1<k∧z.2∈tre bs z.1:=by
  obtain ⟨i,x⟩:=z
  unfold allQ tagged
  simp only [List.mem_flatten,List.mem_map,List.mem_range]
  constructor
  · rintro ⟨l,⟨m,hm,rfl⟩,hx⟩
    simp only [List.mem_map,Prod.mk.injEq] at hx
    obtain ⟨y,hy,rfl,rfl⟩:=hx
    exact ⟨hm,hy⟩
  · rintro ⟨h1,h2⟩
    exact ⟨_,⟨i,h1,rfl⟩,List.mem_map.2 ⟨x,h2,rfl⟩⟩
noncomputable def gath (bs:List Branch) (P:List (Nat × Item)):List (Nat × Item):=P.foldl (fun L z=>insQ bs z L) []
theorem gath_app (bs:List Branch) (P Q:List (Nat × Item)):gath bs (P++Q)=Q.foldl (fun L z=>insQ bs z L) (gath bs P):=by simp [gath]
def OrdQ (P:List (Nat × Item)):Prop:=P.Pairwise fun a b=>a.1≤b.1∧(a.1=b.1→a.2.path≠b.2.path)
theorem inv_fold (bs:List Branch):∀ (Q P L:List (Nat × Item)),InvQ bs P L→OrdQ (P++Q)→InvQ bs (P++Q) (Q.foldl (fun L z=>insQ bs z L) L)
  | [],P,L,k,_=>by simpa using k
  | z :: Q,P,L,k,o=>by
    have e:P++z :: Q=(P++[z])++Q:=by simp
    rw [e] at o ⊢
    exact inv_fold bs Q (P++[z]) (insQ bs z L) (k.step z fun y hy=>(List.pairwise_append.1 (List.pairwise_append.1 o).1).2.2 y hy z (by simp)) o
theorem tre_dis (bs:List Branch) (i:Nat):(tre bs i).Pairwise fun a b=>a.path≠b.path:=by
  unfold tre
  split
  · exact tree_distinct _
  · exact List.Pairwise.nil
theorem allQ_ord (bs:List Branch):∀ k,OrdQ (allQ bs k)
  | 0=>by simp [allQ,OrdQ]
  | k+1=>by
    rw [allQ_succ]
    unfold OrdQ
    rw [List.pairwise_append]
    refine ⟨allQ_ord bs k,?_,fun a ha b hb=>?_⟩
    · unfold tagged
      rw [List.pairwise_map]
      exact (tre_dis bs k).imp fun h=>⟨Nat.le_refl _,fun _=>h⟩
    · have h1:=(allQ_mem.1 ha).1
      unfold tagged at hb
      obtain ⟨y,_,rfl⟩:=List.mem_map.1 hb
      exact ⟨by simp only; omega,fun e=>by simp only at e; omega⟩
theorem gath_inv (bs:List Branch) (k:Nat):InvQ bs (allQ bs k) (gath bs (allQ bs k)):=by
  have:=inv_fold bs (allQ bs k) [] [] ⟨List.Pairwise.nil,by simp,by simp⟩ (by simpa using allQ_ord bs k)
  simpa [gath] using this
noncomputable def kept (bs:List Branch) (i:Nat) (t:List Item):List Item:=t.filter fun x=>decide (win bs x.path=i)
noncomputable def specTo (bs:List Branch) (k:Nat):List Item:=((List.range k).map fun i=>kept bs i (tre bs i)).flatten
theorem specTo_succ (bs:List Branch) (k:Nat):specTo bs (k+1)=specTo bs k++kept bs k (tre bs k):=by
  unfold specTo
  rw [List.range_succ,List.map_append,List.flatten_append]
  simp
theorem specTo_mem {bs:List Branch} {k:Nat} {x:Item}:x∈specTo bs k↔∃ i,i<k∧x∈tre bs i∧win bs x.path=i:=by
  unfold specTo kept
  simp only [List.mem_flatten,List.mem_map,List.mem_range]
  constructor
  · rintro ⟨l,⟨i,hi,rfl⟩,hx⟩
    simp only [List.mem_filter,decide_eq_true_eq] at hx
    exact ⟨i,hi,hx.1,hx.2⟩
  · rintro ⟨i,hi,h1,h2⟩
    exact ⟨_,⟨i,hi,rfl⟩,by simp [h1,h2]⟩
theorem specTo_dis (bs:List Branch):∀ k,(specTo bs k).Pairwise fun a b=>a.path≠b.path
  | 0=>by simp [specTo]
  | k+1=>by
    rw [specTo_succ,List.pairwise_append]
    refine ⟨specTo_dis bs k,List.Pairwise.filter _ (tre_dis bs k),fun a ha b hb e=>?_⟩
    obtain ⟨i,hi,_,h1⟩:=specTo_mem.1 ha
    unfold kept at hb
    simp only [List.mem_filter,decide_eq_true_eq] at hb
    rw [e,hb.2] at h1
    omega
theorem gath_wins {bs:List Branch} {y:Nat × Item} (hy:y∈gath bs (allQ bs bs.length)):win bs y.2.path=y.1:=by
  have k:=gath_inv bs bs.length
  rw [win_iff]
  obtain ⟨h1,h2⟩:=allQ_mem.1 (k.sub y hy)
  rw [tre_get h1] at h2
  refine ⟨holdTo_iff.2 ⟨h1,by rw [walkI_get h1]; exact (tree_walk h2).1⟩,fun m hm=>?_⟩
  obtain ⟨m1,m2⟩:=holdTo_iff.1 hm
  rw [walkI_get m1] at m2
  obtain ⟨ms,p1,p2,p3,p4⟩:=tree_path h2
  rw [p1] at m2
  have hz:=walk_tree p2 p3 p4 m2
  rw [← p1] at hz
  obtain ⟨y',hy',e1,e2⟩:=k.cov (m,itemN bs[m].fs y.2.path (walk bs[m].fs y.2.path)) (allQ_mem.2 ⟨m1,by rw [tre_get m1]; exact hz⟩)
  have:y'=y:=dis_eq k.dis hy' hy e1
  subst this
  exact e2
theorem gath_spec (bs:List Branch):((gath bs (allQ bs bs.length)).map Prod.snd).Perm (specTo bs bs.length):=by
  have k:=gath_inv bs bs.length
  have d1:((gath bs (allQ bs bs.length)).map Prod.snd).Pairwise fun a b=>a.path≠b.path:=by
    rw [List.pairwise_map]; exact k.dis
  have d2:=specTo_dis bs bs.length
  have n1:((gath bs (allQ bs bs.length)).map Prod.snd).Nodup:=d1.imp fun h e=>h (by rw [e])
  have n2:(specTo bs bs.length).Nodup:=d2.imp fun h e=>h (by rw [e])
  rw [List.perm_ext_iff_of_nodup n1 n2]
  intro x
  rw [specTo_mem,List.mem_map]
  constructor
  · rintro ⟨y,hy,rfl⟩
    obtain ⟨h1,h2⟩:=allQ_mem.1 (k.sub y hy)
    exact ⟨y.1,h1,h2,gath_wins hy⟩
  · rintro ⟨i,hi,h1,h2⟩
    obtain ⟨y,hy,e1,-⟩:=k.cov (i,x) (allQ_mem.2 ⟨hi,h1⟩)
    have hw:=gath_wins hy
    simp only at e1
    rw [e1,h2] at hw
    have e:y.1=i:=by omega
    have h3:=(allQ_mem.1 (k.sub y hy)).2
    rw [e] at h3
    rw [tre_get hi] at h1 h3
    have f1:=find_only (tree_distinct bs[i].fs) h1
    have f2:=find_only (tree_distinct bs[i].fs) h3
    rw [e1,f1] at f2
    exact ⟨y,hy,(congrArg Prod.fst f2).symm⟩
theorem ord_sorted {ys:List Item} (ho:ys.Pairwise fun a b=>Op.bytesLess b.path a.path=false) (hd:ys.Pairwise fun a b=>a.path≠b.path):SortedP ys:=by
  refine List.Pairwise.imp₂ ?_ ho hd
  intro a b h1 h2
  have ht:=less_total a.path b.path
  rw [h1] at ht
  cases hl:Op.bytesLess a.path b.path
  · rw [hl] at ht
    simp at ht
    exact absurd ht.symm h2
  · rfl
noncomputable def poolTree (x:Pool):List Item:=if poolOk x then (specTo x.branches x.branches.length).foldl putIt [] else []
theorem poolTree_of {x:Pool} (ok:poolOk x=true) {ys:List Item} (hp:ys.Perm ((gath x.branches (allQ x.branches x.branches.length)).map Prod.snd)) (ho:ys.Pairwise fun a b=>Op.bytesLess b.path a.path=false):ys=poolTree x:=by
  have d2:=specTo_dis x.branches x.branches.length
  have hp2:=hp.trans (gath_spec x.branches)
  unfold poolTree
  rw [if_pos ok]
  obtain ⟨f1,f2⟩:=foldPut_sorted (specTo x.branches x.branches.length) [] List.Pairwise.nil (by simpa using d2)
  have d3:ys.Pairwise fun a b=>a.path≠b.path:=by
    have:=(hp2.pairwise_iff (R:=fun a b:Item=>a.path≠b.path) (fun {a b} h e=>h e.symm)).2 d2
    exact this
  refine sorted_eq ?_ f1 (hp2.trans (by simpa using f2.symm))
  exact ord_sorted ho d3
theorem AI.set {h H H':Hp} {B:Nat} {acc acc':List Item} {a a':Option Addr} {G G':List Nat} (k:AI h H B acc a G) (x:Ext H H') (s:slR true 38 itemE H' acc' a' G') (nd:G'.Nodup) (nw:∀ q∈G',H.length≤q) :
    cS_ H' B 0 1=true∧AI h (sA_ H' B 0 [.slice a' acc'.length acc'.length]) B acc' a' G'∧∀ q,q≠B→q<H.length→(sA_ H' B 0 [.slice a' acc'.length acc'.length])[q]?=H[q]?:=by
  have hln:=k.len
  have hlo:=k.lo
  have g2:H'[B]?=some ⟨true,true,32,[.slice a acc.length acc.length]⟩:=by
    rw [x.2 _ hln]; exact k.ab
  have hne:∀ q,q≠B→(sA_ H' B 0 [.slice a' acc'.length acc'.length])[q]?=H'[q]?:=fun q hq=>by rw [sAg,if_neg (fun e=>hq e.symm)]
  refine ⟨by simp [cS_,g2],⟨⟨by rw [sAl]; have:=x.1; have:=k.ext.1; omega,fun q hq=>?_⟩,k.lo,by rw [sAl]; have:=x.1; omega,?_,s.frame fun q hq=>hne q (by have:=nw q hq; omega),nd,fun q hq=>by have:=nw q hq; omega⟩,fun q h1 h2=>by rw [hne q h1]; exact x.2 q h2⟩
  · rw [hne q (by omega),x.2 q (by have:=k.ext.1; omega)]
    exact k.ext.2 q hq
  · rw [sAg,if_pos rfl,g2]
    simp [setL]
theorem item_ne {H:Hp} {w:Bool} {xs:List Item} {a:Option Addr} {F:List Nat} (s:slR w 38 itemE H xs a F) {B:Nat} {ob:Ob} (e:H[B]?=some ob) (ne:ob.elem≠38):B ∉ F:=by
  intro hm
  cases a with
  | none=>obtain ⟨_,rfl⟩:=s; cases hm
  | some b0 =>
    obtain ⟨o,off,sp⟩:=b0
    obtain ⟨_,ob',css,Fs,pre,post,g1,g2,g3,g4,rfl,g5,g6,g7⟩:=s
    rw [flat_nil g5.flat.2] at hm
    simp at hm
    subst hm
    simp only at g1
    rw [e] at g1
    simp only [Option.some.injEq] at g1
    subst g1
    exact ne g4
theorem tree_plen {f:Fs} {x:Item} (hx:x∈tI_ f):x.path.length≤100:=by
  obtain ⟨ms,p1,-⟩:=tree_path hx
  rw [p1]
  exact pathOf_len ms
theorem kept_take (bs:List Branch) (i:Nat) (t:List Item) (k:Nat) (hk:k<t.length):kept bs i (t.take (k+1))=kept bs i (t.take k)++(if win bs t[k].path=i then [t[k]] else []):=by
  unfold kept
  rw [List.take_succ_eq_append_getElem hk,List.filter_append]
  by_cases h:win bs t[k].path=i <;> simp [h]
theorem kept_len (bs:List Branch) (i:Nat) (t:List Item):(kept bs i t).length≤t.length:=List.length_filter_le _ _
theorem specTo_len (bs:List Branch):∀ k,(specTo bs k).length≤7380 * k
  | 0=>by simp [specTo]
  | k+1=>by
    rw [specTo_succ,List.length_append]
    have h3:=kept_len bs k (tre bs k)
    have h4:(tre bs k).length≤7380:=by
      unfold tre
      split
      · exact treeItems_le _
      · simp
    have:=specTo_len bs k
    omega
noncomputable def outP (bs:List Branch) (i:Nat) (ti:List Item) (j:Nat):List Item:=(specTo bs i++kept bs i (ti.take j)).foldl putIt []
noncomputable def specF (bs:List Branch) (i:Nat):List Item:=(specTo bs i).foldl putIt []
theorem outP_zero (bs:List Branch) (i:Nat) (ti:List Item):outP bs i ti 0=specF bs i:=by simp [outP,specF,kept]
theorem outP_all {bs:List Branch} {i:Nat}:outP bs i (tre bs i) (tre bs i).length=specF bs (i+1):=by
  unfold outP specF
  rw [List.take_length,specTo_succ]
theorem outP_yes {bs:List Branch} {i:Nat} {ti:List Item} {j:Nat} (hj:j<ti.length) (h:win bs ti[j].path=i):outP bs i ti (j+1)=putIt (outP bs i ti j) ti[j]:=by
  unfold outP
  rw [kept_take bs i ti j hj,if_pos h,← List.append_assoc,List.foldl_append]
  rfl
theorem outP_no {bs:List Branch} {i:Nat} {ti:List Item} {j:Nat} (hj:j<ti.length) (h:¬ win bs ti[j].path=i):outP bs i ti (j+1)=outP bs i ti j:=by
  unfold outP
  rw [kept_take bs i ti j hj,if_neg h,List.append_nil]
theorem outP_len (bs:List Branch) (i:Nat) (ti:List Item) (j:Nat):(outP bs i ti j).length≤7380 * i+ti.length:=by
  have h1:=foldPut_len (specTo bs i++kept bs i (ti.take j)) []
  have h2:=specTo_len bs i
  have h3:=kept_len bs i (ti.take j)
  have h4:(ti.take j).length≤ti.length:=by simp; omega
  rw [List.length_append] at h1
  simp only [List.length_nil] at h1
  unfold outP
  omega
theorem specF_len (bs:List Branch) (i:Nat):(specF bs i).length≤7380 * i:=by
  have h1:=foldPut_len (specTo bs i) []
  have h2:=specTo_len bs i
  simp only [List.length_nil] at h1
  unfold specF
  omega
structure TQI (h0 H:Hp) (B C:Nat) (acc ti:List Item) (a bt:Option Addr) (Gt:List Nat):Prop where
  ai:∃ G',AI h0 H B acc a G'
  bx:H[C]?=some (⟨true,true,32,[.slice bt ti.length ti.length]⟩:Ob)
  st:slR true 38 itemE H ti bt Gt
section
variable (x:Pool) (b:Option Addr) (F:List Nat) (w:Bool) (tBranch tNode:TypeId) (h:Hp) (k1:slR w tBranch (branchE w tNode) h x.branches b F) (hl:x.nl≤1048576)
include k1 hl
set_option maxHeartbeats 8000000 in
theorem l12Tree_c (hn4:x.branches.length≤4) :
    ACall Tryz.prog 137 [.agg #[.int .i64 x.policy,.int .i64 x.minFree,.slice b x.branches.length x.branches.length,.bool x.move.on,.bool x.move.clean,.int .i64 x.move.src,.int .i64 x.move.dst,.string (S x.move.path),.int .i64 x.move.gen,.int .i64 x.move.done]] h fun r h'=>∃ a G,r=.agg #[.slice a (specF x.branches x.branches.length).length (specF x.branches x.branches.length).length]∧Own h 38 itemE h' (specF x.branches x.branches.length) a G:=by
  refine acall mixed Tryz.func137 rfl (by kernel_rfl) ?_
  obtain ⟨hn,hp,hf⟩:=pool_nl hl
  simp [Tryz.f137]
  obtain ⟨h0,hh0⟩:∃ h0:Hp,h0=h++[⟨true,true,28,poolV x b⟩,⟨true,true,32,[.slice none 0 0]⟩]:=⟨_,rfl⟩
  have x0:Ext h h0:=by rw [hh0]; exact Ext.push _ _
  have l0:h0.length=h.length+2:=by rw [hh0]; simp
  have q0:h0[h.length]?=some ⟨true,true,28,poolV x b⟩:=by rw [hh0]; simp
  have q1:h0[h.length+1]?=some ⟨true,true,32,[.slice none 0 0]⟩:=by rw [hh0]; simp
  have kb:=k1.ext x0
  have k0:AI h0 (h0++[⟨true,true,32,[.slice none 0 0]⟩]) (h.length+2) [] none [] :=
    ⟨Ext.push _ _,by omega,by simp; omega,by rw [← l0]; simp,⟨rfl,rfl⟩,List.nodup_nil,fun q hq=>by cases hq⟩
  refine aloop mixed [1,2,3,4] (fun (y:Nat × Option Addr × Hp)=>[.pointer (some ⟨h.length,0,none⟩),.pointer (some ⟨h.length+1,0,none⟩),.pointer (some ⟨h.length+2,0,none⟩),.int .i64 y.1]) (fun y=>y.2.2) (fun y=>y.1≤x.branches.length∧∃ G,AI h0 y.2.2 (h.length+2) (specF x.branches y.1) y.2.1 G) (fun y=>x.branches.length - y.1) (0,none,_) ⟨by simp,_,by simpa [specF,specTo] using k0⟩ rfl (by simp [hh0,poolV]) ?_
  clear k0
  rintro ⟨i,a,H⟩ ⟨hi,G,k⟩
  simp only at hi k
  have pb:∀ l j,cellAt (H++l) h.length j=(poolV x b)[j]?:=fun l j=>by
    rw [cellAt_ext (k.ext.trans (Ext.push H l)) (by omega)]
    simp [cellAt,q0]
  have pb0:∀ j,cellAt H h.length j=(poolV x b)[j]?:=fun j=>by simpa using pb [] j
  simp only [poolV] at pb pb0
  simp [mkF,pb0]
  refine aSI (fun hc=>?_) (fun hc=>?_) <;> simp at hc <;> simp [hc]
  · obtain ⟨o,off,b1,G1,b2,G2,rfl,c0,c1,c2,kn,kd⟩:=branchAtX (kb.ext k.ext) hc
    have c1':=c1 []
    have c2':=c2 []
    simp only [List.append_nil] at c1' c2'
    simp [hc,c1',c2',pb0]
    refine cK (treeOf_spec_c x.branches[i].fs b1 b2 G1 G2 w tNode _ kn kd (hf i hc)) ?_
    rintro _ H1 ⟨bt,Gt,rfl,st,xt⟩
    simp
    have lt:=treeItems_le x.branches[i].fs
    have htre:=tre_get hc
    have hpl:∀ y∈tI_ x.branches[i].fs,y.path.length≤100:=fun y hy=>tree_plen hy
    have hsucc:=outP_all (bs:=x.branches) (i:=i)
    rw [htre] at hsucc
    generalize tI_ x.branches[i].fs=ti at st lt hpl hsucc ⊢
    have kC:AI h0 (H1++[⟨true,true,32,[.slice bt ti.length ti.length]⟩]) (h.length+2) (specF x.branches i) a G:=(k.grow xt).to ⟨_,rfl⟩
    have hBt:h.length+2 ∉ Gt:=item_ne st (k.grow xt).ab (show (32:TypeId)≠38 by decide)
    have hHC:H.length≤H1.length:=xt.1
    have hlk:=k.len
    have stC:slR true 38 itemE (H1++[⟨true,true,32,[.slice bt ti.length ti.length]⟩]) ti bt Gt:=st.to ⟨_,rfl⟩
    have bxC:(H1++[⟨true,true,32,[.slice bt ti.length ti.length]⟩])[H1.length]?=some (⟨true,true,32,[.slice bt ti.length ti.length]⟩:Ob):=by simp
    generalize H1++[(⟨true,true,32,[.slice bt ti.length ti.length]⟩:Ob)]=HC at kC stC bxC ⊢
    obtain ⟨C,hC⟩:∃ C,C=H1.length:=⟨_,rfl⟩
    rw [← hC] at bxC ⊢
    have hCB:C≠h.length+2:=by omega
    clear st hC xt
    refine aloop mixed [1,2,3,4,5,6] (fun (y:Nat × Option Addr × Hp)=>[.pointer (some ⟨h.length,0,none⟩),.pointer (some ⟨h.length+1,0,none⟩),.pointer (some ⟨h.length+2,0,none⟩),.int .i64 i,.pointer (some ⟨C,0,none⟩),.int .i64 y.1]) (fun y=>y.2.2)
      (fun y=>y.1≤ti.length∧TQI h0 y.2.2 (h.length+2) C (outP x.branches i ti y.1) ti y.2.1 bt Gt) (fun y=>ti.length - y.1) (0,a,HC) ⟨by simp,⟨⟨G,by rw [outP_zero]; exact kC⟩,bxC,stC⟩⟩ rfl rfl ?_
    clear k kC bxC stC pb pb0 c0 c1 c2 c1' c2' kn kd
    rintro ⟨j,a2,H2⟩ ⟨hj,⟨⟨G2',k⟩,bx,st⟩⟩
    simp only at hj k bx st
    have pb:∀ l m,cellAt (H2++l) h.length m=(poolV x (some ⟨o,off,none⟩))[m]?:=fun l m=>by
      rw [cellAt_ext (k.ext.trans (Ext.push H2 l)) (by omega)]
      simp [cellAt,q0]
    have pb0:∀ m,cellAt H2 h.length m=(poolV x (some ⟨o,off,none⟩))[m]?:=fun m=>by simpa using pb [] m
    have hCl:C<H2.length:=(List.getElem?_eq_some_iff.1 bx).1
    have cC0:cellAt H2 C 0=some (.slice bt ti.length ti.length):=by simp [cellAt,bx]
    have cC:∀ l,cellAt (H2++l) C 0=some (.slice bt ti.length ti.length):=fun l=>by rw [cellAt_ext (Ext.push H2 l) hCl]; exact cC0
    simp only [poolV] at pb pb0
    simp [mkF,cC0]
    refine aSI (fun hc2=>?_) (fun hc2=>?_) <;> simp at hc2 <;> simp [hc2]
    · obtain ⟨oi,offi,rfl,d0,d1,d2,d3⟩:=itemAt st hc2
      refine drawK true (by kernel_rfl) ?_
      simp [cC0,pb0,hc2,d0]
      have hpj:=hpl _ (List.getElem_mem hc2)
      refine callK (l12Winner_c x (some ⟨o,off,none⟩) F w tBranch tNode _ (kb.ext k.ext) hl ti[j].path (by omega)) ?_
      rintro _ _ ⟨⟨v,rfl⟩,rfl⟩
      refine ⟨fun _=>Ext.push _ _,?_⟩
      have hwin:pickW x.branches ti[j].path (holdTo x.branches ti[j].path x.branches.length) (-1)=win x.branches ti[j].path:=rfl
      rw [hwin]
      simp
      refine aSI (fun hd=>?_) (fun hd=>?_) <;> have hd':=hd <;> simp at hd <;> simp [hd']
      · have hkt:=outP_yes hc2 hd
        have hle:=outP_len x.branches i ti j
        have kv:AI h0 (H2++v) (h.length+2) (outP x.branches i ti j) a2 G2':=k.to ⟨_,rfl⟩
        have ccB:=k.cell v
        obtain ⟨oi',offi',ei,f0,f1,f2,f3⟩:=itemAt (st.to (h':=H2++v) ⟨_,rfl⟩) hc2
        simp at ei
        obtain ⟨rfl,rfl⟩:=ei
        refine drawK true (by kernel_rfl) ?_
        simp [ccB,cC,hc2,f0,f1,f2,f3]
        refine callK (l10Put_c (outP x.branches i ti j) ti[j] a2 G2' true _ kv.sl (by omega)) ?_
        rintro _ H3 ⟨a3,G3,rfl,o3⟩
        refine ⟨fun _=>o3.ext,?_⟩
        obtain ⟨s1,s2,s3⟩:=kv.set o3.ext o3.sl o3.nd o3.new
        rw [← hkt] at s2 s3 ⊢
        simp [s1]
        refine anext (j+1,a3,sA_ H3 (h.length+2) 0 [.slice a3 (outP x.branches i ti (j+1)).length (outP x.branches i ti (j+1)).length]) ⟨hc2,⟨⟨G3,s2⟩,?_,?_⟩⟩ (by simp only; omega) (by simp [pickF,wS (show j<9223372036854775807 by omega)]) rfl (by simp)
        · simp only
          rw [s3 C hCB (by simp; omega),List.getElem?_append_left hCl]
          exact bx
        · exact st.frame fun q hq=>by
            have h1:=st.lt q hq
            simp only
            rw [s3 q (fun e=>hBt (e ▸ hq)) (by simp; omega),List.getElem?_append_left h1]
      · have hkt:=outP_no hc2 hd
        exact anext (j+1,a2,H2++v) ⟨hc2,⟨⟨G2',by simp only; rw [hkt]; exact k.to ⟨_,rfl⟩⟩,by rw [List.getElem?_append_left hCl]; exact bx,st.to ⟨_,rfl⟩⟩⟩ (by simp only; omega) (by simp [pickF,wS (show j<9223372036854775807 by omega)]) rfl (by simp)
    · obtain rfl:j=ti.length:=by omega
      rw [hsucc] at k
      exact anext (i+1,a2,H2) ⟨hc,G2',k⟩ (by simp only; omega) (by simp [pickF,wS (show i<9223372036854775807 by omega)]) rfl (by simp)
  · obtain rfl:i=x.branches.length:=by omega
    have cB:=k.cell []
    simp only [List.append_nil] at cB
    have hlk:=k.len
    have y1:H[h.length+1]?=some ⟨true,true,32,[.slice none 0 0]⟩:=by rw [k.ext.2 _ (by omega)]; exact q1
    have hc1:cS_ H (h.length+1) 0 1=true:=by simp [cS_,y1]
    have hr1:cellAt (sA_ H (h.length+1) 0 [.slice a (specF x.branches x.branches.length).length (specF x.branches x.branches.length).length]) (h.length+1) 0=some (.slice a (specF x.branches x.branches.length).length (specF x.branches x.branches.length).length):=cell_after hc1
    simp [cB,hc1,hr1]
    have hne:∀ q,q≠h.length+1→(sA_ H (h.length+1) 0 [.slice a (specF x.branches x.branches.length).length (specF x.branches x.branches.length).length])[q]?=H[q]?:=fun q hq=>by rw [sAg,if_neg (fun e=>hq e.symm)]
    refine ⟨G,⟨by rw [sAl]; have:=k.ext.1; omega,fun q hq=>?_⟩,k.sl.frame fun q hq=>hne q (by have:=k.nw q hq; omega),k.nd,fun q hq=>by have:=k.nw q hq; omega⟩
    rw [hne q (by omega)]
    exact (x0.trans k.ext).2 q hq
end
end Go.Proofs.YtmpgpkdijfcfhaaGreat.Hz
