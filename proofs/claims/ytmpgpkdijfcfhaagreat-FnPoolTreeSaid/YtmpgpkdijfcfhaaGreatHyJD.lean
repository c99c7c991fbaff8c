/- Texts of the calculus and of the program's functions, merged: PD PE PF. -/
import Derived.Test.YtmpgpkdijfcfhaaGreatHyHE
import Derived.Test.YtmpgpkdijfcfhaaGreatHyHG
import Derived.Test.YtmpgpkdijfcfhaaGreatHyGU
import Derived.Test.YtmpgpkdijfcfhaaGreatHyHL
import Derived.Test.YtmpgpkdijfcfhaaGreatHyMI
import Derived.Test.YtmpgpkdijfcfhaaGreatHyHC
namespace Go.Proofs.YtmpgpkdijfcfhaaGreat.Hz
open Go.RowKit
set_option linter.unusedVariables false
set_option linter.unusedSimpArgs false
set_option maxRecDepth 20000
theorem Own.appBr {h0 h:Hp} {xs:List Branch} {a:Option Addr} {F:List Nat} (k:Own h0 47 (branchE true 60) h xs a F) (x:Branch) (b1 b2:Option Addr) (G1 G2:List Nat) (s1:slR true 60 (nodeE true) h x.fs.nodes b1 G1) (s2:slR true 9 strE h x.fs.data b2 G2) (nd:(G1++G2).Nodup) (hG:∀ q∈G1++G2,h0.length≤q∧q ∉ F) (hl:xs.length≤100000) :
    ∃ a' h' F',aappend Tryz.prog (h++[⟨true,true,47,[.int .i64 x.mode,.slice b1 x.fs.nodes.length x.fs.nodes.length,.slice b2 x.fs.data.length x.fs.data.length]⟩]) 24 24 (.slice a xs.length xs.length) (.slice (some ⟨h.length,0,none⟩) 1 1)=some (.slice a' (xs.length+1) (xs.length+1),h')∧Own h0 47 (branchE true 60) h' (xs++[x]) a' F' ∧
      (∀ q,q<h.length→q ∉ F→h'[q]?=h[q]?)∧h.length≤h'.length∧∀ q∈F',q∈F∨q∈G1++G2∨h.length≤q:=by
  have hR:(branchE true 60).R (h++[⟨true,true,47,[.int .i64 x.mode,.slice b1 x.fs.nodes.length x.fs.nodes.length,.slice b2 x.fs.data.length x.fs.data.length]⟩]) x [.int .i64 x.mode,.slice b1 x.fs.nodes.length x.fs.nodes.length,.slice b2 x.fs.data.length x.fs.data.length] (G1++G2):=⟨b1,G1,b2,G2,rfl,rfl,s1.ext (Ext.push _ _),s2.ext (Ext.push _ _)⟩
  obtain ⟨a',h',F',e1,e2,e3,e4,e5,_⟩:=(k.grow (Ext.push h [⟨true,true,47,[.int .i64 x.mode,.slice b1 x.fs.nodes.length x.fs.nodes.length,.slice b2 x.fs.data.length x.fs.data.length]⟩])).append (P:=Tryz.prog) (st:=24) (xt:=24) (x:=.slice (some ⟨h.length,0,none⟩) 1 1) (css:=[[.int .i64 x.mode,.slice b1 x.fs.nodes.length x.fs.nodes.length,.slice b2 x.fs.data.length x.fs.data.length]]) (Fs:=[G1++G2]) (ys:=[x]) (bt:=56) (z:=[.int .i64 0,.slice none 0 0,.slice none 0 0]) (by
    show srcOf Tryz.prog _ 3 _ _=_
    simp [srcOf,cellsAt,cellAt]) ⟨hR,trivial⟩ (by show elOf _ _=some (_,3,_,_); simp) (by unfold big; simp; omega) (by unfold big; simp; omega) (by simpa using nd) (by simpa using hG)
  refine ⟨a',h',F',e1,e2,fun q hq hm=>?_,by simp at e4; omega,fun q hq=>?_⟩
  · rw [e3 q (by simp; omega) hm,List.getElem?_append_left hq]
  · rcases e5 q hq with h1 | h1 | h1
    · exact .inl h1
    · exact .inr (.inl (by simpa using h1))
    · exact .inr (.inr (by simp at h1; omega))
structure PI (h0 H:Hp) (B:Nat) (x:Pool) (xs:List Branch) (a:Option Addr) (G:List Nat):Prop where
  ext:Ext h0 H
  own:Own h0 47 (branchE true 60) H xs a G
  box:H[B]?=some ⟨true,true,28,[.int .i64 x.policy,.int .i64 x.minFree,.slice a xs.length xs.length,.bool x.move.on,.bool x.move.clean,.int .i64 x.move.src,.int .i64 x.move.dst,.string (S x.move.path),.int .i64 x.move.gen,.int .i64 x.move.done]⟩
  m:B ∉ G
  hb:h0.length≤B
theorem PI.grow {h0 H H2:Hp} {B:Nat} {x:Pool} {xs:List Branch} {a:Option Addr} {G:List Nat} (k:PI h0 H B x xs a G) (e:Ext H H2):PI h0 H2 B x xs a G :=
  ⟨k.ext.trans e,k.own.grow e,(e.2 B (get_lt k.box)).trans k.box,k.m,k.hb⟩
theorem PI.cells {h0 H:Hp} {B:Nat} {x:Pool} {xs:List Branch} {a:Option Addr} {G:List Nat} (k:PI h0 H B x xs a G):∀ j,cellAt H B j=([Value.int .i64 x.policy,.int .i64 x.minFree,.slice a xs.length xs.length,.bool x.move.on,.bool x.move.clean,.int .i64 x.move.src,.int .i64 x.move.dst,.string (S x.move.path),.int .i64 x.move.gen,.int .i64 x.move.done])[j]?:=fun j=>by simp [cellAt,k.box]
theorem PI.app {h0 H:Hp} {B:Nat} {x:Pool} {xs:List Branch} {a:Option Addr} {G:List Nat} (k:PI h0 H B x xs a G) (y:Branch) (b1 b2:Option Addr) (G1 G2:List Nat) (s1:slR true 60 (nodeE true) H y.fs.nodes b1 G1) (s2:slR true 9 strE H y.fs.data b2 G2) (nd:(G1++G2).Nodup) (hG:∀ q∈G1++G2,B<q∧q ∉ G) (hl:xs.length≤100000) :
    ∃ a' H',aappend Tryz.prog (H++[⟨true,true,47,[.int .i64 y.mode,.slice b1 y.fs.nodes.length y.fs.nodes.length,.slice b2 y.fs.data.length y.fs.data.length]⟩]) 24 24 (.slice a xs.length xs.length) (.slice (some ⟨H.length,0,none⟩) 1 1)=some (.slice a' (xs.length+1) (xs.length+1),H') ∧
      cS_ H' B 2 1=true∧∃ G',PI h0 (sA_ H' B 2 [.slice a' (xs.length+1) (xs.length+1)]) B x (xs++[y]) a' G':=by
  have hb:=k.hb
  have hBl:=get_lt k.box
  obtain ⟨a',H',F',e1,e2,e3,e4,e5⟩:=k.own.appBr y b1 b2 G1 G2 s1 s2 nd (fun q hq=>⟨by have:=(hG q hq).1; omega,(hG q hq).2⟩) hl
  have hB2:H'[B]?=some ⟨true,true,28,[.int .i64 x.policy,.int .i64 x.minFree,.slice a xs.length xs.length,.bool x.move.on,.bool x.move.clean,.int .i64 x.move.src,.int .i64 x.move.dst,.string (S x.move.path),.int .i64 x.move.gen,.int .i64 x.move.done]⟩:=by rw [e3 B hBl k.m]; exact k.box
  have hne:∀ q,q≠B→(sA_ H' B 2 [.slice a' (xs.length+1) (xs.length+1)])[q]?=H'[q]?:=fun q hq=>by rw [sAg,if_neg (fun e=>hq e.symm)]
  have hm:B ∉ F':=fun hq=>by
    rcases e5 B hq with h1 | h1 | h1
    · exact k.m h1
    · have:=(hG B h1).1; omega
    · omega
  refine ⟨a',H',e1,by simp [cS_,hB2],F',⟨?_,⟨?_,e2.sl.frame fun q hq=>hne q (fun e=>hm (e ▸ hq)),e2.nd,e2.new⟩,?_,hm,hb⟩⟩
  · exact e2.ext.set hb 2 _
  · exact e2.ext.set hb 2 _
  · rw [sAg,if_pos rfl,hB2]
    simp [setL]
section
variable (x:Pool) (b:Option Addr) (F:List Nat) (w:Bool) (tBranch tNode:TypeId) (h:Hp) (k1:slR w tBranch (branchE w tNode) h x.branches b F) (hl:x.nl≤1048576) (hn:x.branches.length≤1000)
include k1 hl hn
set_option maxHeartbeats 4000000 in
theorem l12Copy_c :
    ACall Tryz.prog 186 [.agg #[.int .i64 x.policy,.int .i64 x.minFree,.slice b x.branches.length x.branches.length,.bool x.move.on,.bool x.move.clean,.int .i64 x.move.src,.int .i64 x.move.dst,.string (S x.move.path),.int .i64 x.move.gen,.int .i64 x.move.done]] h fun r h'=>∃ a G,r=.agg #[.int .i64 x.policy,.int .i64 x.minFree,.slice a x.branches.length x.branches.length,.bool x.move.on,.bool x.move.clean,.int .i64 x.move.src,.int .i64 x.move.dst,.string (S x.move.path),.int .i64 x.move.gen,.int .i64 x.move.done]∧Own h 47 (branchE true 60) h' x.branches a G:=by
  refine acall mixed Tryz.func186 rfl (by kernel_rfl) ?_
  obtain ⟨hn',hp,hf⟩:=pool_nl hl
  simp -implicitDefEqProofs [Tryz.f186]
  obtain ⟨h0,hh0⟩:∃ h0:Hp,h0=h++[⟨true,true,28,[.int .i64 x.policy,.int .i64 x.minFree,.slice b x.branches.length x.branches.length,.bool x.move.on,.bool x.move.clean,.int .i64 x.move.src,.int .i64 x.move.dst,.string (S x.move.path),.int .i64 x.move.gen,.int .i64 x.move.done]⟩,⟨true,true,28,[.int .i64 0,.int .i64 0,.slice none 0 0,.bool false,.bool false,.int .i64 0,.int .i64 0,.string (S []),.int .i64 0,.int .i64 0]⟩]:=⟨_,rfl⟩
  have x0:Ext h h0:=by rw [hh0]; exact Ext.push _ _
  have l0:h0.length=h.length+2:=by rw [hh0]; simp
  have q0:h0[h.length]?=some ⟨true,true,28,poolV x b⟩:=by rw [hh0]; simp [poolV]
  have q1:h0[h.length+1]?=some ⟨true,true,28,[.int .i64 0,.int .i64 0,.slice none 0 0,.bool false,.bool false,.int .i64 0,.int .i64 0,.string (S []),.int .i64 0,.int .i64 0]⟩:=by rw [hh0]; simp
  have kb:=k1.ext x0
  have k0:PI h0 (h0++[⟨true,true,28,[.int .i64 x.policy,.int .i64 x.minFree,.slice none 0 0,.bool x.move.on,.bool x.move.clean,.int .i64 x.move.src,.int .i64 x.move.dst,.string (S x.move.path),.int .i64 x.move.gen,.int .i64 x.move.done]⟩]) (h.length+2) x [] none [] :=
    ⟨Ext.push _ _,Own.nil (Ext.push _ _),by rw [← l0]; simp,by simp,by omega⟩
  refine aloop mixed [1,2,3,4] (fun (y:Nat × Option Addr × Hp)=>[.pointer (some ⟨h.length,0,none⟩),.pointer (some ⟨h.length+1,0,none⟩),.pointer (some ⟨h.length+2,0,none⟩),.int .i64 y.1]) (fun y=>y.2.2) (fun y=>y.1≤x.branches.length∧∃ G,PI h0 y.2.2 (h.length+2) x (x.branches.take y.1) y.2.1 G) (fun y=>x.branches.length - y.1) (0,none,_) ⟨by simp,_,by simpa using k0⟩ rfl (by simp [hh0]) ?_
  clear k0
  rintro ⟨i,a,H⟩ ⟨hi,G,k⟩
  simp only at hi k
  have pb:∀ l j,cellAt (H++l) h.length j=(poolV x b)[j]?:=fun l j=>by
    rw [cellAt_ext (k.ext.trans (Ext.push H l)) (by omega)]
    simp [cellAt,q0]
  have pb0:∀ j,cellAt H h.length j=(poolV x b)[j]?:=fun j=>by simpa using pb [] j
  simp only [poolV] at pb pb0
  have kc:=k.cells
  have hlt:(x.branches.take i).length=i:=by simp; omega
  simp only [hlt] at kc
  simp -implicitDefEqProofs [mkF,pb0]
  refine aSI (fun hc=>?_) (fun hc=>?_) <;> simp at hc <;> simp -implicitDefEqProofs [hc]
  · obtain ⟨o,off,b1,G1,b2,G2,rfl,c0,c1,c2,kn,kd⟩:=branchAtX (kb.ext k.ext) hc
    have c0':=c0 []
    have c1':=c1 []
    have c2':=c2 []
    simp only [List.append_nil] at c0' c1' c2'
    have hlim:=Fs.lim_of _ (hf i hc)
    refine drawK true (by kernel_rfl) ?_
    simp -implicitDefEqProofs [hc,c0',c1',c2',pb0,kc]
    refine callK (l6Copy_c x.branches[i].fs b1 b2 G1 G2 w w w tNode _ H kn kd hlim.1 hlim.2.2 hlim.2.1) ?_
    rintro _ H1 ⟨d1,L1,d2,L2,rfl,o1,o2,dj⟩
    refine ⟨fun _=>o1.ext,?_⟩
    have k2:=k.grow o1.ext
    have hBl:=get_lt k.box
    obtain ⟨a3,H3,eq3,cs3,G3,k3⟩:=k2.app x.branches[i] d1 d2 L1 L2 o1.sl o2.sl (List.nodup_append.2 ⟨o1.nd,o2.nd,fun p hp q hq e=>dj p hp (e ▸ hq)⟩) (fun q hq=>by
      rcases List.mem_append.1 hq with hq | hq
      · have h1:=o1.new q hq
        exact ⟨by omega,fun hm=>by have:=k.own.sl.lt q hm; omega⟩
      · have h1:=o2.new q hq
        exact ⟨by omega,fun hm=>by have:=k.own.sl.lt q hm; omega⟩) (by omega)
    rw [hlt] at eq3 k3
    simp -implicitDefEqProofs [eq3,cs3]
    rw [← List.take_succ_eq_append_getElem hc] at k3
    exact anext (i+1,a3,sA_ H3 (h.length+2) 2 [.slice a3 (i+1) (i+1)]) ⟨hc,G3,k3⟩ (by simp only; omega) (by simp [pickF,wS (show i<9223372036854775807 by omega)]) rfl (by simp)
  · obtain rfl:i=x.branches.length:=by omega
    rw [List.take_length] at k
    have q1':H[h.length+1]?=some ⟨true,true,28,[.int .i64 0,.int .i64 0,.slice none 0 0,.bool false,.bool false,.int .i64 0,.int .i64 0,.string (S []),.int .i64 0,.int .i64 0]⟩:=by rw [k.ext.2 _ (by omega)]; exact q1
    have hcs:cS_ H (h.length+1) 0 10=true:=by simp [cS_,q1']
    have hself:∀ vs:List Value,vs.length=10→(sA_ H (h.length+1) 0 vs)[h.length+1]?=some ⟨true,true,28,vs⟩:=fun vs hv=>by
      rw [sAg,if_pos rfl,q1']
      simp only [Option.map_some]
      congr 2
      exact setL_all _ _ (by rw [hv]; rfl)
    have hse:=hself [.int .i64 x.policy,.int .i64 x.minFree,.slice a x.branches.length x.branches.length,.bool x.move.on,.bool x.move.clean,.int .i64 x.move.src,.int .i64 x.move.dst,.string (S x.move.path),.int .i64 x.move.gen,.int .i64 x.move.done] rfl
    have r0:∀ j,cellAt (sA_ H (h.length+1) 0 [.int .i64 x.policy,.int .i64 x.minFree,.slice a x.branches.length x.branches.length,.bool x.move.on,.bool x.move.clean,.int .i64 x.move.src,.int .i64 x.move.dst,.string (S x.move.path),.int .i64 x.move.gen,.int .i64 x.move.done]) (h.length+1) j=([Value.int .i64 x.policy,.int .i64 x.minFree,.slice a x.branches.length x.branches.length,.bool x.move.on,.bool x.move.clean,.int .i64 x.move.src,.int .i64 x.move.dst,.string (S x.move.path),.int .i64 x.move.gen,.int .i64 x.move.done])[j]?:=fun j=>by simp [cellAt,hse]
    have hne:∀ q,q≠h.length+1→(sA_ H (h.length+1) 0 [.int .i64 x.policy,.int .i64 x.minFree,.slice a x.branches.length x.branches.length,.bool x.move.on,.bool x.move.clean,.int .i64 x.move.src,.int .i64 x.move.dst,.string (S x.move.path),.int .i64 x.move.gen,.int .i64 x.move.done])[q]?=H[q]?:=fun q hq=>by rw [sAg,if_neg (fun e=>hq e.symm)]
    simp -implicitDefEqProofs [kc,hcs,r0]
    refine ⟨G,⟨⟨?_,fun q hq=>?_⟩,k.own.sl.frame fun q hq=>hne q (by have:=k.own.new q hq; omega),k.own.nd,fun q hq=>by have:=k.own.new q hq; omega⟩⟩
    · rw [sAl]; have:=k.ext.1; omega
    · rw [hne q (by omega),k.ext.2 q (by omega)]; exact x0.2 q hq
end
theorem fsPlace_nlN {N:Nat} (hN:1000≤N) (f:Fs) (p:Str) (kind:Int) (data:Str) (t g:Int) (h:f.nl≤N):(fsPlace f p kind data t g).1.nl≤N:=by
  unfold fsPlace
  repeat' split
  all_goals first | exact h | exact fsMake_nlN hN _ _ _ _ _ _ h | exact fsSet_nlN hN _ _ _ _ _ h
theorem PI.fs {h0 H H2:Hp} {B:Nat} {x:Pool} {xs:List Branch} {o off:Nat} {G:List Nat} (k:PI h0 H B x xs (some ⟨o,off,none⟩) G) {i:Nat} (hi:i<xs.length) {g:Fs} {c1 c2:Option Addr} (r:FsRes g H H2 (.agg #[.slice c1 g.nodes.length g.nodes.length,.slice c2 g.data.length g.data.length])) :
    cS_ H2 o (off+i * 3+1) 2=true∧∃ G',PI h0 (sA_ H2 o (off+i * 3+1) [.slice c1 g.nodes.length g.nodes.length,.slice c2 g.data.length g.data.length]) B x (xs.set i ⟨xs[i].mode,g⟩) (some ⟨o,off,none⟩) G':=by
  obtain ⟨e1,K1,e2,K2,he,o1,o2,dj⟩:=r
  simp only [Value.agg.injEq,Array.mk.injEq,List.cons.injEq,Value.slice.injEq,and_true] at he
  obtain ⟨rfl,rfl⟩:=he
  have k2:=k.grow o1.ext
  obtain ⟨c,Fi,hR,hFi,-,hput⟩:=k2.own.put (List.getElem?_eq_getElem hi)
  obtain ⟨a1,F1,a2,F2,hc,-,-,-⟩:=hR
  have ho:o∈G:=slR_some_mem k.own.sl
  have hlH:=k.own.sl.lt
  have hBl:=get_lt k.box
  have nd:(K1++K2).Nodup:=List.nodup_append.2 ⟨o1.nd,o2.nd,fun p hp q hq e=>dj p hp (e ▸ hq)⟩
  have hnew:∀ q∈K1++K2,H.length≤q:=fun q hq=>by
    rcases List.mem_append.1 hq with hq | hq
    · exact o1.new q hq
    · exact o2.new q hq
  obtain ⟨g1,F',ow,hoF,g4⟩:=hput 1 [.slice c1 g.nodes.length g.nodes.length,.slice c2 g.data.length g.data.length] ⟨xs[i].mode,g⟩ (K1++K2) (by show 1+2≤3; omega) (by
    rw [hc]
    exact ⟨c1,K1,c2,K2,rfl,rfl,o1.sl,o2.sl⟩) (fun hm=>by have:=hnew o hm; have:=hlH o ho; omega) nd (fun q hq=>⟨by have:=hnew q hq; have:=k.ext.1; omega,fun hq1=>by have:=hnew q hq; have:=hlH q hq1; omega⟩)
  have hn3:(branchE true 60).n=3:=rfl
  simp only [hn3,List.length_cons,List.length_nil] at g1 ow
  have hoB:o≠B:=fun e=>k.m (e ▸ ho)
  refine ⟨g1,F',⟨ow.ext,ow,?_,fun hm=>?_,k.hb⟩⟩
  · rw [sAg,if_neg hoB,k2.box]
    simp
  · rcases g4 B hm with h1 | h1
    · exact k.m h1
    · have:=hnew B h1; omega
section
variable (x:Pool) (b:Option Addr) (F:List Nat) (w:Bool) (tBranch tNode:TypeId) (h:Hp) (k1:slR w tBranch (branchE w tNode) h x.branches b F) (hl:x.nl≤1048576) (hn:x.branches.length≤1000) (i:Nat) (hi:i<x.branches.length) (p:Str) (kind:Int) (data:Str) (t g:Int) (hps:p.length≤1048576) (hdl:data.length≤1048576) (hy:Pool.nl ⟨x.policy,x.minFree,x.branches.set i ⟨x.branches[i].mode,(fsPlace x.branches[i].fs p kind data t g).1⟩,x.move⟩≤1048576)
include k1 hl hn hi hps hdl hy
set_option maxHeartbeats 8000000 in
theorem l12With_c :
    ACall Tryz.prog 135 [.agg #[.int .i64 x.policy,.int .i64 x.minFree,.slice b x.branches.length x.branches.length,.bool x.move.on,.bool x.move.clean,.int .i64 x.move.src,.int .i64 x.move.dst,.string (S x.move.path),.int .i64 x.move.gen,.int .i64 x.move.done],.int .i64 i,.string (S p),.int .i64 kind,.string (S data),.int .i64 t,.int .i64 g] h fun r h'=>Ext h h'∧(r=.agg #[.int .i64 x.policy,.int .i64 x.minFree,.slice b x.branches.length x.branches.length,.bool x.move.on,.bool x.move.clean,.int .i64 x.move.src,.int .i64 x.move.dst,.string (S x.move.path),.int .i64 x.move.gen,.int .i64 x.move.done]∨∃ a G,r=.agg #[.int .i64 x.policy,.int .i64 x.minFree,.slice a x.branches.length x.branches.length,.bool x.move.on,.bool x.move.clean,.int .i64 x.move.src,.int .i64 x.move.dst,.string (S x.move.path),.int .i64 x.move.gen,.int .i64 x.move.done]∧Own h 47 (branchE true 60) h' (x.branches.set i ⟨x.branches[i].mode,(fsPlace x.branches[i].fs p kind data t g).1⟩) a G):=by
  refine acall mixed Tryz.func135 rfl (by kernel_rfl) ?_
  obtain ⟨hn',hp,hf⟩:=pool_nl hl
  simp -implicitDefEqProofs [Tryz.f135]
  obtain ⟨h0,hh0⟩:∃ h0:Hp,h0=h++[⟨true,true,28,[.int .i64 x.policy,.int .i64 x.minFree,.slice b x.branches.length x.branches.length,.bool x.move.on,.bool x.move.clean,.int .i64 x.move.src,.int .i64 x.move.dst,.string (S x.move.path),.int .i64 x.move.gen,.int .i64 x.move.done]⟩,⟨true,true,28,[.int .i64 0,.int .i64 0,.slice none 0 0,.bool false,.bool false,.int .i64 0,.int .i64 0,.string (S []),.int .i64 0,.int .i64 0]⟩]:=⟨_,rfl⟩
  have x0:Ext h h0:=by rw [hh0]; exact Ext.push _ _
  have l0:h0.length=h.length+2:=by rw [hh0]; simp
  have q0:h0[h.length]?=some ⟨true,true,28,poolV x b⟩:=by rw [hh0]; simp [poolV]
  have q1:h0[h.length+1]?=some ⟨true,true,28,[.int .i64 0,.int .i64 0,.slice none 0 0,.bool false,.bool false,.int .i64 0,.int .i64 0,.string (S []),.int .i64 0,.int .i64 0]⟩:=by rw [hh0]; simp
  have kb:=k1.ext x0
  rw [← hh0]
  refine cK (l12Copy_c x b F w tBranch tNode h0 kb hl hn) ?_
  rintro _ H1 ⟨a,G,rfl,o1⟩
  simp -implicitDefEqProofs
  have k:PI h0 (H1++[⟨true,true,28,[.int .i64 x.policy,.int .i64 x.minFree,.slice a x.branches.length x.branches.length,.bool x.move.on,.bool x.move.clean,.int .i64 x.move.src,.int .i64 x.move.dst,.string (S x.move.path),.int .i64 x.move.gen,.int .i64 x.move.done]⟩]) H1.length x x.branches a G:=⟨o1.ext.trans (Ext.push _ _),o1.grow (Ext.push _ _),by simp,fun hm=>by have:=o1.sl.lt _ hm; omega,o1.ext.1⟩
  obtain ⟨B,hB⟩:∃ B,B=H1.length:=⟨_,rfl⟩
  rw [← hB] at k ⊢
  generalize H1++[(⟨true,true,28,[.int .i64 x.policy,.int .i64 x.minFree,.slice a x.branches.length x.branches.length,.bool x.move.on,.bool x.move.clean,.int .i64 x.move.src,.int .i64 x.move.dst,.string (S x.move.path),.int .i64 x.move.gen,.int .i64 x.move.done]⟩:Ob)]=H at k ⊢
  clear hB o1
  have kc:=k.cells
  obtain ⟨o,off,d1,L1,d2,L2,rfl,c0,c1,c2,kn,kd,-,-⟩:=branchAt k.own.sl hi
  have fnl:=fsPlace_nl x.branches[i].fs p kind data t g (hf i hi)
  refine drawK true (by kernel_rfl) ?_
  simp -implicitDefEqProofs [kc,hi,c1,c2]
  refine callK (fsPlace_spec_c x.branches[i].fs d1 d2 L1 L2 true _ H kn kd (hf i hi) p kind data t g hps hdl) ?_
  rintro _ H2 ⟨_,rfl,fr⟩
  have hfr:=fr
  obtain ⟨e1,K1,e2,K2,rfl,o1,o2,dj⟩:=fr
  refine ⟨fun _=>o1.ext,?_⟩
  obtain ⟨cs,G',k2⟩:=k.fs hi hfr
  clear hfr o1 o2 dj
  simp -implicitDefEqProofs [hi,cs]
  generalize sA_ H2 o (off+i * 3+1) [.slice e1 (fsPlace x.branches[i].fs p kind data t g).1.nodes.length (fsPlace x.branches[i].fs p kind data t g).1.nodes.length,.slice e2 (fsPlace x.branches[i].fs p kind data t g).1.data.length (fsPlace x.branches[i].fs p kind data t g).1.data.length]=H3 at k2 ⊢
  clear kc k cs c0 c1 c2 kn kd
  have kc:=k2.cells
  simp only [List.length_set] at kc
  obtain ⟨y,hyd⟩:∃ y:Pool,y=⟨x.policy,x.minFree,x.branches.set i ⟨x.branches[i].mode,(fsPlace x.branches[i].fs p kind data t g).1⟩,x.move⟩:=⟨_,rfl⟩
  rw [← hyd] at hy
  have hyb:y.branches=x.branches.set i ⟨x.branches[i].mode,(fsPlace x.branches[i].fs p kind data t g).1⟩:=by rw [hyd]
  have pk:=poolOk_spec_c y (some ⟨o,off,none⟩) G' true _ _ H3 (by rw [hyb]; exact k2.own.sl) hy
  have hyl:y.branches.length=x.branches.length:=by rw [hyb]; simp
  rw [hyl,show y.policy=x.policy from by rw [hyd],show y.minFree=x.minFree from by rw [hyd],show y.move=x.move from by rw [hyd]] at pk
  simp -implicitDefEqProofs [kc]
  refine cK pk ?_
  rintro _ _ ⟨⟨t4,rfl⟩,rfl⟩
  have k3:=k2.grow (Ext.push H3 t4)
  generalize H3++t4=H4 at k3 ⊢
  have kc3:=k3.cells
  simp only [List.length_set] at kc3
  have q0':H4[h.length]?=some ⟨true,true,28,poolV x b⟩:=by rw [k3.ext.2 _ (by omega)]; exact q0
  have q1':H4[h.length+1]?=some ⟨true,true,28,[.int .i64 0,.int .i64 0,.slice none 0 0,.bool false,.bool false,.int .i64 0,.int .i64 0,.string (S []),.int .i64 0,.int .i64 0]⟩:=by rw [k3.ext.2 _ (by omega)]; exact q1
  have pb:∀ j,cellAt H4 h.length j=(poolV x b)[j]?:=fun j=>by simp [cellAt,q0']
  simp only [poolV] at pb
  have hcs:cS_ H4 (h.length+1) 0 10=true:=by simp [cS_,q1']
  have hself:∀ vs:List Value,vs.length=10→(sA_ H4 (h.length+1) 0 vs)[h.length+1]?=some ⟨true,true,28,vs⟩:=fun vs hv=>by
    rw [sAg,if_pos rfl,q1']
    simp only [Option.map_some]
    congr 2
    exact setL_all _ _ (by rw [hv]; rfl)
  have hext:∀ vs:List Value,Ext h (sA_ H4 (h.length+1) 0 vs):=fun vs=>(x0.trans k3.ext).set (by omega) 0 vs
  simp -implicitDefEqProofs
  cases hok:poolOk y
  · have hse:=hself [.int .i64 x.policy,.int .i64 x.minFree,.slice b x.branches.length x.branches.length,.bool x.move.on,.bool x.move.clean,.int .i64 x.move.src,.int .i64 x.move.dst,.string (S x.move.path),.int .i64 x.move.gen,.int .i64 x.move.done] rfl
    have r0:∀ j,cellAt (sA_ H4 (h.length+1) 0 [.int .i64 x.policy,.int .i64 x.minFree,.slice b x.branches.length x.branches.length,.bool x.move.on,.bool x.move.clean,.int .i64 x.move.src,.int .i64 x.move.dst,.string (S x.move.path),.int .i64 x.move.gen,.int .i64 x.move.done]) (h.length+1) j=([Value.int .i64 x.policy,.int .i64 x.minFree,.slice b x.branches.length x.branches.length,.bool x.move.on,.bool x.move.clean,.int .i64 x.move.src,.int .i64 x.move.dst,.string (S x.move.path),.int .i64 x.move.gen,.int .i64 x.move.done])[j]?:=fun j=>by simp [cellAt,hse]
    simp -implicitDefEqProofs [pb,hcs,r0]
    exact hext _
  · have hse:=hself [.int .i64 x.policy,.int .i64 x.minFree,.slice (some ⟨o,off,none⟩) x.branches.length x.branches.length,.bool x.move.on,.bool x.move.clean,.int .i64 x.move.src,.int .i64 x.move.dst,.string (S x.move.path),.int .i64 x.move.gen,.int .i64 x.move.done] rfl
    have r0:∀ j,cellAt (sA_ H4 (h.length+1) 0 [.int .i64 x.policy,.int .i64 x.minFree,.slice (some ⟨o,off,none⟩) x.branches.length x.branches.length,.bool x.move.on,.bool x.move.clean,.int .i64 x.move.src,.int .i64 x.move.dst,.string (S x.move.path),.int .i64 x.move.gen,.int .i64 x.move.done]) (h.length+1) j=([Value.int .i64 x.policy,.int .i64 x.minFree,.slice (some ⟨o,off,none⟩) x.branches.length x.branches.length,.bool x.move.on,.bool x.move.clean,.int .i64 x.move.src,.int .i64 x.move.dst,.string (S x.move.path),.int .i64 x.move.gen,.int .i64 x.move.done])[j]?:=fun j=>by simp [cellAt,hse]
    simp -implicitDefEqProofs [kc3,hcs,r0]
    exact ⟨hext _,.inr ⟨G',⟨hext _,k3.own.sl.frame fun q hq=>by rw [sAg,if_neg (fun e=>by have:=k3.own.new q hq; omega)],k3.own.nd,fun q hq=>by have:=k3.own.new q hq; omega⟩⟩⟩
end
def poolC (x:Pool) (n:Nat) (a:Option Addr):List Value:=[.int .i64 x.policy,.int .i64 x.minFree,.slice a n n,.bool x.move.on,.bool x.move.clean,.int .i64 x.move.src,.int .i64 x.move.dst,.string (S x.move.path),.int .i64 x.move.gen,.int .i64 x.move.done]
structure PX (h1:Hp) (c B:Nat) (H:Hp) (x:Pool) (a:Option Addr) (G:List Nat):Prop where
  dr:Dr c h1 H
  d:Draw H c
  sl:slR true 47 (branchE true 60) H x.branches a G
  nd:G.Nodup
  w:∀ q∈G,h1.length≤q
  box:H[B]?=some ⟨true,true,28,poolC x x.branches.length a⟩
  m:B ∉ G
  hb:h1.length≤B
section
variable {h1 H H2:Hp} {c B:Nat} {x:Pool} {a:Option Addr} {G:List Nat}
theorem PX.step (l:PX h1 c B H x a G) (hc:c<h1.length) (y:Dr c H H2) (d:Draw H2 c):PX h1 c B H2 x a G :=
  ⟨l.dr.trans y,d,y.sl l.sl (fun hm=>by have:=l.w _ hm; omega),l.nd,l.w,by rw [y.2 B (get_lt l.box) (by have:=l.hb; omega)]; exact l.box,l.m,l.hb⟩
theorem PX.cells (l:PX h1 c B H x a G):∀ j,cellAt H B j=(poolC x x.branches.length a)[j]?:=fun j=>by simp [cellAt,l.box]
theorem PX.app (l:PX h1 c B H x a G) (hc:c<h1.length) (y:Branch) (b1 b2:Option Addr) (G1 G2:List Nat) (s1:slR true 60 (nodeE true) H y.fs.nodes b1 G1) (s2:slR true 9 strE H y.fs.data b2 G2) (nd:(G1++G2).Nodup) (hG:∀ q∈G1++G2,B<q∧q ∉ G) (hl:x.branches.length≤100000) :
    ∃ a' H',aappend Tryz.prog (H++[⟨true,true,47,[.int .i64 y.mode,.slice b1 y.fs.nodes.length y.fs.nodes.length,.slice b2 y.fs.data.length y.fs.data.length]⟩]) 24 24 (.slice a x.branches.length x.branches.length) (.slice (some ⟨H.length,0,none⟩) 1 1)=some (.slice a' (x.branches.length+1) (x.branches.length+1),H') ∧
      cS_ H' B 2 1=true∧∃ G',PX h1 c B (sA_ H' B 2 [.slice a' (x.branches.length+1) (x.branches.length+1)]) { x with branches:=x.branches++[y] } a' G':=by
  have hb:=l.hb
  have hBl:=get_lt l.box
  have hcl:=l.d.lt
  have hdr:=l.dr.1
  obtain ⟨a',H',F',e1,e2,e3,e4,e5⟩:=(Own.any l.sl l.nd).appBr y b1 b2 G1 G2 s1 s2 nd (fun q hq=>⟨Nat.zero_le _,(hG q hq).2⟩) hl
  have hcG:c ∉ G:=fun hm=>by have:=l.w c hm; omega
  have hB2:H'[B]?=some ⟨true,true,28,poolC x x.branches.length a⟩:=by rw [e3 B hBl l.m]; exact l.box
  have hne:∀ q,q≠B→(sA_ H' B 2 [.slice a' (x.branches.length+1) (x.branches.length+1)])[q]?=H'[q]?:=fun q hq=>by rw [sAg,if_neg (fun e=>hq e.symm)]
  have hm:B ∉ F':=fun hq=>by
    rcases e5 B hq with h1 | h1 | h1
    · exact l.m h1
    · have:=(hG B h1).1; omega
    · omega
  have hw:∀ q∈F',h1.length≤q:=fun q hq=>by
    rcases e5 q hq with h1 | h1 | h1
    · exact l.w q h1
    · have:=(hG q h1).1; omega
    · omega
  refine ⟨a',H',e1,by simp [cS_,hB2,poolC],F',⟨⟨by rw [sAl]; omega,fun q hq hn=>?_⟩,?_,e2.sl.frame fun q hq=>hne q (fun e=>hm (e ▸ hq)),e2.nd,hw,?_,hm,hb⟩⟩
  · rw [hne q (by omega),e3 q (by omega) (fun hm=>by have:=l.w q hm; omega)]
    exact l.dr.2 q hq hn
  · -- the cursor
    obtain ⟨code,ad,Fc,wc,tc,pc,sc,d1,d2,d3,d4⟩:=l.d
    refine Draw.frame ⟨code,ad,Fc,wc,tc,pc,sc,d1,d2,d3,d4⟩ fun q hq=>?_
    rw [hne q (by omega),e3 q (by omega) (fun hm=>by have:=l.w q hm; omega)]
  · rw [sAg,if_pos rfl,hB2]
    simp [setL,poolC]
theorem PX.store (l:PX h1 c B H x a G) (hc:c<h1.length) (e:Ext H H2) {y:Pool} {a':Option Addr} {G':List Nat} (s:slR true 47 (branchE true 60) H2 y.branches a' G') (nd:G'.Nodup) (hG:∀ q∈G',q∈G∨H.length≤q) :
    cS_ H2 B 0 10=true∧PX h1 c B (sA_ H2 B 0 (poolC y y.branches.length a')) y a' G':=by
  have hb:=l.hb
  have hBl:=get_lt l.box
  have hcl:=l.d.lt
  have hdr:=l.dr.1
  have hB2:H2[B]?=some ⟨true,true,28,poolC x x.branches.length a⟩:=by rw [e.2 B hBl]; exact l.box
  have hne:∀ q,q≠B→(sA_ H2 B 0 (poolC y y.branches.length a'))[q]?=H2[q]?:=fun q hq=>by rw [sAg,if_neg (fun e=>hq e.symm)]
  have hm:B ∉ G':=fun hq=>by
    rcases hG B hq with h1 | h1
    · exact l.m h1
    · omega
  refine ⟨by simp [cS_,hB2,poolC],⟨⟨by rw [sAl]; have:=e.1; omega,fun q hq hn=>?_⟩,?_,s.frame fun q hq=>hne q (fun e=>hm (e ▸ hq)),nd,fun q hq=>?_,?_,hm,hb⟩⟩
  · rw [hne q (by omega),e.2 q (by omega)]
    exact l.dr.2 q hq hn
  · exact (l.d.ext e).frame fun q hq=>hne q (by omega)
  · rcases hG q hq with h1 | h1
    · exact l.w q h1
    · omega
  · rw [sAg,if_pos rfl,hB2]
    simp only [Option.map_some]
    congr 2
theorem PX.appAt (l:PX h1 c B H x a G) (y:Branch) (b1 b2:Option Addr) (G1 G2:List Nat) (s1:slR true 60 (nodeE true) H y.fs.nodes b1 G1) (s2:slR true 9 strE H y.fs.data b2 G2) (nd:(G1++G2).Nodup) (hG:∀ q∈G1++G2,h1.length≤q∧q ∉ G∧q≠B) (hl:x.branches.length≤100000)
    (o:Nat) (ho:H[o]?=some ⟨true,true,47,[.int .i64 y.mode,.slice b1 y.fs.nodes.length y.fs.nodes.length,.slice b2 y.fs.data.length y.fs.data.length]⟩) :
    ∃ a' H',aappend Tryz.prog H 24 24 (.slice a x.branches.length x.branches.length) (.slice (some ⟨o,0,none⟩) 1 1)=some (.slice a' (x.branches.length+1) (x.branches.length+1),H')∧H.length≤H'.length∧(∀ q,q<H.length→q ∉ G→H'[q]?=H[q]?) ∧
      ∃ F',slR true 47 (branchE true 60) H' (x.branches++[y]) a' F'∧F'.Nodup∧(∀ q∈F',h1.length≤q)∧B ∉ F':=by
  have hR:(branchE true 60).R H y [.int .i64 y.mode,.slice b1 y.fs.nodes.length y.fs.nodes.length,.slice b2 y.fs.data.length y.fs.data.length] (G1++G2):=⟨b1,G1,b2,G2,rfl,rfl,s1,s2⟩
  have hBl:=get_lt l.box
  obtain ⟨a',h',F',e1,e2,e3,e4,e5,_⟩:=(Own.any l.sl l.nd).append (P:=Tryz.prog) (st:=24) (xt:=24) (x:=.slice (some ⟨o,0,none⟩) 1 1) (css:=[[.int .i64 y.mode,.slice b1 y.fs.nodes.length y.fs.nodes.length,.slice b2 y.fs.data.length y.fs.data.length]]) (Fs:=[G1++G2]) (ys:=[y]) (bt:=56) (z:=[.int .i64 0,.slice none 0 0,.slice none 0 0]) (by
    show srcOf Tryz.prog _ 3 _ _=_
    simp [srcOf,cellsAt,cellAt,ho]) ⟨hR,trivial⟩ (by show elOf _ _=some (_,3,_,_); simp) (by unfold big; simp; omega) (by unfold big; simp; omega) (by simpa using nd) (fun q hq=>⟨Nat.zero_le _,(hG q (by simpa using hq)).2.1⟩)
  refine ⟨a',h',e1,e4,e3,F',e2.sl,e2.nd,fun q hq=>?_,fun hq=>?_⟩
  · rcases e5 q hq with h2 | h2 | h2
    · exact l.w q h2
    · exact (hG q (by simpa using h2)).1
    · have:=l.dr.1; omega
  · rcases e5 B hq with h2 | h2 | h2
    · exact l.m h2
    · exact (hG B (by simpa using h2)).2.2 rfl
    · omega
theorem PX.row (hc:c<h1.length) (hb:h1.length≤B) (dr:Dr c h1 H) (d:Draw H c) {n:Nat} {a':Option Addr} {G':List Nat} {ys:List Branch} (bx:H[B]?=some ⟨true,true,28,poolC x n a⟩)
    (s:slR true 47 (branchE true 60) H ys a' G') (nd:G'.Nodup) (w:∀ q∈G',h1.length≤q) (m:B ∉ G') :
    cS_ H B 2 1=true∧PX h1 c B (sA_ H B 2 [.slice a' ys.length ys.length]) { x with branches:=ys } a' G':=by
  have hne:∀ q,q≠B→(sA_ H B 2 [.slice a' ys.length ys.length])[q]?=H[q]?:=fun q hq=>by rw [sAg,if_neg (fun e=>hq e.symm)]
  refine ⟨by simp [cS_,bx,poolC],⟨⟨by rw [sAl]; exact dr.1,fun q hq hn=>?_⟩,d.frame fun q hq=>hne q (by omega),s.frame fun q hq=>hne q (fun e=>m (e ▸ hq)),nd,w,?_,m,hb⟩⟩
  · rw [hne q (by omega)]
    exact dr.2 q hq hn
  · rw [sAg,if_pos rfl,bx]
    simp [setL,poolC]
end
def move0:Move:=⟨false,false,0,0,[],0,0⟩
structure PBd (x:Pool):Prop where
  len:x.branches.length≤3
  nl_:∀ y∈x.branches,y.fs.nl≤1000
  path:x.move.path.length≤1000
def PL (h1:Hp) (c B:Nat) (n:Nat) (H:Hp):Prop:=∃ x a G,PX h1 c B H x a G∧x.branches.length=n∧PBd x∧x.move=move0
def PRes (h:Hp) (c:Nat) (h':Hp) (r:Value):Prop:=∃ (x:Pool) (a:Option Addr) (G:List Nat),r=.agg (poolC x x.branches.length a).toArray∧Dr c h h'∧Draw h' c∧slR true 47 (branchE true 60) h' x.branches a G∧G.Nodup∧(∀ q∈G,h.length≤q)∧PBd x∧1≤x.branches.length
section
variable {h1 H H2:Hp} {c B:Nat} {x:Pool} {a:Option Addr} {G:List Nat}
theorem putUp_in (x:Item):∀ (t:List Item) (o:List Item × Bool) (z:Item),z∈(putUp x t o).1→z∈o.1∨z=x∨z∈t
  | [],o,z,h=>.inl h
  | y :: t,o,z,h=>by
    rcases putUp_in x t _ z h with h | h | h
    · have h2:z∈(putA o x y).1∨z=y:=by
        unfold putB at h
        split at h
        · simp at h; exact h
        · exact .inl h
      rcases h2 with h2 | h2
      · unfold putA at h2
        split at h2
        · simp at h2
          rcases h2 with h2 | h2
          · exact .inl h2
          · exact .inr (.inl h2)
        · exact .inl h2
      · exact .inr (.inr (by simp [h2]))
    · exact .inr (.inl h)
    · exact .inr (.inr (by simp [h]))
theorem putIt_in {t:List Item} {x z:Item} (h:z∈putIt t x):z∈t∨z=x:=by
  unfold putIt at h
  split at h
  · rcases putUp_in x t _ z h with h | h | h
    · simp at h
    · exact .inr h
    · exact .inl h
  · rcases List.mem_append.1 h with h | h
    · rcases putUp_in x t _ z h with h | h | h
      · simp at h
      · exact .inr h
      · exact .inl h
    · exact .inr (by simpa using h)
theorem foldPut_in:∀ (xs t:List Item) (z:Item),z∈xs.foldl putIt t→z∈t∨z∈xs
  | [],t,z,h=>.inl h
  | x :: xs,t,z,h=>by
    rcases foldPut_in xs _ z h with h | h
    · rcases putIt_in h with h | h
      · exact .inl h
      · exact .inr (by simp [h])
    · exact .inr (by simp [h])
theorem path_sm {f:Fs} {x:Item} (hx:x∈tI_ f):x.path.length≤100:=by
  obtain ⟨ms,h,h1,h2,h3⟩:=tree_path hx
  have hne:ms≠[]:=fun e=>by rw [e] at h1; simp at h1
  rw [h,pathOf_raw hne h2 h3,rawP_len]
  have:=sum_names ms (fun x hx=>List.all_eq_true.1 h3 x hx)
  omega
theorem specF_small {bs:List Branch} {k:Nat} {z:Item} (h:z∈specF bs k):z.path.length≤100:=by
  unfold specF at h
  rcases foldPut_in _ _ z h with h | h
  · simp at h
  · obtain ⟨i,-,h2,-⟩:=specTo_mem.1 h
    unfold tre at h2
    split at h2
    · exact path_sm h2
    · simp at h2
theorem PBd.nl (hb:PBd x):x.nl≤1048576:=by
  have h1:=hb.len
  have h3:=hb.path
  have:∀ (bs:List Branch),(∀ y∈bs,y.fs.nl≤1000)→sumL Branch.nl bs≤1000 * bs.length:=by
    intro bs
    induction bs with
    | nil=>intro _; simp [sumL]
    | cons y bs ih =>
      intro h
      have h1:=ih fun z hz=>h z (by simp [hz])
      have h2:y.nl≤1000:=h y (by simp)
      simp only [sumL,List.length_cons]
      omega
  have h4:=this x.branches hb.nl_
  simp only [Pool.nl,Move.nl]
  omega
theorem PBd.set (hb:PBd x) {i:Nat} (m:Int) {f:Fs} (hf:f.nl≤1000):PBd { x with branches:=x.branches.set i ⟨m,f⟩ }:=by
  refine ⟨by simp; exact hb.len,fun y hy=>?_,hb.path⟩
  rcases List.mem_or_eq_of_mem_set hy with h | h
  · exact hb.nl_ y h
  · rw [h]; exact hf
theorem PBd.app (hb:PBd x) (hl:x.branches.length≤2) (m:Int) {f:Fs} (hf:f.nl≤1000):PBd { x with branches:=x.branches++[⟨m,f⟩] }:=by
  refine ⟨by simp; omega,fun y hy=>?_,hb.path⟩
  rcases List.mem_append.1 hy with h | h
  · exact hb.nl_ y h
  · simp at h; rw [h]; exact hf
def FsOwn (n0:Nat) (f:Fs) (v:Value) (H:Hp):Prop:=∃ e1 K1 e2 K2,v=.agg #[.slice e1 f.nodes.length f.nodes.length,.slice e2 f.data.length f.data.length]∧slR true 60 (nodeE true) H f.nodes e1 K1∧slR true 9 strE H f.data e2 K2∧(K1++K2).Nodup∧∀ q∈K1++K2,n0≤q
theorem FsOwn.of {f:Fs} {v:Value} {n0:Nat} (k:FsRes f H H2 v) (hn:n0≤H.length):FsOwn n0 f v H2:=by
  obtain ⟨e1,K1,e2,K2,rfl,o1,o2,dj⟩:=k
  refine ⟨e1,K1,e2,K2,rfl,o1.sl,o2.sl,List.nodup_append.2 ⟨o1.nd,o2.nd,fun p hp q hq e=>dj p hp (e ▸ hq)⟩,fun q hq=>?_⟩
  rcases List.mem_append.1 hq with h | h
  · have:=o1.new q h; omega
  · have:=o2.new q h; omega
theorem FsOwn.frame {f:Fs} {v:Value} {n0:Nat} (k:FsOwn n0 f v H) (y:∀ q,n0≤q→H2[q]?=H[q]?):FsOwn n0 f v H2:=by
  obtain ⟨e1,K1,e2,K2,rfl,s1,s2,nd,hn⟩:=k
  exact ⟨e1,K1,e2,K2,rfl,s1.frame fun q hq=>y q (hn q (by simp [hq])),s2.frame fun q hq=>y q (hn q (by simp [hq])),nd,hn⟩
theorem PX.fs {o off:Nat} (l:PX h1 c B H x (some ⟨o,off,none⟩) G) (hc:c<h1.length) {i:Nat} (hi:i<x.branches.length) {g:Fs} {c1 c2:Option Addr} {K1 K2:List Nat} (s1:slR true 60 (nodeE true) H g.nodes c1 K1) (s2:slR true 9 strE H g.data c2 K2) (nd:(K1++K2).Nodup) {n0:Nat} (hn0:∀ q∈K1++K2,n0≤q) (hG:∀ q∈G,q<n0) (hB:B<n0) :
    o∈G∧cS_ H o (off+i * 3+1) 2=true∧∃ G',PX h1 c B (sA_ H o (off+i * 3+1) [.slice c1 g.nodes.length g.nodes.length,.slice c2 g.data.length g.data.length]) { x with branches:=x.branches.set i ⟨x.branches[i].mode,g⟩ } (some ⟨o,off,none⟩) G':=by
  obtain ⟨cc,Fi,hR,hFi,-,hput⟩:=(Own.any l.sl l.nd).put (List.getElem?_eq_getElem hi)
  obtain ⟨a1,F1,a2,F2,hcc,-,-,-⟩:=hR
  have ho:o∈G:=slR_some_mem l.sl
  have hoB:o≠B:=fun e=>l.m (e ▸ ho)
  have hw:=l.w
  have hb:=l.hb
  obtain ⟨g1,F',ow,hoF,g4⟩:=hput 1 [.slice c1 g.nodes.length g.nodes.length,.slice c2 g.data.length g.data.length] ⟨x.branches[i].mode,g⟩ (K1++K2) (by show 1+2≤3; omega) (by
    rw [hcc]
    exact ⟨c1,K1,c2,K2,rfl,rfl,s1,s2⟩) (fun hm=>by have:=hn0 o hm; have:=hG o ho; omega) nd (fun q hq=>⟨Nat.zero_le _,fun hq1=>by have:=hn0 q hq; have:=hG q hq1; omega⟩)
  have hn3:(branchE true 60).n=3:=rfl
  simp only [hn3,List.length_cons,List.length_nil] at g1 ow
  have hne:∀ q,q≠o→(sA_ H o (off+i * 3+1) [.slice c1 g.nodes.length g.nodes.length,.slice c2 g.data.length g.data.length])[q]?=H[q]?:=fun q hq=>by rw [sAg,if_neg (fun e=>hq e.symm)]
  have hd:=l.dr.1
  have ho1:=hw o ho
  have hF':∀ q∈F',q∈G∨n0≤q:=fun q hq=>(g4 q hq).imp id fun h=>hn0 q h
  have hl0:=get_lt l.box
  refine ⟨ho,g1,F',⟨⟨by rw [sAl]; exact hd,fun q hq hn=>?_⟩,l.d.frame fun q hq=>hne q (by omega),ow.sl,ow.nd,fun q hq=>?_,?_,fun hm=>?_,hb⟩⟩
  · rw [hne q (by omega)]; exact l.dr.2 q hq hn
  · rcases hF' q hq with h | h
    · exact hw q h
    · omega
  · rw [hne B (fun e=>hoB e.symm),l.box]
    simp [poolC]
  · rcases hF' B hm with h | h
    · exact l.m h
    · omega
end
theorem lit_ints (xs:List Int) (H:Hp):slR true 3 intE (H++[⟨true,true,3,xs.map fun x=>.int .i64 x⟩]) xs (some ⟨H.length,0,none⟩) [H.length]:=by
  have o:=Own.lit (h0:=H) (h:=H) (e:=3) (A:=intE) (xs:=xs) (css:=xs.map fun x=>[.int .i64 x]) (Fs:=List.replicate xs.length []) (Ext.refl H) (rowsR.mkFlat xs) (by rw [flat_rep]; exact List.nodup_nil) (by rw [flat_rep]; simp)
  rw [flat_ints,flat_rep] at o
  exact o.sl
def S7 (h1:Hp) (c B n0:Nat) (x:Pool) (a:Option Addr) (f:Fs) (e1 e2:Option Addr):Nat→Value→Hp→Prop
  | 0,v,_=>v=.pointer (some ⟨B,2,none⟩)
  | 1,v,_=>v=.slice a x.branches.length x.branches.length
  | 2,v,_=>v=.pointer (some ⟨c,0,none⟩)
  | 3,v,H=>∃ o,v=.slice (some ⟨o,0,none⟩) 6 6∧n0≤o∧slR true 3 intE H [0,0,0,0,1,2] (some ⟨o,0,none⟩) [o]
  | 4,v,_=>∃ z,v=.int .i64 z
  | 5,v,_=>v=.agg #[.slice e1 f.nodes.length f.nodes.length,.slice e2 f.data.length f.data.length]
  | 6,v,_=>∃ z,v=.agg #[.int .i64 z,.slice e1 f.nodes.length f.nodes.length,.slice e2 f.data.length f.data.length]
  | 7,v,H=>∃ o z,v=.slice (some ⟨o,0,none⟩) 1 1∧n0≤o∧H[o]?=some ⟨true,true,47,[.int .i64 z,.slice e1 f.nodes.length f.nodes.length,.slice e2 f.data.length f.data.length]⟩
  | 8,v,H=>∃ a' z G',v=.slice a' (x.branches.length+1) (x.branches.length+1)∧slR true 47 (branchE true 60) H (x.branches++[⟨z,f⟩]) a' G'∧G'.Nodup∧(∀ q∈G',h1.length≤q)∧B ∉ G'
  | 9,v,_=>v=.pointer (some ⟨B,2,none⟩)
  | _,_,_=>True
structure I7 (h1:Hp) (c B bf n0:Nat) (x:Pool) (a:Option Addr) (G:List Nat) (f:Fs) (e1 e2:Option Addr) (K1 K2:List Nat) (D:Nat→Bool) (H:Hp):Prop where
  le:n0≤H.length
  p0:D 8=false→PX h1 c B H x a G∧FB H bf f e1 e2 K1 K2
  p1:D 8=true→D 10=false→Dr c h1 H∧Draw H c∧H[B]?=some ⟨true,true,28,poolC x x.branches.length a⟩
  p2:D 10=true→∃ z a' G',PX h1 c B H { x with branches:=x.branches++[⟨z,f⟩] } a' G'
section
variable {h1 H H2:Hp} {c B bf n0:Nat} {x:Pool} {a e1 e2:Option Addr} {G K1 K2:List Nat} {f:Fs} {D:Nat→Bool}
theorem S7.dr (hn:h1.length≤n0) (hc:c<h1.length) (y:Dr c H H2):∀ (j:Nat) (v:Value),S7 h1 c B n0 x a f e1 e2 j v H→S7 h1 c B n0 x a f e1 e2 j v H2:=by
  intro j v k
  unfold S7 at *
  split at k <;> try exact k
  · obtain ⟨o,rfl,ho,k⟩:=k
    exact ⟨o,rfl,ho,y.sl k (by simp; omega)⟩
  · obtain ⟨o,z,rfl,ho,k⟩:=k
    exact ⟨o,z,rfl,ho,by rw [y.2 o (get_lt k) (by omega)]; exact k⟩
  · obtain ⟨a',z,G',rfl,s,nd,w,m⟩:=k
    exact ⟨a',z,G',rfl,y.sl s (fun hm=>by have:=w _ hm; omega),nd,w,m⟩
theorem S7.app (hG:∀ q∈G,q<n0) (hle:n0≤H.length) (y:∀ q,q<H.length→q ∉ G→H2[q]?=H[q]?):∀ (j:Nat) (v:Value),j≠8→S7 h1 c B n0 x a f e1 e2 j v H→S7 h1 c B n0 x a f e1 e2 j v H2:=by
  intro j v hj k
  unfold S7 at *
  split at k <;> try exact k
  · obtain ⟨o,rfl,ho,k⟩:=k
    exact ⟨o,rfl,ho,k.frame fun q hq=>y q (k.lt q hq) (fun hm=>by have:=hG q hm; simp at hq; omega)⟩
  · obtain ⟨o,z,rfl,ho,k⟩:=k
    exact ⟨o,z,rfl,ho,by rw [y o (get_lt k) (fun hm=>by have:=hG o hm; omega)]; exact k⟩
  · exact absurd rfl hj
theorem S7.store (hB:B<n0) (vs:List Value) (i:Nat):∀ (j:Nat) (v:Value),S7 h1 c B n0 x a f e1 e2 j v H→S7 h1 c B n0 x a f e1 e2 j v (sA_ H B i vs):=by
  intro j v k
  have hne:∀ q,q≠B→(sA_ H B i vs)[q]?=H[q]?:=fun q hq=>by rw [sAg,if_neg (fun e=>hq e.symm)]
  unfold S7 at *
  split at k <;> try exact k
  · obtain ⟨o,rfl,ho,k⟩:=k
    exact ⟨o,rfl,ho,k.frame fun q hq=>hne q (by simp at hq; omega)⟩
  · obtain ⟨o,z,rfl,ho,k⟩:=k
    exact ⟨o,z,rfl,ho,by rw [hne o (by omega)]; exact k⟩
  · obtain ⟨a',z,G',rfl,s,nd,w,m⟩:=k
    exact ⟨a',z,G',rfl,s.frame fun q hq=>hne q (fun e=>m (e ▸ hq)),nd,w,m⟩
theorem I7.dr (k:I7 h1 c B bf n0 x a G f e1 e2 K1 K2 D H) (h8:D 8=false) (h10:D 10=false) {D':Nat→Bool} (e8:D' 8=D 8) (e10:D' 10=D 10) (hc:c<h1.length) (hbf:h1.length≤bf) (hK:∀ q∈K1++K2,h1.length≤q) (y:Dr c H H2) (d:Draw H2 c):I7 h1 c B bf n0 x a G f e1 e2 K1 K2 D' H2:=by
  refine ⟨Nat.le_trans k.le y.1,fun _=>?_,fun h=>(by rw [e8,h8] at h; cases h),fun h=>(by rw [e10,h10] at h; cases h)⟩
  obtain ⟨p,q⟩:=k.p0 h8
  exact ⟨p.step hc y d,⟨by rw [y.2 bf (get_lt q.box) (by omega)]; exact q.box,y.sl q.s1 (fun hm=>by have:=hK c (by simp [hm]); omega),y.sl q.s2 (fun hm=>by have:=hK c (by simp [hm]); omega)⟩⟩
theorem I7.same (k:I7 h1 c B bf n0 x a G f e1 e2 K1 K2 D H) {D':Nat→Bool} (e8:D' 8=D 8) (e10:D' 10=D 10):I7 h1 c B bf n0 x a G f e1 e2 K1 K2 D' H :=
  ⟨k.le,fun h=>k.p0 (e8 ▸ h),fun h h'=>k.p1 (e8 ▸ h) (e10 ▸ h'),fun h=>k.p2 (e10 ▸ h)⟩
end
section
variable {h1 H H2:Hp} {c B:Nat} {x:Pool} {a:Option Addr} {G:List Nat}
def IsB (v:Value):Prop:=∃ b:Bool,v=.bool b
theorem IsB.mk (b:Bool):IsB (.bool b):=⟨b,rfl⟩
def MovV (fz:Int) (n:Nat) (v:Value):Prop:=∃ (on:Bool) (cl:Bool) (s:Str) (g d:Int),v=.agg #[.bool on,.bool cl,.int .i64 fz,.int .i64 ((fz+1).tmod n),.string (S s),.int .i64 g,.int .i64 d]∧s.length≤100
theorem MovV.mk (fz:Int) (n:Nat) (on cl:Bool) (s:Str) (g d:Int) (hs:s.length≤100):MovV fz n (.agg #[.bool on,.bool cl,.int .i64 fz,.int .i64 ((fz+1).tmod n),.string (S s),.int .i64 g,.int .i64 d]):=⟨on,cl,s,g,d,rfl,hs⟩
def S25 (c B tb n0:Nat) (fz:Int) (n:Nat) (ts:List Item) (o off:Nat):Nat→Value→Hp→Prop
  | 0,v,_=>v=.int .i64 fz
  | 1,v,_=>v=.int .i64 fz
  | 2,v,_=>v=.int .i64 (fz+1)
  | 3,v,_=>v=.int .i64 n
  | 4,v,_=>v=.int .i64 ((fz+1).tmod n)
  | 5,v,_=>v=.pointer (some ⟨tb,0,none⟩)
  | 6,v,_=>v=.slice (some ⟨o,off,none⟩) ts.length ts.length
  | 7,v,_=>v=.pointer (some ⟨c,0,none⟩)
  | 8,v,_=>v=.pointer (some ⟨tb,0,none⟩)
  | 9,v,_=>v=.slice (some ⟨o,off,none⟩) ts.length ts.length
  | 10,v,_=>v=.int .i64 ts.length
  | 11,v,_=>∃ k:Nat,v=.int .i64 k∧k<ts.length
  | 12,v,_=>∃ k:Nat,v=.pointer (some ⟨o,off+k * 4,none⟩)∧k<ts.length
  | 13,v,_=>∃ k:Nat,v=.pointer (some ⟨o,off+k * 4,none⟩)∧k<ts.length
  | 14,v,_=>∃ s:Str,v=.string (S s)∧s.length≤100
  | 15,v,_=>v=.pointer (some ⟨c,0,none⟩)
  | 16,v,_=>∃ z,v=.int .i64 z
  | 17,v,_=>v=.pointer (some ⟨c,0,none⟩)
  | 18,v,_=>IsB v
  | 19,v,_=>v=.pointer (some ⟨c,0,none⟩)
  | 20,v,H=>∃ o,v=.slice (some ⟨o,0,none⟩) 2 2∧n0≤o∧slR true 3 intE H [0,16] (some ⟨o,0,none⟩) [o]
  | 21,v,_=>∃ z,v=.int .i64 z
  | 22,v,_=>MovV fz n v
  | 23,v,_=>v=.pointer (some ⟨B,3,none⟩)
  | _,_,_=>True
structure I25 (h1:Hp) (c B tb n0 n:Nat) (x:Pool) (a:Option Addr) (G:List Nat) (ts:List Item) (ta:Option Addr) (TF:List Nat) (D:Nat→Bool) (H:Hp):Prop where
  le:n0≤H.length
  p0:D 24=false→PX h1 c B H x a G∧TB H tb ts ta TF
  p1:D 24=true→∃ m:Move,PX h1 c B H { x with move:=m } a G∧m.path.length≤1000∧0≤m.dst∧m.dst<n
section
variable {tb n0 n o off:Nat} {fz:Int} {ts:List Item} {D:Nat→Bool} {ta:Option Addr} {TF:List Nat}
theorem S25.dr (hn:h1.length≤n0) (hc:c<h1.length) (y:Dr c H H2):∀ (j:Nat) (v:Value),S25 c B tb n0 fz n ts o off j v H→S25 c B tb n0 fz n ts o off j v H2:=by
  intro j v k
  unfold S25 at *
  split at k <;> try exact k
  obtain ⟨o,rfl,ho,k⟩:=k
  exact ⟨o,rfl,ho,y.sl k (by simp; omega)⟩
theorem S25.store (hB:B<n0) (vs:List Value) (i:Nat):∀ (j:Nat) (v:Value),S25 c B tb n0 fz n ts o off j v H→S25 c B tb n0 fz n ts o off j v (sA_ H B i vs):=by
  intro j v k
  have hne:∀ q,q≠B→(sA_ H B i vs)[q]?=H[q]?:=fun q hq=>by rw [sAg,if_neg (fun e=>hq e.symm)]
  unfold S25 at *
  split at k <;> try exact k
  obtain ⟨o,rfl,ho,k⟩:=k
  exact ⟨o,rfl,ho,k.frame fun q hq=>hne q (by simp at hq; omega)⟩
theorem I25.dr (k:I25 h1 c B tb n0 n x a G ts ta TF D H) (h24:D 24=false) {D':Nat→Bool} (e:D' 24=D 24) (hc:c<h1.length) (htb:h1.length≤tb) (hT:∀ q∈TF,h1.length≤q) (y:Dr c H H2) (d:Draw H2 c):I25 h1 c B tb n0 n x a G ts ta TF D' H2:=by
  refine ⟨Nat.le_trans k.le y.1,fun _=>?_,fun h=>(by rw [e,h24] at h; cases h)⟩
  obtain ⟨p,q⟩:=k.p0 h24
  exact ⟨p.step hc y d,⟨by rw [y.2 tb (get_lt q.box) (by omega)]; exact q.box,y.sl q.s (fun hm=>by have:=hT c hm; omega)⟩⟩
theorem I25.same (k:I25 h1 c B tb n0 n x a G ts ta TF D H) {D':Nat→Bool} (e:D' 24=D 24):I25 h1 c B tb n0 n x a G ts ta TF D' H :=
  ⟨k.le,fun h=>k.p0 (e ▸ h),fun h=>k.p1 (e ▸ h)⟩
theorem PX.move (l:PX h1 c B H x a G) (hc:c<h1.length) (m:Move):cS_ H B 3 7=true∧PX h1 c B (sA_ H B 3 [.bool m.on,.bool m.clean,.int .i64 m.src,.int .i64 m.dst,.string (S m.path),.int .i64 m.gen,.int .i64 m.done]) { x with move:=m } a G:=by
  have hb:=l.hb
  have hne:∀ q,q≠B→(sA_ H B 3 [.bool m.on,.bool m.clean,.int .i64 m.src,.int .i64 m.dst,.string (S m.path),.int .i64 m.gen,.int .i64 m.done])[q]?=H[q]?:=fun q hq=>by rw [sAg,if_neg (fun e=>hq e.symm)]
  refine ⟨by simp [cS_,l.box,poolC],⟨⟨by rw [sAl]; exact l.dr.1,fun q hq hn=>?_⟩,l.d.frame fun q hq=>hne q (by omega),l.sl.frame fun q hq=>hne q (fun e=>l.m (e ▸ hq)),l.nd,l.w,?_,l.m,hb⟩⟩
  · rw [hne q (by omega)]
    exact l.dr.2 q hq hn
  · rw [sAg,if_pos rfl,l.box]
    simp [setL,poolC]
end
def HidV (n0:Nat) (y:Branch) (v:Value) (H:Hp):Prop:=∃ (s:Str) (u:Value),v=.tuple #[u,.int .i64 (fsHide y.fs s).2]∧FsOwn n0 (fsHide y.fs s).1 u H
def HidW (n0:Nat) (y:Branch) (v:Value) (H:Hp):Prop:=∃ s:Str,FsOwn n0 (fsHide y.fs s).1 v H
def S27 (c B n0 o off k n:Nat) (dz:Int) (y:Branch) (b1 b2:Option Addr):Nat→Value→Hp→Prop
  | 0,v,_=>v=.pointer (some ⟨B,2,none⟩)
  | 1,v,_=>v=.slice (some ⟨o,off,none⟩) n n
  | 2,v,_=>v=.pointer (some ⟨B,3,none⟩)
  | 3,v,_=>v=.pointer (some ⟨B,6,none⟩)
  | 4,v,_=>v=.int .i64 dz
  | 5,v,_=>v=.pointer (some ⟨B,2,none⟩)
  | 6,v,_=>v=.slice (some ⟨o,off,none⟩) n n
  | 7,v,_=>v=.pointer (some ⟨B,3,none⟩)
  | 8,v,_=>v=.pointer (some ⟨B,6,none⟩)
  | 9,v,_=>v=.int .i64 dz
  | 10,v,_=>v=.pointer (some ⟨o,off+k * 3,none⟩)
  | 11,v,_=>v=.pointer (some ⟨o,off+k * 3+1,none⟩)
  | 12,v,_=>v=.agg #[.slice b1 y.fs.nodes.length y.fs.nodes.length,.slice b2 y.fs.data.length y.fs.data.length]
  | 13,v,_=>v=.pointer (some ⟨c,0,none⟩)
  | 14,v,_=>∃ s:Str,v=.string (S s)∧s.length≤81
  | 15,v,H=>HidV n0 y v H
  | 16,v,H=>HidV n0 y v H
  | 17,v,H=>HidW n0 y v H
  | 19,v,_=>v=.pointer (some ⟨o,off+k * 3,none⟩)
  | 20,v,_=>v=.pointer (some ⟨o,off+k * 3+1,none⟩)
  | _,_,_=>True
structure I27 (h1:Hp) (c B n0 o off k:Nat) (x:Pool) (y:Branch) (b1 b2:Option Addr) (G G1 G2:List Nat) (D:Nat→Bool) (H:Hp):Prop where
  le:n0≤H.length
  p0:D 21=false→PX h1 c B H x (some ⟨o,off,none⟩) G∧slR true 60 (nodeE true) H y.fs.nodes b1 G1∧slR true 9 strE H y.fs.data b2 G2∧cellAt H o (off+k * 3+1)=some (.slice b1 y.fs.nodes.length y.fs.nodes.length)∧cellAt H o (off+k * 3+2)=some (.slice b2 y.fs.data.length y.fs.data.length)
  p1:D 21=true→∃ (s:Str) (G':List Nat),PX h1 c B H { x with branches:=x.branches.set k ⟨y.mode,(fsHide y.fs s).1⟩ } (some ⟨o,off,none⟩) G'
section
variable {n0 n o off k:Nat} {dz:Int} {y:Branch} {b1 b2:Option Addr} {G1 G2:List Nat} {D:Nat→Bool}
theorem S27.frame (hn:∀ q,n0≤q→H2[q]?=H[q]?):∀ (j:Nat) (v:Value),S27 c B n0 o off k n dz y b1 b2 j v H→S27 c B n0 o off k n dz y b1 b2 j v H2:=by
  intro j v k
  unfold S27 at *
  split at k <;> try exact k
  · obtain ⟨s,u,rfl,k⟩:=k
    exact ⟨s,u,rfl,k.frame hn⟩
  · obtain ⟨s,u,rfl,k⟩:=k
    exact ⟨s,u,rfl,k.frame hn⟩
  · obtain ⟨s,k⟩:=k
    exact ⟨s,k.frame hn⟩
theorem S27.early (hj:∀ (j:Nat),D j=true→j≠15∧j≠16∧j≠17) (j:Nat) (v:Value) (hd:D j=true) (k1:S27 c B n0 o off k n dz y b1 b2 j v H):S27 c B n0 o off k n dz y b1 b2 j v H2:=by
  obtain ⟨h1,h2,h3⟩:=hj j hd
  unfold S27 at *
  split at k1 <;> first | exact k1 | exact absurd rfl h1 | exact absurd rfl h2 | exact absurd rfl h3
theorem I27.dr (l:I27 h1 c B n0 o off k x y b1 b2 G G1 G2 D H) (h21:D 21=false) {D':Nat→Bool} (e:D' 21=D 21) (hc:c<h1.length) (ho:h1.length≤o) (hG:∀ q∈G1++G2,h1.length≤q) (hol:o<n0) (z:Dr c H H2) (d:Draw H2 c):I27 h1 c B n0 o off k x y b1 b2 G G1 G2 D' H2:=by
  refine ⟨Nat.le_trans l.le z.1,fun _=>?_,fun h=>(by rw [e,h21] at h; cases h)⟩
  obtain ⟨p,q1,q2,q3,q4⟩:=l.p0 h21
  have hle:=l.le
  have hsame:H2[o]?=H[o]?:=z.2 o (by omega) (by omega)
  exact ⟨p.step hc z d,z.sl q1 (fun hm=>by have:=hG c (by simp [hm]); omega),z.sl q2 (fun hm=>by have:=hG c (by simp [hm]); omega),by unfold cellAt at q3 ⊢; rw [hsame]; exact q3,by unfold cellAt at q4 ⊢; rw [hsame]; exact q4⟩
theorem I27.same (l:I27 h1 c B n0 o off k x y b1 b2 G G1 G2 D H) {D':Nat→Bool} (e:D' 21=D 21):I27 h1 c B n0 o off k x y b1 b2 G G1 G2 D' H :=
  ⟨l.le,fun h=>l.p0 (e ▸ h),fun h=>l.p1 (e ▸ h)⟩
end
end
end Go.Proofs.YtmpgpkdijfcfhaaGreat.Hz
