/- The law of room. -/
import Derived.Test.YtmpgpkdijfcfhaaGreatHyJE
import Derived.Test.YtmpgpkdijfcfhaaGreatHyZM
import Derived.Test.YtmpgpkdijfcfhaaGreatHyHF
import Derived.Test.YtmpgpkdijfcfhaaGreatHyQF
import Derived.Test.YtmpgpkdijfcfhaaGreatHyLD
namespace Go.Proofs.YtmpgpkdijfcfhaaGreat.Hz
open Go.RowKit
set_option linter.unusedVariables false
set_option linter.unusedSimpArgs false
set_option maxRecDepth 20000
structure PBx (H:Hp) (B:Nat) (x:Pool) (a:Option Addr) (G:List Nat):Prop where
  box:H[B]?=some ⟨true,true,28,poolC x x.branches.length a⟩
  sl:slR true 47 (branchE true 60) H x.branches a G
section
variable {h H H2:Hp} {B:Nat} {x:Pool} {a:Option Addr} {G:List Nat} {r:Value}
theorem PBx.ext (k:PBx H B x a G) (e:Ext H H2):PBx H2 B x a G:=⟨(e.2 B (get_lt k.box)).trans k.box,k.sl.ext e⟩
theorem PBx.cells (k:PBx H B x a G):∀ j,cellAt H B j=(poolC x x.branches.length a)[j]?:=fun j=>by simp [cellAt,k.box]
theorem PBx.of (k:PIn h H x r):∃ a G,r=.agg (poolC x x.branches.length a).toArray∧PBx (H++[⟨true,true,28,poolC x x.branches.length a⟩]) H.length x a G∧Ext h (H++[⟨true,true,28,poolC x x.branches.length a⟩])∧PBe x:=by
  obtain ⟨a,G,e1,e2,e3,-,e5⟩:=k
  exact ⟨a,G,e1,⟨by simp,e3.ext (Ext.push _ _)⟩,e2.trans (Ext.push _ _),e5⟩
end
theorem sumB_bd:∀ ns:List Node,(∀ n∈ns,nodeOk n=true)→0≤sumB ns∧sumB ns≤sumL Node.nl ns
  | [],_=>by simp [sumB,sumL]
  | n :: ns,h=>by
    have h1:=sumB_bd ns fun x hx=>h x (by simp [hx])
    have h2:=nodeOk_iff.1 (h n (by simp))
    have h4:(n.blocks.length:Int)=blocksFor n.size:=by
      rcases h2 with ⟨-,-,-,h5,h6⟩ | h2
      · rw [h5,h6]; rfl
      · exact h2.2.2.2.2.2.2.1
    have h5:n.nl=n.blocks.length:=rfl
    show 0≤blocksFor n.size+sumB ns∧blocksFor n.size+sumB ns≤((n.nl+sumL Node.nl ns:Nat):Int)
    omega
theorem sumL_tk {α:Type} (f:α→Nat) (xs:List α) (i:Nat):sumL f (xs.take i)≤sumL f xs:=by
  have:∀ (xs:List α) (i:Nat),sumL f (xs.take i)≤sumL f xs:=by
    intro xs
    induction xs with
    | nil=>intro i; simp
    | cons x xs ih =>
      intro i
      cases i with
      | zero=>simp [sumL]
      | succ i=>have:=ih i; simp only [List.take_succ_cons,sumL]; omega
  exact this xs i
theorem sumUp_bd {g:Branch→Int} {M:Nat}:∀ bs:List Branch,(∀ b∈bs,0≤g b∧g b≤M)→0≤sumUp g bs∧sumUp g bs≤M * bs.length
  | [],_=>by simp [sumUp]
  | b :: bs,h=>by
    have h1:=sumUp_bd bs fun x hx=>h x (by simp [hx])
    have h2:=h b (by simp)
    have h3:((M * (b :: bs).length:Nat):Int)=M * bs.length+M:=by rw [List.length_cons,Nat.mul_succ]; simp
    show 0≤sumUp g bs+g b∧sumUp g bs+g b≤(M:Int) * ((b :: bs).length:Nat)
    rw [← Int.natCast_mul,h3]
    omega
set_option maxHeartbeats 8000000 in
theorem FnRoom_c (code:Str) (a:Option Addr) (F:List Nat) (w:Bool) (t:TypeId) (h:Hp) (k:slR w t byteE h code a F) :
    ACall Tryz.prog 5 [.slice a code.length code.length] h fun r _=>r=.bool true:=by
  refine acall mixed Tryz.func5 rfl (by kernel_rfl) ?_
  simp -implicitDefEqProofs [Tryz.f5]
  refine callK0 (big_c code a h) ?_
  rintro _ h ⟨rfl,rfl⟩
  try simp -implicitDefEqProofs
  refine asplitK_intro (fun hb=>?_) (fun hb=>?_) <;> simp at hb <;> simp -implicitDefEqProofs
  refine callK0 (drawPoolFree_c code a F w t h k (by omega)) ?_
  rintro _ H1 ⟨x,pin⟩
  obtain ⟨ab,G,rfl,P,-,bd⟩:=PBx.of pin
  have hnl:=bd.nl
  try simp -implicitDefEqProofs [poolC]
  simp only [poolC] at P
  obtain ⟨B,hB⟩:∃ B,B=H1.length:=⟨_,rfl⟩
  rw [← hB] at P ⊢
  generalize H1++[(⟨true,true,28,[.int .i64 x.policy,.int .i64 x.minFree,.slice ab x.branches.length x.branches.length,.bool x.move.on,.bool x.move.clean,.int .i64 x.move.src,.int .i64 x.move.dst,.string (S x.move.path),.int .i64 x.move.gen,.int .i64 x.move.done]⟩:Ob)]=H at P ⊢
  clear pin hB
  have q:=P.cells
  simp only [poolC] at q
  try simp -implicitDefEqProofs [q]
  refine callK0 (poolFree_impl_c x ab G true _ _ H P.sl hnl) ?_
  rintro _ _ ⟨⟨t1,rfl⟩,rfl⟩
  replace P:=P.ext (Ext.push H t1)
  generalize H++t1=H at P ⊢
  clear q
  have q:=P.cells
  simp only [poolC] at q
  try simp -implicitDefEqProofs [q]
  refine callK0 (poolOk_spec_c x ab G true _ _ H P.sl hnl) ?_
  rintro _ _ ⟨⟨t1,rfl⟩,rfl⟩
  replace P:=P.ext (Ext.push H t1)
  generalize H++t1=H at P ⊢
  clear q
  try simp -implicitDefEqProofs
  cases ok:poolOk x
  · have:poolFree x=0:=by unfold poolFree; simp [ok]
    simp -implicitDefEqProofs [this]
  try simp -implicitDefEqProofs
  have hfo:∀ b∈x.branches,fsOk b.fs=true:=poolOk_fsOk ok
  have hsh:∀ b∈x.branches,∀ n∈b.fs.nodes,nodeOk n=true:=fun b hb=>(fsOk_shape (hfo b hb)).ok
  have hlaw:=room_law ok
  have fnl:∀ f:Fs,f.nl=f.nodes.length+sumL Node.nl f.nodes+f.data.length+sumL List.length f.data:=fun _=>rfl
  have g1:∀ b∈x.branches,0≤sumB b.fs.nodes∧sumB b.fs.nodes≤(2000:Nat):=fun b hb=>by
    have h1:=sumB_bd b.fs.nodes (hsh b hb)
    have h2:=bd.nl_ b hb
    have h3:=fnl b.fs
    omega
  have g2:∀ b∈x.branches,0≤(b.fs.data.length:Int)∧(b.fs.data.length:Int)≤(2000:Nat):=fun b hb=>by
    have h2:=bd.nl_ b hb
    have h3:=fnl b.fs
    omega
  have u1:∀ i,0≤sumUp (fun b=>sumB b.fs.nodes) (x.branches.take i).reverse∧sumUp (fun b=>sumB b.fs.nodes) (x.branches.take i).reverse≤12000:=fun i=>by
    have h1:=sumUp_bd (g:=fun b=>sumB b.fs.nodes) (M:=2000) (x.branches.take i).reverse (fun b hb=>g1 b (List.mem_of_mem_take (by simpa using hb)))
    have h2:(x.branches.take i).reverse.length≤6:=by simp; have:=bd.len; omega
    omega
  have u2:∀ i,0≤sumUp (fun b=>(b.fs.data.length:Int)) (x.branches.take i).reverse∧sumUp (fun b=>(b.fs.data.length:Int)) (x.branches.take i).reverse≤12000:=fun i=>by
    have h1:=sumUp_bd (g:=fun b=>(b.fs.data.length:Int)) (M:=2000) (x.branches.take i).reverse (fun b hb=>g2 b (List.mem_of_mem_take (by simpa using hb)))
    have h2:(x.branches.take i).reverse.length≤6:=by simp; have:=bd.len; omega
    omega
  refine aloop mixed [3,4,5,6,7] (fun (y:Nat × Hp)=>[.pointer (some ⟨B,0,none⟩),.int .i64 (poolFree x),.int .i64 (sumUp (fun b=>sumB b.fs.nodes) (x.branches.take y.1).reverse),.int .i64 (sumUp (fun b=>(b.fs.data.length:Int)) (x.branches.take y.1).reverse),.int .i64 y.1]) (fun y=>y.2) (fun y=>y.1≤x.branches.length∧PBx y.2 B x ab G) (fun y=>x.branches.length - y.1) (0,H) ⟨by simp,P⟩ (by simp [pickF,sumUp]) rfl ?_
  clear P
  rintro ⟨i,H⟩ ⟨hi,P⟩
  simp only at hi P
  have q:=P.cells
  simp only [poolC] at q
  simp -implicitDefEqProofs [mkF,q]
  refine asplitK_intro (fun hc=>?_) (fun hc=>?_) <;> simp at hc <;> simp -implicitDefEqProofs [hc]
  · obtain ⟨o,off,b1,G1,b2,G2,rfl,c0,c1,c2,kn,kd,-,-⟩:=branchAt P.sl hc
    have hm:x.branches[i]∈x.branches:=List.getElem_mem hc
    simp -implicitDefEqProofs [q,hc,c1,c2]
    have A:FB (H++[⟨true,true,45,[.slice b1 x.branches[i].fs.nodes.length x.branches[i].fs.nodes.length,.slice b2 x.branches[i].fs.data.length x.branches[i].fs.data.length]⟩]) H.length x.branches[i].fs b1 b2 G1 G2:=⟨by simp,kn.ext (Ext.push _ _),kd.ext (Ext.push _ _)⟩
    replace P:=P.ext (Ext.push H [⟨true,true,45,[.slice b1 x.branches[i].fs.nodes.length x.branches[i].fs.nodes.length,.slice b2 x.branches[i].fs.data.length x.branches[i].fs.data.length]⟩])
    obtain ⟨fb,hfb⟩:∃ fb,fb=H.length:=⟨_,rfl⟩
    try rw [← hfb]
    rw [← hfb] at A
    generalize H++[(⟨true,true,45,[.slice b1 x.branches[i].fs.nodes.length x.branches[i].fs.nodes.length,.slice b2 x.branches[i].fs.data.length x.branches[i].fs.data.length]⟩:Ob)]=H2 at A P ⊢
    clear q c0 c1 c2 kn kd hfb
    have cA:=A.cells
    have e1:=sumUp_take (fun b=>sumB b.fs.nodes) x.branches i hc
    have e2:=sumUp_take (fun b=>(b.fs.data.length:Int)) x.branches i hc
    have v1:=u1 i
    have v2:=u2 i
    have v3:=g1 _ hm
    have v4:=g2 _ hm
    generalize hU:sumUp (fun b=>sumB b.fs.nodes) (x.branches.take i).reverse=U at e1 v1 ⊢
    generalize hA2:sumUp (fun b=>(b.fs.data.length:Int)) (x.branches.take i).reverse=A2 at e2 v2 ⊢
    try simp only at e1 e2
    have w2:IntKind.i64.wrap (A2+(x.branches[i].fs.data.length:Int))=A2+x.branches[i].fs.data.length:=wrap_in (by omega) (by omega)
    try simp -implicitDefEqProofs [cA,w2]
    have hln:x.branches[i].fs.nodes.length≤2000:=by have:=bd.nl_ _ hm; have:=fnl x.branches[i].fs; omega
    refine aloop mixed [3,4,5,6,7,8,9] (fun (j:Nat)=>[.pointer (some ⟨B,0,none⟩),.int .i64 (poolFree x),.int .i64 (U+sumB (x.branches[i].fs.nodes.take j)),.int .i64 (A2+x.branches[i].fs.data.length),.int .i64 i,.pointer (some ⟨fb,0,none⟩),.int .i64 j]) (fun _=>H2) (fun j=>j≤x.branches[i].fs.nodes.length) (fun j=>x.branches[i].fs.nodes.length - j) 0 (by simp) (by simp [pickF,sumB]) rfl ?_
    rintro j hj
    simp -implicitDefEqProofs [mkF,cA]
    refine asplitK_intro (fun hd=>?_) (fun hd=>?_) <;> simp at hd <;> simp -implicitDefEqProofs [hd]
    · obtain ⟨o2,off2,b3,G3,rfl,-,-,-,c3,-,-⟩:=nodeAt A.s1 hd
      simp -implicitDefEqProofs [cA,hd,c3]
      refine callK0 (blocksFor_impl_c x.branches[i].fs.nodes[j].size H2) ?_
      rintro _ _ ⟨rfl,rfl⟩
      have e3:=sumB_take x.branches[i].fs.nodes j hd
      have hall:∀ (l:Nat),0≤sumB (x.branches[i].fs.nodes.take l)∧sumB (x.branches[i].fs.nodes.take l)≤2000:=fun l=>by
        have h1:=sumB_bd (x.branches[i].fs.nodes.take l) (fun n hn=>hsh _ hm n (List.mem_of_mem_take hn))
        have h2:=sumL_tk Node.nl x.branches[i].fs.nodes l
        have h3:=bd.nl_ _ hm
        have h4:=fnl x.branches[i].fs
        omega
      have h5:=hall j
      have h6:=hall (j+1)
      have w3:IntKind.i64.wrap (U+sumB (x.branches[i].fs.nodes.take j)+blocksFor x.branches[i].fs.nodes[j].size)=U+sumB (x.branches[i].fs.nodes.take (j+1)):=by rw [e3]; rw [wrap_in (by omega) (by omega)]; omega
      try simp -implicitDefEqProofs [w3]
      exact anext (j+1) hd (by omega) (by simp [pickF,w3,wrap_succ (show j<9223372036854775807 by omega)]) rfl (by simp)
    · obtain rfl:j=x.branches[i].fs.nodes.length:=by omega
      have hi6:=bd.len
      exact anext (i+1,H2) ⟨hc,P⟩ (by simp only; omega) (by simp [pickF,e1,e2,wrap_succ (show i<9223372036854775807 by omega)]) rfl (by simp)
  · obtain rfl:i=x.branches.length:=by omega
    simp only [List.take_length] at *
    have v1:=u1 x.branches.length
    have v2:=u2 x.branches.length
    simp only [List.take_length] at v1 v2
    have w4:IntKind.i64.wrap (poolFree x+sumUp (fun b=>sumB b.fs.nodes) x.branches.reverse)=poolFree x+sumUp (fun b=>sumB b.fs.nodes) x.branches.reverse:=wrap_in (by omega) (by omega)
    simp -implicitDefEqProofs [w4]
    exact hlaw
theorem FnRoom_v (h:Hp) (avs:List Value) (hv:All2 (fun V av=>V h av) [(V1 (slE false 5 byteE) fun xs=>xs.length≤maxLen∧∀ x∈xs,True)] avs):ACall Tryz.prog 5 avs h fun r _=>r=.bool true:=by
  obtain ⟨v0,vs0,rfl,q0,hv⟩:=All2.cons_iff.1 hv
  obtain rfl:=All2.nil_iff.1 hv
  obtain ⟨xs,F,⟨a,ea,hr⟩,hl,hx⟩:=q0
  obtain rfl:v0=_:=List.cons.inj ea |>.1
  exact FnRoom_c xs a F false _ h hr
end Go.Proofs.YtmpgpkdijfcfhaaGreat.Hz
