/- Texts of the calculus and of the program's functions, merged: NV NW NY. -/
import Derived.Test.YtmpgpkdijfcfhaaHyJA
import Derived.Test.YtmpgpkdijfcfhaaHyGF
import Derived.Test.YtmpgpkdijfcfhaaHySM
import Derived.Test.YtmpgpkdijfcfhaaHyGM
namespace Go.Proofs.Ytmpgpkdijfcfhaa.Hz
open Go.RowKit
set_option linter.unusedVariables false
set_option linter.unusedSimpArgs false
set_option maxRecDepth 20000
theorem nodesBy_snoc {N:Str→Node × Bool} {s:Str} (hs:(N s).2=true):∀ {l:List Str} {ns:List Node},nodesBy N l=some ns→nodesBy N (l++[s])=some (ns++[(N s).1])
  | [],ns,h=>by simp [nodesBy] at h; subst h; simp [nodesBy,hs]
  | x :: l,ns,h=>by
    unfold nodesBy at h
    simp only [List.cons_append]
    unfold nodesBy
    split at h
    · rename_i hx
      cases hr:nodesBy N l with
      | none=>rw [hr] at h; simp at h
      | some k =>
        rw [hr] at h
        simp at h
        subst h
        rw [if_pos hx,nodesBy_snoc hs hr]
        rfl
    · cases h
theorem nodesBy_bad {N:Str→Node × Bool} {s:Str} (hs:(N s).2=false):∀ {l:List Str},s∈l→nodesBy N l=none
  | x :: l,h=>by
    unfold nodesBy
    rcases List.mem_cons.1 h with rfl | h
    · rw [if_neg (by rw [hs]; decide)]
    · rw [nodesBy_bad hs h]
      split <;> rfl
def midT (xs:List Str) (n:Nat):List Str:=(xs.drop 2).take n
theorem midT_succ (xs:List Str) (i:Nat) (hi:2+i<xs.length):midT xs (i+1)=midT xs i++[xs[2+i]]:=by
  unfold midT
  have h1:i<(xs.drop 2).length:=by simp; omega
  rw [List.take_succ_eq_append_getElem h1]
  simp
theorem midT_mem (xs:List Str) (n i:Nat) (hi:i<n) (hn:2+n≤xs.length):xs[2+i]∈midT xs n:=by
  unfold midT
  have h1:i<((xs.drop 2).take n).length:=by simp; omega
  have:((xs.drop 2).take n)[i]=xs[2+i]:=by simp
  rw [← this]
  exact List.getElem_mem h1
theorem sumL_app {α:Type} (f:α→Nat):∀ (xs ys:List α),sumL f (xs++ys)=sumL f xs+sumL f ys
  | [],ys=>by simp [sumL]
  | x :: xs,ys=>by simp only [List.cons_append,sumL,sumL_app f xs ys]; omega
theorem nodesBy_sum {N:Str→Node × Bool} (hN:∀ s,(N s).1.blocks.length≤s.length):∀ {l:List Str} {ns:List Node},nodesBy N l=some ns→ns.length=l.length∧sumL Node.nl ns≤sumL List.length l
  | [],ns,h=>by simp [nodesBy] at h; subst h; simp [sumL]
  | x :: l,ns,h=>by
    unfold nodesBy at h
    split at h
    · cases hr:nodesBy N l with
      | none=>rw [hr] at h; simp at h
      | some k =>
        rw [hr] at h
        simp at h
        subst h
        obtain ⟨h1,h2⟩:=nodesBy_sum hN hr
        have h3:=hN x
        have h4:(N x).1.nl=(N x).1.blocks.length:=rfl
        simp only [sumL,List.length_cons]
        omega
    · cases h
theorem fs_nl {N:Str→Node × Bool} (hN:∀ s,(N s).1.blocks.length≤s.length) {xs:List Str} {n:Nat} {ns:List Node} (h:nodesBy N (midT xs n)=some ns) (hn:2+n≤xs.length) (hl:xs.length+sumL List.length xs≤1048576):(⟨ns,xs.drop (2+n)⟩:Fs).nl≤1048576:=by
  obtain ⟨h1,h2⟩:=nodesBy_sum hN h
  have e:xs=xs.take 2++(midT xs n++xs.drop (2+n)):=by
    have e1:xs.drop (2+n)=(xs.drop 2).drop n:=by rw [List.drop_drop]
    rw [e1]
    unfold midT
    rw [List.take_append_drop,List.take_append_drop]
  have e2:=congrArg (sumL List.length) e
  rw [sumL_app,sumL_app] at e2
  have e3:=congrArg List.length e
  rw [List.length_append,List.length_append] at e3
  have e5:(⟨ns,xs.drop (2+n)⟩:Fs).nl=ns.length+sumL Node.nl ns+(xs.drop (2+n)).length+sumL List.length (xs.drop (2+n)):=rfl
  omega
structure FN (h0 H:Hp) (b:Nat) (ns:List Node) (ds:List Str) (a:Option Addr) (F:List Nat) (ad:Option Addr) (Fd:List Nat):Prop where
  box:H[b]?=some ⟨true,true,26,[.slice a ns.length ns.length,.slice ad ds.length ds.length]⟩
  own:Own h0 49 (nodeE true) H ns a F
  dat:Own h0 9 strE H ds ad Fd
  dj:∀ q∈F,q ∉ Fd
  m1:b ∉ F
  m2:b ∉ Fd
  hb:h0.length≤b
section
variable {h0 H H2:Hp} {b:Nat} {ns:List Node} {ds:List Str} {a ad:Option Addr} {F Fd:List Nat}
theorem FN.grow (k:FN h0 H b ns ds a F ad Fd) (x:Ext H H2):FN h0 H2 b ns ds a F ad Fd:=⟨(x.2 b (get_lt k.box)).trans k.box,k.own.grow x,k.dat.grow x,k.dj,k.m1,k.m2,k.hb⟩
theorem FN.cells (k:FN h0 H b ns ds a F ad Fd):∀ j,cellAt H b j=([Value.slice a ns.length ns.length,.slice ad ds.length ds.length])[j]?:=fun j=>by simp [cellAt,k.box]
theorem FN.cellsX (k:FN h0 H b ns ds a F ad Fd):∀ l j,cellAt (H++l) b j=([Value.slice a ns.length ns.length,.slice ad ds.length ds.length])[j]?:=fun l=>(k.grow (Ext.push H l)).cells
theorem FN.res (k:FN h0 H b ns ds a F ad Fd):FsRes ⟨ns,ds⟩ h0 H (.agg #[.slice a ns.length ns.length,.slice ad ds.length ds.length]):=⟨a,F,ad,Fd,rfl,k.own,k.dat,k.dj⟩
theorem FN.app (k:FN h0 H b ns ds a F ad Fd) {H1:Hp} {x:Node} {bb:Option Addr} {G:List Nat} (o:Own H 3 intE H1 x.blocks bb G) (nb:Ob) (hl:ns.length≤100000) :
    ∃ a' H',aappend Try.prog (H1++[nb,⟨true,true,49,[.int .i64 x.kind,.int .i64 x.gen,.int .i64 x.time,.int .i64 x.size,.slice bb x.blocks.length x.blocks.length]⟩]) 24 24 (.slice a ns.length ns.length) (.slice (some ⟨H1.length+1,0,none⟩) 1 1)=some (.slice a' (ns.length+1) (ns.length+1),H') ∧
      cS_ H' b 0 1=true∧∃ F',FN h0 (sA_ H' b 0 [.slice a' (ns.length+1) (ns.length+1)]) b (ns++[x]) ds a' F' ad Fd:=by
  have k1:=(k.grow o.ext).grow (Ext.push H1 [nb])
  have hBl:=get_lt k.box
  have hx1:=o.ext.1
  have hFl:=k.own.sl.lt
  have hdl:=k.dat.sl.lt
  have hx0:=k.own.ext.1
  obtain ⟨a',H',F',e1,e2,e3,e4,e5⟩:=k1.own.appNode x bb G (o.sl.ext (Ext.push H1 [nb])) o.nd (fun q hq=>by
    have h1:=o.new q hq
    exact ⟨by omega,fun hm=>by have:=hFl q hm; omega⟩) hl
  simp only [List.append_assoc,List.cons_append,List.nil_append,List.length_append,List.length_cons,List.length_nil,Nat.zero_add] at e1 e3 e4 e5
  have hb1:H'[b]?=some ⟨true,true,26,[.slice a ns.length ns.length,.slice ad ds.length ds.length]⟩:=by rw [e3 b (by omega) k.m1]; exact k1.box
  have hne:∀ q,q≠b→(sA_ H' b 0 [.slice a' (ns.length+1) (ns.length+1)])[q]?=H'[q]?:=fun q hq=>by rw [sAg,if_neg (fun e=>hq e.symm)]
  have hF':∀ q∈F',q∈F∨H.length≤q:=fun q hq=>by
    rcases e5 q hq with h1 | h1 | h1
    · exact .inl h1
    · exact .inr (o.new q h1)
    · exact .inr (by omega)
  have hm1:b ∉ F':=fun hm=>by rcases hF' b hm with h1 | h1; exact k.m1 h1; omega
  have hdj:∀ q∈F',q ∉ Fd:=fun q hq hm=>by
    rcases hF' q hq with h1 | h1
    · exact k.dj q h1 hm
    · have:=hdl q hm; omega
  refine ⟨a',H',e1,by simp [cS_,hb1],F',?_,⟨e2.ext.set k.hb 0 _,e2.sl.frame fun q hq=>hne q (fun e=>hm1 (e ▸ hq)),e2.nd,e2.new⟩,⟨e2.ext.set k.hb 0 _,k1.dat.sl.frame fun q hq=>?_,k.dat.nd,k.dat.new⟩,hdj,hm1,k.m2,k.hb⟩
  · rw [sAg,if_pos rfl,hb1]
    simp
  · rw [hne q (fun e=>k.m2 (e ▸ hq)),e3 q (by have:=hdl q hq; omega) (fun hm=>k.dj q hm hq)]
end
def FL (N:Str→Node × Bool) (xs:List Str) (h1 H:Hp) (fb:Nat) (ds:List Str) (ad:Option Addr) (Fd:List Nat) (i:Nat):Prop:=∃ ns a' F',FN h1 H fb ns ds a' F' ad Fd∧nodesBy N (midT xs i)=some ns∧ns.length=i
set_option maxHeartbeats 8000000 in
theorem fsOf_spec_c (xs:List Str) (a:Option Addr) (F:List Nat) (w:Bool) (h:Hp) (k:slR w 9 strE h xs a F) (hl:xs.length+sumL List.length xs≤1048576) :
    ACall Try.prog 6 [.slice a xs.length xs.length] h fun r h'=>∃ v,r=.tuple #[v,.bool (fsS xs).2]∧FsRes (fsS xs).1 h h' v:=by
  refine acall mixed Try.func6 rfl (by kernel_rfl) ?_
  simp -implicitDefEqProofs [Try.f6]
  obtain ⟨h1,hh1⟩:∃ h1:Hp,h1=h++[⟨true,true,26,[.slice none 0 0,.slice none 0 0]⟩]:=⟨_,rfl⟩
  have x1:Ext h h1:=by rw [hh1]; exact Ext.push _ _
  have l1:h1.length=h.length+1:=by rw [hh1]; simp
  have r1:h1[h.length]?=some ⟨true,true,26,[.slice none 0 0,.slice none 0 0]⟩:=by rw [hh1]; simp
  rw [← hh1]
  clear hh1
  have no:∀ X:Hp,Ext h1 X→cS_ X h.length 0 2=true∧(sA_ X h.length 0 [.slice none 0 0,.slice none 0 0])[h.length]?=some ⟨true,true,26,[.slice none 0 0,.slice none 0 0]⟩∧FsRes fs0 h (sA_ X h.length 0 [.slice none 0 0,.slice none 0 0]) (.agg #[.slice none 0 0,.slice none 0 0]):=fun X x=>by
    have r2:X[h.length]?=some ⟨true,true,26,[.slice none 0 0,.slice none 0 0]⟩:=(x.2 _ (by omega)).trans r1
    have e:Ext h (sA_ X h.length 0 [.slice none 0 0,.slice none 0 0]):=(x1.trans x).set (by omega) 0 _
    exact ⟨by simp [cS_,r2],by rw [sAg,if_pos rfl,r2]; rfl,none,[],none,[],rfl,Own.nil e,Own.nil e,by simp⟩
  have no1:=no h1 (Ext.refl _)
  have nc1:∀ j,cellAt (sA_ h1 h.length 0 [.slice none 0 0,.slice none 0 0]) h.length j=([Value.slice none 0 0,.slice none 0 0])[j]?:=fun j=>by simp [cellAt,no1.2.1]
  refine aSI (fun h2=>?_) (fun h2=>?_) <;> have h2':=h2 <;> simp at h2 <;> simp -implicitDefEqProofs [h2']
  · have hI:fsS xs=(fs0,false):=by
      unfold fsS
      cases xs with
      | nil=>rfl
      | cons b rest=>simp only; rw [if_pos (.inl (by omega))]
    rw [hI]
    simp -implicitDefEqProofs [no1.1,nc1]
    exact no1.2.2
  have h2n:2≤xs.length:=by omega
  obtain ⟨b,rest,hxs⟩:∃ b rest,xs=b :: rest:=by
    cases xs with
    | nil=>simp at h2n
    | cons b rest=>exact ⟨b,rest,rfl⟩
  have hx0:(0:Nat)<xs.length:=by omega
  have hb0:xs[0]=b:=by simp [hxs]
  obtain ⟨o,off,rfl,-⟩:=strEAt (k.ext x1) hx0
  have C:=fun (X:Hp) (x:Ext h1 X) (i:Nat) (hi:i<xs.length)=>cell_up x (by obtain ⟨o',off',e,c⟩:=strEAt (k.ext x1) hi; cases e; exact c)
  have C0:=C h1 (Ext.refl _) 0 hx0
  simp only [Nat.add_zero,hb0] at C0
  have hx0':(0:Int)<(xs.length:Int):=by omega
  simp -implicitDefEqProofs [hx0,hx0',C0,hb0]
  refine aSI (fun h6=>?_) (fun h6=>?_) <;> have h6':=h6 <;> simp at h6 <;> simp -implicitDefEqProofs [h6']
  · have hI:fsS xs=(fs0,false):=by
      rw [hxs]
      unfold fsS
      simp only
      rw [if_pos (.inr (by omega))]
    rw [hI]
    simp -implicitDefEqProofs [no1.1,nc1]
    exact no1.2.2
  have hb6:b.length=6:=by omega
  obtain ⟨n,hn⟩:∃ n:Nat,n=(b[4]?.getD 0).toNat:=⟨_,rfl⟩
  obtain ⟨d,hd⟩:∃ d:Nat,d=(b[5]?.getD 0).toNat:=⟨_,rfl⟩
  have hn4:b[4].toNat=n:=by rw [hn]; simp [hb6]
  have hd5:b[5].toNat=d:=by rw [hd]; simp [hb6]
  have hn255:n≤255:=by rw [← hn4]; have:=b[4].toNat_lt; omega
  have hd255:d≤255:=by rw [← hd5]; have:=b[5].toNat_lt; omega
  have hwn:IntKind.i64.wrap (n:Int)=n:=wrap_in (by omega) (by omega)
  have hwd:IntKind.i64.wrap (d:Int)=d:=wrap_in (by omega) (by omega)
  have hw2:IntKind.i64.wrap (2+(n:Int))=2+n:=wrap_in (by omega) (by omega)
  have hw3:IntKind.i64.wrap (2+(n:Int)+(d:Int))=2+n+d:=wrap_in (by omega) (by omega)
  simp -implicitDefEqProofs [hx0,hx0',C0,hb0,hb6,hn4,hd5,hwn,hwd,hw2,hw3]
  refine aSI (fun h7=>?_) (fun h7=>?_) <;> have h7':=h7 <;> simp at h7 <;> simp -implicitDefEqProofs [h7']
  · have hI:fsS xs=(fs0,false):=by
      have e:(b :: rest).length=xs.length:=by rw [hxs]
      rw [hxs]
      unfold fsS
      simp only
      rw [if_neg (fun h=>by rcases h with h | h <;> omega),if_pos (by rw [← hn,← hd]; omega)]
    rw [hI]
    simp -implicitDefEqProofs [no1.1,nc1]
    exact no1.2.2
  have hlen:xs.length=2+n+d:=by omega
  have hI:fsS xs=fsBy nodeS xs n:=by
    have e:(b :: rest).length=xs.length:=by rw [hxs]
    rw [hxs]
    unfold fsS
    simp only
    rw [if_neg (fun h=>by rcases h with h | h <;> omega),if_neg (by rw [← hn,← hd]; omega),← hn]
  have hel:=(k.ext x1).el
  obtain ⟨Fp,hpart,-⟩:=(k.ext x1).part (2+n) xs.length (by omega) (Nat.le_refl _)
  rw [List.take_length] at hpart
  have hpart:slR w 9 strE h1 (xs.drop (2+n)) (some ⟨o,off+(2+n),none⟩) Fp:=by simpa [strE,flatE] using hpart
  have hdl:(xs.drop (2+n)).length=xs.length - (2+n):=by simp
  have hto:(2+(n:Int)).toNat=2+n:=by omega
  have hc1:(2:Int)+(n:Int)≤(xs.length:Int):=by omega
  have hc0:(0:Int)≤2+(n:Int):=by omega
  simp -implicitDefEqProofs [asl2_i,hel,hw2,hto,hc1,hc0]
  have hcp:=l1Copy_c (xs.drop (2+n)) _ Fp w _ h1 hpart (by omega)
  rw [hdl] at hcp
  refine cK hcp ?_
  rintro _ H2 ⟨ad,Fd,rfl,od⟩
  simp -implicitDefEqProofs
  have hx2:=od.ext
  have N0:FN h1 (H2++[⟨true,true,26,[.slice none 0 0,.slice ad (xs.length - (2+n)) (xs.length - (2+n))]⟩]) H2.length [] (xs.drop (2+n)) none [] ad Fd :=
    ⟨by simp,Own.nil (hx2.trans (Ext.push _ _)),od.grow (Ext.push _ _),by simp,by simp,fun hm=>by have:=od.sl.lt _ hm; omega,hx2.1⟩
  obtain ⟨fb,hfb⟩:∃ fb,fb=H2.length:=⟨_,rfl⟩
  rw [← hfb] at N0 ⊢
  generalize H2++[(⟨true,true,26,[.slice none 0 0,.slice ad (xs.length - (2+n)) (xs.length - (2+n))]⟩:Ob)]=H3 at N0 ⊢
  clear hcp od hx2 hfb
  refine aloop mixed [0,2,3,4,6,7] (fun (y:Nat × Hp)=>[.slice (some ⟨o,off,none⟩) xs.length xs.length,.pointer (some ⟨h.length,0,none⟩),.bool false,.int .i64 n,.pointer (some ⟨fb,0,none⟩),.int .i64 y.1]) (fun y=>y.2)
    (fun y=>y.1≤n∧FL nodeS xs h1 y.2 fb (xs.drop (2+n)) ad Fd y.1) (fun y=>n - y.1) (0,H3) ⟨by simp,[],none,[],N0,by simp [midT,nodesBy],rfl⟩ rfl rfl ?_
  clear N0
  rintro ⟨i,H⟩ ⟨hi,ns,a',F',N,hns,hnl⟩
  simp only at hi N hns hnl
  simp -implicitDefEqProofs [mkF]
  refine aSI (fun hcc=>?_) (fun hcc=>?_) <;> simp at hcc <;> simp -implicitDefEqProofs [hcc]
  · -- one node more
    have hj:2+i<xs.length:=by omega
    have w2:IntKind.i64.wrap (2+(i:Int))=2+i:=wrap_in (by omega) (by omega)
    have hj0:(0:Int)≤2+(i:Int):=by omega
    have hj1:(2:Int)+(i:Int)<(xs.length:Int):=by omega
    have hjt:(2+(i:Int)).toNat=2+i:=by omega
    have cj:=C H N.own.ext (2+i) hj
    have hsl:xs[2+i].length≤1048576:=by have:=sumL_mem List.length (List.getElem_mem hj); omega
    simp -implicitDefEqProofs [w2,hj0,hj1,hjt,cj]
    refine cK (nodeOf_spec_c xs[2+i] H hsl) ?_
    rintro _ H4 ⟨v,rfl,bb,G,rfl,on⟩
    simp -implicitDefEqProofs
    cases hok:(nodeS xs[2+i]).2
    · -- no node
      have hI2:fsBy nodeS xs n=(fs0,false):=by
        unfold fsBy
        have:=nodesBy_bad hok (midT_mem xs n i (by omega) (by omega))
        unfold midT at this
        rw [this]
      rw [hI,hI2]
      obtain ⟨z1,z2,z3⟩:=no (H4++[⟨true,true,49,[.int .i64 (nodeS xs[2+i]).1.kind,.int .i64 (nodeS xs[2+i]).1.gen,.int .i64 (nodeS xs[2+i]).1.time,.int .i64 (nodeS xs[2+i]).1.size,.slice bb (nodeS xs[2+i]).1.blocks.length (nodeS xs[2+i]).1.blocks.length]⟩]) ((N.own.ext.trans on.ext).trans (Ext.push _ _))
      have z4:∀ X:Hp,X[h.length]?=some ⟨true,true,26,[.slice none 0 0,.slice none 0 0]⟩→∀ j,cellAt X h.length j=([Value.slice none 0 0,.slice none 0 0])[j]?:=fun X e j=>by simp [cellAt,e]
      have z5:=z4 _ z2
      simp -implicitDefEqProofs [hok,z1,z5]
      exact z3
    · obtain ⟨a2,H5,eq,cs,F2,N2⟩:=N.app on ⟨true,true,49,[.int .i64 (nodeS xs[2+i]).1.kind,.int .i64 (nodeS xs[2+i]).1.gen,.int .i64 (nodeS xs[2+i]).1.time,.int .i64 (nodeS xs[2+i]).1.size,.slice bb (nodeS xs[2+i]).1.blocks.length (nodeS xs[2+i]).1.blocks.length]⟩ (by omega)
      have cn:=((N.grow on.ext).grow (Ext.push H4 [⟨true,true,49,[.int .i64 (nodeS xs[2+i]).1.kind,.int .i64 (nodeS xs[2+i]).1.gen,.int .i64 (nodeS xs[2+i]).1.time,.int .i64 (nodeS xs[2+i]).1.size,.slice bb (nodeS xs[2+i]).1.blocks.length (nodeS xs[2+i]).1.blocks.length]⟩])).cells
      rw [hnl] at eq N2 cn
      simp -implicitDefEqProofs [hok,cn,eq,cs]
      have hns2:=nodesBy_snoc hok hns
      rw [← midT_succ xs i hj] at hns2
      exact anext (i+1,sA_ H5 fb 0 [.slice a2 (i+1) (i+1)]) ⟨hcc,ns++[(nodeS xs[2+i]).1],a2,F2,N2,hns2,by simp [hnl]⟩ (by simp only; omega) (by simp [pickF,wS (show i<9223372036854775807 by omega)]) rfl (by simp)
  · have hin:i=n:=by omega
    subst hin
    have hnlx:=fs_nl nodeS_blocks hns (by omega) hl
    obtain ⟨ds,hds⟩:∃ ds,ds=xs.drop (2+i):=⟨_,rfl⟩
    have hns':nodesBy nodeS ((xs.drop 2).take i)=some ns:=hns
    have hI2:fsS xs=if shapeOk ⟨ns,ds⟩=true∧fsBlocks ⟨ns,ds⟩=xs then (⟨ns,ds⟩,true) else (fs0,false):=by
      rw [hI,hds]
      unfold fsBy
      rw [hns']
    rw [← hds] at N hnlx
    clear hpart hdl hI
    have z4:∀ X:Hp,X[h.length]?=some ⟨true,true,26,[.slice none 0 0,.slice none 0 0]⟩→∀ j,cellAt X h.length j=([Value.slice none 0 0,.slice none 0 0])[j]?:=fun X e j=>by simp [cellAt,e]
    have yes:∀ X:Hp,FN h1 X fb ns ds a' F' ad Fd→cS_ X h.length 0 2=true∧(∀ j,cellAt (sA_ X h.length 0 [.slice a' ns.length ns.length,.slice ad ds.length ds.length]) h.length j=([Value.slice a' ns.length ns.length,.slice ad ds.length ds.length])[j]?)∧FsRes ⟨ns,ds⟩ h (sA_ X h.length 0 [.slice a' ns.length ns.length,.slice ad ds.length ds.length]) (.agg #[.slice a' ns.length ns.length,.slice ad ds.length ds.length]):=fun X N=>by
      have r2:X[h.length]?=some ⟨true,true,26,[.slice none 0 0,.slice none 0 0]⟩:=(N.own.ext.2 _ (by omega)).trans r1
      have e:Ext h (sA_ X h.length 0 [.slice a' ns.length ns.length,.slice ad ds.length ds.length]):=(x1.trans N.own.ext).set (by omega) 0 _
      have hself:(sA_ X h.length 0 [.slice a' ns.length ns.length,.slice ad ds.length ds.length])[h.length]?=some ⟨true,true,26,[.slice a' ns.length ns.length,.slice ad ds.length ds.length]⟩:=by
        rw [sAg,if_pos rfl,r2]
        rfl
      exact ⟨by simp [cS_,r2],fun j=>by simp [cellAt,hself],N.res.low e (by omega) fun q hq=>by rw [sAg,if_neg (by omega)]⟩
    have cn:=N.cells
    simp -implicitDefEqProofs [cn]
    refine cK (shapeOk_spec_c ⟨ns,ds⟩ a' ad F' Fd true _ H N.own.sl N.dat.sl hnlx) ?_
    rintro _ _ ⟨⟨t5,rfl⟩,rfl⟩
    have N5:=N.grow (Ext.push H t5)
    generalize H++t5=H5 at N5 ⊢
    clear cn N
    have cn:=N5.cells
    cases hsh:shapeOk ⟨ns,ds⟩
    · rw [hI2,hsh]
      obtain ⟨z1,z2,z3⟩:=no H5 N5.own.ext
      have z5:=z4 _ z2
      simp -implicitDefEqProofs [z1,z5]
      exact z3
    simp -implicitDefEqProofs [cn]
    refine cK (fsBlocks_spec_c ⟨ns,ds⟩ a' ad F' Fd true _ H5 N5.own.sl N5.dat.sl hnlx) ?_
    rintro _ H6 ⟨ab,Fb,rfl,ob⟩
    have N6:=N5.grow ob.ext
    simp -implicitDefEqProofs
    refine cK (l1Texts_c (fsBlocks ⟨ns,ds⟩) xs ab (some ⟨o,off,none⟩) Fb F true w _ _ H6 ob.sl (k.ext (x1.trans N6.own.ext)) (fsBlocks_len _)) ?_
    rintro _ _ ⟨⟨t7,rfl⟩,rfl⟩
    have N7:=N6.grow (Ext.push H6 t7)
    generalize H6++t7=H7 at N7 ⊢
    have cn:=N7.cells
    by_cases heq:fsBlocks ⟨ns,ds⟩=xs
    · rw [hI2,if_pos ⟨hsh,heq⟩]
      obtain ⟨z1,z2,z3⟩:=yes H7 N7
      simp -implicitDefEqProofs [heq,cn,z1,z2]
      exact z3
    · rw [hI2,if_neg (fun h=>heq h.2)]
      obtain ⟨z1,z2,z3⟩:=no H7 N7.own.ext
      have z5:=z4 _ z2
      simp -implicitDefEqProofs [heq,z1,z5]
      exact z3
set_option maxHeartbeats 8000000 in
theorem fsOf_impl_c (xs:List Str) (a:Option Addr) (F:List Nat) (w:Bool) (h:Hp) (k:slR w 9 strE h xs a F) (hl:xs.length+sumL List.length xs≤1048576) :
    ACall Try.prog 8 [.slice a xs.length xs.length] h fun r h'=>∃ v,r=.tuple #[v,.bool (fsI xs).2]∧FsRes (fsI xs).1 h h' v:=by
  refine acall mixed Try.func8 rfl (by kernel_rfl) ?_
  simp -implicitDefEqProofs [Try.f8]
  obtain ⟨h1,hh1⟩:∃ h1:Hp,h1=h++[⟨true,true,26,[.slice none 0 0,.slice none 0 0]⟩]:=⟨_,rfl⟩
  have x1:Ext h h1:=by rw [hh1]; exact Ext.push _ _
  have l1:h1.length=h.length+1:=by rw [hh1]; simp
  have r1:h1[h.length]?=some ⟨true,true,26,[.slice none 0 0,.slice none 0 0]⟩:=by rw [hh1]; simp
  rw [← hh1]
  clear hh1
  have no:∀ X:Hp,Ext h1 X→cS_ X h.length 0 2=true∧(sA_ X h.length 0 [.slice none 0 0,.slice none 0 0])[h.length]?=some ⟨true,true,26,[.slice none 0 0,.slice none 0 0]⟩∧FsRes fs0 h (sA_ X h.length 0 [.slice none 0 0,.slice none 0 0]) (.agg #[.slice none 0 0,.slice none 0 0]):=fun X x=>by
    have r2:X[h.length]?=some ⟨true,true,26,[.slice none 0 0,.slice none 0 0]⟩:=(x.2 _ (by omega)).trans r1
    have e:Ext h (sA_ X h.length 0 [.slice none 0 0,.slice none 0 0]):=(x1.trans x).set (by omega) 0 _
    exact ⟨by simp [cS_,r2],by rw [sAg,if_pos rfl,r2]; rfl,none,[],none,[],rfl,Own.nil e,Own.nil e,by simp⟩
  have no1:=no h1 (Ext.refl _)
  have nc1:∀ j,cellAt (sA_ h1 h.length 0 [.slice none 0 0,.slice none 0 0]) h.length j=([Value.slice none 0 0,.slice none 0 0])[j]?:=fun j=>by simp [cellAt,no1.2.1]
  refine aSI (fun h2=>?_) (fun h2=>?_) <;> have h2':=h2 <;> simp at h2 <;> simp -implicitDefEqProofs [h2']
  · have hI:fsI xs=(fs0,false):=by
      unfold fsI
      cases xs with
      | nil=>rfl
      | cons b rest=>simp only; rw [if_pos (.inl (by omega))]
    rw [hI]
    simp -implicitDefEqProofs [no1.1,nc1]
    exact no1.2.2
  have h2n:2≤xs.length:=by omega
  obtain ⟨b,rest,hxs⟩:∃ b rest,xs=b :: rest:=by
    cases xs with
    | nil=>simp at h2n
    | cons b rest=>exact ⟨b,rest,rfl⟩
  have hx0:(0:Nat)<xs.length:=by omega
  have hb0:xs[0]=b:=by simp [hxs]
  obtain ⟨o,off,rfl,-⟩:=strEAt (k.ext x1) hx0
  have C:=fun (X:Hp) (x:Ext h1 X) (i:Nat) (hi:i<xs.length)=>cell_up x (by obtain ⟨o',off',e,c⟩:=strEAt (k.ext x1) hi; cases e; exact c)
  have C0:=C h1 (Ext.refl _) 0 hx0
  simp only [Nat.add_zero,hb0] at C0
  have hx0':(0:Int)<(xs.length:Int):=by omega
  simp -implicitDefEqProofs [hx0,hx0',C0,hb0]
  refine aSI (fun h6=>?_) (fun h6=>?_) <;> have h6':=h6 <;> simp at h6 <;> simp -implicitDefEqProofs [h6']
  · have hI:fsI xs=(fs0,false):=by
      rw [hxs]
      unfold fsI
      simp only
      rw [if_pos (.inr (by omega))]
    rw [hI]
    simp -implicitDefEqProofs [no1.1,nc1]
    exact no1.2.2
  have hb4:4≤b.length:=by omega
  have hbl:b.length≤1048576:=by have:=sumL_mem List.length (List.getElem_mem hx0); rw [hb0] at this; omega
  simp -implicitDefEqProofs [hx0,hx0',C0,hb0]
  have by0:=bytesR h1 5 b
  have x2:Ext h1 (h1++[⟨true,true,5,bytesL (S b)⟩]):=Ext.push _ _
  generalize h1++[(⟨true,true,5,bytesL (S b)⟩:Ob)]=H1 at by0 x2 ⊢
  obtain ⟨bo,hbo⟩:∃ bo,bo=h1.length:=⟨_,rfl⟩
  try rw [← hbo]
  rw [← hbo] at by0
  refine cK (getNum_impl_c b 4 (some ⟨bo,0,none⟩) _ true _ H1 by0 hbl (by omega)) ?_
  rintro _ _ ⟨⟨t2,rfl⟩,rfl⟩
  have x3:=x2.trans (Ext.push H1 t2)
  have by1:=by0.ext (Ext.push H1 t2)
  generalize H1++t2=H2 at x3 by1 ⊢
  clear x2 by0
  have bad:∀ X:Hp,Ext h1 X→cS_ X h.length 0 2=true∧(∀ j,cellAt (sA_ X h.length 0 [.slice none 0 0,.slice none 0 0]) h.length j=([Value.slice none 0 0,.slice none 0 0])[j]?)∧FsRes fs0 h (sA_ X h.length 0 [.slice none 0 0,.slice none 0 0]) (.agg #[.slice none 0 0,.slice none 0 0]):=fun X x=>by
    obtain ⟨z1,z2,z3⟩:=no X x
    exact ⟨z1,fun j=>by simp [cellAt,z2],z3⟩
  cases hg1:getNum b 4 with
  | none =>
    have hI:fsI xs=(fs0,false):=by
      rw [hxs]
      unfold fsI
      simp only
      rw [if_neg (fun h => by have e : (b :: rest).length = xs.length := by rw [hxs]
                              rcases h with h | h <;> omega),hg1]
    rw [hI]
    simp -implicitDefEqProofs [gnV]
    have hc:=getNum_impl_c b 0 (some ⟨bo,0,none⟩) _ true _ H2 by1 hbl (by omega)
    simp only [Int.natCast_zero] at hc
    refine cK hc ?_
    rintro _ _ ⟨⟨t3,rfl⟩,rfl⟩
    obtain ⟨z1,z2,z3⟩:=bad _ (x3.trans (Ext.push H2 t3))
    cases getNum b 0 <;> simp -implicitDefEqProofs [gnV,z1,z2] <;> exact z3
  | some q =>
  obtain ⟨n,e⟩:=q
  obtain ⟨gb1,gb2,gb3⟩:=getNum_bound hg1
  simp -implicitDefEqProofs [gnV]
  refine cK (getNum_impl_c b e (some ⟨bo,0,none⟩) _ true _ H2 by1 hbl (by omega)) ?_
  rintro _ _ ⟨⟨t3,rfl⟩,rfl⟩
  have x4:=x3.trans (Ext.push H2 t3)
  generalize H2++t3=H3 at x4 ⊢
  clear by1 x3
  have bd:=bad H3 x4
  cases hg2:getNum b e with
  | none =>
    have hI:fsI xs=(fs0,false):=by
      rw [hxs]
      unfold fsI
      simp only
      rw [if_neg (fun h => by have e : (b :: rest).length = xs.length := by rw [hxs]
                              rcases h with h | h <;> omega),hg1]
      simp only [hg2]
    rw [hI]
    simp -implicitDefEqProofs [gnV,bd.1,bd.2.1]
    exact bd.2.2
  | some q =>
  obtain ⟨d,e2⟩:=q
  obtain ⟨gc1,gc2,gc3⟩:=getNum_bound hg2
  have hw2:IntKind.i64.wrap (2+(n:Int))=2+n:=wrap_in (by omega) (by omega)
  have hw3:IntKind.i64.wrap (2+(n:Int)+(d:Int))=2+n+d:=wrap_in (by omega) (by omega)
  have hI:fsI xs=if 10<n∨xs.length≠2+n+d then (fs0,false) else fsBy nodeI xs n:=by
    rw [hxs]
    unfold fsI
    simp only
    rw [if_neg (fun h => by have e : (b :: rest).length = xs.length := by rw [hxs]
                            rcases h with h | h <;> omega),hg1]
    simp only [hg2]
  simp -implicitDefEqProofs [gnV]
  by_cases hn10:10<n
  · rw [hI,if_pos (.inl hn10)]
    have hn10':(10:Int)<(n:Int):=by omega
    simp -implicitDefEqProofs [hn10,hn10',bd.1,bd.2.1]
    exact bd.2.2
  have hn10':¬ (10:Int)<(n:Int):=by omega
  simp -implicitDefEqProofs [hn10,hn10',hw2,hw3]
  refine aSI (fun h7=>?_) (fun h7=>?_) <;> have h7':=h7 <;> simp at h7 <;> simp -implicitDefEqProofs [h7']
  · rw [hI,if_pos (.inr (by omega))]
    simp -implicitDefEqProofs [bd.1,bd.2.1]
    exact bd.2.2
  have hlen:xs.length=2+n+d:=by omega
  rw [if_neg (fun h=>by rcases h with h | h <;> omega)] at hI
  have hel:=(k.ext (x1.trans x4)).el
  obtain ⟨Fp,hpart,-⟩:=(k.ext (x1.trans x4)).part (2+n) xs.length (by omega) (Nat.le_refl _)
  rw [List.take_length] at hpart
  have hpart:slR w 9 strE H3 (xs.drop (2+n)) (some ⟨o,off+(2+n),none⟩) Fp:=by simpa [strE,flatE] using hpart
  have hdl:(xs.drop (2+n)).length=xs.length - (2+n):=by simp
  have hto:(2+(n:Int)).toNat=2+n:=by omega
  have hc1:(2:Int)+(n:Int)≤(xs.length:Int):=by omega
  have hc0:(0:Int)≤2+(n:Int):=by omega
  have hc2:(2:Int)≤2+(n:Int):=by omega
  simp -implicitDefEqProofs [asl2_i,hel,hw2,hto,hc1,hc0]
  have hcp:=cloneStr_c (xs.drop (2+n)) _ Fp w _ H3 hpart (by omega)
  rw [hdl] at hcp
  refine cK hcp ?_
  rintro _ H4 ⟨ad,Fd,rfl,od⟩
  simp -implicitDefEqProofs
  have hx2:=od.ext
  have N0:FN h1 (H4++[⟨true,true,26,[.slice none 0 0,.slice ad (xs.length - (2+n)) (xs.length - (2+n))]⟩]) H4.length [] (xs.drop (2+n)) none [] ad Fd :=
    ⟨by simp,Own.nil ((x4.trans hx2).trans (Ext.push _ _)),(Own.of_new x4 od).grow (Ext.push _ _),by simp,by simp,fun hm=>by have:=od.sl.lt _ hm; omega,by have:=x4.1; have:=hx2.1; omega⟩
  obtain ⟨fb,hfb⟩:∃ fb,fb=H4.length:=⟨_,rfl⟩
  rw [← hfb] at N0 ⊢
  have hel5:=(k.ext (x1.trans N0.own.ext)).el
  generalize H4++[(⟨true,true,26,[.slice none 0 0,.slice ad (xs.length - (2+n)) (xs.length - (2+n))]⟩:Ob)]=H5 at N0 hel5 ⊢
  clear hcp od hx2 hfb bd hpart hdl x4
  simp -implicitDefEqProofs [asl2_ij,hel5,hw2,hto,hc1,hc0,hc2]
  refine aloop mixed [0,2,3,11,73,74,75] (fun (y:Nat × Hp)=>[.slice (some ⟨o,off,none⟩) xs.length xs.length,.pointer (some ⟨h.length,0,none⟩),.bool false,.pointer (some ⟨fb,0,none⟩),.slice (some ⟨o,off+2,none⟩) n (xs.length - 2),.int .i64 n,.int .i64 y.1]) (fun y=>y.2)
    (fun y=>y.1≤n∧FL nodeI xs h1 y.2 fb (xs.drop (2+n)) ad Fd y.1) (fun y=>n - y.1) (0,H5) ⟨by simp,[],none,[],N0,by simp [midT,nodesBy],rfl⟩ rfl rfl ?_
  clear N0
  rintro ⟨i,H⟩ ⟨hi,ns,a',F',N,hns,hnl⟩
  simp only at hi N hns hnl
  simp -implicitDefEqProofs [mkF]
  refine aSI (fun hcc=>?_) (fun hcc=>?_) <;> simp at hcc <;> simp -implicitDefEqProofs [hcc]
  · -- one node more
    have hj:2+i<xs.length:=by omega
    have w2:IntKind.i64.wrap (2+(i:Int))=2+i:=wrap_in (by omega) (by omega)
    have hj0:(0:Int)≤2+(i:Int):=by omega
    have hj1:(2:Int)+(i:Int)<(xs.length:Int):=by omega
    have hjt:(2+(i:Int)).toNat=2+i:=by omega
    have cj:=C H N.own.ext (2+i) hj
    have hsl:xs[2+i].length≤1048576:=by have:=sumL_mem List.length (List.getElem_mem hj); omega
    rw [← Nat.add_assoc] at cj
    simp -implicitDefEqProofs [hcc,cj]
    refine cK (nodeOf_impl_c xs[2+i] H hsl) ?_
    rintro _ H4 ⟨v,rfl,bb,G,rfl,on⟩
    simp -implicitDefEqProofs
    cases hok:(nodeI xs[2+i]).2
    · -- no node
      have hI2:fsBy nodeI xs n=(fs0,false):=by
        unfold fsBy
        have:=nodesBy_bad hok (midT_mem xs n i (by omega) (by omega))
        unfold midT at this
        rw [this]
      rw [hI,hI2]
      obtain ⟨z1,z2,z3⟩:=no (H4++[⟨true,true,49,[.int .i64 (nodeI xs[2+i]).1.kind,.int .i64 (nodeI xs[2+i]).1.gen,.int .i64 (nodeI xs[2+i]).1.time,.int .i64 (nodeI xs[2+i]).1.size,.slice bb (nodeI xs[2+i]).1.blocks.length (nodeI xs[2+i]).1.blocks.length]⟩]) ((N.own.ext.trans on.ext).trans (Ext.push _ _))
      have z4:∀ X:Hp,X[h.length]?=some ⟨true,true,26,[.slice none 0 0,.slice none 0 0]⟩→∀ j,cellAt X h.length j=([Value.slice none 0 0,.slice none 0 0])[j]?:=fun X e j=>by simp [cellAt,e]
      have z5:=z4 _ z2
      simp -implicitDefEqProofs [hok,z1,z5]
      exact z3
    · obtain ⟨a2,H5,eq,cs,F2,N2⟩:=N.app on ⟨true,true,49,[.int .i64 (nodeI xs[2+i]).1.kind,.int .i64 (nodeI xs[2+i]).1.gen,.int .i64 (nodeI xs[2+i]).1.time,.int .i64 (nodeI xs[2+i]).1.size,.slice bb (nodeI xs[2+i]).1.blocks.length (nodeI xs[2+i]).1.blocks.length]⟩ (by omega)
      have cn:=((N.grow on.ext).grow (Ext.push H4 [⟨true,true,49,[.int .i64 (nodeI xs[2+i]).1.kind,.int .i64 (nodeI xs[2+i]).1.gen,.int .i64 (nodeI xs[2+i]).1.time,.int .i64 (nodeI xs[2+i]).1.size,.slice bb (nodeI xs[2+i]).1.blocks.length (nodeI xs[2+i]).1.blocks.length]⟩])).cells
      rw [hnl] at eq N2 cn
      simp -implicitDefEqProofs [hok,cn,eq,cs]
      have hns2:=nodesBy_snoc hok hns
      rw [← midT_succ xs i hj] at hns2
      exact anext (i+1,sA_ H5 fb 0 [.slice a2 (i+1) (i+1)]) ⟨hcc,ns++[(nodeI xs[2+i]).1],a2,F2,N2,hns2,by simp [hnl]⟩ (by simp only; omega) (by simp [pickF,wS (show i<9223372036854775807 by omega)]) rfl (by simp)
  · have hin:i=n:=by omega
    subst hin
    have hnlx:=fs_nl nodeI_blocks hns (by omega) hl
    obtain ⟨ds,hds⟩:∃ ds,ds=xs.drop (2+i):=⟨_,rfl⟩
    have hns':nodesBy nodeI ((xs.drop 2).take i)=some ns:=hns
    have hI2:fsI xs=if shapeOk ⟨ns,ds⟩=true∧fsBlocks ⟨ns,ds⟩=xs then (⟨ns,ds⟩,true) else (fs0,false):=by
      rw [hI,hds]
      unfold fsBy
      rw [hns']
    rw [← hds] at N hnlx
    clear hI
    have z4:∀ X:Hp,X[h.length]?=some ⟨true,true,26,[.slice none 0 0,.slice none 0 0]⟩→∀ j,cellAt X h.length j=([Value.slice none 0 0,.slice none 0 0])[j]?:=fun X e j=>by simp [cellAt,e]
    have yes:∀ X:Hp,FN h1 X fb ns ds a' F' ad Fd→cS_ X h.length 0 2=true∧(∀ j,cellAt (sA_ X h.length 0 [.slice a' ns.length ns.length,.slice ad ds.length ds.length]) h.length j=([Value.slice a' ns.length ns.length,.slice ad ds.length ds.length])[j]?)∧FsRes ⟨ns,ds⟩ h (sA_ X h.length 0 [.slice a' ns.length ns.length,.slice ad ds.length ds.length]) (.agg #[.slice a' ns.length ns.length,.slice ad ds.length ds.length]):=fun X N=>by
      have r2:X[h.length]?=some ⟨true,true,26,[.slice none 0 0,.slice none 0 0]⟩:=(N.own.ext.2 _ (by omega)).trans r1
      have e:Ext h (sA_ X h.length 0 [.slice a' ns.length ns.length,.slice ad ds.length ds.length]):=(x1.trans N.own.ext).set (by omega) 0 _
      have hself:(sA_ X h.length 0 [.slice a' ns.length ns.length,.slice ad ds.length ds.length])[h.length]?=some ⟨true,true,26,[.slice a' ns.length ns.length,.slice ad ds.length ds.length]⟩:=by
        rw [sAg,if_pos rfl,r2]
        rfl
      exact ⟨by simp [cS_,r2],fun j=>by simp [cellAt,hself],N.res.low e (by omega) fun q hq=>by rw [sAg,if_neg (by omega)]⟩
    have cn:=N.cells
    simp -implicitDefEqProofs [cn]
    refine cK (shapeOk_impl_c ⟨ns,ds⟩ a' ad F' Fd true _ H N.own.sl N.dat.sl hnlx) ?_
    rintro _ _ ⟨⟨t5,rfl⟩,rfl⟩
    have N5:=N.grow (Ext.push H t5)
    generalize H++t5=H5 at N5 ⊢
    clear cn N
    have cn:=N5.cells
    cases hsh:shapeOk ⟨ns,ds⟩
    · rw [hI2,hsh]
      obtain ⟨z1,z2,z3⟩:=no H5 N5.own.ext
      have z5:=z4 _ z2
      simp -implicitDefEqProofs [z1,z5]
      exact z3
    simp -implicitDefEqProofs [cn]
    refine cK (fsBlocks_impl_c ⟨ns,ds⟩ a' ad F' Fd true _ H5 N5.own.sl N5.dat.sl hnlx) ?_
    rintro _ H6 ⟨ab,Fb,-,rfl,ob⟩
    have N6:=N5.grow ob.ext
    simp -implicitDefEqProofs
    refine cK (equalStr_c (fsBlocks ⟨ns,ds⟩) xs ab (some ⟨o,off,none⟩) Fb F true w _ _ H6 ob.sl (k.ext (x1.trans N6.own.ext)) (fsBlocks_len _)) ?_
    rintro _ _ ⟨⟨t7,rfl⟩,rfl⟩
    have N7:=N6.grow (Ext.push H6 t7)
    generalize H6++t7=H7 at N7 ⊢
    have cn:=N7.cells
    by_cases heq:fsBlocks ⟨ns,ds⟩=xs
    · rw [hI2,if_pos ⟨hsh,heq⟩]
      obtain ⟨z1,z2,z3⟩:=yes H7 N7
      simp -implicitDefEqProofs [heq,cn,z1,z2]
      exact z3
    · rw [hI2,if_neg (fun h=>heq h.2)]
      obtain ⟨z1,z2,z3⟩:=no H7 N7.own.ext
      have z5:=z4 _ z2
      simp -implicitDefEqProofs [heq,z1,z5]
      exact z3
end Go.Proofs.Ytmpgpkdijfcfhaa.Hz
