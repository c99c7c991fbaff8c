/- Texts of the calculus and of the program's functions, merged: QA QB QC QD QE. -/
import Derived.Test.YtmpgpkdijfcfhaaGreatHyHA
import Derived.Test.YtmpgpkdijfcfhaaGreatHyGH
import Derived.Test.YtmpgpkdijfcfhaaGreatHyGJ
import Derived.Test.YtmpgpkdijfcfhaaGreatHyGF
namespace Go.Proofs.YtmpgpkdijfcfhaaGreat.Hz
open Go.RowKit
set_option linter.unusedVariables false
set_option linter.unusedSimpArgs false
theorem tree_sorted (f:Fs):SortedP (tI_ f):=by
  unfold tI_
  split
  · rename_i e1
    exact (foldPut_sorted (itemsOf f 4 0 []) [] (by simp [SortedP]) (by simpa using itemsOf_distinct 4 0 [] (vis_root e1) (by simp) (by simp))).1
  · simp [SortedP]
theorem tree_mem {f:Fs} (e1:fsOk f=true) (x:Item):x∈tI_ f↔x∈itemsOf f 4 0 []:=by
  unfold tI_
  rw [if_pos e1]
  have:=(foldPut_sorted (itemsOf f 4 0 []) [] (by simp [SortedP]) (by simpa using itemsOf_distinct 4 0 [] (vis_root e1) (by simp) (by simp))).2
  simpa using this.mem_iff
theorem tree_distinct (f:Fs):(tI_ f).Pairwise fun a b=>a.path≠b.path:=by
  refine (tree_sorted f).imp fun {a b} h e=>?_
  rw [e,less_irr] at h
  cases h
theorem tree_path {f:Fs} {x:Item} (hx:x∈tI_ f):∃ ms:List Str,x.path=pathOf ms∧1≤ms.length∧ms.length≤4∧ms.all nameOk=true:=by
  cases e1:fsOk f
  · simp [tI_,e1] at hx
  obtain ⟨ms,p1,p2,p3,p4,_⟩:=itemsOf_path 4 0 [] (vis_root e1) (by simp) (by simp) x ((tree_mem e1 x).1 hx)
  exact ⟨ms,by simpa using p1,p2,p3,p4⟩
theorem tree_pathOk {f:Fs} {x:Item} (hx:x∈tI_ f):pathOk x.path=true∧x.path≠[47]:=by
  obtain ⟨ms,p1,p2,p3,p4⟩:=tree_path hx
  obtain ⟨h1,h2⟩:=pathOf_names p3 p4
  rw [p1]
  refine ⟨h1,fun e=>?_⟩
  rw [e] at h2
  have:names [47]=[]:=by simp [names]
  rw [this] at h2
  rw [← h2] at p2
  simp at p2
theorem find_none {xs:List Item} {p:Str}:(treeFind xs p).2=false→∀ x∈xs,x.path≠p:=by
  induction xs with
  | nil=>intro _ x hx; simp at hx
  | cons y xs ih =>
    intro h x hx
    unfold treeFind at h
    split at h
    · cases h
    · rename_i hy
      rcases List.mem_cons.1 hx with rfl | hx
      · exact hy
      · exact ih h x hx
theorem find_some {xs:List Item} {p:Str}:(treeFind xs p).2=true→(treeFind xs p).1∈xs∧(treeFind xs p).1.path=p:=by
  induction xs with
  | nil=>intro h; simp [treeFind] at h
  | cons y xs ih =>
    intro h
    unfold treeFind at h ⊢
    split at h
    · rename_i hy
      rw [if_pos hy]
      exact ⟨by simp,hy⟩
    · rename_i hy
      rw [if_neg hy]
      obtain ⟨h1,h2⟩:=ih h
      exact ⟨by simp [h1],h2⟩
theorem find_has {xs:List Item} {p:Str} {x:Item} (hx:x∈xs) (hp:x.path=p):(treeFind xs p).2=true:=by
  cases h:(treeFind xs p).2
  · exact absurd hp (find_none h x hx)
  · rfl
theorem find_only {xs:List Item} (hd:xs.Pairwise fun a b=>a.path≠b.path) {x:Item} (hx:x∈xs):treeFind xs x.path=(x,true):=by
  have h1:=find_has hx rfl
  obtain ⟨h2,h3⟩:=find_some h1
  have:(treeFind xs x.path).1=x:=by
    by_cases e:(treeFind xs x.path).1=x
    · exact e
    · exfalso
      have hd2:xs.Pairwise fun a b=>a.path≠b.path:=hd
      rcases List.mem_iff_getElem.1 h2 with ⟨i,hi,ei⟩
      rcases List.mem_iff_getElem.1 hx with ⟨j,hj,ej⟩
      have hij:i≠j:=fun h=>e (by subst h; rw [← ei,ej])
      rcases Nat.lt_or_gt_of_ne hij with h | h
      · exact (List.pairwise_iff_getElem.1 hd2 i j hi hj h) (by rw [ei,ej,h3])
      · exact (List.pairwise_iff_getElem.1 hd2 j i hj hi h) (by rw [ei,ej,h3])
  exact Prod.ext this h1
theorem treeGet_find {xs:List Item} {p:Str} (h:p≠[47]):treeGet xs p=treeFind xs p:=by unfold treeGet; rw [if_neg h]
def agr (x y:Item):Prop:=x.path=y.path→x.kind=y.kind
def clash (xs:List Item) (x:Item):Bool:=(treeGet xs x.path).2 && (treeGet xs x.path).1.kind != x.kind
def scanOk:List Item→List Item→Bool
  | _,[]=>true
  | acc,x :: xs=>!clash acc x && scanOk (acc++[x]) xs
theorem clash_not {acc:List Item} {x:Item} (hx:x.path≠[47]) (ha:acc.Pairwise agr):clash acc x=false↔∀ y∈acc,agr y x:=by
  unfold clash
  rw [treeGet_find hx]
  cases h:(treeFind acc x.path).2
  · simp only [Bool.false_and,true_iff]
    exact fun y hy e=>absurd e (find_none h y hy)
  · obtain ⟨h1,h2⟩:=find_some h
    simp only [Bool.true_and,bne_eq_false_iff_eq]
    constructor
    · intro hk y hy e
      have:(treeFind acc x.path).1.kind=y.kind:=by
        rcases List.mem_iff_getElem.1 h1 with ⟨i,hi,ei⟩
        rcases List.mem_iff_getElem.1 hy with ⟨j,hj,ej⟩
        rcases Nat.lt_trichotomy i j with h | h | h
        · have:=List.pairwise_iff_getElem.1 ha i j hi hj h
          rw [ei,ej] at this
          exact this (by rw [h2,e])
        · subst h; rw [← ei,ej]
        · have:=List.pairwise_iff_getElem.1 ha j i hj hi h
          rw [ei,ej] at this
          exact (this (by rw [h2,e])).symm
      rw [← this,hk]
    · intro hk
      exact hk _ h1 h2
theorem scan_iff:∀ (xs acc:List Item),(∀ x∈xs,x.path≠[47])→acc.Pairwise agr→(scanOk acc xs=true↔(acc++xs).Pairwise agr)
  | [],acc,_,ha=>by simp [scanOk,ha]
  | x :: xs,acc,hr,ha=>by
    have hx:=hr x (by simp)
    have hc:=clash_not hx ha
    unfold scanOk
    cases hcl:clash acc x
    · have h1:=hc.1 hcl
      have ha':(acc++[x]).Pairwise agr:=List.pairwise_append.2 ⟨ha,by simp,fun y hy z hz=>by
        rw [List.mem_singleton.1 hz]; exact h1 y hy⟩
      have ih:=scan_iff xs (acc++[x]) (fun y hy=>hr y (by simp [hy])) ha'
      simp only [Bool.not_false,Bool.true_and,ih,List.append_assoc,List.singleton_append]
    · simp only [Bool.not_true,Bool.false_and,Bool.false_eq_true,false_iff]
      intro hp
      have:clash acc x=false:=hc.2 fun y hy=>(List.pairwise_append.1 hp).2.2 y hy x (by simp)
      rw [hcl] at this
      cases this
def moveOk (p:Pool):Bool :=
  if p.move.on then inR p.move.src 0 (p.branches.length - 1) && inR p.move.dst 0 (p.branches.length - 1) && p.move.src != p.move.dst && pathOk p.move.path && p.move.path != [47] && inR p.move.gen 0 1000000 && inR p.move.done 0 80
  else decide (p.move=⟨false,false,0,0,[],0,0⟩)
noncomputable def brOk (b:Branch):Bool:=inR b.mode 0 2 && fsOk b.fs
noncomputable def trees (bs:List Branch):List (List Item):=bs.map fun b=>tI_ b.fs
noncomputable def headOk (p:Pool):Bool:=inR p.policy 0 5 && inR p.minFree 0 36 && inR p.branches.length 1 4 && moveOk p
open Classical in
noncomputable def poolOk (p:Pool):Bool:=headOk p && p.branches.all brOk && decide ((trees p.branches).flatten.Pairwise agr)
noncomputable def brScan:List Item→List Branch→Bool
  | _,[]=>true
  | acc,b :: bs=>brOk b && scanOk acc (tI_ b.fs) && brScan (acc++tI_ b.fs) bs
theorem tree_agr (f:Fs):(tI_ f).Pairwise agr:=(tree_distinct f).imp fun h e=>absurd e h
theorem brScan_iff:∀ (bs:List Branch) (acc:List Item),acc.Pairwise agr→(brScan acc bs=true↔bs.all brOk=true∧(acc++(trees bs).flatten).Pairwise agr)
  | [],acc,ha=>by simp [brScan,trees,ha]
  | b :: bs,acc,ha=>by
    have h1:=scan_iff (tI_ b.fs) acc (fun x hx=>(tree_pathOk hx).2) ha
    unfold brScan
    simp only [Bool.and_eq_true,List.all_cons,trees,List.map_cons,List.flatten_cons]
    rw [← List.append_assoc]
    constructor
    · rintro ⟨⟨h2,h3⟩,h4⟩
      obtain ⟨g1,g2⟩:=(brScan_iff bs _ (h1.1 h3)).1 h4
      exact ⟨⟨h2,g1⟩,g2⟩
    · rintro ⟨⟨h2,g1⟩,g2⟩
      have ha2:=(List.pairwise_append.1 g2).1
      exact ⟨⟨h2,h1.2 ha2⟩,(brScan_iff bs _ ha2).2 ⟨g1,g2⟩⟩
theorem poolOk_scan (p:Pool):poolOk p=(headOk p && brScan [] p.branches):=by
  have h:=brScan_iff p.branches [] List.Pairwise.nil
  unfold poolOk
  rw [Bool.and_assoc]
  congr 1
  rw [Bool.eq_iff_iff,h]
  simp
def agreeB (a b:List Item):Bool:=a.all fun x=>!clash b x
theorem agree_iff {a b:List Item} (ha:∀ x∈a,x.path≠[47]) (hb:b.Pairwise agr):agreeB a b=true↔∀ y∈b,∀ x∈a,agr y x:=by
  unfold agreeB
  rw [List.all_eq_true]
  constructor
  · intro h y hy x hx
    have:=h x hx
    simp only [Bool.not_eq_true'] at this
    exact (clash_not (ha x hx) hb).1 this y hy
  · intro h x hx
    simp only [Bool.not_eq_true']
    exact (clash_not (ha x hx) hb).2 fun y hy=>h y hy x hx
theorem pairs_agree (bs:List Branch):(trees bs).flatten.Pairwise agr↔∀ (k i:Nat) (hk:k<i) (hi:i<bs.length),agreeB (tI_ bs[i].fs) (tI_ bs[k].fs)=true:=by
  rw [List.pairwise_flatten]
  have h1:∀ l∈trees bs,l.Pairwise agr:=fun l hl=>by
    obtain ⟨b,_,rfl⟩:=List.mem_map.1 hl
    exact tree_agr b.fs
  simp only [and_iff_right h1]
  unfold trees
  rw [List.pairwise_map,List.pairwise_iff_getElem]
  constructor
  · intro h k i hk hi
    exact (agree_iff (fun x hx=>(tree_pathOk hx).2) (tree_agr _)).2 (h k i (by omega) hi hk)
  · intro h k i hk hi hki
    exact (agree_iff (fun x hx=>(tree_pathOk hx).2) (tree_agr _)).1 (h k i hki hi)
set_option maxRecDepth 20000
theorem isMode_c (k:Int) (h:Hp):ACall Tryz.prog 44 [.int .i64 k] h fun r h'=>r=.bool (inR k 0 2)∧h'=h:=by
  refine acall mixed Tryz.func44 rfl (by kernel_rfl) ?_
  simp [Tryz.f44]
  refine cK (withinR k 0 2 h) ?_
  rintro _ _ ⟨rfl,rfl⟩
  simp
theorem move_off {m:Move} (h:m.on=false):(decide (m=⟨false,false,0,0,[],0,0⟩))=(decide (m.clean=false) && decide (m.src=0) && decide (m.dst=0) && decide (m.path=[]) && decide (m.gen=0) && decide (m.done=0)):=by
  obtain ⟨on,clean,src,dst,path,gen,done⟩:=m
  simp at h
  subst h
  simp [Bool.decide_and,Bool.and_assoc]
set_option maxHeartbeats 1000000 in
theorem moveOk_spec_c (m:Move) (n:Nat) (h:Hp) (hn:n≤1048576) (hp:m.path.length≤1048576) (q:Pool) (hq:q.move=m) (hb:q.branches.length=n) :
    ACall Tryz.prog 38 [.agg #[.bool m.on,.bool m.clean,.int .i64 m.src,.int .i64 m.dst,.string (S m.path),.int .i64 m.gen,.int .i64 m.done],.int .i64 n] h fun r h'=>(∃ t,h'=h++t)∧r=.bool (moveOk q):=by
  refine acall mixed Tryz.func38 rfl (by kernel_rfl) ?_
  simp [Tryz.f38]
  have hm:=move_off (m:=m)
  have hw:IntKind.i64.wrap ((n:Int) - 1)=(n:Int) - 1:=wrap_in (by omega) (by omega)
  cases hon:m.on
  · simp [moveOk,hq,hon,hm hon]
    grind
  simp [hw]
  refine cK (l1InR _ _ _ _) ?_
  rintro _ _ ⟨rfl,rfl⟩
  cases e1:inR m.src 0 ((n:Int) - 1)
  · simp [moveOk,hq,hon,hb,e1]
  simp [hw]
  refine cK (l1InR _ _ _ _) ?_
  rintro _ _ ⟨rfl,rfl⟩
  cases e2:inR m.dst 0 ((n:Int) - 1)
  · simp [moveOk,hq,hon,hb,e1,e2]
  simp [hw]
  refine aSI (fun e3=>?_) (fun e3=>?_) <;> have e3':=e3 <;> simp at e3 <;> simp [e3,e3']
  rotate_left
  · simp [moveOk,hq,hon,hb,e1,e2,e3]
  refine cK (pathOk_spec_c m.path _ hp) ?_
  rintro _ _ ⟨⟨t,rfl⟩,rfl⟩
  cases e4:pathOk m.path
  · simp [moveOk,hq,hon,hb,e1,e2,e3,e4]
  simp
  refine aSI (fun e5=>?_) (fun e5=>?_) <;> have e5':=e5 <;> simp at e5 <;> simp [e5,e5']
  · simp [moveOk,hq,hon,hb,e1,e2,e3,e4,e5]
  refine cK (l1InR _ _ _ _) ?_
  rintro _ _ ⟨rfl,rfl⟩
  cases e6:inR m.gen 0 1000000
  · simp [moveOk,hq,hon,hb,e1,e2,e3,e4,e5,e6]
  simp
  refine cK (l1InR _ _ _ _) ?_
  rintro _ _ ⟨rfl,rfl⟩
  simp [moveOk,hq,hon,hb,e1,e2,e3,e4,e5,e6]
set_option maxHeartbeats 1000000 in
theorem moveOk_impl_c (q:Pool) (b:Option Addr) (m:Move) (n:Nat) (h:Hp) (hn:n≤1048576) (hp:m.path.length≤1048576) (hq:q.move=m) (hb:q.branches.length=n) :
    ACall Tryz.prog 43 [.agg #[.int .i64 q.policy,.int .i64 q.minFree,.slice b n n,.bool m.on,.bool m.clean,.int .i64 m.src,.int .i64 m.dst,.string (S m.path),.int .i64 m.gen,.int .i64 m.done]] h fun r h'=>(∃ t,h'=h++t)∧r=.bool (moveOk q):=by
  refine acall mixed Tryz.func43 rfl (by kernel_rfl) ?_
  simp [Tryz.f43]
  have hm:=move_off (m:=m)
  have hw:IntKind.i64.wrap ((n:Int) - 1)=(n:Int) - 1:=wrap_in (by omega) (by omega)
  cases hon:m.on
  · simp [moveOk,hq,hon,hm hon]
    grind
  simp [hw]
  refine cK (withinR _ _ _ _) ?_
  rintro _ _ ⟨rfl,rfl⟩
  cases e1:inR m.src 0 ((n:Int) - 1)
  · simp [moveOk,hq,hon,hb,e1]
  simp [hw]
  refine cK (withinR _ _ _ _) ?_
  rintro _ _ ⟨rfl,rfl⟩
  cases e2:inR m.dst 0 ((n:Int) - 1)
  · simp [moveOk,hq,hon,hb,e1,e2]
  simp [hw]
  refine aSI (fun e3=>?_) (fun e3=>?_) <;> have e3':=e3 <;> simp at e3 <;> simp [e3,e3']
  rotate_left
  · simp [moveOk,hq,hon,hb,e1,e2,e3]
  refine cK (pathOk_impl_c m.path _ hp) ?_
  rintro _ _ ⟨⟨t,rfl⟩,rfl⟩
  cases e4:pathOk m.path
  · simp [moveOk,hq,hon,hb,e1,e2,e3,e4]
  simp
  refine aSI (fun e5=>?_) (fun e5=>?_) <;> have e5':=e5 <;> simp at e5 <;> simp [e5,e5']
  · simp [moveOk,hq,hon,hb,e1,e2,e3,e4,e5]
  refine cK (withinR _ _ _ _) ?_
  rintro _ _ ⟨rfl,rfl⟩
  cases e6:inR m.gen 0 1000000
  · simp [moveOk,hq,hon,hb,e1,e2,e3,e4,e5,e6]
  simp
  refine cK (withinR _ _ _ _) ?_
  rintro _ _ ⟨rfl,rfl⟩
  simp [moveOk,hq,hon,hb,e1,e2,e3,e4,e5,e6]
theorem agreeB_take (xs ys:List Item) (k:Nat) (hk:k<xs.length):agreeB (xs.take (k+1)) ys=(agreeB (xs.take k) ys && !clash ys xs[k]):=by
  unfold agreeB
  rw [List.take_succ_eq_append_getElem hk,List.all_append]
  simp
theorem agreeB_stop {xs ys:List Item} {k:Nat} (hk:k<xs.length) (h:clash ys xs[k]=true):agreeB xs ys=false:=by
  unfold agreeB
  rw [List.all_eq_false]
  exact ⟨xs[k],List.getElem_mem hk,by simp [h]⟩
set_option maxHeartbeats 2000000 in
theorem agree_c (xs ys:List Item) (a b:Option Addr) (F G:List Nat) (w w':Bool) (t t':TypeId) (h:Hp) (hx:slR w t itemE h xs a F) (hy:slR w' t' itemE h ys b G) (hlx:xs.length≤1048576) (hly:ys.length≤1048576) :
    ACall Tryz.prog 40 [.agg #[.slice a xs.length xs.length],.agg #[.slice b ys.length ys.length]] h fun r h'=>(∃ t,h'=h++t)∧r=.bool (agreeB xs ys):=by
  refine acall mixed Tryz.func40 rfl (by kernel_rfl) ?_
  simp [Tryz.f40]
  refine aloop mixed [2,3,5] (fun (x:Nat × Hp)=>[.pointer (some ⟨h.length,0,none⟩),.pointer (some ⟨h.length+1,0,none⟩),.int .i64 x.1]) (fun x=>h++⟨true,true,32,[.slice a xs.length xs.length]⟩ :: ⟨true,true,32,[.slice b ys.length ys.length]⟩ :: x.2) (fun x=>x.1≤xs.length∧agreeB (xs.take x.1) ys=true) (fun x=>xs.length - x.1) (0,[]) ⟨by simp,by simp [agreeB]⟩ rfl rfl ?_
  rintro ⟨k,u⟩ ⟨hk,he⟩
  simp at hk he
  simp [mkF]
  refine aSI (fun hc=>?_) (fun hc=>?_) <;> simp at hc <;> simp [hc]
  · obtain ⟨o,off,rfl,c0,c1,c2,c3⟩:=itemAt hx hc
    have ho:o<h.length:=by
      obtain ⟨ob,e,-⟩:=cellAt_some c0
      exact (List.getElem?_eq_some_iff.1 e).1
    have C0:∀ l,cellAt (h++l) o (off+k * 4)=some (.string (S xs[k].path)):=fun l=>by rw [cellAt_ext (Ext.push h l) ho]; exact c0
    have C1:∀ l,cellAt (h++l) o (off+k * 4+1)=some (.int .i64 xs[k].kind):=fun l=>by rw [cellAt_ext (Ext.push h l) ho]; exact c1
    refine drawS true 11 [0,1,2,3,4,5,6,7,8,9,10] [12,13] (by simp; rfl) (by simp; rfl) (by simp; rfl) (by kernel_rfl) ?_
    simp [hc,C0]
    refine callK (treeGet_spec_c ys xs[k].path b G w' t' _ (hy.to (by simp)) hly) ?_
    rintro _ _ ⟨⟨v,rfl⟩,rfl⟩
    refine ⟨fun _=>Ext.push _ _,?_⟩
    simp [Item.v]
    refine drawK true (by kernel_rfl) ?_
    simp [hc,C0,C1]
    have hcl:clash ys xs[k]=((treeGet ys xs[k].path).2 && (treeGet ys xs[k].path).1.kind != xs[k].kind):=rfl
    cases hf:(treeGet ys xs[k].path).2
    · simp [hf] at hcl
      simp [hf]
      exact anext (k+1,_) ⟨hc,by rw [agreeB_take _ _ _ hc,he,hcl]; rfl⟩ (by simp only; omega) (by simp [pickF,wS (show k<9223372036854775807 by omega)]) rfl (by simp)
    · simp [hf,hc,C1]
      refine aSI (fun hd=>?_) (fun hd=>?_) <;> have hd':=hd <;> simp at hd <;> simp [hd,hd']
      · rw [agreeB_stop hc (by rw [hcl,hf,hd']; rfl)]
      · exact anext (k+1,_) ⟨hc,by rw [agreeB_take _ _ _ hc,he,hcl,hf,hd']; rfl⟩ (by simp only; omega) (by simp [pickF,wS (show k<9223372036854775807 by omega)]) rfl (by simp)
  · obtain rfl:k=xs.length:=by omega
    simpa using he
theorem branchAtX {h:Hp} {w:Bool} {t tNode:TypeId} {es:List Branch} {a:Option Addr} {F:List Nat} (k:slR w t (branchE w tNode) h es a F) {i:Nat} (hi:i<es.length):∃ o off b1 G1 b2 G2,a=some ⟨o,off,none⟩∧(∀ l,cellAt (h++l) o (off+i * 3)=some (.int .i64 es[i].mode))∧(∀ l,cellAt (h++l) o (off+i * 3+1)=some (.slice b1 es[i].fs.nodes.length es[i].fs.nodes.length))∧(∀ l,cellAt (h++l) o (off+i * 3+2)=some (.slice b2 es[i].fs.data.length es[i].fs.data.length))∧slR w tNode (nodeE w) h es[i].fs.nodes b1 G1∧slR w 9 strE h es[i].fs.data b2 G2:=by
  obtain ⟨o,off,b1,G1,b2,G2,rfl,c0,c1,c2,k1,k2,-,-⟩:=branchAt k hi
  have ho:o<h.length:=by
    obtain ⟨ob,e,-⟩:=cellAt_some c0
    exact (List.getElem?_eq_some_iff.1 e).1
  refine ⟨o,off,b1,G1,b2,G2,rfl,fun l=>?_,fun l=>?_,fun l=>?_,k1,k2⟩ <;> rw [cellAt_ext (Ext.push h l) ho] <;> assumption
theorem pool_nl {x:Pool} (hl:x.nl≤1048576):x.branches.length≤1048576∧x.move.path.length≤1048576∧∀ i (hi:i<x.branches.length),x.branches[i].fs.nl≤1048576:=by
  simp only [Pool.nl,Move.nl] at hl
  refine ⟨by omega,by omega,fun i hi=>?_⟩
  have:=sumL_mem Branch.nl (List.getElem_mem hi)
  simp only [Branch.nl] at this
  have h2:sumL (fun x=>x.fs.nl) x.branches=sumL Branch.nl x.branches:=rfl
  omega
theorem poolOk_head {x:Pool} (h:headOk x=false):poolOk x=false:=by simp [poolOk,h]
theorem poolOk_br {x:Pool} {i:Nat} (hi:i<x.branches.length) (h:brOk x.branches[i]=false):poolOk x=false:=by
  have:x.branches.all brOk=false:=List.all_eq_false.2 ⟨_,List.getElem_mem hi,by simp [h]⟩
  simp [poolOk,this]
theorem poolOk_pair {x:Pool} {k i:Nat} (hk:k<i) (hi:i<x.branches.length) (h:agreeB (tI_ x.branches[i].fs) (tI_ x.branches[k].fs)=false):poolOk x=false:=by
  have:¬ (trees x.branches).flatten.Pairwise agr:=fun hp=>by
    have:=(pairs_agree _).1 hp k i hk hi
    rw [h] at this
    cases this
  simp [poolOk,this]
theorem poolOk_all {x:Pool} (h1:headOk x=true) (h2:∀ i (hi:i<x.branches.length),brOk x.branches[i]=true) (h3:∀ (k i:Nat) (hk:k<i) (hi:i<x.branches.length),agreeB (tI_ x.branches[i].fs) (tI_ x.branches[k].fs)=true):poolOk x=true:=by
  have e2:x.branches.all brOk=true:=List.all_eq_true.2 fun b hb=>by
    obtain ⟨i,hi,rfl⟩:=List.mem_iff_getElem.1 hb
    exact h2 i hi
  simp [poolOk,h1,e2,(pairs_agree _).2 h3]
def poolV (x:Pool) (b:Option Addr):List Value:=[.int .i64 x.policy,.int .i64 x.minFree,.slice b x.branches.length x.branches.length,.bool x.move.on,.bool x.move.clean,.int .i64 x.move.src,.int .i64 x.move.dst,.string (S x.move.path),.int .i64 x.move.gen,.int .i64 x.move.done]
section
variable (x:Pool) (b:Option Addr) (F:List Nat) (w:Bool) (tBranch tNode:TypeId) (h:Hp) (k1:slR w tBranch (branchE w tNode) h x.branches b F) (hl:x.nl≤1048576)
include k1 hl
set_option maxHeartbeats 4000000 in
theorem poolOk_spec_c :
    ACall Tryz.prog 10 [.agg #[.int .i64 x.policy,.int .i64 x.minFree,.slice b x.branches.length x.branches.length,.bool x.move.on,.bool x.move.clean,.int .i64 x.move.src,.int .i64 x.move.dst,.string (S x.move.path),.int .i64 x.move.gen,.int .i64 x.move.done]] h fun r h'=>(∃ t,h'=h++t)∧r=.bool (poolOk x):=by
  refine acall mixed Tryz.func10 rfl (by kernel_rfl) ?_
  obtain ⟨hn,hp,hf⟩:=pool_nl hl
  simp [Tryz.f10]
  refine cK (l1InR _ _ _ _) ?_
  rintro _ _ ⟨rfl,rfl⟩
  cases e1:inR x.policy 0 5
  · simp [poolOk_head,headOk,e1]
  simp
  refine cK (l1InR _ _ _ _) ?_
  rintro _ _ ⟨rfl,rfl⟩
  cases e2:inR x.minFree 0 36
  · simp [poolOk_head,headOk,e1,e2]
  simp
  refine cK (l1InR _ _ _ _) ?_
  rintro _ _ ⟨rfl,rfl⟩
  cases e3:inR (x.branches.length:Int) 1 4
  · simp [poolOk_head,headOk,e1,e2,e3]
  simp
  refine cK (moveOk_spec_c x.move x.branches.length _ hn hp x rfl rfl) ?_
  rintro _ _ ⟨⟨t1,rfl⟩,rfl⟩
  cases e4:moveOk x
  · simp [poolOk_head,headOk,e1,e2,e3,e4]
  have e0:headOk x=true:=by simp [headOk,e1,e2,e3,e4]
  simp
  refine aloop mixed [1,3,4] (fun (y:Nat × Hp)=>[.pointer (some ⟨h.length,0,none⟩),.int .i64 x.branches.length,.int .i64 y.1]) (fun y=>h++⟨true,true,28,poolV x b⟩ :: y.2) (fun y=>y.1≤x.branches.length∧∀ i (hi:i<x.branches.length),i<y.1→brOk x.branches[i]=true) (fun y=>x.branches.length - y.1) (0,t1) ⟨by simp,by simp⟩ rfl (by simp [poolV]) ?_
  rintro ⟨i,u⟩ ⟨hi,hB⟩
  simp at hi hB
  simp [mkF,poolV]
  refine aSI (fun hc=>?_) (fun hc=>?_) <;> simp at hc <;> simp [hc]
  · obtain ⟨o,off,b1,G1,b2,G2,rfl,c0,c1,c2,kn,kd⟩:=branchAtX k1 hc
    simp [hc,c0]
    refine cK (l1InR _ _ _ _) ?_
    rintro _ _ ⟨rfl,rfl⟩
    cases g1:inR x.branches[i].mode 0 2
    · simp [poolOk_br hc (by simp [brOk,g1])]
    simp [hc,c1,c2]
    refine cK (fsOk_spec_c x.branches[i].fs b1 b2 G1 G2 w tNode _ (kn.to (by simp)) (kd.to (by simp)) (hf i hc)) ?_
    rintro _ _ ⟨⟨t2,rfl⟩,rfl⟩
    cases g2:fsOk x.branches[i].fs
    · simp [poolOk_br hc (by simp [brOk,g1,g2])]
    simp
    refine anext (i+1,_) ⟨hc,fun j hj hlt=>?_⟩ (by simp only; omega) (by simp [pickF,wS (show i<9223372036854775807 by omega)]) rfl (by simp [poolV])
    rcases Nat.lt_or_ge j i with hji | hji
    · exact hB j hj hji
    · simp only at hlt
      obtain rfl:j=i:=by omega
      simp [brOk,g1,g2]
  · obtain rfl:i=x.branches.length:=by omega
    simp
    have h1n:1≤x.branches.length:=by
      have:=(inR_iff.1 e3).1
      omega
    refine aloop mixed [1,3,5] (fun (y:Nat × Hp)=>[.pointer (some ⟨h.length,0,none⟩),.int .i64 x.branches.length,.int .i64 y.1]) (fun y=>h++⟨true,true,28,poolV x b⟩ :: y.2) (fun y=>y.1≤x.branches.length∧∀ (k i:Nat) (hk:k<i) (hi:i<x.branches.length),i<y.1→agreeB (tI_ x.branches[i].fs) (tI_ x.branches[k].fs)=true) (fun y=>x.branches.length - y.1) (1,u) ⟨by simp; omega,by intro k i hk hi h1; simp at h1; omega⟩ rfl (by simp [poolV]) ?_
    rintro ⟨i,u2⟩ ⟨hi2,hP⟩
    simp at hi2 hP
    simp [mkF,poolV]
    refine aSI (fun hc2=>?_) (fun hc2=>?_) <;> simp at hc2 <;> simp [hc2]
    · refine aloop mixed [1,3,5,6] (fun (y:Nat × Hp)=>[.pointer (some ⟨h.length,0,none⟩),.int .i64 x.branches.length,.int .i64 i,.int .i64 y.1]) (fun y=>h++⟨true,true,28,poolV x b⟩ :: y.2) (fun y=>y.1≤i∧∀ (k:Nat) (hk:k<x.branches.length),k<y.1→agreeB (tI_ x.branches[i].fs) (tI_ x.branches[k].fs)=true) (fun y=>i - y.1) (0,u2) ⟨by simp,by intro k hk h1; simp at h1⟩ rfl (by simp [poolV]) ?_
      rintro ⟨k,u3⟩ ⟨hk3,hQ⟩
      simp at hk3 hQ
      simp [mkF,poolV]
      refine aSI (fun hc3=>?_) (fun hc3=>?_) <;> simp at hc3 <;> simp [hc3]
      · have hck:k<x.branches.length:=by omega
        obtain ⟨o,off,b1,G1,b2,G2,rfl,c0,c1,c2,kn,kd⟩:=branchAtX k1 hc2
        obtain ⟨o',off',b3,G3,b4,G4,eo,d0,d1,d2,kn2,kd2⟩:=branchAtX k1 hck
        simp at eo
        obtain ⟨rfl,rfl⟩:=eo
        refine drawK true (by kernel_rfl) ?_
        simp [hc2,hck,c1,c2,d1,d2]
        refine callK (treeOf_spec_c x.branches[i].fs b1 b2 G1 G2 w tNode _ (kn.to (by simp)) (kd.to (by simp)) (hf i hc2)) ?_
        rintro _ _ ⟨bt,Gt,rfl,st,xt⟩
        refine ⟨fun _=>xt,?_⟩
        obtain ⟨v1,rfl⟩:=xt.pre
        simp at st
        simp [hc2,hck,c1,c2,d1,d2]
        refine callK (treeOf_spec_c x.branches[k].fs b3 b4 G3 G4 w tNode _ (kn2.to (by simp)) (kd2.to (by simp)) (hf k hck)) ?_
        rintro _ _ ⟨bs,Gs,rfl,ss,xs⟩
        refine ⟨fun _=>xs,?_⟩
        obtain ⟨v2,rfl⟩:=xs.pre
        simp at ss
        simp
        have l1:=treeItems_le x.branches[i].fs
        have l2:=treeItems_le x.branches[k].fs
        refine callK (agree_c _ _ bt bs Gt Gs true true _ _ _ (st.to (by simp)) (ss.to (by simp)) (by omega) (by omega)) ?_
        rintro _ _ ⟨⟨v3,rfl⟩,rfl⟩
        refine ⟨fun _=>Ext.push _ _,?_⟩
        cases g:agreeB (tI_ x.branches[i].fs) (tI_ x.branches[k].fs)
        · simp [poolOk_pair hc3 hc2 g]
        simp
        refine anext (k+1,_) ⟨hc3,fun j hj hlt=>?_⟩ (by simp only; omega) (by simp [pickF,wS (show k<9223372036854775807 by omega)]) rfl (by simp [poolV])
        rcases Nat.lt_or_ge j k with hjk | hjk
        · exact hQ j hj hjk
        · simp only at hlt
          obtain rfl:j=k:=by omega
          exact g
      · obtain rfl:k=i:=by omega
        refine anext (k+1,_) ⟨hc2,fun p q hpq hq hlt=>?_⟩ (by simp only; omega) (by simp [pickF,wS (show k<9223372036854775807 by omega)]) rfl (by simp [poolV])
        rcases Nat.lt_or_ge q k with hjk | hjk
        · exact hP p q hpq hq hjk
        · simp only at hlt
          obtain rfl:q=k:=by omega
          exact hQ p (by omega) hpq
    · obtain rfl:i=x.branches.length:=by omega
      exact poolOk_all e0 (fun j hj=>hB j hj hj) (fun k j hk hj=>hP k j hk hj hj)
end
structure AI (h H:Hp) (B:Nat) (acc:List Item) (a:Option Addr) (G:List Nat):Prop where
  ext:Ext h H
  lo:h.length≤B
  len:B<H.length
  ab:H[B]?=some ⟨true,true,32,[.slice a acc.length acc.length]⟩
  sl:slR true 38 itemE H acc a G
  nd:G.Nodup
  nw:∀ q∈G,B<q
section
variable {h H H2:Hp} {B:Nat} {acc:List Item} {a:Option Addr} {G:List Nat}
theorem AI.grow (k:AI h H B acc a G) (x:Ext H H2):AI h H2 B acc a G :=
  have hl:=k.len
  ⟨k.ext.trans x,k.lo,by have:=x.1; omega,by rw [x.2 _ (by omega)]; exact k.ab,k.sl.ext x,k.nd,k.nw⟩
theorem AI.to (k:AI h H B acc a G) (q:∃ l,H2=H++l):AI h H2 B acc a G:=by
  obtain ⟨l,rfl⟩:=q
  exact k.grow (Ext.push _ _)
theorem AI.cell (k:AI h H B acc a G) (l:Hp):cellAt (H++l) B 0=some (.slice a acc.length acc.length):=by
  rw [cellAt_ext (Ext.push H l) (by have:=k.len; omega)]
  simp [cellAt,k.ab]
theorem AI.app (k:AI h H B acc a G) (x:Item) (hl:acc.length≤100000000) {w:Bool} {t:TypeId} {ys:List Item} {b:Option Addr} {K:List Nat} (sy:slR w t itemE H ys b K) (hd:∀ q∈K,q ∉ G) (hk:∀ q∈K,B<q) :
    ∃ a' H' G',aappend Tryz.prog (H++[⟨true,true,38,[.string (S x.path),.int .i64 x.kind,.string (S x.data),.int .i64 x.time]⟩]) 30 30 (.slice a acc.length acc.length) (.slice (some ⟨H.length,0,none⟩) 1 1)=some (.slice a' (acc.length+1) (acc.length+1),H') ∧
      cS_ H' B 0 1=true∧AI h (sA_ H' B 0 [.slice a' (acc.length+1) (acc.length+1)]) B (acc++[x]) a' G'∧slR w t itemE (sA_ H' B 0 [.slice a' (acc.length+1) (acc.length+1)]) ys b K∧(∀ q∈K,q ∉ G'):=by
  obtain ⟨a',H',G',e1,p⟩:=PutR.app k.sl k.nd x hl
  have hln:=k.len
  have hlo:=k.lo
  have g2:H'[B]?=some ⟨true,true,32,[.slice a acc.length acc.length]⟩:=by
    rw [p.kp.2 _ (by omega) (fun hm=>by have:=k.nw _ hm; omega)]; exact k.ab
  have hne:∀ q,q≠B→(sA_ H' B 0 [.slice a' (acc.length+1) (acc.length+1)])[q]?=H'[q]?:=fun q hq=>by rw [sAg,if_neg (fun e=>hq e.symm)]
  have hG:∀ q∈G',B<q:=fun q hq=>(p.sub q hq).elim (fun h1=>k.nw q h1) (fun h1=>by omega)
  refine ⟨a',H',G',e1,by simp [cS_,g2],⟨⟨by rw [sAl]; have:=p.kp.1; have:=k.ext.1; omega,fun q hq=>?_⟩,k.lo,by rw [sAl]; have:=p.kp.1; omega,?_,p.sl.frame fun q hq=>hne q (by have:=hG q hq; omega),p.nd,hG⟩,(p.kp.sl sy hd).frame fun q hq=>hne q (by have:=hk q hq; omega),fun q hq hm=>(p.sub q hm).elim (hd q hq) (fun h1=>by have:=sy.lt q hq; omega)⟩
  · rw [hne q (by omega),p.kp.2 q (by have:=k.ext.1; omega) (fun hm=>by have:=k.nw _ hm; omega)]
    exact k.ext.2 q hq
  · rw [sAg,if_pos rfl,g2]
    simp [setL]
end
theorem Ext.out {h H:Hp} (x:Ext h H) (l:Hp):∃ t,H++l=h++t:=by
  obtain ⟨u,rfl⟩:=x.pre
  exact ⟨u++l,by simp⟩
theorem brScan_drop (acc:List Item) (bs:List Branch) (i:Nat) (hi:i<bs.length):brScan acc (bs.drop i)=(brOk bs[i] && scanOk acc (tI_ bs[i].fs) && brScan (acc++tI_ bs[i].fs) (bs.drop (i+1))):=by
  rw [List.drop_eq_getElem_cons hi]; rfl
theorem scanOk_drop (acc xs:List Item) (i:Nat) (hi:i<xs.length):scanOk acc (xs.drop i)=(!clash acc xs[i] && scanOk (acc++[xs[i]]) (xs.drop (i+1))):=by
  rw [List.drop_eq_getElem_cons hi]; rfl
section
variable (x:Pool) (b:Option Addr) (F:List Nat) (w:Bool) (tBranch tNode:TypeId) (h:Hp) (k1:slR w tBranch (branchE w tNode) h x.branches b F) (hl:x.nl≤1048576)
include k1 hl
set_option maxHeartbeats 8000000 in
theorem poolOk_impl_c :
    ACall Tryz.prog 11 [.agg #[.int .i64 x.policy,.int .i64 x.minFree,.slice b x.branches.length x.branches.length,.bool x.move.on,.bool x.move.clean,.int .i64 x.move.src,.int .i64 x.move.dst,.string (S x.move.path),.int .i64 x.move.gen,.int .i64 x.move.done]] h fun r h'=>(∃ t,h'=h++t)∧r=.bool (poolOk x):=by
  refine acall mixed Tryz.func11 rfl (by kernel_rfl) ?_
  obtain ⟨hn,hp,hf⟩:=pool_nl hl
  simp [Tryz.f11]
  refine cK (withinR _ _ _ _) ?_
  rintro _ _ ⟨rfl,rfl⟩
  cases e1:inR x.policy 0 5
  · simp [poolOk_head,headOk,e1]
  simp
  refine cK (withinR _ _ _ _) ?_
  rintro _ _ ⟨rfl,rfl⟩
  cases e2:inR x.minFree 0 36
  · simp [poolOk_head,headOk,e1,e2]
  simp
  refine cK (withinR _ _ _ _) ?_
  rintro _ _ ⟨rfl,rfl⟩
  cases e3:inR (x.branches.length:Int) 1 4
  · simp [poolOk_head,headOk,e1,e2,e3]
  simp
  refine cK (moveOk_impl_c x b x.move x.branches.length _ hn hp rfl rfl) ?_
  rintro _ _ ⟨⟨t1,rfl⟩,rfl⟩
  cases e4:moveOk x
  · simp [poolOk_head,headOk,e1,e2,e3,e4]
  have e0:headOk x=true:=by simp [headOk,e1,e2,e3,e4]
  have hn4:x.branches.length≤4:=by
    have:=(inR_iff.1 e3).2
    omega
  rw [poolOk_scan,e0,Bool.true_and]
  simp
  obtain ⟨B,hB⟩:∃ B,B=h.length+(t1.length+1):=⟨_,rfl⟩
  have k0:AI h (h++⟨true,true,28,poolV x b⟩ :: (t1++[⟨true,true,32,[.slice none 0 0]⟩])) B [] none [] :=
    ⟨Ext.push _ _,by omega,by rw [hB]; simp,by rw [hB]; simp,⟨rfl,rfl⟩,List.nodup_nil,fun q hq=>by cases hq⟩
  rw [← hB]
  refine aloop mixed [3,34,35,36] (fun (y:Nat × List Item × Option Addr × Hp)=>[.pointer (some ⟨B,0,none⟩),.slice b x.branches.length x.branches.length,.int .i64 x.branches.length,.int .i64 y.1]) (fun y=>y.2.2.2) (fun y=>y.1≤x.branches.length∧y.2.1.length≤7380 * y.1∧brScan y.2.1 (x.branches.drop y.1)=brScan [] x.branches∧∃ G,AI h y.2.2.2 B y.2.1 y.2.2.1 G) (fun y=>x.branches.length - y.1) (0,[],none,_) ⟨by simp,by simp,by simp,_,k0⟩ rfl (by simp [poolV]) ?_
  clear k0
  rintro ⟨i,acc,a,H⟩ ⟨hi,hla,hs,G,k⟩
  simp only at hi hla hs k
  simp [mkF]
  refine aSI (fun hc=>?_) (fun hc=>?_) <;> simp at hc <;> simp [hc]
  · obtain ⟨o,off,b1,G1,b2,G2,rfl,c0,c1,c2,kn,kd⟩:=branchAtX (k1.ext k.ext) hc
    have c0':=c0 []
    have c1':=c1 []
    have c2':=c2 []
    simp only [List.append_nil] at c0' c1' c2'
    rw [brScan_drop _ _ _ hc] at hs
    simp [hc,c0',c1',c2']
    refine cK (isMode_c _ _) ?_
    rintro _ _ ⟨rfl,rfl⟩
    cases g1:inR x.branches[i].mode 0 2
    · simp [← hs,brOk,g1]
      exact k.ext.out _
    simp
    refine cK (fsOk_impl_c x.branches[i].fs b1 b2 G1 G2 w tNode _ (kn.to (by simp)) (kd.to (by simp)) (hf i hc)) ?_
    rintro _ _ ⟨⟨t2,rfl⟩,rfl⟩
    cases g2:fsOk x.branches[i].fs
    · simp [← hs,brOk,g1,g2]
      exact k.ext.out _
    simp
    refine cK (treeOf_impl_c x.branches[i].fs b1 b2 G1 G2 w tNode _ (kn.to (by simp)) (kd.to (by simp)) (hf i hc)) ?_
    rintro _ _ ⟨bt,Gt,rfl,ot⟩
    obtain ⟨u,rfl⟩:=ot.ext.pre
    simp at ot
    simp
    have hbr:brOk x.branches[i]=true:=by simp [brOk,g1,g2]
    rw [hbr,Bool.true_and] at hs
    have lt:=treeItems_le x.branches[i].fs
    generalize tI_ x.branches[i].fs=ti at hs ot lt ⊢
    have kE:AI h (H++⟨true,true,47,[.int .i64 x.branches[i].mode,.slice b1 x.branches[i].fs.nodes.length x.branches[i].fs.nodes.length,.slice b2 x.branches[i].fs.data.length x.branches[i].fs.data.length]⟩ :: (t2++u)) B acc a G:=k.to ⟨_,rfl⟩
    have st:=ot.sl
    have hN:∀ q∈Gt,q ∉ G∧B<q:=fun q hq=>by
      have h1:=ot.new q hq
      simp at h1
      have h2:=k.len
      exact ⟨fun hm=>by have:=k.sl.lt q hm; omega,by omega⟩
    try simp at st
    refine aloop mixed [3,34,35,36,53,54,55] (fun (y:Nat × List Item × Option Addr × Hp)=>[.pointer (some ⟨B,0,none⟩),.slice (some ⟨o,off,none⟩) x.branches.length x.branches.length,.int .i64 x.branches.length,.int .i64 i,.slice bt ti.length ti.length,.int .i64 ti.length,.int .i64 y.1]) (fun y=>y.2.2.2)
      (fun y=>y.1≤ti.length∧y.2.1=acc++ti.take y.1∧(scanOk y.2.1 (ti.drop y.1) && brScan (acc++ti) (x.branches.drop (i+1)))=brScan [] x.branches∧∃ G',AI h y.2.2.2 B y.2.1 y.2.2.1 G'∧slR true 38 itemE y.2.2.2 ti bt Gt∧∀ q∈Gt,q ∉ G') (fun y=>ti.length - y.1) (0,acc,a,_) ⟨by simp,by simp,by simpa using hs,G,kE,st,fun q hq=>(hN q hq).1⟩ rfl rfl ?_
    clear st kE hs ot k c0 c1 c2 c0' c1' c2' kn kd
    rintro ⟨j,acc2,a2,H2⟩ ⟨hj,ha2,hs,G2',k,st,hG⟩
    simp only at hj ha2 hs k st
    simp [mkF]
    refine aSI (fun hc2=>?_) (fun hc2=>?_) <;> simp at hc2 <;> simp [hc2]
    · have hla2:acc2.length≤7380 * i+j:=by rw [ha2]; simp; omega
      obtain ⟨oi,offi,rfl,d0,d1,d2,d3⟩:=itemAt st hc2
      simp [hc2,d0,d1,d2,d3]
      have kE:AI h (H2++[⟨true,true,38,[.string (S ti[j].path),.int .i64 ti[j].kind,.string (S ti[j].data),.int .i64 ti[j].time]⟩]) B acc2 a2 G2':=k.to ⟨_,rfl⟩
      have cc:=k.cell
      simp [cc]
      refine cK (treeGet_impl_c acc2 ti[j].path a2 G2' true _ _ (kE.sl.to (by simp)) (by omega)) ?_
      rintro _ _ ⟨⟨v,rfl⟩,rfl⟩
      simp [Item.v]
      rw [scanOk_drop _ _ _ hc2] at hs
      have hcl:clash acc2 ti[j]=((treeGet acc2 ti[j].path).2 && (treeGet acc2 ti[j].path).1.kind != ti[j].kind):=rfl
      have kF:AI h (H2++⟨true,true,38,[.string (S ti[j].path),.int .i64 ti[j].kind,.string (S ti[j].data),.int .i64 ti[j].time]⟩ :: (v++[⟨true,true,38,[.string (S (treeGet acc2 ti[j].path).1.path),.int .i64 (treeGet acc2 ti[j].path).1.kind,.string (S (treeGet acc2 ti[j].path).1.data),.int .i64 (treeGet acc2 ti[j].path).1.time]⟩])) B acc2 a2 G2':=k.to ⟨_,rfl⟩
      obtain ⟨a3,H3,G3,eq3,cs3,k3,st3,hG3⟩:=kF.app ti[j] (by omega) (st.to ⟨_,rfl⟩) hG (fun q hq=>(hN q hq).2)
      have hl3:(acc2++[ti[j]]).length=acc2.length+1:=by simp
      have ht3:acc2++[ti[j]]=acc++ti.take (j+1):=by rw [List.take_succ_eq_append_getElem hc2,ha2]; simp
      simp at eq3
      refine aSI (fun hd=>?_) (fun hd=>?_)
      · simp [hd]
        refine aSI (fun hg=>?_) (fun hg=>?_) <;> have hg':=hg <;> simp [hg']
        · rw [hcl,hd,hg'] at hs
          simp at hs
          rw [← hs]
          exact ⟨k.ext.out _,rfl⟩
        · rw [hcl,hd,hg'] at hs
          simp at hs
          simp [cc,eq3,cs3]
          exact anext (j+1,acc2++[ti[j]],a3,_) ⟨hc2,ht3,by simpa using hs,G3,k3,st3,hG3⟩ (by simp only; omega) (by simp [pickF,wS (show j<9223372036854775807 by omega)]) rfl (by simp)
      · rw [hcl,hd] at hs
        simp at hs
        simp [hd,cc,eq3,cs3]
        exact anext (j+1,acc2++[ti[j]],a3,_) ⟨hc2,ht3,by simpa using hs,G3,k3,st3,hG3⟩ (by simp only; omega) (by simp [pickF,wS (show j<9223372036854775807 by omega)]) rfl (by simp)
    · obtain rfl:j=ti.length:=by omega
      simp [scanOk] at hs ha2
      subst ha2
      exact anext (i+1,acc++ti,a2,H2) ⟨hc,by simp; omega,hs,G2',k⟩ (by simp only; omega) (by simp [pickF,wS (show i<9223372036854775807 by omega)]) rfl (by simp)
  · obtain rfl:i=x.branches.length:=by omega
    simp [brScan] at hs
    simp [← hs]
    have:=k.ext.out []
    simpa using this
end
end Go.Proofs.YtmpgpkdijfcfhaaGreat.Hz
