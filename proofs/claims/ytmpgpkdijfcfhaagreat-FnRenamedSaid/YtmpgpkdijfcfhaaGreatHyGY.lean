/- Texts of the calculus and of the program's functions, merged: RM WI RN. -/
import Derived.Test.YtmpgpkdijfcfhaaGreatHyGP
import Derived.Test.YtmpgpkdijfcfhaaGreatHyRT
import Derived.Test.YtmpgpkdijfcfhaaGreatHyGM
import Derived.Test.YtmpgpkdijfcfhaaGreatHyGI
import Derived.Test.YtmpgpkdijfcfhaaGreatHyGF
import Derived.Test.YtmpgpkdijfcfhaaGreatHySM
import Derived.Test.YtmpgpkdijfcfhaaGreatHyGO
import Derived.Test.YtmpgpkdijfcfhaaGreatHyGT
/- Directories that lose an entry. No program in sight. -/
namespace Go.Proofs.YtmpgpkdijfcfhaaGreat.Hz
open Go.RowKit
set_option linter.unusedVariables false
set_option linter.unusedSimpArgs false
set_option maxRecDepth 20000
theorem scan_len2 (b:Str):∀ (fuel at_:Nat) (acc es:List Ent),at_≤b.length→2 * acc.length+sumL Ent.nl acc≤at_→scanF b fuel at_ acc=some es→2 * es.length+sumL Ent.nl es≤b.length
  | 0,_,_,_,_,_,h=>by cases h
  | fuel+1,at_,acc,es,h1,h2,h=>by
    simp only [scanF] at h
    split at h
    · injection h with h; subst h; omega
    · split at h
      · cases h
      · rename_i s e hg
        have hb:=getText_bound2 hg
        split at h
        · cases h
        · rename_i n e2 hn
          have hb2:=getNum_bound hn
          refine scan_len2 b fuel e2 _ es (by omega) ?_ h
          have:sumL Ent.nl (acc++[⟨s,(n:Int)⟩])=sumL Ent.nl acc+s.length:=by
            rw [sumL_append]; simp [sumL,Ent.nl]
          rw [this]; simp; omega
theorem dirText_two:∀ es:List Ent,(∀ e∈es,e.name.length≤6∧1≤e.node∧e.node≤9)→(dirText es).length=2 * es.length+sumL Ent.nl es
  | [],_=>rfl
  | e :: es,h=>by
    have ih:=dirText_two es fun x hx=>h x (by simp [hx])
    have h0:=h e (by simp)
    have e1:(dirText (e :: es)).length=(entTxt e).length+(dirText es).length:=by simp [dirText,catL]
    have e2:(entTxt e).length=2+e.nl:=by
      simp only [entTxt,putText]
      rw [putNum_small (by omega) (by omega),putNum_small (by omega) (by omega)]
      simp [Ent.nl]; omega
    have e3:sumL Ent.nl (e :: es)=e.nl+sumL Ent.nl es:=rfl
    rw [e1,e2,ih,e3]
    simp only [List.length_cons]; omega
def Ord (es:List Ent):Prop:=es.Pairwise fun x y=>Op.bytesLess x.name y.name=true∧x.node≠y.node
theorem ok_nodes (es:List Ent):∀ (l pre:List Ent),es=pre++l→okFrom es l pre.length=true→(l.Pairwise fun x y=>x.node≠y.node)∧∀ x∈pre,∀ y∈l,x.node≠y.node
  | [],pre,_,_=>⟨List.Pairwise.nil,by simp⟩
  | e :: r,pre,he,h=>by
    simp only [okFrom,Bool.and_eq_true] at h
    obtain ⟨i1,i2⟩:=ok_nodes es r (pre++[e]) (by rw [he]; simp) (by
      simp only [List.length_append,List.length_singleton]
      exact h.2)
    have h1:=h.1
    simp only [okAt,Bool.and_eq_true,List.all_eq_true] at h1
    have ht:es.take pre.length=pre:=by rw [he]; exact List.take_left' rfl
    rw [ht] at h1
    have hp:∀ x∈pre,x.node≠e.node:=fun x hx=>by simpa using h1.2 x hx
    refine ⟨List.pairwise_cons.2 ⟨fun y hy=>i2 e (by simp) y hy,i1⟩,fun x hx y hy=>?_⟩
    rcases List.mem_cons.1 hy with rfl | hy
    · exact hp x hx
    · exact i2 x (by simp [hx]) y hy
theorem adj_less:∀ {es:List Ent},adj es=true→es.Pairwise fun x y=>Op.bytesLess x.name y.name=true
  | [],_=>List.Pairwise.nil
  | e :: r,h=>List.pairwise_cons.2 ⟨adj_least e r h,adj_less (by
      cases r with
      | nil=>rfl
      | cons e' r =>
        simp only [adj,Bool.and_eq_true] at h
        exact h.2)⟩
theorem ok_ord {es:List Ent} (h:entriesOk es=true):Ord es:=by
  have h1:=adj_less (entriesOk_adj h)
  simp only [entriesOk,Bool.and_eq_true] at h
  have h2:=(ok_nodes es es [] rfl h.1).1
  exact h1.and h2
theorem ord_ok (es:List Ent) (ho:Ord es) (hn:∀ e∈es,nameH e.name=true∧1≤e.node∧e.node≤9):∀ (l pre:List Ent),es=pre++l→okFrom es l pre.length=true
  | [],_,_=>rfl
  | e :: r,pre,he=>by
    have ih:=ord_ok es ho hn r (pre++[e]) (by rw [he]; simp)
    simp only [List.length_append,List.length_singleton] at ih
    have hp:=ho
    unfold Ord at hp
    rw [he] at hp
    obtain ⟨_,_,p3⟩:=List.pairwise_append.1 hp
    have hm:=hn e (by rw [he]; simp)
    have ht:es.take pre.length=pre:=by rw [he]; exact List.take_left' rfl
    simp only [okFrom,Bool.and_eq_true]
    refine ⟨?_,ih⟩
    simp only [okAt,Bool.and_eq_true,decide_eq_true_eq,List.all_eq_true,ht]
    refine ⟨⟨⟨hm.1,hm.2⟩,?_⟩,fun x hx=>by simpa using (p3 x hx e (by simp)).2⟩
    cases hk:pre.length with
    | zero=>rfl
    | succ j =>
      have hj:j<pre.length:=by omega
      have hg:es[j]?=some pre[j]:=by rw [he,List.getElem?_append_left hj,List.getElem?_eq_getElem hj]
      simp only [hg]
      exact (p3 pre[j] (List.getElem_mem hj) e (by simp)).1
theorem drop_sub (es:List Ent) (nm:Str):(dirDrop es nm).1.Sublist es:=by
  simp only [dirDrop,dropAt]
  split
  · exact List.Sublist.refl _
  · have h1:(es.drop ((findI (fun e=>e.name == nm) es 0).toNat+1)).Sublist (es.drop (findI (fun e=>e.name == nm) es 0).toNat):=by
      rw [← List.drop_drop]; exact List.drop_sublist _ _
    have h2:=(List.Sublist.refl (es.take (findI (fun e=>e.name == nm) es 0).toNat)).append h1
    rwa [List.take_append_drop] at h2
theorem sub_sum {l es:List Ent} (h:l.Sublist es):2 * l.length+sumL Ent.nl l≤2 * es.length+sumL Ent.nl es:=by
  induction h with
  | slnil=>exact Nat.le_refl _
  | cons a _ ih =>
    rename_i l1 l2 _
    have e:sumL Ent.nl (a :: l2)=a.nl+sumL Ent.nl l2:=rfl
    rw [e,List.length_cons]; omega
  | cons_cons a _ ih =>
    rename_i l1 l2 _
    have e:sumL Ent.nl (a :: l2)=a.nl+sumL Ent.nl l2:=rfl
    have e':sumL Ent.nl (a :: l1)=a.nl+sumL Ent.nl l1:=rfl
    rw [e,e',List.length_cons,List.length_cons]; omega
theorem ok_all {es:List Ent} (h:entriesOk es=true):∀ e∈es,nameH e.name=true∧1≤e.node∧e.node≤9:=by
  simp only [entriesOk,Bool.and_eq_true] at h
  exact fun e he=>⟨okFrom_names es es 0 h.1 e he,okFrom_nodes es es 0 h.1 e he⟩
theorem drop_ok {es:List Ent} (h:entriesOk es=true) (nm:Str):entriesOk (dirDrop es nm).1=true∧(dirText (dirDrop es nm).1).length≤(dirText es).length:=by
  have hs:=drop_sub es nm
  have ha:=ok_all h
  have ha':∀ e∈(dirDrop es nm).1,nameH e.name=true∧1≤e.node∧e.node≤9:=fun e he=>ha e (hs.subset he)
  have h1:=dirText_two es fun e he=>⟨nameH_le (ha e he).1,(ha e he).2⟩
  have h2:=dirText_two _ fun e he=>⟨nameH_le (ha' e he).1,(ha' e he).2⟩
  have h3:=sub_sum hs
  have ho:Ord (dirDrop es nm).1:=(ok_ord h).sublist hs
  have hk:=ord_ok _ ho ha' (dirDrop es nm).1 [] rfl
  have h4:=h
  simp only [entriesOk,Bool.and_eq_true,decide_eq_true_eq] at h4 ⊢
  exact ⟨⟨hk,by omega⟩,by omega⟩
theorem dirI_two {f:Fs} {i:Int} (h:(dirI f i).2=true):entriesOk (dirI f i).1=true∧(dirText (dirI f i).1).length≤(contentI f i).length:=by
  unfold dirI at h ⊢
  generalize contentI f i=b at h ⊢
  unfold dirOf at h ⊢
  cases hs:scanF b (b.length+1) 0 [] with
  | none=>rw [hs] at h; cases h
  | some es =>
    rw [hs] at h
    simp only at h ⊢
    split at h
    · rename_i hk
      rw [if_pos hk]
      have ha:=ok_all hk
      have h1:=dirText_two es fun e he=>⟨nameH_le (ha e he).1,(ha e he).2⟩
      have h2:=scan_len2 b _ 0 [] es (by omega) (by simp [sumL]) hs
      exact ⟨hk,by simp only; omega⟩
    · cases h
end Go.Proofs.YtmpgpkdijfcfhaaGreat.Hz
/- A path within another: both programs. -/
namespace Go.Proofs.YtmpgpkdijfcfhaaGreat.Hz
open Go.RowKit
set_option linter.unusedVariables false
set_option linter.unusedSimpArgs false
set_option maxRecDepth 20000
theorem parts_join:∀ (p h:Str) (t:List Str),parts 47 p=h :: t→p=h++rawP t
  | [],h,t,e=>by
    simp [parts] at e
    obtain ⟨rfl,rfl⟩:=e
    rfl
  | c :: cs,h,t,e=>by
    unfold parts at e
    obtain ⟨h',t',e'⟩:∃ h' t',parts 47 cs=h' :: t':=by
      cases hp:parts 47 cs with
      | nil=>exact absurd hp (parts_ne 47 cs)
      | cons a b=>exact ⟨a,b,rfl⟩
    have ih:=parts_join cs h' t' e'
    split at e
    · rename_i hc
      subst hc
      rw [e'] at e
      simp at e
      obtain ⟨rfl,rfl⟩:=e
      rw [ih]
      rfl
    · rw [e'] at e
      simp [headCons] at e
      obtain ⟨rfl,rfl⟩:=e
      rw [ih]
      rfl
theorem path_raw {p:Str} (h:pathOk p=true) (hr:p≠[47]):p=rawP (names p):=by
  have hg:pathGood p=true:=by simpa [pathOk,hr] using h
  rw [names,if_neg hr,if_pos hg]
  simp only [pathGood,Bool.and_eq_true] at hg
  have h1:=hg.1.1
  cases hp:parts 47 p with
  | nil=>exact absurd hp (parts_ne 47 p)
  | cons a t =>
    rw [hp] at h1
    simp at h1
    subst h1
    have:=parts_join p [] t hp
    simpa using this
theorem name_no47 {n:Str} (h:nameOk n=true):∀ c∈n,c≠47:=by
  intro c hc e
  simp only [nameOk,Bool.and_eq_true,List.all_eq_true] at h
  have:=h.2 c hc
  subst e
  revert this
  decide
theorem word_pre:∀ (x y:Str) (s r:Str),(∀ c∈x,c≠47)→(∀ c∈y,c≠47)→(r=[]∨∃ r',r=47 :: r')→((x++47 :: s) <+: (y++r)↔x=y∧(47 :: s) <+: r)
  | [],[],s,r,_,_,_=>by simp
  | [],d :: y,s,r,_,hy,_=>by
    have:=hy d (by simp)
    simp only [List.nil_append,List.cons_append,List.cons_prefix_cons]
    constructor
    · intro h; exact absurd h.1.symm this
    · intro h; cases h.1
  | c :: x,[],s,r,hx,_,hr=>by
    have:=hx c (by simp)
    rcases hr with rfl | ⟨r',rfl⟩
    · simp
    · simp only [List.nil_append,List.cons_append,List.cons_prefix_cons]
      constructor
      · intro h; exact absurd h.1 this
      · intro h; cases h.1
  | c :: x,d :: y,s,r,hx,hy,hr=>by
    simp only [List.cons_append,List.cons_prefix_cons,List.cons.injEq]
    rw [word_pre x y s r (fun c hc=>hx c (by simp [hc])) (fun c hc=>hy c (by simp [hc])) hr,and_assoc]
theorem raw_head:∀ l:List Str,rawP l=[]∨∃ r',rawP l=47 :: r'
  | []=>.inl rfl
  | x :: xs=>.inr ⟨_,rfl⟩
theorem raw_pre:∀ (nb na:List Str),(∀ n∈nb,nameOk n=true)→(∀ n∈na,nameOk n=true)→((rawP nb++[47]) <+: rawP na↔nb.length<na.length∧na.take nb.length=nb)
  | [],[],_,_=>by simp [rawP]
  | [],y :: ys,_,_=>by simp [rawP]
  | x :: xs,[],_,_=>by simp [rawP]
  | x :: xs,y :: ys,hb,ha=>by
    obtain ⟨s,hs⟩:∃ s,rawP xs++[47]=47 :: s:=by
      rcases raw_head xs with h | ⟨r',h⟩
      · exact ⟨[],by rw [h]; rfl⟩
      · exact ⟨r'++[47],by rw [h]; rfl⟩
    have ih:=raw_pre xs ys (fun n hn=>hb n (by simp [hn])) (fun n hn=>ha n (by simp [hn]))
    have e1:rawP (x :: xs)++[47]=47 :: (x++47 :: s):=by rw [← hs]; simp [rawP]
    have e2:rawP (y :: ys)=47 :: (y++rawP ys):=rfl
    rw [e1,e2,List.cons_prefix_cons,word_pre x y s (rawP ys) (name_no47 (hb x (by simp))) (name_no47 (ha y (by simp))) (raw_head ys),← hs,ih]
    simp
    constructor
    · rintro ⟨rfl,h1,h2⟩; exact ⟨h1,rfl,h2⟩
    · rintro ⟨h1,rfl,h2⟩; exact ⟨rfl,h1,h2⟩
def within (a b:Str):Bool:=pathOk a && pathOk b && (decide ((names b).length≤(names a).length) && decide ((names a).take (names b).length=names b))
theorem within_impl {a b:Str} (ha:pathOk a=true) (hb:pathOk b=true):within a b=(a == b || (b == [47] || (b++[47]).isPrefixOf a)):=by
  rw [Bool.eq_iff_iff]
  simp only [within,ha,hb,Bool.true_and,Bool.and_eq_true,decide_eq_true_eq,Bool.or_eq_true,beq_iff_eq,List.isPrefixOf_iff_prefix]
  have na:∀ n∈names a,nameOk n=true:=fun n hn=>names_mem hn
  have nb:∀ n∈names b,nameOk n=true:=fun n hn=>names_mem hn
  constructor
  · rintro ⟨h1,h2⟩
    by_cases eb:b=[47]
    · exact .inr (.inl eb)
    by_cases ea:a=[47]
    · have:=names_pos hb eb
      rw [ea] at h1
      have e0:names [47]=[]:=rfl
      rw [e0] at h1
      simp at h1
      rw [h1] at this; cases this
    by_cases hl:(names b).length<(names a).length
    · right; right
      have h3:=(raw_pre _ _ nb na).2 ⟨hl,h2⟩
      rw [← path_raw hb eb,← path_raw ha ea] at h3
      exact h3
    · left
      have:names a=names b:=by rw [← h2,List.take_of_length_le (by omega)]
      rw [path_raw ha ea,path_raw hb eb,this]
  · rintro (rfl | rfl | h)
    · exact ⟨Nat.le_refl _,List.take_length⟩
    · have e0:names [47]=[]:=rfl
      rw [e0]; simp
    · by_cases eb:b=[47]
      · subst eb
        have e0:names [47]=[]:=rfl
        rw [e0]; simp
      by_cases ea:a=[47]
      · subst ea
        have:=h.length_le
        simp at this
        rw [this] at hb
        exact absurd hb (by decide)
      rw [path_raw hb eb,path_raw ha ea] at h
      have:=(raw_pre _ _ nb na).1 h
      exact ⟨by omega,this.2⟩
theorem pre_take (a b:Str):(a.take b.length == b)=b.isPrefixOf a:=by
  rw [Bool.eq_iff_iff]
  simp only [beq_iff_eq,List.isPrefixOf_iff_prefix]
  rw [List.prefix_iff_eq_take]
  exact eq_comm
theorem hasPrefixL_c (a b:Str) (h:Hp) (ha:a.length≤9000000) (hb:b.length≤9000000):ACall Tryz.prog 166 [.string (S a),.string (S b)] h fun r h'=>h'=h∧r=.bool (b.isPrefixOf a):=by
  refine acall mixed Tryz.func166 rfl (by kernel_rfl) ?_
  simp [Tryz.f166]
  by_cases hl:b.length≤a.length
  · simp [hl]
    exact pre_take a b
  · simp [hl]
    cases e:b.isPrefixOf a
    · rfl
    · exact absurd (List.isPrefixOf_iff_prefix.1 e).length_le hl
theorem hasPrefix_c (a b:Str) (h:Hp) (ha:a.length≤9000000) (hb:b.length≤9000000):ACall Tryz.prog 107 [.string (S a),.string (S b)] h fun r h'=>h'=h∧r=.bool (b.isPrefixOf a):=by
  refine acall mixed Tryz.func107 rfl (by kernel_rfl) ?_
  simp [Tryz.f107]
  refine callK0 (hasPrefixL_c a b h ha hb) ?_
  rintro _ _ ⟨rfl,rfl⟩
  simp
theorem withinP_impl_c (a b:Str) (h:Hp) (ha:a.length≤1048576) (hb:b.length≤1048576):ACall Tryz.prog 56 [.string (S a),.string (S b)] h fun r h'=>(∃ t,h'=h++t)∧r=.bool (within a b):=by
  refine acall mixed Tryz.func56 rfl (by kernel_rfl) ?_
  simp [Tryz.f56]
  refine callK0 (pathOk_impl_c a h ha) ?_
  rintro _ _ ⟨⟨t1,rfl⟩,rfl⟩
  cases e1:pathOk a
  · simp [within,e1]
  simp
  refine callK0 (pathOk_impl_c b _ hb) ?_
  rintro _ _ ⟨⟨t2,rfl⟩,rfl⟩
  cases e2:pathOk b
  · simp [within,e1,e2]
  rw [within_impl e1 e2]
  simp
  by_cases e3:a=b
  · simp [e3]
  have e3':(a == b)=false:=by simpa using e3
  by_cases e4:b=[47]
  · subst e4
    simp [e3']
  have e4':(b == [47])=false:=by simpa using e4
  have hbb:b.length≤9223372036854775806:=by omega
  simp [e3',e4',hbb]
  refine callK0 (hasPrefix_c a (b++[47]) _ (by omega) (by simp; omega)) ?_
  rintro _ _ ⟨rfl,rfl⟩
  simp
theorem withinP_spec_c (a b:Str) (h:Hp) (ha:a.length≤1048576) (hb:b.length≤1048576):ACall Tryz.prog 64 [.string (S a),.string (S b)] h fun r h'=>(∃ t,h'=h++t)∧r=.bool (within a b):=by
  refine acall mixed Tryz.func64 rfl (by kernel_rfl) ?_
  simp [Tryz.f64]
  refine callK0 (names_spec_c a h ha) ?_
  rintro _ _ ⟨aa,Fa,rfl,oa⟩
  obtain ⟨t1,rfl⟩:=oa.ext.pre
  simp
  refine callK0 (names_spec_c b _ hb) ?_
  rintro _ _ ⟨ab,Fb,rfl,ob⟩
  obtain ⟨t2,rfl⟩:=ob.ext.pre
  have sa:=oa.sl.ext (Ext.push _ t2)
  have sb:=ob.sl
  clear oa ob
  simp
  refine callK0 (pathOk_spec_c a _ ha) ?_
  rintro _ _ ⟨⟨t3,rfl⟩,rfl⟩
  cases e1:pathOk a
  · simp [within,e1]
  simp
  refine callK0 (pathOk_spec_c b _ hb) ?_
  rintro _ _ ⟨⟨t4,rfl⟩,rfl⟩
  cases e2:pathOk b
  · simp [within,e1,e2]
  have na:=names_len a
  have nb:=names_len b
  simp
  by_cases e3:(names b).length≤(names a).length
  rotate_left
  · simp [within,e1,e2,e3]
  simp [e3]
  cases aa with
  | none =>
    obtain ⟨ea,_⟩:=sa
    have eb:names b=[]:=List.length_eq_zero_iff.1 (by rw [ea] at e3; simpa using e3)
    rw [eb] at sb
    simp [ea,eb,asl2,asl,bound]
    refine callK0 (l1Texts_c [] [] none ab [] Fb true true 9 9 _ ⟨rfl,rfl⟩ (sb.to (by simp)) (by simp)) ?_
    rintro _ _ ⟨⟨t5,rfl⟩,rfl⟩
    simp [within,e1,e2,ea,eb]
  | some x =>
    obtain ⟨o,off,sp⟩:=x
    obtain rfl:sp=none:=sa.1
    have hel:=(sa.ext (Ext.push _ (t3++t4))).el
    simp only [List.append_assoc] at hel
    have hj:((names b).length:Int)≤(max (names a).length (names a).length:Nat):=by omega
    simp [asl2_j,hel,e3]
    obtain ⟨Fp,kp,-⟩:=(sa.ext (Ext.push _ (t3++t4))).part 0 (names b).length (by omega) (by omega)
    simp only [List.drop_zero,Nat.zero_mul,Nat.add_zero,List.append_assoc] at kp
    have hlp:((names a).take (names b).length).length=(names b).length:=by simp; omega
    have hc:=l1Texts_c ((names a).take (names b).length) (names b) (some ⟨o,off,none⟩) ab Fp Fb true true _ _ _ kp (sb.to (by simp)) (by omega)
    rw [hlp] at hc
    refine callK0 (hc.cap (by omega)) ?_
    rintro _ _ ⟨⟨t5,rfl⟩,rfl⟩
    simp [within,e1,e2,e3]
end Go.Proofs.YtmpgpkdijfcfhaaGreat.Hz
/- FsRename: what it gives. No program in sight. -/
namespace Go.Proofs.YtmpgpkdijfcfhaaGreat.Hz
open Go.RowKit
set_option linter.unusedVariables false
set_option linter.unusedSimpArgs false
set_option maxRecDepth 20000
theorem unlink_wrote {f:Fs} (s:ShapeOk f) {d:Nat} (hd:d<f.nodes.length) (hk:(nodeAtI f (d:Int)).kind=2) (hr:(dirI f (d:Int)).2=true) (nm:Str) :
    ∃ data,Wrote f d data∧data=dirText (dirDrop (dirI f (d:Int)).1 nm).1∧unlinkS f (d:Int) nm=(written f (d:Int) data,true):=by
  obtain ⟨h1,h2⟩:=dirI_two hr
  obtain ⟨h3,h4⟩:=drop_ok h1 nm
  have h5:=content_small s (d:Int)
  have hb:=contentOf_le s (nodeAtI f (d:Int)).blocks
  have hc:contentI f (d:Int)=contentOf f (nodeAtI f (d:Int)).blocks:=rfl
  rw [← hc] at hb
  have key:∀ data:Str,data.length≤(dirText (dirI f (d:Int)).1).length→Wrote f d data∧nodeWrite f (d:Int) data=(written f (d:Int) data,true):=by
    intro data h4
    have hneed:needOf data≤(nodeAtI f (d:Int)).blocks.length:=by
      unfold needOf blocksFor
      split
      · omega
      · split <;> omega
    have hw:writeBlocks f (d:Int) data=(nodeAtI f (d:Int)).blocks.take (needOf data):=by
      unfold writeBlocks
      exact fillF_nil (by rw [List.length_take]; omega)
    have hl:needOf data≤(writeBlocks f (d:Int) data).length:=by rw [hw,List.length_take]; omega
    have hk':f.nodes[d].kind≠0:=by
      rw [nodeAtI_get hd] at hk
      rw [hk]; decide
    refine ⟨wrote_of s hd hk' (by omega) hl,?_⟩
    have hu:usable f (d:Int)=true:=by
      simp only [usable,Bool.and_eq_true]
      exact ⟨shapeOk_t s,inR_iff.2 (by omega),by rw [hk]; decide⟩
    unfold nodeWrite
    rw [if_pos (by simp only [Bool.and_eq_true,decide_eq_true_eq]; exact ⟨⟨hu,by omega⟩,hl⟩)]
  obtain ⟨k1,k2⟩:=key _ h4
  exact ⟨_,k1,rfl,k2⟩
theorem unlink_good {f:Fs} (e1:fsOk f=true) {d:Nat} (o:Okd f (d:Int)) (hk:(nodeAtI f (d:Int)).kind=2) (nm:Str) :
    (unlinkS f (d:Int) nm).2=true∧ShapeOk (unlinkS f (d:Int) nm).1∧Good (unlinkS f (d:Int) nm).1 0∧(unlinkS f (d:Int) nm).1.nodes.length=f.nodes.length:=by
  have s:=fsOk_shape e1
  have hd:d<f.nodes.length:=by have:=o.2.1; omega
  obtain ⟨data,W,he,hu⟩:=unlink_wrote s hd hk (o.read hk) nm
  have hsh:ShapeOk (nodeWrite f (d:Int) (dirText (dirDrop (dirI f (d:Int)).1 nm).1)).1:=nodeWrite_shape s _ _
  have hn:nodeWrite f (d:Int) (dirText (dirDrop (dirI f (d:Int)).1 nm).1)=(written f (d:Int) data,true):=hu
  rw [hn] at hsh
  rw [hu]
  have hlen:(written f (d:Int) data).nodes.length=f.nodes.length:=by simp [written]
  refine ⟨rfl,hsh,⟨Okd f,fun i oi=>?_,okd_root e1⟩,hlen⟩
  refine ⟨oi.1,by simp only; rw [hlen]; exact oi.2.1,fun hk2=>?_⟩
  simp only at hk2 ⊢
  obtain ⟨m,rfl⟩:=Int.eq_ofNat_of_zero_le oi.1
  by_cases hm:d=m
  · subst hm
    have hi:dirI (written f (d:Int) data) (d:Int)=((dirDrop (dirI f (d:Int)).1 nm).1,true):=by
      unfold dirI
      rw [written_content s W,he]
      exact dirOf_text (drop_ok (dirI_two (o.read hk)).1 nm).1
    rw [hi]
    exact ⟨rfl,fun e h=>oi.step hk ((drop_sub _ nm).subset h)⟩
  · have ho:=written_other s W hm
    have hi:dirI (written f (d:Int) data) (m:Int)=dirI f (m:Int):=by
      unfold dirI
      rw [ho.2]
    rw [hi]
    rw [ho.1] at hk2
    exact ⟨oi.read hk2,fun e h=>oi.step hk2 h⟩
noncomputable def rnU (f:Fs) (p:Str):Fs × Bool:=unlinkS f (walk f (above p)) (last p)
noncomputable def rnC (f:Fs) (p q:Str):Fs × Int × Int:=climbS (rnU f p).1 ((names q).take ((names q).length - 1)) 0
noncomputable def rnL (f:Fs) (p q:Str):Fs × Bool:=linkS (rnC f p q).1 (rnC f p q).2.1 (last q) (walk f p)
noncomputable def genSet (g:Fs) (i:Nat) (gen:Int):Fs:=if (nodeAtI g (i:Int)).kind=2 then g else ⟨g.nodes.set i { nodeAtI g (i:Int) with gen:=gen },g.data⟩
noncomputable def rnG (f:Fs) (p q:Str) (gen:Int):Fs:=genSet (rnL f p q).1 (walk f p).toNat gen
open Classical in
noncomputable def fsRename (f:Fs) (p q:Str) (gen:Int):Fs × Int :=
  if (fsOk f && inR gen 0 1000000)=false then (f,10)
  else if pathOk p=false∨p=[47]∨pathOk q=false∨q=[47]∨within q p=true then (f,1)
  else if walk f p<0 then (f,2) else if 0≤walk f q then (f,3)
  else if (rnC f p q).2.2=0 then (if (rnL f p q).2 then (if fsOk (rnG f p q gen) then (rnG f p q gen,0) else (f,1)) else (f,5)) else (f,(rnC f p q).2.2)
theorem rnU_good {f:Fs} (e1:fsOk f=true) {p:Str} (h:pathOk p=true) (hr:p≠[47]) (hw:0≤walk f p) :
    (rnU f p).2=true∧ShapeOk (rnU f p).1∧Good (rnU f p).1 0∧(rnU f p).1.nodes.length=f.nodes.length:=by
  obtain ⟨-,o,k⟩:=dir_ok e1 h hr hw
  unfold rnU
  obtain ⟨d,hd⟩:=Int.eq_ofNat_of_zero_le o.1
  rw [hd] at o k ⊢
  exact unlink_good e1 o k (last p)
theorem climbS_len:∀ (ns:List Str) (f:Fs) (i:Int),(climbS f ns i).1.nodes.length=f.nodes.length
  | [],f,i=>by unfold climbS; split <;> rfl
  | n :: ns,f,i=>by
    unfold climbS
    split
    · split
      · split
        · rw [climbS_len ns,growS_len]
        · rfl
      · exact climbS_len ns f _
    · rfl
theorem linkS_len (f:Fs) (d:Int) (name:Str) (node:Int):(linkS f d name node).1.nodes.length=f.nodes.length:=by
  unfold linkS
  split
  · unfold nodeWrite; split <;> simp [written]
  · rfl
theorem genSet_nl (g:Fs) (i:Nat) (gen:Int):(genSet g i gen).nl≤g.nl:=by
  unfold genSet
  split
  · exact Nat.le_refl _
  · by_cases hi:i<g.nodes.length
    · exact nodes_set_nl g i hi _ (by simp [nodeAtI,hi,Node.nl])
    · rw [List.set_eq_of_length_le (by omega)]
      exact Nat.le_refl _
theorem fsRename_nl (f:Fs) (p q:Str) (gen:Int) (h:f.nl≤1048576):(fsRename f p q gen).1.nl≤1048576:=by
  unfold fsRename
  split
  · exact h
  rename_i e1
  split
  · exact h
  rename_i e2
  split
  · exact h
  rename_i e3
  have hf:fsOk f=true:=by
    cases hh:fsOk f
    · simp [hh] at e1
    · rfl
  have e2':pathOk p=true∧p≠[47]:=by
    refine ⟨?_,fun hh=>e2 (.inr (.inl hh))⟩
    cases hh:pathOk p
    · exact absurd (.inl hh) e2
    · rfl
  have g:=rnU_good hf e2'.1 e2'.2 (by omega)
  have s2:ShapeOk (rnC f p q).1:=climbS_shape _ g.2.1 _
  have s3:ShapeOk (rnL f p q).1:=linkS_shape s2 _ _ _
  have hG:(rnG f p q gen).nl≤1048576:=Nat.le_trans (genSet_nl _ _ _) (by have:=s3.small.nl; omega)
  split
  · exact h
  split
  · split
    · split
      · exact hG
      · exact h
    · exact h
  · exact h
end Go.Proofs.YtmpgpkdijfcfhaaGreat.Hz
