/- Texts of the calculus and of the program's functions, merged: L M N. -/
import Derived.Test.YtmpgpkdijfcfhaaHyKI
import Derived.Deep.LoopGhost
namespace Go.Proofs.Ytmpgpkdijfcfhaa.Hz
open Go.RowKit
set_option linter.unusedVariables false
set_option linter.unusedSimpArgs false
abbrev Post:=Exit→List Value→Hp→Prop
section
variable (P:Program)
def aopsL (ops:Array Oper) (wk:Bool):List Oper→List Value→Hp→(List Value→Hp→Prop)→Prop
  | [],tm,h,K=>K tm h
  | o :: os,tm,h,K=>astep P ops wk o tm h fun tm h=>aopsL ops wk os tm h K
def famAll (ops:Array Oper) (wk:Bool):List (List Oper)→List Value→Hp→(List Value→Hp→Prop)→Prop
  | [],tm,h,K=>True
  | g :: gs,tm,h,K=>aopsL P ops wk g tm h K∧famAll ops wk gs tm h K
def flL (ops:Array Oper):List (Oper × Value)→List Value→Hp→Prop
  | [],_,_=>True
  | x :: r,tm,h=>val P ops x.1 tm h=some x.2∧flL ops r (put tm x.1.dst x.2) h
def aopsVL (ops:Array Oper) (wk:Bool) (fl:List (Oper × Value)):List Oper→List Value→Hp→(List Value→Hp→Prop)→Prop
  | [],tm,h,K=>flL P ops fl tm h∧K tm h
  | o :: os,tm,h,K=>flL P ops fl tm h∧astep P ops wk o tm h fun tm h=>aopsVL ops wk fl os tm h K
def putL:List (Oper × Value)→List Value→List Value
  | [],tm=>tm
  | x :: r,tm=>putL r (put tm x.1.dst x.2)
def edgesOK (ops:Array Oper):Bool:=(List.range ops.size).all fun i=>match ops[i]? with | some o=>o.after.toList.all fun e=>!Region.binds .any e || decide (e.on<i) | none=>true
def ADraw (ops:Array Oper) (tm:List Value) (h:Hp) (K:List Value→Hp→Prop):Prop :=
  (∃ wk:Bool,(edgesOK ops && regOK P ops (fun _=>wk))=true∧aopsL P ops wk ops.toList tm h K) ∨
  (∃ (wk wk2:Bool) (s:Nat) (os:Oper) (r1 r2:List Nat) (l1 l2:List Oper),ops[s]?=some os∧r1.filterMap (ops[·]?)=l1∧r2.filterMap (ops[·]?)=l2∧(edgesOK ops && lateOK P ops (fun i=>if r2.contains i then wk2 else wk) s r1 r2)=true∧aopsL P ops wk l1 tm h fun tm h=>astepS P os tm h fun tm h=>aopsL P ops wk2 l2 tm h K) ∨
  (∃ (wk:Bool) (r0 f:List Nat) (F:List (List Nat)) (r2:List Nat) (l0:List Oper) (lF:List (List Oper)) (l2:List Oper),r0.filterMap (ops[·]?)=l0∧(f :: F).map (fun g=>g.filterMap (ops[·]?))=lF∧r2.filterMap (ops[·]?)=l2∧(edgesOK ops && famOK P ops (fun _=>wk) r0 f (f :: F) r2)=true∧aopsL P ops wk l0 tm h fun tm h=>famAll P ops wk lF tm h fun tm h=>aopsL P ops wk l2 tm h K) ∨
  (∃ (wk:Bool) (r1 fl r2:List Nat) (V:Nat→Value) (l1:List Oper) (lf:List (Oper × Value)) (l2:List Oper),r1.filterMap (ops[·]?)=l1∧(fl.filterMap fun x=>(ops[x]?).map fun o=>(o,V x))=lf∧r2.filterMap (ops[·]?)=l2∧(edgesOK ops && floatOK P ops (fun _=>wk) r1 fl r2)=true∧aopsVL P ops wk lf l1 tm h fun tm h=>aopsL P ops wk l2 (putL lf tm) h K) ∨
  ∃ Φ:(Nat→Bool)→List Value→Hp→Prop,edgesOK ops=true∧InvR P ops Φ K∧Φ (fun _=>false) tm h
def AWp (c:Code) (Q:Post) (tm:List Value) (h:Hp):Prop :=
  ∀ (B:Bd) (w0:World) (φ:Inj) (a:Act) (w:World),RelSt P B w0 φ tm h a w →
    c.wp P (fun e a' w'=>∃ φ' tm' h',φ <+: φ'∧RelSt P B w0 φ' tm' h' a' w'∧Q e tm' h') a w
def ALoop (c:Code) (Q:Post) (tm:List Value) (h:Hp):Prop:=AWp P (.loop c) Q tm h
def seqQ (next:List Value→Hp→Prop) (Q:Post):Post
  | .normal,tm,h=>next tm h
  | e,tm,h=>Q e tm h
def blockQ (id:Nat) (Q:Post):Post
  | .exit i,tm,h=>if i=id then Q .normal tm h else Q (.exit i) tm h
  | e,tm,h=>Q e tm h
def acond (v:Value) (A B:Prop):Prop :=
  match v with
  | .bool b=>asplit b A B
  | _=>False
def awp:Code→Post→List Value→Hp→Prop
  | .skip,Q,tm,h=>Q .normal tm h
  | .region _ ops false,Q,tm,h=>aopsL P ops false ops.toList tm h (fun tm h=>Q .normal tm h)
  | .region _ ops true,Q,tm,h=>ADraw P ops tm h (fun tm h=>Q .normal tm h)
  | .seq x y,Q,tm,h=>awp x (seqQ (fun tm h=>awp y Q tm h) Q) tm h
  | .cond c x y,Q,tm,h=>acond (ev tm c) (awp x Q tm h) (awp y Q tm h)
  | .block id c,Q,tm,h=>awp c (blockQ id Q) tm h
  | .loop c,Q,tm,h=>ALoop P c Q tm h
  | .exit id,Q,tm,h=>Q (.exit id) tm h
  | .ret,Q,tm,h=>Q .ret tm h
  | _,_,_,_=>False
end
section
variable {P:Program} {ops:Array Oper} {tm:List Value} {h:Hp}
theorem aopsL_aops {wk:Bool} {K:List Value→Hp→Prop}:∀ (os:List Oper) (i:Nat) (tm:List Value) (h:Hp),ops.toList.drop i=os→aopsL P ops wk os tm h K→aops P ops (fun _=>wk) (List.range' i os.length) tm h K
  | [],i,tm,h,_,k=>k
  | o :: os,i,tm,h,hd,k=>by
    have ho:ops[i]?=some o:=by
      have:=congrArg (fun l=>l[0]?) hd
      simpa using this
    have hd':ops.toList.drop (i+1)=os:=by
      have:=congrArg (List.drop 1) hd
      simpa [List.drop_drop,Nat.add_comm] using this
    simp only [List.length_cons,List.range'_succ]
    unfold aops
    simp only [ho]
    unfold aopsL at k
    exact astep_out (fun v h' _ hk=>aopsL_aops os (i+1) _ h' hd' hk) k
theorem aopsL_range {wk:Bool} {K:List Value→Hp→Prop} (k:aopsL P ops wk ops.toList tm h K):aops P ops (fun _=>wk) (List.range ops.size) tm h K:=by
  have:=aopsL_aops ops.toList 0 tm h rfl k
  rw [List.range_eq_range']
  simpa using this
theorem region_sound {id:Nat} {Q:Post} (k:aopsL P ops false ops.toList tm h (fun tm h=>Q .normal tm h)):AWp P (.region id ops false) Q tm h:=by
  intro B w0 φ a w R
  refine wp_region (aops_sound _ (aopsL_range k) R ?_)
  exact fun φ' tm' h' a' w' p1 p2 p3=>⟨φ',tm',h',p1,p2,p3⟩
theorem aopsL_of {wk:Bool} {wf:Nat→Bool} {K K':List Value→Hp→Prop} (hk:∀ tm h,K tm h→K' tm h):∀ (r:List Nat) (tm:List Value) (h:Hp),(∀ i∈r,wf i=wk)→aopsL P ops wk (r.filterMap (ops[·]?)) tm h K→aops P ops wf r tm h K'
  | [],tm,h,_,k=>hk _ _ k
  | i :: r,tm,h,hw,k=>by
    unfold aops
    cases hi:ops[i]? with
    | none=>simp only [List.filterMap_cons,hi] at k ⊢; exact aopsL_of hk r tm h (fun j hj=>hw j (by simp [hj])) k
    | some o =>
      simp only [List.filterMap_cons,hi] at k ⊢
      unfold aopsL at k
      rw [hw i (by simp)]
      exact astep_out (fun v h' _ hh=>aopsL_of hk r _ h' (fun j hj=>hw j (by simp [hj])) hh) k
theorem flL_fl {V:Nat→Value} {h:Hp}:∀ (fl:List Nat) (tm:List Value),(∀ x∈fl,∃ ox,ops[x]?=some ox)→flL P ops (fl.filterMap fun x=>(ops[x]?).map fun o=>(o,V x)) tm h→Fl P ops V fl tm h
  | [],_,_,_=>trivial
  | y :: fl,tm,hin,k=>by
    obtain ⟨oy,hy⟩:=hin y (by simp)
    simp only [List.filterMap_cons,hy,Option.map_some,flL] at k
    exact ⟨oy,hy,k.1,flL_fl fl _ (fun z hz=>hin z (by simp [hz])) k.2⟩
theorem putL_all {V:Nat→Value}:∀ (fl:List Nat) (tm:List Value),putL (fl.filterMap fun x=>(ops[x]?).map fun o=>(o,V x)) tm=putAll ops V fl tm
  | [],_=>rfl
  | y :: fl,tm=>by
    cases hy:ops[y]? with
    | none=>simp only [List.filterMap_cons,hy,Option.map_none,putAll]; exact putL_all fl tm
    | some o=>simp only [List.filterMap_cons,hy,Option.map_some,putAll,putL]; exact putL_all fl _
theorem aopsV_of {wk:Bool} {V:Nat→Value} {fl:List Nat} (hin:∀ x∈fl,∃ ox,ops[x]?=some ox) {K K':List Value→Hp→Prop} (hk:∀ tm h,K tm h→K' tm h):∀ (r:List Nat) (tm:List Value) (h:Hp),aopsVL P ops wk (fl.filterMap fun x=>(ops[x]?).map fun o=>(o,V x)) (r.filterMap (ops[·]?)) tm h K→aopsV P ops (fun _=>wk) V fl r tm h K'
  | [],tm,h,k=>⟨flL_fl fl _ hin k.1,hk _ _ k.2⟩
  | i :: r,tm,h,k=>by
    cases hi:ops[i]? with
    | none =>
      simp only [List.filterMap_cons,hi] at k
      have:=aopsV_of hin hk r tm h k
      refine ⟨aopsV_fl _ this,?_⟩
      simp only [hi]
      exact this
    | some o =>
      simp only [List.filterMap_cons,hi] at k
      unfold aopsVL at k
      refine ⟨flL_fl fl _ hin k.1,?_⟩
      simp only [hi]
      exact astep_out (fun v h' _ hh=>aopsV_of hin hk r _ h' hh) k.2
theorem famAll_of {wk:Bool} {l2:List Nat} {tm:List Value} {h:Hp} {K:List Value→Hp→Prop}:∀ (F:List (List Nat)),famAll P ops wk (F.map fun g=>g.filterMap (ops[·]?)) tm h (fun tm h=>aopsL P ops wk (l2.filterMap (ops[·]?)) tm h K)→∀ g,g∈F→aops P ops (fun _=>wk) (g++l2) tm h K
  | [],_,g,hg=>by simp at hg
  | f :: F,k,g,hg=>by
    simp only [List.map_cons,famAll] at k
    rcases List.mem_cons.1 hg with rfl | hg
    · exact aops_append g l2 tm h (aopsL_of (fun tm h kk=>aopsL_of (fun _ _ z=>z) l2 tm h (fun _ _=>rfl) kk) g tm h (fun _ _=>rfl) k.1)
    · exact famAll_of F k.2 g hg
theorem draw_sound (hm:P.follows .mixedOrders=true) {id:Nat} {Q:Post} (k:ADraw P ops tm h (fun tm h=>Q .normal tm h)):AWp P (.region id ops true) Q tm h:=by
  have edges:edgesOK ops=true→∀ i o e,ops[i]?=some o→e∈o.after→Region.binds .any e=true→e.on<i:=by
    intro hok i o e hi he hb
    have hin:i<ops.size:=(Array.getElem?_eq_some_iff.1 hi).1
    have h1:=List.all_eq_true.1 hok i (by simpa using hin)
    simp only [hi] at h1
    have h2:=List.all_eq_true.1 h1 e (by simpa using he)
    simpa [hb] using h2
  intro B w0 φ a w R
  have R':RelSt P B w0 φ tm h a { w with drawn:=w.drawn+1 }:=⟨R.tm,R.df,R.hp.drew _⟩
  rcases k with ⟨wk,hok,k⟩ | ⟨wk,wk2,s,os,r1,r2,l1,l2,hos,e1,e2,hok,k⟩ | ⟨wk,r0,f,F,r2,l0,lF,l2,e0,e1,e2,hok,k⟩ | ⟨wk,r1,fl,r2,V,l1,lf,l2,e1,ef,e2,hok,k⟩ | ⟨Φ,hok,hΦ,k⟩
  · simp only [Bool.and_eq_true] at hok
    refine wp_region_any hm (any_sound hok.2 (edges hok.1) ops.size (List.range ops.size) (Array.replicate ops.size false) (by simp) List.pairwise_lt_range (by simp) ?_ ?_ (aopsL_range k) R' ?_)
    · intro i
      simp [Array.getD_eq_getD_getElem?,Array.getElem?_replicate]
      intro hi
      simp [hi]
    · intro i o e hi hl _ _
      rw [Array.getD_eq_getD_getElem?,Array.getElem?_replicate] at hl
      split at hl <;> simp at hl
    · exact fun φ' tm' h' a' w' p1 p2 p3=>⟨φ',tm',h',p1,p2,p3⟩
  · simp only [Bool.and_eq_true] at hok
    subst e1
    subst e2
    have hnd:(r1++s :: r2).Nodup:=by
      have h1:=hok.2
      unfold lateOK at h1
      simp only [Bool.and_eq_true,decide_eq_true_eq] at h1
      exact h1.1.1.1.1.1.1.1
    have w1:∀ i∈r1,(if r2.contains i then wk2 else wk)=wk:=fun i hi=>by
      have:r2.contains i=false:=by
        cases hc:r2.contains i
        · rfl
        · exact absurd rfl ((List.nodup_append.1 hnd).2.2 i hi i (List.mem_cons_of_mem _ (List.contains_iff_mem.1 hc)))
      rw [this]; rfl
    have w2:∀ i∈r2,(if r2.contains i then wk2 else wk)=wk2:=fun i hi=>by
      rw [List.contains_iff_mem.2 hi]; rfl
    refine wp_region_any hm (late_sound (edges hok.1) hos hok.2 (aopsL_of (fun tm h kk=>?_) r1 tm h w1 k) R' fun φ' tm' h' a' w' p2 p1 p3=>⟨φ',tm',h',p1,p2,p3⟩)
    obtain ⟨g1,g2,g3,v,ob,g4,g5,g6⟩:=kk
    exact ⟨g1,g2,g3,v,ob,g4,g5,aopsL_of (fun _ _ z=>z) r2 _ _ w2 g6⟩
  · simp only [Bool.and_eq_true] at hok
    subst e0
    subst e1
    subst e2
    refine wp_region_any hm (fam_sound (edges hok.1) hok.2 (aopsL_of (fun tm h kk=>?_) r0 tm h (fun _ _=>rfl) k) R' fun φ' tm' h' a' w' p2 p1 p3=>⟨φ',tm',h',p1,p2,p3⟩)
    exact fun g hg=>famAll_of (f :: F) kk g hg
  · simp only [Bool.and_eq_true] at hok
    subst e1
    subst ef
    subst e2
    have hin:∀ x∈fl,∃ ox,ops[x]?=some ox:=fun x hx=>by
      have h1:=hok.2
      unfold floatOK at h1
      simp only [Bool.and_eq_true,decide_eq_true_eq] at h1
      have h2:=List.all_eq_true.1 h1.1.1.1.1.1.1.1.2 x (by simp [hx])
      have hlt:x<ops.size:=by simpa using h2
      exact ⟨ops[x],Array.getElem?_eq_getElem hlt⟩
    refine wp_region_any hm (float_sound (V:=V) (edges hok.1) hok.2 (aopsV_of hin (fun tm h kk=>?_) r1 tm h k) R' fun φ' tm' h' a' w' p2 p1 p3=>⟨φ',tm',h',p1,p2,p3⟩)
    rw [putL_all] at kk
    exact aopsL_of (fun _ _ z=>z) r2 _ _ (fun _ _=>rfl) kk
  · exact wp_region_any hm (inv_sound (edges hok) hΦ k R' fun φ' tm' h' a' w' p2 p1 p3=>⟨φ',tm',h',p1,p2,p3⟩)
theorem awp_sound (hm:P.follows .mixedOrders=true):∀ (c:Code) {Q:Post} {tm:List Value} {h:Hp},awp P c Q tm h→AWp P c Q tm h
  | .skip,Q,tm,h,k=>fun B w0 φ a w R=>wp_skip ⟨φ,tm,h,List.prefix_refl _,R,k⟩
  | .region id ops false,Q,tm,h,k=>region_sound k
  | .region id ops true,Q,tm,h,k=>draw_sound hm k
  | .seq x y,Q,tm,h,k=>fun B w0 φ a w R=>by
    refine wp_seq (wp_mono (awp_sound hm x k B w0 φ a w R) ?_)
    rintro e a' w' ⟨φ',tm',h',p1,p2,p3⟩
    cases e with
    | normal=>exact wp_mono (awp_sound hm y p3 B w0 φ' a' w' p2) fun e a2 w2 ⟨φ2,tm2,h2,q1,q2,q3⟩=>⟨φ2,tm2,h2,p1.trans q1,q2,q3⟩
    | _=>exact ⟨φ',tm',h',p1,p2,p3⟩
  | .cond c x y,Q,tm,h,k=>fun B w0 φ a w R=>by
    unfold awp acond at k
    split at k
    · rename_i b hb
      have he:=R.ev c
      rw [hb] at he
      have he:=rBool (φ:=φ) he
      cases b with
      | true=>exact wp_cond_true he (awp_sound hm x (k.1 rfl) B w0 φ a w R)
      | false=>exact wp_cond_false he (awp_sound hm y (k.2 rfl) B w0 φ a w R)
    · exact k.elim
  | .block id c,Q,tm,h,k=>fun B w0 φ a w R=>by
    refine wp_block (wp_mono (awp_sound hm c k B w0 φ a w R) ?_)
    rintro e a' w' ⟨φ',tm',h',p1,p2,p3⟩
    cases e with
    | exit i =>
      show if i=id then _ else _
      have p3':if i=id then Q .normal tm' h' else Q (.exit i) tm' h':=p3
      split
      · rename_i hi; rw [if_pos hi] at p3'; exact ⟨φ',tm',h',p1,p2,p3'⟩
      · rename_i hi; rw [if_neg hi] at p3'; exact ⟨φ',tm',h',p1,p2,p3'⟩
    | _=>exact ⟨φ',tm',h',p1,p2,p3⟩
  | .loop c,Q,tm,h,k=>k
  | .exit id,Q,tm,h,k=>fun B w0 φ a w R=>wp_exit ⟨φ,tm,h,List.prefix_refl _,R,k⟩
  | .ret,Q,tm,h,k=>fun B w0 φ a w R=>wp_ret ⟨φ,tm,h,List.prefix_refl _,R,k⟩
  | .rangeFunc ..,_,_,_,k=>k.elim
  | .scope ..,_,_,_,k=>k.elim
  | .label ..,_,_,_,k=>k.elim
  | .goto ..,_,_,_,k=>k.elim
  | .refuse ..,_,_,_,k=>k.elim
def mkF:Nat→Nat→List Nat→List Value→List Value
  | 0,_,_,_=>[]
  | n+1,i,s :: ss,v :: vs=>if s=i then v :: mkF n (i+1) ss vs else junk :: mkF n (i+1) (s :: ss) (v :: vs)
  | n+1,i,[],_=>junk :: mkF n (i+1) [] []
  | n+1,i,_ :: _,[]=>junk :: mkF n (i+1) [] []
def pickF (slots:List Nat) (tm:List Value):List Value:=slots.map fun s=>(tm[s]?).getD undef
theorem rel_mkF {φ:Inj}:∀ {tm tm':List Value} (i:Nat) (slots:List Nat) (vs:List Value),All2 (RelV φ) tm tm'→(∀ (j s:Nat) (v:Value),slots[j]?=some s→vs[j]?=some v→i≤s→tm[s - i]?=none∨tm[s - i]?=some v)→All2 (RelV φ) (mkF tm.length i slots vs) tm'
  | [],[],_,_,_,_,_=>trivial
  | u :: us,u' :: us',i,[],vs,h,_=>⟨relV_junk _ _,rel_mkF (i+1) [] [] h.2 (fun j s v hs=>by simp at hs)⟩
  | u :: us,u' :: us',i,s :: ss,[],h,_=>⟨relV_junk _ _,rel_mkF (i+1) [] [] h.2 (fun j s v hs=>by simp at hs)⟩
  | u :: us,u' :: us',i,s :: ss,v :: vs,h,k=>by
    simp only [List.length_cons,mkF]
    split
    · rename_i hsi
      subst hsi
      have h0:=k 0 s v rfl rfl (Nat.le_refl _)
      simp only [Nat.sub_self,List.getElem?_cons_zero] at h0
      rcases h0 with h0 | h0
      · cases h0
      · injection h0 with h0
        subst h0
        refine ⟨h.1,rel_mkF (s+1) ss vs h.2 fun j x y hx hy hle=>?_⟩
        have:=k (j+1) x y (by simpa using hx) (by simpa using hy) (by omega)
        rw [show x - s=(x - (s+1))+1 by omega,List.getElem?_cons_succ] at this
        exact this
    · rename_i hsi
      refine ⟨relV_junk _ _,rel_mkF (i+1) (s :: ss) (v :: vs) h.2 fun j x y hx hy hle=>?_⟩
      have:=k j x y hx hy (by omega)
      rw [show x - i=(x - (i+1))+1 by omega,List.getElem?_cons_succ] at this
      exact this
  | [],_ :: _,_,_,_,h,_=>h.elim
  | _ :: _,[],_,_,_,h,_=>h.elim
theorem RelSt.pick {B:Bd} {w0 w:World} {φ:Inj} {a:Act} (R:RelSt P B w0 φ tm h a w) (slots:List Nat):RelSt P B w0 φ (mkF tm.length 0 slots (pickF slots tm)) h a w:=by
  refine ⟨rel_mkF 0 slots _ R.tm fun j s v hs hv _=>?_,R.df,R.hp⟩
  simp only [pickF,List.getElem?_map,hs,Option.map_some,Option.some.injEq] at hv
  simp only [Nat.sub_zero]
  cases hx:tm[s]? with
  | none=>exact .inl rfl
  | some u=>rw [hx] at hv; simp at hv; subst hv; exact .inr rfl
def ANext {X:Type} (n:Nat) (slots:List Nat) (vals:X→List Value) (hp:X→Hp) (I:X→Prop) (μ:X→Nat) (x:X) (tm:List Value) (h:Hp):Prop :=
  ∃ y,I y∧μ y<μ x∧vals y=pickF slots tm∧hp y=h∧tm.length=n
theorem anext {X:Type} {n:Nat} {slots:List Nat} {vals:X→List Value} {hp:X→Hp} {I:X→Prop} {μ:X→Nat} {x:X} {tm:List Value} {h:Hp} (y:X) (hI:I y) (hμ:μ y<μ x) (hv:vals y=pickF slots tm) (hh:hp y=h) (hn:tm.length=n):ANext n slots vals hp I μ x tm h:=⟨y,hI,hμ,hv,hh,hn⟩
theorem aloop (hm:P.follows .mixedOrders=true) {X:Type} (slots:List Nat) (vals:X→List Value) (hp:X→Hp) (I:X→Prop) (μ:X→Nat) {c:Code} {Q:Post} {tm:List Value} {h:Hp} (x0:X) (h0:I x0) (hv0:vals x0=pickF slots tm) (hp0:hp x0=h)
    (round:∀ x,I x→awp P c (seqQ (ANext tm.length slots vals hp I μ x) Q) (mkF tm.length 0 slots (vals x)) (hp x)):ALoop P c Q tm h:=by
  intro B w0 φ a w R
  subst hp0
  have R0:=R.pick slots
  rw [← hv0] at R0
  refine wp_loop_ghost (fun n a' w'=>∃ x φ',μ x=n∧φ <+: φ'∧I x∧RelSt P B w0 φ' (mkF tm.length 0 slots (vals x)) (hp x) a' w') (μ x0) ⟨x0,φ,rfl,List.prefix_refl _,h0,R0⟩ ?_
  rintro n a1 w1 ⟨x,φ1,rfl,p1,hx,R1⟩
  refine wp_mono (awp_sound hm c (round x hx) B w0 φ1 a1 w1 R1) ?_
  rintro e a2 w2 ⟨φ2,tm2,h2,p2,R2,q⟩
  cases e with
  | normal =>
    obtain ⟨y,hy,hlt,f1,f2,f3⟩:=q
    refine ⟨μ y,hlt,y,φ2,rfl,p1.trans p2,hy,?_⟩
    have R3:=R2.pick slots
    rw [f1,f2,← f3]
    exact R3
  | _=>exact ⟨φ2,tm2,h2,p1.trans p2,R2,q⟩
def aresult (P:Program) (tm:List Value) (h:Hp):ResultVar→Option Value
  | .tmp t=>some ((tm[t]?).getD undef)
  | .cell a t=>lev P h (ev tm) (.load t (.tmp a))
def notTuple:Value→Bool
  | .tuple _=>false
  | _=>true
def aresults (P:Program) (rs:List ResultVar) (tm:List Value) (h:Hp):Option Value :=
  match rs with
  | [r]=>aresult P tm h r
  | rs=>(rs.mapM (aresult P tm h)).bind fun vs=>if vs.all notTuple then some (.tuple vs.toArray) else none
def retQ (P:Program) (rs:List ResultVar) (R:Value→Hp→Prop):Post
  | .normal,tm,h | .ret,tm,h=>∃ v,aresults P rs tm h=some v∧R v h
  | _,_,_=>False
def resOne (tmps:Array Value):ResultVar→Sem Value
  | .tmp t=>pure (tmps.getD t undef)
  | .cell x t=>do loadVar t (← asAddr (tmps.getD x undef))
theorem results_eq (fn:Func) (tmps:Array Value):results fn tmps=(do let vs ← fn.results.mapM (resOne tmps); pure (if h:vs.size=1 then vs[0] else .tuple vs)):=rfl
theorem aresult_sound {B:Bd} {w0 w:World} {φ:Inj} {a:Act} (R:RelSt P B w0 φ tm h a w) {r:ResultVar} {v:Value} (e:aresult P tm h r=some v) :
    ∃ v',(resOne a.tmps r).run P w=.ok v' w∧RelV φ v v':=by
  cases r with
  | tmp t =>
    injection e with e; subst e
    exact ⟨_,rfl,R.ev (.tmp t)⟩
  | cell x t =>
    obtain ⟨v',h1,h2⟩:=lev_sound R.hp (fun z=>R.ev z) (o:={ dst:=none,op:=.load t (.tmp x),type:=0,pos:="",after:=#[],guard:=none }) e
    refine ⟨v',?_,h2⟩
    have hx:=R.ev (.tmp x)
    simp only [aresult,lev] at e
    split at e
    · rename_i ad hq
      rw [hq] at hx
      obtain ⟨p,hp,hs,hx'⟩:=hx
      have hx2:a.tmps.getD x undef=.pointer (some ⟨p.block,p.off+ad.off,none⟩):=hx'
      simp only [execOp,Instr.loadAt,Act.eval,hx2,Instr.sureAddr,Sem.run_bind,Sem.run_pure,Result.andThen_ok] at h1
      simp only [resOne,hx2,asAddr,Sem.run_bind,Sem.run_pure,Result.andThen_ok]
      cases hr:(loadVar t ⟨p.block,p.off+ad.off,none⟩).run P w with
      | ok u w2=>rw [hr] at h1; simp at h1; obtain ⟨rfl,rfl⟩:=h1; rfl
      | halt x w2=>rw [hr] at h1; simp at h1
    · cases e
theorem mapM_results {B:Bd} {w0 w:World} {φ:Inj} {a:Act} (R:RelSt P B w0 φ tm h a w):∀ (rs:List ResultVar) (vs:List Value),rs.mapM (aresult P tm h)=some vs →
    ∃ vs',(rs.mapM (resOne a.tmps)).run P w=.ok vs' w∧All2 (RelV φ) vs vs'
  | [],vs,e=>by simp at e; subst e; exact ⟨[],rfl,trivial⟩
  | r :: rs,vs,e=>by
    simp only [List.mapM_cons,Option.bind_eq_bind,Option.bind_eq_some_iff,Option.pure_def,Option.some.injEq] at e
    obtain ⟨v,hv,us,hus,rfl⟩:=e
    obtain ⟨v',h1,h2⟩:=aresult_sound R hv
    obtain ⟨us',k1,k2⟩:=mapM_results R rs us hus
    refine ⟨v' :: us',?_,h2,k2⟩
    simp only [List.mapM_cons,Sem.run_bind,h1,Result.andThen_ok,k1,Sem.run_pure]
theorem relV1_not {φ:Inj} {v v':Value} (h:RelV φ v v') (k:notTuple v=true):RelV1 φ v v':=by
  unfold RelV at h
  split at h
  · simp [notTuple] at k
  · exact h
theorem aresults_sound {B:Bd} {w0 w:World} {φ:Inj} {a:Act} (R:RelSt P B w0 φ tm h a w) {fn:Func} {v:Value} (e:aresults P fn.results.toList tm h=some v):∃ v',(results fn a.tmps).run P w=.ok v' w∧RelV φ v v':=by
  rw [results_eq,Array.mapM_eq_mapM_toList]
  unfold aresults at e
  split at e
  · rename_i r hr
    rw [hr]
    obtain ⟨v',h1,h2⟩:=aresult_sound R e
    refine ⟨v',?_,h2⟩
    obtain ⟨us,k1,k2⟩:=mapM_results R [r] [v] (by simp [e])
    simp only [Sem.run_bind,Sem.run_map,k1,Result.andThen_ok]
    have:us=[v']:=by
      simp only [List.mapM_cons,List.mapM_nil,Sem.run_bind,h1,Result.andThen_ok,Sem.run_pure] at k1
      injection k1 with k1
      exact k1.symm
    subst this
    simp
  · rename_i hne
    simp only [Option.bind_eq_some_iff] at e
    obtain ⟨vs,hvs,e⟩:=e
    split at e
    · rename_i hnt
      injection e with e
      subst e
      obtain ⟨us,k1,k2⟩:=mapM_results R _ _ hvs
      simp only [Sem.run_bind,Sem.run_map,k1,Result.andThen_ok]
      have hlen:us.length≠1:=by
        intro hl
        have h1:=k2.length
        have h2:vs.length=fn.results.toList.length:=by
          have:∀ (rs:List ResultVar) (vs:List Value),rs.mapM (aresult P tm h)=some vs→vs.length=rs.length:=by
            intro rs
            induction rs with
            | nil=>intro vs hv; simp at hv; subst hv; rfl
            | cons r rs ih =>
              intro vs hv
              simp only [List.mapM_cons,Option.bind_eq_bind,Option.bind_eq_some_iff,Option.pure_def,Option.some.injEq] at hv
              obtain ⟨v,_,us,hus,rfl⟩:=hv
              simp [ih us hus]
          exact this _ _ hvs
        have h3:fn.results.toList.length=1:=by omega
        cases hl:fn.results.toList with
        | nil=>rw [hl] at h3; cases h3
        | cons r rs =>
          rw [hl] at h3
          have:rs=[]:=List.eq_nil_of_length_eq_zero (by simpa using h3)
          subst this
          exact hne r hl
      rw [dif_neg (by simpa using hlen)]
      refine ⟨.tuple us.toArray,rfl,us.toArray,rfl,?_⟩
      have:∀ {vs us:List Value},vs.all notTuple=true→All2 (RelV φ) vs us→All2 (RelV1 φ) vs us:=by
        intro vs
        induction vs with
        | nil=>intro us _ hh; cases us with
          | nil=>trivial
          | cons _ _=>exact hh.elim
        | cons v vs ih=>intro us hn hh; cases us with
          | nil=>exact hh.elim
          | cons u us =>
            simp only [List.all_cons,Bool.and_eq_true] at hn
            exact ⟨relV1_not hh.1 hn.1,ih hn.2 hh.2⟩
      simpa using this hnt k2
    · cases e
theorem acall (hm:P.follows .mixedOrders=true) {f:FuncId} {fn:Func} {c:Code} {args:List Value} {h:Hp} {R:Value→Hp→Prop} (hf:P.funcs[f]?=some fn) (hb:fn.body=some c) (hn:(fn.name == "runtime.NumGoroutine")=false)
    (k:awp P c (retQ P fn.results.toList R) (args++List.replicate (fn.ntmps - args.length) undef) h):ACall P f args h R:=by
  intro B w0 φ w args' hrel hargs
  have hl:=hargs.length
  unfold CallsV
  have hen:(callFunc f args'.toArray).run P w=.ok (.enter f args'.toArray) w:=by
    unfold callFunc
    simp only [Sem.run_bind,run_program,Result.andThen_ok,hf]
    simp [hn,hb]
  rw [hen]
  refine calls_of_wp hf hb ?_
  have R0:RelSt P B w0 φ (args++List.replicate (fn.ntmps - args.length) undef) h ⟨args'.toArray++Array.replicate (fn.ntmps - args'.toArray.size) undef,[]⟩ w:=by
    refine ⟨?_,rfl,hrel⟩
    rw [Array.toList_append,Array.toList_replicate]
    refine hargs.append ?_
    simp only [List.size_toArray,← hl]
    exact All2.refl fun v hv=>by rw [List.eq_of_mem_replicate hv]; exact relV_undef φ
  refine wp_mono (awp_sound hm c k B w0 φ _ w R0) ?_
  rintro e a' w' ⟨φ',tm',h',p1,R',q⟩
  have fin:(∃ v,aresults P fn.results.toList tm' h'=some v∧R v h')→a'.defers=[]∧∃ v',(results fn a'.tmps).run P w'=.ok v' w'∧∃ v'',(Ending.returned v'=.returned v'')∧∃ φ' v h',φ <+: φ'∧Rel P B w0 φ' h' w'∧RelV φ' v v''∧R v h':=by
    rintro ⟨v,hv,hr⟩
    obtain ⟨v',h1,h2⟩:=aresults_sound R' hv
    exact ⟨R'.df,v',h1,v',rfl,φ',v,h',p1,R'.hp,h2,hr⟩
  cases e with
  | normal=>exact fin q
  | ret=>exact fin q
  | _=>exact q.elim
end
abbrev Cont:=List Value→Hp→Prop
def aval (o:Option Value) (d:Option Tmp) (tm:List Value) (h:Hp) (K:Cont):Prop:=∃ v,o=some v∧K (put tm d v) h
def aeff (o:Option (Value × Hp)) (d:Option Tmp) (tm:List Value) (K:Cont):Prop:=∃ v h',o=some (v,h')∧K (put tm d v) h'
def acallK (P:Program) (wk:Bool) (f:FuncId) (args:List Value) (d:Option Tmp) (tm:List Value) (h:Hp) (K:Cont):Prop:=ACall P f args h fun v h'=>(wk=true→Ext h h')∧K (put tm d v) h'
def acallV (P:Program) (wk:Bool) (f:Value) (args:List Value) (d:Option Tmp) (tm:List Value) (h:Hp) (K:Cont):Prop :=
  match f with
  | .func (.func g) first cap=>first=#[]∧acallK P wk g (args++cap.toList) d tm h K
  | _=>False
def asplitK (b:Bool) (tm:List Value) (h:Hp) (A B:Cont):Prop:=(b=true→A tm h)∧(b=false→B tm h)
def aguard (s:Option Value) (want:Bool) (tm:List Value) (h:Hp) (A B:Cont):Prop :=
  match s with
  | some (.bool b)=>asplitK (b == want) tm h A B
  | some (.tuple vs)=>if vs=#[] then B tm h else False
  | _=>False
def acondK (v:Value) (tm:List Value) (h:Hp) (A B:Cont):Prop :=
  match v with
  | .bool b=>asplitK b tm h A B
  | _=>False
def aret (o:Option Value) (R:Value→Hp→Prop) (h:Hp):Prop:=∃ v,o=some v∧R v h
section
variable {P:Program}
theorem aSI {b:Bool} {tm:List Value} {h:Hp} {A B:Cont} (k1:b=true→A tm h) (k2:b=false→B tm h):asplitK b tm h A B:=⟨k1,k2⟩
theorem callK {wk:Bool} {f:FuncId} {args:List Value} {d:Option Tmp} {tm:List Value} {h:Hp} {K:Cont} {R:Value→Hp→Prop} (c:ACall P f args h R) (k:∀ v h',R v h'→(wk=true→Ext h h')∧K (put tm d v) h'):acallK P wk f args d tm h K:=c.mono k
theorem cK {f:FuncId} {args:List Value} {d:Option Tmp} {tm:List Value} {h:Hp} {K:Cont} {R:Value→Hp→Prop} (c:ACall P f args h R) (k:∀ v h',R v h'→K (put tm d v) h'):acallK P false f args d tm h K:=c.mono fun v h' r=>⟨fun e=>(by cases e),k v h' r⟩
theorem drawK {ops:Array Oper} {tm:List Value} {h:Hp} {K:Cont} (wk:Bool) (hok:(edgesOK ops && regOK P ops (fun _=>wk))=true) (k:aopsL P ops wk ops.toList tm h K):ADraw P ops tm h K:=.inl ⟨wk,hok,k⟩
theorem drawS2 {ops:Array Oper} {tm:List Value} {h:Hp} {K:Cont} (wk wk2:Bool) (s:Nat) (r1 r2:List Nat) {os:Oper} {l1 l2:List Oper} (hos:ops[s]?=some os) (e1:r1.filterMap (ops[·]?)=l1) (e2:r2.filterMap (ops[·]?)=l2) (hok:(edgesOK ops && lateOK P ops (fun i=>if r2.contains i then wk2 else wk) s r1 r2)=true) (k:aopsL P ops wk l1 tm h fun tm h=>astepS P os tm h fun tm h=>aopsL P ops wk2 l2 tm h K):ADraw P ops tm h K:=.inr (.inl ⟨wk,wk2,s,os,r1,r2,l1,l2,hos,e1,e2,hok,k⟩)
theorem drawF {ops:Array Oper} {tm:List Value} {h:Hp} {K:Cont} (wk:Bool) (r0 f:List Nat) (F:List (List Nat)) (r2:List Nat) {l0 l2:List Oper} {lF:List (List Oper)} (e0:r0.filterMap (ops[·]?)=l0) (eF:(f :: F).map (fun g=>g.filterMap (ops[·]?))=lF) (e2:r2.filterMap (ops[·]?)=l2) (hok:(edgesOK ops && famOK P ops (fun _=>wk) r0 f (f :: F) r2)=true) (k:aopsL P ops wk l0 tm h fun tm h=>famAll P ops wk lF tm h fun tm h=>aopsL P ops wk l2 tm h K):ADraw P ops tm h K:=.inr (.inr (.inl ⟨wk,r0,f,F,r2,l0,lF,l2,e0,eF,e2,hok,k⟩))
theorem drawL {ops:Array Oper} {tm:List Value} {h:Hp} {K:Cont} (wk:Bool) (r1 fl r2:List Nat) (V:Nat→Value) {l1 l2:List Oper} {lf:List (Oper × Value)} (e1:r1.filterMap (ops[·]?)=l1) (ef:(fl.filterMap fun x=>(ops[x]?).map fun o=>(o,V x))=lf) (e2:r2.filterMap (ops[·]?)=l2) (hok:(edgesOK ops && floatOK P ops (fun _=>wk) r1 fl r2)=true) (k:aopsVL P ops wk lf l1 tm h fun tm h=>aopsL P ops wk l2 (putL lf tm) h K):ADraw P ops tm h K:=.inr (.inr (.inr (.inl ⟨wk,r1,fl,r2,V,l1,lf,l2,e1,ef,e2,hok,k⟩)))
theorem aop_det {wk:Bool} {o:Oper} {tm:List Value} {h:Hp} {G:Cont} (hp:plainB o=true) (k:aop P wk o tm h G):∃ tm1 h1,(∀ X:Cont,X tm1 h1→aop P wk o tm h X)∧G tm1 h1:=by
  unfold aop at k ⊢
  unfold plainB at hp
  split at hp
  · cases hp
  · rename_i hno
    split at k
    · rename_i f args ts e
      exact absurd e (hno _ _ _)
    · rename_i op hno2
      cases hk:kdOf P o.op with
      | pure | load =>
        simp only [hk] at k ⊢
        obtain ⟨v,e,q⟩:=k
        exact ⟨_,_,fun X hx=>⟨v,e,hx⟩,q⟩
      | call =>
        simp only [hk] at k
      | weak | strong =>
        simp only [hk] at k ⊢
        obtain ⟨v,h',e,q⟩:=k
        exact ⟨_,_,fun X hx=>⟨v,h',e,hx⟩,q⟩
theorem astep_det {ops:Array Oper} {wk:Bool} {o:Oper} {tm:List Value} {h:Hp} {G:Cont} (hp:plainB o=true) (k:astep P ops wk o tm h G):∃ tm1 h1,(∀ X:Cont,X tm1 h1→astep P ops wk o tm h X)∧G tm1 h1:=by
  unfold astep at k ⊢
  cases hg:o.guard with
  | none =>
    simp only [hg] at k ⊢
    exact aop_det hp k
  | some g =>
    obtain ⟨j,want⟩:=g
    simp only [hg] at k ⊢
    cases hs:gslot ops tm j with
    | none=>simp only [hs] at k
    | some s =>
      cases s with
      | bool b =>
        simp only [hs,asplit] at k ⊢
        rcases Bool.eq_false_or_eq_true (b == want) with hb | hb
        · obtain ⟨tm1,h1,q1,q2⟩:=aop_det hp (k.1 hb)
          exact ⟨tm1,h1,fun X hx=>⟨fun _=>q1 X hx,fun e=>absurd (hb.symm.trans e) (by decide)⟩,q2⟩
        · exact ⟨_,_,fun X hx=>⟨fun e=>absurd (hb.symm.trans e) (by decide),fun _=>hx⟩,k.2 hb⟩
      | tuple vs =>
        simp only [hs] at k ⊢
        by_cases hv:vs=#[]
        · simp only [hv,if_true] at k ⊢
          exact ⟨_,_,fun X hx=>hx,k⟩
        · simp only [hv,if_false] at k
      | _=>simp only [hs] at k
theorem aopsL_det {ops:Array Oper} {wk:Bool} {G:Cont}:∀ (os:List Oper) (tm:List Value) (h:Hp),os.all plainB=true→aopsL P ops wk os tm h G→∃ tm1 h1,(∀ X:Cont,X tm1 h1→aopsL P ops wk os tm h X)∧G tm1 h1
  | [],tm,h,_,k=>⟨tm,h,fun X hx=>hx,k⟩
  | o :: os,tm,h,hp,k=>by
    simp only [List.all_cons,Bool.and_eq_true] at hp
    unfold aopsL at k
    obtain ⟨tm1,h1,q1,q2⟩:=astep_det hp.1 k
    obtain ⟨tm2,h2,q3,q4⟩:=aopsL_det os tm1 h1 hp.2 q2
    exact ⟨tm2,h2,fun X hx=>by unfold aopsL; exact q1 _ (q3 X hx),q4⟩
theorem aopsL_mono {ops:Array Oper} {wk:Bool} {G G':Cont} (hk:∀ tm h,G tm h→G' tm h):∀ (os:List Oper) (tm:List Value) (h:Hp),aopsL P ops wk os tm h G→aopsL P ops wk os tm h G'
  | [],tm,h,k=>hk _ _ k
  | o :: os,tm,h,k=>by
    unfold aopsL at k ⊢
    exact astep_out (fun v h' _ hh=>aopsL_mono hk os _ _ hh) k
theorem famAll_mono {ops:Array Oper} {wk:Bool} {G G':Cont} (hk:∀ tm h,G tm h→G' tm h):∀ (F:List (List Oper)) (tm:List Value) (h:Hp),famAll P ops wk F tm h G→famAll P ops wk F tm h G'
  | [],tm,h,k=>trivial
  | g :: F,tm,h,k=>⟨aopsL_mono hk g tm h k.1,famAll_mono hk F tm h k.2⟩
theorem drawE {ops:Array Oper} {tm:List Value} {h:Hp} {K:Cont} (wk:Bool) (r0 f:List Nat) (F:List (List Nat)) (r2:List Nat) {l0 lf l2:List Oper} {lF:List (List Oper)} (e0:r0.filterMap (ops[·]?)=l0) (ef:f.filterMap (ops[·]?)=lf) (eF:F.map (fun g=>g.filterMap (ops[·]?))=lF) (e2:r2.filterMap (ops[·]?)=l2) (hok:(edgesOK ops && famOK P ops (fun _=>wk) r0 f (f :: F) r2)=true) (hpl:lf.all plainB=true)
    (k:aopsL P ops wk l0 tm h fun tm h=>aopsL P ops wk lf tm h fun tm1 h1=>famAll P ops wk lF tm h (fun tm h=>tm=tm1∧h=h1)∧aopsL P ops wk l2 tm1 h1 K):ADraw P ops tm h K:=by
  refine drawF wk r0 f F r2 e0 (by rw [List.map_cons,ef,eF]) e2 hok (aopsL_mono (fun tm h kk=>?_) l0 tm h k)
  obtain ⟨tm1,h1,q1,q2,q3⟩:=aopsL_det lf tm h hpl kk
  refine ⟨q1 _ q3,famAll_mono ?_ lF tm h q2⟩
  rintro _ _ ⟨rfl,rfl⟩
  exact q3
theorem famAll_nil {ops:Array Oper} {wk:Bool} (v:Value) (tm:List Value) (h:Hp) (K:Cont):famAll P ops wk [] (v :: tm) h K=True:=rfl
theorem famAll_cons {ops:Array Oper} {wk:Bool} (g:List Oper) (F:List (List Oper)) (v:Value) (tm:List Value) (h:Hp) (K:Cont):famAll P ops wk (g :: F) (v :: tm) h K=(aopsL P ops wk g (v :: tm) h K∧famAll P ops wk F (v :: tm) h K):=rfl
theorem aopsVL_nil {ops:Array Oper} {wk:Bool} {fl:List (Oper × Value)} (u:Value) (tm:List Value) (h:Hp) (K:Cont):aopsVL P ops wk fl [] (u :: tm) h K=(flL P ops fl (u :: tm) h∧K (u :: tm) h):=rfl
theorem aopsVL_none {ops:Array Oper} {wk:Bool} {fl:List (Oper × Value)} (u:Value) (d:Option Tmp) (op:Op) (ty:TypeId) (pos:String) (af:Array Edge) (os:List Oper) (tm:List Value) (h:Hp) (K:Cont):aopsVL P ops wk fl (⟨d,op,ty,pos,af,none⟩ :: os) (u :: tm) h K=(flL P ops fl (u :: tm) h∧aop P wk ⟨d,op,ty,pos,af,none⟩ (u :: tm) h fun tm h=>aopsVL P ops wk fl os tm h K):=rfl
theorem flL_nil {ops:Array Oper} (u:Value) (tm:List Value) (h:Hp):flL P ops [] (u :: tm) h=True:=rfl
theorem flL_load {ops:Array Oper} (u v:Value) (d:Option Tmp) (op:Op) (ty:TypeId) (pos:String) (af:Array Edge) (r:List (Oper × Value)) (tm:List Value) (h:Hp) (hk:kdOf P op=.load):flL P ops ((⟨d,op,ty,pos,af,none⟩,v) :: r) (u :: tm) h=(lev P h (ev (u :: tm)) op=some v∧flL P ops r (put (u :: tm) d v) h):=by
  simp only [flL,val,raw,hk]
theorem flL_pure {ops:Array Oper} (u v:Value) (d:Option Tmp) (op:Op) (ty:TypeId) (pos:String) (af:Array Edge) (r:List (Oper × Value)) (tm:List Value) (h:Hp) (hk:kdOf P op=.pure):flL P ops ((⟨d,op,ty,pos,af,none⟩,v) :: r) (u :: tm) h=(qev P (ev (u :: tm)) op=some v∧flL P ops r (put (u :: tm) d v) h):=by
  simp only [flL,val,raw,hk]
def slotV (tm:List Value) (d:Option Tmp):Value:=match d with | some t=>(tm[t]?).getD undef | none=>undef
theorem slotV_some (tm:List Value) (t:Nat):slotV tm (some t)=(tm[t]?).getD undef:=rfl
theorem float_map {ops:Array Oper} (tm1:List Value):∀ (fl:List Nat),(fl.filterMap fun x=>(ops[x]?).map fun o=>(o,(match ops[x]? with | some o=>slotV tm1 o.dst | none=>undef:Value)))=(fl.filterMap (ops[·]?)).map fun o=>(o,slotV tm1 o.dst)
  | []=>rfl
  | x :: fl=>by
    cases hx:ops[x]? with
    | none=>simp only [List.filterMap_cons,hx,Option.map_none]; exact float_map tm1 fl
    | some o=>simp only [List.filterMap_cons,hx,Option.map_some,List.map_cons]; rw [float_map tm1 fl]
theorem drawLA {ops:Array Oper} {tm:List Value} {h:Hp} {K:Cont} (wk:Bool) (r1 fl r2:List Nat) {l1 l2 lf:List Oper} (e1:r1.filterMap (ops[·]?)=l1) (ef:fl.filterMap (ops[·]?)=lf) (e2:r2.filterMap (ops[·]?)=l2) (hok:(edgesOK ops && floatOK P ops (fun _=>wk) r1 fl r2)=true) (hpl:lf.all plainB=true)
    (k:aopsL P ops wk lf tm h fun tm1 _=>aopsVL P ops wk (lf.map fun o=>(o,slotV tm1 o.dst)) l1 tm h fun tm h=>aopsL P ops wk l2 (putL (lf.map fun o=>(o,slotV tm1 o.dst)) tm) h K):ADraw P ops tm h K:=by
  obtain ⟨tm1,h1,_,q⟩:=aopsL_det lf tm h hpl k
  subst ef
  exact drawL wk r1 fl r2 _ e1 (float_map tm1 fl) e2 hok q
section
variable {ops:Array Oper} (u v:Value) (d:Option Tmp) (ty:TypeId) (pos:String) (af:Array Edge) (r:List (Oper × Value)) (tm:List Value) (h:Hp)
theorem flL_ld (t:TypeId) (x:Operand):flL P ops ((⟨d,.load t x,ty,pos,af,none⟩,v) :: r) (u :: tm) h=(lev P h (ev (u :: tm)) (.load t x)=some v∧flL P ops r (put (u :: tm) d v) h):=flL_load _ _ _ _ _ _ _ _ _ _ rfl
theorem flL_fieldAddr (t:TypeId) (x:Operand) (f:Nat):flL P ops ((⟨d,.fieldAddr t x f,ty,pos,af,none⟩,v) :: r) (u :: tm) h=(qev P (ev (u :: tm)) (.fieldAddr t x f)=some v∧flL P ops r (put (u :: tm) d v) h):=flL_pure _ _ _ _ _ _ _ _ _ _ rfl
theorem flL_indexAddr (t:TypeId) (x i:Operand):flL P ops ((⟨d,.indexAddr t x i,ty,pos,af,none⟩,v) :: r) (u :: tm) h=(aidx P t (ev (u :: tm) x) (ev (u :: tm) i)=some v∧flL P ops r (put (u :: tm) d v) h):=flL_pure _ _ _ _ _ _ _ _ _ _ rfl
theorem flL_move (x:Operand):flL P ops ((⟨d,.move x,ty,pos,af,none⟩,v) :: r) (u :: tm) h=(ev (u :: tm) x=v∧flL P ops r (put (u :: tm) d v) h):=by
  rw [flL_pure _ _ _ _ _ _ _ _ _ _ rfl]; simp [qev]
theorem flL_len (x:Operand) (t:TypeId):flL P ops ((⟨d,.call ⟨.builtin .len,#[x],#[t]⟩,ty,pos,af,none⟩,v) :: r) (u :: tm) h=(alen P t (ev (u :: tm) x)=some v∧flL P ops r (put (u :: tm) d v) h):=flL_pure _ _ _ _ _ _ _ _ _ _ rfl
theorem flL_bin (b:BinOp) (t:TypeId) (x y:Operand) (t2:TypeId):flL P ops ((⟨d,.binOp b t x y t2,ty,pos,af,none⟩,v) :: r) (u :: tm) h=(abin P b t (ev (u :: tm) x) (ev (u :: tm) y)=some v∧flL P ops r (put (u :: tm) d v) h):=flL_pure _ _ _ _ _ _ _ _ _ _ rfl
end
attribute [simp] flL_ld flL_fieldAddr flL_indexAddr flL_move flL_len flL_bin
theorem putL_nil (u:Value) (tm:List Value):putL [] (u :: tm)=u :: tm:=rfl
theorem putL_cons (u v:Value) (o:Oper) (r:List (Oper × Value)) (tm:List Value):putL ((o,v) :: r) (u :: tm)=putL r (put (u :: tm) o.dst v):=rfl
attribute [simp] famAll_nil famAll_cons aopsVL_nil aopsVL_none flL_nil putL_nil putL_cons slotV_some
theorem drawS {ops:Array Oper} {tm:List Value} {h:Hp} {K:Cont} (wk:Bool) (s:Nat) (r1 r2:List Nat) {os:Oper} {l1 l2:List Oper} (hos:ops[s]?=some os) (e1:r1.filterMap (ops[·]?)=l1) (e2:r2.filterMap (ops[·]?)=l2) (hok:(edgesOK ops && lateOK P ops (fun i=>if r2.contains i then wk else wk) s r1 r2)=true) (k:aopsL P ops wk l1 tm h fun tm h=>astepS P os tm h fun tm h=>aopsL P ops wk l2 tm h K):ADraw P ops tm h K:=drawS2 wk wk s r1 r2 hos e1 e2 hok k
theorem astepS_alloc (d:Nat) (t ty:TypeId) (pos:String) (af:Array Edge) (u:Value) (tm:List Value) (h:Hp) (K:Cont):astepS P ⟨some d,.alloc t,ty,pos,af,none⟩ (u :: tm) h K=(d<(u :: tm).length∧aeff (eev P h (ev (u :: tm)) (.alloc t)) (some d) (u :: tm) K):=by
  apply propext
  constructor
  · rintro ⟨_,_,⟨d',hd,hl⟩,v,ob,e,_,k⟩
    injection hd with hd; subst hd
    exact ⟨hl,v,_,e,k⟩
  · rintro ⟨hl,v,h',e,k⟩
    have e0:=e
    simp only [eev,Option.bind_eq_some_iff] at e
    obtain ⟨z,hz,e⟩:=e
    split at e
    · rename_i hs
      simp only [Option.map_eq_some_iff,Prod.mk.injEq] at e
      obtain ⟨_,_,rfl,rfl⟩:=e
      exact ⟨rfl,rfl,⟨d,rfl,hl⟩,_,_,e0,hs,k⟩
    · cases e
theorem astepS_lit (d:Nat) (t ty:TypeId) (n:Nat) (ps:Array (Nat × Operand)) (pos:String) (af:Array Edge) (u:Value) (tm:List Value) (h:Hp) (K:Cont):astepS P ⟨some d,.buildSlice t n ps,ty,pos,af,none⟩ (u :: tm) h K=(d<(u :: tm).length∧aeff (eev P h (ev (u :: tm)) (.buildSlice t n ps)) (some d) (u :: tm) fun tm' h'=>(∃ ob,h'=h++[ob]∧ob.cells.all scal=true)∧K tm' h'):=by
  apply propext
  constructor
  · rintro ⟨_,_,⟨d',hd,hl⟩,v,ob,e,hs,k⟩
    injection hd with hd; subst hd
    exact ⟨hl,v,_,e,⟨ob,rfl,hs⟩,k⟩
  · rintro ⟨hl,v,h',e,⟨ob,rfl,hs⟩,k⟩
    exact ⟨rfl,rfl,⟨d,rfl,hl⟩,v,ob,e,hs,k⟩
attribute [simp] astepS_alloc astepS_lit
theorem aval_some (v:Value) (d:Option Tmp) (tm:List Value) (h:Hp) (K:Cont):aval (some v) d tm h K=K (put tm d v) h:=by simp [aval]
theorem aval_ite (c:Prop) [Decidable c] (x:Option Value) (d:Option Tmp) (tm:List Value) (h:Hp) (K:Cont):aval (if c then x else none) d tm h K=(c∧aval x d tm h K):=by
  by_cases h:c <;> simp [h,aval]
theorem aval_ite2 (c:Prop) [Decidable c] (x:Option Value) (d:Option Tmp) (tm:List Value) (h:Hp) (K:Cont):aval (if c then none else x) d tm h K=(¬ c∧aval x d tm h K):=by
  by_cases h:c <;> simp [h,aval]
theorem aeff_some (v:Value) (d:Option Tmp) (tm:List Value) (h:Hp) (K:Cont):aeff (some (v,h)) d tm K=K (put tm d v) h:=propext ⟨fun ⟨_,_,e,k⟩=>by injection e with e; injection e with e1 e2; subst e1; subst e2; exact k,fun k=>⟨_,_,rfl,k⟩⟩
theorem aeff_ite (c:Prop) [Decidable c] (x:Option (Value × Hp)) (d:Option Tmp) (tm:List Value) (K:Cont):aeff (if c then x else none) d tm K=(c∧aeff x d tm K):=by
  by_cases h:c <;> simp [h,aeff]
theorem asplitK_true (tm:List Value) (h:Hp) (A B:Cont):asplitK true tm h A B=A tm h:=by simp [asplitK]
theorem asplitK_false (tm:List Value) (h:Hp) (A B:Cont):asplitK false tm h A B=B tm h:=by simp [asplitK]
theorem aguard_bool (b want:Bool) (tm:List Value) (h:Hp) (A B:Cont):aguard (some (.bool b)) want tm h A B=asplitK (b == want) tm h A B:=rfl
theorem aguard_skip (want:Bool) (tm:List Value) (h:Hp) (A B:Cont):aguard (some undef) want tm h A B=B tm h:=by simp [aguard,undef]
theorem acondK_bool (b:Bool) (tm:List Value) (h:Hp) (A B:Cont):acondK (.bool b) tm h A B=asplitK b tm h A B:=rfl
theorem asplitK_eqt (b:Bool) (tm:List Value) (h:Hp) (A B:Cont):asplitK (b == true) tm h A B=asplitK b tm h A B:=by simp
theorem asplitK_eqf (b:Bool) (tm:List Value) (h:Hp) (A B:Cont):asplitK (b == false) tm h A B=asplitK b tm h B A:=by cases b <;> simp [asplitK]
theorem asplitK_not (b:Bool) (tm:List Value) (h:Hp) (A B:Cont):asplitK (!b) tm h A B=asplitK b tm h B A:=by cases b <;> simp [asplitK]
theorem seqQ_normal (next:Cont) (Q:Post) (tm:List Value) (h:Hp):seqQ next Q .normal tm h=next tm h:=rfl
theorem seqQ_exit (next:Cont) (Q:Post) (i:Nat) (tm:List Value) (h:Hp):seqQ next Q (.exit i) tm h=Q (.exit i) tm h:=rfl
theorem seqQ_ret (next:Cont) (Q:Post) (tm:List Value) (h:Hp):seqQ next Q .ret tm h=Q .ret tm h:=rfl
theorem blockQ_normal (id:Nat) (Q:Post) (tm:List Value) (h:Hp):blockQ id Q .normal tm h=Q .normal tm h:=rfl
theorem blockQ_exit (id:Nat) (Q:Post) (tm:List Value) (h:Hp):blockQ id Q (.exit id) tm h=Q .normal tm h:=by simp [blockQ]
theorem blockQ_exit' (id i:Nat) (Q:Post) (tm:List Value) (h:Hp) (hne:(i == id)=false):blockQ id Q (.exit i) tm h=Q (.exit i) tm h:=by simp at hne; simp [blockQ,hne]
theorem blockQ_ret (id:Nat) (Q:Post) (tm:List Value) (h:Hp):blockQ id Q .ret tm h=Q .ret tm h:=rfl
theorem retQ_ret (rs:List ResultVar) (R:Value→Hp→Prop) (tm:List Value) (h:Hp):retQ P rs R .ret tm h=aret (aresults P rs tm h) R h:=rfl
theorem retQ_normal (rs:List ResultVar) (R:Value→Hp→Prop) (tm:List Value) (h:Hp):retQ P rs R .normal tm h=aret (aresults P rs tm h) R h:=rfl
theorem aret_some (v:Value) (R:Value→Hp→Prop) (h:Hp):aret (some v) R h=R v h:=by simp [aret]
theorem ares_one (t:Tmp) (tm:List Value) (h:Hp):aresults P [.tmp t] tm h=some ((tm[t]?).getD undef):=rfl
theorem ares_nil (tm:List Value) (h:Hp):aresults P [] tm h=some (.tuple #[]):=rfl
theorem ares_two (s t:Tmp) (tm:List Value) (h:Hp):aresults P [.tmp s,.tmp t] tm h=if (notTuple ((tm[s]?).getD undef) && notTuple ((tm[t]?).getD undef))=true then some (.tuple #[(tm[s]?).getD undef,(tm[t]?).getD undef]) else none:=by
  simp [aresults,aresult]
theorem ares_three (s t u:Tmp) (tm:List Value) (h:Hp):aresults P [.tmp s,.tmp t,.tmp u] tm h=if (notTuple ((tm[s]?).getD undef) && (notTuple ((tm[t]?).getD undef) && notTuple ((tm[u]?).getD undef)))=true then some (.tuple #[(tm[s]?).getD undef,(tm[t]?).getD undef,(tm[u]?).getD undef]) else none:=by
  simp [aresults,aresult]
theorem aret_ite (c:Prop) [Decidable c] (x:Option Value) (R:Value→Hp→Prop) (h:Hp):aret (if c then x else none) R h=(c∧aret x R h):=by
  by_cases h:c <;> simp [h,aret]
section
variable (v:Value) (tm:List Value) (h:Hp) (Q:Post)
theorem awp_skip:awp P .skip Q (v :: tm) h=Q .normal (v :: tm) h:=rfl
theorem awp_region (id:Nat) (ops:Array Oper):awp P (.region id ops false) Q (v :: tm) h=aopsL P ops false ops.toList (v :: tm) h (fun tm h=>Q .normal tm h):=rfl
theorem awp_draw (id:Nat) (ops:Array Oper):awp P (.region id ops true) Q (v :: tm) h=ADraw P ops (v :: tm) h (fun tm h=>Q .normal tm h):=rfl
theorem awp_seq (x y:Code):awp P (.seq x y) Q (v :: tm) h=awp P x (seqQ (fun tm h=>awp P y Q tm h) Q) (v :: tm) h:=rfl
theorem awp_cond (c:Operand) (x y:Code):awp P (.cond c x y) Q (v :: tm) h=acondK (ev (v :: tm) c) (v :: tm) h (fun tm h=>awp P x Q tm h) (fun tm h=>awp P y Q tm h):=rfl
theorem awp_block (id:Nat) (c:Code):awp P (.block id c) Q (v :: tm) h=awp P c (blockQ id Q) (v :: tm) h:=rfl
theorem awp_loop (c:Code):awp P (.loop c) Q (v :: tm) h=ALoop P c Q (v :: tm) h:=rfl
theorem awp_exit (id:Nat):awp P (.exit id) Q (v :: tm) h=Q (.exit id) (v :: tm) h:=rfl
theorem awp_ret:awp P .ret Q (v :: tm) h=Q .ret (v :: tm) h:=rfl
end
section
variable (u:Value) (ops:Array Oper) (wk:Bool) (d:Option Tmp) (op:Op) (ty:TypeId) (pos:String) (af:Array Edge) (g:Option (Nat × Bool)) (tm:List Value) (h:Hp) (K:Cont)
theorem aopsL_nil:aopsL P ops wk [] (u :: tm) h K=K (u :: tm) h:=rfl
theorem aopsL_none (os:List Oper):aopsL P ops wk (⟨d,op,ty,pos,af,none⟩ :: os) (u :: tm) h K=aop P wk ⟨d,op,ty,pos,af,none⟩ (u :: tm) h fun tm h=>aopsL P ops wk os tm h K:=rfl
theorem aopsL_some (os:List Oper) (j:Nat) (want:Bool):aopsL P ops wk (⟨d,op,ty,pos,af,some (j,want)⟩ :: os) (u :: tm) h K =
    aguard (gslot ops (u :: tm) j) want (u :: tm) h (fun tm h=>aop P wk ⟨d,op,ty,pos,af,some (j,want)⟩ tm h fun tm h=>aopsL P ops wk os tm h K) (fun tm h=>aopsL P ops wk os (put tm d undef) h K):=by
  show astep P ops wk ⟨d,op,ty,pos,af,some (j,want)⟩ (u :: tm) h (fun tm h=>aopsL P ops wk os tm h K)=_
  unfold astep aguard asplitK asplit
  (try simp only) <;> (generalize gslot ops (u :: tm) j=s; cases s <;> first | rfl | (rename_i s; cases s <;> rfl))
theorem gslot_eq (os:List Oper) (j:Nat):gslot (List.toArray os) tm j=((os[j]?).bind (·.dst)).bind (tm[·]?):=by simp [gslot]
theorem aop_pure (hk:kdOf P op=.pure):aop P wk ⟨d,op,ty,pos,af,g⟩ tm h K=aval (qev P (ev tm) op) d tm h K:=by
  unfold aop aval
  split
  · rename_i f args ts e
    simp only at e
    subst e
    simp [kdOf] at hk
  · simp only [hk]
theorem aop_load (hk:kdOf P op=.load):aop P wk ⟨d,op,ty,pos,af,g⟩ tm h K=aval (lev P h (ev tm) op) d tm h K:=by
  unfold aop aval
  split
  · rename_i f args ts e
    simp only at e
    subst e
    simp [kdOf] at hk
  · simp only [hk]
theorem aop_eff (hk:kdOf P op=.weak∨kdOf P op=.strong):aop P wk ⟨d,op,ty,pos,af,g⟩ tm h K=aeff (eev P h (ev tm) op) d tm K:=by
  unfold aop aeff
  split
  · rename_i f args ts e
    simp only at e
    subst e
    simp [kdOf] at hk
  · rcases hk with hk | hk <;> simp only [hk]
theorem aop_move (x:Operand):aop P wk ⟨d,.move x,ty,pos,af,g⟩ (u :: tm) h K=K (put (u :: tm) d (ev (u :: tm) x)) h:=by rw [aop_pure _ _ _ _ _ _ _ _ _ _ rfl]; simp [qev,aval_some]
theorem aop_assign (x:Operand):aop P wk ⟨d,.assign x,ty,pos,af,g⟩ (u :: tm) h K=K (put (u :: tm) d (ev (u :: tm) x)) h:=by rw [aop_pure _ _ _ _ _ _ _ _ _ _ rfl]; simp [qev,aval_some]
theorem aop_pick (c a b:Operand):aop P wk ⟨d,.pick c a b,ty,pos,af,g⟩ (u :: tm) h K=aval (qev P (ev (u :: tm)) (.pick c a b)) d (u :: tm) h K:=aop_pure _ _ _ _ _ _ _ _ _ _ rfl
theorem aop_bin (b:BinOp) (t:TypeId) (x y:Operand) (t2:TypeId):aop P wk ⟨d,.binOp b t x y t2,ty,pos,af,g⟩ (u :: tm) h K=aval (abin P b t (ev (u :: tm) x) (ev (u :: tm) y)) d (u :: tm) h K:=aop_pure _ _ _ _ _ _ _ _ _ _ rfl
theorem aop_un (b:UnOp) (t:TypeId) (x:Operand):aop P wk ⟨d,.unOp b t x,ty,pos,af,g⟩ (u :: tm) h K=aval (aun b (ev (u :: tm) x)) d (u :: tm) h K:=aop_pure _ _ _ _ _ _ _ _ _ _ rfl
theorem aop_nilCheck (x:Operand):aop P wk ⟨d,.nilCheck x,ty,pos,af,g⟩ (u :: tm) h K=aval (qev P (ev (u :: tm)) (.nilCheck x)) d (u :: tm) h K:=aop_pure _ _ _ _ _ _ _ _ _ _ rfl
theorem aop_makeFunc (f:FuncId) (first cap:Array Operand):aop P wk ⟨d,.makeFunc (.func f) first cap,ty,pos,af,g⟩ (u :: tm) h K=aval (qev P (ev (u :: tm)) (.makeFunc (.func f) first cap)) d (u :: tm) h K:=aop_pure _ _ _ _ _ _ _ _ _ _ rfl
theorem aop_fieldAddr (t:TypeId) (x:Operand) (f:Nat):aop P wk ⟨d,.fieldAddr t x f,ty,pos,af,g⟩ (u :: tm) h K=aval (qev P (ev (u :: tm)) (.fieldAddr t x f)) d (u :: tm) h K:=aop_pure _ _ _ _ _ _ _ _ _ _ rfl
theorem aop_field (t:TypeId) (x:Operand) (f:Nat):aop P wk ⟨d,.field t x f,ty,pos,af,g⟩ (u :: tm) h K=aval (afield P t (ev (u :: tm) x) f) d (u :: tm) h K:=aop_pure _ _ _ _ _ _ _ _ _ _ rfl
theorem aop_build (t:TypeId) (ps:Array (Nat × Operand)):aop P wk ⟨d,.build t ps,ty,pos,af,g⟩ (u :: tm) h K=aval (abuild P t (ps.toList.map fun p=>(p.1,ev (u :: tm) p.2))) d (u :: tm) h K:=aop_pure _ _ _ _ _ _ _ _ _ _ rfl
theorem aop_indexAddr (t:TypeId) (x i:Operand):aop P wk ⟨d,.indexAddr t x i,ty,pos,af,g⟩ (u :: tm) h K=aval (aidx P t (ev (u :: tm) x) (ev (u :: tm) i)) d (u :: tm) h K:=aop_pure _ _ _ _ _ _ _ _ _ _ rfl
theorem aop_index (t:TypeId) (x i:Operand):aop P wk ⟨d,.index t x i,ty,pos,af,g⟩ (u :: tm) h K=aval (astr P t (ev (u :: tm) x) (ev (u :: tm) i)) d (u :: tm) h K:=aop_pure _ _ _ _ _ _ _ _ _ _ rfl
theorem aop_extract (x:Operand) (i:Nat):aop P wk ⟨d,.extract x i,ty,pos,af,g⟩ (u :: tm) h K=aval (qev P (ev (u :: tm)) (.extract x i)) d (u :: tm) h K:=aop_pure _ _ _ _ _ _ _ _ _ _ rfl
theorem aop_len (x:Operand) (t:TypeId):aop P wk ⟨d,.call ⟨.builtin .len,#[x],#[t]⟩,ty,pos,af,g⟩ (u :: tm) h K=aval (alen P t (ev (u :: tm) x)) d (u :: tm) h K:=aop_pure _ _ _ _ _ _ _ _ _ _ rfl
theorem aop_min (xs:Array Operand) (ts:Array TypeId):aop P wk ⟨d,.call ⟨.builtin .min,xs,ts⟩,ty,pos,af,g⟩ (u :: tm) h K=aval (amin .min (xs.toList.map (ev (u :: tm)))) d (u :: tm) h K:=aop_pure _ _ _ _ _ _ _ _ _ _ rfl
theorem aop_max (xs:Array Operand) (ts:Array TypeId):aop P wk ⟨d,.call ⟨.builtin .max,xs,ts⟩,ty,pos,af,g⟩ (u :: tm) h K=aval (amin .max (xs.toList.map (ev (u :: tm)))) d (u :: tm) h K:=aop_pure _ _ _ _ _ _ _ _ _ _ rfl
theorem aop_ld (t:TypeId) (x:Operand):aop P wk ⟨d,.load t x,ty,pos,af,g⟩ (u :: tm) h K=aval (lev P h (ev (u :: tm)) (.load t x)) d (u :: tm) h K:=aop_load _ _ _ _ _ _ _ _ _ _ rfl
theorem aop_slS (t:TypeId) (x:Operand) (lo hi mx:Option Operand) (hs:strOf P t=true):aop P wk ⟨d,.slice t x lo hi mx,ty,pos,af,g⟩ (u :: tm) h K=aval (asl P t (ev (u :: tm) x) (lo.map (ev (u :: tm))) (hi.map (ev (u :: tm))) (mx.map (ev (u :: tm)))) d (u :: tm) h K:=by
  rw [aop_pure _ _ _ _ _ _ _ _ _ _ (by simp [kdOf,hs])]; simp [qev,hs]
theorem aop_slL (t:TypeId) (x:Operand) (lo hi mx:Option Operand) (hs:strOf P t=false):aop P wk ⟨d,.slice t x lo hi mx,ty,pos,af,g⟩ (u :: tm) h K=aval (asl2 P h t (ev (u :: tm) x) (lo.map (ev (u :: tm))) (hi.map (ev (u :: tm))) (mx.map (ev (u :: tm)))) d (u :: tm) h K:=by
  rw [aop_load _ _ _ _ _ _ _ _ _ _ (by simp [kdOf,hs])]; simp [lev,hs]
theorem aop_cvI (s t:TypeId) (x:Operand) (k1 k:IntKind) (h1:strOf P s=false) (h2:strOf P t=false) (h3:intOf' P s=some k1) (h4:intOf' P t=some k):aop P wk ⟨d,.convert s t x,ty,pos,af,g⟩ (u :: tm) h K=aval (match ev (u :: tm) x with | .int _ n=>some (.int k (k.wrap n)) | _=>none) d (u :: tm) h K:=by
  have h5:elemOf P t=none:=by
    unfold intOf' at h4
    unfold elemOf
    split at h4
    · rename_i hu
      rw [hu]
    · cases h4
  rw [aop_pure _ _ _ _ _ _ _ _ _ _ (by simp [kdOf,h1,h2,h5])]
  simp only [qev,h3,h4]
  cases ev (u :: tm) x <;> simp [h1]
theorem aop_cvSB (s t:TypeId) (x:Operand) (h1:strOf P s=true) (h2:strOf P t=false):aop P wk ⟨d,.convert s t x,ty,pos,af,g⟩ (u :: tm) h K=aeff (eev P h (ev (u :: tm)) (.convert s t x)) d (u :: tm) K :=
  aop_eff _ _ _ _ _ _ _ _ _ _ (.inl (by simp [kdOf,h1,h2]))
theorem aop_cvSl (s t:TypeId) (x:Operand) (h1:strOf P s=false) (h2:strOf P t=false) (h3:(elemOf P t).isSome=true):aop P wk ⟨d,.convert s t x,ty,pos,af,g⟩ (u :: tm) h K=aeff (eev P h (ev (u :: tm)) (.convert s t x)) d (u :: tm) K :=
  aop_eff _ _ _ _ _ _ _ _ _ _ (.inl (by simp [kdOf,h1,h2,h3]))
theorem aop_cvBS (s t:TypeId) (x:Operand) (h1:strOf P s=false) (h2:strOf P t=true) (h3:intOf' P s=none):aop P wk ⟨d,.convert s t x,ty,pos,af,g⟩ (u :: tm) h K=aval (lev P h (ev (u :: tm)) (.convert s t x)) d (u :: tm) h K :=
  aop_load _ _ _ _ _ _ _ _ _ _ (by simp [kdOf,h1,h2,h3])
theorem aop_cvSS (s t:TypeId) (x:Operand) (h1:strOf P s=true) (h2:strOf P t=true):aop P wk ⟨d,.convert s t x,ty,pos,af,g⟩ (u :: tm) h K=aval (qev P (ev (u :: tm)) (.convert s t x)) d (u :: tm) h K :=
  aop_pure _ _ _ _ _ _ _ _ _ _ (by simp [kdOf,h1,h2])
theorem aop_box (t:TypeId) (x:Operand):aop P wk ⟨d,.box t x,ty,pos,af,g⟩ (u :: tm) h K=aeff (eev P h (ev (u :: tm)) (.box t x)) d (u :: tm) K:=aop_eff _ _ _ _ _ _ _ _ _ _ (.inl rfl)
theorem aop_alloc (t:TypeId):aop P wk ⟨d,.alloc t,ty,pos,af,g⟩ (u :: tm) h K=aeff (eev P h (ev (u :: tm)) (.alloc t)) d (u :: tm) K:=aop_eff _ _ _ _ _ _ _ _ _ _ (.inl rfl)
theorem aop_store (t:TypeId) (x y:Operand):aop P wk ⟨d,.store t x y,ty,pos,af,g⟩ (u :: tm) h K=aeff (eev P h (ev (u :: tm)) (.store t x y)) d (u :: tm) K:=aop_eff _ _ _ _ _ _ _ _ _ _ (.inr rfl)
theorem aop_lit (t:TypeId) (n:Nat) (ps:Array (Nat × Operand)):aop P wk ⟨d,.buildSlice t n ps,ty,pos,af,g⟩ (u :: tm) h K=aeff (eev P h (ev (u :: tm)) (.buildSlice t n ps)) d (u :: tm) K:=aop_eff _ _ _ _ _ _ _ _ _ _ (.inl rfl)
theorem aop_make (t:TypeId) (x y:Operand):aop P wk ⟨d,.makeSlice t x y,ty,pos,af,g⟩ (u :: tm) h K=aeff (eev P h (ev (u :: tm)) (.makeSlice t x y)) d (u :: tm) K:=aop_eff _ _ _ _ _ _ _ _ _ _ (.inl rfl)
theorem aop_copy (x y:Operand) (t t2:TypeId):aop P wk ⟨d,.call ⟨.builtin .copy,#[x,y],#[t,t2]⟩,ty,pos,af,g⟩ (u :: tm) h K=aeff (acopy P h t (ev (u :: tm) x) (ev (u :: tm) y)) d (u :: tm) K:=aop_eff _ _ _ _ _ _ _ _ _ _ (.inr rfl)
theorem aop_clear (x:Operand) (t:TypeId):aop P wk ⟨d,.call ⟨.builtin .clear,#[x],#[t]⟩,ty,pos,af,g⟩ (u :: tm) h K=aeff (aclear P h t (ev (u :: tm) x)) d (u :: tm) K:=aop_eff _ _ _ _ _ _ _ _ _ _ (.inr rfl)
theorem aop_append (s x:Operand) (st xt:TypeId):aop P wk ⟨d,.call ⟨.builtin .append,#[s,x],#[st,xt]⟩,ty,pos,af,g⟩ (u :: tm) h K=aeff (aappend P h st xt (ev (u :: tm) s) (ev (u :: tm) x)) d (u :: tm) K:=aop_eff _ _ _ _ _ _ _ _ _ _ (.inr rfl)
theorem aop_call (f:FuncId) (args:Array Operand) (ts:Array TypeId):aop P wk ⟨d,.call ⟨.value (.func f),args,ts⟩,ty,pos,af,g⟩ (u :: tm) h K=acallK P wk f (args.toList.map (ev (u :: tm))) d (u :: tm) h K:=by
  simp [aop,ev,acallK]
theorem aop_callt (t:Tmp) (args:Array Operand) (ts:Array TypeId):aop P wk ⟨d,.call ⟨.value (.tmp t),args,ts⟩,ty,pos,af,g⟩ (u :: tm) h K=acallV P wk (ev (u :: tm) (.tmp t)) (args.toList.map (ev (u :: tm))) d (u :: tm) h K:=by
  unfold aop acallV acallK
  (try simp only) <;> (generalize ev (u :: tm) (.tmp t)=v; cases v <;> first | rfl | (rename_i fn f c; cases fn <;> rfl))
theorem acallV_f (g:FuncId) (cap:Array Value) (args:List Value):acallV P wk (.func (.func g) #[] cap) args d tm h K=acallK P wk g (args++cap.toList) d tm h K:=by
  simp [acallV]
end
theorem put_some (tm:List Value) (d:Tmp) (v:Value):put tm (some d) v=tm.set d v:=rfl
theorem put_none (tm:List Value) (v:Value):put tm none v=tm:=rfl
theorem ev_tmp (tm:List Value) (t:Tmp):ev tm (.tmp t)=(tm[t]?).getD undef:=rfl
theorem ev_int (tm:List Value) (k:IntKind) (n:Int):ev tm (.const (.int k n))=.int k n:=rfl
theorem ev_bool (tm:List Value) (b:Bool):ev tm (.const (.bool b))=.bool b:=rfl
theorem ev_str (tm:List Value) (s:ByteArray):ev tm (.const (.string s))=.string s:=rfl
theorem ev_nil (tm:List Value):ev tm (.const (.slice none 0 0))=.slice none 0 0:=rfl
theorem ev_agg (tm:List Value) (cs:Array Value) (hc:cs.all scal=true):ev tm (.const (.agg cs))=.agg cs:=by simp [ev,cst,hc]
theorem ev_func (tm:List Value) (f:FuncId):ev tm (.func f)=.func (.func f) #[] #[]:=rfl
theorem abin_add (t:TypeId) (k:IntKind) (a b:Int):abin P .add t (.int k a) (.int k b)=some (.int k (k.wrap (a+b))):=by simp [abin]
theorem abin_sub (t:TypeId) (k:IntKind) (a b:Int):abin P .sub t (.int k a) (.int k b)=some (.int k (k.wrap (a - b))):=by simp [abin]
theorem abin_mul (t:TypeId) (k:IntKind) (a b:Int):abin P .mul t (.int k a) (.int k b)=some (.int k (k.wrap (a * b))):=by simp [abin]
theorem abin_quo (t:TypeId) (k:IntKind) (a b:Int):abin P .quo t (.int k a) (.int k b)=if b=0 then none else some (.int k (k.wrap (a.tdiv b))):=by simp [abin]
theorem abin_rem (t:TypeId) (k:IntKind) (a b:Int):abin P .rem t (.int k a) (.int k b)=if b=0 then none else some (.int k (a.tmod b)):=by simp [abin]
theorem abin_eql (t:TypeId) (k:IntKind) (a b:Int):abin P .eql t (.int k a) (.int k b)=some (.bool (a == b)):=by simp [abin]
theorem abin_neq (t:TypeId) (k:IntKind) (a b:Int):abin P .neq t (.int k a) (.int k b)=some (.bool (a != b)):=by simp [abin]
theorem abin_lss (t:TypeId) (k:IntKind) (a b:Int):abin P .lss t (.int k a) (.int k b)=some (.bool (decide (a<b))):=by simp [abin]
theorem abin_leq (t:TypeId) (k:IntKind) (a b:Int):abin P .leq t (.int k a) (.int k b)=some (.bool (decide (a≤b))):=by simp [abin]
theorem abin_gtr (t:TypeId) (k:IntKind) (a b:Int):abin P .gtr t (.int k a) (.int k b)=some (.bool (decide (b<a))):=by simp [abin]
theorem abin_geq (t:TypeId) (k:IntKind) (a b:Int):abin P .geq t (.int k a) (.int k b)=some (.bool (decide (b≤a))):=by simp [abin]
theorem abin_beql (t:TypeId) (a b:Bool) (hb:isBool P t=true):abin P .eql t (.bool a) (.bool b)=some (.bool (a == b)):=by simp [abin,hb]
theorem abin_bneq (t:TypeId) (a b:Bool) (hb:isBool P t=true):abin P .neq t (.bool a) (.bool b)=some (.bool (!(a == b))):=by simp [abin,hb]
theorem wrap_in {n:Int} (h1:-9223372036854775808≤n) (h2:n≤9223372036854775807):IntKind.i64.wrap n=n:=by
  rw [IntKind.wrap_i64]; omega
theorem wrap_u8 {n:Int} (h1:0≤n) (h2:n≤255):IntKind.u8.wrap n=n:=by
  simp only [IntKind.wrap,IntKind.bits,IntKind.signed]
  simp
  omega
theorem aun_not (b:Bool):aun .not (.bool b)=some (.bool !b):=rfl
theorem qev_pick (ρ:Operand→Value) (c a b:Operand):qev P ρ (.pick c a b)=match ρ c with | .bool t=>some (if t then ρ a else ρ b) | _=>none:=rfl
theorem aidx_sl (t:TypeId) (a:Addr) (n c:Nat) (k:IntKind) (i:Int):aidx P t (.slice (some a) n c) (.int k i)=(elemOf P t).bind fun e=>(szOf P e).bind fun sz=>if 0≤i∧i<n then some (.pointer (some ⟨a.block,a.off+i.toNat * sz,none⟩)) else none:=rfl
theorem qev_fieldAddr (ρ : Operand → Value) (t : TypeId) (x : Operand) (f : Nat) : qev P ρ (.fieldAddr t x f) = match ρ x with
      | .pointer (some a)=>(fldOf P t f).bind fun q=>if szOf P q.2=some 0 then none else (szOf P q.2).bind fun _=>some (.pointer (some ⟨a.block,a.off+q.1,none⟩))
      | _=>none:=by
  cases hv:ρ x with
  | pointer a =>
    cases a with
    | none=>simp [qev,hv]
    | some a =>
      simp only [qev,hv]
      cases fldOf P t f with
      | none=>rfl
      | some q=>simp only [Option.bind_some,Option.map_eq_bind]; split <;> rfl
  | _=>simp [qev,hv]
theorem lev_ld (h : Hp) (ρ : Operand → Value) (t : TypeId) (x : Operand) : lev P h ρ (.load t x) = match ρ x with
      | .pointer (some a)=>(aggOf P t).bind fun g=>if g=true then (szOf P t).bind fun n=>(cellsAt h a.block a.off n).bind fun cs=>some (.agg cs.toArray) else cellAt h a.block a.off
      | _=>none:=by
  cases hv:ρ x with
  | pointer a =>
    cases a with
    | none=>simp [lev,hv]
    | some a =>
      simp only [lev,hv]
      cases aggOf P t with
      | none=>rfl
      | some g=>cases g <;> simp only [Option.bind_some,Option.map_eq_bind] <;> rfl
  | _=>simp [lev,hv]
theorem alen_str (t:TypeId) (s:ByteArray) (h1:strOf P t=true):alen P t (.string s)=some (.int .i64 s.size):=by simp [alen,h1]
theorem alen_sl (t:TypeId) (a:Option Addr) (n c:Nat) (h1:isSlice P t=true):alen P t (.slice a n c)=some (.int .i64 n):=by simp [alen,h1]
end
attribute [simp] aop_cvSl aop_copy aop_clear awp_skip awp_region awp_draw awp_seq awp_cond awp_block awp_loop awp_exit awp_ret aopsL_nil aopsL_none aopsL_some gslot_eq aop_move aop_assign aop_pick aop_bin aop_un aop_nilCheck aop_makeFunc aop_fieldAddr aop_field aop_build aop_indexAddr aop_index aop_extract aop_len aop_min aop_max aop_ld aop_slS aop_slL aop_cvI aop_cvSB aop_cvBS aop_cvSS aop_box aop_alloc aop_store aop_lit aop_make aop_append aop_call aop_callt acallV_f put_some put_none ev_tmp ev_int ev_bool ev_str ev_nil ev_agg ev_func aval_some aval_ite aval_ite2 aeff_some aeff_ite asplitK_true asplitK_false aguard_bool aguard_skip acondK_bool asplitK_eqt asplitK_eqf asplitK_not seqQ_normal seqQ_exit seqQ_ret blockQ_normal blockQ_exit blockQ_exit' blockQ_ret retQ_ret retQ_normal aret_some ares_one ares_nil ares_two ares_three aret_ite abin_add abin_sub abin_mul abin_quo abin_rem abin_eql abin_neq abin_lss abin_leq abin_gtr abin_geq abin_beql abin_bneq aun_not qev_pick aidx_sl qev_fieldAddr lev_ld alen_str alen_sl
abbrev Str:=List UInt8
def S (l:Str):ByteArray:=⟨l.toArray⟩
theorem S_size (l:Str):(S l).size=l.length:=by simp [S,ByteArray.size]
theorem S_toList (l:Str):(S l).toList=l:=by rw [ByteArray.toList_eq]; rfl
theorem S_append (a b:Str):S a++S b=S (a++b):=by
  apply ByteArray.ext
  rw [ByteArray.data_append]
  simp [S]
theorem S_extract (l:Str) (i j:Nat):(S l).extract i j=S ((l.take j).drop i):=by
  apply ByteArray.ext
  rw [ByteArray.data_extract]
  simp [S,List.extract_eq_take_drop,List.drop_take]
theorem S_data (l:Str):(S l).data=l.toArray:=rfl
theorem S_mk (l:Str):ByteArray.mk (List.toArray l)=S l:=rfl
theorem S_inj {a b:Str}:S a=S b↔a=b:=⟨fun h=>by have:=congrArg (fun s=>s.data.toList) h; simpa [S] using this,fun h=>h ▸ rfl⟩
theorem bytesL_S (l:Str):bytesL (S l)=l.map fun b=>Value.int .u8 b.toNat:=by simp [bytesL,S]
theorem strL_map:∀ (l:Str),strL (l.map fun b=>Value.int .u8 b.toNat)=some l
  | []=>rfl
  | b :: l=>by simp [strL,strL_map l]
section
variable {P:Program}
theorem abin_sadd (t:TypeId) (a b:Str):abin P .add t (.string (S a)) (.string (S b))=if a.length+b.length≤9223372036854775807 then some (.string (S (a++b))) else none:=by simp [abin,S_size,S_append]
theorem abin_seql (t:TypeId) (a b:Str):abin P .eql t (.string (S a)) (.string (S b))=some (.bool (a == b)):=by simp [abin,S_toList]
theorem abin_sneq (t:TypeId) (a b:Str):abin P .neq t (.string (S a)) (.string (S b))=some (.bool !(a == b)):=by simp [abin,S_toList]
theorem abin_slss (t:TypeId) (a b:Str):abin P .lss t (.string (S a)) (.string (S b))=some (.bool (Op.bytesLess a b)):=by simp [abin,S_toList]
theorem abin_sleq (t:TypeId) (a b:Str):abin P .leq t (.string (S a)) (.string (S b))=some (.bool (Op.bytesLess a b || a == b)):=by simp [abin,S_toList]
theorem abin_sgtr (t:TypeId) (a b:Str):abin P .gtr t (.string (S a)) (.string (S b))=some (.bool !(Op.bytesLess a b || a == b)):=by simp [abin,S_toList]
theorem abin_sgeq (t:TypeId) (a b:Str):abin P .geq t (.string (S a)) (.string (S b))=some (.bool !(Op.bytesLess a b)):=by simp [abin,S_toList]
theorem astr_S (t:TypeId) (l:Str) (k:IntKind) (i:Int) (hs:strOf P t=true):astr P t (.string (S l)) (.int k i)=if 0≤i∧i<l.length then some (.int .u8 ((l[i.toNat]?).getD 0).toNat) else none:=by
  simp only [astr,hs,Bool.true_and,decide_eq_true_eq,S_data]
  by_cases h0:0≤i
  · by_cases h1:i<l.length
    · have:i.toNat<l.length:=by omega
      simp [h0,h1]
    · have:l.length≤i.toNat:=by omega
      simp [h0,h1]
  · simp [h0]
theorem asl_ij (t:TypeId) (l:Str) (k k':IntKind) (i j:Int) (hs:strOf P t=true):asl P t (.string (S l)) (some (.int k i)) (some (.int k' j)) none=if 0≤i∧i≤j∧j≤l.length then some (.string (S ((l.take j.toNat).drop i.toNat))) else none:=by
  simp [asl,hs,bound,S_size,S_extract]
theorem asl_i (t:TypeId) (l:Str) (k:IntKind) (i:Int) (hs:strOf P t=true):asl P t (.string (S l)) (some (.int k i)) none none=if 0≤i∧i≤l.length then some (.string (S (l.drop i.toNat))) else none:=by
  have:((l.length:Int)).toNat=l.length:=by omega
  simp [asl,hs,bound,S_size,S_extract]
theorem asl_j (t:TypeId) (l:Str) (k':IntKind) (j:Int) (hs:strOf P t=true):asl P t (.string (S l)) none (some (.int k' j)) none=if 0≤j∧j≤l.length then some (.string (S (l.take j.toNat))) else none:=by
  simp [asl,hs,bound,S_size,S_extract]
theorem alen_S (t:TypeId) (l:Str) (hs:strOf P t=true):alen P t (.string (S l))=some (.int .i64 l.length):=by simp [alen,hs,S_size]
end
attribute [simp] abin_sadd abin_seql abin_sneq abin_slss abin_sleq abin_sgtr abin_sgeq astr_S asl_ij asl_i asl_j alen_S S_mk S_size S_toList S_append S_inj
structure Enc (α:Type) where
  n:Nat
  R:Hp→α→List Value→List Nat→Prop
  len:∀ {h x cs F},R h x cs F→cs.length=n
  ok:∀ {h x cs F},R h x cs F→cs.all okCell=true
  frame:∀ {h h':Hp} {x cs F},R h x cs F→(∀ o∈F,h'[o]?=h[o]?)→R h' x cs F
  lt:∀ {h:Hp} {x cs F},R h x cs F→∀ o∈F,o<h.length
def flatE {α:Type} (n:Nat) (f:α→List Value) (hn:∀ x,(f x).length=n) (hok:∀ x,(f x).all okCell=true):Enc α where
  n:=n
  R _ x cs F:=cs=f x∧F=[]
  len h:=by rw [h.1]; exact hn _
  ok h:=by rw [h.1]; exact hok _
  frame h _:=h
  lt h o ho:=by rw [h.2] at ho; cases ho
def intE:Enc Int:=flatE 1 (fun n=>[.int .i64 n]) (fun _=>rfl) (fun _=>rfl)
def byteE:Enc UInt8:=flatE 1 (fun b=>[.int .u8 b.toNat]) (fun _=>rfl) (fun _=>rfl)
def strE:Enc Str:=flatE 1 (fun s=>[.string (S s)]) (fun _=>rfl) (fun _=>rfl)
def rowsR {α:Type} (A:Enc α) (h:Hp):List α→List (List Value)→List (List Nat)→Prop
  | [],[],[]=>True
  | x :: xs,c :: cs,F :: Fs=>A.R h x c F∧rowsR A h xs cs Fs
  | _,_,_=>False
section
variable {α:Type} {A:Enc α} {h h':Hp}
theorem rowsR.len:∀ {xs:List α} {css:List (List Value)} {Fs:List (List Nat)},rowsR A h xs css Fs→css.length=xs.length∧Fs.length=xs.length∧css.flatten.length=xs.length * A.n
  | [],[],[],_=>⟨rfl,rfl,by simp⟩
  | x :: xs,c :: cs,F :: Fs,k=>by
    obtain ⟨h1,h2,h3⟩:=rowsR.len k.2
    have:=A.len k.1
    refine ⟨by simp [h1],by simp [h2],?_⟩
    simp only [List.flatten_cons,List.length_append,List.length_cons,h3,this,Nat.add_mul]
    omega
  | [],[],_ :: _,k=>k.elim
  | [],_ :: _,_,k=>k.elim
  | _ :: _,[],_,k=>k.elim
  | _ :: _,_ :: _,[],k=>k.elim
theorem rowsR.ok:∀ {xs:List α} {css:List (List Value)} {Fs:List (List Nat)},rowsR A h xs css Fs→css.flatten.all okCell=true
  | [],[],[],_=>rfl
  | x :: xs,c :: cs,F :: Fs,k=>by
    simp only [List.flatten_cons,List.all_append,A.ok k.1,rowsR.ok k.2,Bool.and_self]
  | [],[],_ :: _,k=>k.elim
  | [],_ :: _,_,k=>k.elim
  | _ :: _,[],_,k=>k.elim
  | _ :: _,_ :: _,[],k=>k.elim
theorem rowsR.frame:∀ {xs:List α} {css:List (List Value)} {Fs:List (List Nat)},rowsR A h xs css Fs→(∀ o∈Fs.flatten,h'[o]?=h[o]?)→rowsR A h' xs css Fs
  | [],[],[],_,_=>trivial
  | x :: xs,c :: cs,F :: Fs,k,e=>⟨A.frame k.1 fun o ho=>e o (by simp [ho]),rowsR.frame k.2 fun o ho=>e o (by simp only [List.flatten_cons,List.mem_append]; exact .inr ho)⟩
  | [],[],_ :: _,k,_=>k.elim
  | [],_ :: _,_,k,_=>k.elim
  | _ :: _,[],_,k,_=>k.elim
  | _ :: _,_ :: _,[],k,_=>k.elim
theorem rowsR.lt:∀ {xs:List α} {css:List (List Value)} {Fs:List (List Nat)},rowsR A h xs css Fs→∀ o∈Fs.flatten,o<h.length
  | [],[],[],_,o,ho=>by simp at ho
  | x :: xs,c :: cs,F :: Fs,k,o,ho=>by
    simp only [List.flatten_cons,List.mem_append] at ho
    rcases ho with ho | ho
    · exact A.lt k.1 o ho
    · exact rowsR.lt k.2 o ho
  | [],[],_ :: _,k,_,_=>k.elim
  | [],_ :: _,_,k,_,_=>k.elim
  | _ :: _,[],_,k,_,_=>k.elim
  | _ :: _,_ :: _,[],k,_,_=>k.elim
theorem rowsR.append:∀ {xs ys:List α} {c1 c2:List (List Value)} {F1 F2:List (List Nat)},rowsR A h xs c1 F1→rowsR A h ys c2 F2→rowsR A h (xs++ys) (c1++c2) (F1++F2)
  | [],_,[],_,[],_,_,k=>k
  | _ :: _,_,_ :: _,_,_ :: _,_,h,k=>⟨h.1,rowsR.append h.2 k⟩
  | [],_,[],_,_ :: _,_,h,_=>h.elim
  | [],_,_ :: _,_,_,_,h,_=>h.elim
  | _ :: _,_,[],_,_,_,h,_=>h.elim
  | _ :: _,_,_ :: _,_,[],_,h,_=>h.elim
theorem rowsR.get:∀ {xs:List α} {css:List (List Value)} {Fs:List (List Nat)} (_:rowsR A h xs css Fs) (i:Nat) (x:α),xs[i]?=some x→∃ c F,css[i]?=some c∧Fs[i]?=some F∧A.R h x c F∧∀ j,j<A.n→css.flatten[i * A.n+j]?=c[j]?
  | x :: xs,c :: cs,F :: Fs,k,0,y,e=>by
    simp at e; subst e
    refine ⟨c,F,rfl,rfl,k.1,fun j hj=>?_⟩
    simp only [Nat.zero_mul,Nat.zero_add,List.flatten_cons]
    exact List.getElem?_append_left (by rw [A.len k.1]; exact hj)
  | x :: xs,c :: cs,F :: Fs,k,i+1,y,e=>by
    obtain ⟨c',F',h1,h2,h3,h4⟩:=rowsR.get k.2 i y (by simpa using e)
    refine ⟨c',F',by simpa using h1,by simpa using h2,h3,fun j hj=>?_⟩
    rw [← h4 j hj,List.flatten_cons,List.getElem?_append_right (by rw [A.len k.1,Nat.add_mul]; omega),A.len k.1]
    congr 1
    rw [Nat.add_mul]; omega
  | [],[],[],_,_,_,e=>by simp at e
  | [],[],_ :: _,k,_,_,_=>k.elim
  | [],_ :: _,_,k,_,_,_=>k.elim
  | _ :: _,[],_,k,_,_,_=>k.elim
  | _ :: _,_ :: _,[],k,_,_,_=>k.elim
end
def slR {α:Type} (w:Bool) (e:TypeId) (A:Enc α) (h:Hp) (xs:List α) (a:Option Addr) (F:List Nat):Prop :=
  match a with
  | none=>xs=[]∧F=[]
  | some a=>a.spot=none∧∃ ob css Fs pre post,h[a.block]?=some ob∧ob.live=true∧(w=true→ob.rw=true)∧ob.elem=e∧F=a.block :: Fs.flatten∧rowsR A h xs css Fs∧ob.cells=pre++css.flatten++post∧pre.length=a.off
section
variable {α:Type} {A:Enc α} {h h':Hp} {w:Bool} {e:TypeId} {xs:List α} {a:Option Addr} {F:List Nat}
theorem slR.frame (k:slR w e A h xs a F) (hf:∀ o∈F,h'[o]?=h[o]?):slR w e A h' xs a F:=by
  unfold slR at *
  cases a with
  | none=>exact k
  | some a =>
    obtain ⟨h0,ob,css,Fs,pre,post,h1,h2,h3,h4,rfl,h5,h6,h7⟩:=k
    exact ⟨h0,ob,css,Fs,pre,post,by rw [hf _ (by simp)]; exact h1,h2,h3,h4,rfl,h5.frame fun o ho=>hf o (by simp only [List.mem_cons]; exact .inr ho),h6,h7⟩
theorem slR.lt (k:slR w e A h xs a F):∀ o∈F,o<h.length:=by
  unfold slR at k
  cases a with
  | none=>obtain ⟨_,rfl⟩:=k; intro o ho; cases ho
  | some a =>
    obtain ⟨h0,ob,css,Fs,pre,post,h1,h2,h3,h4,rfl,h5,h6,h7⟩:=k
    intro o ho
    rcases List.mem_cons.1 ho with rfl | ho
    · exact (List.getElem?_eq_some_iff.1 h1).1
    · exact h5.lt o ho
theorem slR.ext (k:slR w e A h xs a F) (hx:Ext h h'):slR w e A h' xs a F:=k.frame fun o ho=>hx.2 o (k.lt o ho)
theorem slR.weak (k:slR w e A h xs a F):slR false e A h xs a F:=by
  unfold slR at *
  cases a with
  | none=>exact k
  | some a =>
    obtain ⟨h0,ob,css,Fs,pre,post,h1,h2,h3,h4⟩:=k
    exact ⟨h0,ob,css,Fs,pre,post,h1,h2,(fun hh=>by cases hh),h4⟩
theorem slR.at_ (k:slR w e A h xs a F) {i:Nat} {x:α} (hx:xs[i]?=some x):∃ o off c Fi,a=some ⟨o,off,none⟩∧A.R h x c Fi∧(∀ q∈Fi,q∈F)∧∀ j,j<A.n→cellAt h o (off+i * A.n+j)=c[j]?:=by
  unfold slR at k
  cases a with
  | none=>obtain ⟨rfl,_⟩:=k; simp at hx
  | some a =>
    obtain ⟨h0,ob,css,Fs,pre,post,h1,h2,h3,h4,rfl,h5,h6,h7⟩:=k
    obtain ⟨c,Fi,g1,g2,g3,g4⟩:=h5.get i x hx
    refine ⟨a.block,a.off,c,Fi,by cases a; simp at h0; simp [h0],g3,fun q hq=>by simp only [List.mem_cons]; exact .inr (List.mem_flatten.2 ⟨Fi,List.mem_of_getElem? g2,hq⟩),fun j hj=>?_⟩
    have hlen:=h5.len.2.2
    have hi:i<xs.length:=(List.getElem?_eq_some_iff.1 hx).1
    have hb:i * A.n+j<xs.length * A.n:=by
      have:(i+1) * A.n≤xs.length * A.n:=Nat.mul_le_mul_right _ hi
      rw [Nat.add_mul] at this
      omega
    unfold cellAt
    rw [h1]
    simp only [h2,if_true]
    rw [← g4 j hj,h6,List.append_assoc,List.getElem?_append_right (by omega),List.getElem?_append_left (by omega)]
    congr 1
    omega
theorem cellsAt_of {o:Nat}:∀ {cs:List Value} {i:Nat},(∀ j,j<cs.length→cellAt h o (i+j)=cs[j]?)→cellsAt h o i cs.length=some cs
  | [],_,_=>rfl
  | c :: cs,i,k=>by
    have h0:=k 0 (by simp)
    simp only [Nat.add_zero,List.getElem?_cons_zero] at h0
    have h1:cellsAt h o (i+1) cs.length=some cs:=cellsAt_of fun j hj=>by
      have:=k (j+1) (by simp; omega)
      simpa [Nat.add_assoc,Nat.add_comm 1] using this
    simp only [List.length_cons,cellsAt,h0,h1]
    rfl
theorem slR.cells {o off:Nat} (k:slR w e A h xs (some ⟨o,off,none⟩) F):∃ cs,cellsAt h o off (xs.length * A.n)=some cs∧cs.length=xs.length * A.n∧∃ css Fs,cs=css.flatten∧rowsR A h xs css Fs∧F=o :: Fs.flatten:=by
  obtain ⟨h0,ob,css,Fs,pre,post,h1,h2,h3,h4,rfl,h5,h6,h7⟩:=k
  have hlen:=h5.len.2.2
  refine ⟨css.flatten,?_,hlen,css,Fs,rfl,h5,rfl⟩
  rw [← hlen]
  refine cellsAt_of fun j hj=>?_
  unfold cellAt
  simp only at h7
  rw [h1]
  simp only [h2,if_true]
  rw [h6,List.append_assoc,List.getElem?_append_right (by omega),List.getElem?_append_left (by omega)]
  congr 1
  omega
theorem slR.el {o off:Nat} (k:slR w e A h xs (some ⟨o,off,none⟩) F):elAt h o=some e:=by
  obtain ⟨h0,ob,css,Fs,pre,post,h1,h2,h3,h4,_⟩:=k
  simp only at h1
  simp [elAt,h1,h4]
end
end Go.Proofs.Ytmpgpkdijfcfhaa.Hz
