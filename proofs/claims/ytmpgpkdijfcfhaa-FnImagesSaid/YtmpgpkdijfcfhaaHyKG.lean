/- A region that draws its order, in which some operations may come in several orders and may not change places: one order of each kind is told. -/
import Derived.Test.YtmpgpkdijfcfhaaHyGB
namespace Go.Proofs.Ytmpgpkdijfcfhaa.Hz
open Go.RowKit
set_option linter.unusedVariables false
set_option linter.unusedSimpArgs false
section
variable {P:Program} {ops:Array Oper}
theorem early_fork {wk:Nat→Bool} {i:Nat} {oi:Oper} {C C':List Value→Hp→Prop} {tm0:List Value} {h0:Hp} {v:Value} (hi:ops[i]?=some oi) (hc:calm P oi=true)
    (hC:∀ tm h,Inv ops P oi tm0 h0 tm h→C tm h→C' (put tm oi.dst v) h) :
    ∀ (r0:List Nat) (tm:List Value) (h:Hp),AllIndep P ops wk i oi r0→Inv ops P oi tm0 h0 tm h→aops P ops wk r0 tm h C→aops P ops wk r0 (put tm oi.dst v) h C'
  | [],tm,h,_,I,k=>by
    unfold aops at k ⊢
    exact hC tm h I k
  | j :: r0,tm,h,hall,I,k=>by
    obtain ⟨oj,hj,hind⟩:=hall j (by simp)
    unfold aops at k ⊢
    simp only [hj] at k ⊢
    have hap:=hind
    unfold indep at hap
    simp only [Bool.and_eq_true] at hap
    obtain ⟨a1,a2,a3⟩:=Oper.apart_spec hap.1.1
    rw [astep_apart a3 fun d hd hx=>a2 d hx hd]
    exact astep_out (fun u h1 ho hh=>early_fork hi hc hC r0 _ h1 hall.tail (I.step hind ho) hh) k
def plainB (o:Oper):Bool :=
  match o.op with
  | .call { callee:=.value _,.. }=>false
  | _=>true
theorem aop_all {X:Sort _} {wk:Bool} {o:Oper} {tm:List Value} {h:Hp} {K:X→List Value→Hp→Prop} (hp:plainB o=true) (x0:X) (k:∀ x,aop P wk o tm h (K x)):aop P wk o tm h (fun tm h=>∀ x,K x tm h):=by
  unfold aop at k ⊢
  unfold plainB at hp
  split at hp
  · cases hp
  · rename_i hno
    split
    · rename_i f args ts e
      exact absurd e (hno _ _ _)
    · rename_i op hno2
      cases hk:kdOf P o.op with
      | pure =>
        simp only [hk] at k ⊢
        obtain ⟨v,e,_⟩:=k x0
        refine ⟨v,e,fun x=>?_⟩
        obtain ⟨v',e',q⟩:=k x
        rw [e] at e'
        injection e' with e'
        subst e'
        exact q
      | load =>
        simp only [hk] at k ⊢
        obtain ⟨v,e,_⟩:=k x0
        refine ⟨v,e,fun x=>?_⟩
        obtain ⟨v',e',q⟩:=k x
        rw [e] at e'
        injection e' with e'
        subst e'
        exact q
      | call =>
        simp only [hk] at k
        exact (k x0).elim
      | weak | strong =>
        simp only [hk] at k ⊢
        obtain ⟨v,h',e,_⟩:=k x0
        refine ⟨v,h',e,fun x=>?_⟩
        obtain ⟨v',h2,e',q⟩:=k x
        rw [e] at e'
        injection e' with e'
        injection e' with e1 e2
        subst e1
        subst e2
        exact q
theorem astep_all {X:Sort _} {wk:Bool} {o:Oper} {tm:List Value} {h:Hp} {K:X→List Value→Hp→Prop} (hp:plainB o=true) (x0:X) (k:∀ x,astep P ops wk o tm h (K x)):astep P ops wk o tm h (fun tm h=>∀ x,K x tm h):=by
  unfold astep at k ⊢
  cases hg:o.guard with
  | none =>
    simp only [hg] at k ⊢
    exact aop_all hp x0 k
  | some g =>
    obtain ⟨j,want⟩:=g
    simp only [hg] at k ⊢
    cases hs:gslot ops tm j with
    | none=>simp only [hs] at k; exact (k x0).elim
    | some s =>
      cases s with
      | bool b =>
        simp only [hs,asplit] at k ⊢
        exact ⟨fun hb=>aop_all hp x0 fun x=>(k x).1 hb,fun hb x=>(k x).2 hb⟩
      | tuple vs =>
        simp only [hs] at k ⊢
        by_cases hv:vs=#[]
        · simp only [hv,if_true] at k ⊢
          exact k
        · simp only [hv,if_false] at k
          exact (k x0).elim
      | _=>simp only [hs] at k; exact (k x0).elim
def Compl (P:Program) (ops:Array Oper) (wk:Nat→Bool) (S:List Nat) (F:List Nat→Prop):Prop :=
  ∀ ρ:Nat→Nat,(∀ x∈S,∀ y∈S,x≠y→ρ x≠ρ y)→(∀ x∈S,∀ y∈S,Pre ops x y→ρ x<ρ y)→∃ f,F f∧f.Pairwise (fun x y=>PairOK P ops wk x y∨ρ x<ρ y)
def Front (P:Program) (ops:Array Oper) (wk:Nat→Bool) (i:Nat) (oi:Oper) (F:List Nat→Prop) (g:List Nat):Prop:=∃ p q,F (p++i :: q)∧g=p++q∧AllIndep P ops wk i oi p
variable {wk:Nat→Bool} {Q:Exit→Act→World→Prop} {K:List Value→Hp→Prop} {B:Bd} {w0:World}
theorem pre_lt (hedge:∀ i o e,ops[i]?=some o→e∈o.after→Region.binds .any e=true→e.on<i) {j i:Nat} (hp:Pre ops j i):j<i:=by
  induction hp with
  | edge h he hb=>exact hedge _ _ _ h he hb
  | step h he hb k ih=>exact Nat.lt_trans ih (hedge _ _ _ h he hb)
theorem Compl.exi (hedge:∀ i o e,ops[i]?=some o→e∈o.after→Region.binds .any e=true→e.on<i) {S:List Nat} {F:List Nat→Prop} (c:Compl P ops wk S F):∃ f,F f:=by
  obtain ⟨f,hf,_⟩:=c (fun x=>x) (fun x _ y _ h=>h) (fun x _ y _ h=>pre_lt hedge h)
  exact ⟨f,hf⟩
theorem Compl.step {S1 S2:List Nat} {i:Nat} {oi:Oper} {F:List Nat→Prop} (c:Compl P ops wk (S1++i :: S2) F) (hF:∀ f,F f→f.Nodup∧∀ x,x∈f↔x∈S1++i :: S2) (hnd:(S1++i :: S2).Nodup) (hfree:∀ j∈S1++i :: S2,¬ Pre ops j i)
    (ind:∀ j∈S1++i :: S2,PairOK P ops wk j i→∃ oj,ops[j]?=some oj∧indep P ops (wk j) (wk i) oj oi=true):Compl P ops wk (S1++S2) (Front P ops wk i oi F):=by
  intro ρ h1 h2
  have md:=mem_drop1 hnd
  have fin:∀ x∈S1++i :: S2,x≠i→x∈S1++S2:=fun x hx hne=>(md x).2 ⟨hx,hne⟩
  obtain ⟨f,hf,hp⟩:=c (fun x=>if x=i then 0 else ρ x+1) (fun x hx y hy hne=>by
    by_cases hxi:x=i <;> by_cases hyi:y=i
    · exact absurd (hxi.trans hyi.symm) hne
    · simp [hxi,hyi]
    · simp [hxi,hyi]
    · have:=h1 x (fin x hx hxi) y (fin y hy hyi) hne
      simp [hxi,hyi]; exact this) (fun x hx y hy hp=>by
    have hyi:y≠i:=fun e=>hfree x hx (e ▸ hp)
    by_cases hxi:x=i
    · simp [hxi,hyi]
    · have:=h2 x (fin x hx hxi) y (fin y hy hyi) hp
      simp [hxi,hyi]; exact this)
  obtain ⟨fn,fm⟩:=hF f hf
  obtain ⟨p,q,rfl⟩:=List.append_of_mem ((fm i).2 (by simp))
  have hin:AllIndep P ops wk i oi p:=fun j hj=>by
    refine ind j ((fm j).1 (by simp [hj])) ?_
    rcases (List.pairwise_append.1 hp).2.2 j hj i (by simp) with h | h
    · exact h
    · simp at h
  refine ⟨p++q,⟨p,q,hf,rfl,hin⟩,?_⟩
  · have hsub:(p++q).Sublist (p++i :: q):=List.Sublist.append (List.Sublist.refl _) (List.sublist_cons_self _ _)
    refine List.Pairwise.imp_of_mem ?_ (hp.sublist hsub)
    intro x y hx hy hxy
    have e1:=((mem_drop1 fn x).1 hx).2
    have e2:=((mem_drop1 fn y).1 hy).2
    simp only [e1,e2,if_false] at hxy
    exact hxy.imp id fun h=>by omega
theorem fam_nil (hedge:∀ i o e,ops[i]?=some o→e∈o.after→Region.binds .any e=true→e.on<i) {fuel:Nat} {r0 r2:List Nat} {F:List Nat→Prop} {listed:Array Bool} {φ:Inj} {tm:List Value} {h:Hp} {ac:Act} {w:World} (hlen:(r0++r2).length≤fuel) (hnd:(r0++r2).Nodup)
    (hF:∀ f,F f→f.Nodup∧∀ x,x∈f↔x∈([]:List Nat)) (c:Compl P ops wk [] F) (hp:(r0++r2).Pairwise (PairOK P ops wk)) (hsz:listed.size=ops.size) (hmem:∀ i,i∈r0++r2↔i<ops.size∧listed.getD i false=false) (hshut:Shut ops listed)
    (k:aops P ops wk r0 tm h (fun tm h=>∀ f,F f→aops P ops wk (f++r2) tm h K)) (R:RelSt P B w0 φ tm h ac w)
    (hQ:∀ φ' tm' h' a' w',RelSt P B w0 φ' tm' h' a' w'→φ <+: φ'→K tm' h'→Q .normal a' w'):wpAny P .any ops Q fuel listed ac w:=by
  obtain ⟨f,hf⟩:=Compl.exi hedge c
  have:f=[]:=List.eq_nil_iff_forall_not_mem.2 fun x hx=>by have:=((hF f hf).2 x).1 hx; simp at this
  subst this
  exact any_soundP hedge fuel (r0++r2) listed hlen hnd hp hsz hmem hshut (aops_append r0 r2 tm h (aops_mono (fun _ _ hh=>hh [] hf) r0 tm h k)) R hQ
theorem fam_A (hedge:∀ i o e,ops[i]?=some o→e∈o.after→Region.binds .any e=true→e.on<i) :
    ∀ (fuel:Nat) (r0 S r2:List Nat) (F:List Nat→Prop) (listed:Array Bool) {φ:Inj} {tm:List Value} {h:Hp} {ac:Act} {w:World},(r0++S++r2).length≤fuel→(r0++S++r2).Nodup→(∀ f,F f→f.Nodup∧∀ x,x∈f↔x∈S)→Compl P ops wk S F →
      (r0++r2).Pairwise (PairOK P ops wk)→(∀ j∈r0,∀ i∈S,PairOK P ops wk j i)→(∀ j∈S,∀ i∈r2,PairOK P ops wk j i) →
      (∀ i∈S,∀ oi,ops[i]?=some oi→calm P oi=false→plainB oi=true∧∀ j∈r0,Pre ops j i)→(∀ i∈r2,∀ oi,ops[i]?=some oi→calm P oi=false→∀ j∈S,Pre ops j i) →
      listed.size=ops.size→(∀ i,i∈r0++S++r2↔i<ops.size∧listed.getD i false=false)→Shut ops listed →
      aops P ops wk r0 tm h (fun tm h=>∀ f,F f→aops P ops wk (f++r2) tm h K)→RelSt P B w0 φ tm h ac w →
      (∀ φ' tm' h' a' w',RelSt P B w0 φ' tm' h' a' w'→φ <+: φ'→K tm' h'→Q .normal a' w')→wpAny P .any ops Q fuel listed ac w:=by
  intro fuel
  induction fuel with
  | zero =>
    intro r0 S r2 F listed φ tm h ac w hlen hnd hF c hp _ _ _ _ hsz hmem hshut k R hQ
    have hn:r0++S++r2=[]:=List.eq_nil_of_length_eq_zero (by omega)
    have hS:S=[]:=(List.append_eq_nil_iff.1 (List.append_eq_nil_iff.1 hn).1).2
    subst hS
    simp only [List.append_nil] at hlen hnd hmem
    exact fam_nil hedge hlen hnd hF c hp hsz hmem hshut k R hQ
  | succ fuel ih =>
    intro r0 S r2 F listed φ tm h ac w hlen hnd hF c hp h0S hS2 hbS hb2 hsz hmem hshut k R hQ
    by_cases hS:S=[]
    · subst hS
      simp only [List.append_nil] at hlen hnd hmem
      exact fam_nil hedge hlen hnd hF c hp hsz hmem hshut k R hQ
    refine ⟨fun hr0=>?_,fun i hi=>?_⟩
    · have:=some_first hedge hsz hmem hr0
      exact absurd (List.append_eq_nil_iff.1 (List.append_eq_nil_iff.1 this).1).2 hS
    obtain ⟨g0,oi,hoi,hafter⟩:=mem_ready.1 hi
    have hlt:=(Array.getElem?_eq_some_iff.1 hoi).1
    have g0':listed.getD i false=false:=by simpa [Array.getD_eq_getD_getElem?,Array.getElem?_eq_getElem (hsz ▸ hlt)] using g0
    have ht:Told P tm h:=⟨_,_,_,_,_,R⟩
    have open_:∀ j,j∈r0++S++r2→listed.getD j false=false:=fun j hj=>((hmem j).1 hj).2
    have free:∀ j,j∈r0++S++r2→¬ Pre ops j i:=fun j hj hp=>by
      have:=pre_listed hshut hp (.inr hi)
      rw [open_ j hj] at this
      cases this
    have ind:∀ j,j∈r0++S++r2→PairOK P ops wk j i→∃ oj,ops[j]?=some oj∧indep P ops (wk j) (wk i) oj oi=true:=fun j hj hp=>by
      rcases hp with hp | ⟨oj,oi',q1,q2,q3⟩
      · exact absurd hp (free j hj)
      · rw [hoi] at q2
        injection q2 with q2
        subst q2
        exact ⟨oj,q1,q3⟩
    have hp':=List.pairwise_append.1 hp
    obtain ⟨f1,hf1⟩:=Compl.exi hedge c
    have hmi:=(hmem i).2 ⟨hlt,g0'⟩
    rcases List.mem_append.1 hmi with hi01 | hi2
    rcases List.mem_append.1 hi01 with hi0 | hiS
    · -- one of the first ones
      obtain ⟨p,q,rfl⟩:=List.append_of_mem hi0
      have hind:AllIndep P ops wk i oi p:=fun j hj=>by
        refine ind j (by simp [hj]) ?_
        exact (List.pairwise_append.1 hp'.1).2.2 j hj i (by simp)
      refine wpOp_mono ?_ (astep_sound hoi (step_front hoi ht hind k) R Q)
      rintro a' w' ⟨φ',tm',h',p1,p2,p3⟩
      have hsub:(p++q).Sublist (p++i :: q):=List.Sublist.append (List.Sublist.refl _) (List.sublist_cons_self _ _)
      have hsub2:(p++q++S++r2).Sublist (p++i :: q++S++r2):=(hsub.append (List.Sublist.refl _)).append (List.Sublist.refl _)
      have hnd':(p++i :: (q++S++r2)).Nodup:=by simpa using hnd
      refine ih (p++q) S r2 F (listed.setIfInBounds i true) (by simp at hlen ⊢; omega) (hnd.sublist hsub2) hF c (hp.sublist (hsub.append (List.Sublist.refl _))) (fun j hj=>h0S j (hsub.subset hj)) hS2 (fun x hx ox hox hc=>⟨(hbS x hx ox hox hc).1,fun j hj=>(hbS x hx ox hox hc).2 j (hsub.subset hj)⟩) hb2 (by simpa using hsz) ?_ (shut_step hshut hoi hafter) p3 p2 fun φ2 tm2 h2 a2 w2 q1 q2 q3=>hQ φ2 tm2 h2 a2 w2 q1 (p1.trans q2) q3
      refine listed_step (r:=p++i :: q++S++r2) hsz hlt hmem fun x=>?_
      have:=mem_drop1 hnd' x
      simpa using this
    · -- one of the family's
      obtain ⟨S1,S2,rfl⟩:=List.append_of_mem hiS
      have hndS:(S1++i :: S2).Nodup:=(List.nodup_append.1 (List.nodup_append.1 hnd).1).2.1
      have cF:=Compl.step (F:=F) c hF hndS (fun j hj=>free j (by simp at hj ⊢; rcases hj with h | h | h <;> simp [h])) (fun j hj=>ind j (by simp at hj ⊢; rcases hj with h | h | h <;> simp [h]))
      have hsub:(S1++S2).Sublist (S1++i :: S2):=List.Sublist.append (List.Sublist.refl _) (List.sublist_cons_self _ _)
      have hsub2:(r0++(S1++S2)++r2).Sublist (r0++(S1++i :: S2)++r2):=((List.Sublist.refl _).append hsub).append (List.Sublist.refl _)
      have hF':∀ g,Front P ops wk i oi F g→g.Nodup∧∀ x,x∈g↔x∈S1++S2:=by
        rintro g ⟨p,q,hf,rfl,_⟩
        obtain ⟨fn,fm⟩:=hF _ hf
        exact ⟨fn.sublist (List.Sublist.append (List.Sublist.refl _) (List.sublist_cons_self _ _)),fun x=>by rw [mem_drop1 fn x,mem_drop1 hndS x,fm x]⟩
      have step:astep P ops (wk i) oi tm h fun tm1 h1=>aops P ops wk r0 tm1 h1 (fun tm h=>∀ g,Front P ops wk i oi F g→aops P ops wk (g++r2) tm h K):=by
        cases hc:calm P oi with
        | true =>
          obtain ⟨g1,p1,q1,hf,rfl,hin1⟩:=Compl.exi hedge cF
          have hin0:AllIndep P ops wk i oi r0:=fun j hj=>ind j (by simp [hj]) (h0S j hj i (by simp))
          have hin01:AllIndep P ops wk i oi (r0++p1):=fun j hj=>by
            rcases List.mem_append.1 hj with h | h
            · exact hin0 j h
            · exact hin1 j h
          have k1:aops P ops wk ((r0++p1)++i :: (q1++r2)) tm h K:=by
            have:=aops_append r0 (p1++i :: q1++r2) tm h (aops_mono (fun _ _ hh=>hh _ hf) r0 tm h k)
            simpa using this
          obtain ⟨v,hv⟩:=calm_some hoi hc ht.va (r0++p1) tm h hin01 (Inv.refl oi) ht k1
          refine (astep_calm hc _).2 ⟨v,hv,?_⟩
          refine early_fork hoi hc (fun tm' h' I kk=>?_) r0 tm h hin0 (Inv.refl oi) k
          rintro g ⟨p,q,hf,rfl,hin⟩
          have k3:aops P ops wk (p++i :: (q++r2)) tm' h' K:=by simpa using kk _ hf
          have:=early_calm hoi hc ht.va hv p tm' h' hin I k3
          simpa using this
        | false =>
          obtain ⟨hpl,hpre⟩:=hbS i hiS oi hoi hc
          have hr0:r0=[]:=by
            cases r0 with
            | nil=>rfl
            | cons j r0=>exact absurd (hpre j (by simp)) (free j (by simp))
          subst hr0
          unfold aops at k
          obtain ⟨g1,p1,q1,hf,_,hin1⟩:=Compl.exi hedge cF
          have key:=astep_all (K:=fun (x:{x:List Nat × List Nat // F (x.1++i :: x.2)∧AllIndep P ops wk i oi x.1}) tm1 h1=>aops P ops wk (x.1.1++(x.1.2++r2)) tm1 h1 K) (tm:=tm) (h:=h) (wk:=wk i) (ops:=ops) (P:=P) hpl ⟨(p1,q1),hf,hin1⟩ fun x=>by
            have k3:aops P ops wk (x.1.1++i :: (x.1.2++r2)) tm h K:=by simpa using k _ x.2.1
            exact step_front hoi ht x.2.2 k3
          refine astep_out (fun v h' _ hh=>?_) key
          unfold aops
          rintro g ⟨p,q,hf,rfl,hin⟩
          simpa using hh ⟨(p,q),hf,hin⟩
      refine wpOp_mono ?_ (astep_sound hoi step R Q)
      rintro a' w' ⟨φ',tm',h',p1,p2,p3⟩
      have hnd':((r0++S1)++i :: (S2++r2)).Nodup:=by simpa using hnd
      refine ih r0 (S1++S2) r2 _ (listed.setIfInBounds i true) (by simp at hlen ⊢; omega) (hnd.sublist hsub2) hF' cF hp (fun j hj x hx=>h0S j hj x (hsub.subset hx)) (fun j hj=>hS2 j (hsub.subset hj)) (fun x hx=>hbS x (hsub.subset hx)) (fun x hx ox hox hc j hj=>hb2 x hx ox hox hc j (hsub.subset hj)) (by simpa using hsz) ?_ (shut_step hshut hoi hafter) p3 p2 fun φ2 tm2 h2 a2 w2 q1 q2 q3=>hQ φ2 tm2 h2 a2 w2 q1 (p1.trans q2) q3
      refine listed_step (r:=r0++(S1++i :: S2)++r2) hsz hlt hmem fun x=>?_
      have:=mem_drop1 hnd' x
      simpa using this
    · -- one of the last ones
      have hc:calm P oi=true:=by
        cases hcc:calm P oi with
        | true=>rfl
        | false =>
          obtain ⟨j,hj⟩:=List.exists_mem_of_ne_nil S hS
          exact absurd (hb2 i hi2 oi hoi hcc j hj) (free j (by simp [hj]))
      obtain ⟨p,q,rfl⟩:=List.append_of_mem hi2
      have hin0:AllIndep P ops wk i oi r0:=fun j hj=>ind j (by simp [hj]) (hp'.2.2 j hj i (by simp))
      have hinS:∀ f,F f→AllIndep P ops wk i oi f:=fun f hf j hj=>by
        have:=((hF f hf).2 j).1 hj
        exact ind j (by simp [this]) (hS2 j this i (by simp))
      have hinp:AllIndep P ops wk i oi p:=fun j hj=>ind j (by simp [hj]) ((List.pairwise_append.1 hp'.2.1).2.2 j hj i (by simp))
      have hfp:∀ f,F f→AllIndep P ops wk i oi (f++p):=fun f hf j hj=>by
        rcases List.mem_append.1 hj with h | h
        · exact hinS f hf j h
        · exact hinp j h
      have k1:aops P ops wk ((r0++(f1++p))++i :: q) tm h K:=by
        have:=aops_append r0 (f1++(p++i :: q)) tm h (aops_mono (fun _ _ hh=>hh _ hf1) r0 tm h k)
        simpa using this
      obtain ⟨v,hv⟩:=calm_some hoi hc ht.va (r0++(f1++p)) tm h (fun j hj=>by
        rcases List.mem_append.1 hj with h | h
        · exact hin0 j h
        · exact hfp f1 hf1 j h) (Inv.refl oi) ht k1
      have step:astep P ops (wk i) oi tm h fun tm1 h1=>aops P ops wk r0 tm1 h1 (fun tm h=>∀ f,F f→aops P ops wk (f++(p++q)) tm h K):=by
        refine (astep_calm hc _).2 ⟨v,hv,?_⟩
        refine early_fork hoi hc (fun tm' h' I kk=>fun f hf=>?_) r0 tm h hin0 (Inv.refl oi) k
        have k3:aops P ops wk ((f++p)++i :: q) tm' h' K:=by simpa using kk f hf
        have:=early_calm hoi hc ht.va hv (f++p) tm' h' (hfp f hf) I k3
        simpa using this
      refine wpOp_mono ?_ (astep_sound hoi step R Q)
      rintro a' w' ⟨φ',tm',h',p1,p2,p3⟩
      have hsub:(p++q).Sublist (p++i :: q):=List.Sublist.append (List.Sublist.refl _) (List.sublist_cons_self _ _)
      have hsub2:(r0++S++(p++q)).Sublist (r0++S++(p++i :: q)):=(List.Sublist.refl _).append hsub
      have hnd':((r0++S++p)++i :: q).Nodup:=by simpa using hnd
      refine ih r0 S (p++q) F (listed.setIfInBounds i true) (by simp at hlen ⊢; omega) (hnd.sublist hsub2) hF c (hp.sublist ((List.Sublist.refl _).append hsub)) h0S (fun j hj x hx=>hS2 j hj x (hsub.subset hx)) hbS (fun x hx=>hb2 x (hsub.subset hx)) (by simpa using hsz) ?_ (shut_step hshut hoi hafter) p3 p2 fun φ2 tm2 h2 a2 w2 q1 q2 q3=>hQ φ2 tm2 h2 a2 w2 q1 (p1.trans q2) q3
      refine listed_step (r:=r0++S++(p++i :: q)) hsz hlt hmem fun x=>?_
      have:=mem_drop1 hnd' x
      simpa using this
end
section
variable {P:Program} {ops:Array Oper}
def pairsAll (c:Nat→Nat→Bool):List Nat→Bool
  | []=>true
  | j :: r=>r.all (c j) && pairsAll c r
theorem pairsAll_spec {c:Nat→Nat→Bool} {R:Nat→Nat→Prop} (hc:∀ x y,c x y=true→R x y):∀ {r:List Nat},pairsAll c r=true→r.Pairwise R
  | [],_=>List.Pairwise.nil
  | j :: r,h=>by
    simp only [pairsAll,Bool.and_eq_true] at h
    exact List.pairwise_cons.2 ⟨fun i hi=>hc j i (List.all_eq_true.1 h.1 i hi),pairsAll_spec hc h.2⟩
def linkA (bf:List Nat) (a b:Nat × Nat):Bool:=a.2 == b.1 || (bf.getD b.1 0).testBit a.2
def badA (bf:List Nat) (A:List (Nat × Nat)):Bool:=A.any fun a=>A.any fun b=>linkA bf a b && (linkA bf b a || A.any fun c=>linkA bf b c && linkA bf c a)
def complB (P:Program) (ops:Array Oper) (wk:Nat→Bool) (bf:List Nat) (F:List (List Nat)):List (Nat × Nat)→List (Nat × Nat)→Bool
  | [],A=>badA bf A || F.any fun f=>pairsAll (fun x y=>A.contains (x,y) || pairB P ops wk bf x y) f
  | (x,y) :: cs,A=>badA bf A || (complB P ops wk bf F cs ((x,y) :: A) && complB P ops wk bf F cs ((y,x) :: A))
theorem complB_spec {wk:Nat→Bool} {F:List (List Nat)} {S:List Nat} {ρ:Nat→Nat} (h1:∀ x∈S,∀ y∈S,x≠y→ρ x≠ρ y) (h2:∀ x∈S,∀ y∈S,Pre ops x y→ρ x<ρ y) :
    ∀ (cs A:List (Nat × Nat)),(∀ c∈cs,c.1∈S∧c.2∈S∧c.1≠c.2)→(∀ a∈A,a.1∈S∧a.2∈S∧ρ a.1<ρ a.2)→complB P ops wk (befs ops.toList []) F cs A=true→∃ f,f∈F∧f.Pairwise (fun x y=>PairOK P ops wk x y∨ρ x<ρ y):=by
  have nobad:∀ A:List (Nat × Nat),(∀ a∈A,a.1∈S∧a.2∈S∧ρ a.1<ρ a.2)→badA (befs ops.toList []) A=false:=by
    intro A hA
    cases hb:badA (befs ops.toList []) A with
    | false=>rfl
    | true =>
      exfalso
      unfold badA at hb
      obtain ⟨a,ha,hb⟩:=List.any_eq_true.1 hb
      obtain ⟨b,hb1,hb⟩:=List.any_eq_true.1 hb
      have link:∀ x∈A,∀ y∈A,linkA (befs ops.toList []) x y=true→ρ x.2≤ρ y.1:=by
        intro x hx y hy h
        obtain ⟨x1,x2,x3⟩:=hA x hx
        obtain ⟨y1,y2,y3⟩:=hA y hy
        unfold linkA at h
        rw [Bool.or_eq_true,beq_iff_eq] at h
        rcases h with h | h
        · rw [h]; exact Nat.le_refl _
        · exact Nat.le_of_lt (h2 _ x2 _ y1 (pre_bit h))
      rw [Bool.and_eq_true,Bool.or_eq_true] at hb
      have l1:=link a ha b hb1 hb.1
      have a3:=(hA a ha).2.2
      have b3:=(hA b hb1).2.2
      rcases hb.2 with h | h
      · have l2:=link b hb1 a ha h
        omega
      · obtain ⟨c,hc,h⟩:=List.any_eq_true.1 h
        rw [Bool.and_eq_true] at h
        have l2:=link b hb1 c hc h.1
        have l3:=link c hc a ha h.2
        have c3:=(hA c hc).2.2
        omega
  intro cs
  induction cs with
  | nil =>
    intro A _ hA h
    unfold complB at h
    rw [nobad A hA,Bool.false_or] at h
    obtain ⟨f,hf,h⟩:=List.any_eq_true.1 h
    refine ⟨f,hf,pairsAll_spec (fun x y hxy=>?_) h⟩
    rw [Bool.or_eq_true] at hxy
    rcases hxy with h | h
    · exact .inr (hA _ (List.contains_iff_mem.1 h)).2.2
    · exact .inl (pairB_spec h)
  | cons c cs ih =>
    obtain ⟨x,y⟩:=c
    intro A hc hA h
    unfold complB at h
    rw [nobad A hA,Bool.false_or,Bool.and_eq_true] at h
    obtain ⟨hx,hy,hne⟩:=hc (x,y) (by simp)
    have hc':∀ c∈cs,c.1∈S∧c.2∈S∧c.1≠c.2:=fun c hm=>hc c (by simp [hm])
    rcases Nat.lt_or_gt_of_ne (h1 x hx y hy hne) with hlt | hlt
    · exact ih ((x,y) :: A) hc' (fun a ha=>by
        rcases List.mem_cons.1 ha with rfl | ha
        · exact ⟨hx,hy,hlt⟩
        · exact hA a ha) h.1
    · exact ih ((y,x) :: A) hc' (fun a ha=>by
        rcases List.mem_cons.1 ha with rfl | ha
        · exact ⟨hy,hx,hlt⟩
        · exact hA a ha) h.2
def confs (P:Program) (ops:Array Oper) (wk:Nat→Bool) (bf:List Nat):List Nat→List (Nat × Nat)
  | []=>[]
  | x :: r=>(r.filter fun y=>!(indepB P ops wk x y || (bf.getD y 0).testBit x || (bf.getD x 0).testBit y)).map (fun y=>(x,y))++confs P ops wk bf r
theorem confs_mem {wk:Nat→Bool} {bf:List Nat}:∀ {r:List Nat} {c:Nat × Nat},c∈confs P ops wk bf r→r.Nodup→c.1∈r∧c.2∈r∧c.1≠c.2
  | [],c,h,_=>by simp [confs] at h
  | x :: r,c,h,hn=>by
    simp only [confs,List.mem_append,List.mem_map,List.mem_filter] at h
    rcases h with ⟨y,⟨hy,_⟩,rfl⟩ | h
    · exact ⟨by simp,by simp [hy],fun e=>(List.nodup_cons.1 hn).1 (by simp only at e; rw [e]; exact hy)⟩
    · obtain ⟨a,b,d⟩:=confs_mem h (List.nodup_cons.1 hn).2
      exact ⟨by simp [a],by simp [b],d⟩
def famOK (P:Program) (ops:Array Oper) (wk:Nat→Bool) (r0 S:List Nat) (F:List (List Nat)) (r2:List Nat):Bool :=
  let bf:=befs ops.toList []
  decide ((r0++S++r2).Nodup∧(r0++S++r2).length≤ops.size) && (r0++S++r2).all (fun i=>decide (i<ops.size)) && (List.range ops.size).all (fun i=>(r0++S++r2).contains i) &&
    F.all (fun f=>decide f.Nodup && f.all (fun i=>S.contains i) && S.all (fun i=>f.contains i)) && complB P ops wk bf F (confs P ops wk bf S) [] && pairsB P ops wk bf (r0++r2) &&
    r0.all (fun j=>S.all fun i=>pairB P ops wk bf j i) && S.all (fun j=>r2.all fun i=>pairB P ops wk bf j i) &&
    S.all (fun i=>match ops[i]? with | some oi=>calm P oi || (plainB oi && r0.all fun j=>(bf.getD i 0).testBit j) | none=>true) && r2.all (fun i=>match ops[i]? with | some oi=>calm P oi || S.all fun j=>(bf.getD i 0).testBit j | none=>true)
theorem fam_sound {wk:Nat→Bool} {r0 S:List Nat} {F:List (List Nat)} {r2:List Nat} {Q:Exit→Act→World→Prop} {K:List Value→Hp→Prop} {B:Bd} {w0 w:World} {φ:Inj} {tm:List Value} {h:Hp} {ac:Act}
    (hedge:∀ i o e,ops[i]?=some o→e∈o.after→Region.binds .any e=true→e.on<i) (hok:famOK P ops wk r0 S F r2=true)
    (k:aops P ops wk r0 tm h (fun tm h=>∀ f,f∈F→aops P ops wk (f++r2) tm h K)) (R:RelSt P B w0 φ tm h ac w)
    (hQ:∀ φ' tm' h' a' w',RelSt P B w0 φ' tm' h' a' w'→φ <+: φ'→K tm' h'→Q .normal a' w'):wpAny P .any ops Q ops.size (Array.replicate ops.size false) ac w:=by
  unfold famOK at hok
  simp only [Bool.and_eq_true,decide_eq_true_eq] at hok
  obtain ⟨⟨⟨⟨⟨⟨⟨⟨⟨⟨hnd,hlen⟩,hlt⟩,hin⟩,hF⟩,hcm⟩,hp⟩,h0S⟩,hS2⟩,hbS⟩,hb2⟩:=hok
  have hmem:∀ i,i∈r0++S++r2↔i<ops.size:=fun i=>⟨fun hi=>by simpa using List.all_eq_true.1 hlt i hi,fun hi=>by
    have:=List.all_eq_true.1 hin i (by simpa using hi)
    exact List.contains_iff_mem.1 this⟩
  have hndS:S.Nodup:=(List.nodup_append.1 (List.nodup_append.1 hnd).1).2.1
  refine fam_A hedge ops.size r0 S r2 (fun f=>f∈F) _ hlen hnd (fun f hf=>?_) (fun ρ h1 h2=>complB_spec h1 h2 _ [] (fun c hc=>confs_mem hc hndS) (fun a ha=>by simp at ha) hcm) (pairsB_spec hp) (fun j hj i hi=>pairB_spec (List.all_eq_true.1 (List.all_eq_true.1 h0S j hj) i hi)) (fun j hj i hi=>pairB_spec (List.all_eq_true.1 (List.all_eq_true.1 hS2 j hj) i hi))
    (fun i hi oi hoi hc=>?_) (fun i hi oi hoi hc j hj=>?_) (by simp) (fun i=>?_) ?_ k R hQ
  · have:=List.all_eq_true.1 hF f hf
    simp only [Bool.and_eq_true,decide_eq_true_eq] at this
    obtain ⟨⟨a,b⟩,d⟩:=this
    exact ⟨a,fun x=>⟨fun hx=>List.contains_iff_mem.1 (List.all_eq_true.1 b x hx),fun hx=>List.contains_iff_mem.1 (List.all_eq_true.1 d x hx)⟩⟩
  · have:=List.all_eq_true.1 hbS i hi
    simp only [hoi,hc,Bool.false_or,Bool.and_eq_true] at this
    exact ⟨this.1,fun j hj=>pre_bit (List.all_eq_true.1 this.2 j hj)⟩
  · have:=List.all_eq_true.1 hb2 i hi
    simp only [hoi,hc,Bool.false_or] at this
    exact pre_bit (List.all_eq_true.1 this j hj)
  · rw [hmem i]
    simp [Array.getD_eq_getD_getElem?,Array.getElem?_replicate]
    intro hi
    simp [hi]
  · intro i o e hi hl _ _
    rw [Array.getD_eq_getD_getElem?,Array.getElem?_replicate] at hl
    split at hl <;> simp at hl
end
end Go.Proofs.Ytmpgpkdijfcfhaa.Hz
