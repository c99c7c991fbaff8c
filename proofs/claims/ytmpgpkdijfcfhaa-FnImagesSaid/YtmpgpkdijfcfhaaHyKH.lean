/- A region that draws its order, with operations that only look (floats) and that may come anywhere among the calls: what they see stays. -/
import Derived.Test.YtmpgpkdijfcfhaaHyKG
namespace Go.Proofs.Ytmpgpkdijfcfhaa.Hz
open Go.RowKit
set_option linter.unusedVariables false
set_option linter.unusedSimpArgs false
section
variable {P:Program} {ops:Array Oper}
def Fl (P:Program) (ops:Array Oper) (V:Nat→Value):List Nat→List Value→Hp→Prop
  | [],_,_=>True
  | x :: fl,tm,h=>∃ ox,ops[x]?=some ox∧val P ops ox tm h=some (V x)∧Fl P ops V fl (put tm ox.dst (V x)) h
def aopsV (P:Program) (ops:Array Oper) (wk:Nat→Bool) (V:Nat→Value) (fl:List Nat):List Nat→List Value→Hp→(List Value→Hp→Prop)→Prop
  | [],tm,h,K=>Fl P ops V fl tm h∧K tm h
  | i :: r,tm,h,K=>Fl P ops V fl tm h∧match ops[i]? with
    | none=>aopsV P ops wk V fl r tm h K
    | some o=>astep P ops (wk i) o tm h fun tm h=>aopsV P ops wk V fl r tm h K
def putAll (ops:Array Oper) (V:Nat→Value):List Nat→List Value→List Value
  | [],tm=>tm
  | x :: fl,tm=>putAll ops V fl (match ops[x]? with | some o=>put tm o.dst (V x) | none=>tm)
def Apart (ops:Array Oper) (x y:Nat):Prop:=∃ ox oy,ops[x]?=some ox∧ops[y]?=some oy∧ox.apart ops oy=true
theorem apart_of {x y:Nat} {ox oy:Oper} (h:Apart ops x y) (hx:ops[x]?=some ox) (hy:ops[y]?=some oy):ox.apart ops oy=true:=by
  obtain ⟨a,b,h1,h2,h3⟩:=h
  rw [hx] at h1; injection h1 with h1; subst h1
  rw [hy] at h2; injection h2 with h2; subst h2
  exact h3
variable {wk:Nat→Bool} {V:Nat→Value}
theorem aopsV_fl {fl:List Nat} {K:List Value→Hp→Prop}:∀ (r:List Nat) {tm:List Value} {h:Hp},aopsV P ops wk V fl r tm h K→Fl P ops V fl tm h
  | [],_,_,k=>k.1
  | _ :: _,_,_,k=>k.1
theorem aopsV_aops {fl:List Nat} {K:List Value→Hp→Prop}:∀ (r:List Nat) (tm:List Value) (h:Hp),aopsV P ops wk V fl r tm h K→aops P ops wk r tm h K
  | [],_,_,k=>k.2
  | i :: r,tm,h,k=>by
    have k:=k.2
    unfold aops
    cases hi:ops[i]? with
    | none=>simp only [hi] at k ⊢; exact aopsV_aops r tm h k
    | some o=>simp only [hi] at k ⊢; exact astep_out (fun v h' _ hh=>aopsV_aops r _ _ hh) k
theorem Fl.put_back {i:Nat} {oi:Oper} {v:Value} (hi:ops[i]?=some oi) {h:Hp}:∀ {fl:List Nat} {tm:List Value},(∀ x∈fl,Apart ops i x)→(Fl P ops V fl (put tm oi.dst v) h↔Fl P ops V fl tm h)
  | [],tm,_=>Iff.rfl
  | x :: fl,tm,ha=>by
    obtain ⟨oi',ox,h1,hx,hap⟩:=ha x (by simp)
    rw [hi] at h1; injection h1 with h1; subst h1
    obtain ⟨a1,a2,a3⟩:=Oper.apart_spec hap
    have ih:=fun tm=>Fl.put_back (v:=v) hi (h:=h) (fl:=fl) (tm:=tm) (fun y hy=>ha y (by simp [hy]))
    unfold Fl
    constructor
    · rintro ⟨o,e,k1,k2⟩
      rw [hx] at e; injection e with e; subst e
      refine ⟨_,hx,by rw [val_apart a1] at k1; exact k1,?_⟩
      rw [put_comm tm v (V x) a2] at k2
      exact (ih _).1 k2
    · rintro ⟨o,e,k1,k2⟩
      rw [hx] at e; injection e with e; subst e
      refine ⟨_,hx,by rw [val_apart a1]; exact k1,?_⟩
      rw [put_comm tm v (V x) a2]
      exact (ih _).2 k2
theorem Fl.front {x:Nat} {ox:Oper} (hx:ops[x]?=some ox) {h:Hp} {f2:List Nat}:∀ {f1:List Nat} {tm:List Value},(∀ y∈f1,Apart ops y x)→Fl P ops V (f1++x :: f2) tm h→val P ops ox tm h=some (V x)∧Fl P ops V (f1++f2) (put tm ox.dst (V x)) h
  | [],tm,_,k=>by
    obtain ⟨o,e,k1,k2⟩:=k
    rw [hx] at e; injection e with e; subst e
    exact ⟨k1,k2⟩
  | y :: f1,tm,ha,k=>by
    obtain ⟨oy,e,k1,k2⟩:=k
    have hap:=apart_of (ha y (by simp)) e hx
    obtain ⟨a1,a2,a3⟩:=Oper.apart_spec hap
    obtain ⟨g1,g2⟩:=Fl.front hx (fun z hz=>ha z (by simp [hz])) k2
    refine ⟨by rw [val_apart a1] at g1; exact g1,oy,e,by rw [val_apart a3]; exact k1,?_⟩
    rw [put_comm tm (V x) (V y) fun d hd hx=>a2 d hx hd]
    exact g2
theorem putAll_put {x:Nat} {ox:Oper} (hx:ops[x]?=some ox):∀ (fl:List Nat),(∀ y∈fl,Apart ops x y)→∀ (tm:List Value) (v:Value),putAll ops V fl (put tm ox.dst v)=put (putAll ops V fl tm) ox.dst v
  | [],_,_,_=>rfl
  | y :: fl,ha,tm,v=>by
    obtain ⟨ox',oy,h1,h2,hap⟩:=ha y (by simp)
    rw [hx] at h1; injection h1 with h1; subst h1
    obtain ⟨a1,a2,a3⟩:=Oper.apart_spec hap
    simp only [putAll,h2]
    rw [put_comm tm v (V y) a2]
    exact putAll_put hx fl (fun z hz=>ha z (by simp [hz])) _ _
theorem putAll_mid {x:Nat} {ox:Oper} (hx:ops[x]?=some ox):∀ (f1 f2:List Nat),(∀ y∈f1,Apart ops y x)→∀ tm:List Value,putAll ops V (f1++x :: f2) tm=putAll ops V (f1++f2) (put tm ox.dst (V x))
  | [],f2,_,tm=>by simp [putAll,hx]
  | y :: f1,f2,ha,tm=>by
    obtain ⟨oy,ox',h2,h1,hap⟩:=ha y (by simp)
    rw [hx] at h1; injection h1 with h1; subst h1
    obtain ⟨a1,a2,a3⟩:=Oper.apart_spec hap
    simp only [List.cons_append,putAll,h2]
    rw [putAll_mid hx f1 f2 (fun z hz=>ha z (by simp [hz])) _,put_comm tm (V x) (V y) fun d hd hx=>a2 d hx hd]
theorem aopsV_put {f1 f2:List Nat} {x:Nat} {ox:Oper} (hx:ops[x]?=some ox) (hf:∀ y∈f1,Apart ops y x) {C C':List Value→Hp→Prop} (hC:∀ tm h,C tm h→C' (put tm ox.dst (V x)) h) :
    ∀ (r:List Nat) (tm:List Value) (h:Hp),(∀ j∈r,Apart ops j x)→aopsV P ops wk V (f1++x :: f2) r tm h C→aopsV P ops wk V (f1++f2) r (put tm ox.dst (V x)) h C'
  | [],tm,h,_,k=>⟨(Fl.front hx hf k.1).2,hC _ _ k.2⟩
  | j :: r,tm,h,ha,k=>by
    obtain ⟨oj,ox',hj,hx',hap⟩:=ha j (by simp)
    rw [hx] at hx'; injection hx' with hx'; subst hx'
    refine ⟨(Fl.front hx hf k.1).2,?_⟩
    have k:=k.2
    simp only [hj] at k ⊢
    obtain ⟨a1,a2,a3⟩:=Oper.apart_spec hap
    rw [astep_apart a3 fun d hd hx=>a2 d hx hd]
    exact astep_out (fun u h1 ho hh=>aopsV_put hx hf hC r _ h1 (fun y hy=>ha y (by simp [hy])) hh) k
theorem aops_fl {K:List Value→Hp→Prop} {r2:List Nat} {h:Hp}:∀ (fl:List Nat) (tm:List Value),(∀ x∈fl,∀ ox,ops[x]?=some ox→calm P ox=true)→Fl P ops V fl tm h→aops P ops wk r2 (putAll ops V fl tm) h K→aops P ops wk (fl++r2) tm h K
  | [],tm,_,_,k=>k
  | x :: fl,tm,hc,f,k=>by
    obtain ⟨ox,hx,k1,k2⟩:=f
    simp only [putAll,hx] at k
    simp only [List.cons_append]
    unfold aops
    simp only [hx]
    exact (astep_calm (hc x (by simp) ox hx) _).2 ⟨V x,k1,aops_fl fl _ (fun y hy=>hc y (by simp [hy])) k2 k⟩
theorem aopsV_all {fl r2:List Nat} {K:List Value→Hp→Prop} (hc:∀ x∈fl,∀ ox,ops[x]?=some ox→calm P ox=true):∀ (r:List Nat) (tm:List Value) (h:Hp),aopsV P ops wk V fl r tm h (fun tm h=>aops P ops wk r2 (putAll ops V fl tm) h K)→aops P ops wk (r++(fl++r2)) tm h K
  | [],tm,h,k=>aops_fl fl tm hc k.1 k.2
  | j :: r,tm,h,k=>by
    have k:=k.2
    simp only [List.cons_append]
    unfold aops
    cases hi:ops[j]? with
    | none=>simp only [hi] at k ⊢; exact aopsV_all hc r tm h k
    | some o=>simp only [hi] at k ⊢; exact astep_out (fun v h' _ hh=>aopsV_all hc r _ _ hh) k
theorem early_pure {i:Nat} {oi:Oper} {r2:List Nat} {K:List Value→Hp→Prop} {v:Value} (hi:ops[i]?=some oi) (hc:calm P oi=true) (hk:kdOf P oi.op=.pure) :
    ∀ (r1:List Nat) (tm:List Value) (h:Hp),AllIndep P ops wk i oi r1→val P ops oi tm h=some v→aops P ops wk (r1++i :: r2) tm h K→aops P ops wk (r1++r2) (put tm oi.dst v) h K
  | [],tm,h,_,hv,k=>by
    simp only [List.nil_append] at k ⊢
    unfold aops at k
    simp only [hi] at k
    obtain ⟨v',h1,h2⟩:=(astep_calm hc _).1 k
    rw [hv] at h1
    injection h1 with h1
    subst h1
    exact h2
  | j :: r1,tm,h,hall,hv,k=>by
    obtain ⟨oj,hj,hind⟩:=hall j (by simp)
    simp only [List.cons_append] at k ⊢
    unfold aops at k ⊢
    simp only [hj] at k ⊢
    have hap:=hind
    unfold indep at hap
    simp only [Bool.and_eq_true] at hap
    obtain ⟨a1,a2,a3⟩:=Oper.apart_spec hap.1.1
    rw [astep_apart a3 fun d hd hx=>a2 d hx hd]
    exact astep_out (fun u h1 ho hh=>early_pure hi hc hk r1 _ h1 hall.tail (by rw [val_apart a1,val_pure hk (h:=h)]; exact hv) hh) k
theorem val_putAll {i:Nat} {oi:Oper} (hi:ops[i]?=some oi) {h:Hp}:∀ (fl:List Nat) (tm:List Value),(∀ y∈fl,Apart ops y i)→val P ops oi (putAll ops V fl tm) h=val P ops oi tm h
  | [],_,_=>rfl
  | y :: fl,tm,ha=>by
    obtain ⟨oy,oi',h1,h2,hap⟩:=ha y (by simp)
    rw [hi] at h2; injection h2 with h2; subst h2
    obtain ⟨a1,a2,a3⟩:=Oper.apart_spec hap
    simp only [putAll,h1]
    rw [val_putAll hi fl _ (fun z hz=>ha z (by simp [hz])),val_apart a1]
theorem early_pureV {fl:List Nat} {i:Nat} {oi:Oper} {v:Value} (hi:ops[i]?=some oi) (hk:kdOf P oi.op=.pure) (ha2:∀ y∈fl,Apart ops i y) {C C':List Value→Hp→Prop} (hC:∀ tm h,val P ops oi tm h=some v→C tm h→C' (put tm oi.dst v) h) :
    ∀ (r:List Nat) (tm:List Value) (h:Hp),(∀ j∈r,Apart ops j i)→val P ops oi tm h=some v→aopsV P ops wk V fl r tm h C→aopsV P ops wk V fl r (put tm oi.dst v) h C'
  | [],tm,h,_,hv,k=>⟨(Fl.put_back hi ha2).2 k.1,hC _ _ hv k.2⟩
  | j :: r,tm,h,ha,hv,k=>by
    obtain ⟨oj,oi',hj,hi',hap⟩:=ha j (by simp)
    rw [hi] at hi'; injection hi' with hi'; subst hi'
    obtain ⟨a1,a2,a3⟩:=Oper.apart_spec hap
    refine ⟨(Fl.put_back hi ha2).2 k.1,?_⟩
    have k:=k.2
    simp only [hj] at k ⊢
    rw [astep_apart a3 fun d hd hx=>a2 d hx hd]
    exact astep_out (fun u h1 ho hh=>early_pureV hi hk ha2 hC r _ h1 (fun y hy=>ha y (by simp [hy])) (by rw [val_apart a1,val_pure hk (h:=h)]; exact hv) hh) k
theorem early_calmV {fl:List Nat} {i:Nat} {oi:Oper} {r2:List Nat} {K:List Value→Hp→Prop} {tm0:List Value} {h0:Hp} {v:Value} (hi:ops[i]?=some oi) (hc:calm P oi=true) (hv:∀ x,VA h0 (ev tm0 x)) (hval:val P ops oi tm0 h0=some v) (ha:∀ x∈fl,Apart ops i x) :
    ∀ (r1:List Nat) (tm:List Value) (h:Hp),AllIndep P ops wk i oi r1→Inv ops P oi tm0 h0 tm h→aopsV P ops wk V fl (r1++i :: r2) tm h K→aopsV P ops wk V fl (r1++r2) (put tm oi.dst v) h K
  | [],tm,h,_,I,k=>by
    have k:=k.2
    simp only [List.nil_append] at k ⊢
    simp only [hi] at k
    obtain ⟨v',h1,h2⟩:=(astep_calm hc _).1 k
    rw [I.val hv,hval] at h1
    injection h1 with h1
    subst h1
    exact h2
  | j :: r1,tm,h,hall,I,k=>by
    obtain ⟨oj,hj,hind⟩:=hall j (by simp)
    obtain ⟨kf,k⟩:=k
    simp only [List.cons_append] at k ⊢
    refine ⟨(Fl.put_back hi ha).2 kf,?_⟩
    simp only [hj] at k ⊢
    have hap:=hind
    unfold indep at hap
    simp only [Bool.and_eq_true] at hap
    obtain ⟨a1,a2,a3⟩:=Oper.apart_spec hap.1.1
    rw [astep_apart a3 fun d hd hx=>a2 d hx hd]
    exact astep_out (fun u h1 ho hh=>early_calmV hi hc hv hval ha r1 _ h1 hall.tail (I.step hind ho) hh) k
theorem early_busyV {fl:List Nat} {i:Nat} {oi:Oper} {r2:List Nat} {K:List Value→Hp→Prop} (hi:ops[i]?=some oi) (hb:calm P oi=false) :
    ∀ (r1:List Nat) (tm:List Value) (h:Hp),AllIndep P ops wk i oi r1→(∀ j∈r1,∀ x∈fl,Apart ops j x)→Told P tm h→aopsV P ops wk V fl (r1++i :: r2) tm h K→astep P ops (wk i) oi tm h fun tm1 h1=>aopsV P ops wk V fl (r1++r2) tm1 h1 K
  | [],tm,h,_,_,_,k=>by
    have k:=k.2
    simp only [List.nil_append] at k ⊢
    simp only [hi] at k
    exact k
  | j :: r1,tm,h,hall,ha,ht,k=>by
    obtain ⟨oj,hj,hind⟩:=hall j (by simp)
    have hap:=hind
    unfold indep at hap
    simp only [Bool.and_eq_true,Bool.or_eq_true] at hap
    obtain ⟨a1,a2,a3⟩:=Oper.apart_spec hap.1.1
    have hcj:calm P oj=true:=hap.1.2.resolve_right (by rw [hb]; simp)
    obtain ⟨kf,k⟩:=k
    simp only [List.cons_append] at k ⊢
    simp only [hj] at k
    obtain ⟨vj,hval,hk⟩:=(astep_calm hcj _).1 k
    have ht2:Told P (put tm oj.dst vj) h:=by
      have k3:astep P ops (wk j) oj tm h (fun tm' h'=>tm'=put tm oj.dst vj∧h'=h):=(astep_calm hcj _).2 ⟨vj,hval,rfl,rfl⟩
      obtain ⟨_,_,_,ht3,e1,e2⟩:=astep_told ht k3
      rw [e1,e2] at ht3
      exact ht3
    have ih:=early_busyV hi hb r1 _ h hall.tail (fun y hy=>ha y (by simp [hy])) ht2 hk
    rw [astep_apart a1 a2] at ih
    refine astep_out (fun u h2 ho2 hh=>?_) ih
    refine ⟨(Fl.put_back hj (ha j (by simp))).1 (aopsV_fl _ hh),?_⟩
    simp only [hj]
    refine (astep_calm hcj _).2 ⟨vj,?_,hh⟩
    rw [val_apart a3,val_out' hind hcj ho2 (ht.va),hval]
theorem step_frontV {fl:List Nat} {i:Nat} {oi:Oper} {r1 r2:List Nat} {K:List Value→Hp→Prop} {tm:List Value} {h:Hp} (hoi:ops[i]?=some oi) (ht:Told P tm h) (hind:AllIndep P ops wk i oi r1) (ha:∀ j∈r1++i :: r2,∀ x∈fl,Apart ops j x) (k:aopsV P ops wk V fl (r1++i :: r2) tm h K) :
    astep P ops (wk i) oi tm h fun tm1 h1=>aopsV P ops wk V fl (r1++r2) tm1 h1 K:=by
  cases hc:calm P oi with
  | true =>
    obtain ⟨v,hv⟩:=calm_some hoi hc ht.va r1 tm h hind (Inv.refl oi) ht (aopsV_aops _ _ _ k)
    exact (astep_calm hc _).2 ⟨v,hv,early_calmV hoi hc ht.va hv (ha i (by simp)) r1 tm h hind (Inv.refl oi) k⟩
  | false=>exact early_busyV hoi hc r1 tm h hind (fun j hj=>ha j (by simp [hj])) ht k
variable {Q:Exit→Act→World→Prop} {K:List Value→Hp→Prop} {B:Bd} {w0:World}
theorem float_A (hedge:∀ i o e,ops[i]?=some o→e∈o.after→Region.binds .any e=true→e.on<i) :
    ∀ (fuel:Nat) (r1 fl r2:List Nat) (listed:Array Bool) {φ:Inj} {tm:List Value} {h:Hp} {ac:Act} {w:World},(r1++fl++r2).length≤fuel→(r1++fl++r2).Nodup→r1.Pairwise (PairOK P ops wk)→r2.Pairwise (PairOK P ops wk) →
      (∀ j∈r1,∀ x∈fl,Apart ops j x)→fl.Pairwise (fun y x=>Pre ops y x∨Apart ops y x)→(∀ x∈fl,∀ ox,ops[x]?=some ox→calm P ox=true)→(∀ i∈r2,∀ j,j∈r1++fl→Pre ops j i∨(∀ oi,ops[i]?=some oi→kdOf P oi.op=.pure∧Apart ops j i∧Apart ops i j)) →
      listed.size=ops.size→(∀ i,i∈r1++fl++r2↔i<ops.size∧listed.getD i false=false)→Shut ops listed →
      aopsV P ops wk V fl r1 tm h (fun tm h=>aops P ops wk r2 (putAll ops V fl tm) h K)→RelSt P B w0 φ tm h ac w →
      (∀ φ' tm' h' a' w',RelSt P B w0 φ' tm' h' a' w'→φ <+: φ'→K tm' h'→Q .normal a' w')→wpAny P .any ops Q fuel listed ac w:=by
  intro fuel
  induction fuel with
  | zero =>
    intro r1 fl r2 listed φ tm h ac w hlen hnd hp1 hp2 _ _ _ _ hsz hmem hshut k R hQ
    have hn:r1++fl++r2=[]:=List.eq_nil_of_length_eq_zero (by omega)
    obtain ⟨h1,rfl⟩:=List.append_eq_nil_iff.1 hn
    obtain ⟨rfl,rfl⟩:=List.append_eq_nil_iff.1 h1
    exact any_soundP (wk:=wk) hedge 0 [] listed (by simp) List.nodup_nil List.Pairwise.nil hsz hmem hshut k.2 R hQ
  | succ fuel ih =>
    intro r1 fl r2 listed φ tm h ac w hlen hnd hp1 hp2 ha hff hcalm hpre hsz hmem hshut k R hQ
    by_cases hE:r1++fl=[]
    · obtain ⟨rfl,rfl⟩:=List.append_eq_nil_iff.1 hE
      simp only [List.nil_append] at hlen hnd hmem
      exact any_soundP (wk:=wk) hedge (fuel+1) r2 listed hlen hnd hp2 hsz hmem hshut k.2 R hQ
    refine ⟨fun hr0=>?_,fun i hi=>?_⟩
    · have:=some_first hedge hsz hmem hr0
      exact absurd (List.append_eq_nil_iff.1 this).1 hE
    obtain ⟨g0,oi,hoi,hafter⟩:=mem_ready.1 hi
    have hlt:=(Array.getElem?_eq_some_iff.1 hoi).1
    have g0':listed.getD i false=false:=by simpa [Array.getD_eq_getD_getElem?,Array.getElem?_eq_getElem (hsz ▸ hlt)] using g0
    have ht:Told P tm h:=⟨_,_,_,_,_,R⟩
    have free:∀ j,j∈r1++fl++r2→¬ Pre ops j i:=fun j hj hp=>by
      have:=pre_listed hshut hp (.inr hi)
      rw [((hmem j).1 hj).2] at this
      cases this
    have hmi:=(hmem i).2 ⟨hlt,g0'⟩
    rcases List.mem_append.1 hmi with hi01 | hi2
    rcases List.mem_append.1 hi01 with hi1 | hif
    · -- one of the told ones
      obtain ⟨p,q,rfl⟩:=List.append_of_mem hi1
      have hind:AllIndep P ops wk i oi p:=fun j hj=>by
        rcases (List.pairwise_append.1 hp1).2.2 j hj i (by simp) with hp | ⟨oj,oi',q1,q2,q3⟩
        · exact absurd hp (free j (by simp [hj]))
        · rw [hoi] at q2
          injection q2 with q2
          subst q2
          exact ⟨oj,q1,q3⟩
      refine wpOp_mono ?_ (astep_sound hoi (step_frontV hoi ht hind ha k) R Q)
      rintro a' w' ⟨φ',tm',h',p1,p2,p3⟩
      have hsub:(p++q).Sublist (p++i :: q):=List.Sublist.append (List.Sublist.refl _) (List.sublist_cons_self _ _)
      have hsub2:(p++q++fl++r2).Sublist (p++i :: q++fl++r2):=(hsub.append (List.Sublist.refl _)).append (List.Sublist.refl _)
      have hnd':(p++i :: (q++fl++r2)).Nodup:=by simpa using hnd
      have hin:∀ j,j∈p++q++fl→j∈p++i :: q++fl:=fun j hj=>(hsub.append (List.Sublist.refl _)).subset hj
      refine ih (p++q) fl r2 (listed.setIfInBounds i true) (by simp at hlen ⊢; omega) (hnd.sublist hsub2) (hp1.sublist hsub) hp2 (fun j hj=>ha j (hsub.subset hj)) hff hcalm (fun x hx j hj=>hpre x hx j (hin j hj)) (by simpa using hsz) ?_ (shut_step hshut hoi hafter) p3 p2 fun φ2 tm2 h2 a2 w2 q1 q2 q3=>hQ φ2 tm2 h2 a2 w2 q1 (p1.trans q2) q3
      refine listed_step (r:=p++i :: q++fl++r2) hsz hlt hmem fun x=>?_
      have:=mem_drop1 hnd' x
      simpa using this
    · -- a float
      obtain ⟨f1,f2,rfl⟩:=List.append_of_mem hif
      have hfi:∀ y∈f1,Apart ops y i:=fun y hy=>((List.pairwise_append.1 hff).2.2 y hy i (by simp)).resolve_left (free y (by simp [hy]))
      have hndf:(f1++i :: f2).Nodup:=(List.nodup_append.1 (List.nodup_append.1 hnd).1).2.1
      have md:=mem_drop1 hndf
      have step:astep P ops (wk i) oi tm h fun tm1 h1=>aopsV P ops wk V (f1++f2) r1 tm1 h1 (fun tm h=>aops P ops wk r2 (putAll ops V (f1++f2) tm) h K):=by
        refine (astep_calm (hcalm i (by simp) oi hoi) _).2 ⟨V i,(Fl.front hoi hfi (aopsV_fl _ k)).1,?_⟩
        refine aopsV_put hoi hfi (fun tm' h' kk=>?_) r1 tm h (fun j hj=>ha j hj i (by simp)) k
        rw [putAll_mid hoi f1 f2 hfi] at kk
        exact kk
      refine wpOp_mono ?_ (astep_sound hoi step R Q)
      rintro a' w' ⟨φ',tm',h',p1,p2,p3⟩
      have hsub:(f1++f2).Sublist (f1++i :: f2):=List.Sublist.append (List.Sublist.refl _) (List.sublist_cons_self _ _)
      have hsub2:(r1++(f1++f2)++r2).Sublist (r1++(f1++i :: f2)++r2):=((List.Sublist.refl _).append hsub).append (List.Sublist.refl _)
      have hnd':((r1++f1)++i :: (f2++r2)).Nodup:=by simpa using hnd
      have hin:∀ j,j∈r1++(f1++f2)→j∈r1++(f1++i :: f2):=fun j hj=>((List.Sublist.refl _).append hsub).subset hj
      refine ih r1 (f1++f2) r2 (listed.setIfInBounds i true) (by simp at hlen ⊢; omega) (hnd.sublist hsub2) hp1 hp2 (fun j hj x hx=>ha j hj x (hsub.subset hx)) (hff.sublist hsub) (fun x hx=>hcalm x (hsub.subset hx)) (fun x hx j hj=>hpre x hx j (hin j hj)) (by simpa using hsz) ?_ (shut_step hshut hoi hafter) p3 p2 fun φ2 tm2 h2 a2 w2 q1 q2 q3=>hQ φ2 tm2 h2 a2 w2 q1 (p1.trans q2) q3
      refine listed_step (r:=r1++(f1++i :: f2)++r2) hsz hlt hmem fun x=>?_
      have:=mem_drop1 hnd' x
      simpa using this
    · -- one of the last ones: it is pure
      obtain ⟨j0,hj0⟩:=List.exists_mem_of_ne_nil _ hE
      have hboth:∀ j,j∈r1++fl→kdOf P oi.op=.pure∧Apart ops j i∧Apart ops i j:=fun j hj=>(hpre i hi2 j hj).resolve_left (free j (List.mem_append.2 (.inl hj))) oi hoi
      have hk:=(hboth j0 hj0).1
      have hap:∀ j,j∈r1++fl→Apart ops j i∧Apart ops i j:=fun j hj=>(hboth j hj).2
      have hc:calm P oi=true:=by unfold calm; rw [hk]
      obtain ⟨p,q,rfl⟩:=List.append_of_mem hi2
      have hindp:AllIndep P ops wk i oi p:=fun j hj=>by
        rcases (List.pairwise_append.1 hp2).2.2 j hj i (by simp) with hp | ⟨oj,oi',q1,q2,q3⟩
        · exact absurd hp (free j (by simp [hj]))
        · rw [hoi] at q2
          injection q2 with q2
          subst q2
          exact ⟨oj,q1,q3⟩
      have hind0:AllIndep P ops wk i oi (r1++fl):=fun j hj=>by
        obtain ⟨oj,oi',q1,q2,q3⟩:=(hap j hj).1
        rw [hoi] at q2; injection q2 with q2; subst q2
        refine ⟨oj,q1,?_⟩
        unfold indep
        rw [q3,hc,hk]
        cases kdOf P oj.op <;> simp
      have k0:aops P ops wk ((r1++fl++p)++i :: q) tm h K:=by
        have:=aopsV_all hcalm r1 tm h k
        simpa using this
      obtain ⟨v,hv⟩:=calm_some hoi hc ht.va (r1++fl++p) tm h (fun j hj=>by
        rcases List.mem_append.1 hj with h | h
        · exact hind0 j h
        · exact hindp j h) (Inv.refl oi) ht k0
      have step:astep P ops (wk i) oi tm h fun tm1 h1=>aopsV P ops wk V fl r1 tm1 h1 (fun tm h=>aops P ops wk (p++q) (putAll ops V fl tm) h K):=by
        refine (astep_calm hc _).2 ⟨v,hv,?_⟩
        refine early_pureV hoi hk (fun y hy=>(hap y (by simp [hy])).2) (fun tm' h' hv' kk=>?_) r1 tm h (fun j hj=>(hap j (by simp [hj])).1) hv k
        rw [putAll_put hoi fl (fun y hy=>(hap y (by simp [hy])).2)]
        exact early_pure hoi hc hk p _ h' hindp (by rw [val_putAll hoi fl _ (fun y hy=>(hap y (by simp [hy])).1)]; exact hv') kk
      refine wpOp_mono ?_ (astep_sound hoi step R Q)
      rintro a' w' ⟨φ',tm',h',p1,p2,p3⟩
      have hsub:(p++q).Sublist (p++i :: q):=List.Sublist.append (List.Sublist.refl _) (List.sublist_cons_self _ _)
      have hsub2:(r1++fl++(p++q)).Sublist (r1++fl++(p++i :: q)):=(List.Sublist.refl _).append hsub
      have hnd':((r1++fl++p)++i :: q).Nodup:=by simpa using hnd
      refine ih r1 fl (p++q) (listed.setIfInBounds i true) (by simp at hlen ⊢; omega) (hnd.sublist hsub2) hp1 (hp2.sublist hsub) ha hff hcalm (fun x hx=>hpre x (hsub.subset hx)) (by simpa using hsz) ?_ (shut_step hshut hoi hafter) p3 p2 fun φ2 tm2 h2 a2 w2 q1 q2 q3=>hQ φ2 tm2 h2 a2 w2 q1 (p1.trans q2) q3
      refine listed_step (r:=r1++fl++(p++i :: q)) hsz hlt hmem fun x=>?_
      have:=mem_drop1 hnd' x
      simpa using this
def floatOK (P:Program) (ops:Array Oper) (wk:Nat→Bool) (r1 fl r2:List Nat):Bool :=
  let bf:=befs ops.toList []
  decide ((r1++fl++r2).Nodup∧(r1++fl++r2).length≤ops.size) && (r1++fl++r2).all (fun i=>decide (i<ops.size)) && (List.range ops.size).all (fun i=>(r1++fl++r2).contains i) &&
    pairsB P ops wk bf r1 && pairsB P ops wk bf r2 && r1.all (fun j=>fl.all fun x=>apartB ops j x) && pairsAll (fun y x=>(bf.getD x 0).testBit y || apartB ops y x) fl && fl.all (fun x=>match ops[x]? with | some ox=>calm P ox | none=>true) && r2.all (fun i=>(r1++fl).all fun j=>(bf.getD i 0).testBit j || ((match ops[i]? with | some oi=>decide (kdOf P oi.op=.pure) | none=>true) && (apartB ops j i && apartB ops i j)))
theorem apartB_spec {x y:Nat} (h:apartB ops x y=true):Apart ops x y:=by
  unfold apartB at h
  split at h
  · exact ⟨_,_,by assumption,by assumption,h⟩
  · cases h
theorem float_sound {r1 fl r2:List Nat} {w:World} {φ:Inj} {tm:List Value} {h:Hp} {ac:Act}
    (hedge:∀ i o e,ops[i]?=some o→e∈o.after→Region.binds .any e=true→e.on<i) (hok:floatOK P ops wk r1 fl r2=true)
    (k:aopsV P ops wk V fl r1 tm h (fun tm h=>aops P ops wk r2 (putAll ops V fl tm) h K)) (R:RelSt P B w0 φ tm h ac w)
    (hQ:∀ φ' tm' h' a' w',RelSt P B w0 φ' tm' h' a' w'→φ <+: φ'→K tm' h'→Q .normal a' w'):wpAny P .any ops Q ops.size (Array.replicate ops.size false) ac w:=by
  unfold floatOK at hok
  simp only [Bool.and_eq_true,decide_eq_true_eq] at hok
  obtain ⟨⟨⟨⟨⟨⟨⟨⟨⟨hnd,hlen⟩,hlt⟩,hin⟩,hp1⟩,hp2⟩,h1⟩,h2⟩,h3⟩,h4⟩:=hok
  have hmem:∀ i,i∈r1++fl++r2↔i<ops.size:=fun i=>⟨fun hi=>by simpa using List.all_eq_true.1 hlt i hi,fun hi=>by
    have:=List.all_eq_true.1 hin i (by simpa using hi)
    exact List.contains_iff_mem.1 this⟩
  refine float_A hedge ops.size r1 fl r2 _ hlen hnd (pairsB_spec hp1) (pairsB_spec hp2) (fun j hj x hx=>apartB_spec (List.all_eq_true.1 (List.all_eq_true.1 h1 j hj) x hx)) (pairsAll_spec (fun x y hxy=>?_) h2) (fun x hx ox hox=>?_) (fun i hi=>?_) (by simp) (fun i=>?_) ?_ k R hQ
  · rw [Bool.or_eq_true] at hxy
    exact hxy.imp pre_bit apartB_spec
  · have:=List.all_eq_true.1 h3 x hx
    simpa only [hox] using this
  · intro j hj
    have:=List.all_eq_true.1 (List.all_eq_true.1 h4 i hi) j hj
    rw [Bool.or_eq_true] at this
    refine this.imp (fun g=>pre_bit g) (fun g oi hoi=>?_)
    simp only [hoi,Bool.and_eq_true,decide_eq_true_eq] at g
    exact ⟨g.1,apartB_spec g.2.1,apartB_spec g.2.2⟩
  · rw [hmem i]
    simp [Array.getD_eq_getD_getElem?,Array.getElem?_replicate]
    intro hi
    simp [hi]
  · intro i o e hi hl _ _
    rw [Array.getD_eq_getD_getElem?,Array.getElem?_replicate] at hl
    split at hl <;> simp at hl
end
end Go.Proofs.Ytmpgpkdijfcfhaa.Hz
