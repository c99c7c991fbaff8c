/- A region that draws its order, told by what each operation gives, whatever the order. -/
import Derived.Test.YtmpgpkdijfcfhaaHyGBb
namespace Go.Proofs.Ytmpgpkdijfcfhaa.Hz
open Go.RowKit
set_option linter.unusedVariables false
set_option linter.unusedSimpArgs false
def depAll (ds:List (Option Tmp)) (S:Nat→Value→Prop):List Nat→List Value→(List Value→Prop)→Prop
  | [],tm,C=>C tm
  | j :: r,tm,C=>∀ v,S j v→depAll ds S r (put tm (ds.getD j none) v) C
def putD (ds:List (Option Tmp)) (tm:List Value):List Nat→List Value→List Value
  | [],t=>t
  | j :: r,t=>putD ds tm r (put t (ds.getD j none) (slotV tm (ds.getD j none)))
section
variable {ds:List (Option Tmp)} {tm:List Value}
theorem depAll_use {S:Nat→Value→Prop} {C:List Value→Prop}:∀ (r:List Nat) (t:List Value),depAll ds S r t C→(∀ j∈r,S j (slotV tm (ds.getD j none)))→C (putD ds tm r t)
  | [],t,k,_=>k
  | j :: r,t,k,hs=>depAll_use r _ (k _ (hs j (by simp))) fun x hx=>hs x (by simp [hx])
theorem put_len (t:List Value) (d:Option Tmp) (v:Value):(put t d v).length=t.length:=by cases d <;> simp [put]
theorem putD_len:∀ (r:List Nat) (t:List Value),(putD ds tm r t).length=t.length
  | [],t=>rfl
  | j :: r,t=>(putD_len r _).trans (put_len _ _ _)
theorem putD_get (x:Nat):∀ (r:List Nat) (t:List Value),tm.length=t.length→(putD ds tm r t)[x]?=if ∃ j∈r,ds.getD j none=some x then tm[x]? else t[x]?
  | [],t,_=>by simp [putD]
  | j :: r,t,hl=>by
    unfold putD
    rw [putD_get x r _ (by rw [put_len]; exact hl)]
    by_cases h1:∃ j∈r,ds.getD j none=some x
    · obtain ⟨y,hy,hd⟩:=h1
      rw [if_pos ⟨y,hy,hd⟩,if_pos ⟨y,by simp [hy],hd⟩]
    · rw [if_neg h1]
      by_cases h2:ds.getD j none=some x
      · rw [if_pos ⟨j,by simp,h2⟩,h2]
        simp only [put,slotV]
        by_cases hx:x<t.length
        · rw [List.getElem?_set_self hx,List.getElem?_eq_getElem (hl ▸ hx)]
          rfl
        · rw [List.getElem?_eq_none (by simp; omega),List.getElem?_eq_none (by omega)]
      · rw [if_neg (by rintro ⟨y,hy,hd⟩; rcases List.mem_cons.1 hy with rfl | hy <;> first | exact h2 hd | exact h1 ⟨y,hy,hd⟩)]
        exact put_get h2
end
def Keep (S:Nat→Value→Hp→Prop) (D:Nat→Bool) (H h2:Hp):Prop:=∀ j v,D j=true→S j v H→S j v h2
theorem Keep.refl (S:Nat→Value→Hp→Prop) (D:Nat→Bool) (H:Hp):Keep S D H H:=fun _ _ _ h=>h
section
variable (P:Program)
def stepsL (ops:Array Oper) (S:Nat→Value→Hp→Prop) (I:(Nat→Bool)→Hp→Prop) (ds:List (Option Tmp)) (dl:List (List Nat)) (tm0:List Value):Nat→List Oper→Prop
  | _,[]=>True
  | i,o :: os=>(∀ D H,D i=false→Down ops D→(∀ j,Pre ops j i→D j=true)→I D H→depAll ds (fun j v=>S j v H) (dl.getD i []) tm0 (fun tm=>aopsL P ops false [o] tm H (fun t h2=>S i (slotV t o.dst) h2∧I (fun j=>D j || j == i) h2∧Keep S D H h2)))∧stepsL ops S I ds dl tm0 (i+1) os
def depsB (ops:Array Oper) (n:Nat) (ds:List (Option Tmp)) (dl:List (List Nat)):Bool :=
  let bf:=befs ops.toList []
  let r:=List.range ops.size
  r.all (fun i=>r.all fun j=>i == j || ds.getD i none == none || ds.getD i none != ds.getD j none) &&
  r.all (fun i=>match ops[i]? with
    | none=>true
    | some o=>(o.looksAt ops).all (fun t=>r.all fun j=>ds.getD j none != some t || (dl.getD i []).contains j) && (dl.getD i []).all (fun j=>(bf.getD i 0).testBit j) && (match o.dst with | some d=>decide (d<n) | none=>true))
end
section
variable {P:Program} {ops:Array Oper} {tm0:List Value} {h:Hp} {K:Cont}
theorem stepsL_at {S:Nat→Value→Hp→Prop} {I:(Nat→Bool)→Hp→Prop} {ds:List (Option Tmp)} {dl:List (List Nat)}:∀ (os:List Oper) (n:Nat),ops.toList.drop n=os→stepsL P ops S I ds dl tm0 n os→∀ i o,n≤i→ops[i]?=some o →
    ∀ D H,D i=false→Down ops D→(∀ j,Pre ops j i→D j=true)→I D H→depAll ds (fun j v=>S j v H) (dl.getD i []) tm0 (fun tm=>aopsL P ops false [o] tm H (fun t h2=>S i (slotV t o.dst) h2∧I (fun j=>D j || j == i) h2∧Keep S D H h2))
  | [],n,hd,_,i,o,hni,hi=>by
    exfalso
    have h1:=congrArg List.length hd
    have h2:=(Array.getElem?_eq_some_iff.1 hi).1
    simp at h1
    omega
  | x :: os,n,hd,k,i,o,hni,hi=>by
    by_cases hin:n=i
    · subst hin
      have ho:ops[n]?=some x:=by
        have:=congrArg (fun l=>l[0]?) hd
        simpa using this
      rw [hi] at ho
      injection ho with ho
      subst ho
      exact k.1
    · have hd':ops.toList.drop (n+1)=os:=by
        have:=congrArg (List.drop 1) hd
        simpa [List.drop_drop,Nat.add_comm] using this
      exact stepsL_at os (n+1) hd' k.2 i o (by omega) hi
theorem slotV_put {tm:List Value} {d:Option Tmp} {v:Value} (hd:∀ t,d=some t→t<tm.length):slotV (put tm d v) d=if d.isSome then v else undef:=by
  cases d with
  | none=>rfl
  | some t=>simp [put,slotV,hd t rfl]
theorem drawI (S:Nat→Value→Hp→Prop) (I:(Nat→Bool)→Hp→Prop) (dl:List (List Nat)) {ds:List (Option Tmp)} (hds:ops.toList.map (·.dst)=ds) (hok:(edgesOK ops && depsB ops tm0.length ds dl)=true)
    (h0:I (fun _=>false) h) (steps:stepsL P ops S I ds dl tm0 0 ops.toList)
    {rl:List Nat} (hrl:List.range ops.size=rl) (fin:∀ D h',(∀ i∈rl,D i=true)→I D h'→depAll ds (fun j v=>S j v h') rl tm0 (fun tm=>K tm h')):ADraw P ops tm0 h K:=by
  subst hrl
  simp only [Bool.and_eq_true] at hok
  obtain ⟨hok1,hok2⟩:=hok
  unfold depsB at hok2
  simp only [Bool.and_eq_true] at hok2
  obtain ⟨hdis,hdep⟩:=hok2
  have hdst:∀ (i:Nat) (o:Oper),ops[i]?=some o→ds.getD i none=o.dst:=fun i o hi=>by
    have hlt:=(Array.getElem?_eq_some_iff.1 hi)
    rw [← hds,List.getD_eq_getElem?_getD,List.getElem?_map]
    have:ops.toList[i]?=some o:=by simpa using hi
    rw [this]
    rfl
  have hdist:∀ (i j:Nat) (oi oj:Oper) (d:Tmp),ops[i]?=some oi→ops[j]?=some oj→oi.dst=some d→oj.dst=some d→i=j:=fun i j oi oj d hi hj di dj=>by
    have l1:=(Array.getElem?_eq_some_iff.1 hi).1
    have l2:=(Array.getElem?_eq_some_iff.1 hj).1
    have:=List.all_eq_true.1 (List.all_eq_true.1 hdis i (by simpa using l1)) j (by simpa using l2)
    rw [hdst i oi hi,hdst j oj hj,di,dj] at this
    simpa using this
  have hdeps:∀ (i:Nat) (o:Oper),ops[i]?=some o→(∀ t∈o.looksAt ops,∀ (j:Nat) (oj:Oper),ops[j]?=some oj→oj.dst=some t→j∈dl.getD i [])∧(∀ j∈dl.getD i [],Pre ops j i)∧(∀ d,o.dst=some d→d<tm0.length):=fun i o hi=>by
    have l1:=(Array.getElem?_eq_some_iff.1 hi).1
    have:=List.all_eq_true.1 hdep i (by simpa using l1)
    simp only [hi,Bool.and_eq_true] at this
    obtain ⟨⟨a,b⟩,c⟩:=this
    refine ⟨fun t ht j oj hj hd=>?_,fun j hj=>pre_bit (List.all_eq_true.1 b j hj),fun d hd=>?_⟩
    · have l2:=(Array.getElem?_eq_some_iff.1 hj).1
      have:=List.all_eq_true.1 (List.all_eq_true.1 a t ht) j (by simpa using l2)
      rw [hdst j oj hj,hd] at this
      simp at this
      simpa using this
    · rw [hd] at c
      simpa using c
  refine .inr (.inr (.inr (.inr ⟨fun D tm h=>tm.length=tm0.length∧(∀ t:Tmp,(∀ (j:Nat) (oj:Oper),ops[j]?=some oj→oj.dst≠some t)→tm[t]?=tm0[t]?)∧(∀ (j:Nat) (oj:Oper),ops[j]?=some oj→D j=true→S j (slotV tm oj.dst) h)∧I D h,hok1,⟨?_,?_⟩,rfl,fun _ _=>rfl,fun _ _ _ e=>(by cases e),h0⟩)))
  · rintro i o D tm h hi hDi hdn hpre ⟨hl,hrest,hS,hI⟩
    obtain ⟨c1,c2,c3⟩:=hdeps i o hi
    have k:=stepsL_at ops.toList 0 rfl steps i o (Nat.zero_le _) hi D h hDi hdn hpre hI
    have k2:=depAll_use (tm:=tm) _ _ k fun j hj=>by
      have hjlt:j<ops.size:=by
        have hp:=c2 j hj
        have:∀ {a b},Pre ops a b→edgesOK ops=true→b<ops.size∧a<b:=by
          intro a b hp hok
          have hed:∀ i o e,ops[i]?=some o→e∈o.after→Region.binds .any e=true→e.on<i:=by
            intro i o e hi he hb
            have hin:i<ops.size:=(Array.getElem?_eq_some_iff.1 hi).1
            have h1:=List.all_eq_true.1 hok i (by simpa using hin)
            simp only [hi] at h1
            have h2:=List.all_eq_true.1 h1 e (by simpa using he)
            simpa [hb] using h2
          refine ⟨?_,pre_lt hed hp⟩
          cases hp with
          | edge h he hb=>exact (Array.getElem?_eq_some_iff.1 h).1
          | step h he hb k=>exact (Array.getElem?_eq_some_iff.1 h).1
        have:=this hp hok1
        omega
      rw [hdst j ops[j] (Array.getElem?_eq_getElem hjlt)]
      exact hS j ops[j] (Array.getElem?_eq_getElem hjlt) (hpre j (c2 j hj))
    have agree:∀ t∈o.looksAt ops,(putD ds tm (dl.getD i []) tm0)[t]?=tm[t]?:=fun t ht=>by
      rw [putD_get t _ _ hl]
      split
      · rfl
      · rename_i hno
        refine (hrest t fun j oj hj hd=>hno ⟨j,c1 t ht j oj hj hd,?_⟩).symm
        rw [hdst j oj hj]; exact hd
    have hlen2:(putD ds tm (dl.getD i []) tm0).length=tm.length:=(putD_len _ _).trans hl.symm
    have k3:=aop_put (P:=P) (ops:=ops) (wk:=false) (o:=o) k2
    refine astep_congr (fun x hx=>?_) (fun j want hg=>?_) (fun v h' hh=>?_) k3
    · cases x with
      | tmp t =>
        have ht:t∈o.looksAt ops:=List.mem_append_left _ (List.mem_filterMap.2 ⟨.tmp t,by simpa using hx,rfl⟩)
        simp only [ev,agree t ht]
      | _=>rfl
    · unfold gslot
      cases ht:(ops[j]?).bind (·.dst) with
      | none=>rfl
      | some t=>exact agree t (by simp [Oper.looksAt,hg,ht])
    · obtain ⟨-,q1,q2,q3⟩:=hh
      have e1:slotV (put (putD ds tm (dl.getD i []) tm0) o.dst v) o.dst=slotV (put tm o.dst v) o.dst:=by
        rw [slotV_put fun t ht=>by rw [hlen2,hl]; exact c3 t ht,slotV_put fun t ht=>by rw [hl]; exact c3 t ht]
      rw [e1] at q1
      refine ⟨(put_len _ _ _).trans hl,fun t ht=>?_,fun j oj hj hD=>?_,q2⟩
      · rw [put_get (ht i o hi)]
        exact hrest t ht
      · by_cases hji:j=i
        · subst hji
          rw [hi] at hj; injection hj with hj; subst hj
          exact q1
        · have hD':D j=true:=by simpa [hji] using hD
          have:=q3 j _ hD' (hS j oj hj hD')
          have e:slotV (put tm o.dst v) oj.dst=slotV tm oj.dst:=by
            cases hd:oj.dst with
            | none=>rfl
            | some d =>
              simp only [slotV]
              rw [put_get fun e=>hji (hdist j i oj o d hj hi hd e)]
          rw [e]
          exact this
  · rintro D tm h hD ⟨hl,hrest,hS,hI⟩
    have k:=fin D h (fun i hi=>hD i (by simpa using hi)) hI
    have k2:=depAll_use (tm:=tm) _ _ k fun j hj=>by
      have hjlt:j<ops.size:=by simpa using hj
      rw [hdst j ops[j] (Array.getElem?_eq_getElem hjlt)]
      exact hS j ops[j] (Array.getElem?_eq_getElem hjlt) (hD j hjlt)
    have e:putD ds tm (List.range ops.size) tm0=tm:=by
      apply List.ext_getElem?
      intro t
      rw [putD_get t _ _ hl]
      split
      · rfl
      · rename_i hno
        refine (hrest t fun j oj hj hd=>hno ⟨j,?_,?_⟩).symm
        · simpa using (Array.getElem?_eq_some_iff.1 hj).1
        · rw [hdst j oj hj]; exact hd
    rw [e] at k2
    exact k2
theorem Down.not0 {D:Nat→Bool} (hd:Down ops D) {j k:Nat} (hp:Pre ops j k) (hj:D j=false):D k=false:=by
  cases hk:D k with
  | false=>rfl
  | true=>rw [hd j k hp hk] at hj; cases hj
theorem Down.not {D:Nat→Bool} (hd:Down ops D) (j k:Nat) (hb:((befs ops.toList []).getD k 0).testBit j=true) (hj:D j=false):D k=false:=hd.not0 (pre_bit hb) hj
end
theorem dAn (ds:List (Option Tmp)) (S:Nat→Value→Prop) (t:List Value) (C:List Value→Prop):depAll ds S [] t C=C t:=rfl
theorem dAc (ds:List (Option Tmp)) (S:Nat→Value→Prop) (j:Nat) (r:List Nat) (t:List Value) (C:List Value→Prop):depAll ds S (j :: r) t C=∀ v,S j v→depAll ds S r (put t (ds.getD j none) v) C:=rfl
end Go.Proofs.Ytmpgpkdijfcfhaa.Hz
