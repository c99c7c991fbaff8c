/- A region that draws its order, told by what holds at each set of operations that are done. -/
import Derived.Test.YtmpgpkdijfcfhaaHyKH
namespace Go.Proofs.Ytmpgpkdijfcfhaa.Hz
open Go.RowKit
set_option linter.unusedVariables false
set_option linter.unusedSimpArgs false
section
variable {P:Program} {ops:Array Oper}
theorem aop_congr {wk:Bool} {o:Oper} {tm tm':List Value} {h:Hp} {K K':List Value→Hp→Prop} (he:∀ x∈o.op.operands,ev tm x=ev tm' x) (hK:∀ v h',K (put tm o.dst v) h'→K' (put tm' o.dst v) h') (k:aop P wk o tm h K):aop P wk o tm' h K':=by
  have e1:=qev_congr (P:=P) o.op he
  have e2:=lev_congr (P:=P) (h0:=h) o.op he
  have e3:=eev_congr (P:=P) (h0:=h) o.op he
  unfold aop at k ⊢
  split
  · rename_i f args argTypes hop
    rw [hop] at he
    simp only [hop] at k
    have hf:ev tm f=ev tm' f:=he f (by simp [Op.operands,Call.operands])
    have ha:args.toList.map (ev tm)=args.toList.map (ev tm'):=mapL _ fun x hx=>he x (by simp [Op.operands,Call.operands] at hx ⊢; simp [hx])
    rw [hf,ha] at k
    split at k
    · rename_i g first cap hev
      try simp only [hev]
      exact ⟨k.1,k.2.mono fun v h' hh=>⟨hh.1,hK _ _ hh.2⟩⟩
    · exact k.elim
  · rename_i hno
    split at k
    · rename_i f args argTypes hop
      exact absurd hop (hno _ _ _)
    cases hk:kdOf P o.op with
    | pure =>
      simp only [hk] at k ⊢
      obtain ⟨v,h1,h2⟩:=k
      exact ⟨v,e1 ▸ h1,hK _ _ h2⟩
    | load =>
      simp only [hk] at k ⊢
      obtain ⟨v,h1,h2⟩:=k
      exact ⟨v,e2 ▸ h1,hK _ _ h2⟩
    | call =>
      simp only [hk] at k
    | weak | strong =>
      simp only [hk] at k ⊢
      obtain ⟨v,h',h1,h2⟩:=k
      exact ⟨v,h',e3 ▸ h1,hK _ _ h2⟩
theorem astep_congr {wk:Bool} {o:Oper} {tm tm':List Value} {h:Hp} {K K':List Value→Hp→Prop} (he:∀ x∈o.op.operands,ev tm x=ev tm' x) (hg:∀ j want,o.guard=some (j,want)→gslot ops tm j=gslot ops tm' j) (hK:∀ v h',K (put tm o.dst v) h'→K' (put tm' o.dst v) h') (k:astep P ops wk o tm h K):astep P ops wk o tm' h K':=by
  unfold astep at k ⊢
  split at k
  · exact aop_congr he hK k
  · rename_i j want hgd
    rw [hg j want hgd] at k
    split at k
    · exact ⟨fun hb=>aop_congr he hK (k.1 hb),fun hb=>hK _ _ (k.2 hb)⟩
    · split at k
      · rename_i hv; rw [if_pos hv]; exact hK _ _ k
      · exact k.elim
    · exact k.elim
def Down (ops:Array Oper) (D:Nat→Bool):Prop:=∀ j k,Pre ops j k→D k=true→D j=true
def InvR (P:Program) (ops:Array Oper) (Φ:(Nat→Bool)→List Value→Hp→Prop) (K:List Value→Hp→Prop):Prop :=
  (∀ i o D tm h,ops[i]?=some o→D i=false→Down ops D→(∀ j,Pre ops j i→D j=true)→Φ D tm h→astep P ops false o tm h (Φ fun j=>D j || j == i)) ∧
  ∀ D tm h,(∀ i,i<ops.size→D i=true)→Φ D tm h→K tm h
theorem Shut.pre {listed:Array Bool} (hs:Shut ops listed) {j k:Nat} (hp:Pre ops j k) (hk:listed.getD k false=true):listed.getD j false=true:=pre_listed hs hp (.inl hk)
variable {Q:Exit→Act→World→Prop} {K:List Value→Hp→Prop} {B:Bd} {w0:World}
theorem inv_A (hedge:∀ i o e,ops[i]?=some o→e∈o.after→Region.binds .any e=true→e.on<i) {Φ:(Nat→Bool)→List Value→Hp→Prop} (hΦ:InvR P ops Φ K) :
    ∀ (fuel:Nat) (r:List Nat) (listed:Array Bool) {φ:Inj} {tm:List Value} {h:Hp} {a:Act} {w:World},r.length≤fuel→r.Nodup→listed.size=ops.size→(∀ i,i∈r↔i<ops.size∧listed.getD i false=false)→Shut ops listed →
      Φ (fun i=>listed.getD i false) tm h→RelSt P B w0 φ tm h a w→(∀ φ' tm' h' a' w',RelSt P B w0 φ' tm' h' a' w'→φ <+: φ'→K tm' h'→Q .normal a' w')→wpAny P .any ops Q fuel listed a w:=by
  have last:∀ (listed:Array Bool) {φ:Inj} {tm:List Value} {h:Hp} {a:Act} {w:World},(∀ i,i∈([]:List Nat)↔i<ops.size∧listed.getD i false=false)→Φ (fun i=>listed.getD i false) tm h→K tm h:=by
    intro listed φ tm h a w hmem k
    refine hΦ.2 _ tm h (fun i hi=>?_) k
    cases hx:listed.getD i false with
    | true=>rfl
    | false=>exact absurd ((hmem i).2 ⟨hi,hx⟩) (by simp)
  intro fuel
  induction fuel with
  | zero =>
    intro r listed φ tm h a w hlen hnd hsz hmem hshut k R hQ
    have hr:r=[]:=List.eq_nil_of_length_eq_zero (by omega)
    subst hr
    refine ⟨?_,hQ φ tm h a w R (List.prefix_refl _) (last (φ:=φ) (a:=a) (w:=w) listed hmem k)⟩
    cases hx:Region.ready .any ops listed with
    | nil=>rfl
    | cons i l =>
      exfalso
      have hi:i∈Region.ready .any ops listed:=by rw [hx]; simp
      obtain ⟨h0,o,ho,_⟩:=mem_ready.1 hi
      have hlt:=(Array.getElem?_eq_some_iff.1 ho).1
      have:i∈([]:List Nat):=(hmem i).2 ⟨hlt,by simpa [Array.getD_eq_getD_getElem?,Array.getElem?_eq_getElem (hsz ▸ hlt)] using h0⟩
      cases this
  | succ fuel ih =>
    intro r listed φ tm h a w hlen hnd hsz hmem hshut k R hQ
    refine ⟨fun hr=>?_,fun i hi=>?_⟩
    · obtain rfl:=some_first hedge hsz hmem hr
      exact hQ φ tm h a w R (List.prefix_refl _) (last (φ:=φ) (a:=a) (w:=w) listed hmem k)
    · obtain ⟨h0,oi,hoi,hall⟩:=mem_ready.1 hi
      have hlt:=(Array.getElem?_eq_some_iff.1 hoi).1
      have h0':listed.getD i false=false:=by simpa [Array.getD_eq_getD_getElem?,Array.getElem?_eq_getElem (hsz ▸ hlt)] using h0
      obtain ⟨r1,r2,rfl⟩:=List.append_of_mem ((hmem i).2 ⟨hlt,h0'⟩)
      have step:=hΦ.1 i oi (fun j=>listed.getD j false) tm h hoi h0' (fun j k hp hk=>hshut.pre hp hk) (fun j hp=>pre_listed hshut hp (.inr hi)) k
      have hD:(fun j=>listed.getD j false || j == i)=fun j=>(listed.setIfInBounds i true).getD j false:=by
        funext j
        by_cases hxe:i=j
        · subst hxe
          simp [hsz,hlt,Array.getD_eq_getD_getElem?]
        · rw [getD_set_ne false hxe]
          have:(j == i)=false:=by simpa using fun e=>hxe (e.symm)
          simp [this]
      rw [hD] at step
      refine wpOp_mono ?_ (astep_sound hoi step R Q)
      rintro a' w' ⟨φ',tm',h',p1,p2,p3⟩
      have hsub:(r1++r2).Sublist (r1++i :: r2):=List.Sublist.append (List.Sublist.refl _) (List.sublist_cons_self _ _)
      exact ih (r1++r2) (listed.setIfInBounds i true) (by simp at hlen ⊢; omega) (hnd.sublist hsub) (by simpa using hsz) (listed_step hsz hlt hmem (mem_drop1 hnd)) (shut_step hshut hoi hall) p3 p2 fun φ2 tm2 h2 a2 w2 q1 q2 q3=>hQ φ2 tm2 h2 a2 w2 q1 (p1.trans q2) q3
theorem inv_sound (hedge:∀ i o e,ops[i]?=some o→e∈o.after→Region.binds .any e=true→e.on<i) {Φ:(Nat→Bool)→List Value→Hp→Prop} (hΦ:InvR P ops Φ K) {w:World} {φ:Inj} {tm:List Value} {h:Hp} {ac:Act}
    (k:Φ (fun _=>false) tm h) (R:RelSt P B w0 φ tm h ac w) (hQ:∀ φ' tm' h' a' w',RelSt P B w0 φ' tm' h' a' w'→φ <+: φ'→K tm' h'→Q .normal a' w'):wpAny P .any ops Q ops.size (Array.replicate ops.size false) ac w:=by
  have e:(fun _:Nat=>false)=fun i=>(Array.replicate ops.size false).getD i false:=by
    funext i
    rw [Array.getD_eq_getD_getElem?,Array.getElem?_replicate]
    split <;> rfl
  rw [e] at k
  refine inv_A hedge hΦ ops.size (List.range ops.size) _ (by simp) List.nodup_range (by simp) (fun i=>?_) ?_ k R hQ
  · rw [Array.getD_eq_getD_getElem?,Array.getElem?_replicate]
    simp
    intro hi
    simp [hi]
  · intro i o e hi hl _ _
    rw [Array.getD_eq_getD_getElem?,Array.getElem?_replicate] at hl
    split at hl <;> simp at hl
end
end Go.Proofs.Ytmpgpkdijfcfhaa.Hz
