/- Texts of the calculus and of the program's functions, merged: I J K KE KF. -/
import Derived.Test.YtmpgpkdijfcfhaaHyGA
import Derived.Eval
namespace Go.Proofs.Ytmpgpkdijfcfhaa.Hz
open Go.RowKit
set_option linter.unusedVariables false
set_option linter.unusedSimpArgs false
def Ext (h h':Hp):Prop:=h.length≤h'.length∧∀ o,o<h.length→h'[o]?=h[o]?
theorem Ext.refl (h:Hp):Ext h h:=⟨Nat.le_refl _,fun _ _=>rfl⟩
theorem Ext.trans {a b c:Hp} (h:Ext a b) (k:Ext b c):Ext a c:=⟨Nat.le_trans h.1 k.1,fun o ho=>(k.2 o (by have:=h.1; omega)).trans (h.2 o ho)⟩
theorem Ext.push (h t:Hp):Ext h (h++t):=⟨by simp,fun o ho=>List.getElem?_append_left ho⟩
def put (tm:List Value) (d:Option Tmp) (v:Value):List Value :=
  match d with
  | some d=>tm.set d v
  | none=>tm
section
variable (P:Program)
def CallsV (f:FuncId) (args:Array Value) (w:World) (S:Value→World→Prop):Prop :=
  match (callFunc f args).run P w with
  | .ok (.enter g bs) w1=>Calls P g bs w1 fun e w2=>∃ v,e=.returned v∧S v w2
  | .ok (.value v) w1=>S v w1
  | _=>False
def ACall (f:FuncId) (args:List Value) (h:Hp) (R:Value→Hp→Prop):Prop :=
  ∀ (B:Bd) (w0:World) (φ:Inj) (w:World) (args':List Value),Rel P B w0 φ h w→All2 (RelV φ) args args' →
    CallsV P f args'.toArray w fun v' w'=>∃ φ' v h',φ <+: φ'∧Rel P B w0 φ' h' w'∧RelV φ' v v'∧R v h'
def asplit (b:Bool) (A B:Prop):Prop:=(b=true→A)∧(b=false→B)
def aop (wk:Bool) (o:Oper) (tm:List Value) (h:Hp) (K:List Value→Hp→Prop):Prop :=
  match o.op with
  | .call { callee:=.value f,args,.. } =>
    match ev tm f with
    | .func (.func g) first cap=>first=#[]∧ACall P g (args.toList.map (ev tm)++cap.toList) h fun v h'=>(wk=true→Ext h h')∧K (put tm o.dst v) h'
    | _=>False
  | op =>
    match kdOf P op with
    | .pure=>∃ v,qev P (ev tm) op=some v∧K (put tm o.dst v) h
    | .load=>∃ v,lev P h (ev tm) op=some v∧K (put tm o.dst v) h
    | .call=>False
    | _=>∃ v h',eev P h (ev tm) op=some (v,h')∧K (put tm o.dst v) h'
def gslot (ops:Array Oper) (tm:List Value) (j:Nat):Option Value:=((ops[j]?).bind (·.dst)).bind (tm[·]?)
def astep (ops:Array Oper) (wk:Bool) (o:Oper) (tm:List Value) (h:Hp) (K:List Value→Hp→Prop):Prop :=
  match o.guard with
  | none=>aop P wk o tm h K
  | some (j,want) =>
    match gslot ops tm j with
    | some (.bool b)=>asplit (b == want) (aop P wk o tm h K) (K (put tm o.dst undef) h)
    | some (.tuple vs)=>if vs=#[] then K (put tm o.dst undef) h else False
    | _=>False
def aops (ops:Array Oper) (wk:Nat→Bool):List Nat→List Value→Hp→(List Value→Hp→Prop)→Prop
  | [],tm,h,K=>K tm h
  | i :: rest,tm,h,K =>
    match ops[i]? with
    | none=>aops ops wk rest tm h K
    | some o=>astep P ops (wk i) o tm h fun tm h=>aops ops wk rest tm h K
end
structure RelSt (P:Program) (B:Bd) (w0:World) (φ:Inj) (tm:List Value) (h:Hp) (a:Act) (w:World):Prop where
  tm:All2 (RelV φ) tm a.tmps.toList
  df:a.defers=[]
  hp:Rel P B w0 φ h w
section
variable {P:Program} {B:Bd} {w0 w:World} {φ:Inj} {h:Hp} {tm:List Value} {a:Act}
theorem RelSt.ev (R:RelSt P B w0 φ tm h a w) (x:Operand):RelV φ (ev tm x) (a.eval x):=relTm_ev R.tm a.defers x
theorem RelSt.put (R:RelSt P B w0 φ tm h a w) {φ':Inj} {h':Hp} {w':World} {v v':Value} (d:Option Tmp) (hφ:φ <+: φ') (hr:Rel P B w0 φ' h' w') (hv:RelV φ' v v'):RelSt P B w0 φ' (put tm d v) h' (a.put d v') w':=by
  have ht:All2 (RelV φ') tm a.tmps.toList:=R.tm.mono fun _ _ r=>r.mono hφ
  cases d with
  | none=>exact ⟨ht,R.df,hr⟩
  | some d =>
    refine ⟨?_,R.df,hr⟩
    show All2 (RelV φ') (tm.set d v) (a.tmps.setIfInBounds d v').toList
    rw [Array.toList_setIfInBounds]
    exact ht.set d hv
theorem ACall.mono {f:FuncId} {args:List Value} {R R':Value→Hp→Prop} (k:ACall P f args h R) (hr:∀ v h',R v h'→R' v h'):ACall P f args h R':=by
  intro B w0 φ w args' hrel hargs
  have:=k B w0 φ w args' hrel hargs
  unfold CallsV at *
  split at this
  · rename_i g bs w1 he
    refine this.mono fun e w2 ⟨v,h1,φ',v0,h',p1,p2,p3,p4⟩=>⟨v,h1,φ',v0,h',p1,p2,p3,hr _ _ p4⟩
  · rename_i v w1 he
    obtain ⟨φ',v0,h',p1,p2,p3,p4⟩:=this
    exact ⟨φ',v0,h',p1,p2,p3,hr _ _ p4⟩
  · exact this
theorem aop_sound {wk:Bool} {o:Oper} {K:List Value→Hp→Prop} (k:aop P wk o tm h K) (R:RelSt P B w0 φ tm h a w) (Q:Exit→Act→World→Prop) :
    o.wp P a w (fun a' w'=>∃ φ' tm' h',φ <+: φ'∧RelSt P B w0 φ' tm' h' a' w'∧K tm' h') Q:=by
  unfold aop at k
  split at k
  · rename_i f args argTypes hop
    have hf:=R.ev f
    split at k
    · rename_i g first cap hev
      obtain ⟨rfl,k⟩:=k
      rw [hev] at hf
      obtain ⟨_,cap',hf',hcap⟩:=hf
      have hargs:All2 (RelV φ) (args.toList.map (Hz.ev tm)++cap.toList) (args.toList.map a.eval++cap'.toList) :=
        (All2.map2 _ _ fun c _=>R.ev c).append (hcap.mono fun x y r=>relV_of (by
          unfold RelC
          split
          · simp [RelC0] at r
          · exact r))
      have hc:=k B w0 φ w _ R.hp hargs
      have harr:(args.toList.map a.eval++cap'.toList).toArray=args.map a.eval++cap':=by
        apply Array.ext'
        simp
      rw [harr] at hc
      unfold Oper.wp
      have hex:(execOp a.eval o).run P w=(callFunc g (args.map a.eval++cap')).run P w:=by
        obtain ⟨dst,op,type,pos,after,guard⟩:=o
        simp only at hop
        subst hop
        simp [execOp,resolve,Deferred.ofValue,hf',invoke]
      rw [hex]
      unfold CallsV at hc
      split at hc
      · rename_i g' bs w1 he
        rw [he]
        simp only [Oper.upon]
        refine hc.mono fun e w2 ⟨v',he',φ',v,h',p1,p2,p3,p4,p5⟩=>?_
        subst he'
        exact ⟨φ',_,h',p1,R.put o.dst p1 p2 p3,p5⟩
      · rename_i v' w1 he
        rw [he]
        obtain ⟨φ',v,h',p1,p2,p3,p4,p5⟩:=hc
        exact ⟨φ',_,h',p1,R.put o.dst p1 p2 p3,p5⟩
      · exact hc.elim
    · exact k.elim
  · unfold Oper.wp
    split at k
    · obtain ⟨v,h1,h2⟩:=k
      obtain ⟨v',r1,r2⟩:=qev_sound (P:=P) (fun x=>R.ev x) h1
      rw [r1 w]
      exact ⟨φ,_,h,List.prefix_refl _,R.put o.dst (List.prefix_refl _) R.hp r2,h2⟩
    · obtain ⟨v,h1,h2⟩:=k
      obtain ⟨v',r1,r2⟩:=lev_sound R.hp (fun x=>R.ev x) h1
      rw [r1]
      exact ⟨φ,_,h,List.prefix_refl _,R.put o.dst (List.prefix_refl _) R.hp r2,h2⟩
    · exact k.elim
    · obtain ⟨v,h',h1,h2⟩:=k
      obtain ⟨φ',v',w',r1,r2,r3,r4⟩:=eev_sound R.hp (fun x=>R.ev x) h1
      rcases r1 with r1 | ⟨r1,rfl⟩
      · rw [r1]
        exact ⟨φ',_,h',r2,R.put o.dst r2 r3 r4,h2⟩
      · rw [r1]
        exact ⟨φ',_,h',r2,R.put o.dst r2 r3 r4,h2⟩
theorem gslot_bool {ops:Array Oper} (R:RelSt P B w0 φ tm h a w) {j:Nat} {b:Bool} (e:gslot ops tm j=some (.bool b)):yielded ops a.tmps j=some b:=by
  unfold gslot at e
  simp only [Option.bind_eq_some_iff] at e
  obtain ⟨t,ht,e⟩:=e
  obtain ⟨v',k,r⟩:=R.tm.get t _ e
  obtain rfl:=rBool (φ:=φ) r
  have:a.tmps[t]?=some (.bool b):=by simpa using k
  unfold yielded
  have h2:((ops[j]?).bind (·.dst)).bind (a.tmps[·]?)=some (.bool b):=by
    rw [Option.bind_eq_some_iff]
    exact ⟨t,by rw [Option.bind_eq_some_iff]; exact ht,this⟩
  rw [h2]
theorem gslot_undef {ops:Array Oper} (R:RelSt P B w0 φ tm h a w) {j:Nat} (e:gslot ops tm j=some (.tuple #[])):yielded ops a.tmps j=none:=by
  unfold gslot at e
  simp only [Option.bind_eq_some_iff] at e
  obtain ⟨t,ht,e⟩:=e
  obtain ⟨v',k,r⟩:=R.tm.get t _ e
  obtain ⟨vs',rfl,hvs⟩:=r
  have:a.tmps[t]?=some (.tuple vs'):=by simpa using k
  unfold yielded
  have h2:((ops[j]?).bind (·.dst)).bind (a.tmps[·]?)=some (.tuple vs'):=by
    rw [Option.bind_eq_some_iff]
    exact ⟨t,by rw [Option.bind_eq_some_iff]; exact ht,this⟩
  rw [h2]
theorem astep_sound {ops:Array Oper} {wk:Bool} {i:Nat} {o:Oper} {K:List Value→Hp→Prop} (hi:ops[i]?=some o) (k:astep P ops wk o tm h K) (R:RelSt P B w0 φ tm h a w) (Q:Exit→Act→World→Prop) :
    wpOp P ops Q i (fun a' w'=>∃ φ' tm' h',φ <+: φ'∧RelSt P B w0 φ' tm' h' a' w'∧K tm' h') a w:=by
  unfold wpOp
  simp only [hi]
  unfold astep at k
  split at k
  · rename_i hg
    rw [if_pos (by unfold Region.wanted; rw [hg])]
    exact .inl (aop_sound k R Q)
  · rename_i j want hg
    have skip:K (put tm o.dst undef) h→∃ φ' tm' h',φ <+: φ'∧RelSt P B w0 φ' tm' h' (a.put o.dst undef) w∧K tm' h' :=
      fun hk=>⟨φ,_,h,List.prefix_refl _,R.put o.dst (List.prefix_refl _) R.hp (relV_undef φ),hk⟩
    split at k
    · rename_i b hb
      have hy:=gslot_bool R hb
      have hw:Region.wanted o (yielded ops a.tmps)=(b == want):=by
        unfold Region.wanted
        rw [hg]
        simp only [hy]
        cases b <;> cases want <;> rfl
      rw [hw]
      cases hbw:(b == want) with
      | true=>exact .inl (aop_sound (k.1 hbw) R Q)
      | false=>exact skip (k.2 hbw)
    · rename_i vs hb
      split at k
      · rename_i hvs
        subst hvs
        have hy:=gslot_undef R hb
        have hw:Region.wanted o (yielded ops a.tmps)=false:=by
          unfold Region.wanted
          rw [hg]
          simp only [hy]
          rfl
        rw [hw]
        exact skip k
      · exact k.elim
    · exact k.elim
theorem aops_sound {ops:Array Oper} {wk:Nat→Bool} {Q:Exit→Act→World→Prop}:∀ (l:List Nat) {φ:Inj} {tm:List Value} {h:Hp} {a:Act} {w:World} {K:List Value→Hp→Prop},aops P ops wk l tm h K→RelSt P B w0 φ tm h a w →
    (∀ φ' tm' h' a' w',φ <+: φ'→RelSt P B w0 φ' tm' h' a' w'→K tm' h'→Q .normal a' w')→wpOps P ops Q l a w
  | [],φ,tm,h,a,w,K,k,R,hQ=>hQ φ tm h a w (List.prefix_refl _) R k
  | i :: rest,φ,tm,h,a,w,K,k,R,hQ=>by
    rw [wpOps_cons]
    unfold aops at k
    cases hi:ops[i]? with
    | none =>
      simp only [hi] at k
      unfold wpOp
      simp only [hi]
      exact aops_sound rest k R hQ
    | some o =>
      simp only [hi] at k
      refine wpOp_mono ?_ (astep_sound hi k R Q)
      rintro a' w' ⟨φ',tm',h',p1,p2,p3⟩
      exact aops_sound rest p3 p2 fun φ2 tm2 h2 a2 w2 q1 q2 q3=>hQ φ2 tm2 h2 a2 w2 (p1.trans q1) q2 q3
end
section
variable {P:Program}
theorem mapO {ρ ρ':Operand→Value}:∀ (o:Option Operand),(∀ x∈o.toArray,ρ x=ρ' x)→o.map ρ=o.map ρ'
  | none,_=>rfl
  | some x,h=>by simp [h x (by simp)]
theorem mapL {ρ ρ':Operand→Value} (l:List Operand) (h:∀ x∈l,ρ x=ρ' x):l.map ρ=l.map ρ':=List.map_congr_left h
theorem qev_congr {ρ ρ':Operand→Value} (op:Op) (h:∀ x∈op.operands,ρ x=ρ' x):qev P ρ op=qev P ρ' op:=by
  cases op with
  | move x=>simp [qev,h x (by simp [Op.operands])]
  | assign x=>simp [qev,h x (by simp [Op.operands])]
  | pick c a b=>simp only [qev,h c (by simp [Op.operands]),h a (by simp [Op.operands]),h b (by simp [Op.operands])]
  | nilCheck x=>simp only [qev,h x (by simp [Op.operands])]
  | binOp op t x y u=>simp only [qev,h x (by simp [Op.operands]),h y (by simp [Op.operands])]
  | unOp op t x=>simp only [qev,h x (by simp [Op.operands])]
  | convert s d x=>simp only [qev,h x (by simp [Op.operands])]
  | fieldAddr t x f=>simp only [qev,h x (by simp [Op.operands])]
  | field t x f=>simp only [qev,h x (by simp [Op.operands])]
  | indexAddr t x y=>simp only [qev,h x (by simp [Op.operands]),h y (by simp [Op.operands])]
  | index t x y=>simp only [qev,h x (by simp [Op.operands]),h y (by simp [Op.operands])]
  | extract x i=>simp only [qev,h x (by simp [Op.operands])]
  | slice t x lo hi mx =>
    simp only [qev,h x (by simp [Op.operands]),mapO lo fun y hy=>h y (by simp [Op.operands] at hy ⊢; simp [hy]),mapO hi fun y hy=>h y (by simp [Op.operands] at hy ⊢; simp [hy]),mapO mx fun y hy=>h y (by simp [Op.operands] at hy ⊢; simp [hy])]
  | makeFunc fn first cap =>
    cases fn with
    | func g =>
      have hc:cap.map ρ=cap.map ρ':=Array.map_congr_left fun x hx=>h x (by simp [Op.operands,hx])
      have hc2:cap.toList.map ρ=cap.toList.map ρ':=mapL _ fun x hx=>h x (by simp [Op.operands] at hx ⊢; simp [hx])
      simp only [qev,hc,hc2]
    | _=>simp only [qev]
  | build t parts =>
    have:(parts.toList.map fun p=>(p.1,ρ p.2))=parts.toList.map fun p=>(p.1,ρ' p.2):=List.map_congr_left fun p hp=>by rw [h p.2 (by simp only [Op.operands]; simp at hp ⊢; exact ⟨_,hp⟩)]
    simp only [qev,this]
  | call c =>
    obtain ⟨cal,args,ts⟩:=c
    have ha:args.toList.map ρ=args.toList.map ρ':=mapL _ fun x hx=>h x (by simp only [Op.operands,Call.operands]; simp at hx ⊢; simp [hx])
    have h1 : ∀ x, args.toList = [x] → ρ x = ρ' x := fun x hx => h x (by simp only [Op.operands, Call.operands]; have : x ∈ args.toList := by rw [hx]; simp
                                                                         simp at this ⊢; simp [this])
    cases cal with
    | builtin b =>
      cases b with
      | len =>
        simp only [qev]
        split
        · rename_i t x ht hx
          rw [h1 x hx]
        · rfl
      | min=>simp only [qev,ha]
      | max=>simp only [qev,ha]
      | _=>simp only [qev]
    | _=>simp only [qev]
  | _=>simp only [qev]
theorem lev_congr {h0:Hp} {ρ ρ':Operand→Value} (op:Op) (h:∀ x∈op.operands,ρ x=ρ' x):lev P h0 ρ op=lev P h0 ρ' op:=by
  cases op with
  | load t x=>simp only [lev,h x (by simp [Op.operands])]
  | convert s d x=>simp only [lev,h x (by simp [Op.operands])]
  | slice t x lo hi mx =>
    simp only [lev,h x (by simp [Op.operands]),mapO lo fun y hy=>h y (by simp [Op.operands] at hy ⊢; simp [hy]),mapO hi fun y hy=>h y (by simp [Op.operands] at hy ⊢; simp [hy]),mapO mx fun y hy=>h y (by simp [Op.operands] at hy ⊢; simp [hy])]
  | _=>simp only [lev]
theorem eev_congr {h0:Hp} {ρ ρ':Operand→Value} (op:Op) (h:∀ x∈op.operands,ρ x=ρ' x):eev P h0 ρ op=eev P h0 ρ' op:=by
  cases op with
  | box t x=>simp only [eev,h x (by simp [Op.operands])]
  | store t x y=>simp only [eev,h x (by simp [Op.operands]),h y (by simp [Op.operands])]
  | convert s d x=>simp only [eev,h x (by simp [Op.operands])]
  | makeSlice t x y=>simp only [eev,h x (by simp [Op.operands]),h y (by simp [Op.operands])]
  | buildSlice t n parts =>
    have:(parts.toList.map fun p=>(p.1,ρ p.2))=parts.toList.map fun p=>(p.1,ρ' p.2):=List.map_congr_left fun p hp=>by rw [h p.2 (by simp only [Op.operands]; simp at hp ⊢; exact ⟨_,hp⟩)]
    simp only [eev,this]
  | call c =>
    obtain ⟨cal,args,ts⟩:=c
    have h1:∀ x y,args.toList=[x,y]→ρ x=ρ' x∧ρ y=ρ' y:=fun x y hx=>by
      have hm:∀ z∈args.toList,ρ z=ρ' z:=fun z hz=>h z (by simp only [Op.operands,Call.operands]; simp at hz ⊢; simp [hz])
      exact ⟨hm x (by rw [hx]; simp),hm y (by rw [hx]; simp)⟩
    have h2:∀ x,args.toList=[x]→ρ x=ρ' x:=by
      intro x hx
      have hm:x∈args.toList:=by rw [hx]; simp
      refine h x ?_
      simp only [Op.operands,Call.operands]
      simp at hm ⊢
      simp [hm]
    cases cal with
    | builtin b =>
      cases b with
      | append =>
        simp only [eev]
        split
        · rename_i st xt s x ht hx
          rw [(h1 s x hx).1,(h1 s x hx).2]
        · rfl
      | copy =>
        simp only [eev]
        split
        · rename_i t st d s ht hx
          rw [(h1 d s hx).1,(h1 d s hx).2]
        · rfl
      | clear =>
        simp only [eev]
        split
        · rename_i t x ht hx
          rw [h2 x hx]
        · rfl
      | _=>simp only [eev]
    | _=>simp only [eev]
  | _=>simp only [eev]
theorem ev_put {tm:List Value} {d:Option Tmp} {v:Value} {x:Operand} (h:∀ t,d=some t→x≠.tmp t):ev (put tm d v) x=ev tm x:=by
  cases d with
  | none=>rfl
  | some d =>
    cases x with
    | tmp t =>
      have hne:d≠t:=fun e=>h d rfl (e ▸ rfl)
      simp [ev,put,List.getElem?_set_ne hne]
    | _=>rfl
theorem put_comm (tm:List Value) {x y:Option Tmp} (v u:Value) (h:∀ d,x=some d→y≠some d):put (put tm x v) y u=put (put tm y u) x v:=by
  cases x with
  | none=>rfl
  | some d =>
    cases y with
    | none=>rfl
    | some e =>
      have hne:d≠e:=fun he=>h d rfl (he ▸ rfl)
      exact List.set_comm _ _ hne
variable {ops:Array Oper} {tm:List Value} {h:Hp}
theorem ev_apart {o:Oper} {d:Option Tmp} {v:Value} (k:∀ t,d=some t→t ∉ o.looksAt ops):∀ x∈o.op.operands,ev (put tm d v) x=ev tm x:=fun x hx=>ev_put fun t ht hxt=>k t ht (by
  subst hxt
  exact List.mem_append_left _ (List.mem_filterMap.2 ⟨.tmp t,by simpa using hx,rfl⟩))
theorem gslot_apart {o:Oper} {d:Option Tmp} {v:Value} (k:∀ t,d=some t→t ∉ o.looksAt ops) {j:Nat} {want:Bool} (hg:o.guard=some (j,want)):gslot ops (put tm d v) j=gslot ops tm j:=by
  cases d with
  | none=>rfl
  | some d =>
    unfold gslot
    cases ht:(ops[j]?).bind (·.dst) with
    | none=>rfl
    | some t =>
      have hne:d≠t:=fun e=>k d rfl (by subst e; simp [Oper.looksAt,hg,ht])
      simp [put,List.getElem?_set_ne hne]
theorem aop_apart {wk:Bool} {o:Oper} {d:Option Tmp} {v:Value} (k:∀ t,d=some t→t ∉ o.looksAt ops) (kd:∀ t,d=some t→o.dst≠some t) (K:List Value→Hp→Prop) :
    aop P wk o (put tm d v) h K↔aop P wk o tm h (fun tm' h'=>K (put tm' d v) h'):=by
  have he:=ev_apart (tm:=tm) (v:=v) k
  have hp:∀ u,put (put tm d v) o.dst u=put (put tm o.dst u) d v:=fun u=>put_comm tm v u kd
  unfold aop
  split
  · rename_i f args argTypes hop
    rw [hop] at he
    have hf:ev (put tm d v) f=ev tm f:=he f (by simp [Op.operands,Call.operands])
    have ha:args.toList.map (ev (put tm d v))=args.toList.map (ev tm):=mapL _ fun x hx=>he x (by simp [Op.operands,Call.operands] at hx ⊢; simp [hx])
    rw [hf]
    split
    · rw [ha]
      simp only [hp]
    · exact Iff.rfl
  · split
    · rw [qev_congr o.op he]; simp only [hp]
    · rw [lev_congr o.op he]; simp only [hp]
    · exact Iff.rfl
    · rw [eev_congr o.op he]; simp only [hp]
theorem astep_apart {wk:Bool} {o:Oper} {d:Option Tmp} {v:Value} (k:∀ t,d=some t→t ∉ o.looksAt ops) (kd:∀ t,d=some t→o.dst≠some t) (K:List Value→Hp→Prop) :
    astep P ops wk o (put tm d v) h K↔astep P ops wk o tm h (fun tm' h'=>K (put tm' d v) h'):=by
  have hp:∀ u,put (put tm d v) o.dst u=put (put tm o.dst u) d v:=fun u=>put_comm tm v u kd
  unfold astep
  split
  · exact aop_apart k kd K
  · rename_i j want hg
    rw [gslot_apart k hg]
    split
    · unfold asplit; rw [aop_apart k kd K,hp]
    · rw [hp]
    · exact Iff.rfl
def raw (P:Program) (o:Oper) (tm:List Value) (h:Hp):Option Value :=
  match kdOf P o.op with
  | .pure=>qev P (ev tm) o.op
  | .load=>lev P h (ev tm) o.op
  | _=>none
def val (P:Program) (ops:Array Oper) (o:Oper) (tm:List Value) (h:Hp):Option Value :=
  match o.guard with
  | none=>raw P o tm h
  | some (j,want) =>
    match gslot ops tm j with
    | some (.bool b)=>if b == want then raw P o tm h else some undef
    | some (.tuple vs)=>if vs=#[] then some undef else none
    | _=>none
def calm (P:Program) (o:Oper):Bool :=
  match kdOf P o.op with
  | .pure | .load=>true
  | _=>false
theorem calm_call {o:Oper} (hc:calm P o=true):∀ f args ts,o.op≠.call { callee:=.value f,args:=args,argTypes:=ts }:=by
  intro f args ts e
  unfold calm at hc
  rw [e] at hc
  simp [kdOf] at hc
theorem aop_calm {wk:Bool} {o:Oper} (hc:calm P o=true) (K:List Value→Hp→Prop):aop P wk o tm h K↔∃ v,raw P o tm h=some v∧K (put tm o.dst v) h:=by
  have hcall:=calm_call hc
  unfold calm at hc
  unfold aop raw
  split
  · rename_i f args ts hop
    exact absurd hop (hcall f args ts)
  · split
    · rename_i hk; simp only [hk]
    · rename_i hk; simp only [hk]
    · rename_i hk; simp [hk] at hc
    · rename_i h1 h2 h3
      split at hc
      · rename_i hk; exact absurd hk h1
      · rename_i hk; exact absurd hk h2
      · cases hc
theorem astep_calm {wk:Bool} {o:Oper} (hc:calm P o=true) (K:List Value→Hp→Prop):astep P ops wk o tm h K↔∃ v,val P ops o tm h=some v∧K (put tm o.dst v) h:=by
  unfold astep val
  cases hg:o.guard with
  | none=>exact aop_calm hc K
  | some g =>
    obtain ⟨j,want⟩:=g
    simp only
    cases hs:gslot ops tm j with
    | none=>simp
    | some s =>
      cases s with
      | bool b =>
        simp only [asplit]
        rw [aop_calm hc K]
        cases hbw:(b == want) <;> simp
      | tuple vs=>by_cases hv:vs=#[] <;> simp [hv]
      | _=>simp
theorem val_apart {o:Oper} {d:Option Tmp} {v:Value} (k:∀ t,d=some t→t ∉ o.looksAt ops):val P ops o (put tm d v) h=val P ops o tm h:=by
  have he:=ev_apart (tm:=tm) (v:=v) k
  have hr:raw P o (put tm d v) h=raw P o tm h:=by
    unfold raw
    rw [qev_congr o.op he,lev_congr o.op he]
  unfold val
  rw [hr]
  split
  · rfl
  · rename_i j want hg
    rw [gslot_apart k hg]
def VA (h:Hp):Value→Prop
  | .pointer (some a) | .slice (some a) _ _=>a.block<h.length
  | _=>True
theorem cellAt_ext {h':Hp} (hx:Ext h h') {o:Nat} (ho:o<h.length) (i:Nat):cellAt h' o i=cellAt h o i:=by
  unfold cellAt
  rw [hx.2 o ho]
theorem cellsAt_ext {h':Hp} (hx:Ext h h') {o:Nat} (ho:o<h.length):∀ (n i:Nat),cellsAt h' o i n=cellsAt h o i n
  | 0,_=>rfl
  | n+1,i=>by simp only [cellsAt,cellAt_ext hx ho,cellsAt_ext hx ho n]
theorem elAt_ext {h':Hp} (hx:Ext h h') {o:Nat} (ho:o<h.length):elAt h' o=elAt h o:=by
  unfold elAt
  rw [hx.2 o ho]
theorem lev_ext {h':Hp} {ρ:Operand→Value} (hx:Ext h h') (op:Op) (hv:∀ x∈op.operands,VA h (ρ x)):lev P h' ρ op=lev P h ρ op:=by
  cases op with
  | load t x =>
    have h1:=hv x (by simp [Op.operands])
    simp only [lev]
    split
    · rename_i a ha
      rw [ha] at h1
      have h2:a.block<h.length:=h1
      simp only [cellAt_ext hx h2,cellsAt_ext hx h2]
    · rfl
  | convert s d x =>
    have h1:=hv x (by simp [Op.operands])
    simp only [lev]
    split
    · split
      · rfl
      · rename_i a n c ha
        rw [ha] at h1
        have h2:a.block<h.length:=h1
        simp only [cellsAt_ext hx h2]
      · rfl
    · rfl
  | slice t x lo hi mx =>
    have h1:=hv x (by simp [Op.operands])
    simp only [lev]
    split
    · rfl
    · unfold asl2
      split
      · rename_i a n c ha
        rw [ha] at h1
        have h2:a.block<h.length:=h1
        simp only [elAt_ext hx h2]
      · rfl
  | _=>simp only [lev]
theorem val_ext {h':Hp} {o:Oper} (hx:Ext h h') (hv:∀ x,VA h (ev tm x)):val P ops o tm h'=val P ops o tm h:=by
  unfold val raw
  rw [lev_ext hx o.op fun x _=>hv x]
theorem val_pure {h':Hp} {o:Oper} (hc:kdOf P o.op=.pure):val P ops o tm h'=val P ops o tm h:=by
  unfold val raw
  simp only [hc]
theorem RelSt.va {B:Bd} {w0 w:World} {φ:Inj} {a:Act} (R:RelSt P B w0 φ tm h a w) (x:Operand):VA h (Hz.ev tm x):=by
  have r:=R.ev x
  have lt:∀ {o:Nat} {p:Pl},φ[o]?=some p→o<h.length:=fun e=>by rw [← R.hp.len]; exact (List.getElem?_eq_some_iff.1 e).1
  unfold VA
  split
  · rename_i a' he
    rw [he] at r
    obtain ⟨p,hp,_⟩:=r
    exact lt hp
  · rename_i a' n c he
    rw [he] at r
    obtain ⟨p,c',a2,hp,_⟩:=r
    exact lt hp
  · trivial
def Out (P:Program) (wk:Bool) (o:Oper) (h h':Hp):Prop :=
  match kdOf P o.op with
  | .pure | .load=>h'=h
  | .weak=>Ext h h'
  | .call=>wk=true→Ext h h'
  | .strong=>True
theorem eev_weak {ρ:Operand→Value} {op:Op} {v:Value} {h':Hp} (e:eev P h ρ op=some (v,h')) (hk:kdOf P op=.weak):Ext h h':=by
  have push:∀ t,Ext h (h++t):=Ext.push h
  cases op with
  | box t x =>
    simp only [eev,Option.bind_eq_some_iff] at e
    obtain ⟨cs,_,e⟩:=e
    split at e
    · simp only [Option.map_eq_some_iff,Prod.mk.injEq] at e
      obtain ⟨_,_,_,rfl⟩:=e; exact push _
    · cases e
  | alloc t =>
    simp only [eev,Option.bind_eq_some_iff] at e
    obtain ⟨z,_,e⟩:=e
    split at e
    · simp only [Option.map_eq_some_iff,Prod.mk.injEq] at e
      obtain ⟨_,_,_,rfl⟩:=e; exact push _
    · cases e
  | buildSlice t n ps =>
    simp only [eev,Option.bind_eq_some_iff] at e
    obtain ⟨⟨el,sz,bt,zs⟩,_,e⟩:=e
    simp only at e
    split at e
    · simp only [Option.bind_eq_some_iff] at e
      obtain ⟨cs,_,e⟩:=e
      split at e
      · injection e with e; injection e with _ e; subst e; exact push _
      · cases e
    · cases e
  | makeSlice t l c =>
    simp only [eev] at e
    split at e
    · simp only [Option.bind_eq_some_iff] at e
      obtain ⟨⟨el,sz,bt,zs⟩,_,e⟩:=e
      simp only at e
      split at e
      · injection e with e; injection e with _ e; subst e; exact push _
      · cases e
    · cases e
  | convert s d x =>
    simp only [eev] at e
    split at e
    · simp only [Option.bind_eq_some_iff] at e
      obtain ⟨el,_,e⟩:=e
      split at e
      · injection e with e; injection e with _ e; subst e; exact push _
      · cases e
    · split at e
      · injection e with e; injection e with _ e; subst e; exact Ext.refl _
      · cases e
    · cases e
  | call c =>
    obtain ⟨cal,args,ts⟩:=c
    cases cal with
    | builtin b=>cases b <;> simp [kdOf] at hk
    | _=>simp [kdOf] at hk
  | slice t x lo hi mx=>simp only [kdOf] at hk; split at hk <;> cases hk
  | _=>simp [kdOf] at hk
theorem aop_out {wk:Bool} {o:Oper} {K K':List Value→Hp→Prop} (hk:∀ v h',Out P wk o h h'→K (put tm o.dst v) h'→K' (put tm o.dst v) h') (k:aop P wk o tm h K):aop P wk o tm h K':=by
  unfold aop at *
  split at k
  · rename_i f args ts hop
    have ho:∀ h',Out P wk o h h'=(wk=true→Ext h h'):=fun h'=>by unfold Out; rw [hop]; rfl
    split at k
    · exact ⟨k.1,k.2.mono fun v h' ⟨h1,h2⟩=>⟨h1,hk _ _ (by rw [ho]; exact h1) h2⟩⟩
    · exact k
  · split at k
    · rename_i hkd
      obtain ⟨v,h1,h2⟩:=k; exact ⟨v,h1,hk _ _ (by unfold Out; simp [hkd]) h2⟩
    · rename_i hkd
      obtain ⟨v,h1,h2⟩:=k; exact ⟨v,h1,hk _ _ (by unfold Out; simp [hkd]) h2⟩
    · exact k
    · rename_i n1 n2 n3
      obtain ⟨v,h',h1,h2⟩:=k
      refine ⟨v,h',h1,hk _ _ ?_ h2⟩
      unfold Out
      split
      · rename_i hh; exact absurd hh n1
      · rename_i hh; exact absurd hh n2
      · rename_i hh; exact eev_weak h1 hh
      · rename_i hh; exact absurd hh n3
      · trivial
theorem out_refl {wk:Bool} {o:Oper}:Out P wk o h h:=by
  unfold Out
  split <;> first | rfl | exact Ext.refl h | exact fun _=>Ext.refl h | trivial
theorem astep_out {wk:Bool} {o:Oper} {K K':List Value→Hp→Prop} (hk:∀ v h',Out P wk o h h'→K (put tm o.dst v) h'→K' (put tm o.dst v) h') (k:astep P ops wk o tm h K):astep P ops wk o tm h K':=by
  unfold astep at *
  split at k
  · exact aop_out hk k
  · split at k
    · exact ⟨fun hb=>aop_out hk (k.1 hb),fun hb=>hk _ _ out_refl (k.2 hb)⟩
    · split at k
      · rename_i hv; rw [if_pos hv]; exact hk _ _ out_refl k
      · exact k.elim
    · exact k.elim
def indep (P:Program) (ops:Array Oper) (wj wi:Bool) (x y:Oper):Bool :=
  x.apart ops y && (calm P x || calm P y) &&
  (match kdOf P x.op,kdOf P y.op with
   | .load,.strong | .strong,.load=>false
   | .load,.call=>wi
   | .call,.load=>wj
   | _,_=>true)
theorem val_out {wj wi:Bool} {x y:Oper} {h':Hp} (hi:indep P ops wj wi x y=true) (hc:calm P y=true) (ho:Out P wj x h h') (hv:∀ z,VA h (ev tm z)):val P ops y tm h'=val P ops y tm h:=by
  cases hy:kdOf P y.op with
  | pure=>exact val_pure hy
  | load =>
    unfold indep at hi
    unfold Out at ho
    cases hx:kdOf P x.op with
    | pure=>rw [hx] at ho; rw [ho]
    | load=>rw [hx] at ho; rw [ho]
    | weak=>rw [hx] at ho; exact val_ext ho hv
    | strong=>rw [hx,hy] at hi; simp at hi
    | call=>rw [hx,hy] at hi; rw [hx] at ho; simp at hi; exact val_ext (ho hi.2) hv
  | _=>unfold calm at hc; rw [hy] at hc; cases hc
theorem val_out' {wj wi:Bool} {x y:Oper} {h':Hp} (hi:indep P ops wj wi x y=true) (hc:calm P x=true) (ho:Out P wi y h h') (hv:∀ z,VA h (ev tm z)):val P ops x tm h'=val P ops x tm h:=by
  cases hx:kdOf P x.op with
  | pure=>exact val_pure hx
  | load =>
    unfold indep at hi
    unfold Out at ho
    cases hy:kdOf P y.op with
    | pure=>rw [hy] at ho; rw [ho]
    | load=>rw [hy] at ho; rw [ho]
    | weak=>rw [hy] at ho; exact val_ext ho hv
    | strong=>rw [hx,hy] at hi; simp at hi
    | call=>rw [hx,hy] at hi; rw [hy] at ho; simp at hi; exact val_ext (ho hi.2) hv
  | _=>unfold calm at hc; rw [hx] at hc; cases hc
def Told (P:Program) (tm:List Value) (h:Hp):Prop:=∃ B w0 φ a w,RelSt P B w0 φ tm h a w
theorem aop_some {wk:Bool} {o:Oper} {K:List Value→Hp→Prop} (ht:Told P tm h) (k:aop P wk o tm h K):∃ v h',Out P wk o h h'∧K (put tm o.dst v) h':=by
  obtain ⟨B,w0,φ,a,w,R⟩:=ht
  have k2:aop P wk o tm h (fun tm' h'=>∃ v,Out P wk o h h'∧tm'=put tm o.dst v∧K tm' h'):=aop_out (fun v h' ho hk=>⟨v,ho,rfl,hk⟩) k
  have s:=aop_sound k2 R (fun _ _ _=>False)
  have fin:∀ a' w',(∃ φ' tm' h',φ <+: φ'∧RelSt P B w0 φ' tm' h' a' w'∧∃ v,Out P wk o h h'∧tm'=put tm o.dst v∧K tm' h')→∃ v h',Out P wk o h h'∧K (put tm o.dst v) h':=by
    rintro a' w' ⟨φ',tm',h',_,_,v,p1,rfl,p2⟩
    exact ⟨v,h',p1,p2⟩
  unfold Oper.wp Oper.upon at s
  split at s
  · exact fin _ _ s
  · exact fin _ _ s
  · exact fin _ _ s
  · obtain ⟨e,w',fr,hR,_⟩:=s []
    cases e with
    | returned v=>exact fin _ _ hR
    | panicked c=>exact hR.elim
    | outgrown=>obtain ⟨_,_,hh⟩:=hR; exact hh.elim
  · obtain ⟨v,w',hR,_⟩:=s default []
    exact fin _ _ hR
  · exact s.elim
  · exact s.elim
theorem astep_some {wk:Bool} {o:Oper} {K:List Value→Hp→Prop} (ht:Told P tm h) (k:astep P ops wk o tm h K):∃ v h',Out P wk o h h'∧K (put tm o.dst v) h':=by
  unfold astep at k
  split at k
  · exact aop_some ht k
  · split at k
    · rename_i j want hg s b hb
      cases hbw:(b == want) with
      | true=>exact aop_some ht (k.1 hbw)
      | false=>exact ⟨_,_,out_refl,k.2 hbw⟩
    · split at k
      · exact ⟨_,_,out_refl,k⟩
      · exact k.elim
    · exact k.elim
theorem swap {wj wi:Bool} {x y:Oper} {K:List Value→Hp→Prop} (hi:indep P ops wj wi x y=true) (ht:Told P tm h)
    (k:astep P ops wj x tm h fun tm1 h1=>astep P ops wi y tm1 h1 K):astep P ops wi y tm h fun tm1 h1=>astep P ops wj x tm1 h1 K:=by
  have hi0:=hi
  unfold indep at hi
  simp only [Bool.and_eq_true,Bool.or_eq_true] at hi
  obtain ⟨⟨hap,hcalm⟩,_⟩:=hi
  obtain ⟨a1,a2,a3⟩:=Oper.apart_spec hap
  have a2':∀ d,y.dst=some d→x.dst≠some d:=fun d hd hx=>a2 d hx hd
  obtain ⟨B,w0,φ,a,w,R⟩:=ht
  have hv:∀ z,VA h (ev tm z):=fun z=>R.va z
  cases hcy:calm P y with
  | true =>
    have k':astep P ops wj x tm h fun tm1 h1=>∃ v,val P ops y tm1 h1=some v∧K (put tm1 y.dst v) h1:=astep_out (fun v h1 _ hh=>(astep_calm hcy K).1 hh) k
    obtain ⟨vx,h1,ho,v,hval,_⟩:=astep_some ⟨B,w0,φ,a,w,R⟩ k'
    rw [val_apart a1,val_out hi0 hcy ho hv] at hval
    refine (astep_calm hcy _).2 ⟨v,hval,?_⟩
    rw [astep_apart a3 a2']
    refine astep_out (fun u h2 ho2 hh=>?_) k'
    obtain ⟨v2,hval2,hK⟩:=hh
    rw [val_apart a1,val_out hi0 hcy ho2 hv,hval] at hval2
    injection hval2 with hval2
    subst hval2
    exact hK
  | false =>
    rcases hcalm with hcx | hcy'
    · obtain ⟨v,hval,hk⟩:=(astep_calm hcx _).1 k
      rw [astep_apart a1 a2] at hk
      refine astep_out (fun u h2 ho2 hh=>?_) hk
      refine (astep_calm hcx _).2 ⟨v,?_,?_⟩
      · rw [val_apart a3,val_out' hi0 hcx ho2 hv,hval]
      · exact hh
    · rw [hcy] at hcy'; cases hcy'
end
section
variable {P:Program} {ops:Array Oper} {tm:List Value} {h:Hp}
structure Inv (ops:Array Oper) (P:Program) (o:Oper) (tm0:List Value) (h0:Hp) (tm:List Value) (h:Hp):Prop where
  op:∀ x∈o.op.operands,ev tm x=ev tm0 x
  gd:∀ j want,o.guard=some (j,want)→gslot ops tm j=gslot ops tm0 j
  ex:kdOf P o.op=.load→Ext h0 h
theorem Inv.refl (o:Oper):Inv ops P o tm h tm h:=⟨fun _ _=>rfl,fun _ _ _=>rfl,fun _=>Ext.refl h⟩
theorem Inv.step {x y:Oper} {wj wi:Bool} {tm0:List Value} {h0 h':Hp} {v:Value} (I:Inv ops P y tm0 h0 tm h) (hi:indep P ops wj wi x y=true) (ho:Out P wj x h h'):Inv ops P y tm0 h0 (put tm x.dst v) h':=by
  have hi0:=hi
  unfold indep at hi
  simp only [Bool.and_eq_true,Bool.or_eq_true] at hi
  obtain ⟨⟨hap,_⟩,hk⟩:=hi
  obtain ⟨a1,a2,a3⟩:=Oper.apart_spec hap
  refine ⟨fun z hz=>(ev_apart a1 z hz).trans (I.op z hz),fun j want hg=>(gslot_apart a1 hg).trans (I.gd j want hg),fun hl=>(I.ex hl).trans ?_⟩
  rw [hl] at hk
  unfold Out at ho
  cases hx:kdOf P x.op with
  | pure=>rw [hx] at ho; simp only at ho; rw [ho]; exact Ext.refl h
  | load=>rw [hx] at ho; simp only at ho; rw [ho]; exact Ext.refl h
  | weak=>rw [hx] at ho; exact ho
  | strong=>rw [hx] at hk; simp at hk
  | call=>rw [hx] at hk ho; simp at hk; exact ho hk
theorem Inv.val {y:Oper} {tm0:List Value} {h0:Hp} (I:Inv ops P y tm0 h0 tm h) (hv:∀ x,VA h0 (ev tm0 x)):val P ops y tm h=val P ops y tm0 h0:=by
  have hr:raw P y tm h=raw P y tm0 h0:=by
    unfold raw
    split
    · exact qev_congr y.op I.op
    · rename_i hk
      rw [lev_congr y.op I.op,lev_ext (I.ex hk) y.op fun x _=>hv x]
    · rfl
  unfold Hz.val
  rw [hr]
  split
  · rfl
  · rename_i j want hg
    rw [I.gd j want hg]
theorem aop_told {wk:Bool} {o:Oper} {K:List Value→Hp→Prop} {B:Bd} {w0 w:World} {φ:Inj} {a:Act} (R:RelSt P B w0 φ tm h a w) (k:aop P wk o tm h K):∃ v h',Out P wk o h h'∧Told P (put tm o.dst v) h'∧K (put tm o.dst v) h':=by
  have k2:aop P wk o tm h (fun tm' h'=>∃ v,Out P wk o h h'∧tm'=put tm o.dst v∧K tm' h'):=aop_out (fun v h' ho hk=>⟨v,ho,rfl,hk⟩) k
  have s:=aop_sound k2 R (fun _ _ _=>False)
  have fin:∀ a' w',(∃ φ' tm' h',φ <+: φ'∧RelSt P B w0 φ' tm' h' a' w'∧∃ v,Out P wk o h h'∧tm'=put tm o.dst v∧K tm' h')→∃ v h',Out P wk o h h'∧Told P (put tm o.dst v) h'∧K (put tm o.dst v) h':=by
    rintro a' w' ⟨φ',tm',h',_,r,v,p1,rfl,p2⟩
    exact ⟨v,h',p1,⟨B,w0,φ',a',w',r⟩,p2⟩
  unfold Oper.wp Oper.upon at s
  split at s
  · exact fin _ _ s
  · exact fin _ _ s
  · exact fin _ _ s
  · obtain ⟨e,w',fr,hR,_⟩:=s []
    cases e with
    | returned v=>exact fin _ _ hR
    | panicked c=>exact hR.elim
    | outgrown=>obtain ⟨_,_,hh⟩:=hR; exact hh.elim
  · obtain ⟨v,w',hR,_⟩:=s default []
    exact fin _ _ hR
  · exact s.elim
  · exact s.elim
theorem astep_told {wk:Bool} {o:Oper} {K:List Value→Hp→Prop} (ht:Told P tm h) (k:astep P ops wk o tm h K):∃ v h',Out P wk o h h'∧Told P (put tm o.dst v) h'∧K (put tm o.dst v) h':=by
  obtain ⟨B,w0,φ,a,w,R⟩:=ht
  have skip:K (put tm o.dst undef) h→∃ v h',Out P wk o h h'∧Told P (put tm o.dst v) h'∧K (put tm o.dst v) h' :=
    fun hk=>⟨_,_,out_refl,⟨B,w0,φ,_,w,R.put o.dst (List.prefix_refl _) R.hp (relV_undef φ)⟩,hk⟩
  unfold astep at k
  split at k
  · exact aop_told R k
  · split at k
    · rename_i j want hg s b hb
      cases hbw:(b == want) with
      | true=>exact aop_told R (k.1 hbw)
      | false=>exact skip (k.2 hbw)
    · split at k
      · exact skip k
      · exact k.elim
    · exact k.elim
theorem Told.va (ht:Told P tm h) (x:Operand):VA h (ev tm x):=by
  obtain ⟨B,w0,φ,a,w,R⟩:=ht
  exact R.va x
def AllIndep (P:Program) (ops:Array Oper) (wk:Nat→Bool) (i:Nat) (o:Oper) (l:List Nat):Prop:=∀ j∈l,∃ oj,ops[j]?=some oj∧indep P ops (wk j) (wk i) oj o=true
theorem AllIndep.tail {wk:Nat→Bool} {i j:Nat} {o:Oper} {l:List Nat} (k:AllIndep P ops wk i o (j :: l)):AllIndep P ops wk i o l:=fun x hx=>k x (by simp [hx])
theorem early_calm {wk:Nat→Bool} {i:Nat} {oi:Oper} {r2:List Nat} {K:List Value→Hp→Prop} {tm0:List Value} {h0:Hp} {v:Value} (hi:ops[i]?=some oi) (hc:calm P oi=true) (hv:∀ x,VA h0 (ev tm0 x)) (hval:val P ops oi tm0 h0=some v) :
    ∀ (r1:List Nat) (tm:List Value) (h:Hp),AllIndep P ops wk i oi r1→Inv ops P oi tm0 h0 tm h→aops P ops wk (r1++i :: r2) tm h K→aops P ops wk (r1++r2) (put tm oi.dst v) h K
  | [],tm,h,_,I,k=>by
    simp only [List.nil_append] at k ⊢
    unfold aops at k
    simp only [hi] at k
    obtain ⟨v',h1,h2⟩:=(astep_calm hc _).1 k
    rw [I.val hv,hval] at h1
    injection h1 with h1
    subst h1
    exact h2
  | j :: r1,tm,h,hall,I,k=>by
    obtain ⟨oj,hj,hind⟩:=hall j (by simp)
    simp only [List.cons_append] at k ⊢
    unfold aops at k ⊢
    simp only [hj] at k ⊢
    have hap:=hind
    unfold indep at hap
    simp only [Bool.and_eq_true] at hap
    obtain ⟨a1,a2,a3⟩:=Oper.apart_spec hap.1.1
    rw [astep_apart a3 fun d hd hx=>a2 d hx hd]
    exact astep_out (fun u h1 ho hh=>early_calm hi hc hv hval r1 _ h1 hall.tail (I.step hind ho) hh) k
theorem calm_some {wk:Nat→Bool} {i:Nat} {oi:Oper} {r2:List Nat} {K:List Value→Hp→Prop} {tm0:List Value} {h0:Hp} (hi:ops[i]?=some oi) (hc:calm P oi=true) (hv:∀ x,VA h0 (ev tm0 x)) :
    ∀ (r1:List Nat) (tm:List Value) (h:Hp),AllIndep P ops wk i oi r1→Inv ops P oi tm0 h0 tm h→Told P tm h→aops P ops wk (r1++i :: r2) tm h K→∃ v,val P ops oi tm0 h0=some v
  | [],tm,h,_,I,_,k=>by
    simp only [List.nil_append] at k
    unfold aops at k
    simp only [hi] at k
    obtain ⟨v',h1,_⟩:=(astep_calm hc _).1 k
    rw [I.val hv] at h1
    exact ⟨v',h1⟩
  | j :: r1,tm,h,hall,I,ht,k=>by
    obtain ⟨oj,hj,hind⟩:=hall j (by simp)
    simp only [List.cons_append] at k
    unfold aops at k
    simp only [hj] at k
    obtain ⟨u,h1,ho,ht1,hk⟩:=astep_told ht k
    exact calm_some hi hc hv r1 _ h1 hall.tail (I.step hind ho) ht1 hk
theorem early_busy {wk:Nat→Bool} {i:Nat} {oi:Oper} {r2:List Nat} {K:List Value→Hp→Prop} (hi:ops[i]?=some oi) (hb:calm P oi=false) :
    ∀ (r1:List Nat) (tm:List Value) (h:Hp),AllIndep P ops wk i oi r1→Told P tm h→aops P ops wk (r1++i :: r2) tm h K→astep P ops (wk i) oi tm h fun tm1 h1=>aops P ops wk (r1++r2) tm1 h1 K
  | [],tm,h,_,_,k=>by
    simp only [List.nil_append] at k ⊢
    unfold aops at k
    simp only [hi] at k
    exact k
  | j :: r1,tm,h,hall,ht,k=>by
    obtain ⟨oj,hj,hind⟩:=hall j (by simp)
    have hap:=hind
    unfold indep at hap
    simp only [Bool.and_eq_true,Bool.or_eq_true] at hap
    obtain ⟨a1,a2,a3⟩:=Oper.apart_spec hap.1.1
    have hcj:calm P oj=true:=hap.1.2.resolve_right (by rw [hb]; simp)
    simp only [List.cons_append] at k ⊢
    unfold aops at k
    simp only [hj] at k
    obtain ⟨u,h1,ho,ht1,hk1⟩:=astep_told ht k
    obtain ⟨vj,hval,hk⟩:=(astep_calm hcj _).1 k
    have ht2:Told P (put tm oj.dst vj) h:=by
      have k3:astep P ops (wk j) oj tm h (fun tm' h'=>tm'=put tm oj.dst vj∧h'=h):=(astep_calm hcj _).2 ⟨vj,hval,rfl,rfl⟩
      obtain ⟨_,_,_,ht3,e1,e2⟩:=astep_told ht k3
      rw [e1,e2] at ht3
      exact ht3
    have ih:=early_busy hi hb r1 _ h hall.tail ht2 hk
    rw [astep_apart a1 a2] at ih
    refine astep_out (fun u h2 ho2 hh=>?_) ih
    unfold aops
    simp only [hj]
    refine (astep_calm hcj _).2 ⟨vj,?_,hh⟩
    rw [val_apart a3,val_out' hind hcj ho2 (ht.va),hval]
inductive Pre (ops:Array Oper):Nat→Nat→Prop where
  | edge {i:Nat} {o:Oper} {e:Edge} (h:ops[i]?=some o) (he:e∈o.after) (hb:Region.binds .any e=true):Pre ops e.on i
  | step {i j:Nat} {o:Oper} {e:Edge} (h:ops[i]?=some o) (he:e∈o.after) (hb:Region.binds .any e=true) (k:Pre ops j e.on):Pre ops j i
def mask (acc:List Nat) (s:Nat):List Edge→Nat
  | []=>s
  | e :: es=>if Region.binds .any e then mask acc (s ||| 2 ^ e.on ||| acc.getD e.on 0) es else mask acc s es
def befs:List Oper→List Nat→List Nat
  | [],acc=>acc
  | o :: os,acc=>befs os (acc++[mask acc 0 o.after.toList])
theorem mask_spec {acc:List Nat} {j:Nat}:∀ (es:List Edge) (s:Nat),(mask acc s es).testBit j=true→s.testBit j=true∨∃ e∈es,Region.binds .any e=true∧(e.on=j∨(acc.getD e.on 0).testBit j=true)
  | [],s,k=>.inl k
  | e :: es,s,k=>by
    unfold mask at k
    split at k
    · rename_i hb
      rcases mask_spec es _ k with h | ⟨e',h1,h2⟩
      · simp only [Nat.testBit_or,Bool.or_eq_true] at h
        rcases h with (h | h) | h
        · exact .inl h
        · rw [Nat.testBit_two_pow] at h
          exact .inr ⟨e,by simp,hb,.inl (by simpa using h)⟩
        · exact .inr ⟨e,by simp,hb,.inr h⟩
      · exact .inr ⟨e',by simp [h1],h2⟩
    · rcases mask_spec es _ k with h | ⟨e',h1,h2⟩
      · exact .inl h
      · exact .inr ⟨e',by simp [h1],h2⟩
theorem befs_spec:∀ (os:List Oper) (acc:List Nat),ops.toList.drop acc.length=os→(∀ i m,acc[i]?=some m→∀ j,m.testBit j=true→Pre ops j i)→∀ i m,(befs os acc)[i]?=some m→∀ j,m.testBit j=true→Pre ops j i
  | [],acc,_,ha,i,m,k,j,hj=>ha i m k j hj
  | o :: os,acc,hd,ha,i,m,k,j,hj=>by
    have ho:ops[acc.length]?=some o:=by
      have:=congrArg (fun l=>l[0]?) hd
      simpa using this
    refine befs_spec os (acc++[mask acc 0 o.after.toList]) ?_ ?_ i m k j hj
    · have:=congrArg (List.drop 1) hd
      simpa [List.drop_drop,Nat.add_comm] using this
    · intro i m hm j hj
      by_cases hlt:i<acc.length
      · rw [List.getElem?_append_left hlt] at hm
        exact ha i m hm j hj
      · have h1:i=acc.length:=by
          have:=(List.getElem?_eq_some_iff.1 hm).1
          simp at this; omega
        subst h1
        rw [List.getElem?_append_right (Nat.le_refl _)] at hm
        simp at hm
        subst hm
        rcases mask_spec _ _ hj with h | ⟨e,he,hb,h⟩
        · simp at h
        · have he':e∈o.after:=by simpa using he
          rcases h with rfl | h
          · exact .edge ho he' hb
          · cases hx:acc[e.on]? with
            | none=>rw [List.getD_eq_getElem?_getD,hx] at h; simp at h
            | some m' =>
              rw [List.getD_eq_getElem?_getD,hx] at h
              exact .step ho he' hb (ha e.on m' hx j h)
def regOK (P:Program) (ops:Array Oper) (wk:Nat→Bool):Bool :=
  let b:=befs ops.toList []
  (List.range ops.size).all fun i=>(List.range i).all fun j=>(b.getD i 0).testBit j ||
    (match ops[j]?,ops[i]? with
     | some oj,some oi=>indep P ops (wk j) (wk i) oj oi
     | _,_=>false)
theorem regOK_spec {wk:Nat→Bool} (k:regOK P ops wk=true) {i j:Nat} {oi oj:Oper} (hi:ops[i]?=some oi) (hj:ops[j]?=some oj) (hlt:j<i):Pre ops j i∨indep P ops (wk j) (wk i) oj oi=true:=by
  unfold regOK at k
  have hin:i<ops.size:=(Array.getElem?_eq_some_iff.1 hi).1
  have:=List.all_eq_true.1 (List.all_eq_true.1 k i (by simpa using hin)) j (by simpa using hlt)
  simp only [hi,hj,Bool.or_eq_true] at this
  rcases this with h | h
  · left
    cases hb:(befs ops.toList [])[i]? with
    | none=>rw [List.getD_eq_getElem?_getD,hb] at h; simp at h
    | some m =>
      rw [List.getD_eq_getElem?_getD,hb] at h
      exact befs_spec ops.toList [] rfl (fun i m hm=>by simp at hm) i m hb j h
  · exact .inr h
def Shut (ops:Array Oper) (listed:Array Bool):Prop:=∀ i o e,ops[i]?=some o→listed.getD i false=true→e∈o.after→Region.binds .any e=true→listed.getD e.on false=true
theorem pre_listed {listed:Array Bool} (hs:Shut ops listed) {i j:Nat} (hp:Pre ops j i):(listed.getD i false=true∨i∈Region.ready .any ops listed)→listed.getD j false=true:=by
  induction hp with
  | edge h he hb =>
    rintro (hl | hl)
    · exact hs _ _ _ h hl he hb
    · obtain ⟨_,o',ho',hall⟩:=mem_ready.1 hl
      rw [h] at ho'
      injection ho' with ho'
      subst ho'
      exact hall _ he hb
  | step h he hb k ih =>
    rintro (hl | hl)
    · exact ih (.inl (hs _ _ _ h hl he hb))
    · obtain ⟨_,o',ho',hall⟩:=mem_ready.1 hl
      rw [h] at ho'
      injection ho' with ho'
      subst ho'
      exact ih (.inl (hall _ he hb))
theorem any_sound {wk:Nat→Bool} {Q:Exit→Act→World→Prop} {K:List Value→Hp→Prop} {B:Bd} {w0:World} (hok:regOK P ops wk=true) (hedge:∀ i o e,ops[i]?=some o→e∈o.after→Region.binds .any e=true→e.on<i) :
    ∀ (fuel:Nat) (r:List Nat) (listed:Array Bool) {φ:Inj} {tm:List Value} {h:Hp} {a:Act} {w:World},r.length≤fuel→r.Pairwise (·<·)→listed.size=ops.size→(∀ i,i∈r↔i<ops.size∧listed.getD i false=false)→Shut ops listed →
      aops P ops wk r tm h K→RelSt P B w0 φ tm h a w→(∀ φ' tm' h' a' w',φ <+: φ'→RelSt P B w0 φ' tm' h' a' w'→K tm' h'→Q .normal a' w')→wpAny P .any ops Q fuel listed a w:=by
  have first:∀ (r:List Nat) (listed:Array Bool),r.Pairwise (·<·)→listed.size=ops.size→(∀ i,i∈r↔i<ops.size∧listed.getD i false=false)→Region.ready .any ops listed=[]→r=[]:=by
    intro r listed hs hsz hmem hr
    cases r with
    | nil=>rfl
    | cons i r =>
      exfalso
      obtain ⟨h1,h2⟩:=(hmem i).1 (by simp)
      have:i∈Region.ready .any ops listed:=by
        rw [mem_ready]
        refine ⟨by simpa [Array.getD_eq_getD_getElem?,Array.getElem?_eq_getElem (hsz ▸ h1)] using h2,ops[i],Array.getElem?_eq_getElem h1,fun e he hb=>?_⟩
        have hlt:=hedge i ops[i] e (Array.getElem?_eq_getElem h1) he hb
        cases hx:listed.getD e.on false with
        | true=>rfl
        | false =>
          have:e.on∈i :: r:=(hmem e.on).2 ⟨by omega,hx⟩
          rcases List.mem_cons.1 this with h3 | h3
          · omega
          · have:=(List.pairwise_cons.1 hs).1 _ h3
            omega
      rw [hr] at this
      cases this
  intro fuel
  induction fuel with
  | zero =>
    intro r listed φ tm h a w hlen hs hsz hmem hshut k R hQ
    have hr:r=[]:=List.eq_nil_of_length_eq_zero (by omega)
    subst hr
    refine ⟨?_,hQ φ tm h a w (List.prefix_refl _) R k⟩
    cases hx:Region.ready .any ops listed with
    | nil=>rfl
    | cons i l =>
      exfalso
      have hi:i∈Region.ready .any ops listed:=by rw [hx]; simp
      obtain ⟨h0,o,ho,_⟩:=mem_ready.1 hi
      have hlt:=(Array.getElem?_eq_some_iff.1 ho).1
      have:i∈([]:List Nat):=(hmem i).2 ⟨hlt,by simpa [Array.getD_eq_getD_getElem?,Array.getElem?_eq_getElem (hsz ▸ hlt)] using h0⟩
      cases this
  | succ fuel ih =>
    intro r listed φ tm h a w hlen hs hsz hmem hshut k R hQ
    refine ⟨fun hr=>?_,fun i hi=>?_⟩
    · obtain rfl:=first r listed hs hsz hmem hr
      exact hQ φ tm h a w (List.prefix_refl _) R k
    · obtain ⟨h0,oi,hoi,hall⟩:=mem_ready.1 hi
      have hlt:=(Array.getElem?_eq_some_iff.1 hoi).1
      have h0':listed.getD i false=false:=by simpa [Array.getD_eq_getD_getElem?,Array.getElem?_eq_getElem (hsz ▸ hlt)] using h0
      obtain ⟨r1,r2,rfl⟩:=List.append_of_mem ((hmem i).2 ⟨hlt,h0'⟩)
      have hind:AllIndep P ops wk i oi r1:=fun j hj=>by
        obtain ⟨hjlt,hjl⟩:=(hmem j).1 (by simp [hj])
        have hji:j<i:=by
          rw [List.pairwise_append] at hs
          exact hs.2.2 j hj i (by simp)
        refine ⟨ops[j],Array.getElem?_eq_getElem hjlt,?_⟩
        rcases regOK_spec hok hoi (Array.getElem?_eq_getElem hjlt) hji with hp | hp
        · have:=pre_listed hshut hp (.inr hi)
          rw [hjl] at this
          cases this
        · exact hp
      have ht:Told P tm h:=⟨B,w0,φ,a,w,R⟩
      have step:astep P ops (wk i) oi tm h fun tm1 h1=>aops P ops wk (r1++r2) tm1 h1 K:=by
        cases hc:calm P oi with
        | true =>
          obtain ⟨v,hv⟩:=calm_some hoi hc ht.va r1 tm h hind (Inv.refl oi) ht k
          exact (astep_calm hc _).2 ⟨v,hv,early_calm hoi hc ht.va hv r1 tm h hind (Inv.refl oi) k⟩
        | false=>exact early_busy hoi hc r1 tm h hind ht k
      refine wpOp_mono ?_ (astep_sound hoi step R Q)
      rintro a' w' ⟨φ',tm',h',p1,p2,p3⟩
      refine ih (r1++r2) (listed.setIfInBounds i true) ?_ ?_ (by simpa using hsz) ?_ ?_ p3 p2 fun φ2 tm2 h2 a2 w2 q1 q2 q3=>hQ φ2 tm2 h2 a2 w2 (p1.trans q1) q2 q3
      · simp at hlen ⊢; omega
      · rw [List.pairwise_append] at hs ⊢
        exact ⟨hs.1,(List.pairwise_cons.1 hs.2.1).2,fun x hx y hy=>hs.2.2 x hx y (by simp [hy])⟩
      · intro x
        have hnd:(r1++i :: r2).Nodup:=hs.imp fun hab=>by omega
        have hxi:x∈r1++r2↔x∈r1++i :: r2∧x≠i:=by
          constructor
          · intro hx
            refine ⟨by simp at hx ⊢; rcases hx with h | h <;> simp [h],fun hxe=>?_⟩
            subst hxe
            rw [List.nodup_append] at hnd
            simp at hx
            rcases hx with hx | hx
            · exact hnd.2.2 x hx x (by simp) rfl
            · exact (List.nodup_cons.1 hnd.2.1).1 hx
          · rintro ⟨hx,hne⟩
            simp at hx ⊢
            rcases hx with hx | hx | hx
            · exact .inl hx
            · exact absurd hx hne
            · exact .inr hx
        rw [hxi,hmem x]
        by_cases hxe:i=x
        · subst hxe
          simp [hsz,hlt]
        · rw [getD_set_ne false hxe]
          exact ⟨fun hh=>hh.1,fun hh=>⟨hh,fun e=>hxe e.symm⟩⟩
      · intro i' o' e ho' hl he hb
        by_cases hxe:i=i'
        · subst hxe
          rw [hoi] at ho'
          injection ho' with ho'
          subst ho'
          exact getD_set_true (hall e he hb)
        · rw [getD_set_ne false hxe] at hl
          exact getD_set_true (hshut i' o' e ho' hl he hb)
end
section
variable {P:Program} {ops:Array Oper} {tm:List Value} {h:Hp}
theorem RelC0_back {φ t:Inj} {v v':Value} (r:RelC0 (φ++t) v v') (k:∃ u,RelC0 φ v u):RelC0 φ v v':=by
  obtain ⟨u,k⟩:=k
  unfold RelC0 at *
  split at r
  · obtain ⟨p,e,s⟩:=r
    obtain ⟨p2,e2,_⟩:=k
    rw [List.getElem?_append_left (List.getElem?_eq_some_iff.1 e2).1,e2] at e
    injection e with e; subst e
    exact ⟨p2,e2,s⟩
  · obtain ⟨p,c',a',e,s⟩:=r
    obtain ⟨p2,_,_,e2,_⟩:=k
    rw [List.getElem?_append_left (List.getElem?_eq_some_iff.1 e2).1,e2] at e
    injection e with e; subst e
    exact ⟨p2,c',a',e2,s⟩
  all_goals first | exact r | trivial
theorem all2_back {φ t:Inj}:∀ {vs vs' us:List Value},All2 (RelC0 (φ++t)) vs vs'→All2 (RelC0 φ) vs us→All2 (RelC0 φ) vs vs'
  | [],[],_,_,_=>trivial
  | v :: vs,v' :: vs',us,r,k=>by
    obtain ⟨u,us',rfl,k1,k2⟩:=All2.cons_iff.1 k
    exact ⟨RelC0_back r.1 ⟨u,k1⟩,all2_back r.2 k2⟩
  | [],_ :: _,_,r,_=>r.elim
  | _ :: _,[],_,r,_=>r.elim
theorem RelC_back {φ t:Inj} {v v':Value} (r:RelC (φ++t) v v') (k:∃ u,RelC φ v u):RelC φ v v':=by
  obtain ⟨u,k⟩:=k
  cases v with
  | func fn f cap =>
    cases fn with
    | func g =>
      obtain ⟨e,c,hc,s⟩:=r
      obtain ⟨_,c2,_,s2⟩:=k
      exact ⟨e,c,hc,all2_back s s2⟩
    | _=>unfold RelC at *; exact RelC0_back r ⟨u,k⟩
  | _=>unfold RelC at *; exact RelC0_back r ⟨u,k⟩
theorem relC_scal' {φ φ':Inj} {v v':Value} (hs:scal v=true) (r:RelC φ v v'):RelC φ' v v':=by
  unfold scal at hs
  split at hs <;> first | (cases hs; done) | (simp [RelC,RelC0] at r ⊢; simp [r])
theorem Rel.hide {B:Bd} {w0 w w1:World} {φ:Inj} {pl:Pl} {ob:Ob} (R:Rel P B w0 φ h w) (R1:Rel P B w0 (φ++[pl]) (h++[ob]) w1) (hl:ob.live=true) (hr:ob.rw=true):Rel P ⟨B.n,pl.block :: B.d⟩ w1 φ h w1:=by
  have old:∀ {o:Nat} {ob':Ob} {p':Pl},h[o]?=some ob'→φ[o]?=some p'→(h++[ob])[o]?=some ob'∧(φ++[pl])[o]?=some p':=fun ho hp =>
    ⟨by rw [List.getElem?_append_left (List.getElem?_eq_some_iff.1 ho).1]; exact ho,by rw [List.getElem?_append_left (List.getElem?_eq_some_iff.1 hp).1]; exact hp⟩
  have last:(h++[ob])[h.length]?=some ob∧(φ++[pl])[h.length]?=some pl:=⟨by simp,by rw [← R.len]; simp⟩
  have rl:=R1.obj _ ob pl last.1 last.2 hl
  have hlt:pl.block<w1.heap.size:=rl.block_lt hr
  refine ⟨Kept.refl _ _,⟨Nat.le_trans R1.base.1 R1.below.below.size,fun b hb=>?_,R1.base.2.2.hide R1.below⟩,R.len,fun o ob' p' ho hp=>R.esz o ob' p' ho hp,fun o ob' p' ho hp hlv=>?_,fun o o' ob1 ob2 p1 p2 ho ho' hp hp'=>R1.apart o o' ob1 ob2 p1 p2 (old ho hp).1 (old ho' hp').1 (old ho hp).2 (old ho' hp').2⟩
  · rcases List.mem_cons.1 hb with rfl | hb
    · exact hlt
    · exact Nat.lt_of_lt_of_le (R1.base.2.1 b hb) R1.below.below.size
  · have r0:=R.obj o ob' p' ho hp hlv
    have r1:=R1.obj o ob' p' (old ho hp).1 (old ho hp).2 hlv
    refine ⟨r1.rw,r1.ok,fun j v hj=>?_,fun hrw=>?_,r1.arg,r1.mark⟩
    · obtain ⟨v',k1,k2⟩:=r1.cell j v hj
      obtain ⟨u,_,k3⟩:=r0.cell j v hj
      exact ⟨v',k1,RelC_back k2 ⟨u,k3⟩⟩
    · obtain ⟨k1,k2⟩:=r1.own hrw
      refine ⟨⟨k1.1,fun hm=>?_⟩,k2⟩
      rcases List.mem_cons.1 hm with hm | hm
      · have hne:o≠h.length:=by have:=(List.getElem?_eq_some_iff.1 ho).1; omega
        exact R1.apart o h.length ob' ob p' pl (old ho hp).1 last.1 (old ho hp).2 last.2 hlv hl hrw hr hne hm
      · exact k1.2 hm
theorem Rel.show_ {B:Bd} {w0 w1 w2:World} {φ φ2:Inj} {h2:Hp} {pl:Pl} {ob:Ob} (R2:Rel P ⟨B.n,pl.block :: B.d⟩ w1 φ2 h2 w2) (R1:Rel P B w0 (φ++[pl]) (h++[ob]) w1) (hlen:φ.length=h.length) (hl:ob.live=true) (hr:ob.rw=true) (hs:ob.cells.all scal=true) :
    Rel P B w0 (φ2++[pl]) (h2++[ob]) w2:=by
  have last:(h++[ob])[h.length]?=some ob∧(φ++[pl])[h.length]?=some pl:=⟨by simp,by rw [← hlen]; simp⟩
  have rl:=R1.obj _ ob pl last.1 last.2 hl
  have same:w2.heap[pl.block]?=w1.heap[pl.block]?:=R2.below.more _ (by simp)
  have R:Rel P B w0 φ2 h2 w2:=by
    refine ⟨R1.below.trans ⟨R2.below.below,fun b hb=>R2.below.more b (List.mem_cons_of_mem _ hb)⟩,R1.base,R2.len,R2.esz,fun o ob' p' ho hp hlv=>?_,R2.apart⟩
    have r:=R2.obj o ob' p' ho hp hlv
    exact ⟨r.rw,r.ok,r.cell,fun hrw=>⟨⟨(r.own hrw).1.1,fun hm=>(r.own hrw).1.2 (List.mem_cons_of_mem _ hm)⟩,(r.own hrw).2⟩,r.arg,r.mark⟩
  refine R.adopt ob pl (R1.esz _ ob pl last.1 last.2) ⟨rl.rw,rl.ok,fun j v hj=>?_,fun hrw=>?_,fun hh=>(by rw [hr] at hh; cases hh),fun hrw=>by rw [frozen_same same,same]; exact rl.mark hrw⟩ fun o ob' p' ho hp hlv hrw e=>((R2.obj o ob' p' ho hp hlv).own hrw).1.2 (by rw [e]; simp)
  · obtain ⟨v',k1,k2⟩:=rl.cell j v hj
    refine ⟨v',by rw [cell_same same]; exact k1,relC_scal' ?_ k2⟩
    exact List.all_eq_true.1 hs v (List.mem_of_getElem? hj)
  · obtain ⟨k1,k2,cs,fr,k3,k4⟩:=rl.own hrw
    exact ⟨k1,k2,cs,fr,by rw [same]; exact k3,k4⟩
def astepS (P:Program) (o:Oper) (tm:List Value) (h:Hp) (K:List Value→Hp→Prop):Prop :=
  o.guard=none∧kdOf P o.op=.weak∧(∃ d,o.dst=some d∧d<tm.length)∧∃ v ob,eev P h (ev tm) o.op=some (v,h++[ob])∧ob.cells.all scal=true∧K (put tm o.dst v) (h++[ob])
theorem weak_call {o:Oper} (hk:kdOf P o.op=.weak):∀ f args ts,o.op≠.call { callee:=.value f,args:=args,argTypes:=ts }:=by
  intro f args ts e
  rw [e] at hk
  simp [kdOf] at hk
theorem astep_weak {wk:Bool} {o:Oper} {K:List Value→Hp→Prop} (hg:o.guard=none) (hk:kdOf P o.op=.weak):astep P ops wk o tm h K↔∃ v h',eev P h (ev tm) o.op=some (v,h')∧K (put tm o.dst v) h':=by
  unfold astep
  rw [hg]
  simp only
  unfold aop
  split
  · rename_i f args ts hop
    exact absurd hop (weak_call hk f args ts)
  · simp only [hk]
theorem astepS_astep {wk:Bool} {o:Oper} {K:List Value→Hp→Prop} (k:astepS P o tm h K):astep P ops wk o tm h K:=by
  obtain ⟨hg,hk,_,v,ob,e,_,k⟩:=k
  exact (astep_weak hg hk).2 ⟨v,_,e,k⟩
inductive NewF:(Nat→Value)→Prop where
  | ptr:NewF fun o=>.pointer (some ⟨o,0,none⟩)
  | row (n c:Nat):NewF fun o=>.slice (some ⟨o,0,none⟩) n c
theorem weak_any {ρ:Operand→Value} {op:Op} {v:Value} {ob:Ob} (hk:kdOf P op=.weak) (e:eev P h ρ op=some (v,h++[ob])) :
    ∃ f,NewF f∧ob.live=true∧ob.rw=true∧∀ h',eev P h' ρ op=some (f h'.length,h'++[ob]):=by
  have app:∀ {x:Ob},h++[x]=h++[ob]→x=ob:=fun e=>by simpa using e
  cases op with
  | box t x =>
    simp only [eev,Option.bind_eq_some_iff] at e
    obtain ⟨cs,hcs,e⟩:=e
    split at e
    · rename_i hok
      simp only [Option.map_eq_some_iff,Prod.mk.injEq] at e
      obtain ⟨sz,hsz,rfl,e⟩:=e
      obtain rfl:=app e
      exact ⟨_,.ptr,rfl,rfl,fun h'=>by simp only [eev,hcs,Option.bind_some,hok,if_true,hsz,Option.map_some]⟩
    · cases e
  | alloc t =>
    simp only [eev,Option.bind_eq_some_iff] at e
    obtain ⟨z,hz,e⟩:=e
    split at e
    · rename_i hok
      simp only [Option.map_eq_some_iff,Prod.mk.injEq] at e
      obtain ⟨sz,hsz,rfl,e⟩:=e
      obtain rfl:=app e
      exact ⟨_,.ptr,rfl,rfl,fun h'=>by simp only [eev,hz,Option.bind_some,hok,if_true,hsz,Option.map_some]⟩
    · cases e
  | buildSlice t n ps =>
    simp only [eev,Option.bind_eq_some_iff] at e
    obtain ⟨⟨el,sz,bt,zs⟩,hel,e⟩:=e
    simp only at e
    split at e
    · rename_i hb
      simp only [Option.bind_eq_some_iff] at e
      obtain ⟨cs,hcs,e⟩:=e
      split at e
      · rename_i hok
        injection e with e; injection e with e1 e2
        obtain rfl:=app e2
        subst e1
        refine ⟨_,.row n n,rfl,rfl,fun h'=>?_⟩
        simp only [eev,hel,Option.bind_some,hb,if_true,hcs,hok]
      · cases e
    · cases e
  | makeSlice t l c =>
    simp only [eev] at e
    split at e
    · rename_i n m hl hc
      simp only [Option.bind_eq_some_iff] at e
      obtain ⟨⟨el,sz,bt,zs⟩,hel,e⟩:=e
      simp only at e
      split at e
      · rename_i hb
        injection e with e; injection e with e1 e2
        obtain rfl:=app e2
        subst e1
        refine ⟨_,.row n.toNat n.toNat,rfl,rfl,fun h'=>?_⟩
        simp only [eev,hl,hc,hel,Option.bind_some]
        rw [if_pos hb]
      · cases e
    · cases e
  | convert s d x =>
    simp only [eev] at e
    split at e
    · rename_i b hx
      simp only [Option.bind_eq_some_iff] at e
      obtain ⟨el,hel,e⟩:=e
      split at e
      · rename_i hb
        injection e with e; injection e with e1 e2
        obtain rfl:=app e2
        subst e1
        refine ⟨_,.row b.size b.size,rfl,rfl,fun h'=>?_⟩
        simp only [eev,hx,hel,Option.bind_some]
        rw [if_pos hb]
      · cases e
    · split at e
      · injection e with e; injection e with _ e
        have:=congrArg List.length e
        simp at this
      · cases e
    · cases e
  | call c =>
    obtain ⟨cal,args,ts⟩:=c
    cases cal with
    | builtin b=>cases b <;> simp [kdOf] at hk
    | _=>simp [kdOf] at hk
  | slice t x lo hi mx=>simp only [kdOf] at hk; split at hk <;> cases hk
  | _=>simp [kdOf] at hk
theorem relV_new_move {φ φ2:Inj} {pl:Pl} {f:Nat→Value} (hf:NewF f) {v':Value} (r:RelV (φ++[pl]) (f φ.length) v'):RelV (φ2++[pl]) (f φ2.length) v':=by
  cases hf with
  | ptr =>
    obtain ⟨p,e,s⟩:=r
    simp at e
    subst e
    exact ⟨_,by simp,s⟩
  | row n c =>
    obtain ⟨p,c',a',e,s⟩:=r
    simp at e
    subst e
    exact ⟨_,c',a',by simp,s⟩
def IndepI (P:Program) (ops:Array Oper) (wk:Nat→Bool) (j i:Nat):Prop:=∃ oj oi,ops[j]?=some oj∧ops[i]?=some oi∧indep P ops (wk j) (wk i) oj oi=true
def PairOK (P:Program) (ops:Array Oper) (wk:Nat→Bool) (j i:Nat):Prop:=Pre ops j i∨IndepI P ops wk j i
theorem some_first {listed:Array Bool} (hedge:∀ i o e,ops[i]?=some o→e∈o.after→Region.binds .any e=true→e.on<i) (hsz:listed.size=ops.size) {r:List Nat} (hmem:∀ i,i∈r↔i<ops.size∧listed.getD i false=false) (hr:Region.ready .any ops listed=[]):r=[]:=by
  have key:∀ n i,i≤n→¬ (i<ops.size∧listed.getD i false=false):=by
    intro n
    induction n with
    | zero =>
      rintro i hi ⟨h1,h2⟩
      obtain rfl:i=0:=by omega
      have:0∈Region.ready .any ops listed:=by
        rw [mem_ready]
        refine ⟨by simpa [Array.getD_eq_getD_getElem?,Array.getElem?_eq_getElem (hsz ▸ h1)] using h2,ops[0],Array.getElem?_eq_getElem h1,fun e he hb=>?_⟩
        have:=hedge 0 ops[0] e (Array.getElem?_eq_getElem h1) he hb
        omega
      rw [hr] at this
      cases this
    | succ n ih =>
      rintro i hi ⟨h1,h2⟩
      have:i∈Region.ready .any ops listed:=by
        rw [mem_ready]
        refine ⟨by simpa [Array.getD_eq_getD_getElem?,Array.getElem?_eq_getElem (hsz ▸ h1)] using h2,ops[i],Array.getElem?_eq_getElem h1,fun e he hb=>?_⟩
        have hlt:=hedge i ops[i] e (Array.getElem?_eq_getElem h1) he hb
        cases hx:listed.getD e.on false with
        | true=>rfl
        | false=>exact absurd ⟨by omega,hx⟩ (ih e.on (by omega))
      rw [hr] at this
      cases this
  cases r with
  | nil=>rfl
  | cons i r=>exact absurd ((hmem i).1 (by simp)) (key i i (Nat.le_refl _))
theorem mem_drop1 {r1 r2:List Nat} {i:Nat} (hnd:(r1++i :: r2).Nodup) (x:Nat):x∈r1++r2↔x∈r1++i :: r2∧x≠i:=by
  rw [List.nodup_append] at hnd
  constructor
  · intro hx
    refine ⟨by simp at hx ⊢; rcases hx with h | h <;> simp [h],fun hxe=>?_⟩
    subst hxe
    simp at hx
    rcases hx with hx | hx
    · exact hnd.2.2 x hx x (by simp) rfl
    · exact (List.nodup_cons.1 hnd.2.1).1 hx
  · rintro ⟨hx,hne⟩
    simp at hx ⊢
    rcases hx with hx | hx | hx
    · exact .inl hx
    · exact absurd hx hne
    · exact .inr hx
theorem listed_step {listed:Array Bool} {r r':List Nat} {i:Nat} (hsz:listed.size=ops.size) (hlt:i<ops.size) (hmem:∀ x,x∈r↔x<ops.size∧listed.getD x false=false) (hr:∀ x,x∈r'↔x∈r∧x≠i) :
    ∀ x,x∈r'↔x<ops.size∧(listed.setIfInBounds i true).getD x false=false:=by
  intro x
  rw [hr x,hmem x]
  by_cases hxe:i=x
  · subst hxe
    simp [hsz,hlt]
  · rw [getD_set_ne false hxe]
    exact ⟨fun hh=>hh.1,fun hh=>⟨hh,fun e=>hxe e.symm⟩⟩
theorem shut_step {listed:Array Bool} {i:Nat} {oi:Oper} (hshut:Shut ops listed) (hoi:ops[i]?=some oi) (hall:∀ e∈oi.after,Region.binds .any e=true→listed.getD e.on false=true):Shut ops (listed.setIfInBounds i true):=by
  intro i' o' e ho' hl he hb
  by_cases hxe:i=i'
  · subst hxe
    rw [hoi] at ho'
    injection ho' with ho'
    subst ho'
    exact getD_set_true (hall e he hb)
  · rw [getD_set_ne false hxe] at hl
    exact getD_set_true (hshut i' o' e ho' hl he hb)
theorem step_front {wk:Nat→Bool} {i:Nat} {oi:Oper} {r1 r2:List Nat} {K:List Value→Hp→Prop} (hoi:ops[i]?=some oi) (ht:Told P tm h) (hind:AllIndep P ops wk i oi r1) (k:aops P ops wk (r1++i :: r2) tm h K) :
    astep P ops (wk i) oi tm h fun tm1 h1=>aops P ops wk (r1++r2) tm1 h1 K:=by
  cases hc:calm P oi with
  | true =>
    obtain ⟨v,hv⟩:=calm_some hoi hc ht.va r1 tm h hind (Inv.refl oi) ht k
    exact (astep_calm hc _).2 ⟨v,hv,early_calm hoi hc ht.va hv r1 tm h hind (Inv.refl oi) k⟩
  | false=>exact early_busy hoi hc r1 tm h hind ht k
theorem any_soundP {wk:Nat→Bool} {Q:Exit→Act→World→Prop} {K:List Value→Hp→Prop} {B:Bd} {w0:World} (hedge:∀ i o e,ops[i]?=some o→e∈o.after→Region.binds .any e=true→e.on<i) :
    ∀ (fuel:Nat) (r:List Nat) (listed:Array Bool) {φ:Inj} {tm:List Value} {h:Hp} {a:Act} {w:World},r.length≤fuel→r.Nodup→r.Pairwise (PairOK P ops wk)→listed.size=ops.size→(∀ i,i∈r↔i<ops.size∧listed.getD i false=false)→Shut ops listed →
      aops P ops wk r tm h K→RelSt P B w0 φ tm h a w→(∀ φ' tm' h' a' w',RelSt P B w0 φ' tm' h' a' w'→φ <+: φ'→K tm' h'→Q .normal a' w')→wpAny P .any ops Q fuel listed a w:=by
  intro fuel
  induction fuel with
  | zero =>
    intro r listed φ tm h a w hlen hnd hp hsz hmem hshut k R hQ
    have hr:r=[]:=List.eq_nil_of_length_eq_zero (by omega)
    subst hr
    refine ⟨?_,hQ φ tm h a w R (List.prefix_refl _) k⟩
    cases hx:Region.ready .any ops listed with
    | nil=>rfl
    | cons i l =>
      exfalso
      have hi:i∈Region.ready .any ops listed:=by rw [hx]; simp
      obtain ⟨h0,o,ho,_⟩:=mem_ready.1 hi
      have hlt:=(Array.getElem?_eq_some_iff.1 ho).1
      have:i∈([]:List Nat):=(hmem i).2 ⟨hlt,by simpa [Array.getD_eq_getD_getElem?,Array.getElem?_eq_getElem (hsz ▸ hlt)] using h0⟩
      cases this
  | succ fuel ih =>
    intro r listed φ tm h a w hlen hnd hp hsz hmem hshut k R hQ
    refine ⟨fun hr=>?_,fun i hi=>?_⟩
    · obtain rfl:=some_first hedge hsz hmem hr
      exact hQ φ tm h a w R (List.prefix_refl _) k
    · obtain ⟨h0,oi,hoi,hall⟩:=mem_ready.1 hi
      have hlt:=(Array.getElem?_eq_some_iff.1 hoi).1
      have h0':listed.getD i false=false:=by simpa [Array.getD_eq_getD_getElem?,Array.getElem?_eq_getElem (hsz ▸ hlt)] using h0
      obtain ⟨r1,r2,rfl⟩:=List.append_of_mem ((hmem i).2 ⟨hlt,h0'⟩)
      have hind:AllIndep P ops wk i oi r1:=fun j hj=>by
        obtain ⟨hjlt,hjl⟩:=(hmem j).1 (by simp [hj])
        rw [List.pairwise_append] at hp
        rcases hp.2.2 j hj i (by simp) with hp | ⟨oj,oi',h1,h2,h3⟩
        · have:=pre_listed hshut hp (.inr hi)
          rw [hjl] at this
          cases this
        · rw [hoi] at h2
          injection h2 with h2
          subst h2
          exact ⟨oj,h1,h3⟩
      have ht:Told P tm h:=⟨B,w0,φ,a,w,R⟩
      refine wpOp_mono ?_ (astep_sound hoi (step_front hoi ht hind k) R Q)
      rintro a' w' ⟨φ',tm',h',p1,p2,p3⟩
      have hsub:(r1++r2).Sublist (r1++i :: r2):=List.Sublist.append (List.Sublist.refl _) (List.sublist_cons_self _ _)
      exact ih (r1++r2) (listed.setIfInBounds i true) (by simp at hlen ⊢; omega) (hnd.sublist hsub) (hp.sublist hsub) (by simpa using hsz) (listed_step hsz hlt hmem (mem_drop1 hnd)) (shut_step hshut hoi hall) p3 p2 fun φ2 tm2 h2 a2 w2 q1 q2 q3=>hQ φ2 tm2 h2 a2 w2 q1 (p1.trans q2) q3
end
section
variable {P:Program} {ops:Array Oper}
theorem put_get {tm:List Value} {e:Option Tmp} {v:Value} {d:Nat} (h:e≠some d):(put tm e v)[d]?=tm[d]?:=by
  cases e with
  | none=>rfl
  | some e=>exact List.getElem?_set_ne (fun hh=>h (by rw [hh]))
theorem all2_unjunk {φ:Inj} {u:Value}:∀ {tm:List Value} {ts:List Value} (d:Nat),All2 (RelV φ) (tm.set d junk) ts→(∀ x,tm[d]?=some x→RelV φ x u)→All2 (RelV φ) tm (ts.set d u)
  | [],[],_,_,_=>trivial
  | x :: tm,t :: ts,0,h,k=>⟨k x rfl,h.2⟩
  | x :: tm,t :: ts,d+1,h,k=>⟨h.1,all2_unjunk d h.2 fun y hy=>k y (by simpa using hy)⟩
  | [],t :: ts,d,h,_=>h.elim
  | x :: tm,[],d,h,_=>by cases d <;> exact h.elim
theorem all2_fill {φ:Inj} {v v':Value} (hv:RelV φ v v'):∀ {tm:List Value} {ts:List Value} (d:Nat),All2 (RelV φ) (tm.set d junk) ts→ts[d]?=some v'→All2 (RelV φ) (tm.set d v) ts
  | [],[],_,_,e=>by simp at e
  | x :: tm,t :: ts,0,h,e=>by simp at e; subst e; exact ⟨hv,h.2⟩
  | x :: tm,t :: ts,d+1,h,e=>⟨h.1,all2_fill hv d h.2 (by simpa using e)⟩
  | [],t :: ts,d,h,e=>h.elim
  | x :: tm,[],d,h,e=>by simp at e
theorem aop_put {wk:Bool} {o:Oper} {tm:List Value} {h:Hp} {K:List Value→Hp→Prop} (k:astep P ops wk o tm h K):astep P ops wk o tm h fun tm' h'=>(∃ v,tm'=put tm o.dst v)∧K tm' h' :=
  astep_out (fun v h' _ hk=>⟨⟨v,rfl⟩,hk⟩) k
theorem put_slot {a:Act} {e:Option Tmp} {v:Value} {d:Nat} (h:e≠some d):(a.put e v).tmps[d]?=a.tmps[d]?:=by
  cases e with
  | none=>rfl
  | some e =>
    show (a.tmps.setIfInBounds e v)[d]?=_
    exact Array.getElem?_setIfInBounds_ne fun hh=>h (by rw [hh])
theorem wpOp_slot {Q:Exit→Act→World→Prop} {i:Nat} {o:Oper} {a:Act} {w:World} {K:Act→World→Prop} {d:Nat} (hi:ops[i]?=some o) (hne:o.dst≠some d) (k:wpOp P ops Q i K a w):wpOp P ops Q i (fun a' w'=>a'.tmps[d]?=a.tmps[d]?∧K a' w') a w:=by
  have hp:∀ v,(a.put o.dst v).tmps[d]?=a.tmps[d]?:=fun v=>put_slot hne
  unfold wpOp at *
  simp only [hi] at k ⊢
  split
  · rename_i hw
    simp only [hw,if_true] at k
    refine k.imp (fun k=>?_) id
    unfold Oper.wp at *
    generalize (execOp a.eval o).run P w=r at *
    cases r with
    | ok n w' =>
      cases n <;> simp only [Oper.upon] at k ⊢ <;>
        first
          | exact ⟨hp _,k⟩
          | exact ⟨put_slot (a:={ a with defers:=_ :: a.defers }) hne,k⟩
          | exact Calls.mono k (fun e w'' he=>by cases e <;> first | exact ⟨hp _,he⟩ | exact he)
          | exact Rows.mono k (fun _ _ he=>⟨hp _,he⟩)
    | halt x w'=>cases x <;> simp only [Oper.upon] at k ⊢ <;> exact k
  · rename_i hw
    simp only [hw] at k
    exact ⟨hp _,k⟩
theorem weak_some {wk:Nat→Bool} {os:Oper} {K:List Value→Hp→Prop} {tm0:List Value} :
    ∀ (r1:List Nat) (tm:List Value) (h:Hp),(∀ j∈r1,∃ oj,ops[j]?=some oj∧oj.apart ops os=true)→(∀ x∈os.op.operands,ev tm x=ev tm0 x)→Told P tm h→aops P ops wk r1 tm h (fun tm h=>astepS P os tm h K) →
    os.guard=none∧kdOf P os.op=.weak∧(∃ d,os.dst=some d∧d<tm.length)∧∃ f ob,NewF f∧ob.live=true∧ob.rw=true∧ob.cells.all scal=true∧∀ h',eev P h' (ev tm0) os.op=some (f h'.length,h'++[ob])
  | [],tm,h,_,he,_,k=>by
    obtain ⟨hg,hk,hd,v,ob,e,hs,_⟩:=k
    obtain ⟨f,hf,h1,h2,h3⟩:=weak_any hk e
    exact ⟨hg,hk,hd,f,ob,hf,h1,h2,hs,fun h'=>by rw [← eev_congr os.op he]; exact h3 h'⟩
  | j :: r1,tm,h,hap,he,ht,k=>by
    obtain ⟨oj,hj,ha⟩:=hap j (by simp)
    obtain ⟨a1,a2,a3⟩:=Oper.apart_spec ha
    unfold aops at k
    simp only [hj] at k
    obtain ⟨v,h1,_,ht1,⟨u,hu⟩,hk⟩:=astep_told ht (aop_put k)
    have:=weak_some (tm0:=tm0) r1 _ h1 (fun x hx=>hap x (by simp [hx])) (fun x hx=>by rw [hu,ev_apart a1 x hx]; exact he x hx) ht1 hk
    obtain ⟨g1,g2,⟨d,g3,g4⟩,g5⟩:=this
    refine ⟨g1,g2,⟨d,g3,?_⟩,g5⟩
    cases hd:oj.dst with
    | none=>rw [hu,hd] at g4; exact g4
    | some e=>rw [hu,hd] at g4; simpa [put] using g4
theorem aops_append {wk:Nat→Bool} {K:List Value→Hp→Prop}:∀ (r1 r2:List Nat) (tm:List Value) (h:Hp),aops P ops wk r1 tm h (fun tm h=>aops P ops wk r2 tm h K)→aops P ops wk (r1++r2) tm h K
  | [],_,_,_,k=>k
  | j :: r1,r2,tm,h,k=>by
    simp only [List.cons_append]
    unfold aops at k ⊢
    cases hj:ops[j]? with
    | none=>simp only [hj] at k ⊢; exact aops_append r1 r2 _ _ k
    | some oj=>simp only [hj] at k ⊢; exact astep_out (fun v h' _ hh=>aops_append r1 r2 _ _ hh) k
theorem aops_mono {wk:Nat→Bool} {K K':List Value→Hp→Prop} (hk:∀ tm h,K tm h→K' tm h):∀ (r:List Nat) (tm:List Value) (h:Hp),aops P ops wk r tm h K→aops P ops wk r tm h K'
  | [],_,_,k=>hk _ _ k
  | j :: r,tm,h,k=>by
    unfold aops at k ⊢
    cases hj:ops[j]? with
    | none=>simp only [hj] at k ⊢; exact aops_mono hk r _ _ k
    | some oj=>simp only [hj] at k ⊢; exact astep_out (fun v h' _ hh=>aops_mono hk r _ _ hh) k
section
variable {wk:Nat→Bool} {Q:Exit→Act→World→Prop} {K:List Value→Hp→Prop} {s:Nat} {os:Oper} {r2:List Nat} {B:Bd} {w0 w1:World} {d:Nat} {u0 v0:Value} {pl:Pl} {ob:Ob} {f:Nat→Value} {φ0:Inj} {h0:Hp}
theorem late_B (hedge:∀ i o e,ops[i]?=some o→e∈o.after→Region.binds .any e=true→e.on<i) (hos:ops[s]?=some os) (hd:os.dst=some d) (hg:os.guard=none) (hk:kdOf P os.op=.weak) (hf:NewF f) (hl:ob.live=true) (hr:ob.rw=true) (hs:ob.cells.all scal=true)
    (R1:Rel P B w0 (φ0++[pl]) (h0++[ob]) w1) (hlen0:φ0.length=h0.length) (hv0:RelV (φ0++[pl]) (f φ0.length) v0) :
    ∀ (fuel:Nat) (r1:List Nat) (listed:Array Bool) {φ:Inj} {tm:List Value} {h:Hp} {a:Act} {w:World},(r1++r2).length≤fuel→(r1++r2).Nodup→(r1++r2).Pairwise (PairOK P ops wk)→(∀ j∈r1,IndepI P ops wk j s∨∃ oj,ops[j]?=some oj∧oj.apart ops os=true)→(∀ i∈r2,∀ j∈r1,IndepI P ops wk j s∨Pre ops j i) →
      listed.size=ops.size→(∀ i,i∈r1++r2↔i<ops.size∧listed.getD i false=false)→Shut ops listed→(∀ h',eev P h' (ev tm) os.op=some (f h'.length,h'++[ob])) →
      aops P ops wk r1 tm h (fun tm h=>astepS P os tm h (fun tm h=>aops P ops wk r2 tm h K))→φ0 <+: φ→RelSt P ⟨B.n,pl.block :: B.d⟩ w1 φ (put tm (some d) junk) h a w→(∀ x,tm[d]?=some x→RelV φ x u0)→a.tmps[d]?=some v0 →
      (∀ φ' tm' h' a' w',RelSt P B w0 φ' tm' h' a' w'→φ0 <+: φ'→K tm' h'→Q .normal a' w')→wpAny P .any ops Q fuel listed a w:=by
  intro fuel
  induction fuel with
  | zero =>
    intro r1 listed φ tm h a w hlen hnd hp h1 h2 hsz hmem hshut he k hφ R hx hv hQ
    have hr1:r1++r2=[]:=List.eq_nil_of_length_eq_zero (by omega)
    obtain ⟨rfl,hr2⟩:=List.append_eq_nil_iff.1 hr1
    obtain ⟨_,_,_,v,ob',e,_,k⟩:=k
    rw [he h] at e
    injection e with e; injection e with e1 e2
    rw [← e1,← e2] at k
    have Rh:=Rel.show_ R.hp R1 hlen0 hl hr hs
    have hvv:RelV (φ++[pl]) (f h.length) v0:=by
      have:=relV_new_move (φ2:=φ) hf hv0
      rw [R.hp.len] at this
      exact this
    have RS:RelSt P B w0 (φ++[pl]) (put tm os.dst (f h.length)) (h++[ob]) a w:=by
      refine ⟨?_,R.df,Rh⟩
      rw [hd]
      have:=R.tm.mono fun _ _ r=>RelV.mono (List.prefix_append φ [pl]) r
      exact all2_fill hvv d this (by simpa using hv)
    exact any_soundP (r:=r2) hedge 0 listed (by simp [hr2]) (by rw [hr2]; exact List.nodup_nil) (by rw [hr2]; exact List.Pairwise.nil) hsz (by simpa using hmem) hshut k RS fun φ' tm' h' a' w' q1 q2 q3=>hQ φ' tm' h' a' w' q1 (hφ.trans ((List.prefix_append _ _).trans q2)) q3
  | succ fuel ih =>
    intro r1 listed φ tm h a w hlen hnd hp h1 h2 hsz hmem hshut he k hφ R hx hv hQ
    have RT:RelSt P ⟨B.n,pl.block :: B.d⟩ w1 φ tm h (a.put (some d) u0) w:=by
      refine ⟨?_,R.df,R.hp⟩
      show All2 (RelV φ) tm (a.tmps.setIfInBounds d u0).toList
      rw [Array.toList_setIfInBounds]
      exact all2_unjunk d R.tm hx
    have ht:Told P tm h:=⟨_,_,_,_,_,RT⟩
    by_cases hall:∀ j∈r1,IndepI P ops wk j s
    · -- nothing that matters stands ahead of it
      have hind:AllIndep P ops wk s os r1:=fun j hj=>by
        obtain ⟨oj,oi,q1,q2,q3⟩:=hall j hj
        rw [hos] at q2; injection q2 with q2; subst q2
        exact ⟨oj,q1,q3⟩
      have hb:calm P os=false:=by unfold calm; rw [hk]
      have k1:aops P ops wk (r1++s :: r2) tm h K:=by
        refine aops_append r1 (s :: r2) tm h (aops_mono (fun tm' h' hh=>?_) r1 tm h k)
        unfold aops
        simp only [hos]
        exact astepS_astep hh
      have k2:=early_busy hos hb r1 tm h hind ht k1
      obtain ⟨v,h',e,k3⟩:=(astep_weak hg hk).1 k2
      rw [he h] at e
      injection e with e; injection e with e1 e2
      rw [← e1,← e2] at k3
      have Rh:=Rel.show_ R.hp R1 hlen0 hl hr hs
      have hvv:RelV (φ++[pl]) (f h.length) v0:=by
        have:=relV_new_move (φ2:=φ) hf hv0
        rw [R.hp.len] at this
        exact this
      have RS:RelSt P B w0 (φ++[pl]) (put tm os.dst (f h.length)) (h++[ob]) a w:=by
        refine ⟨?_,R.df,Rh⟩
        rw [hd]
        have:=R.tm.mono fun _ _ r=>RelV.mono (List.prefix_append φ [pl]) r
        exact all2_fill hvv d this (by simpa using hv)
      exact any_soundP hedge (fuel+1) (r1++r2) listed hlen hnd hp hsz hmem hshut k3 RS fun φ' tm' h' a' w' q1 q2 q3=>hQ φ' tm' h' a' w' q1 (hφ.trans ((List.prefix_append _ _).trans q2)) q3
    · have hne:∃ j∈r1,¬ IndepI P ops wk j s:=by
        rcases Classical.em (∃ j∈r1,¬ IndepI P ops wk j s) with h | h
        · exact h
        · exact absurd (fun j hj=>Classical.byContradiction fun hn=>h ⟨j,hj,hn⟩) hall
      obtain ⟨j0,hj0,hn0⟩:=hne
      refine ⟨fun hr0=>?_,fun i hi=>?_⟩
      · have:=some_first hedge hsz hmem hr0
        rw [(List.append_eq_nil_iff.1 this).1] at hj0
        cases hj0
      · obtain ⟨g0,oi,hoi,hafter⟩:=mem_ready.1 hi
        have hlt:=(Array.getElem?_eq_some_iff.1 hoi).1
        have g0':listed.getD i false=false:=by simpa [Array.getD_eq_getD_getElem?,Array.getElem?_eq_getElem (hsz ▸ hlt)] using g0
        rcases List.mem_append.1 ((hmem i).2 ⟨hlt,g0'⟩) with hi1 | hi2
        · obtain ⟨p,q,rfl⟩:=List.append_of_mem hi1
          have hind:AllIndep P ops wk i oi p:=fun j hj=>by
            obtain ⟨hjlt,hjl⟩:=(hmem j).1 (by simp [hj])
            rw [List.append_assoc,List.pairwise_append] at hp
            rcases hp.2.2 j hj i (by simp) with hp | ⟨oj,oi',q1,q2,q3⟩
            · have:=pre_listed hshut hp (.inr hi)
              rw [hjl] at this
              cases this
            · rw [hoi] at q2
              injection q2 with q2
              subst q2
              exact ⟨oj,q1,q3⟩
          have hap:oi.apart ops os=true:=by
            rcases h1 i (by simp) with ⟨oj,oi',q1,q2,q3⟩ | ⟨oj,q1,q3⟩
            · rw [hoi] at q1; injection q1 with q1; subst q1
              rw [hos] at q2; injection q2 with q2; subst q2
              unfold indep at q3
              simp only [Bool.and_eq_true] at q3
              exact q3.1.1
            · rw [hoi] at q1; injection q1 with q1; subst q1
              exact q3
          obtain ⟨a1,a2,a3⟩:=Oper.apart_spec hap
          have hdi:oi.dst≠some d:=fun e=>a2 d e hd
          have step:=aop_put (step_front hoi ht hind k)
          have step2:astep P ops (wk i) oi (put tm (some d) junk) h fun tm' h'=>∃ tm1,tm'=put tm1 (some d) junk∧(∃ v,tm1=put tm oi.dst v)∧aops P ops wk (p++q) tm1 h' (fun tm h=>astepS P os tm h (fun tm h=>aops P ops wk r2 tm h K)):=by
            rw [astep_apart (fun t ht'=>by injection ht' with ht'; subst ht'; exact a3 d hd) (fun t ht'=>by injection ht' with ht'; subst ht'; exact hdi)]
            exact astep_out (fun v h' _ hh=>⟨_,rfl,hh.1,hh.2⟩) step
          refine wpOp_mono ?_ (wpOp_slot hoi hdi (astep_sound hoi step2 R Q))
          rintro a' w' ⟨p0,φ',tm',h',p1,p2,tm1,rfl,⟨v,rfl⟩,p3⟩
          have hsub:(p++q++r2).Sublist (p++i :: q++r2):=(List.Sublist.append (List.Sublist.refl _) (List.sublist_cons_self _ _)).append (List.Sublist.refl _)
          have hnd':(p++i :: (q++r2)).Nodup:=by simpa using hnd
          refine ih (p++q) (listed.setIfInBounds i true) (by simp at hlen ⊢; omega) (hnd.sublist hsub) (hp.sublist hsub) (fun j hj=>h1 j (by simp at hj ⊢; rcases hj with h | h <;> simp [h])) (fun x hx j hj=>h2 x hx j (by simp at hj ⊢; rcases hj with h | h <;> simp [h])) (by simpa using hsz) ?_ (shut_step hshut hoi hafter) ?_ p3 (hφ.trans p1) p2 ?_ ?_ hQ
          · refine listed_step (r:=p++i :: q++r2) hsz hlt hmem fun x=>?_
            have:=mem_drop1 hnd' x
            simpa using this
          · intro h''
            rw [eev_congr os.op (ev_apart (tm:=tm) (v:=v) a1)]
            exact he h''
          · intro x hxx
            rw [put_get hdi] at hxx
            exact (hx x hxx).mono p1
          · rw [p0]; exact hv
        · -- what looks at the object stands behind the calls
          exfalso
          rcases h2 i hi2 j0 hj0 with h | h
          · exact hn0 h
          · have:=pre_listed hshut h (.inr hi)
            rw [((hmem j0).1 (by simp [hj0])).2] at this
            cases this
end
section
variable {wk:Nat→Bool} {Q:Exit→Act→World→Prop} {K:List Value→Hp→Prop} {s:Nat} {os:Oper} {r2:List Nat} {B:Bd} {w0:World}
theorem late_A (hedge:∀ i o e,ops[i]?=some o→e∈o.after→Region.binds .any e=true→e.on<i) (hos:ops[s]?=some os) :
    ∀ (fuel:Nat) (r1:List Nat) (listed:Array Bool) {φ:Inj} {tm:List Value} {h:Hp} {a:Act} {w:World},(r1++s :: r2).length≤fuel→(r1++s :: r2).Nodup→(r1++r2).Pairwise (PairOK P ops wk)→(∀ i∈r2,PairOK P ops wk s i) →
      (∀ j∈r1,PairOK P ops wk j s∨∃ oj,ops[j]?=some oj∧oj.apart ops os=true)→(∀ i∈r2,∀ j∈r1,IndepI P ops wk j s∨Pre ops j i) →
      listed.size=ops.size→(∀ i,i∈r1++s :: r2↔i<ops.size∧listed.getD i false=false)→Shut ops listed →
      aops P ops wk r1 tm h (fun tm h=>astepS P os tm h (fun tm h=>aops P ops wk r2 tm h K))→RelSt P B w0 φ tm h a w →
      (∀ φ' tm' h' a' w',RelSt P B w0 φ' tm' h' a' w'→φ <+: φ'→K tm' h'→Q .normal a' w')→wpAny P .any ops Q fuel listed a w:=by
  intro fuel
  induction fuel with
  | zero =>
    intro r1 listed φ tm h a w hlen
    simp at hlen
  | succ fuel ih =>
    intro r1 listed φ tm h a w hlen hnd hp hs2 h1 h2 hsz hmem hshut k R hQ
    have hp2:=List.pairwise_append.1 hp
    by_cases hall:∀ j∈r1,PairOK P ops wk j s
    · refine any_soundP (wk:=wk) hedge (fuel+1) (r1++s :: r2) listed hlen hnd ?_ hsz hmem hshut ?_ R hQ
      · rw [List.pairwise_append]
        refine ⟨hp2.1,List.pairwise_cons.2 ⟨hs2,hp2.2.1⟩,fun x hx y hy=>?_⟩
        rcases List.mem_cons.1 hy with rfl | hy
        · exact hall x hx
        · exact hp2.2.2 x hx y hy
      · refine aops_append r1 (s :: r2) tm h (aops_mono (fun tm' h' hh=>?_) r1 tm h k)
        unfold aops
        simp only [hos]
        exact astepS_astep hh
    · have hne:∃ j∈r1,¬ PairOK P ops wk j s:=by
        rcases Classical.em (∃ j∈r1,¬ PairOK P ops wk j s) with h | h
        · exact h
        · exact absurd (fun j hj=>Classical.byContradiction fun hn=>h ⟨j,hj,hn⟩) hall
      obtain ⟨j0,hj0,hn0⟩:=hne
      refine ⟨fun hr0=>?_,fun i hi=>?_⟩
      · have:=some_first hedge hsz hmem hr0
        simp at this
      · obtain ⟨g0,oi,hoi,hafter⟩:=mem_ready.1 hi
        have hlt:=(Array.getElem?_eq_some_iff.1 hoi).1
        have g0':listed.getD i false=false:=by simpa [Array.getD_eq_getD_getElem?,Array.getElem?_eq_getElem (hsz ▸ hlt)] using g0
        have ht:Told P tm h:=⟨_,_,_,_,_,R⟩
        rcases List.mem_append.1 ((hmem i).2 ⟨hlt,g0'⟩) with hi1 | hi2
        · obtain ⟨p,q,rfl⟩:=List.append_of_mem hi1
          have hind:AllIndep P ops wk i oi p:=fun j hj=>by
            obtain ⟨hjlt,hjl⟩:=(hmem j).1 (by simp [hj])
            rw [List.append_assoc,List.pairwise_append] at hp
            rcases hp.2.2 j hj i (by simp) with hp | ⟨oj,oi',q1,q2,q3⟩
            · have:=pre_listed hshut hp (.inr hi)
              rw [hjl] at this
              cases this
            · rw [hoi] at q2
              injection q2 with q2
              subst q2
              exact ⟨oj,q1,q3⟩
          refine wpOp_mono ?_ (astep_sound hoi (step_front hoi ht hind k) R Q)
          rintro a' w' ⟨φ',tm',h',p1,p2,p3⟩
          have hsub:(p++q++s :: r2).Sublist (p++i :: q++s :: r2):=(List.Sublist.append (List.Sublist.refl _) (List.sublist_cons_self _ _)).append (List.Sublist.refl _)
          have hsub2:(p++q++r2).Sublist (p++i :: q++r2):=(List.Sublist.append (List.Sublist.refl _) (List.sublist_cons_self _ _)).append (List.Sublist.refl _)
          have hnd':(p++i :: (q++s :: r2)).Nodup:=by simpa using hnd
          refine ih (p++q) (listed.setIfInBounds i true) (by simp at hlen ⊢; omega) (hnd.sublist hsub) (hp.sublist hsub2) hs2 (fun j hj=>h1 j (by simp at hj ⊢; rcases hj with h | h <;> simp [h])) (fun x hx j hj=>h2 x hx j (by simp at hj ⊢; rcases hj with h | h <;> simp [h])) (by simpa using hsz) ?_ (shut_step hshut hoi hafter) p3 p2 fun φ2 tm2 h2 a2 w2 q1 q2 q3=>hQ φ2 tm2 h2 a2 w2 q1 (p1.trans q2) q3
          refine listed_step (r:=p++i :: q++s :: r2) hsz hlt hmem fun x=>?_
          have:=mem_drop1 hnd' x
          simpa using this
        · rcases List.mem_cons.1 hi2 with rfl | hi2
          · -- the new object comes first
            rw [hos] at hoi; injection hoi with hoi; subst hoi
            have hap:∀ j∈r1,∃ oj,ops[j]?=some oj∧oj.apart ops os=true:=fun j hj=>by
              rcases h1 j hj with (h | ⟨oj,oi,q1,q2,q3⟩) | h
              · have:=pre_listed hshut h (.inr hi)
                rw [((hmem j).1 (by simp [hj])).2] at this
                cases this
              · rw [hos] at q2; injection q2 with q2; subst q2
                unfold indep at q3
                simp only [Bool.and_eq_true] at q3
                exact ⟨oj,q1,q3.1.1⟩
              · exact h
            obtain ⟨hg,hkd,⟨d,hd,hdl⟩,f,ob,hf,hl,hr,hs,he⟩:=weak_some r1 tm h hap (fun _ _=>rfl) ht k
            have h1':∀ j∈r1,IndepI P ops wk j i∨∃ oj,ops[j]?=some oj∧oj.apart ops os=true:=fun j hj=>.inr (hap j hj)
            obtain ⟨φ1,v0,w1,r1',rpre,R1,rv⟩:=eev_sound R.hp (fun x=>R.ev x) (he h)
            obtain ⟨t,rfl⟩:=rpre
            have htl:t.length=1:=by
              have:=R1.len
              have:=R.hp.len
              simp at *
              omega
            obtain ⟨pl,rfl⟩:∃ pl,t=[pl]:=by
              cases t with
              | nil=>simp at htl
              | cons x t=>cases t with
                | nil=>exact ⟨x,rfl⟩
                | cons y t=>simp at htl
            have hda:d<a.tmps.size:=by
              have hl':tm.length=a.tmps.size:=by simpa using R.tm.length
              rw [← hl']
              exact hdl
            have go:wpAny P .any ops Q fuel (listed.setIfInBounds i true) (a.put os.dst v0) w1:=by
              have hnd2:=List.nodup_append.1 hnd
              have hsub:(r1++r2).Sublist (r1++i :: r2):=List.Sublist.append (List.Sublist.refl _) (List.sublist_cons_self _ _)
              have Rh:=Rel.hide R.hp R1 hl hr
              rw [hd]
              refine late_B (B:=B) (w0:=w0) (w1:=w1) (u0:=a.eval (.tmp d)) (v0:=v0) (pl:=pl) (ob:=ob) (f:=f) (φ0:=φ) (h0:=h) (s:=i) (os:=os) (d:=d) (r2:=r2) (K:=K) hedge hos hd hg hkd hf hl hr hs R1 R.hp.len (by rw [R.hp.len]; exact rv) fuel r1 (listed.setIfInBounds i true) (tm:=tm) (h:=h) (by simp at hlen ⊢; omega) (hnd.sublist hsub) hp h1' h2 (by simpa using hsz) (listed_step hsz hlt hmem (mem_drop1 hnd)) (shut_step hshut hos hafter) he k (List.prefix_refl _) ?_ ?_ ?_ hQ
              · refine ⟨?_,R.df,Rh⟩
                show All2 (RelV φ) (tm.set d junk) (a.tmps.setIfInBounds d v0).toList
                rw [Array.toList_setIfInBounds]
                exact R.tm.set d (relV_junk _ _)
              · intro x hx
                have:=R.ev (.tmp d)
                simp only [ev,hx,Option.getD_some] at this
                exact this
              · show (a.tmps.setIfInBounds d v0)[d]?=some v0
                exact Array.getElem?_setIfInBounds_self_of_lt hda
            unfold wpOp
            simp only [hos]
            rw [if_pos (by unfold Region.wanted; rw [hg])]
            refine .inl ?_
            unfold Oper.wp
            rcases r1' with r1' | ⟨r1',rfl⟩
            · rw [r1']; exact go
            · rw [r1']; exact go
          · exfalso
            rcases h2 i hi2 j0 hj0 with h | h
            · exact hn0 (.inr h)
            · have:=pre_listed hshut h (.inr hi)
              rw [((hmem j0).1 (by simp [hj0])).2] at this
              cases this
end
def indepB (P:Program) (ops:Array Oper) (wk:Nat→Bool) (j i:Nat):Bool :=
  match ops[j]?,ops[i]? with
  | some oj,some oi=>indep P ops (wk j) (wk i) oj oi
  | _,_=>false
def apartB (ops:Array Oper) (j i:Nat):Bool :=
  match ops[j]?,ops[i]? with
  | some oj,some oi=>oj.apart ops oi
  | _,_=>false
def pairB (P:Program) (ops:Array Oper) (wk:Nat→Bool) (b:List Nat) (j i:Nat):Bool:=(b.getD i 0).testBit j || indepB P ops wk j i
def pairsB (P:Program) (ops:Array Oper) (wk:Nat→Bool) (b:List Nat):List Nat→Bool
  | []=>true
  | j :: r=>r.all (pairB P ops wk b j) && pairsB P ops wk b r
def lateOK (P:Program) (ops:Array Oper) (wk:Nat→Bool) (s:Nat) (r1 r2:List Nat):Bool :=
  let b:=befs ops.toList []
  decide ((r1++s :: r2).Nodup∧(r1++s :: r2).length≤ops.size) && (r1++s :: r2).all (fun i=>decide (i<ops.size)) && (List.range ops.size).all (fun i=>(r1++s :: r2).contains i) && pairsB P ops wk b (r1++r2) && r2.all (pairB P ops wk b s) &&
    r1.all (fun j=>pairB P ops wk b j s || apartB ops j s) && r2.all (fun i=>r1.all fun j=>indepB P ops wk j s || (b.getD i 0).testBit j)
theorem indepB_spec {wk:Nat→Bool} {j i:Nat} (h:indepB P ops wk j i=true):IndepI P ops wk j i:=by
  unfold indepB at h
  split at h
  · exact ⟨_,_,by assumption,by assumption,h⟩
  · cases h
theorem pre_bit {i j:Nat} (h:((befs ops.toList []).getD i 0).testBit j=true):Pre ops j i:=by
  cases hb:(befs ops.toList [])[i]? with
  | none=>rw [List.getD_eq_getElem?_getD,hb] at h; simp at h
  | some m =>
    rw [List.getD_eq_getElem?_getD,hb] at h
    exact befs_spec ops.toList [] rfl (fun i m hm=>by simp at hm) i m hb j h
theorem pairB_spec {wk:Nat→Bool} {j i:Nat} (h:pairB P ops wk (befs ops.toList []) j i=true):PairOK P ops wk j i:=by
  unfold pairB at h
  rw [Bool.or_eq_true] at h
  exact h.imp pre_bit indepB_spec
theorem pairsB_spec {wk:Nat→Bool}:∀ {r:List Nat},pairsB P ops wk (befs ops.toList []) r=true→r.Pairwise (PairOK P ops wk)
  | [],_=>List.Pairwise.nil
  | j :: r,h=>by
    simp only [pairsB,Bool.and_eq_true] at h
    exact List.pairwise_cons.2 ⟨fun i hi=>pairB_spec (List.all_eq_true.1 h.1 i hi),pairsB_spec h.2⟩
theorem late_sound {wk:Nat→Bool} {s:Nat} {os:Oper} {r1 r2:List Nat} {Q:Exit→Act→World→Prop} {K:List Value→Hp→Prop} {B:Bd} {w0 w:World} {φ:Inj} {tm:List Value} {h:Hp} {a:Act}
    (hedge:∀ i o e,ops[i]?=some o→e∈o.after→Region.binds .any e=true→e.on<i) (hos:ops[s]?=some os) (hok:lateOK P ops wk s r1 r2=true)
    (k:aops P ops wk r1 tm h (fun tm h=>astepS P os tm h (fun tm h=>aops P ops wk r2 tm h K))) (R:RelSt P B w0 φ tm h a w)
    (hQ:∀ φ' tm' h' a' w',RelSt P B w0 φ' tm' h' a' w'→φ <+: φ'→K tm' h'→Q .normal a' w'):wpAny P .any ops Q ops.size (Array.replicate ops.size false) a w:=by
  unfold lateOK at hok
  simp only [Bool.and_eq_true,decide_eq_true_eq] at hok
  obtain ⟨⟨⟨⟨⟨⟨⟨hnd,hlen⟩,hlt⟩,hin⟩,hp⟩,hs2⟩,h1⟩,h2⟩:=hok
  have hmem:∀ i,i∈r1++s :: r2↔i<ops.size:=fun i=>⟨fun hi=>by simpa using List.all_eq_true.1 hlt i hi,fun hi=>by
    have:=List.all_eq_true.1 hin i (by simpa using hi)
    exact List.contains_iff_mem.1 this⟩
  refine late_A hedge hos ops.size r1 _ hlen hnd (pairsB_spec hp) (fun i hi=>pairB_spec (List.all_eq_true.1 hs2 i hi)) (fun j hj=>?_) (fun i hi j hj=>?_) (by simp) (fun i=>?_) ?_ k R hQ
  · have:=List.all_eq_true.1 h1 j hj
    rw [Bool.or_eq_true] at this
    refine this.imp pairB_spec fun h=>?_
    unfold apartB at h
    split at h
    · rename_i oj oi q1 q2
      rw [hos] at q2; injection q2 with q2; subst q2
      exact ⟨oj,q1,h⟩
    · cases h
  · have:=List.all_eq_true.1 (List.all_eq_true.1 h2 i hi) j hj
    rw [Bool.or_eq_true] at this
    exact this.imp indepB_spec pre_bit
  · rw [hmem i]
    simp [Array.getD_eq_getD_getElem?,Array.getElem?_replicate]
    intro hi
    simp [hi]
  · intro i o e hi hl _ _
    rw [Array.getD_eq_getD_getElem?,Array.getElem?_replicate] at hl
    split at hl <;> simp at hl
end
end Go.Proofs.Ytmpgpkdijfcfhaa.Hz
