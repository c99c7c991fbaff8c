/- Texts of the calculus and of the program's functions, merged: I J K KE KF KG L M N. -/
import Derived.Test.YtgfilbekfkhjjaaGreatHyGA
import Derived.Eval
import Derived.Deep.LoopGhost
/- Regions: an operation's step on the plain heap, and why the order that a region draws does not matter. -/
namespace Go.Proofs.YtgfilbekfkhjjaaGreat.Hz
open Go.RowKit
set_option linter.unusedVariables false
set_option linter.unusedSimpArgs false

/-- All old objects are as they were. -/
def Ext (h h' : Hp) : Prop := h.length ≤ h'.length ∧ ∀ o, o < h.length → h'[o]? = h[o]?
theorem Ext.refl (h : Hp) : Ext h h := ⟨Nat.le_refl _, fun _ _ => rfl⟩
theorem Ext.trans {a b c : Hp} (h : Ext a b) (k : Ext b c) : Ext a c := ⟨Nat.le_trans h.1 k.1, fun o ho => (k.2 o (by have := h.1; omega)).trans (h.2 o ho)⟩
theorem Ext.push (h t : Hp) : Ext h (h ++ t) := ⟨by simp, fun o ho => List.getElem?_append_left ho⟩

def put (tm : List Value) (d : Option Tmp) (v : Value) : List Value :=
  match d with
  | some d => tm.set d v
  | none => tm

section
variable (P : Program)

/-- What a call comes to in the machine. -/
def CallsV (f : FuncId) (args : Array Value) (w : World) (S : Value → World → Prop) : Prop :=
  match (callFunc f args).run P w with
  | .ok (.enter g bs) w1 => Calls P g bs w1 fun e w2 => ∃ v, e = .returned v ∧ S v w2
  | .ok (.value v) w1 => S v w1
  | _ => False

/-- A CONTRACT: a call of f, on the plain heap. -/
def ACall (f : FuncId) (args : List Value) (h : Hp) (R : Value → Hp → Prop) : Prop :=
  ∀ (B : Bd) (w0 : World) (φ : Inj) (w : World) (args' : List Value), Rel P B w0 φ h w → All2 (RelV φ) args args' →
    CallsV P f args'.toArray w fun v' w' => ∃ φ' v h', φ <+: φ' ∧ Rel P B w0 φ' h' w' ∧ RelV φ' v v' ∧ R v h'

def asplit (b : Bool) (A B : Prop) : Prop := (b = true → A) ∧ (b = false → B)

def aop (wk : Bool) (o : Oper) (tm : List Value) (h : Hp) (K : List Value → Hp → Prop) : Prop :=
  match o.op with
  | .call { callee := .value f, args, .. } =>
    match ev tm f with
    | .func (.func g) first cap => first = #[] ∧ ACall P g (args.toList.map (ev tm) ++ cap.toList) h fun v h' => (wk = true → Ext h h') ∧ K (put tm o.dst v) h'
    | _ => False
  | op =>
    match kdOf P op with
    | .pure => ∃ v, qev P (ev tm) op = some v ∧ K (put tm o.dst v) h
    | .load => ∃ v, lev P h (ev tm) op = some v ∧ K (put tm o.dst v) h
    | .call => False
    | _ => ∃ v h', eev P h (ev tm) op = some (v, h') ∧ K (put tm o.dst v) h'

/-- The guard's slot. -/
def gslot (ops : Array Oper) (tm : List Value) (j : Nat) : Option Value := ((ops[j]?).bind (·.dst)).bind (tm[·]?)
def astep (ops : Array Oper) (wk : Bool) (o : Oper) (tm : List Value) (h : Hp) (K : List Value → Hp → Prop) : Prop :=
  match o.guard with
  | none => aop P wk o tm h K
  | some (j, want) =>
    match gslot ops tm j with
    | some (.bool b) => asplit (b == want) (aop P wk o tm h K) (K (put tm o.dst undef) h)
    | some (.tuple vs) => if vs = #[] then K (put tm o.dst undef) h else False
    | _ => False

def aops (ops : Array Oper) (wk : Nat → Bool) : List Nat → List Value → Hp → (List Value → Hp → Prop) → Prop
  | [], tm, h, K => K tm h
  | i :: rest, tm, h, K =>
    match ops[i]? with
    | none => aops ops wk rest tm h K
    | some o => astep P ops (wk i) o tm h fun tm h => aops ops wk rest tm h K
end

structure RelSt (P : Program) (B : Bd) (w0 : World) (φ : Inj) (tm : List Value) (h : Hp) (a : Act) (w : World) : Prop where
  tm : All2 (RelV φ) tm a.tmps.toList
  df : a.defers = []
  hp : Rel P B w0 φ h w

section
variable {P : Program} {B : Bd} {w0 w : World} {φ : Inj} {h : Hp} {tm : List Value} {a : Act}

theorem RelSt.ev (R : RelSt P B w0 φ tm h a w) (x : Operand) : RelV φ (ev tm x) (a.eval x) := relTm_ev R.tm a.defers x
theorem RelSt.put (R : RelSt P B w0 φ tm h a w) {φ' : Inj} {h' : Hp} {w' : World} {v v' : Value} (d : Option Tmp) (hφ : φ <+: φ') (hr : Rel P B w0 φ' h' w') (hv : RelV φ' v v') : RelSt P B w0 φ' (put tm d v) h' (a.put d v') w' := by
  have ht : All2 (RelV φ') tm a.tmps.toList := R.tm.mono fun _ _ r => r.mono hφ
  cases d with
  | none => exact ⟨ht, R.df, hr⟩
  | some d =>
    refine ⟨?_, R.df, hr⟩
    show All2 (RelV φ') (tm.set d v) (a.tmps.setIfInBounds d v').toList
    rw [Array.toList_setIfInBounds]
    exact ht.set d hv

theorem ACall.mono {f : FuncId} {args : List Value} {R R' : Value → Hp → Prop} (k : ACall P f args h R) (hr : ∀ v h', R v h' → R' v h') : ACall P f args h R' := by
  intro B w0 φ w args' hrel hargs
  have := k B w0 φ w args' hrel hargs
  unfold CallsV at *
  split at this
  · rename_i g bs w1 he
    refine this.mono fun e w2 ⟨v, h1, φ', v0, h', p1, p2, p3, p4⟩ => ⟨v, h1, φ', v0, h', p1, p2, p3, hr _ _ p4⟩
  · rename_i v w1 he
    obtain ⟨φ', v0, h', p1, p2, p3, p4⟩ := this
    exact ⟨φ', v0, h', p1, p2, p3, hr _ _ p4⟩
  · exact this

theorem aop_mono {wk : Bool} {o : Oper} {K K' : List Value → Hp → Prop} (hk : ∀ tm h, K tm h → K' tm h) (k : aop P wk o tm h K) : aop P wk o tm h K' := by
  unfold aop at *
  split at k
  · split at k
    · exact ⟨k.1, k.2.mono fun v h' ⟨h1, h2⟩ => ⟨h1, hk _ _ h2⟩⟩
    · exact k
  · split at k
    · obtain ⟨v, h1, h2⟩ := k; exact ⟨v, h1, hk _ _ h2⟩
    · obtain ⟨v, h1, h2⟩ := k; exact ⟨v, h1, hk _ _ h2⟩
    · exact k
    · obtain ⟨v, h', h1, h2⟩ := k; exact ⟨v, h', h1, hk _ _ h2⟩

/-- One operation in the machine. -/
theorem aop_sound {wk : Bool} {o : Oper} {K : List Value → Hp → Prop} (k : aop P wk o tm h K) (R : RelSt P B w0 φ tm h a w) (Q : Exit → Act → World → Prop) :
    o.wp P a w (fun a' w' => ∃ φ' tm' h', φ <+: φ' ∧ RelSt P B w0 φ' tm' h' a' w' ∧ K tm' h') Q := by
  unfold aop at k
  split at k
  · rename_i f args argTypes hop
    have hf := R.ev f
    split at k
    · rename_i g first cap hev
      obtain ⟨rfl, k⟩ := k
      rw [hev] at hf
      obtain ⟨_, cap', hf', hcap⟩ := hf
      have hargs : All2 (RelV φ) (args.toList.map (Hz.ev tm) ++ cap.toList) (args.toList.map a.eval ++ cap'.toList) :=
        (All2.map2 _ _ fun c _ => R.ev c).append (hcap.mono fun x y r => relV_of (by
          unfold RelC
          split
          · simp [RelC0] at r
          · exact r))
      have hc := k B w0 φ w _ R.hp hargs
      have harr : (args.toList.map a.eval ++ cap'.toList).toArray = args.map a.eval ++ cap' := by
        apply Array.ext'
        simp
      rw [harr] at hc
      unfold Oper.wp
      have hex : (execOp a.eval o).run P w = (callFunc g (args.map a.eval ++ cap')).run P w := by
        obtain ⟨dst, op, type, pos, after, guard⟩ := o
        simp only at hop
        subst hop
        simp [execOp, resolve, Deferred.ofValue, hf', invoke]
      rw [hex]
      unfold CallsV at hc
      split at hc
      · rename_i g' bs w1 he
        rw [he]
        simp only [Oper.upon]
        refine hc.mono fun e w2 ⟨v', he', φ', v, h', p1, p2, p3, p4, p5⟩ => ?_
        subst he'
        exact ⟨φ', _, h', p1, R.put o.dst p1 p2 p3, p5⟩
      · rename_i v' w1 he
        rw [he]
        obtain ⟨φ', v, h', p1, p2, p3, p4, p5⟩ := hc
        exact ⟨φ', _, h', p1, R.put o.dst p1 p2 p3, p5⟩
      · exact hc.elim
    · exact k.elim
  · unfold Oper.wp
    split at k
    · obtain ⟨v, h1, h2⟩ := k
      obtain ⟨v', r1, r2⟩ := qev_sound (P := P) (fun x => R.ev x) h1
      rw [r1 w]
      exact ⟨φ, _, h, List.prefix_refl _, R.put o.dst (List.prefix_refl _) R.hp r2, h2⟩
    · obtain ⟨v, h1, h2⟩ := k
      obtain ⟨v', r1, r2⟩ := lev_sound R.hp (fun x => R.ev x) h1
      rw [r1]
      exact ⟨φ, _, h, List.prefix_refl _, R.put o.dst (List.prefix_refl _) R.hp r2, h2⟩
    · exact k.elim
    · obtain ⟨v, h', h1, h2⟩ := k
      obtain ⟨φ', v', w', r1, r2, r3, r4⟩ := eev_sound R.hp (fun x => R.ev x) h1
      rcases r1 with r1 | ⟨r1, rfl⟩
      · rw [r1]
        exact ⟨φ', _, h', r2, R.put o.dst r2 r3 r4, h2⟩
      · rw [r1]
        exact ⟨φ', _, h', r2, R.put o.dst r2 r3 r4, h2⟩

theorem gslot_bool {ops : Array Oper} (R : RelSt P B w0 φ tm h a w) {j : Nat} {b : Bool} (e : gslot ops tm j = some (.bool b)) : yielded ops a.tmps j = some b := by
  unfold gslot at e
  simp only [Option.bind_eq_some_iff] at e
  obtain ⟨t, ht, e⟩ := e
  obtain ⟨v', k, r⟩ := R.tm.get t _ e
  obtain rfl := rBool (φ := φ) r
  have : a.tmps[t]? = some (.bool b) := by simpa using k
  unfold yielded
  have h2 : ((ops[j]?).bind (·.dst)).bind (a.tmps[·]?) = some (.bool b) := by
    rw [Option.bind_eq_some_iff]
    exact ⟨t, by rw [Option.bind_eq_some_iff]; exact ht, this⟩
  rw [h2]
theorem gslot_undef {ops : Array Oper} (R : RelSt P B w0 φ tm h a w) {j : Nat} (e : gslot ops tm j = some (.tuple #[])) : yielded ops a.tmps j = none := by
  unfold gslot at e
  simp only [Option.bind_eq_some_iff] at e
  obtain ⟨t, ht, e⟩ := e
  obtain ⟨v', k, r⟩ := R.tm.get t _ e
  obtain ⟨vs', rfl, hvs⟩ := r
  have : a.tmps[t]? = some (.tuple vs') := by simpa using k
  unfold yielded
  have h2 : ((ops[j]?).bind (·.dst)).bind (a.tmps[·]?) = some (.tuple vs') := by
    rw [Option.bind_eq_some_iff]
    exact ⟨t, by rw [Option.bind_eq_some_iff]; exact ht, this⟩
  rw [h2]

theorem astep_sound {ops : Array Oper} {wk : Bool} {i : Nat} {o : Oper} {K : List Value → Hp → Prop} (hi : ops[i]? = some o) (k : astep P ops wk o tm h K) (R : RelSt P B w0 φ tm h a w) (Q : Exit → Act → World → Prop) :
    wpOp P ops Q i (fun a' w' => ∃ φ' tm' h', φ <+: φ' ∧ RelSt P B w0 φ' tm' h' a' w' ∧ K tm' h') a w := by
  unfold wpOp
  simp only [hi]
  unfold astep at k
  split at k
  · rename_i hg
    rw [if_pos (by unfold Region.wanted; rw [hg])]
    exact .inl (aop_sound k R Q)
  · rename_i j want hg
    have skip : K (put tm o.dst undef) h → ∃ φ' tm' h', φ <+: φ' ∧ RelSt P B w0 φ' tm' h' (a.put o.dst undef) w ∧ K tm' h' :=
      fun hk => ⟨φ, _, h, List.prefix_refl _, R.put o.dst (List.prefix_refl _) R.hp (relV_undef φ), hk⟩
    split at k
    · rename_i b hb
      have hy := gslot_bool R hb
      have hw : Region.wanted o (yielded ops a.tmps) = (b == want) := by
        unfold Region.wanted
        rw [hg]
        simp only [hy]
        cases b <;> cases want <;> rfl
      rw [hw]
      cases hbw : (b == want) with
      | true => exact .inl (aop_sound (k.1 hbw) R Q)
      | false => exact skip (k.2 hbw)
    · rename_i vs hb
      split at k
      · rename_i hvs
        subst hvs
        have hy := gslot_undef R hb
        have hw : Region.wanted o (yielded ops a.tmps) = false := by
          unfold Region.wanted
          rw [hg]
          simp only [hy]
          rfl
        rw [hw]
        exact skip k
      · exact k.elim
    · exact k.elim

theorem aops_sound {ops : Array Oper} {wk : Nat → Bool} {Q : Exit → Act → World → Prop} : ∀ (l : List Nat) {φ : Inj} {tm : List Value} {h : Hp} {a : Act} {w : World} {K : List Value → Hp → Prop}, aops P ops wk l tm h K → RelSt P B w0 φ tm h a w →
    (∀ φ' tm' h' a' w', φ <+: φ' → RelSt P B w0 φ' tm' h' a' w' → K tm' h' → Q .normal a' w') → wpOps P ops Q l a w
  | [], φ, tm, h, a, w, K, k, R, hQ => hQ φ tm h a w (List.prefix_refl _) R k
  | i :: rest, φ, tm, h, a, w, K, k, R, hQ => by
    rw [wpOps_cons]
    unfold aops at k
    cases hi : ops[i]? with
    | none =>
      simp only [hi] at k
      unfold wpOp
      simp only [hi]
      exact aops_sound rest k R hQ
    | some o =>
      simp only [hi] at k
      refine wpOp_mono ?_ (astep_sound hi k R Q)
      rintro a' w' ⟨φ', tm', h', p1, p2, p3⟩
      exact aops_sound rest p3 p2 fun φ2 tm2 h2 a2 w2 q1 q2 q3 => hQ φ2 tm2 h2 a2 w2 (p1.trans q1) q2 q3
end
end Go.Proofs.YtgfilbekfkhjjaaGreat.Hz
/- A region that draws its order: every order comes to what the text's order comes to. -/
namespace Go.Proofs.YtgfilbekfkhjjaaGreat.Hz
open Go.RowKit
set_option linter.unusedVariables false
set_option linter.unusedSimpArgs false

section
variable {P : Program}

theorem mapO {ρ ρ' : Operand → Value} : ∀ (o : Option Operand), (∀ x ∈ o.toArray, ρ x = ρ' x) → o.map ρ = o.map ρ'
  | none, _ => rfl
  | some x, h => by simp [h x (by simp)]
theorem mapL {ρ ρ' : Operand → Value} (l : List Operand) (h : ∀ x ∈ l, ρ x = ρ' x) : l.map ρ = l.map ρ' := List.map_congr_left h

theorem qev_congr {ρ ρ' : Operand → Value} (op : Op) (h : ∀ x ∈ op.operands, ρ x = ρ' x) : qev P ρ op = qev P ρ' op := by
  cases op with
  | move x => simp [qev, h x (by simp [Op.operands])]
  | assign x => simp [qev, h x (by simp [Op.operands])]
  | pick c a b => simp only [qev, h c (by simp [Op.operands]), h a (by simp [Op.operands]), h b (by simp [Op.operands])]
  | nilCheck x => simp only [qev, h x (by simp [Op.operands])]
  | binOp op t x y u => simp only [qev, h x (by simp [Op.operands]), h y (by simp [Op.operands])]
  | unOp op t x => simp only [qev, h x (by simp [Op.operands])]
  | convert s d x => simp only [qev, h x (by simp [Op.operands])]
  | fieldAddr t x f => simp only [qev, h x (by simp [Op.operands])]
  | field t x f => simp only [qev, h x (by simp [Op.operands])]
  | indexAddr t x y => simp only [qev, h x (by simp [Op.operands]), h y (by simp [Op.operands])]
  | index t x y => simp only [qev, h x (by simp [Op.operands]), h y (by simp [Op.operands])]
  | extract x i => simp only [qev, h x (by simp [Op.operands])]
  | slice t x lo hi mx =>
    simp only [qev, h x (by simp [Op.operands]), mapO lo fun y hy => h y (by simp [Op.operands] at hy ⊢; simp [hy]), mapO hi fun y hy => h y (by simp [Op.operands] at hy ⊢; simp [hy]), mapO mx fun y hy => h y (by simp [Op.operands] at hy ⊢; simp [hy])]
  | makeFunc fn first cap =>
    cases fn with
    | func g =>
      have hc : cap.map ρ = cap.map ρ' := Array.map_congr_left fun x hx => h x (by simp [Op.operands, hx])
      have hc2 : cap.toList.map ρ = cap.toList.map ρ' := mapL _ fun x hx => h x (by simp [Op.operands] at hx ⊢; simp [hx])
      simp only [qev, hc, hc2]
    | _ => simp only [qev]
  | build t parts =>
    have : (parts.toList.map fun p => (p.1, ρ p.2)) = parts.toList.map fun p => (p.1, ρ' p.2) := List.map_congr_left fun p hp => by rw [h p.2 (by simp only [Op.operands]; simp at hp ⊢; exact ⟨_, hp⟩)]
    simp only [qev, this]
  | call c =>
    obtain ⟨cal, args, ts⟩ := c
    have ha : args.toList.map ρ = args.toList.map ρ' := mapL _ fun x hx => h x (by simp only [Op.operands, Call.operands]; simp at hx ⊢; simp [hx])
    have h1 : ∀ x, args.toList = [x] → ρ x = ρ' x := fun x hx => h x (by simp only [Op.operands, Call.operands]; have : x ∈ args.toList := by rw [hx]; simp
                                                                         simp at this ⊢; simp [this])
    cases cal with
    | builtin b =>
      cases b with
      | len =>
        simp only [qev]
        split
        · rename_i t x ht hx
          rw [h1 x hx]
        · rfl
      | min => simp only [qev, ha]
      | max => simp only [qev, ha]
      | _ => simp only [qev]
    | _ => simp only [qev]
  | _ => simp only [qev]

theorem lev_congr {h0 : Hp} {ρ ρ' : Operand → Value} (op : Op) (h : ∀ x ∈ op.operands, ρ x = ρ' x) : lev P h0 ρ op = lev P h0 ρ' op := by
  cases op with
  | load t x => simp only [lev, h x (by simp [Op.operands])]
  | convert s d x => simp only [lev, h x (by simp [Op.operands])]
  | slice t x lo hi mx =>
    simp only [lev, h x (by simp [Op.operands]), mapO lo fun y hy => h y (by simp [Op.operands] at hy ⊢; simp [hy]), mapO hi fun y hy => h y (by simp [Op.operands] at hy ⊢; simp [hy]), mapO mx fun y hy => h y (by simp [Op.operands] at hy ⊢; simp [hy])]
  | _ => simp only [lev]

theorem eev_congr {h0 : Hp} {ρ ρ' : Operand → Value} (op : Op) (h : ∀ x ∈ op.operands, ρ x = ρ' x) : eev P h0 ρ op = eev P h0 ρ' op := by
  cases op with
  | box t x => simp only [eev, h x (by simp [Op.operands])]
  | store t x y => simp only [eev, h x (by simp [Op.operands]), h y (by simp [Op.operands])]
  | convert s d x => simp only [eev, h x (by simp [Op.operands])]
  | makeSlice t x y => simp only [eev, h x (by simp [Op.operands]), h y (by simp [Op.operands])]
  | buildSlice t n parts =>
    have : (parts.toList.map fun p => (p.1, ρ p.2)) = parts.toList.map fun p => (p.1, ρ' p.2) := List.map_congr_left fun p hp => by rw [h p.2 (by simp only [Op.operands]; simp at hp ⊢; exact ⟨_, hp⟩)]
    simp only [eev, this]
  | call c =>
    obtain ⟨cal, args, ts⟩ := c
    have h1 : ∀ x y, args.toList = [x, y] → ρ x = ρ' x ∧ ρ y = ρ' y := fun x y hx => by
      have hm : ∀ z ∈ args.toList, ρ z = ρ' z := fun z hz => h z (by simp only [Op.operands, Call.operands]; simp at hz ⊢; simp [hz])
      exact ⟨hm x (by rw [hx]; simp), hm y (by rw [hx]; simp)⟩
    have h2 : ∀ x, args.toList = [x] → ρ x = ρ' x := by
      intro x hx
      have hm : x ∈ args.toList := by rw [hx]; simp
      refine h x ?_
      simp only [Op.operands, Call.operands]
      simp at hm ⊢
      simp [hm]
    cases cal with
    | builtin b =>
      cases b with
      | append =>
        simp only [eev]
        split
        · rename_i st xt s x ht hx
          rw [(h1 s x hx).1, (h1 s x hx).2]
        · rfl
      | copy =>
        simp only [eev]
        split
        · rename_i t st d s ht hx
          rw [(h1 d s hx).1, (h1 d s hx).2]
        · rfl
      | clear =>
        simp only [eev]
        split
        · rename_i t x ht hx
          rw [h2 x hx]
        · rfl
      | _ => simp only [eev]
    | _ => simp only [eev]
  | _ => simp only [eev]

theorem ev_put {tm : List Value} {d : Option Tmp} {v : Value} {x : Operand} (h : ∀ t, d = some t → x ≠ .tmp t) : ev (put tm d v) x = ev tm x := by
  cases d with
  | none => rfl
  | some d =>
    cases x with
    | tmp t =>
      have hne : d ≠ t := fun e => h d rfl (e ▸ rfl)
      simp [ev, put, List.getElem?_set_ne hne]
    | _ => rfl
theorem put_comm (tm : List Value) {x y : Option Tmp} (v u : Value) (h : ∀ d, x = some d → y ≠ some d) : put (put tm x v) y u = put (put tm y u) x v := by
  cases x with
  | none => rfl
  | some d =>
    cases y with
    | none => rfl
    | some e =>
      have hne : d ≠ e := fun he => h d rfl (he ▸ rfl)
      exact List.set_comm _ _ hne

variable {ops : Array Oper} {tm : List Value} {h : Hp}

theorem ev_apart {o : Oper} {d : Option Tmp} {v : Value} (k : ∀ t, d = some t → t ∉ o.looksAt ops) : ∀ x ∈ o.op.operands, ev (put tm d v) x = ev tm x := fun x hx => ev_put fun t ht hxt => k t ht (by
  subst hxt
  exact List.mem_append_left _ (List.mem_filterMap.2 ⟨.tmp t, by simpa using hx, rfl⟩))
theorem gslot_apart {o : Oper} {d : Option Tmp} {v : Value} (k : ∀ t, d = some t → t ∉ o.looksAt ops) {j : Nat} {want : Bool} (hg : o.guard = some (j, want)) : gslot ops (put tm d v) j = gslot ops tm j := by
  cases d with
  | none => rfl
  | some d =>
    unfold gslot
    cases ht : (ops[j]?).bind (·.dst) with
    | none => rfl
    | some t =>
      have hne : d ≠ t := fun e => k d rfl (by subst e; simp [Oper.looksAt, hg, ht])
      simp [put, List.getElem?_set_ne hne]

theorem aop_apart {wk : Bool} {o : Oper} {d : Option Tmp} {v : Value} (k : ∀ t, d = some t → t ∉ o.looksAt ops) (kd : ∀ t, d = some t → o.dst ≠ some t) (K : List Value → Hp → Prop) :
    aop P wk o (put tm d v) h K ↔ aop P wk o tm h (fun tm' h' => K (put tm' d v) h') := by
  have he := ev_apart (tm := tm) (v := v) k
  have hp : ∀ u, put (put tm d v) o.dst u = put (put tm o.dst u) d v := fun u => put_comm tm v u kd
  unfold aop
  split
  · rename_i f args argTypes hop
    rw [hop] at he
    have hf : ev (put tm d v) f = ev tm f := he f (by simp [Op.operands, Call.operands])
    have ha : args.toList.map (ev (put tm d v)) = args.toList.map (ev tm) := mapL _ fun x hx => he x (by simp [Op.operands, Call.operands] at hx ⊢; simp [hx])
    rw [hf]
    split
    · rw [ha]
      simp only [hp]
    · exact Iff.rfl
  · split
    · rw [qev_congr o.op he]; simp only [hp]
    · rw [lev_congr o.op he]; simp only [hp]
    · exact Iff.rfl
    · rw [eev_congr o.op he]; simp only [hp]
theorem astep_apart {wk : Bool} {o : Oper} {d : Option Tmp} {v : Value} (k : ∀ t, d = some t → t ∉ o.looksAt ops) (kd : ∀ t, d = some t → o.dst ≠ some t) (K : List Value → Hp → Prop) :
    astep P ops wk o (put tm d v) h K ↔ astep P ops wk o tm h (fun tm' h' => K (put tm' d v) h') := by
  have hp : ∀ u, put (put tm d v) o.dst u = put (put tm o.dst u) d v := fun u => put_comm tm v u kd
  unfold astep
  split
  · exact aop_apart k kd K
  · rename_i j want hg
    rw [gslot_apart k hg]
    split
    · unfold asplit; rw [aop_apart k kd K, hp]
    · rw [hp]
    · exact Iff.rfl

/-! An operation that only yields a value. -/
def raw (P : Program) (o : Oper) (tm : List Value) (h : Hp) : Option Value :=
  match kdOf P o.op with
  | .pure => qev P (ev tm) o.op
  | .load => lev P h (ev tm) o.op
  | _ => none
def val (P : Program) (ops : Array Oper) (o : Oper) (tm : List Value) (h : Hp) : Option Value :=
  match o.guard with
  | none => raw P o tm h
  | some (j, want) =>
    match gslot ops tm j with
    | some (.bool b) => if b == want then raw P o tm h else some undef
    | some (.tuple vs) => if vs = #[] then some undef else none
    | _ => none
def calm (P : Program) (o : Oper) : Bool :=
  match kdOf P o.op with
  | .pure | .load => true
  | _ => false
theorem calm_call {o : Oper} (hc : calm P o = true) : ∀ f args ts, o.op ≠ .call { callee := .value f, args := args, argTypes := ts } := by
  intro f args ts e
  unfold calm at hc
  rw [e] at hc
  simp [kdOf] at hc
theorem aop_calm {wk : Bool} {o : Oper} (hc : calm P o = true) (K : List Value → Hp → Prop) : aop P wk o tm h K ↔ ∃ v, raw P o tm h = some v ∧ K (put tm o.dst v) h := by
  have hcall := calm_call hc
  unfold calm at hc
  unfold aop raw
  split
  · rename_i f args ts hop
    exact absurd hop (hcall f args ts)
  · split
    · rename_i hk; simp only [hk]
    · rename_i hk; simp only [hk]
    · rename_i hk; simp [hk] at hc
    · rename_i h1 h2 h3
      split at hc
      · rename_i hk; exact absurd hk h1
      · rename_i hk; exact absurd hk h2
      · cases hc
theorem astep_calm {wk : Bool} {o : Oper} (hc : calm P o = true) (K : List Value → Hp → Prop) : astep P ops wk o tm h K ↔ ∃ v, val P ops o tm h = some v ∧ K (put tm o.dst v) h := by
  unfold astep val
  cases hg : o.guard with
  | none => exact aop_calm hc K
  | some g =>
    obtain ⟨j, want⟩ := g
    simp only
    cases hs : gslot ops tm j with
    | none => simp
    | some s =>
      cases s with
      | bool b =>
        simp only [asplit]
        rw [aop_calm hc K]
        cases hbw : (b == want) <;> simp
      | tuple vs => by_cases hv : vs = #[] <;> simp [hv]
      | _ => simp

theorem val_apart {o : Oper} {d : Option Tmp} {v : Value} (k : ∀ t, d = some t → t ∉ o.looksAt ops) : val P ops o (put tm d v) h = val P ops o tm h := by
  have he := ev_apart (tm := tm) (v := v) k
  have hr : raw P o (put tm d v) h = raw P o tm h := by
    unfold raw
    rw [qev_congr o.op he, lev_congr o.op he]
  unfold val
  rw [hr]
  split
  · rfl
  · rename_i j want hg
    rw [gslot_apart k hg]

/-! Reads stand where objects are only added. -/
def VA (h : Hp) : Value → Prop
  | .pointer (some a) | .slice (some a) _ _ => a.block < h.length
  | _ => True
theorem cellAt_ext {h' : Hp} (hx : Ext h h') {o : Nat} (ho : o < h.length) (i : Nat) : cellAt h' o i = cellAt h o i := by
  unfold cellAt
  rw [hx.2 o ho]
theorem cellsAt_ext {h' : Hp} (hx : Ext h h') {o : Nat} (ho : o < h.length) : ∀ (n i : Nat), cellsAt h' o i n = cellsAt h o i n
  | 0, _ => rfl
  | n + 1, i => by simp only [cellsAt, cellAt_ext hx ho, cellsAt_ext hx ho n]
theorem elAt_ext {h' : Hp} (hx : Ext h h') {o : Nat} (ho : o < h.length) : elAt h' o = elAt h o := by
  unfold elAt
  rw [hx.2 o ho]
theorem lev_ext {h' : Hp} {ρ : Operand → Value} (hx : Ext h h') (op : Op) (hv : ∀ x ∈ op.operands, VA h (ρ x)) : lev P h' ρ op = lev P h ρ op := by
  cases op with
  | load t x =>
    have h1 := hv x (by simp [Op.operands])
    simp only [lev]
    split
    · rename_i a ha
      rw [ha] at h1
      have h2 : a.block < h.length := h1
      simp only [cellAt_ext hx h2, cellsAt_ext hx h2]
    · rfl
  | convert s d x =>
    have h1 := hv x (by simp [Op.operands])
    simp only [lev]
    split
    · split
      · rfl
      · rename_i a n c ha
        rw [ha] at h1
        have h2 : a.block < h.length := h1
        simp only [cellsAt_ext hx h2]
      · rfl
    · rfl
  | slice t x lo hi mx =>
    have h1 := hv x (by simp [Op.operands])
    simp only [lev]
    split
    · rfl
    · unfold asl2
      split
      · rename_i a n c ha
        rw [ha] at h1
        have h2 : a.block < h.length := h1
        simp only [elAt_ext hx h2]
      · rfl
  | _ => simp only [lev]
theorem val_ext {h' : Hp} {o : Oper} (hx : Ext h h') (hv : ∀ x, VA h (ev tm x)) : val P ops o tm h' = val P ops o tm h := by
  unfold val raw
  rw [lev_ext hx o.op fun x _ => hv x]
theorem val_pure {h' : Hp} {o : Oper} (hc : kdOf P o.op = .pure) : val P ops o tm h' = val P ops o tm h := by
  unfold val raw
  simp only [hc]
theorem RelSt.va {B : Bd} {w0 w : World} {φ : Inj} {a : Act} (R : RelSt P B w0 φ tm h a w) (x : Operand) : VA h (Hz.ev tm x) := by
  have r := R.ev x
  have lt : ∀ {o : Nat} {p : Pl}, φ[o]? = some p → o < h.length := fun e => by rw [← R.hp.len]; exact (List.getElem?_eq_some_iff.1 e).1
  unfold VA
  split
  · rename_i a' he
    rw [he] at r
    obtain ⟨p, hp, _⟩ := r
    exact lt hp
  · rename_i a' n c he
    rw [he] at r
    obtain ⟨p, c', a2, hp, _⟩ := r
    exact lt hp
  · trivial

/-! What an operation may come to. -/
def Out (P : Program) (wk : Bool) (o : Oper) (h h' : Hp) : Prop :=
  match kdOf P o.op with
  | .pure | .load => h' = h
  | .weak => Ext h h'
  | .call => wk = true → Ext h h'
  | .strong => True
theorem eev_weak {ρ : Operand → Value} {op : Op} {v : Value} {h' : Hp} (e : eev P h ρ op = some (v, h')) (hk : kdOf P op = .weak) : Ext h h' := by
  have push : ∀ t, Ext h (h ++ t) := Ext.push h
  cases op with
  | box t x =>
    simp only [eev, Option.bind_eq_some_iff] at e
    obtain ⟨cs, _, e⟩ := e
    split at e
    · simp only [Option.map_eq_some_iff, Prod.mk.injEq] at e
      obtain ⟨_, _, _, rfl⟩ := e; exact push _
    · cases e
  | alloc t =>
    simp only [eev, Option.bind_eq_some_iff] at e
    obtain ⟨z, _, e⟩ := e
    split at e
    · simp only [Option.map_eq_some_iff, Prod.mk.injEq] at e
      obtain ⟨_, _, _, rfl⟩ := e; exact push _
    · cases e
  | buildSlice t n ps =>
    simp only [eev, Option.bind_eq_some_iff] at e
    obtain ⟨⟨el, sz, bt, zs⟩, _, e⟩ := e
    simp only at e
    split at e
    · simp only [Option.bind_eq_some_iff] at e
      obtain ⟨cs, _, e⟩ := e
      split at e
      · injection e with e; injection e with _ e; subst e; exact push _
      · cases e
    · cases e
  | makeSlice t l c =>
    simp only [eev] at e
    split at e
    · simp only [Option.bind_eq_some_iff] at e
      obtain ⟨⟨el, sz, bt, zs⟩, _, e⟩ := e
      simp only at e
      split at e
      · injection e with e; injection e with _ e; subst e; exact push _
      · cases e
    · cases e
  | convert s d x =>
    simp only [eev] at e
    split at e
    · simp only [Option.bind_eq_some_iff] at e
      obtain ⟨el, _, e⟩ := e
      split at e
      · injection e with e; injection e with _ e; subst e; exact push _
      · cases e
    · split at e
      · injection e with e; injection e with _ e; subst e; exact Ext.refl _
      · cases e
    · cases e
  | call c =>
    obtain ⟨cal, args, ts⟩ := c
    cases cal with
    | builtin b => cases b <;> simp [kdOf] at hk
    | _ => simp [kdOf] at hk
  | slice t x lo hi mx => simp only [kdOf] at hk; split at hk <;> cases hk
  | _ => simp [kdOf] at hk
theorem aop_out {wk : Bool} {o : Oper} {K K' : List Value → Hp → Prop} (hk : ∀ v h', Out P wk o h h' → K (put tm o.dst v) h' → K' (put tm o.dst v) h') (k : aop P wk o tm h K) : aop P wk o tm h K' := by
  unfold aop at *
  split at k
  · rename_i f args ts hop
    have ho : ∀ h', Out P wk o h h' = (wk = true → Ext h h') := fun h' => by unfold Out; rw [hop]; rfl
    split at k
    · exact ⟨k.1, k.2.mono fun v h' ⟨h1, h2⟩ => ⟨h1, hk _ _ (by rw [ho]; exact h1) h2⟩⟩
    · exact k
  · split at k
    · rename_i hkd
      obtain ⟨v, h1, h2⟩ := k; exact ⟨v, h1, hk _ _ (by unfold Out; simp [hkd]) h2⟩
    · rename_i hkd
      obtain ⟨v, h1, h2⟩ := k; exact ⟨v, h1, hk _ _ (by unfold Out; simp [hkd]) h2⟩
    · exact k
    · rename_i n1 n2 n3
      obtain ⟨v, h', h1, h2⟩ := k
      refine ⟨v, h', h1, hk _ _ ?_ h2⟩
      unfold Out
      split
      · rename_i hh; exact absurd hh n1
      · rename_i hh; exact absurd hh n2
      · rename_i hh; exact eev_weak h1 hh
      · rename_i hh; exact absurd hh n3
      · trivial
theorem out_refl {wk : Bool} {o : Oper} : Out P wk o h h := by
  unfold Out
  split <;> first | rfl | exact Ext.refl h | exact fun _ => Ext.refl h | trivial
theorem astep_out {wk : Bool} {o : Oper} {K K' : List Value → Hp → Prop} (hk : ∀ v h', Out P wk o h h' → K (put tm o.dst v) h' → K' (put tm o.dst v) h') (k : astep P ops wk o tm h K) : astep P ops wk o tm h K' := by
  unfold astep at *
  split at k
  · exact aop_out hk k
  · split at k
    · exact ⟨fun hb => aop_out hk (k.1 hb), fun hb => hk _ _ out_refl (k.2 hb)⟩
    · split at k
      · rename_i hv; rw [if_pos hv]; exact hk _ _ out_refl k
      · exact k.elim
    · exact k.elim

/-- May two operations change places? -/
def indep (P : Program) (ops : Array Oper) (wj wi : Bool) (x y : Oper) : Bool :=
  x.apart ops y && (calm P x || calm P y) &&
  (match kdOf P x.op, kdOf P y.op with
   | .load, .strong | .strong, .load => false
   | .load, .call => wi
   | .call, .load => wj
   | _, _ => true)

theorem val_out {wj wi : Bool} {x y : Oper} {h' : Hp} (hi : indep P ops wj wi x y = true) (hc : calm P y = true) (ho : Out P wj x h h') (hv : ∀ z, VA h (ev tm z)) : val P ops y tm h' = val P ops y tm h := by
  cases hy : kdOf P y.op with
  | pure => exact val_pure hy
  | load =>
    unfold indep at hi
    unfold Out at ho
    cases hx : kdOf P x.op with
    | pure => rw [hx] at ho; rw [ho]
    | load => rw [hx] at ho; rw [ho]
    | weak => rw [hx] at ho; exact val_ext ho hv
    | strong => rw [hx, hy] at hi; simp at hi
    | call => rw [hx, hy] at hi; rw [hx] at ho; simp at hi; exact val_ext (ho hi.2) hv
  | _ => unfold calm at hc; rw [hy] at hc; cases hc
theorem val_out' {wj wi : Bool} {x y : Oper} {h' : Hp} (hi : indep P ops wj wi x y = true) (hc : calm P x = true) (ho : Out P wi y h h') (hv : ∀ z, VA h (ev tm z)) : val P ops x tm h' = val P ops x tm h := by
  cases hx : kdOf P x.op with
  | pure => exact val_pure hx
  | load =>
    unfold indep at hi
    unfold Out at ho
    cases hy : kdOf P y.op with
    | pure => rw [hy] at ho; rw [ho]
    | load => rw [hy] at ho; rw [ho]
    | weak => rw [hy] at ho; exact val_ext ho hv
    | strong => rw [hx, hy] at hi; simp at hi
    | call => rw [hx, hy] at hi; rw [hy] at ho; simp at hi; exact val_ext (ho hi.2) hv
  | _ => unfold calm at hc; rw [hx] at hc; cases hc

/-- Some machine state is told. -/
def Told (P : Program) (tm : List Value) (h : Hp) : Prop := ∃ B w0 φ a w, RelSt P B w0 φ tm h a w

theorem aop_some {wk : Bool} {o : Oper} {K : List Value → Hp → Prop} (ht : Told P tm h) (k : aop P wk o tm h K) : ∃ v h', Out P wk o h h' ∧ K (put tm o.dst v) h' := by
  obtain ⟨B, w0, φ, a, w, R⟩ := ht
  have k2 : aop P wk o tm h (fun tm' h' => ∃ v, Out P wk o h h' ∧ tm' = put tm o.dst v ∧ K tm' h') := aop_out (fun v h' ho hk => ⟨v, ho, rfl, hk⟩) k
  have s := aop_sound k2 R (fun _ _ _ => False)
  have fin : ∀ a' w', (∃ φ' tm' h', φ <+: φ' ∧ RelSt P B w0 φ' tm' h' a' w' ∧ ∃ v, Out P wk o h h' ∧ tm' = put tm o.dst v ∧ K tm' h') → ∃ v h', Out P wk o h h' ∧ K (put tm o.dst v) h' := by
    rintro a' w' ⟨φ', tm', h', _, _, v, p1, rfl, p2⟩
    exact ⟨v, h', p1, p2⟩
  unfold Oper.wp Oper.upon at s
  split at s
  · exact fin _ _ s
  · exact fin _ _ s
  · exact fin _ _ s
  · obtain ⟨e, w', fr, hR, _⟩ := s []
    cases e with
    | returned v => exact fin _ _ hR
    | panicked c => exact hR.elim
    | outgrown => obtain ⟨_, _, hh⟩ := hR; exact hh.elim
  · obtain ⟨v, w', hR, _⟩ := s default []
    exact fin _ _ hR
  · exact s.elim
  · exact s.elim
theorem astep_some {wk : Bool} {o : Oper} {K : List Value → Hp → Prop} (ht : Told P tm h) (k : astep P ops wk o tm h K) : ∃ v h', Out P wk o h h' ∧ K (put tm o.dst v) h' := by
  unfold astep at k
  split at k
  · exact aop_some ht k
  · split at k
    · rename_i j want hg s b hb
      cases hbw : (b == want) with
      | true => exact aop_some ht (k.1 hbw)
      | false => exact ⟨_, _, out_refl, k.2 hbw⟩
    · split at k
      · exact ⟨_, _, out_refl, k⟩
      · exact k.elim
    · exact k.elim

theorem swap {wj wi : Bool} {x y : Oper} {K : List Value → Hp → Prop} (hi : indep P ops wj wi x y = true) (ht : Told P tm h)
    (k : astep P ops wj x tm h fun tm1 h1 => astep P ops wi y tm1 h1 K) : astep P ops wi y tm h fun tm1 h1 => astep P ops wj x tm1 h1 K := by
  have hi0 := hi
  unfold indep at hi
  simp only [Bool.and_eq_true, Bool.or_eq_true] at hi
  obtain ⟨⟨hap, hcalm⟩, _⟩ := hi
  obtain ⟨a1, a2, a3⟩ := Oper.apart_spec hap
  have a2' : ∀ d, y.dst = some d → x.dst ≠ some d := fun d hd hx => a2 d hx hd
  obtain ⟨B, w0, φ, a, w, R⟩ := ht
  have hv : ∀ z, VA h (ev tm z) := fun z => R.va z
  cases hcy : calm P y with
  | true =>
    have k' : astep P ops wj x tm h fun tm1 h1 => ∃ v, val P ops y tm1 h1 = some v ∧ K (put tm1 y.dst v) h1 := astep_out (fun v h1 _ hh => (astep_calm hcy K).1 hh) k
    obtain ⟨vx, h1, ho, v, hval, _⟩ := astep_some ⟨B, w0, φ, a, w, R⟩ k'
    rw [val_apart a1, val_out hi0 hcy ho hv] at hval
    refine (astep_calm hcy _).2 ⟨v, hval, ?_⟩
    rw [astep_apart a3 a2']
    refine astep_out (fun u h2 ho2 hh => ?_) k'
    obtain ⟨v2, hval2, hK⟩ := hh
    rw [val_apart a1, val_out hi0 hcy ho2 hv, hval] at hval2
    injection hval2 with hval2
    subst hval2
    exact hK
  | false =>
    rcases hcalm with hcx | hcy'
    · obtain ⟨v, hval, hk⟩ := (astep_calm hcx _).1 k
      rw [astep_apart a1 a2] at hk
      refine astep_out (fun u h2 ho2 hh => ?_) hk
      refine (astep_calm hcx _).2 ⟨v, ?_, ?_⟩
      · rw [val_apart a3, val_out' hi0 hcx ho2 hv, hval]
      · exact hh
    · rw [hcy] at hcy'; cases hcy'
end
end Go.Proofs.YtgfilbekfkhjjaaGreat.Hz
/- A region that draws its order: the whole. And the calculus over code. -/
namespace Go.Proofs.YtgfilbekfkhjjaaGreat.Hz
open Go.RowKit
set_option linter.unusedVariables false
set_option linter.unusedSimpArgs false

section
variable {P : Program} {ops : Array Oper} {tm : List Value} {h : Hp}

/-- What an operation looks at is as it was. -/
structure Inv (ops : Array Oper) (P : Program) (o : Oper) (tm0 : List Value) (h0 : Hp) (tm : List Value) (h : Hp) : Prop where
  op : ∀ x ∈ o.op.operands, ev tm x = ev tm0 x
  gd : ∀ j want, o.guard = some (j, want) → gslot ops tm j = gslot ops tm0 j
  ex : kdOf P o.op = .load → Ext h0 h
theorem Inv.refl (o : Oper) : Inv ops P o tm h tm h := ⟨fun _ _ => rfl, fun _ _ _ => rfl, fun _ => Ext.refl h⟩
theorem Inv.step {x y : Oper} {wj wi : Bool} {tm0 : List Value} {h0 h' : Hp} {v : Value} (I : Inv ops P y tm0 h0 tm h) (hi : indep P ops wj wi x y = true) (ho : Out P wj x h h') : Inv ops P y tm0 h0 (put tm x.dst v) h' := by
  have hi0 := hi
  unfold indep at hi
  simp only [Bool.and_eq_true, Bool.or_eq_true] at hi
  obtain ⟨⟨hap, _⟩, hk⟩ := hi
  obtain ⟨a1, a2, a3⟩ := Oper.apart_spec hap
  refine ⟨fun z hz => (ev_apart a1 z hz).trans (I.op z hz), fun j want hg => (gslot_apart a1 hg).trans (I.gd j want hg), fun hl => (I.ex hl).trans ?_⟩
  rw [hl] at hk
  unfold Out at ho
  cases hx : kdOf P x.op with
  | pure => rw [hx] at ho; simp only at ho; rw [ho]; exact Ext.refl h
  | load => rw [hx] at ho; simp only at ho; rw [ho]; exact Ext.refl h
  | weak => rw [hx] at ho; exact ho
  | strong => rw [hx] at hk; simp at hk
  | call => rw [hx] at hk ho; simp at hk; exact ho hk
theorem Inv.val {y : Oper} {tm0 : List Value} {h0 : Hp} (I : Inv ops P y tm0 h0 tm h) (hv : ∀ x, VA h0 (ev tm0 x)) : val P ops y tm h = val P ops y tm0 h0 := by
  have hr : raw P y tm h = raw P y tm0 h0 := by
    unfold raw
    split
    · exact qev_congr y.op I.op
    · rename_i hk
      rw [lev_congr y.op I.op, lev_ext (I.ex hk) y.op fun x _ => hv x]
    · rfl
  unfold Hz.val
  rw [hr]
  split
  · rfl
  · rename_i j want hg
    rw [I.gd j want hg]

theorem aop_told {wk : Bool} {o : Oper} {K : List Value → Hp → Prop} {B : Bd} {w0 w : World} {φ : Inj} {a : Act} (R : RelSt P B w0 φ tm h a w) (k : aop P wk o tm h K) : ∃ v h', Out P wk o h h' ∧ Told P (put tm o.dst v) h' ∧ K (put tm o.dst v) h' := by
  have k2 : aop P wk o tm h (fun tm' h' => ∃ v, Out P wk o h h' ∧ tm' = put tm o.dst v ∧ K tm' h') := aop_out (fun v h' ho hk => ⟨v, ho, rfl, hk⟩) k
  have s := aop_sound k2 R (fun _ _ _ => False)
  have fin : ∀ a' w', (∃ φ' tm' h', φ <+: φ' ∧ RelSt P B w0 φ' tm' h' a' w' ∧ ∃ v, Out P wk o h h' ∧ tm' = put tm o.dst v ∧ K tm' h') → ∃ v h', Out P wk o h h' ∧ Told P (put tm o.dst v) h' ∧ K (put tm o.dst v) h' := by
    rintro a' w' ⟨φ', tm', h', _, r, v, p1, rfl, p2⟩
    exact ⟨v, h', p1, ⟨B, w0, φ', a', w', r⟩, p2⟩
  unfold Oper.wp Oper.upon at s
  split at s
  · exact fin _ _ s
  · exact fin _ _ s
  · exact fin _ _ s
  · obtain ⟨e, w', fr, hR, _⟩ := s []
    cases e with
    | returned v => exact fin _ _ hR
    | panicked c => exact hR.elim
    | outgrown => obtain ⟨_, _, hh⟩ := hR; exact hh.elim
  · obtain ⟨v, w', hR, _⟩ := s default []
    exact fin _ _ hR
  · exact s.elim
  · exact s.elim
theorem astep_told {wk : Bool} {o : Oper} {K : List Value → Hp → Prop} (ht : Told P tm h) (k : astep P ops wk o tm h K) : ∃ v h', Out P wk o h h' ∧ Told P (put tm o.dst v) h' ∧ K (put tm o.dst v) h' := by
  obtain ⟨B, w0, φ, a, w, R⟩ := ht
  have skip : K (put tm o.dst undef) h → ∃ v h', Out P wk o h h' ∧ Told P (put tm o.dst v) h' ∧ K (put tm o.dst v) h' :=
    fun hk => ⟨_, _, out_refl, ⟨B, w0, φ, _, w, R.put o.dst (List.prefix_refl _) R.hp (relV_undef φ)⟩, hk⟩
  unfold astep at k
  split at k
  · exact aop_told R k
  · split at k
    · rename_i j want hg s b hb
      cases hbw : (b == want) with
      | true => exact aop_told R (k.1 hbw)
      | false => exact skip (k.2 hbw)
    · split at k
      · exact skip k
      · exact k.elim
    · exact k.elim
theorem Told.va (ht : Told P tm h) (x : Operand) : VA h (ev tm x) := by
  obtain ⟨B, w0, φ, a, w, R⟩ := ht
  exact R.va x

/-- All of a list are independent of one. -/
def AllIndep (P : Program) (ops : Array Oper) (wk : Nat → Bool) (i : Nat) (o : Oper) (l : List Nat) : Prop := ∀ j ∈ l, ∃ oj, ops[j]? = some oj ∧ indep P ops (wk j) (wk i) oj o = true
theorem AllIndep.tail {wk : Nat → Bool} {i j : Nat} {o : Oper} {l : List Nat} (k : AllIndep P ops wk i o (j :: l)) : AllIndep P ops wk i o l := fun x hx => k x (by simp [hx])

theorem early_calm {wk : Nat → Bool} {i : Nat} {oi : Oper} {r2 : List Nat} {K : List Value → Hp → Prop} {tm0 : List Value} {h0 : Hp} {v : Value} (hi : ops[i]? = some oi) (hc : calm P oi = true) (hv : ∀ x, VA h0 (ev tm0 x)) (hval : val P ops oi tm0 h0 = some v) :
    ∀ (r1 : List Nat) (tm : List Value) (h : Hp), AllIndep P ops wk i oi r1 → Inv ops P oi tm0 h0 tm h → aops P ops wk (r1 ++ i :: r2) tm h K → aops P ops wk (r1 ++ r2) (put tm oi.dst v) h K
  | [], tm, h, _, I, k => by
    simp only [List.nil_append] at k ⊢
    unfold aops at k
    simp only [hi] at k
    obtain ⟨v', h1, h2⟩ := (astep_calm hc _).1 k
    rw [I.val hv, hval] at h1
    injection h1 with h1
    subst h1
    exact h2
  | j :: r1, tm, h, hall, I, k => by
    obtain ⟨oj, hj, hind⟩ := hall j (by simp)
    simp only [List.cons_append] at k ⊢
    unfold aops at k ⊢
    simp only [hj] at k ⊢
    have hap := hind
    unfold indep at hap
    simp only [Bool.and_eq_true] at hap
    obtain ⟨a1, a2, a3⟩ := Oper.apart_spec hap.1.1
    rw [astep_apart a3 fun d hd hx => a2 d hx hd]
    exact astep_out (fun u h1 ho hh => early_calm hi hc hv hval r1 _ h1 hall.tail (I.step hind ho) hh) k
theorem calm_some {wk : Nat → Bool} {i : Nat} {oi : Oper} {r2 : List Nat} {K : List Value → Hp → Prop} {tm0 : List Value} {h0 : Hp} (hi : ops[i]? = some oi) (hc : calm P oi = true) (hv : ∀ x, VA h0 (ev tm0 x)) :
    ∀ (r1 : List Nat) (tm : List Value) (h : Hp), AllIndep P ops wk i oi r1 → Inv ops P oi tm0 h0 tm h → Told P tm h → aops P ops wk (r1 ++ i :: r2) tm h K → ∃ v, val P ops oi tm0 h0 = some v
  | [], tm, h, _, I, _, k => by
    simp only [List.nil_append] at k
    unfold aops at k
    simp only [hi] at k
    obtain ⟨v', h1, _⟩ := (astep_calm hc _).1 k
    rw [I.val hv] at h1
    exact ⟨v', h1⟩
  | j :: r1, tm, h, hall, I, ht, k => by
    obtain ⟨oj, hj, hind⟩ := hall j (by simp)
    simp only [List.cons_append] at k
    unfold aops at k
    simp only [hj] at k
    obtain ⟨u, h1, ho, ht1, hk⟩ := astep_told ht k
    exact calm_some hi hc hv r1 _ h1 hall.tail (I.step hind ho) ht1 hk
theorem early_busy {wk : Nat → Bool} {i : Nat} {oi : Oper} {r2 : List Nat} {K : List Value → Hp → Prop} (hi : ops[i]? = some oi) (hb : calm P oi = false) :
    ∀ (r1 : List Nat) (tm : List Value) (h : Hp), AllIndep P ops wk i oi r1 → Told P tm h → aops P ops wk (r1 ++ i :: r2) tm h K → astep P ops (wk i) oi tm h fun tm1 h1 => aops P ops wk (r1 ++ r2) tm1 h1 K
  | [], tm, h, _, _, k => by
    simp only [List.nil_append] at k ⊢
    unfold aops at k
    simp only [hi] at k
    exact k
  | j :: r1, tm, h, hall, ht, k => by
    obtain ⟨oj, hj, hind⟩ := hall j (by simp)
    have hap := hind
    unfold indep at hap
    simp only [Bool.and_eq_true, Bool.or_eq_true] at hap
    obtain ⟨a1, a2, a3⟩ := Oper.apart_spec hap.1.1
    have hcj : calm P oj = true := hap.1.2.resolve_right (by rw [hb]; simp)
    simp only [List.cons_append] at k ⊢
    unfold aops at k
    simp only [hj] at k
    obtain ⟨u, h1, ho, ht1, hk1⟩ := astep_told ht k
    obtain ⟨vj, hval, hk⟩ := (astep_calm hcj _).1 k
    -- the state behind j is told
    have ht2 : Told P (put tm oj.dst vj) h := by
      have k3 : astep P ops (wk j) oj tm h (fun tm' h' => tm' = put tm oj.dst vj ∧ h' = h) := (astep_calm hcj _).2 ⟨vj, hval, rfl, rfl⟩
      obtain ⟨_, _, _, ht3, e1, e2⟩ := astep_told ht k3
      rw [e1, e2] at ht3
      exact ht3
    have ih := early_busy hi hb r1 _ h hall.tail ht2 hk
    rw [astep_apart a1 a2] at ih
    refine astep_out (fun u h2 ho2 hh => ?_) ih
    unfold aops
    simp only [hj]
    refine (astep_calm hcj _).2 ⟨vj, ?_, hh⟩
    rw [val_apart a3, val_out' hind hcj ho2 (ht.va), hval]

/-! ### Before which operations does one stand? -/
inductive Pre (ops : Array Oper) : Nat → Nat → Prop where
  | edge {i : Nat} {o : Oper} {e : Edge} (h : ops[i]? = some o) (he : e ∈ o.after) (hb : Region.binds .any e = true) : Pre ops e.on i
  | step {i j : Nat} {o : Oper} {e : Edge} (h : ops[i]? = some o) (he : e ∈ o.after) (hb : Region.binds .any e = true) (k : Pre ops j e.on) : Pre ops j i
def mask (acc : List Nat) (s : Nat) : List Edge → Nat
  | [] => s
  | e :: es => if Region.binds .any e then mask acc (s ||| 2 ^ e.on ||| acc.getD e.on 0) es else mask acc s es
def befs : List Oper → List Nat → List Nat
  | [], acc => acc
  | o :: os, acc => befs os (acc ++ [mask acc 0 o.after.toList])
theorem mask_spec {acc : List Nat} {j : Nat} : ∀ (es : List Edge) (s : Nat), (mask acc s es).testBit j = true → s.testBit j = true ∨ ∃ e ∈ es, Region.binds .any e = true ∧ (e.on = j ∨ (acc.getD e.on 0).testBit j = true)
  | [], s, k => .inl k
  | e :: es, s, k => by
    unfold mask at k
    split at k
    · rename_i hb
      rcases mask_spec es _ k with h | ⟨e', h1, h2⟩
      · simp only [Nat.testBit_or, Bool.or_eq_true] at h
        rcases h with (h | h) | h
        · exact .inl h
        · rw [Nat.testBit_two_pow] at h
          exact .inr ⟨e, by simp, hb, .inl (by simpa using h)⟩
        · exact .inr ⟨e, by simp, hb, .inr h⟩
      · exact .inr ⟨e', by simp [h1], h2⟩
    · rcases mask_spec es _ k with h | ⟨e', h1, h2⟩
      · exact .inl h
      · exact .inr ⟨e', by simp [h1], h2⟩
theorem befs_spec : ∀ (os : List Oper) (acc : List Nat), ops.toList.drop acc.length = os → (∀ i m, acc[i]? = some m → ∀ j, m.testBit j = true → Pre ops j i) → ∀ i m, (befs os acc)[i]? = some m → ∀ j, m.testBit j = true → Pre ops j i
  | [], acc, _, ha, i, m, k, j, hj => ha i m k j hj
  | o :: os, acc, hd, ha, i, m, k, j, hj => by
    have ho : ops[acc.length]? = some o := by
      have := congrArg (fun l => l[0]?) hd
      simpa using this
    refine befs_spec os (acc ++ [mask acc 0 o.after.toList]) ?_ ?_ i m k j hj
    · have := congrArg (List.drop 1) hd
      simpa [List.drop_drop, Nat.add_comm] using this
    · intro i m hm j hj
      by_cases hlt : i < acc.length
      · rw [List.getElem?_append_left hlt] at hm
        exact ha i m hm j hj
      · have h1 : i = acc.length := by
          have := (List.getElem?_eq_some_iff.1 hm).1
          simp at this; omega
        subst h1
        rw [List.getElem?_append_right (Nat.le_refl _)] at hm
        simp at hm
        subst hm
        rcases mask_spec _ _ hj with h | ⟨e, he, hb, h⟩
        · simp at h
        · have he' : e ∈ o.after := by simpa using he
          rcases h with rfl | h
          · exact .edge ho he' hb
          · cases hx : acc[e.on]? with
            | none => rw [List.getD_eq_getElem?_getD, hx] at h; simp at h
            | some m' =>
              rw [List.getD_eq_getElem?_getD, hx] at h
              exact .step ho he' hb (ha e.on m' hx j h)

/-- Each two operations of the region are ordered, or may change places. -/
def regOK (P : Program) (ops : Array Oper) (wk : Nat → Bool) : Bool :=
  let b := befs ops.toList []
  (List.range ops.size).all fun i => (List.range i).all fun j => (b.getD i 0).testBit j ||
    (match ops[j]?, ops[i]? with
     | some oj, some oi => indep P ops (wk j) (wk i) oj oi
     | _, _ => false)
theorem regOK_spec {wk : Nat → Bool} (k : regOK P ops wk = true) {i j : Nat} {oi oj : Oper} (hi : ops[i]? = some oi) (hj : ops[j]? = some oj) (hlt : j < i) : Pre ops j i ∨ indep P ops (wk j) (wk i) oj oi = true := by
  unfold regOK at k
  have hin : i < ops.size := (Array.getElem?_eq_some_iff.1 hi).1
  have := List.all_eq_true.1 (List.all_eq_true.1 k i (by simpa using hin)) j (by simpa using hlt)
  simp only [hi, hj, Bool.or_eq_true] at this
  rcases this with h | h
  · left
    cases hb : (befs ops.toList [])[i]? with
    | none => rw [List.getD_eq_getElem?_getD, hb] at h; simp at h
    | some m =>
      rw [List.getD_eq_getElem?_getD, hb] at h
      exact befs_spec ops.toList [] rfl (fun i m hm => by simp at hm) i m hb j h
  · exact .inr h

/-- What is listed is closed. -/
def Shut (ops : Array Oper) (listed : Array Bool) : Prop := ∀ i o e, ops[i]? = some o → listed.getD i false = true → e ∈ o.after → Region.binds .any e = true → listed.getD e.on false = true
theorem pre_listed {listed : Array Bool} (hs : Shut ops listed) {i j : Nat} (hp : Pre ops j i) : (listed.getD i false = true ∨ i ∈ Region.ready .any ops listed) → listed.getD j false = true := by
  induction hp with
  | edge h he hb =>
    rintro (hl | hl)
    · exact hs _ _ _ h hl he hb
    · obtain ⟨_, o', ho', hall⟩ := mem_ready.1 hl
      rw [h] at ho'
      injection ho' with ho'
      subst ho'
      exact hall _ he hb
  | step h he hb k ih =>
    rintro (hl | hl)
    · exact ih (.inl (hs _ _ _ h hl he hb))
    · obtain ⟨_, o', ho', hall⟩ := mem_ready.1 hl
      rw [h] at ho'
      injection ho' with ho'
      subst ho'
      exact ih (.inl (hall _ he hb))

theorem any_sound {wk : Nat → Bool} {Q : Exit → Act → World → Prop} {K : List Value → Hp → Prop} {B : Bd} {w0 : World} (hok : regOK P ops wk = true) (hedge : ∀ i o e, ops[i]? = some o → e ∈ o.after → Region.binds .any e = true → e.on < i) :
    ∀ (fuel : Nat) (r : List Nat) (listed : Array Bool) {φ : Inj} {tm : List Value} {h : Hp} {a : Act} {w : World}, r.length ≤ fuel → r.Pairwise (· < ·) → listed.size = ops.size → (∀ i, i ∈ r ↔ i < ops.size ∧ listed.getD i false = false) → Shut ops listed →
      aops P ops wk r tm h K → RelSt P B w0 φ tm h a w → (∀ φ' tm' h' a' w', φ <+: φ' → RelSt P B w0 φ' tm' h' a' w' → K tm' h' → Q .normal a' w') → wpAny P .any ops Q fuel listed a w := by
  have first : ∀ (r : List Nat) (listed : Array Bool), r.Pairwise (· < ·) → listed.size = ops.size → (∀ i, i ∈ r ↔ i < ops.size ∧ listed.getD i false = false) → Region.ready .any ops listed = [] → r = [] := by
    intro r listed hs hsz hmem hr
    cases r with
    | nil => rfl
    | cons i r =>
      exfalso
      obtain ⟨h1, h2⟩ := (hmem i).1 (by simp)
      have : i ∈ Region.ready .any ops listed := by
        rw [mem_ready]
        refine ⟨by simpa [Array.getD_eq_getD_getElem?, Array.getElem?_eq_getElem (hsz ▸ h1)] using h2, ops[i], Array.getElem?_eq_getElem h1, fun e he hb => ?_⟩
        have hlt := hedge i ops[i] e (Array.getElem?_eq_getElem h1) he hb
        cases hx : listed.getD e.on false with
        | true => rfl
        | false =>
          have : e.on ∈ i :: r := (hmem e.on).2 ⟨by omega, hx⟩
          rcases List.mem_cons.1 this with h3 | h3
          · omega
          · have := (List.pairwise_cons.1 hs).1 _ h3
            omega
      rw [hr] at this
      cases this
  intro fuel
  induction fuel with
  | zero =>
    intro r listed φ tm h a w hlen hs hsz hmem hshut k R hQ
    have hr : r = [] := List.eq_nil_of_length_eq_zero (by omega)
    subst hr
    refine ⟨?_, hQ φ tm h a w (List.prefix_refl _) R k⟩
    cases hx : Region.ready .any ops listed with
    | nil => rfl
    | cons i l =>
      exfalso
      have hi : i ∈ Region.ready .any ops listed := by rw [hx]; simp
      obtain ⟨h0, o, ho, _⟩ := mem_ready.1 hi
      have hlt := (Array.getElem?_eq_some_iff.1 ho).1
      have : i ∈ ([] : List Nat) := (hmem i).2 ⟨hlt, by simpa [Array.getD_eq_getD_getElem?, Array.getElem?_eq_getElem (hsz ▸ hlt)] using h0⟩
      cases this
  | succ fuel ih =>
    intro r listed φ tm h a w hlen hs hsz hmem hshut k R hQ
    refine ⟨fun hr => ?_, fun i hi => ?_⟩
    · obtain rfl := first r listed hs hsz hmem hr
      exact hQ φ tm h a w (List.prefix_refl _) R k
    · obtain ⟨h0, oi, hoi, hall⟩ := mem_ready.1 hi
      have hlt := (Array.getElem?_eq_some_iff.1 hoi).1
      have h0' : listed.getD i false = false := by simpa [Array.getD_eq_getD_getElem?, Array.getElem?_eq_getElem (hsz ▸ hlt)] using h0
      obtain ⟨r1, r2, rfl⟩ := List.append_of_mem ((hmem i).2 ⟨hlt, h0'⟩)
      have hind : AllIndep P ops wk i oi r1 := fun j hj => by
        obtain ⟨hjlt, hjl⟩ := (hmem j).1 (by simp [hj])
        have hji : j < i := by
          rw [List.pairwise_append] at hs
          exact hs.2.2 j hj i (by simp)
        refine ⟨ops[j], Array.getElem?_eq_getElem hjlt, ?_⟩
        rcases regOK_spec hok hoi (Array.getElem?_eq_getElem hjlt) hji with hp | hp
        · have := pre_listed hshut hp (.inr hi)
          rw [hjl] at this
          cases this
        · exact hp
      have ht : Told P tm h := ⟨B, w0, φ, a, w, R⟩
      have step : astep P ops (wk i) oi tm h fun tm1 h1 => aops P ops wk (r1 ++ r2) tm1 h1 K := by
        cases hc : calm P oi with
        | true =>
          obtain ⟨v, hv⟩ := calm_some hoi hc ht.va r1 tm h hind (Inv.refl oi) ht k
          exact (astep_calm hc _).2 ⟨v, hv, early_calm hoi hc ht.va hv r1 tm h hind (Inv.refl oi) k⟩
        | false => exact early_busy hoi hc r1 tm h hind ht k
      refine wpOp_mono ?_ (astep_sound hoi step R Q)
      rintro a' w' ⟨φ', tm', h', p1, p2, p3⟩
      refine ih (r1 ++ r2) (listed.setIfInBounds i true) ?_ ?_ (by simpa using hsz) ?_ ?_ p3 p2 fun φ2 tm2 h2 a2 w2 q1 q2 q3 => hQ φ2 tm2 h2 a2 w2 (p1.trans q1) q2 q3
      · simp at hlen ⊢; omega
      · rw [List.pairwise_append] at hs ⊢
        exact ⟨hs.1, (List.pairwise_cons.1 hs.2.1).2, fun x hx y hy => hs.2.2 x hx y (by simp [hy])⟩
      · intro x
        have hnd : (r1 ++ i :: r2).Nodup := hs.imp fun hab => by omega
        have hxi : x ∈ r1 ++ r2 ↔ x ∈ r1 ++ i :: r2 ∧ x ≠ i := by
          constructor
          · intro hx
            refine ⟨by simp at hx ⊢; rcases hx with h | h <;> simp [h], fun hxe => ?_⟩
            subst hxe
            rw [List.nodup_append] at hnd
            simp at hx
            rcases hx with hx | hx
            · exact hnd.2.2 x hx x (by simp) rfl
            · exact (List.nodup_cons.1 hnd.2.1).1 hx
          · rintro ⟨hx, hne⟩
            simp at hx ⊢
            rcases hx with hx | hx | hx
            · exact .inl hx
            · exact absurd hx hne
            · exact .inr hx
        rw [hxi, hmem x]
        by_cases hxe : i = x
        · subst hxe
          simp [hsz, hlt]
        · rw [getD_set_ne false hxe]
          exact ⟨fun hh => hh.1, fun hh => ⟨hh, fun e => hxe e.symm⟩⟩
      · intro i' o' e ho' hl he hb
        by_cases hxe : i = i'
        · subst hxe
          rw [hoi] at ho'
          injection ho' with ho'
          subst ho'
          exact getD_set_true (hall e he hb)
        · rw [getD_set_ne false hxe] at hl
          exact getD_set_true (hshut i' o' e ho' hl he hb)
end
end Go.Proofs.YtgfilbekfkhjjaaGreat.Hz
/- A region that draws its order: an operation that makes a new object may stand ahead of calls. -/
namespace Go.Proofs.YtgfilbekfkhjjaaGreat.Hz
open Go.RowKit
set_option linter.unusedVariables false
set_option linter.unusedSimpArgs false

section
variable {P : Program} {ops : Array Oper} {tm : List Value} {h : Hp}

/-! ### An object that is hidden, and shown again -/
theorem RelC0_back {φ t : Inj} {v v' : Value} (r : RelC0 (φ ++ t) v v') (k : ∃ u, RelC0 φ v u) : RelC0 φ v v' := by
  obtain ⟨u, k⟩ := k
  unfold RelC0 at *
  split at r
  · obtain ⟨p, e, s⟩ := r
    obtain ⟨p2, e2, _⟩ := k
    rw [List.getElem?_append_left (List.getElem?_eq_some_iff.1 e2).1, e2] at e
    injection e with e; subst e
    exact ⟨p2, e2, s⟩
  · obtain ⟨p, c', a', e, s⟩ := r
    obtain ⟨p2, _, _, e2, _⟩ := k
    rw [List.getElem?_append_left (List.getElem?_eq_some_iff.1 e2).1, e2] at e
    injection e with e; subst e
    exact ⟨p2, c', a', e2, s⟩
  all_goals first | exact r | trivial
theorem all2_back {φ t : Inj} : ∀ {vs vs' us : List Value}, All2 (RelC0 (φ ++ t)) vs vs' → All2 (RelC0 φ) vs us → All2 (RelC0 φ) vs vs'
  | [], [], _, _, _ => trivial
  | v :: vs, v' :: vs', us, r, k => by
    obtain ⟨u, us', rfl, k1, k2⟩ := All2.cons_iff.1 k
    exact ⟨RelC0_back r.1 ⟨u, k1⟩, all2_back r.2 k2⟩
  | [], _ :: _, _, r, _ => r.elim
  | _ :: _, [], _, r, _ => r.elim
theorem RelC_back {φ t : Inj} {v v' : Value} (r : RelC (φ ++ t) v v') (k : ∃ u, RelC φ v u) : RelC φ v v' := by
  obtain ⟨u, k⟩ := k
  cases v with
  | func fn f cap =>
    cases fn with
    | func g =>
      obtain ⟨e, c, hc, s⟩ := r
      obtain ⟨_, c2, _, s2⟩ := k
      exact ⟨e, c, hc, all2_back s s2⟩
    | _ => unfold RelC at *; exact RelC0_back r ⟨u, k⟩
  | _ => unfold RelC at *; exact RelC0_back r ⟨u, k⟩
theorem relC_scal' {φ φ' : Inj} {v v' : Value} (hs : scal v = true) (r : RelC φ v v') : RelC φ' v v' := by
  unfold scal at hs
  split at hs <;> first | (cases hs; done) | (simp [RelC, RelC0] at r ⊢; simp [r])

theorem Rel.hide {B : Bd} {w0 w w1 : World} {φ : Inj} {pl : Pl} {ob : Ob} (R : Rel P B w0 φ h w) (R1 : Rel P B w0 (φ ++ [pl]) (h ++ [ob]) w1) (hl : ob.live = true) (hr : ob.rw = true) : Rel P ⟨B.n, pl.block :: B.d⟩ w1 φ h w1 := by
  have old : ∀ {o : Nat} {ob' : Ob} {p' : Pl}, h[o]? = some ob' → φ[o]? = some p' → (h ++ [ob])[o]? = some ob' ∧ (φ ++ [pl])[o]? = some p' := fun ho hp =>
    ⟨by rw [List.getElem?_append_left (List.getElem?_eq_some_iff.1 ho).1]; exact ho, by rw [List.getElem?_append_left (List.getElem?_eq_some_iff.1 hp).1]; exact hp⟩
  have last : (h ++ [ob])[h.length]? = some ob ∧ (φ ++ [pl])[h.length]? = some pl := ⟨by simp, by rw [← R.len]; simp⟩
  have rl := R1.obj _ ob pl last.1 last.2 hl
  have hlt : pl.block < w1.heap.size := rl.block_lt hr
  refine ⟨Kept.refl _ _, ⟨Nat.le_trans R1.base.1 R1.below.below.size, fun b hb => ?_⟩, R.len, fun o ob' p' ho hp => R.esz o ob' p' ho hp, fun o ob' p' ho hp hlv => ?_, fun o o' ob1 ob2 p1 p2 ho ho' hp hp' => R1.apart o o' ob1 ob2 p1 p2 (old ho hp).1 (old ho' hp').1 (old ho hp).2 (old ho' hp').2⟩
  · rcases List.mem_cons.1 hb with rfl | hb
    · exact hlt
    · exact Nat.lt_of_lt_of_le (R1.base.2 b hb) R1.below.below.size
  · have r0 := R.obj o ob' p' ho hp hlv
    have r1 := R1.obj o ob' p' (old ho hp).1 (old ho hp).2 hlv
    refine ⟨r1.rw, r1.ok, fun j v hj => ?_, fun hrw => ?_, r1.arg, r1.mark⟩
    · obtain ⟨v', k1, k2⟩ := r1.cell j v hj
      obtain ⟨u, _, k3⟩ := r0.cell j v hj
      exact ⟨v', k1, RelC_back k2 ⟨u, k3⟩⟩
    · obtain ⟨k1, k2⟩ := r1.own hrw
      refine ⟨⟨k1.1, fun hm => ?_⟩, k2⟩
      rcases List.mem_cons.1 hm with hm | hm
      · have hne : o ≠ h.length := by have := (List.getElem?_eq_some_iff.1 ho).1; omega
        exact R1.apart o h.length ob' ob p' pl (old ho hp).1 last.1 (old ho hp).2 last.2 hlv hl hrw hr hne hm
      · exact k1.2 hm
theorem Rel.show_ {B : Bd} {w0 w1 w2 : World} {φ φ2 : Inj} {h2 : Hp} {pl : Pl} {ob : Ob} (R2 : Rel P ⟨B.n, pl.block :: B.d⟩ w1 φ2 h2 w2) (R1 : Rel P B w0 (φ ++ [pl]) (h ++ [ob]) w1) (hlen : φ.length = h.length) (hl : ob.live = true) (hr : ob.rw = true) (hs : ob.cells.all scal = true) :
    Rel P B w0 (φ2 ++ [pl]) (h2 ++ [ob]) w2 := by
  have last : (h ++ [ob])[h.length]? = some ob ∧ (φ ++ [pl])[h.length]? = some pl := ⟨by simp, by rw [← hlen]; simp⟩
  have rl := R1.obj _ ob pl last.1 last.2 hl
  have same : w2.heap[pl.block]? = w1.heap[pl.block]? := R2.below.more _ (by simp)
  have R : Rel P B w0 φ2 h2 w2 := by
    refine ⟨R1.below.trans ⟨R2.below.below, fun b hb => R2.below.more b (List.mem_cons_of_mem _ hb)⟩, R1.base, R2.len, R2.esz, fun o ob' p' ho hp hlv => ?_, R2.apart⟩
    have r := R2.obj o ob' p' ho hp hlv
    exact ⟨r.rw, r.ok, r.cell, fun hrw => ⟨⟨(r.own hrw).1.1, fun hm => (r.own hrw).1.2 (List.mem_cons_of_mem _ hm)⟩, (r.own hrw).2⟩, r.arg, r.mark⟩
  refine R.adopt ob pl (R1.esz _ ob pl last.1 last.2) ⟨rl.rw, rl.ok, fun j v hj => ?_, fun hrw => ?_, fun hh => (by rw [hr] at hh; cases hh), fun hrw => by rw [frozen_same same, same]; exact rl.mark hrw⟩ fun o ob' p' ho hp hlv hrw e => ((R2.obj o ob' p' ho hp hlv).own hrw).1.2 (by rw [e]; simp)
  · obtain ⟨v', k1, k2⟩ := rl.cell j v hj
    refine ⟨v', by rw [cell_same same]; exact k1, relC_scal' ?_ k2⟩
    exact List.all_eq_true.1 hs v (List.mem_of_getElem? hj)
  · obtain ⟨k1, k2, cs, fr, k3, k4⟩ := rl.own hrw
    exact ⟨k1, k2, cs, fr, by rw [same]; exact k3, k4⟩

/-! ### An operation that makes a new object -/
def astepS (P : Program) (o : Oper) (tm : List Value) (h : Hp) (K : List Value → Hp → Prop) : Prop :=
  o.guard = none ∧ kdOf P o.op = .weak ∧ (∃ d, o.dst = some d ∧ d < tm.length) ∧ ∃ v ob, eev P h (ev tm) o.op = some (v, h ++ [ob]) ∧ ob.cells.all scal = true ∧ K (put tm o.dst v) (h ++ [ob])
theorem weak_call {o : Oper} (hk : kdOf P o.op = .weak) : ∀ f args ts, o.op ≠ .call { callee := .value f, args := args, argTypes := ts } := by
  intro f args ts e
  rw [e] at hk
  simp [kdOf] at hk
theorem astep_weak {wk : Bool} {o : Oper} {K : List Value → Hp → Prop} (hg : o.guard = none) (hk : kdOf P o.op = .weak) : astep P ops wk o tm h K ↔ ∃ v h', eev P h (ev tm) o.op = some (v, h') ∧ K (put tm o.dst v) h' := by
  unfold astep
  rw [hg]
  simp only
  unfold aop
  split
  · rename_i f args ts hop
    exact absurd hop (weak_call hk f args ts)
  · simp only [hk]
theorem astepS_astep {wk : Bool} {o : Oper} {K : List Value → Hp → Prop} (k : astepS P o tm h K) : astep P ops wk o tm h K := by
  obtain ⟨hg, hk, _, v, ob, e, _, k⟩ := k
  exact (astep_weak hg hk).2 ⟨v, _, e, k⟩
/-- What it gives, at whatever heap. -/
inductive NewF : (Nat → Value) → Prop where
  | ptr : NewF fun o => .pointer (some ⟨o, 0, none⟩)
  | row (n c : Nat) : NewF fun o => .slice (some ⟨o, 0, none⟩) n c
theorem weak_any {ρ : Operand → Value} {op : Op} {v : Value} {ob : Ob} (hk : kdOf P op = .weak) (e : eev P h ρ op = some (v, h ++ [ob])) :
    ∃ f, NewF f ∧ ob.live = true ∧ ob.rw = true ∧ ∀ h', eev P h' ρ op = some (f h'.length, h' ++ [ob]) := by
  have app : ∀ {x : Ob}, h ++ [x] = h ++ [ob] → x = ob := fun e => by simpa using e
  cases op with
  | box t x =>
    simp only [eev, Option.bind_eq_some_iff] at e
    obtain ⟨cs, hcs, e⟩ := e
    split at e
    · rename_i hok
      simp only [Option.map_eq_some_iff, Prod.mk.injEq] at e
      obtain ⟨sz, hsz, rfl, e⟩ := e
      obtain rfl := app e
      exact ⟨_, .ptr, rfl, rfl, fun h' => by simp only [eev, hcs, Option.bind_some, hok, if_true, hsz, Option.map_some]⟩
    · cases e
  | alloc t =>
    simp only [eev, Option.bind_eq_some_iff] at e
    obtain ⟨z, hz, e⟩ := e
    split at e
    · rename_i hok
      simp only [Option.map_eq_some_iff, Prod.mk.injEq] at e
      obtain ⟨sz, hsz, rfl, e⟩ := e
      obtain rfl := app e
      exact ⟨_, .ptr, rfl, rfl, fun h' => by simp only [eev, hz, Option.bind_some, hok, if_true, hsz, Option.map_some]⟩
    · cases e
  | buildSlice t n ps =>
    simp only [eev, Option.bind_eq_some_iff] at e
    obtain ⟨⟨el, sz, bt, zs⟩, hel, e⟩ := e
    simp only at e
    split at e
    · rename_i hb
      simp only [Option.bind_eq_some_iff] at e
      obtain ⟨cs, hcs, e⟩ := e
      split at e
      · rename_i hok
        injection e with e; injection e with e1 e2
        obtain rfl := app e2
        subst e1
        refine ⟨_, .row n n, rfl, rfl, fun h' => ?_⟩
        simp only [eev, hel, Option.bind_some, hb, if_true, hcs, hok]
      · cases e
    · cases e
  | makeSlice t l c =>
    simp only [eev] at e
    split at e
    · rename_i n m hl hc
      simp only [Option.bind_eq_some_iff] at e
      obtain ⟨⟨el, sz, bt, zs⟩, hel, e⟩ := e
      simp only at e
      split at e
      · rename_i hb
        injection e with e; injection e with e1 e2
        obtain rfl := app e2
        subst e1
        refine ⟨_, .row n.toNat n.toNat, rfl, rfl, fun h' => ?_⟩
        simp only [eev, hl, hc, hel, Option.bind_some]
        rw [if_pos hb]
      · cases e
    · cases e
  | convert s d x =>
    simp only [eev] at e
    split at e
    · rename_i b hx
      simp only [Option.bind_eq_some_iff] at e
      obtain ⟨el, hel, e⟩ := e
      split at e
      · rename_i hb
        injection e with e; injection e with e1 e2
        obtain rfl := app e2
        subst e1
        refine ⟨_, .row b.size b.size, rfl, rfl, fun h' => ?_⟩
        simp only [eev, hx, hel, Option.bind_some]
        rw [if_pos hb]
      · cases e
    · split at e
      · injection e with e; injection e with _ e
        have := congrArg List.length e
        simp at this
      · cases e
    · cases e
  | call c =>
    obtain ⟨cal, args, ts⟩ := c
    cases cal with
    | builtin b => cases b <;> simp [kdOf] at hk
    | _ => simp [kdOf] at hk
  | slice t x lo hi mx => simp only [kdOf] at hk; split at hk <;> cases hk
  | _ => simp [kdOf] at hk
theorem relV_new_move {φ φ2 : Inj} {pl : Pl} {f : Nat → Value} (hf : NewF f) {v' : Value} (r : RelV (φ ++ [pl]) (f φ.length) v') : RelV (φ2 ++ [pl]) (f φ2.length) v' := by
  cases hf with
  | ptr =>
    obtain ⟨p, e, s⟩ := r
    simp at e
    subst e
    exact ⟨_, by simp, s⟩
  | row n c =>
    obtain ⟨p, c', a', e, s⟩ := r
    simp at e
    subst e
    exact ⟨_, c', a', by simp, s⟩

/-! ### Orders that are told -/
def IndepI (P : Program) (ops : Array Oper) (wk : Nat → Bool) (j i : Nat) : Prop := ∃ oj oi, ops[j]? = some oj ∧ ops[i]? = some oi ∧ indep P ops (wk j) (wk i) oj oi = true
def PairOK (P : Program) (ops : Array Oper) (wk : Nat → Bool) (j i : Nat) : Prop := Pre ops j i ∨ IndepI P ops wk j i

theorem some_first {listed : Array Bool} (hedge : ∀ i o e, ops[i]? = some o → e ∈ o.after → Region.binds .any e = true → e.on < i) (hsz : listed.size = ops.size) {r : List Nat} (hmem : ∀ i, i ∈ r ↔ i < ops.size ∧ listed.getD i false = false) (hr : Region.ready .any ops listed = []) : r = [] := by
  have key : ∀ n i, i ≤ n → ¬ (i < ops.size ∧ listed.getD i false = false) := by
    intro n
    induction n with
    | zero =>
      rintro i hi ⟨h1, h2⟩
      obtain rfl : i = 0 := by omega
      have : 0 ∈ Region.ready .any ops listed := by
        rw [mem_ready]
        refine ⟨by simpa [Array.getD_eq_getD_getElem?, Array.getElem?_eq_getElem (hsz ▸ h1)] using h2, ops[0], Array.getElem?_eq_getElem h1, fun e he hb => ?_⟩
        have := hedge 0 ops[0] e (Array.getElem?_eq_getElem h1) he hb
        omega
      rw [hr] at this
      cases this
    | succ n ih =>
      rintro i hi ⟨h1, h2⟩
      have : i ∈ Region.ready .any ops listed := by
        rw [mem_ready]
        refine ⟨by simpa [Array.getD_eq_getD_getElem?, Array.getElem?_eq_getElem (hsz ▸ h1)] using h2, ops[i], Array.getElem?_eq_getElem h1, fun e he hb => ?_⟩
        have hlt := hedge i ops[i] e (Array.getElem?_eq_getElem h1) he hb
        cases hx : listed.getD e.on false with
        | true => rfl
        | false => exact absurd ⟨by omega, hx⟩ (ih e.on (by omega))
      rw [hr] at this
      cases this
  cases r with
  | nil => rfl
  | cons i r => exact absurd ((hmem i).1 (by simp)) (key i i (Nat.le_refl _))
theorem mem_drop1 {r1 r2 : List Nat} {i : Nat} (hnd : (r1 ++ i :: r2).Nodup) (x : Nat) : x ∈ r1 ++ r2 ↔ x ∈ r1 ++ i :: r2 ∧ x ≠ i := by
  rw [List.nodup_append] at hnd
  constructor
  · intro hx
    refine ⟨by simp at hx ⊢; rcases hx with h | h <;> simp [h], fun hxe => ?_⟩
    subst hxe
    simp at hx
    rcases hx with hx | hx
    · exact hnd.2.2 x hx x (by simp) rfl
    · exact (List.nodup_cons.1 hnd.2.1).1 hx
  · rintro ⟨hx, hne⟩
    simp at hx ⊢
    rcases hx with hx | hx | hx
    · exact .inl hx
    · exact absurd hx hne
    · exact .inr hx
theorem listed_step {listed : Array Bool} {r r' : List Nat} {i : Nat} (hsz : listed.size = ops.size) (hlt : i < ops.size) (hmem : ∀ x, x ∈ r ↔ x < ops.size ∧ listed.getD x false = false) (hr : ∀ x, x ∈ r' ↔ x ∈ r ∧ x ≠ i) :
    ∀ x, x ∈ r' ↔ x < ops.size ∧ (listed.setIfInBounds i true).getD x false = false := by
  intro x
  rw [hr x, hmem x]
  by_cases hxe : i = x
  · subst hxe
    simp [hsz, hlt]
  · rw [getD_set_ne false hxe]
    exact ⟨fun hh => hh.1, fun hh => ⟨hh, fun e => hxe e.symm⟩⟩
theorem shut_step {listed : Array Bool} {i : Nat} {oi : Oper} (hshut : Shut ops listed) (hoi : ops[i]? = some oi) (hall : ∀ e ∈ oi.after, Region.binds .any e = true → listed.getD e.on false = true) : Shut ops (listed.setIfInBounds i true) := by
  intro i' o' e ho' hl he hb
  by_cases hxe : i = i'
  · subst hxe
    rw [hoi] at ho'
    injection ho' with ho'
    subst ho'
    exact getD_set_true (hall e he hb)
  · rw [getD_set_ne false hxe] at hl
    exact getD_set_true (hshut i' o' e ho' hl he hb)
theorem step_front {wk : Nat → Bool} {i : Nat} {oi : Oper} {r1 r2 : List Nat} {K : List Value → Hp → Prop} (hoi : ops[i]? = some oi) (ht : Told P tm h) (hind : AllIndep P ops wk i oi r1) (k : aops P ops wk (r1 ++ i :: r2) tm h K) :
    astep P ops (wk i) oi tm h fun tm1 h1 => aops P ops wk (r1 ++ r2) tm1 h1 K := by
  cases hc : calm P oi with
  | true =>
    obtain ⟨v, hv⟩ := calm_some hoi hc ht.va r1 tm h hind (Inv.refl oi) ht k
    exact (astep_calm hc _).2 ⟨v, hv, early_calm hoi hc ht.va hv r1 tm h hind (Inv.refl oi) k⟩
  | false => exact early_busy hoi hc r1 tm h hind ht k

theorem any_soundP {wk : Nat → Bool} {Q : Exit → Act → World → Prop} {K : List Value → Hp → Prop} {B : Bd} {w0 : World} (hedge : ∀ i o e, ops[i]? = some o → e ∈ o.after → Region.binds .any e = true → e.on < i) :
    ∀ (fuel : Nat) (r : List Nat) (listed : Array Bool) {φ : Inj} {tm : List Value} {h : Hp} {a : Act} {w : World}, r.length ≤ fuel → r.Nodup → r.Pairwise (PairOK P ops wk) → listed.size = ops.size → (∀ i, i ∈ r ↔ i < ops.size ∧ listed.getD i false = false) → Shut ops listed →
      aops P ops wk r tm h K → RelSt P B w0 φ tm h a w → (∀ φ' tm' h' a' w', RelSt P B w0 φ' tm' h' a' w' → φ <+: φ' → K tm' h' → Q .normal a' w') → wpAny P .any ops Q fuel listed a w := by
  intro fuel
  induction fuel with
  | zero =>
    intro r listed φ tm h a w hlen hnd hp hsz hmem hshut k R hQ
    have hr : r = [] := List.eq_nil_of_length_eq_zero (by omega)
    subst hr
    refine ⟨?_, hQ φ tm h a w R (List.prefix_refl _) k⟩
    cases hx : Region.ready .any ops listed with
    | nil => rfl
    | cons i l =>
      exfalso
      have hi : i ∈ Region.ready .any ops listed := by rw [hx]; simp
      obtain ⟨h0, o, ho, _⟩ := mem_ready.1 hi
      have hlt := (Array.getElem?_eq_some_iff.1 ho).1
      have : i ∈ ([] : List Nat) := (hmem i).2 ⟨hlt, by simpa [Array.getD_eq_getD_getElem?, Array.getElem?_eq_getElem (hsz ▸ hlt)] using h0⟩
      cases this
  | succ fuel ih =>
    intro r listed φ tm h a w hlen hnd hp hsz hmem hshut k R hQ
    refine ⟨fun hr => ?_, fun i hi => ?_⟩
    · obtain rfl := some_first hedge hsz hmem hr
      exact hQ φ tm h a w R (List.prefix_refl _) k
    · obtain ⟨h0, oi, hoi, hall⟩ := mem_ready.1 hi
      have hlt := (Array.getElem?_eq_some_iff.1 hoi).1
      have h0' : listed.getD i false = false := by simpa [Array.getD_eq_getD_getElem?, Array.getElem?_eq_getElem (hsz ▸ hlt)] using h0
      obtain ⟨r1, r2, rfl⟩ := List.append_of_mem ((hmem i).2 ⟨hlt, h0'⟩)
      have hind : AllIndep P ops wk i oi r1 := fun j hj => by
        obtain ⟨hjlt, hjl⟩ := (hmem j).1 (by simp [hj])
        rw [List.pairwise_append] at hp
        rcases hp.2.2 j hj i (by simp) with hp | ⟨oj, oi', h1, h2, h3⟩
        · have := pre_listed hshut hp (.inr hi)
          rw [hjl] at this
          cases this
        · rw [hoi] at h2
          injection h2 with h2
          subst h2
          exact ⟨oj, h1, h3⟩
      have ht : Told P tm h := ⟨B, w0, φ, a, w, R⟩
      refine wpOp_mono ?_ (astep_sound hoi (step_front hoi ht hind k) R Q)
      rintro a' w' ⟨φ', tm', h', p1, p2, p3⟩
      have hsub : (r1 ++ r2).Sublist (r1 ++ i :: r2) := List.Sublist.append (List.Sublist.refl _) (List.sublist_cons_self _ _)
      exact ih (r1 ++ r2) (listed.setIfInBounds i true) (by simp at hlen ⊢; omega) (hnd.sublist hsub) (hp.sublist hsub) (by simpa using hsz) (listed_step hsz hlt hmem (mem_drop1 hnd)) (shut_step hshut hoi hall) p3 p2 fun φ2 tm2 h2 a2 w2 q1 q2 q3 => hQ φ2 tm2 h2 a2 w2 q1 (p1.trans q2) q3
end
end Go.Proofs.YtgfilbekfkhjjaaGreat.Hz
/- A region that draws its order, with an operation that makes a new object and that nothing orders before the calls: it is told behind them. -/
namespace Go.Proofs.YtgfilbekfkhjjaaGreat.Hz
open Go.RowKit
set_option linter.unusedVariables false
set_option linter.unusedSimpArgs false

section
variable {P : Program} {ops : Array Oper}

theorem put_get {tm : List Value} {e : Option Tmp} {v : Value} {d : Nat} (h : e ≠ some d) : (put tm e v)[d]? = tm[d]? := by
  cases e with
  | none => rfl
  | some e => exact List.getElem?_set_ne (fun hh => h (by rw [hh]))
theorem all2_junk {φ : Inj} {u : Value} : ∀ {tm : List Value} {ts : List Value} (d : Nat), All2 (RelV φ) tm (ts.set d u) → All2 (RelV φ) (tm.set d junk) ts
  | [], [], _, _ => trivial
  | x :: tm, t :: ts, 0, h => ⟨relV_junk _ _, h.2⟩
  | x :: tm, t :: ts, d + 1, h => ⟨h.1, all2_junk d h.2⟩
  | [], t :: ts, d, h => by cases d <;> exact h.elim
  | x :: tm, [], d, h => h.elim
theorem all2_unjunk {φ : Inj} {u : Value} : ∀ {tm : List Value} {ts : List Value} (d : Nat), All2 (RelV φ) (tm.set d junk) ts → (∀ x, tm[d]? = some x → RelV φ x u) → All2 (RelV φ) tm (ts.set d u)
  | [], [], _, _, _ => trivial
  | x :: tm, t :: ts, 0, h, k => ⟨k x rfl, h.2⟩
  | x :: tm, t :: ts, d + 1, h, k => ⟨h.1, all2_unjunk d h.2 fun y hy => k y (by simpa using hy)⟩
  | [], t :: ts, d, h, _ => h.elim
  | x :: tm, [], d, h, _ => by cases d <;> exact h.elim
theorem all2_at {φ : Inj} {u : Value} : ∀ {tm : List Value} {ts : List Value} (d : Nat) {x : Value}, All2 (RelV φ) tm (ts.set d u) → tm[d]? = some x → RelV φ x u
  | x :: tm, t :: ts, 0, y, h, e => by simp at e; subst e; exact h.1
  | x :: tm, t :: ts, d + 1, y, h, e => all2_at d h.2 (by simpa using e)
  | [], _, _, _, _, e => by simp at e
  | x :: tm, [], d, _, h, _ => h.elim
theorem all2_fill {φ : Inj} {v v' : Value} (hv : RelV φ v v') : ∀ {tm : List Value} {ts : List Value} (d : Nat), All2 (RelV φ) (tm.set d junk) ts → ts[d]? = some v' → All2 (RelV φ) (tm.set d v) ts
  | [], [], _, _, e => by simp at e
  | x :: tm, t :: ts, 0, h, e => by simp at e; subst e; exact ⟨hv, h.2⟩
  | x :: tm, t :: ts, d + 1, h, e => ⟨h.1, all2_fill hv d h.2 (by simpa using e)⟩
  | [], t :: ts, d, h, e => h.elim
  | x :: tm, [], d, h, e => by simp at e

/-- An operation's effect is that of a value in its slot. -/
theorem aop_put {wk : Bool} {o : Oper} {tm : List Value} {h : Hp} {K : List Value → Hp → Prop} (k : astep P ops wk o tm h K) : astep P ops wk o tm h fun tm' h' => (∃ v, tm' = put tm o.dst v) ∧ K tm' h' :=
  astep_out (fun v h' _ hk => ⟨⟨v, rfl⟩, hk⟩) k

theorem put_slot {a : Act} {e : Option Tmp} {v : Value} {d : Nat} (h : e ≠ some d) : (a.put e v).tmps[d]? = a.tmps[d]? := by
  cases e with
  | none => rfl
  | some e =>
    show (a.tmps.setIfInBounds e v)[d]? = _
    exact Array.getElem?_setIfInBounds_ne fun hh => h (by rw [hh])
/-- An operation turns no slot but its own. -/
theorem wpOp_slot {Q : Exit → Act → World → Prop} {i : Nat} {o : Oper} {a : Act} {w : World} {K : Act → World → Prop} {d : Nat} (hi : ops[i]? = some o) (hne : o.dst ≠ some d) (k : wpOp P ops Q i K a w) : wpOp P ops Q i (fun a' w' => a'.tmps[d]? = a.tmps[d]? ∧ K a' w') a w := by
  have hp : ∀ v, (a.put o.dst v).tmps[d]? = a.tmps[d]? := fun v => put_slot hne
  unfold wpOp at *
  simp only [hi] at k ⊢
  split
  · rename_i hw
    simp only [hw, if_true] at k
    refine k.imp (fun k => ?_) id
    unfold Oper.wp at *
    generalize (execOp a.eval o).run P w = r at *
    cases r with
    | ok n w' =>
      cases n <;> simp only [Oper.upon] at k ⊢ <;>
        first
          | exact ⟨hp _, k⟩
          | exact ⟨put_slot (a := { a with defers := _ :: a.defers }) hne, k⟩
          | exact Calls.mono k (fun e w'' he => by cases e <;> first | exact ⟨hp _, he⟩ | exact he)
          | exact Rows.mono k (fun _ _ he => ⟨hp _, he⟩)
    | halt x w' => cases x <;> simp only [Oper.upon] at k ⊢ <;> exact k
  · rename_i hw
    simp only [hw] at k
    exact ⟨hp _, k⟩
/-- The object that it will make, while operations stand ahead of it. -/
theorem weak_some {wk : Nat → Bool} {os : Oper} {K : List Value → Hp → Prop} {tm0 : List Value} :
    ∀ (r1 : List Nat) (tm : List Value) (h : Hp), (∀ j ∈ r1, ∃ oj, ops[j]? = some oj ∧ oj.apart ops os = true) → (∀ x ∈ os.op.operands, ev tm x = ev tm0 x) → Told P tm h → aops P ops wk r1 tm h (fun tm h => astepS P os tm h K) →
    os.guard = none ∧ kdOf P os.op = .weak ∧ (∃ d, os.dst = some d ∧ d < tm.length) ∧ ∃ f ob, NewF f ∧ ob.live = true ∧ ob.rw = true ∧ ob.cells.all scal = true ∧ ∀ h', eev P h' (ev tm0) os.op = some (f h'.length, h' ++ [ob])
  | [], tm, h, _, he, _, k => by
    obtain ⟨hg, hk, hd, v, ob, e, hs, _⟩ := k
    obtain ⟨f, hf, h1, h2, h3⟩ := weak_any hk e
    exact ⟨hg, hk, hd, f, ob, hf, h1, h2, hs, fun h' => by rw [← eev_congr os.op he]; exact h3 h'⟩
  | j :: r1, tm, h, hap, he, ht, k => by
    obtain ⟨oj, hj, ha⟩ := hap j (by simp)
    obtain ⟨a1, a2, a3⟩ := Oper.apart_spec ha
    unfold aops at k
    simp only [hj] at k
    obtain ⟨v, h1, _, ht1, ⟨u, hu⟩, hk⟩ := astep_told ht (aop_put k)
    have := weak_some (tm0 := tm0) r1 _ h1 (fun x hx => hap x (by simp [hx])) (fun x hx => by rw [hu, ev_apart a1 x hx]; exact he x hx) ht1 hk
    obtain ⟨g1, g2, ⟨d, g3, g4⟩, g5⟩ := this
    refine ⟨g1, g2, ⟨d, g3, ?_⟩, g5⟩
    cases hd : oj.dst with
    | none => rw [hu, hd] at g4; exact g4
    | some e => rw [hu, hd] at g4; simpa [put] using g4

theorem aops_append {wk : Nat → Bool} {K : List Value → Hp → Prop} : ∀ (r1 r2 : List Nat) (tm : List Value) (h : Hp), aops P ops wk r1 tm h (fun tm h => aops P ops wk r2 tm h K) → aops P ops wk (r1 ++ r2) tm h K
  | [], _, _, _, k => k
  | j :: r1, r2, tm, h, k => by
    simp only [List.cons_append]
    unfold aops at k ⊢
    cases hj : ops[j]? with
    | none => simp only [hj] at k ⊢; exact aops_append r1 r2 _ _ k
    | some oj => simp only [hj] at k ⊢; exact astep_out (fun v h' _ hh => aops_append r1 r2 _ _ hh) k
theorem aops_mono {wk : Nat → Bool} {K K' : List Value → Hp → Prop} (hk : ∀ tm h, K tm h → K' tm h) : ∀ (r : List Nat) (tm : List Value) (h : Hp), aops P ops wk r tm h K → aops P ops wk r tm h K'
  | [], _, _, k => hk _ _ k
  | j :: r, tm, h, k => by
    unfold aops at k ⊢
    cases hj : ops[j]? with
    | none => simp only [hj] at k ⊢; exact aops_mono hk r _ _ k
    | some oj => simp only [hj] at k ⊢; exact astep_out (fun v h' _ hh => aops_mono hk r _ _ hh) k

section
variable {wk : Nat → Bool} {Q : Exit → Act → World → Prop} {K : List Value → Hp → Prop} {s : Nat} {os : Oper} {r2 : List Nat} {B : Bd} {w0 w1 : World} {d : Nat} {u0 v0 : Value} {pl : Pl} {ob : Ob} {f : Nat → Value} {φ0 : Inj} {h0 : Hp}
/-- The new object stands, the calls are still to come. -/
theorem late_B (hedge : ∀ i o e, ops[i]? = some o → e ∈ o.after → Region.binds .any e = true → e.on < i) (hos : ops[s]? = some os) (hd : os.dst = some d) (hg : os.guard = none) (hk : kdOf P os.op = .weak) (hf : NewF f) (hl : ob.live = true) (hr : ob.rw = true) (hs : ob.cells.all scal = true)
    (R1 : Rel P B w0 (φ0 ++ [pl]) (h0 ++ [ob]) w1) (hlen0 : φ0.length = h0.length) (hv0 : RelV (φ0 ++ [pl]) (f φ0.length) v0) :
    ∀ (fuel : Nat) (r1 : List Nat) (listed : Array Bool) {φ : Inj} {tm : List Value} {h : Hp} {a : Act} {w : World}, (r1 ++ r2).length ≤ fuel → (r1 ++ r2).Nodup → (r1 ++ r2).Pairwise (PairOK P ops wk) → (∀ j ∈ r1, IndepI P ops wk j s ∨ ∃ oj, ops[j]? = some oj ∧ oj.apart ops os = true) → (∀ i ∈ r2, ∀ j ∈ r1, IndepI P ops wk j s ∨ Pre ops j i) →
      listed.size = ops.size → (∀ i, i ∈ r1 ++ r2 ↔ i < ops.size ∧ listed.getD i false = false) → Shut ops listed → (∀ h', eev P h' (ev tm) os.op = some (f h'.length, h' ++ [ob])) →
      aops P ops wk r1 tm h (fun tm h => astepS P os tm h (fun tm h => aops P ops wk r2 tm h K)) → φ0 <+: φ → RelSt P ⟨B.n, pl.block :: B.d⟩ w1 φ (put tm (some d) junk) h a w → (∀ x, tm[d]? = some x → RelV φ x u0) → a.tmps[d]? = some v0 →
      (∀ φ' tm' h' a' w', RelSt P B w0 φ' tm' h' a' w' → φ0 <+: φ' → K tm' h' → Q .normal a' w') → wpAny P .any ops Q fuel listed a w := by
  intro fuel
  induction fuel with
  | zero =>
    intro r1 listed φ tm h a w hlen hnd hp h1 h2 hsz hmem hshut he k hφ R hx hv hQ
    have hr1 : r1 ++ r2 = [] := List.eq_nil_of_length_eq_zero (by omega)
    obtain ⟨rfl, hr2⟩ := List.append_eq_nil_iff.1 hr1
    obtain ⟨_, _, _, v, ob', e, _, k⟩ := k
    rw [he h] at e
    injection e with e; injection e with e1 e2
    rw [← e1, ← e2] at k
    have Rh := Rel.show_ R.hp R1 hlen0 hl hr hs
    have hvv : RelV (φ ++ [pl]) (f h.length) v0 := by
      have := relV_new_move (φ2 := φ) hf hv0
      rw [R.hp.len] at this
      exact this
    have RS : RelSt P B w0 (φ ++ [pl]) (put tm os.dst (f h.length)) (h ++ [ob]) a w := by
      refine ⟨?_, R.df, Rh⟩
      rw [hd]
      have := R.tm.mono fun _ _ r => RelV.mono (List.prefix_append φ [pl]) r
      exact all2_fill hvv d this (by simpa using hv)
    exact any_soundP (r := r2) hedge 0 listed (by simp [hr2]) (by rw [hr2]; exact List.nodup_nil) (by rw [hr2]; exact List.Pairwise.nil) hsz (by simpa using hmem) hshut k RS fun φ' tm' h' a' w' q1 q2 q3 => hQ φ' tm' h' a' w' q1 (hφ.trans ((List.prefix_append _ _).trans q2)) q3
  | succ fuel ih =>
    intro r1 listed φ tm h a w hlen hnd hp h1 h2 hsz hmem hshut he k hφ R hx hv hQ
    -- a told state of the frame without the new object
    have RT : RelSt P ⟨B.n, pl.block :: B.d⟩ w1 φ tm h (a.put (some d) u0) w := by
      refine ⟨?_, R.df, R.hp⟩
      show All2 (RelV φ) tm (a.tmps.setIfInBounds d u0).toList
      rw [Array.toList_setIfInBounds]
      exact all2_unjunk d R.tm hx
    have ht : Told P tm h := ⟨_, _, _, _, _, RT⟩
    by_cases hall : ∀ j ∈ r1, IndepI P ops wk j s
    · -- nothing that matters stands ahead of it
      have hind : AllIndep P ops wk s os r1 := fun j hj => by
        obtain ⟨oj, oi, q1, q2, q3⟩ := hall j hj
        rw [hos] at q2; injection q2 with q2; subst q2
        exact ⟨oj, q1, q3⟩
      have hb : calm P os = false := by unfold calm; rw [hk]
      have k1 : aops P ops wk (r1 ++ s :: r2) tm h K := by
        refine aops_append r1 (s :: r2) tm h (aops_mono (fun tm' h' hh => ?_) r1 tm h k)
        unfold aops
        simp only [hos]
        exact astepS_astep hh
      have k2 := early_busy hos hb r1 tm h hind ht k1
      obtain ⟨v, h', e, k3⟩ := (astep_weak hg hk).1 k2
      rw [he h] at e
      injection e with e; injection e with e1 e2
      rw [← e1, ← e2] at k3
      have Rh := Rel.show_ R.hp R1 hlen0 hl hr hs
      have hvv : RelV (φ ++ [pl]) (f h.length) v0 := by
        have := relV_new_move (φ2 := φ) hf hv0
        rw [R.hp.len] at this
        exact this
      have RS : RelSt P B w0 (φ ++ [pl]) (put tm os.dst (f h.length)) (h ++ [ob]) a w := by
        refine ⟨?_, R.df, Rh⟩
        rw [hd]
        have := R.tm.mono fun _ _ r => RelV.mono (List.prefix_append φ [pl]) r
        exact all2_fill hvv d this (by simpa using hv)
      exact any_soundP hedge (fuel + 1) (r1 ++ r2) listed hlen hnd hp hsz hmem hshut k3 RS fun φ' tm' h' a' w' q1 q2 q3 => hQ φ' tm' h' a' w' q1 (hφ.trans ((List.prefix_append _ _).trans q2)) q3
    · have hne : ∃ j ∈ r1, ¬ IndepI P ops wk j s := by
        rcases Classical.em (∃ j ∈ r1, ¬ IndepI P ops wk j s) with h | h
        · exact h
        · exact absurd (fun j hj => Classical.byContradiction fun hn => h ⟨j, hj, hn⟩) hall
      obtain ⟨j0, hj0, hn0⟩ := hne
      refine ⟨fun hr0 => ?_, fun i hi => ?_⟩
      · have := some_first hedge hsz hmem hr0
        rw [(List.append_eq_nil_iff.1 this).1] at hj0
        cases hj0
      · obtain ⟨g0, oi, hoi, hafter⟩ := mem_ready.1 hi
        have hlt := (Array.getElem?_eq_some_iff.1 hoi).1
        have g0' : listed.getD i false = false := by simpa [Array.getD_eq_getD_getElem?, Array.getElem?_eq_getElem (hsz ▸ hlt)] using g0
        rcases List.mem_append.1 ((hmem i).2 ⟨hlt, g0'⟩) with hi1 | hi2
        · obtain ⟨p, q, rfl⟩ := List.append_of_mem hi1
          have hind : AllIndep P ops wk i oi p := fun j hj => by
            obtain ⟨hjlt, hjl⟩ := (hmem j).1 (by simp [hj])
            rw [List.append_assoc, List.pairwise_append] at hp
            rcases hp.2.2 j hj i (by simp) with hp | ⟨oj, oi', q1, q2, q3⟩
            · have := pre_listed hshut hp (.inr hi)
              rw [hjl] at this
              cases this
            · rw [hoi] at q2
              injection q2 with q2
              subst q2
              exact ⟨oj, q1, q3⟩
          have hap : oi.apart ops os = true := by
            rcases h1 i (by simp) with ⟨oj, oi', q1, q2, q3⟩ | ⟨oj, q1, q3⟩
            · rw [hoi] at q1; injection q1 with q1; subst q1
              rw [hos] at q2; injection q2 with q2; subst q2
              unfold indep at q3
              simp only [Bool.and_eq_true] at q3
              exact q3.1.1
            · rw [hoi] at q1; injection q1 with q1; subst q1
              exact q3
          obtain ⟨a1, a2, a3⟩ := Oper.apart_spec hap
          have hdi : oi.dst ≠ some d := fun e => a2 d e hd
          have step := aop_put (step_front hoi ht hind k)
          have step2 : astep P ops (wk i) oi (put tm (some d) junk) h fun tm' h' => ∃ tm1, tm' = put tm1 (some d) junk ∧ (∃ v, tm1 = put tm oi.dst v) ∧ aops P ops wk (p ++ q) tm1 h' (fun tm h => astepS P os tm h (fun tm h => aops P ops wk r2 tm h K)) := by
            rw [astep_apart (fun t ht' => by injection ht' with ht'; subst ht'; exact a3 d hd) (fun t ht' => by injection ht' with ht'; subst ht'; exact hdi)]
            exact astep_out (fun v h' _ hh => ⟨_, rfl, hh.1, hh.2⟩) step
          refine wpOp_mono ?_ (wpOp_slot hoi hdi (astep_sound hoi step2 R Q))
          rintro a' w' ⟨p0, φ', tm', h', p1, p2, tm1, rfl, ⟨v, rfl⟩, p3⟩
          have hsub : (p ++ q ++ r2).Sublist (p ++ i :: q ++ r2) := (List.Sublist.append (List.Sublist.refl _) (List.sublist_cons_self _ _)).append (List.Sublist.refl _)
          have hnd' : (p ++ i :: (q ++ r2)).Nodup := by simpa using hnd
          refine ih (p ++ q) (listed.setIfInBounds i true) (by simp at hlen ⊢; omega) (hnd.sublist hsub) (hp.sublist hsub) (fun j hj => h1 j (by simp at hj ⊢; rcases hj with h | h <;> simp [h])) (fun x hx j hj => h2 x hx j (by simp at hj ⊢; rcases hj with h | h <;> simp [h])) (by simpa using hsz) ?_ (shut_step hshut hoi hafter) ?_ p3 (hφ.trans p1) p2 ?_ ?_ hQ
          · refine listed_step (r := p ++ i :: q ++ r2) hsz hlt hmem fun x => ?_
            have := mem_drop1 hnd' x
            simpa using this
          · intro h''
            rw [eev_congr os.op (ev_apart (tm := tm) (v := v) a1)]
            exact he h''
          · intro x hxx
            rw [put_get hdi] at hxx
            exact (hx x hxx).mono p1
          · rw [p0]; exact hv
        · -- what looks at the object stands behind the calls
          exfalso
          rcases h2 i hi2 j0 hj0 with h | h
          · exact hn0 h
          · have := pre_listed hshut h (.inr hi)
            rw [((hmem j0).1 (by simp [hj0])).2] at this
            cases this
end
section
variable {wk : Nat → Bool} {Q : Exit → Act → World → Prop} {K : List Value → Hp → Prop} {s : Nat} {os : Oper} {r2 : List Nat} {B : Bd} {w0 : World}
theorem late_A (hedge : ∀ i o e, ops[i]? = some o → e ∈ o.after → Region.binds .any e = true → e.on < i) (hos : ops[s]? = some os) :
    ∀ (fuel : Nat) (r1 : List Nat) (listed : Array Bool) {φ : Inj} {tm : List Value} {h : Hp} {a : Act} {w : World}, (r1 ++ s :: r2).length ≤ fuel → (r1 ++ s :: r2).Nodup → (r1 ++ r2).Pairwise (PairOK P ops wk) → (∀ i ∈ r2, PairOK P ops wk s i) →
      (∀ j ∈ r1, PairOK P ops wk j s ∨ ∃ oj, ops[j]? = some oj ∧ oj.apart ops os = true) → (∀ i ∈ r2, ∀ j ∈ r1, IndepI P ops wk j s ∨ Pre ops j i) →
      listed.size = ops.size → (∀ i, i ∈ r1 ++ s :: r2 ↔ i < ops.size ∧ listed.getD i false = false) → Shut ops listed →
      aops P ops wk r1 tm h (fun tm h => astepS P os tm h (fun tm h => aops P ops wk r2 tm h K)) → RelSt P B w0 φ tm h a w →
      (∀ φ' tm' h' a' w', RelSt P B w0 φ' tm' h' a' w' → φ <+: φ' → K tm' h' → Q .normal a' w') → wpAny P .any ops Q fuel listed a w := by
  intro fuel
  induction fuel with
  | zero =>
    intro r1 listed φ tm h a w hlen
    simp at hlen
  | succ fuel ih =>
    intro r1 listed φ tm h a w hlen hnd hp hs2 h1 h2 hsz hmem hshut k R hQ
    have hp2 := List.pairwise_append.1 hp
    by_cases hall : ∀ j ∈ r1, PairOK P ops wk j s
    · refine any_soundP (wk := wk) hedge (fuel + 1) (r1 ++ s :: r2) listed hlen hnd ?_ hsz hmem hshut ?_ R hQ
      · rw [List.pairwise_append]
        refine ⟨hp2.1, List.pairwise_cons.2 ⟨hs2, hp2.2.1⟩, fun x hx y hy => ?_⟩
        rcases List.mem_cons.1 hy with rfl | hy
        · exact hall x hx
        · exact hp2.2.2 x hx y hy
      · refine aops_append r1 (s :: r2) tm h (aops_mono (fun tm' h' hh => ?_) r1 tm h k)
        unfold aops
        simp only [hos]
        exact astepS_astep hh
    · have hne : ∃ j ∈ r1, ¬ PairOK P ops wk j s := by
        rcases Classical.em (∃ j ∈ r1, ¬ PairOK P ops wk j s) with h | h
        · exact h
        · exact absurd (fun j hj => Classical.byContradiction fun hn => h ⟨j, hj, hn⟩) hall
      obtain ⟨j0, hj0, hn0⟩ := hne
      refine ⟨fun hr0 => ?_, fun i hi => ?_⟩
      · have := some_first hedge hsz hmem hr0
        simp at this
      · obtain ⟨g0, oi, hoi, hafter⟩ := mem_ready.1 hi
        have hlt := (Array.getElem?_eq_some_iff.1 hoi).1
        have g0' : listed.getD i false = false := by simpa [Array.getD_eq_getD_getElem?, Array.getElem?_eq_getElem (hsz ▸ hlt)] using g0
        have ht : Told P tm h := ⟨_, _, _, _, _, R⟩
        rcases List.mem_append.1 ((hmem i).2 ⟨hlt, g0'⟩) with hi1 | hi2
        · obtain ⟨p, q, rfl⟩ := List.append_of_mem hi1
          have hind : AllIndep P ops wk i oi p := fun j hj => by
            obtain ⟨hjlt, hjl⟩ := (hmem j).1 (by simp [hj])
            rw [List.append_assoc, List.pairwise_append] at hp
            rcases hp.2.2 j hj i (by simp) with hp | ⟨oj, oi', q1, q2, q3⟩
            · have := pre_listed hshut hp (.inr hi)
              rw [hjl] at this
              cases this
            · rw [hoi] at q2
              injection q2 with q2
              subst q2
              exact ⟨oj, q1, q3⟩
          refine wpOp_mono ?_ (astep_sound hoi (step_front hoi ht hind k) R Q)
          rintro a' w' ⟨φ', tm', h', p1, p2, p3⟩
          have hsub : (p ++ q ++ s :: r2).Sublist (p ++ i :: q ++ s :: r2) := (List.Sublist.append (List.Sublist.refl _) (List.sublist_cons_self _ _)).append (List.Sublist.refl _)
          have hsub2 : (p ++ q ++ r2).Sublist (p ++ i :: q ++ r2) := (List.Sublist.append (List.Sublist.refl _) (List.sublist_cons_self _ _)).append (List.Sublist.refl _)
          have hnd' : (p ++ i :: (q ++ s :: r2)).Nodup := by simpa using hnd
          refine ih (p ++ q) (listed.setIfInBounds i true) (by simp at hlen ⊢; omega) (hnd.sublist hsub) (hp.sublist hsub2) hs2 (fun j hj => h1 j (by simp at hj ⊢; rcases hj with h | h <;> simp [h])) (fun x hx j hj => h2 x hx j (by simp at hj ⊢; rcases hj with h | h <;> simp [h])) (by simpa using hsz) ?_ (shut_step hshut hoi hafter) p3 p2 fun φ2 tm2 h2 a2 w2 q1 q2 q3 => hQ φ2 tm2 h2 a2 w2 q1 (p1.trans q2) q3
          refine listed_step (r := p ++ i :: q ++ s :: r2) hsz hlt hmem fun x => ?_
          have := mem_drop1 hnd' x
          simpa using this
        · rcases List.mem_cons.1 hi2 with rfl | hi2
          · -- the new object comes first
            rw [hos] at hoi; injection hoi with hoi; subst hoi
            have hap : ∀ j ∈ r1, ∃ oj, ops[j]? = some oj ∧ oj.apart ops os = true := fun j hj => by
              rcases h1 j hj with (h | ⟨oj, oi, q1, q2, q3⟩) | h
              · have := pre_listed hshut h (.inr hi)
                rw [((hmem j).1 (by simp [hj])).2] at this
                cases this
              · rw [hos] at q2; injection q2 with q2; subst q2
                unfold indep at q3
                simp only [Bool.and_eq_true] at q3
                exact ⟨oj, q1, q3.1.1⟩
              · exact h
            obtain ⟨hg, hkd, ⟨d, hd, hdl⟩, f, ob, hf, hl, hr, hs, he⟩ := weak_some r1 tm h hap (fun _ _ => rfl) ht k
            have h1' : ∀ j ∈ r1, IndepI P ops wk j i ∨ ∃ oj, ops[j]? = some oj ∧ oj.apart ops os = true := fun j hj => .inr (hap j hj)
            obtain ⟨φ1, v0, w1, r1', rpre, R1, rv⟩ := eev_sound R.hp (fun x => R.ev x) (he h)
            obtain ⟨t, rfl⟩ := rpre
            have htl : t.length = 1 := by
              have := R1.len
              have := R.hp.len
              simp at *
              omega
            obtain ⟨pl, rfl⟩ : ∃ pl, t = [pl] := by
              cases t with
              | nil => simp at htl
              | cons x t => cases t with
                | nil => exact ⟨x, rfl⟩
                | cons y t => simp at htl
            have hda : d < a.tmps.size := by
              have hl' : tm.length = a.tmps.size := by simpa using R.tm.length
              rw [← hl']
              exact hdl
            have go : wpAny P .any ops Q fuel (listed.setIfInBounds i true) (a.put os.dst v0) w1 := by
              have hnd2 := List.nodup_append.1 hnd
              have hsub : (r1 ++ r2).Sublist (r1 ++ i :: r2) := List.Sublist.append (List.Sublist.refl _) (List.sublist_cons_self _ _)
              have Rh := Rel.hide R.hp R1 hl hr
              rw [hd]
              refine late_B (B := B) (w0 := w0) (w1 := w1) (u0 := a.eval (.tmp d)) (v0 := v0) (pl := pl) (ob := ob) (f := f) (φ0 := φ) (h0 := h) (s := i) (os := os) (d := d) (r2 := r2) (K := K) hedge hos hd hg hkd hf hl hr hs R1 R.hp.len (by rw [R.hp.len]; exact rv) fuel r1 (listed.setIfInBounds i true) (tm := tm) (h := h) (by simp at hlen ⊢; omega) (hnd.sublist hsub) hp h1' h2 (by simpa using hsz) (listed_step hsz hlt hmem (mem_drop1 hnd)) (shut_step hshut hos hafter) he k (List.prefix_refl _) ?_ ?_ ?_ hQ
              · refine ⟨?_, R.df, Rh⟩
                show All2 (RelV φ) (tm.set d junk) (a.tmps.setIfInBounds d v0).toList
                rw [Array.toList_setIfInBounds]
                exact R.tm.set d (relV_junk _ _)
              · intro x hx
                have := R.ev (.tmp d)
                simp only [ev, hx, Option.getD_some] at this
                exact this
              · show (a.tmps.setIfInBounds d v0)[d]? = some v0
                exact Array.getElem?_setIfInBounds_self_of_lt hda
            unfold wpOp
            simp only [hos]
            rw [if_pos (by unfold Region.wanted; rw [hg])]
            refine .inl ?_
            unfold Oper.wp
            rcases r1' with r1' | ⟨r1', rfl⟩
            · rw [r1']; exact go
            · rw [r1']; exact go
          · exfalso
            rcases h2 i hi2 j0 hj0 with h | h
            · exact hn0 (.inr h)
            · have := pre_listed hshut h (.inr hi)
              rw [((hmem j0).1 (by simp [hj0])).2] at this
              cases this
end

/-! ### The check -/
def indepB (P : Program) (ops : Array Oper) (wk : Nat → Bool) (j i : Nat) : Bool :=
  match ops[j]?, ops[i]? with
  | some oj, some oi => indep P ops (wk j) (wk i) oj oi
  | _, _ => false
def apartB (ops : Array Oper) (j i : Nat) : Bool :=
  match ops[j]?, ops[i]? with
  | some oj, some oi => oj.apart ops oi
  | _, _ => false
def pairB (P : Program) (ops : Array Oper) (wk : Nat → Bool) (b : List Nat) (j i : Nat) : Bool := (b.getD i 0).testBit j || indepB P ops wk j i
def pairsB (P : Program) (ops : Array Oper) (wk : Nat → Bool) (b : List Nat) : List Nat → Bool
  | [] => true
  | j :: r => r.all (pairB P ops wk b j) && pairsB P ops wk b r
def lateOK (P : Program) (ops : Array Oper) (wk : Nat → Bool) (s : Nat) (r1 r2 : List Nat) : Bool :=
  let b := befs ops.toList []
  decide ((r1 ++ s :: r2).Nodup ∧ (r1 ++ s :: r2).length ≤ ops.size) && (r1 ++ s :: r2).all (fun i => decide (i < ops.size)) && (List.range ops.size).all (fun i => (r1 ++ s :: r2).contains i) && pairsB P ops wk b (r1 ++ r2) && r2.all (pairB P ops wk b s) &&
    r1.all (fun j => pairB P ops wk b j s || apartB ops j s) && r2.all (fun i => r1.all fun j => indepB P ops wk j s || (b.getD i 0).testBit j)
theorem indepB_spec {wk : Nat → Bool} {j i : Nat} (h : indepB P ops wk j i = true) : IndepI P ops wk j i := by
  unfold indepB at h
  split at h
  · exact ⟨_, _, by assumption, by assumption, h⟩
  · cases h
theorem pre_bit {i j : Nat} (h : ((befs ops.toList []).getD i 0).testBit j = true) : Pre ops j i := by
  cases hb : (befs ops.toList [])[i]? with
  | none => rw [List.getD_eq_getElem?_getD, hb] at h; simp at h
  | some m =>
    rw [List.getD_eq_getElem?_getD, hb] at h
    exact befs_spec ops.toList [] rfl (fun i m hm => by simp at hm) i m hb j h
theorem pairB_spec {wk : Nat → Bool} {j i : Nat} (h : pairB P ops wk (befs ops.toList []) j i = true) : PairOK P ops wk j i := by
  unfold pairB at h
  rw [Bool.or_eq_true] at h
  exact h.imp pre_bit indepB_spec
theorem pairsB_spec {wk : Nat → Bool} : ∀ {r : List Nat}, pairsB P ops wk (befs ops.toList []) r = true → r.Pairwise (PairOK P ops wk)
  | [], _ => List.Pairwise.nil
  | j :: r, h => by
    simp only [pairsB, Bool.and_eq_true] at h
    exact List.pairwise_cons.2 ⟨fun i hi => pairB_spec (List.all_eq_true.1 h.1 i hi), pairsB_spec h.2⟩
theorem late_sound {wk : Nat → Bool} {s : Nat} {os : Oper} {r1 r2 : List Nat} {Q : Exit → Act → World → Prop} {K : List Value → Hp → Prop} {B : Bd} {w0 w : World} {φ : Inj} {tm : List Value} {h : Hp} {a : Act}
    (hedge : ∀ i o e, ops[i]? = some o → e ∈ o.after → Region.binds .any e = true → e.on < i) (hos : ops[s]? = some os) (hok : lateOK P ops wk s r1 r2 = true)
    (k : aops P ops wk r1 tm h (fun tm h => astepS P os tm h (fun tm h => aops P ops wk r2 tm h K))) (R : RelSt P B w0 φ tm h a w)
    (hQ : ∀ φ' tm' h' a' w', RelSt P B w0 φ' tm' h' a' w' → φ <+: φ' → K tm' h' → Q .normal a' w') : wpAny P .any ops Q ops.size (Array.replicate ops.size false) a w := by
  unfold lateOK at hok
  simp only [Bool.and_eq_true, decide_eq_true_eq] at hok
  obtain ⟨⟨⟨⟨⟨⟨⟨hnd, hlen⟩, hlt⟩, hin⟩, hp⟩, hs2⟩, h1⟩, h2⟩ := hok
  have hmem : ∀ i, i ∈ r1 ++ s :: r2 ↔ i < ops.size := fun i => ⟨fun hi => by simpa using List.all_eq_true.1 hlt i hi, fun hi => by
    have := List.all_eq_true.1 hin i (by simpa using hi)
    exact List.contains_iff_mem.1 this⟩
  refine late_A hedge hos ops.size r1 _ hlen hnd (pairsB_spec hp) (fun i hi => pairB_spec (List.all_eq_true.1 hs2 i hi)) (fun j hj => ?_) (fun i hi j hj => ?_) (by simp) (fun i => ?_) ?_ k R hQ
  · have := List.all_eq_true.1 h1 j hj
    rw [Bool.or_eq_true] at this
    refine this.imp pairB_spec fun h => ?_
    unfold apartB at h
    split at h
    · rename_i oj oi q1 q2
      rw [hos] at q2; injection q2 with q2; subst q2
      exact ⟨oj, q1, h⟩
    · cases h
  · have := List.all_eq_true.1 (List.all_eq_true.1 h2 i hi) j hj
    rw [Bool.or_eq_true] at this
    exact this.imp indepB_spec pre_bit
  · rw [hmem i]
    simp [Array.getD_eq_getD_getElem?, Array.getElem?_replicate]
    intro hi
    simp [hi]
  · intro i o e hi hl _ _
    rw [Array.getD_eq_getD_getElem?, Array.getElem?_replicate] at hl
    split at hl <;> simp at hl
end
end Go.Proofs.YtgfilbekfkhjjaaGreat.Hz
/- A region that draws its order, in which some operations may come in several orders and may not change places: one order of each kind is told. -/
namespace Go.Proofs.YtgfilbekfkhjjaaGreat.Hz
open Go.RowKit
set_option linter.unusedVariables false
set_option linter.unusedSimpArgs false

section
variable {P : Program} {ops : Array Oper}

/-- An operation that looks only at what stands may come first, before what is told behind the others. -/
theorem early_fork {wk : Nat → Bool} {i : Nat} {oi : Oper} {C C' : List Value → Hp → Prop} {tm0 : List Value} {h0 : Hp} {v : Value} (hi : ops[i]? = some oi) (hc : calm P oi = true)
    (hC : ∀ tm h, Inv ops P oi tm0 h0 tm h → C tm h → C' (put tm oi.dst v) h) :
    ∀ (r0 : List Nat) (tm : List Value) (h : Hp), AllIndep P ops wk i oi r0 → Inv ops P oi tm0 h0 tm h → aops P ops wk r0 tm h C → aops P ops wk r0 (put tm oi.dst v) h C'
  | [], tm, h, _, I, k => by
    unfold aops at k ⊢
    exact hC tm h I k
  | j :: r0, tm, h, hall, I, k => by
    obtain ⟨oj, hj, hind⟩ := hall j (by simp)
    unfold aops at k ⊢
    simp only [hj] at k ⊢
    have hap := hind
    unfold indep at hap
    simp only [Bool.and_eq_true] at hap
    obtain ⟨a1, a2, a3⟩ := Oper.apart_spec hap.1.1
    rw [astep_apart a3 fun d hd hx => a2 d hx hd]
    exact astep_out (fun u h1 ho hh => early_fork hi hc hC r0 _ h1 hall.tail (I.step hind ho) hh) k

/-! ### Operations that only run -/
def plainB (o : Oper) : Bool :=
  match o.op with
  | .call { callee := .value _, .. } => false
  | _ => true
theorem aop_all {X : Sort _} {wk : Bool} {o : Oper} {tm : List Value} {h : Hp} {K : X → List Value → Hp → Prop} (hp : plainB o = true) (x0 : X) (k : ∀ x, aop P wk o tm h (K x)) : aop P wk o tm h (fun tm h => ∀ x, K x tm h) := by
  unfold aop at k ⊢
  unfold plainB at hp
  split at hp
  · cases hp
  · rename_i hno
    split
    · rename_i f args ts e
      exact absurd e (hno _ _ _)
    · rename_i op hno2
      cases hk : kdOf P o.op with
      | pure =>
        simp only [hk] at k ⊢
        obtain ⟨v, e, _⟩ := k x0
        refine ⟨v, e, fun x => ?_⟩
        obtain ⟨v', e', q⟩ := k x
        rw [e] at e'
        injection e' with e'
        subst e'
        exact q
      | load =>
        simp only [hk] at k ⊢
        obtain ⟨v, e, _⟩ := k x0
        refine ⟨v, e, fun x => ?_⟩
        obtain ⟨v', e', q⟩ := k x
        rw [e] at e'
        injection e' with e'
        subst e'
        exact q
      | call =>
        simp only [hk] at k
        exact (k x0).elim
      | weak | strong =>
        simp only [hk] at k ⊢
        obtain ⟨v, h', e, _⟩ := k x0
        refine ⟨v, h', e, fun x => ?_⟩
        obtain ⟨v', h2, e', q⟩ := k x
        rw [e] at e'
        injection e' with e'
        injection e' with e1 e2
        subst e1
        subst e2
        exact q
theorem astep_all {X : Sort _} {wk : Bool} {o : Oper} {tm : List Value} {h : Hp} {K : X → List Value → Hp → Prop} (hp : plainB o = true) (x0 : X) (k : ∀ x, astep P ops wk o tm h (K x)) : astep P ops wk o tm h (fun tm h => ∀ x, K x tm h) := by
  unfold astep at k ⊢
  cases hg : o.guard with
  | none =>
    simp only [hg] at k ⊢
    exact aop_all hp x0 k
  | some g =>
    obtain ⟨j, want⟩ := g
    simp only [hg] at k ⊢
    cases hs : gslot ops tm j with
    | none => simp only [hs] at k; exact (k x0).elim
    | some s =>
      cases s with
      | bool b =>
        simp only [hs, asplit] at k ⊢
        exact ⟨fun hb => aop_all hp x0 fun x => (k x).1 hb, fun hb x => (k x).2 hb⟩
      | tuple vs =>
        simp only [hs] at k ⊢
        by_cases hv : vs = #[]
        · simp only [hv, if_true] at k ⊢
          exact k
        · simp only [hv, if_false] at k
          exact (k x0).elim
      | _ => simp only [hs] at k; exact (k x0).elim

/-! ### A family of orders -/
/-- Each way to bring the operations into an order is met by a member of the family. -/
def Compl (P : Program) (ops : Array Oper) (wk : Nat → Bool) (S : List Nat) (F : List Nat → Prop) : Prop :=
  ∀ ρ : Nat → Nat, (∀ x ∈ S, ∀ y ∈ S, x ≠ y → ρ x ≠ ρ y) → (∀ x ∈ S, ∀ y ∈ S, Pre ops x y → ρ x < ρ y) → ∃ f, F f ∧ f.Pairwise (fun x y => PairOK P ops wk x y ∨ ρ x < ρ y)
def Front (P : Program) (ops : Array Oper) (wk : Nat → Bool) (i : Nat) (oi : Oper) (F : List Nat → Prop) (g : List Nat) : Prop := ∃ p q, F (p ++ i :: q) ∧ g = p ++ q ∧ AllIndep P ops wk i oi p
variable {wk : Nat → Bool} {Q : Exit → Act → World → Prop} {K : List Value → Hp → Prop} {B : Bd} {w0 : World}
theorem pre_lt (hedge : ∀ i o e, ops[i]? = some o → e ∈ o.after → Region.binds .any e = true → e.on < i) {j i : Nat} (hp : Pre ops j i) : j < i := by
  induction hp with
  | edge h he hb => exact hedge _ _ _ h he hb
  | step h he hb k ih => exact Nat.lt_trans ih (hedge _ _ _ h he hb)
theorem Compl.exi (hedge : ∀ i o e, ops[i]? = some o → e ∈ o.after → Region.binds .any e = true → e.on < i) {S : List Nat} {F : List Nat → Prop} (c : Compl P ops wk S F) : ∃ f, F f := by
  obtain ⟨f, hf, _⟩ := c (fun x => x) (fun x _ y _ h => h) (fun x _ y _ h => pre_lt hedge h)
  exact ⟨f, hf⟩
theorem Compl.step {S1 S2 : List Nat} {i : Nat} {oi : Oper} {F : List Nat → Prop} (c : Compl P ops wk (S1 ++ i :: S2) F) (hF : ∀ f, F f → f.Nodup ∧ ∀ x, x ∈ f ↔ x ∈ S1 ++ i :: S2) (hnd : (S1 ++ i :: S2).Nodup) (hfree : ∀ j ∈ S1 ++ i :: S2, ¬ Pre ops j i)
    (ind : ∀ j ∈ S1 ++ i :: S2, PairOK P ops wk j i → ∃ oj, ops[j]? = some oj ∧ indep P ops (wk j) (wk i) oj oi = true) : Compl P ops wk (S1 ++ S2) (Front P ops wk i oi F) := by
  intro ρ h1 h2
  have md := mem_drop1 hnd
  have fin : ∀ x ∈ S1 ++ i :: S2, x ≠ i → x ∈ S1 ++ S2 := fun x hx hne => (md x).2 ⟨hx, hne⟩
  obtain ⟨f, hf, hp⟩ := c (fun x => if x = i then 0 else ρ x + 1) (fun x hx y hy hne => by
    by_cases hxi : x = i <;> by_cases hyi : y = i
    · exact absurd (hxi.trans hyi.symm) hne
    · simp [hxi, hyi]
    · simp [hxi, hyi]
    · have := h1 x (fin x hx hxi) y (fin y hy hyi) hne
      simp [hxi, hyi]; exact this) (fun x hx y hy hp => by
    have hyi : y ≠ i := fun e => hfree x hx (e ▸ hp)
    by_cases hxi : x = i
    · simp [hxi, hyi]
    · have := h2 x (fin x hx hxi) y (fin y hy hyi) hp
      simp [hxi, hyi]; exact this)
  obtain ⟨fn, fm⟩ := hF f hf
  obtain ⟨p, q, rfl⟩ := List.append_of_mem ((fm i).2 (by simp))
  have hin : AllIndep P ops wk i oi p := fun j hj => by
    refine ind j ((fm j).1 (by simp [hj])) ?_
    rcases (List.pairwise_append.1 hp).2.2 j hj i (by simp) with h | h
    · exact h
    · simp at h
  refine ⟨p ++ q, ⟨p, q, hf, rfl, hin⟩, ?_⟩
  · have hsub : (p ++ q).Sublist (p ++ i :: q) := List.Sublist.append (List.Sublist.refl _) (List.sublist_cons_self _ _)
    refine List.Pairwise.imp_of_mem ?_ (hp.sublist hsub)
    intro x y hx hy hxy
    have e1 := ((mem_drop1 fn x).1 hx).2
    have e2 := ((mem_drop1 fn y).1 hy).2
    simp only [e1, e2, if_false] at hxy
    exact hxy.imp id fun h => by omega

theorem fam_nil (hedge : ∀ i o e, ops[i]? = some o → e ∈ o.after → Region.binds .any e = true → e.on < i) {fuel : Nat} {r0 r2 : List Nat} {F : List Nat → Prop} {listed : Array Bool} {φ : Inj} {tm : List Value} {h : Hp} {ac : Act} {w : World} (hlen : (r0 ++ r2).length ≤ fuel) (hnd : (r0 ++ r2).Nodup)
    (hF : ∀ f, F f → f.Nodup ∧ ∀ x, x ∈ f ↔ x ∈ ([] : List Nat)) (c : Compl P ops wk [] F) (hp : (r0 ++ r2).Pairwise (PairOK P ops wk)) (hsz : listed.size = ops.size) (hmem : ∀ i, i ∈ r0 ++ r2 ↔ i < ops.size ∧ listed.getD i false = false) (hshut : Shut ops listed)
    (k : aops P ops wk r0 tm h (fun tm h => ∀ f, F f → aops P ops wk (f ++ r2) tm h K)) (R : RelSt P B w0 φ tm h ac w)
    (hQ : ∀ φ' tm' h' a' w', RelSt P B w0 φ' tm' h' a' w' → φ <+: φ' → K tm' h' → Q .normal a' w') : wpAny P .any ops Q fuel listed ac w := by
  obtain ⟨f, hf⟩ := Compl.exi hedge c
  have : f = [] := List.eq_nil_iff_forall_not_mem.2 fun x hx => by have := ((hF f hf).2 x).1 hx; simp at this
  subst this
  exact any_soundP hedge fuel (r0 ++ r2) listed hlen hnd hp hsz hmem hshut (aops_append r0 r2 tm h (aops_mono (fun _ _ hh => hh [] hf) r0 tm h k)) R hQ

theorem fam_A (hedge : ∀ i o e, ops[i]? = some o → e ∈ o.after → Region.binds .any e = true → e.on < i) :
    ∀ (fuel : Nat) (r0 S r2 : List Nat) (F : List Nat → Prop) (listed : Array Bool) {φ : Inj} {tm : List Value} {h : Hp} {ac : Act} {w : World}, (r0 ++ S ++ r2).length ≤ fuel → (r0 ++ S ++ r2).Nodup → (∀ f, F f → f.Nodup ∧ ∀ x, x ∈ f ↔ x ∈ S) → Compl P ops wk S F →
      (r0 ++ r2).Pairwise (PairOK P ops wk) → (∀ j ∈ r0, ∀ i ∈ S, PairOK P ops wk j i) → (∀ j ∈ S, ∀ i ∈ r2, PairOK P ops wk j i) →
      (∀ i ∈ S, ∀ oi, ops[i]? = some oi → calm P oi = false → plainB oi = true ∧ ∀ j ∈ r0, Pre ops j i) → (∀ i ∈ r2, ∀ oi, ops[i]? = some oi → calm P oi = false → ∀ j ∈ S, Pre ops j i) →
      listed.size = ops.size → (∀ i, i ∈ r0 ++ S ++ r2 ↔ i < ops.size ∧ listed.getD i false = false) → Shut ops listed →
      aops P ops wk r0 tm h (fun tm h => ∀ f, F f → aops P ops wk (f ++ r2) tm h K) → RelSt P B w0 φ tm h ac w →
      (∀ φ' tm' h' a' w', RelSt P B w0 φ' tm' h' a' w' → φ <+: φ' → K tm' h' → Q .normal a' w') → wpAny P .any ops Q fuel listed ac w := by
  intro fuel
  induction fuel with
  | zero =>
    intro r0 S r2 F listed φ tm h ac w hlen hnd hF c hp _ _ _ _ hsz hmem hshut k R hQ
    have hn : r0 ++ S ++ r2 = [] := List.eq_nil_of_length_eq_zero (by omega)
    have hS : S = [] := (List.append_eq_nil_iff.1 (List.append_eq_nil_iff.1 hn).1).2
    subst hS
    simp only [List.append_nil] at hlen hnd hmem
    exact fam_nil hedge hlen hnd hF c hp hsz hmem hshut k R hQ
  | succ fuel ih =>
    intro r0 S r2 F listed φ tm h ac w hlen hnd hF c hp h0S hS2 hbS hb2 hsz hmem hshut k R hQ
    by_cases hS : S = []
    · subst hS
      simp only [List.append_nil] at hlen hnd hmem
      exact fam_nil hedge hlen hnd hF c hp hsz hmem hshut k R hQ
    refine ⟨fun hr0 => ?_, fun i hi => ?_⟩
    · have := some_first hedge hsz hmem hr0
      exact absurd (List.append_eq_nil_iff.1 (List.append_eq_nil_iff.1 this).1).2 hS
    obtain ⟨g0, oi, hoi, hafter⟩ := mem_ready.1 hi
    have hlt := (Array.getElem?_eq_some_iff.1 hoi).1
    have g0' : listed.getD i false = false := by simpa [Array.getD_eq_getD_getElem?, Array.getElem?_eq_getElem (hsz ▸ hlt)] using g0
    have ht : Told P tm h := ⟨_, _, _, _, _, R⟩
    have open_ : ∀ j, j ∈ r0 ++ S ++ r2 → listed.getD j false = false := fun j hj => ((hmem j).1 hj).2
    have free : ∀ j, j ∈ r0 ++ S ++ r2 → ¬ Pre ops j i := fun j hj hp => by
      have := pre_listed hshut hp (.inr hi)
      rw [open_ j hj] at this
      cases this
    have ind : ∀ j, j ∈ r0 ++ S ++ r2 → PairOK P ops wk j i → ∃ oj, ops[j]? = some oj ∧ indep P ops (wk j) (wk i) oj oi = true := fun j hj hp => by
      rcases hp with hp | ⟨oj, oi', q1, q2, q3⟩
      · exact absurd hp (free j hj)
      · rw [hoi] at q2
        injection q2 with q2
        subst q2
        exact ⟨oj, q1, q3⟩
    have hp' := List.pairwise_append.1 hp
    obtain ⟨f1, hf1⟩ := Compl.exi hedge c
    have hmi := (hmem i).2 ⟨hlt, g0'⟩
    rcases List.mem_append.1 hmi with hi01 | hi2
    rcases List.mem_append.1 hi01 with hi0 | hiS
    · -- one of the first ones
      obtain ⟨p, q, rfl⟩ := List.append_of_mem hi0
      have hind : AllIndep P ops wk i oi p := fun j hj => by
        refine ind j (by simp [hj]) ?_
        exact (List.pairwise_append.1 hp'.1).2.2 j hj i (by simp)
      refine wpOp_mono ?_ (astep_sound hoi (step_front hoi ht hind k) R Q)
      rintro a' w' ⟨φ', tm', h', p1, p2, p3⟩
      have hsub : (p ++ q).Sublist (p ++ i :: q) := List.Sublist.append (List.Sublist.refl _) (List.sublist_cons_self _ _)
      have hsub2 : (p ++ q ++ S ++ r2).Sublist (p ++ i :: q ++ S ++ r2) := (hsub.append (List.Sublist.refl _)).append (List.Sublist.refl _)
      have hnd' : (p ++ i :: (q ++ S ++ r2)).Nodup := by simpa using hnd
      refine ih (p ++ q) S r2 F (listed.setIfInBounds i true) (by simp at hlen ⊢; omega) (hnd.sublist hsub2) hF c (hp.sublist (hsub.append (List.Sublist.refl _))) (fun j hj => h0S j (hsub.subset hj)) hS2 (fun x hx ox hox hc => ⟨(hbS x hx ox hox hc).1, fun j hj => (hbS x hx ox hox hc).2 j (hsub.subset hj)⟩) hb2 (by simpa using hsz) ?_ (shut_step hshut hoi hafter) p3 p2 fun φ2 tm2 h2 a2 w2 q1 q2 q3 => hQ φ2 tm2 h2 a2 w2 q1 (p1.trans q2) q3
      refine listed_step (r := p ++ i :: q ++ S ++ r2) hsz hlt hmem fun x => ?_
      have := mem_drop1 hnd' x
      simpa using this
    · -- one of the family's
      obtain ⟨S1, S2, rfl⟩ := List.append_of_mem hiS
      have hndS : (S1 ++ i :: S2).Nodup := (List.nodup_append.1 (List.nodup_append.1 hnd).1).2.1
      have cF := Compl.step (F := F) c hF hndS (fun j hj => free j (by simp at hj ⊢; rcases hj with h | h | h <;> simp [h])) (fun j hj => ind j (by simp at hj ⊢; rcases hj with h | h | h <;> simp [h]))
      have hsub : (S1 ++ S2).Sublist (S1 ++ i :: S2) := List.Sublist.append (List.Sublist.refl _) (List.sublist_cons_self _ _)
      have hsub2 : (r0 ++ (S1 ++ S2) ++ r2).Sublist (r0 ++ (S1 ++ i :: S2) ++ r2) := ((List.Sublist.refl _).append hsub).append (List.Sublist.refl _)
      have hF' : ∀ g, Front P ops wk i oi F g → g.Nodup ∧ ∀ x, x ∈ g ↔ x ∈ S1 ++ S2 := by
        rintro g ⟨p, q, hf, rfl, _⟩
        obtain ⟨fn, fm⟩ := hF _ hf
        exact ⟨fn.sublist (List.Sublist.append (List.Sublist.refl _) (List.sublist_cons_self _ _)), fun x => by rw [mem_drop1 fn x, mem_drop1 hndS x, fm x]⟩
      have step : astep P ops (wk i) oi tm h fun tm1 h1 => aops P ops wk r0 tm1 h1 (fun tm h => ∀ g, Front P ops wk i oi F g → aops P ops wk (g ++ r2) tm h K) := by
        cases hc : calm P oi with
        | true =>
          obtain ⟨g1, p1, q1, hf, rfl, hin1⟩ := Compl.exi hedge cF
          have hin0 : AllIndep P ops wk i oi r0 := fun j hj => ind j (by simp [hj]) (h0S j hj i (by simp))
          have hin01 : AllIndep P ops wk i oi (r0 ++ p1) := fun j hj => by
            rcases List.mem_append.1 hj with h | h
            · exact hin0 j h
            · exact hin1 j h
          have k1 : aops P ops wk ((r0 ++ p1) ++ i :: (q1 ++ r2)) tm h K := by
            have := aops_append r0 (p1 ++ i :: q1 ++ r2) tm h (aops_mono (fun _ _ hh => hh _ hf) r0 tm h k)
            simpa using this
          obtain ⟨v, hv⟩ := calm_some hoi hc ht.va (r0 ++ p1) tm h hin01 (Inv.refl oi) ht k1
          refine (astep_calm hc _).2 ⟨v, hv, ?_⟩
          refine early_fork hoi hc (fun tm' h' I kk => ?_) r0 tm h hin0 (Inv.refl oi) k
          rintro g ⟨p, q, hf, rfl, hin⟩
          have k3 : aops P ops wk (p ++ i :: (q ++ r2)) tm' h' K := by simpa using kk _ hf
          have := early_calm hoi hc ht.va hv p tm' h' hin I k3
          simpa using this
        | false =>
          obtain ⟨hpl, hpre⟩ := hbS i hiS oi hoi hc
          have hr0 : r0 = [] := by
            cases r0 with
            | nil => rfl
            | cons j r0 => exact absurd (hpre j (by simp)) (free j (by simp))
          subst hr0
          unfold aops at k
          obtain ⟨g1, p1, q1, hf, _, hin1⟩ := Compl.exi hedge cF
          have key := astep_all (K := fun (x : {x : List Nat × List Nat // F (x.1 ++ i :: x.2) ∧ AllIndep P ops wk i oi x.1}) tm1 h1 => aops P ops wk (x.1.1 ++ (x.1.2 ++ r2)) tm1 h1 K) (tm := tm) (h := h) (wk := wk i) (ops := ops) (P := P) hpl ⟨(p1, q1), hf, hin1⟩ fun x => by
            have k3 : aops P ops wk (x.1.1 ++ i :: (x.1.2 ++ r2)) tm h K := by simpa using k _ x.2.1
            exact step_front hoi ht x.2.2 k3
          refine astep_out (fun v h' _ hh => ?_) key
          unfold aops
          rintro g ⟨p, q, hf, rfl, hin⟩
          simpa using hh ⟨(p, q), hf, hin⟩
      refine wpOp_mono ?_ (astep_sound hoi step R Q)
      rintro a' w' ⟨φ', tm', h', p1, p2, p3⟩
      have hnd' : ((r0 ++ S1) ++ i :: (S2 ++ r2)).Nodup := by simpa using hnd
      refine ih r0 (S1 ++ S2) r2 _ (listed.setIfInBounds i true) (by simp at hlen ⊢; omega) (hnd.sublist hsub2) hF' cF hp (fun j hj x hx => h0S j hj x (hsub.subset hx)) (fun j hj => hS2 j (hsub.subset hj)) (fun x hx => hbS x (hsub.subset hx)) (fun x hx ox hox hc j hj => hb2 x hx ox hox hc j (hsub.subset hj)) (by simpa using hsz) ?_ (shut_step hshut hoi hafter) p3 p2 fun φ2 tm2 h2 a2 w2 q1 q2 q3 => hQ φ2 tm2 h2 a2 w2 q1 (p1.trans q2) q3
      refine listed_step (r := r0 ++ (S1 ++ i :: S2) ++ r2) hsz hlt hmem fun x => ?_
      have := mem_drop1 hnd' x
      simpa using this
    · -- one of the last ones
      have hc : calm P oi = true := by
        cases hcc : calm P oi with
        | true => rfl
        | false =>
          obtain ⟨j, hj⟩ := List.exists_mem_of_ne_nil S hS
          exact absurd (hb2 i hi2 oi hoi hcc j hj) (free j (by simp [hj]))
      obtain ⟨p, q, rfl⟩ := List.append_of_mem hi2
      have hin0 : AllIndep P ops wk i oi r0 := fun j hj => ind j (by simp [hj]) (hp'.2.2 j hj i (by simp))
      have hinS : ∀ f, F f → AllIndep P ops wk i oi f := fun f hf j hj => by
        have := ((hF f hf).2 j).1 hj
        exact ind j (by simp [this]) (hS2 j this i (by simp))
      have hinp : AllIndep P ops wk i oi p := fun j hj => ind j (by simp [hj]) ((List.pairwise_append.1 hp'.2.1).2.2 j hj i (by simp))
      have hfp : ∀ f, F f → AllIndep P ops wk i oi (f ++ p) := fun f hf j hj => by
        rcases List.mem_append.1 hj with h | h
        · exact hinS f hf j h
        · exact hinp j h
      have k1 : aops P ops wk ((r0 ++ (f1 ++ p)) ++ i :: q) tm h K := by
        have := aops_append r0 (f1 ++ (p ++ i :: q)) tm h (aops_mono (fun _ _ hh => hh _ hf1) r0 tm h k)
        simpa using this
      obtain ⟨v, hv⟩ := calm_some hoi hc ht.va (r0 ++ (f1 ++ p)) tm h (fun j hj => by
        rcases List.mem_append.1 hj with h | h
        · exact hin0 j h
        · exact hfp f1 hf1 j h) (Inv.refl oi) ht k1
      have step : astep P ops (wk i) oi tm h fun tm1 h1 => aops P ops wk r0 tm1 h1 (fun tm h => ∀ f, F f → aops P ops wk (f ++ (p ++ q)) tm h K) := by
        refine (astep_calm hc _).2 ⟨v, hv, ?_⟩
        refine early_fork hoi hc (fun tm' h' I kk => fun f hf => ?_) r0 tm h hin0 (Inv.refl oi) k
        have k3 : aops P ops wk ((f ++ p) ++ i :: q) tm' h' K := by simpa using kk f hf
        have := early_calm hoi hc ht.va hv (f ++ p) tm' h' (hfp f hf) I k3
        simpa using this
      refine wpOp_mono ?_ (astep_sound hoi step R Q)
      rintro a' w' ⟨φ', tm', h', p1, p2, p3⟩
      have hsub : (p ++ q).Sublist (p ++ i :: q) := List.Sublist.append (List.Sublist.refl _) (List.sublist_cons_self _ _)
      have hsub2 : (r0 ++ S ++ (p ++ q)).Sublist (r0 ++ S ++ (p ++ i :: q)) := (List.Sublist.refl _).append hsub
      have hnd' : ((r0 ++ S ++ p) ++ i :: q).Nodup := by simpa using hnd
      refine ih r0 S (p ++ q) F (listed.setIfInBounds i true) (by simp at hlen ⊢; omega) (hnd.sublist hsub2) hF c (hp.sublist ((List.Sublist.refl _).append hsub)) h0S (fun j hj x hx => hS2 j hj x (hsub.subset hx)) hbS (fun x hx => hb2 x (hsub.subset hx)) (by simpa using hsz) ?_ (shut_step hshut hoi hafter) p3 p2 fun φ2 tm2 h2 a2 w2 q1 q2 q3 => hQ φ2 tm2 h2 a2 w2 q1 (p1.trans q2) q3
      refine listed_step (r := r0 ++ S ++ (p ++ i :: q)) hsz hlt hmem fun x => ?_
      have := mem_drop1 hnd' x
      simpa using this
end
/-! ### The check -/
section
variable {P : Program} {ops : Array Oper}
/-- Pairs of a list, each told by a fact on the two. -/
def pairsAll (c : Nat → Nat → Bool) : List Nat → Bool
  | [] => true
  | j :: r => r.all (c j) && pairsAll c r
theorem pairsAll_spec {c : Nat → Nat → Bool} {R : Nat → Nat → Prop} (hc : ∀ x y, c x y = true → R x y) : ∀ {r : List Nat}, pairsAll c r = true → r.Pairwise R
  | [], _ => List.Pairwise.nil
  | j :: r, h => by
    simp only [pairsAll, Bool.and_eq_true] at h
    exact List.pairwise_cons.2 ⟨fun i hi => hc j i (List.all_eq_true.1 h.1 i hi), pairsAll_spec hc h.2⟩
/-- Two things that cannot both hold. -/
def badA (bf : List Nat) (A : List (Nat × Nat)) : Bool := A.any fun a => A.any fun b => (a.2 == b.1 || (bf.getD b.1 0).testBit a.2) && (b.2 == a.1 || (bf.getD a.1 0).testBit b.2)
/-- Each way to decide the pairs cs is met. -/
def complB (P : Program) (ops : Array Oper) (wk : Nat → Bool) (bf : List Nat) (F : List (List Nat)) : List (Nat × Nat) → List (Nat × Nat) → Bool
  | [], A => badA bf A || F.any fun f => pairsAll (fun x y => A.contains (x, y) || pairB P ops wk bf x y) f
  | (x, y) :: cs, A => badA bf A || (complB P ops wk bf F cs ((x, y) :: A) && complB P ops wk bf F cs ((y, x) :: A))
theorem complB_spec {wk : Nat → Bool} {F : List (List Nat)} {S : List Nat} {ρ : Nat → Nat} (h1 : ∀ x ∈ S, ∀ y ∈ S, x ≠ y → ρ x ≠ ρ y) (h2 : ∀ x ∈ S, ∀ y ∈ S, Pre ops x y → ρ x < ρ y) :
    ∀ (cs A : List (Nat × Nat)), (∀ c ∈ cs, c.1 ∈ S ∧ c.2 ∈ S ∧ c.1 ≠ c.2) → (∀ a ∈ A, a.1 ∈ S ∧ a.2 ∈ S ∧ ρ a.1 < ρ a.2) → complB P ops wk (befs ops.toList []) F cs A = true → ∃ f, f ∈ F ∧ f.Pairwise (fun x y => PairOK P ops wk x y ∨ ρ x < ρ y) := by
  have nobad : ∀ A : List (Nat × Nat), (∀ a ∈ A, a.1 ∈ S ∧ a.2 ∈ S ∧ ρ a.1 < ρ a.2) → badA (befs ops.toList []) A = false := by
    intro A hA
    cases hb : badA (befs ops.toList []) A with
    | false => rfl
    | true =>
      exfalso
      unfold badA at hb
      obtain ⟨a, ha, hb⟩ := List.any_eq_true.1 hb
      obtain ⟨b, hb1, hb⟩ := List.any_eq_true.1 hb
      simp only [Bool.and_eq_true, Bool.or_eq_true, beq_iff_eq] at hb
      obtain ⟨a1, a2, a3⟩ := hA a ha
      obtain ⟨b1, b2, b3⟩ := hA b hb1
      have l1 : ρ a.2 ≤ ρ b.1 := by
        rcases hb.1 with h | h
        · rw [h]; exact Nat.le_refl _
        · exact Nat.le_of_lt (h2 _ a2 _ b1 (pre_bit h))
      have l2 : ρ b.2 ≤ ρ a.1 := by
        rcases hb.2 with h | h
        · rw [h]; exact Nat.le_refl _
        · exact Nat.le_of_lt (h2 _ b2 _ a1 (pre_bit h))
      omega
  intro cs
  induction cs with
  | nil =>
    intro A _ hA h
    unfold complB at h
    rw [nobad A hA, Bool.false_or] at h
    obtain ⟨f, hf, h⟩ := List.any_eq_true.1 h
    refine ⟨f, hf, pairsAll_spec (fun x y hxy => ?_) h⟩
    rw [Bool.or_eq_true] at hxy
    rcases hxy with h | h
    · exact .inr (hA _ (List.contains_iff_mem.1 h)).2.2
    · exact .inl (pairB_spec h)
  | cons c cs ih =>
    obtain ⟨x, y⟩ := c
    intro A hc hA h
    unfold complB at h
    rw [nobad A hA, Bool.false_or, Bool.and_eq_true] at h
    obtain ⟨hx, hy, hne⟩ := hc (x, y) (by simp)
    have hc' : ∀ c ∈ cs, c.1 ∈ S ∧ c.2 ∈ S ∧ c.1 ≠ c.2 := fun c hm => hc c (by simp [hm])
    rcases Nat.lt_or_gt_of_ne (h1 x hx y hy hne) with hlt | hlt
    · exact ih ((x, y) :: A) hc' (fun a ha => by
        rcases List.mem_cons.1 ha with rfl | ha
        · exact ⟨hx, hy, hlt⟩
        · exact hA a ha) h.1
    · exact ih ((y, x) :: A) hc' (fun a ha => by
        rcases List.mem_cons.1 ha with rfl | ha
        · exact ⟨hy, hx, hlt⟩
        · exact hA a ha) h.2
/-- The pairs of a list that may stand in either order and may not change places. -/
def confs (P : Program) (ops : Array Oper) (wk : Nat → Bool) (bf : List Nat) : List Nat → List (Nat × Nat)
  | [] => []
  | x :: r => (r.filter fun y => !(indepB P ops wk x y || (bf.getD y 0).testBit x || (bf.getD x 0).testBit y)).map (fun y => (x, y)) ++ confs P ops wk bf r
theorem confs_mem {wk : Nat → Bool} {bf : List Nat} : ∀ {r : List Nat} {c : Nat × Nat}, c ∈ confs P ops wk bf r → r.Nodup → c.1 ∈ r ∧ c.2 ∈ r ∧ c.1 ≠ c.2
  | [], c, h, _ => by simp [confs] at h
  | x :: r, c, h, hn => by
    simp only [confs, List.mem_append, List.mem_map, List.mem_filter] at h
    rcases h with ⟨y, ⟨hy, _⟩, rfl⟩ | h
    · exact ⟨by simp, by simp [hy], fun e => (List.nodup_cons.1 hn).1 (by simp only at e; rw [e]; exact hy)⟩
    · obtain ⟨a, b, d⟩ := confs_mem h (List.nodup_cons.1 hn).2
      exact ⟨by simp [a], by simp [b], d⟩
def famOK (P : Program) (ops : Array Oper) (wk : Nat → Bool) (r0 S : List Nat) (F : List (List Nat)) (r2 : List Nat) : Bool :=
  let bf := befs ops.toList []
  decide ((r0 ++ S ++ r2).Nodup ∧ (r0 ++ S ++ r2).length ≤ ops.size) && (r0 ++ S ++ r2).all (fun i => decide (i < ops.size)) && (List.range ops.size).all (fun i => (r0 ++ S ++ r2).contains i) &&
    F.all (fun f => decide f.Nodup && f.all (fun i => S.contains i) && S.all (fun i => f.contains i)) && complB P ops wk bf F (confs P ops wk bf S) [] && pairsB P ops wk bf (r0 ++ r2) &&
    r0.all (fun j => S.all fun i => pairB P ops wk bf j i) && S.all (fun j => r2.all fun i => pairB P ops wk bf j i) &&
    S.all (fun i => match ops[i]? with | some oi => calm P oi || (plainB oi && r0.all fun j => (bf.getD i 0).testBit j) | none => true) && r2.all (fun i => match ops[i]? with | some oi => calm P oi || S.all fun j => (bf.getD i 0).testBit j | none => true)
theorem fam_sound {wk : Nat → Bool} {r0 S : List Nat} {F : List (List Nat)} {r2 : List Nat} {Q : Exit → Act → World → Prop} {K : List Value → Hp → Prop} {B : Bd} {w0 w : World} {φ : Inj} {tm : List Value} {h : Hp} {ac : Act}
    (hedge : ∀ i o e, ops[i]? = some o → e ∈ o.after → Region.binds .any e = true → e.on < i) (hok : famOK P ops wk r0 S F r2 = true)
    (k : aops P ops wk r0 tm h (fun tm h => ∀ f, f ∈ F → aops P ops wk (f ++ r2) tm h K)) (R : RelSt P B w0 φ tm h ac w)
    (hQ : ∀ φ' tm' h' a' w', RelSt P B w0 φ' tm' h' a' w' → φ <+: φ' → K tm' h' → Q .normal a' w') : wpAny P .any ops Q ops.size (Array.replicate ops.size false) ac w := by
  unfold famOK at hok
  simp only [Bool.and_eq_true, decide_eq_true_eq] at hok
  obtain ⟨⟨⟨⟨⟨⟨⟨⟨⟨⟨hnd, hlen⟩, hlt⟩, hin⟩, hF⟩, hcm⟩, hp⟩, h0S⟩, hS2⟩, hbS⟩, hb2⟩ := hok
  have hmem : ∀ i, i ∈ r0 ++ S ++ r2 ↔ i < ops.size := fun i => ⟨fun hi => by simpa using List.all_eq_true.1 hlt i hi, fun hi => by
    have := List.all_eq_true.1 hin i (by simpa using hi)
    exact List.contains_iff_mem.1 this⟩
  have hndS : S.Nodup := (List.nodup_append.1 (List.nodup_append.1 hnd).1).2.1
  refine fam_A hedge ops.size r0 S r2 (fun f => f ∈ F) _ hlen hnd (fun f hf => ?_) (fun ρ h1 h2 => complB_spec h1 h2 _ [] (fun c hc => confs_mem hc hndS) (fun a ha => by simp at ha) hcm) (pairsB_spec hp) (fun j hj i hi => pairB_spec (List.all_eq_true.1 (List.all_eq_true.1 h0S j hj) i hi)) (fun j hj i hi => pairB_spec (List.all_eq_true.1 (List.all_eq_true.1 hS2 j hj) i hi))
    (fun i hi oi hoi hc => ?_) (fun i hi oi hoi hc j hj => ?_) (by simp) (fun i => ?_) ?_ k R hQ
  · have := List.all_eq_true.1 hF f hf
    simp only [Bool.and_eq_true, decide_eq_true_eq] at this
    obtain ⟨⟨a, b⟩, d⟩ := this
    exact ⟨a, fun x => ⟨fun hx => List.contains_iff_mem.1 (List.all_eq_true.1 b x hx), fun hx => List.contains_iff_mem.1 (List.all_eq_true.1 d x hx)⟩⟩
  · have := List.all_eq_true.1 hbS i hi
    simp only [hoi, hc, Bool.false_or, Bool.and_eq_true] at this
    exact ⟨this.1, fun j hj => pre_bit (List.all_eq_true.1 this.2 j hj)⟩
  · have := List.all_eq_true.1 hb2 i hi
    simp only [hoi, hc, Bool.false_or] at this
    exact pre_bit (List.all_eq_true.1 this j hj)
  · rw [hmem i]
    simp [Array.getD_eq_getD_getElem?, Array.getElem?_replicate]
    intro hi
    simp [hi]
  · intro i o e hi hl _ _
    rw [Array.getD_eq_getD_getElem?, Array.getElem?_replicate] at hl
    split at hl <;> simp at hl
end
end Go.Proofs.YtgfilbekfkhjjaaGreat.Hz
/- The calculus over code. -/
namespace Go.Proofs.YtgfilbekfkhjjaaGreat.Hz
open Go.RowKit
set_option linter.unusedVariables false
set_option linter.unusedSimpArgs false

abbrev Post := Exit → List Value → Hp → Prop
section
variable (P : Program)

/-- The operations of a region, in the text's order. -/
def aopsL (ops : Array Oper) (wk : Bool) : List Oper → List Value → Hp → (List Value → Hp → Prop) → Prop
  | [], tm, h, K => K tm h
  | o :: os, tm, h, K => astep P ops wk o tm h fun tm h => aopsL ops wk os tm h K

/-- Each list of operations, from the same state. -/
def famAll (ops : Array Oper) (wk : Bool) : List (List Oper) → List Value → Hp → (List Value → Hp → Prop) → Prop
  | [], tm, h, K => True
  | g :: gs, tm, h, K => aopsL P ops wk g tm h K ∧ famAll ops wk gs tm h K

def edgesOK (ops : Array Oper) : Bool := (List.range ops.size).all fun i => match ops[i]? with | some o => o.after.toList.all fun e => !Region.binds .any e || decide (e.on < i) | none => true
/-- A region that draws its order. -/
def ADraw (ops : Array Oper) (tm : List Value) (h : Hp) (K : List Value → Hp → Prop) : Prop :=
  (∃ wk : Bool, (edgesOK ops && regOK P ops (fun _ => wk)) = true ∧ aopsL P ops wk ops.toList tm h K) ∨
  (∃ (wk wk2 : Bool) (s : Nat) (os : Oper) (r1 r2 : List Nat) (l1 l2 : List Oper), ops[s]? = some os ∧ r1.filterMap (ops[·]?) = l1 ∧ r2.filterMap (ops[·]?) = l2 ∧ (edgesOK ops && lateOK P ops (fun i => if r2.contains i then wk2 else wk) s r1 r2) = true ∧ aopsL P ops wk l1 tm h fun tm h => astepS P os tm h fun tm h => aopsL P ops wk2 l2 tm h K) ∨
  ∃ (wk : Bool) (r0 f : List Nat) (F : List (List Nat)) (r2 : List Nat) (l0 : List Oper) (lF : List (List Oper)) (l2 : List Oper), r0.filterMap (ops[·]?) = l0 ∧ (f :: F).map (fun g => g.filterMap (ops[·]?)) = lF ∧ r2.filterMap (ops[·]?) = l2 ∧ (edgesOK ops && famOK P ops (fun _ => wk) r0 f (f :: F) r2) = true ∧ aopsL P ops wk l0 tm h fun tm h => famAll P ops wk lF tm h fun tm h => aopsL P ops wk l2 tm h K

/-- What a piece of code comes to, on the plain heap. -/
def AWp (c : Code) (Q : Post) (tm : List Value) (h : Hp) : Prop :=
  ∀ (B : Bd) (w0 : World) (φ : Inj) (a : Act) (w : World), RelSt P B w0 φ tm h a w →
    c.wp P (fun e a' w' => ∃ φ' tm' h', φ <+: φ' ∧ RelSt P B w0 φ' tm' h' a' w' ∧ Q e tm' h') a w
def ALoop (c : Code) (Q : Post) (tm : List Value) (h : Hp) : Prop := AWp P (.loop c) Q tm h

def seqQ (next : List Value → Hp → Prop) (Q : Post) : Post
  | .normal, tm, h => next tm h
  | e, tm, h => Q e tm h
def blockQ (id : Nat) (Q : Post) : Post
  | .exit i, tm, h => if i = id then Q .normal tm h else Q (.exit i) tm h
  | e, tm, h => Q e tm h
def acond (v : Value) (A B : Prop) : Prop :=
  match v with
  | .bool b => asplit b A B
  | _ => False

def awp : Code → Post → List Value → Hp → Prop
  | .skip, Q, tm, h => Q .normal tm h
  | .region _ ops false, Q, tm, h => aopsL P ops false ops.toList tm h (fun tm h => Q .normal tm h)
  | .region _ ops true, Q, tm, h => ADraw P ops tm h (fun tm h => Q .normal tm h)
  | .seq x y, Q, tm, h => awp x (seqQ (fun tm h => awp y Q tm h) Q) tm h
  | .cond c x y, Q, tm, h => acond (ev tm c) (awp x Q tm h) (awp y Q tm h)
  | .block id c, Q, tm, h => awp c (blockQ id Q) tm h
  | .loop c, Q, tm, h => ALoop P c Q tm h
  | .exit id, Q, tm, h => Q (.exit id) tm h
  | .ret, Q, tm, h => Q .ret tm h
  | _, _, _, _ => False
end

section
variable {P : Program} {ops : Array Oper} {tm : List Value} {h : Hp}

theorem aopsL_aops {wk : Bool} {K : List Value → Hp → Prop} : ∀ (os : List Oper) (i : Nat) (tm : List Value) (h : Hp), ops.toList.drop i = os → aopsL P ops wk os tm h K → aops P ops (fun _ => wk) (List.range' i os.length) tm h K
  | [], i, tm, h, _, k => k
  | o :: os, i, tm, h, hd, k => by
    have ho : ops[i]? = some o := by
      have := congrArg (fun l => l[0]?) hd
      simpa using this
    have hd' : ops.toList.drop (i + 1) = os := by
      have := congrArg (List.drop 1) hd
      simpa [List.drop_drop, Nat.add_comm] using this
    simp only [List.length_cons, List.range'_succ]
    unfold aops
    simp only [ho]
    unfold aopsL at k
    exact astep_out (fun v h' _ hk => aopsL_aops os (i + 1) _ h' hd' hk) k
theorem aopsL_range {wk : Bool} {K : List Value → Hp → Prop} (k : aopsL P ops wk ops.toList tm h K) : aops P ops (fun _ => wk) (List.range ops.size) tm h K := by
  have := aopsL_aops ops.toList 0 tm h rfl k
  rw [List.range_eq_range']
  simpa using this

theorem region_sound {id : Nat} {Q : Post} (k : aopsL P ops false ops.toList tm h (fun tm h => Q .normal tm h)) : AWp P (.region id ops false) Q tm h := by
  intro B w0 φ a w R
  refine wp_region (aops_sound _ (aopsL_range k) R ?_)
  exact fun φ' tm' h' a' w' p1 p2 p3 => ⟨φ', tm', h', p1, p2, p3⟩
theorem aopsL_of {wk : Bool} {wf : Nat → Bool} {K K' : List Value → Hp → Prop} (hk : ∀ tm h, K tm h → K' tm h) : ∀ (r : List Nat) (tm : List Value) (h : Hp), (∀ i ∈ r, wf i = wk) → aopsL P ops wk (r.filterMap (ops[·]?)) tm h K → aops P ops wf r tm h K'
  | [], tm, h, _, k => hk _ _ k
  | i :: r, tm, h, hw, k => by
    unfold aops
    cases hi : ops[i]? with
    | none => simp only [List.filterMap_cons, hi] at k ⊢; exact aopsL_of hk r tm h (fun j hj => hw j (by simp [hj])) k
    | some o =>
      simp only [List.filterMap_cons, hi] at k ⊢
      unfold aopsL at k
      rw [hw i (by simp)]
      exact astep_out (fun v h' _ hh => aopsL_of hk r _ h' (fun j hj => hw j (by simp [hj])) hh) k
theorem famAll_of {wk : Bool} {l2 : List Nat} {tm : List Value} {h : Hp} {K : List Value → Hp → Prop} : ∀ (F : List (List Nat)), famAll P ops wk (F.map fun g => g.filterMap (ops[·]?)) tm h (fun tm h => aopsL P ops wk (l2.filterMap (ops[·]?)) tm h K) → ∀ g, g ∈ F → aops P ops (fun _ => wk) (g ++ l2) tm h K
  | [], _, g, hg => by simp at hg
  | f :: F, k, g, hg => by
    simp only [List.map_cons, famAll] at k
    rcases List.mem_cons.1 hg with rfl | hg
    · exact aops_append g l2 tm h (aopsL_of (fun tm h kk => aopsL_of (fun _ _ z => z) l2 tm h (fun _ _ => rfl) kk) g tm h (fun _ _ => rfl) k.1)
    · exact famAll_of F k.2 g hg
theorem draw_sound (hm : P.follows .mixedOrders = true) {id : Nat} {Q : Post} (k : ADraw P ops tm h (fun tm h => Q .normal tm h)) : AWp P (.region id ops true) Q tm h := by
  have edges : edgesOK ops = true → ∀ i o e, ops[i]? = some o → e ∈ o.after → Region.binds .any e = true → e.on < i := by
    intro hok i o e hi he hb
    have hin : i < ops.size := (Array.getElem?_eq_some_iff.1 hi).1
    have h1 := List.all_eq_true.1 hok i (by simpa using hin)
    simp only [hi] at h1
    have h2 := List.all_eq_true.1 h1 e (by simpa using he)
    simpa [hb] using h2
  intro B w0 φ a w R
  have R' : RelSt P B w0 φ tm h a { w with drawn := w.drawn + 1 } := ⟨R.tm, R.df, R.hp.drew _⟩
  rcases k with ⟨wk, hok, k⟩ | ⟨wk, wk2, s, os, r1, r2, l1, l2, hos, e1, e2, hok, k⟩ | ⟨wk, r0, f, F, r2, l0, lF, l2, e0, e1, e2, hok, k⟩
  · simp only [Bool.and_eq_true] at hok
    refine wp_region_any hm (any_sound hok.2 (edges hok.1) ops.size (List.range ops.size) (Array.replicate ops.size false) (by simp) List.pairwise_lt_range (by simp) ?_ ?_ (aopsL_range k) R' ?_)
    · intro i
      simp [Array.getD_eq_getD_getElem?, Array.getElem?_replicate]
      intro hi
      simp [hi]
    · intro i o e hi hl _ _
      rw [Array.getD_eq_getD_getElem?, Array.getElem?_replicate] at hl
      split at hl <;> simp at hl
    · exact fun φ' tm' h' a' w' p1 p2 p3 => ⟨φ', tm', h', p1, p2, p3⟩
  · simp only [Bool.and_eq_true] at hok
    subst e1
    subst e2
    have hnd : (r1 ++ s :: r2).Nodup := by
      have h1 := hok.2
      unfold lateOK at h1
      simp only [Bool.and_eq_true, decide_eq_true_eq] at h1
      exact h1.1.1.1.1.1.1.1
    have w1 : ∀ i ∈ r1, (if r2.contains i then wk2 else wk) = wk := fun i hi => by
      have : r2.contains i = false := by
        cases hc : r2.contains i
        · rfl
        · exact absurd rfl ((List.nodup_append.1 hnd).2.2 i hi i (List.mem_cons_of_mem _ (List.contains_iff_mem.1 hc)))
      rw [this]; rfl
    have w2 : ∀ i ∈ r2, (if r2.contains i then wk2 else wk) = wk2 := fun i hi => by
      rw [List.contains_iff_mem.2 hi]; rfl
    refine wp_region_any hm (late_sound (edges hok.1) hos hok.2 (aopsL_of (fun tm h kk => ?_) r1 tm h w1 k) R' fun φ' tm' h' a' w' p2 p1 p3 => ⟨φ', tm', h', p1, p2, p3⟩)
    obtain ⟨g1, g2, g3, v, ob, g4, g5, g6⟩ := kk
    exact ⟨g1, g2, g3, v, ob, g4, g5, aopsL_of (fun _ _ z => z) r2 _ _ w2 g6⟩
  · simp only [Bool.and_eq_true] at hok
    subst e0
    subst e1
    subst e2
    refine wp_region_any hm (fam_sound (edges hok.1) hok.2 (aopsL_of (fun tm h kk => ?_) r0 tm h (fun _ _ => rfl) k) R' fun φ' tm' h' a' w' p2 p1 p3 => ⟨φ', tm', h', p1, p2, p3⟩)
    exact fun g hg => famAll_of (f :: F) kk g hg

/-- The calculus is sound. -/
theorem awp_sound (hm : P.follows .mixedOrders = true) : ∀ (c : Code) {Q : Post} {tm : List Value} {h : Hp}, awp P c Q tm h → AWp P c Q tm h
  | .skip, Q, tm, h, k => fun B w0 φ a w R => wp_skip ⟨φ, tm, h, List.prefix_refl _, R, k⟩
  | .region id ops false, Q, tm, h, k => region_sound k
  | .region id ops true, Q, tm, h, k => draw_sound hm k
  | .seq x y, Q, tm, h, k => fun B w0 φ a w R => by
    refine wp_seq (wp_mono (awp_sound hm x k B w0 φ a w R) ?_)
    rintro e a' w' ⟨φ', tm', h', p1, p2, p3⟩
    cases e with
    | normal => exact wp_mono (awp_sound hm y p3 B w0 φ' a' w' p2) fun e a2 w2 ⟨φ2, tm2, h2, q1, q2, q3⟩ => ⟨φ2, tm2, h2, p1.trans q1, q2, q3⟩
    | _ => exact ⟨φ', tm', h', p1, p2, p3⟩
  | .cond c x y, Q, tm, h, k => fun B w0 φ a w R => by
    unfold awp acond at k
    split at k
    · rename_i b hb
      have he := R.ev c
      rw [hb] at he
      have he := rBool (φ := φ) he
      cases b with
      | true => exact wp_cond_true he (awp_sound hm x (k.1 rfl) B w0 φ a w R)
      | false => exact wp_cond_false he (awp_sound hm y (k.2 rfl) B w0 φ a w R)
    · exact k.elim
  | .block id c, Q, tm, h, k => fun B w0 φ a w R => by
    refine wp_block (wp_mono (awp_sound hm c k B w0 φ a w R) ?_)
    rintro e a' w' ⟨φ', tm', h', p1, p2, p3⟩
    cases e with
    | exit i =>
      show if i = id then _ else _
      have p3' : if i = id then Q .normal tm' h' else Q (.exit i) tm' h' := p3
      split
      · rename_i hi; rw [if_pos hi] at p3'; exact ⟨φ', tm', h', p1, p2, p3'⟩
      · rename_i hi; rw [if_neg hi] at p3'; exact ⟨φ', tm', h', p1, p2, p3'⟩
    | _ => exact ⟨φ', tm', h', p1, p2, p3⟩
  | .loop c, Q, tm, h, k => k
  | .exit id, Q, tm, h, k => fun B w0 φ a w R => wp_exit ⟨φ, tm, h, List.prefix_refl _, R, k⟩
  | .ret, Q, tm, h, k => fun B w0 φ a w R => wp_ret ⟨φ, tm, h, List.prefix_refl _, R, k⟩
  | .rangeFunc .., _, _, _, k => k.elim
  | .scope .., _, _, _, k => k.elim
  | .label .., _, _, _, k => k.elim
  | .goto .., _, _, _, k => k.elim
  | .refuse .., _, _, _, k => k.elim

/-- A frame of which some slots are told. -/
def mkF : Nat → Nat → List Nat → List Value → List Value
  | 0, _, _, _ => []
  | n + 1, i, s :: ss, v :: vs => if s = i then v :: mkF n (i + 1) ss vs else junk :: mkF n (i + 1) (s :: ss) (v :: vs)
  | n + 1, i, [], _ => junk :: mkF n (i + 1) [] []
  | n + 1, i, _ :: _, [] => junk :: mkF n (i + 1) [] []
def pickF (slots : List Nat) (tm : List Value) : List Value := slots.map fun s => (tm[s]?).getD undef
theorem rel_mkF {φ : Inj} : ∀ {tm tm' : List Value} (i : Nat) (slots : List Nat) (vs : List Value), All2 (RelV φ) tm tm' → (∀ (j s : Nat) (v : Value), slots[j]? = some s → vs[j]? = some v → i ≤ s → tm[s - i]? = none ∨ tm[s - i]? = some v) → All2 (RelV φ) (mkF tm.length i slots vs) tm'
  | [], [], _, _, _, _, _ => trivial
  | u :: us, u' :: us', i, [], vs, h, _ => ⟨relV_junk _ _, rel_mkF (i + 1) [] [] h.2 (fun j s v hs => by simp at hs)⟩
  | u :: us, u' :: us', i, s :: ss, [], h, _ => ⟨relV_junk _ _, rel_mkF (i + 1) [] [] h.2 (fun j s v hs => by simp at hs)⟩
  | u :: us, u' :: us', i, s :: ss, v :: vs, h, k => by
    simp only [List.length_cons, mkF]
    split
    · rename_i hsi
      subst hsi
      have h0 := k 0 s v rfl rfl (Nat.le_refl _)
      simp only [Nat.sub_self, List.getElem?_cons_zero] at h0
      rcases h0 with h0 | h0
      · cases h0
      · injection h0 with h0
        subst h0
        refine ⟨h.1, rel_mkF (s + 1) ss vs h.2 fun j x y hx hy hle => ?_⟩
        have := k (j + 1) x y (by simpa using hx) (by simpa using hy) (by omega)
        rw [show x - s = (x - (s + 1)) + 1 by omega, List.getElem?_cons_succ] at this
        exact this
    · rename_i hsi
      refine ⟨relV_junk _ _, rel_mkF (i + 1) (s :: ss) (v :: vs) h.2 fun j x y hx hy hle => ?_⟩
      have := k j x y hx hy (by omega)
      rw [show x - i = (x - (i + 1)) + 1 by omega, List.getElem?_cons_succ] at this
      exact this
  | [], _ :: _, _, _, _, h, _ => h.elim
  | _ :: _, [], _, _, _, h, _ => h.elim
theorem RelSt.pick {B : Bd} {w0 w : World} {φ : Inj} {a : Act} (R : RelSt P B w0 φ tm h a w) (slots : List Nat) : RelSt P B w0 φ (mkF tm.length 0 slots (pickF slots tm)) h a w := by
  refine ⟨rel_mkF 0 slots _ R.tm fun j s v hs hv _ => ?_, R.df, R.hp⟩
  simp only [pickF, List.getElem?_map, hs, Option.map_some, Option.some.injEq] at hv
  simp only [Nat.sub_zero]
  cases hx : tm[s]? with
  | none => exact .inl rfl
  | some u => rw [hx] at hv; simp at hv; subst hv; exact .inr rfl

/-- What a round hands on. -/
def ANext {X : Type} (n : Nat) (slots : List Nat) (vals : X → List Value) (hp : X → Hp) (I : X → Prop) (μ : X → Nat) (x : X) (tm : List Value) (h : Hp) : Prop :=
  ∃ y, I y ∧ μ y < μ x ∧ vals y = pickF slots tm ∧ hp y = h ∧ tm.length = n
theorem anext {X : Type} {n : Nat} {slots : List Nat} {vals : X → List Value} {hp : X → Hp} {I : X → Prop} {μ : X → Nat} {x : X} {tm : List Value} {h : Hp} (y : X) (hI : I y) (hμ : μ y < μ x) (hv : vals y = pickF slots tm) (hh : hp y = h) (hn : tm.length = n) : ANext n slots vals hp I μ x tm h := ⟨y, hI, hμ, hv, hh, hn⟩

/-- A LOOP: states told by X: the live slots' values, the heap; a measure that every round lowers. -/
theorem aloop (hm : P.follows .mixedOrders = true) {X : Type} (slots : List Nat) (vals : X → List Value) (hp : X → Hp) (I : X → Prop) (μ : X → Nat) {c : Code} {Q : Post} {tm : List Value} {h : Hp} (x0 : X) (h0 : I x0) (hv0 : vals x0 = pickF slots tm) (hp0 : hp x0 = h)
    (round : ∀ x, I x → awp P c (seqQ (ANext tm.length slots vals hp I μ x) Q) (mkF tm.length 0 slots (vals x)) (hp x)) : ALoop P c Q tm h := by
  intro B w0 φ a w R
  subst hp0
  have R0 := R.pick slots
  rw [← hv0] at R0
  refine wp_loop_ghost (fun n a' w' => ∃ x φ', μ x = n ∧ φ <+: φ' ∧ I x ∧ RelSt P B w0 φ' (mkF tm.length 0 slots (vals x)) (hp x) a' w') (μ x0) ⟨x0, φ, rfl, List.prefix_refl _, h0, R0⟩ ?_
  rintro n a1 w1 ⟨x, φ1, rfl, p1, hx, R1⟩
  refine wp_mono (awp_sound hm c (round x hx) B w0 φ1 a1 w1 R1) ?_
  rintro e a2 w2 ⟨φ2, tm2, h2, p2, R2, q⟩
  cases e with
  | normal =>
    obtain ⟨y, hy, hlt, f1, f2, f3⟩ := q
    refine ⟨μ y, hlt, y, φ2, rfl, p1.trans p2, hy, ?_⟩
    have R3 := R2.pick slots
    rw [f1, f2, ← f3]
    exact R3
  | _ => exact ⟨φ2, tm2, h2, p1.trans p2, R2, q⟩

/-- A function's results. -/
def aresult (P : Program) (tm : List Value) (h : Hp) : ResultVar → Option Value
  | .tmp t => some ((tm[t]?).getD undef)
  | .cell a t => lev P h (ev tm) (.load t (.tmp a))
def notTuple : Value → Bool
  | .tuple _ => false
  | _ => true
def aresults (P : Program) (rs : List ResultVar) (tm : List Value) (h : Hp) : Option Value :=
  match rs with
  | [r] => aresult P tm h r
  | rs => (rs.mapM (aresult P tm h)).bind fun vs => if vs.all notTuple then some (.tuple vs.toArray) else none
def retQ (P : Program) (rs : List ResultVar) (R : Value → Hp → Prop) : Post
  | .normal, tm, h | .ret, tm, h => ∃ v, aresults P rs tm h = some v ∧ R v h
  | _, _, _ => False

def resOne (tmps : Array Value) : ResultVar → Sem Value
  | .tmp t => pure (tmps.getD t undef)
  | .cell x t => do loadVar t (← asAddr (tmps.getD x undef))
theorem results_eq (fn : Func) (tmps : Array Value) : results fn tmps = (do let vs ← fn.results.mapM (resOne tmps); pure (if h : vs.size = 1 then vs[0] else .tuple vs)) := rfl
theorem aresult_sound {B : Bd} {w0 w : World} {φ : Inj} {a : Act} (R : RelSt P B w0 φ tm h a w) {r : ResultVar} {v : Value} (e : aresult P tm h r = some v) :
    ∃ v', (resOne a.tmps r).run P w = .ok v' w ∧ RelV φ v v' := by
  cases r with
  | tmp t =>
    injection e with e; subst e
    exact ⟨_, rfl, R.ev (.tmp t)⟩
  | cell x t =>
    obtain ⟨v', h1, h2⟩ := lev_sound R.hp (fun z => R.ev z) (o := { dst := none, op := .load t (.tmp x), type := 0, pos := "", after := #[], guard := none }) e
    refine ⟨v', ?_, h2⟩
    have hx := R.ev (.tmp x)
    simp only [aresult, lev] at e
    split at e
    · rename_i ad hq
      rw [hq] at hx
      obtain ⟨p, hp, hs, hx'⟩ := hx
      have hx2 : a.tmps.getD x undef = .pointer (some ⟨p.block, p.off + ad.off, none⟩) := hx'
      simp only [execOp, Instr.loadAt, Act.eval, hx2, Instr.sureAddr, Sem.run_bind, Sem.run_pure, Result.andThen_ok] at h1
      simp only [resOne, hx2, asAddr, Sem.run_bind, Sem.run_pure, Result.andThen_ok]
      cases hr : (loadVar t ⟨p.block, p.off + ad.off, none⟩).run P w with
      | ok u w2 => rw [hr] at h1; simp at h1; obtain ⟨rfl, rfl⟩ := h1; rfl
      | halt x w2 => rw [hr] at h1; simp at h1
    · cases e
theorem mapM_results {B : Bd} {w0 w : World} {φ : Inj} {a : Act} (R : RelSt P B w0 φ tm h a w) : ∀ (rs : List ResultVar) (vs : List Value), rs.mapM (aresult P tm h) = some vs →
    ∃ vs', (rs.mapM (resOne a.tmps)).run P w = .ok vs' w ∧ All2 (RelV φ) vs vs'
  | [], vs, e => by simp at e; subst e; exact ⟨[], rfl, trivial⟩
  | r :: rs, vs, e => by
    simp only [List.mapM_cons, Option.bind_eq_bind, Option.bind_eq_some_iff, Option.pure_def, Option.some.injEq] at e
    obtain ⟨v, hv, us, hus, rfl⟩ := e
    obtain ⟨v', h1, h2⟩ := aresult_sound R hv
    obtain ⟨us', k1, k2⟩ := mapM_results R rs us hus
    refine ⟨v' :: us', ?_, h2, k2⟩
    simp only [List.mapM_cons, Sem.run_bind, h1, Result.andThen_ok, k1, Sem.run_pure]
theorem relV1_not {φ : Inj} {v v' : Value} (h : RelV φ v v') (k : notTuple v = true) : RelV1 φ v v' := by
  unfold RelV at h
  split at h
  · simp [notTuple] at k
  · exact h
theorem aresults_sound {B : Bd} {w0 w : World} {φ : Inj} {a : Act} (R : RelSt P B w0 φ tm h a w) {fn : Func} {v : Value} (e : aresults P fn.results.toList tm h = some v) : ∃ v', (results fn a.tmps).run P w = .ok v' w ∧ RelV φ v v' := by
  rw [results_eq, Array.mapM_eq_mapM_toList]
  unfold aresults at e
  split at e
  · rename_i r hr
    rw [hr]
    obtain ⟨v', h1, h2⟩ := aresult_sound R e
    refine ⟨v', ?_, h2⟩
    obtain ⟨us, k1, k2⟩ := mapM_results R [r] [v] (by simp [e])
    simp only [Sem.run_bind, Sem.run_map, k1, Result.andThen_ok]
    have : us = [v'] := by
      simp only [List.mapM_cons, List.mapM_nil, Sem.run_bind, h1, Result.andThen_ok, Sem.run_pure] at k1
      injection k1 with k1
      exact k1.symm
    subst this
    simp
  · rename_i hne
    simp only [Option.bind_eq_some_iff] at e
    obtain ⟨vs, hvs, e⟩ := e
    split at e
    · rename_i hnt
      injection e with e
      subst e
      obtain ⟨us, k1, k2⟩ := mapM_results R _ _ hvs
      simp only [Sem.run_bind, Sem.run_map, k1, Result.andThen_ok]
      have hlen : us.length ≠ 1 := by
        intro hl
        have h1 := k2.length
        have h2 : vs.length = fn.results.toList.length := by
          have : ∀ (rs : List ResultVar) (vs : List Value), rs.mapM (aresult P tm h) = some vs → vs.length = rs.length := by
            intro rs
            induction rs with
            | nil => intro vs hv; simp at hv; subst hv; rfl
            | cons r rs ih =>
              intro vs hv
              simp only [List.mapM_cons, Option.bind_eq_bind, Option.bind_eq_some_iff, Option.pure_def, Option.some.injEq] at hv
              obtain ⟨v, _, us, hus, rfl⟩ := hv
              simp [ih us hus]
          exact this _ _ hvs
        have h3 : fn.results.toList.length = 1 := by omega
        cases hl : fn.results.toList with
        | nil => rw [hl] at h3; cases h3
        | cons r rs =>
          rw [hl] at h3
          have : rs = [] := List.eq_nil_of_length_eq_zero (by simpa using h3)
          subst this
          exact hne r hl
      rw [dif_neg (by simpa using hlen)]
      refine ⟨.tuple us.toArray, rfl, us.toArray, rfl, ?_⟩
      have : ∀ {vs us : List Value}, vs.all notTuple = true → All2 (RelV φ) vs us → All2 (RelV1 φ) vs us := by
        intro vs
        induction vs with
        | nil => intro us _ hh; cases us with
          | nil => trivial
          | cons _ _ => exact hh.elim
        | cons v vs ih => intro us hn hh; cases us with
          | nil => exact hh.elim
          | cons u us =>
            simp only [List.all_cons, Bool.and_eq_true] at hn
            exact ⟨relV1_not hh.1 hn.1, ih hn.2 hh.2⟩
      simpa using this hnt k2
    · cases e

/-- A CONTRACT, out of the function's body. -/
theorem acall (hm : P.follows .mixedOrders = true) {f : FuncId} {fn : Func} {c : Code} {args : List Value} {h : Hp} {R : Value → Hp → Prop} (hf : P.funcs[f]? = some fn) (hb : fn.body = some c) (hn : (fn.name == "runtime.NumGoroutine") = false)
    (k : awp P c (retQ P fn.results.toList R) (args ++ List.replicate (fn.ntmps - args.length) undef) h) : ACall P f args h R := by
  intro B w0 φ w args' hrel hargs
  have hl := hargs.length
  unfold CallsV
  have hen : (callFunc f args'.toArray).run P w = .ok (.enter f args'.toArray) w := by
    unfold callFunc
    simp only [Sem.run_bind, run_program, Result.andThen_ok, hf]
    simp [hn, hb]
  rw [hen]
  refine calls_of_wp hf hb ?_
  have R0 : RelSt P B w0 φ (args ++ List.replicate (fn.ntmps - args.length) undef) h ⟨args'.toArray ++ Array.replicate (fn.ntmps - args'.toArray.size) undef, []⟩ w := by
    refine ⟨?_, rfl, hrel⟩
    rw [Array.toList_append, Array.toList_replicate]
    refine hargs.append ?_
    simp only [List.size_toArray, ← hl]
    exact All2.refl fun v hv => by rw [List.eq_of_mem_replicate hv]; exact relV_undef φ
  refine wp_mono (awp_sound hm c k B w0 φ _ w R0) ?_
  rintro e a' w' ⟨φ', tm', h', p1, R', q⟩
  have fin : (∃ v, aresults P fn.results.toList tm' h' = some v ∧ R v h') → a'.defers = [] ∧ ∃ v', (results fn a'.tmps).run P w' = .ok v' w' ∧ ∃ v'', (Ending.returned v' = .returned v'') ∧ ∃ φ' v h', φ <+: φ' ∧ Rel P B w0 φ' h' w' ∧ RelV φ' v v'' ∧ R v h' := by
    rintro ⟨v, hv, hr⟩
    obtain ⟨v', h1, h2⟩ := aresults_sound R' hv
    exact ⟨R'.df, v', h1, v', rfl, φ', v, h', p1, R'.hp, h2, hr⟩
  cases e with
  | normal => exact fin q
  | ret => exact fin q
  | _ => exact q.elim
end
end Go.Proofs.YtgfilbekfkhjjaaGreat.Hz
/- The rules by which simp runs code on the plain heap. A frame that is written out (v :: l) is run; under a binder nothing goes on. -/
namespace Go.Proofs.YtgfilbekfkhjjaaGreat.Hz
open Go.RowKit
set_option linter.unusedVariables false
set_option linter.unusedSimpArgs false

abbrev Cont := List Value → Hp → Prop
/-- A value is put into its slot, and on. -/
def aval (o : Option Value) (d : Option Tmp) (tm : List Value) (h : Hp) (K : Cont) : Prop := ∃ v, o = some v ∧ K (put tm d v) h
def aeff (o : Option (Value × Hp)) (d : Option Tmp) (tm : List Value) (K : Cont) : Prop := ∃ v h', o = some (v, h') ∧ K (put tm d v) h'
/-- A call, and on. -/
def acallK (P : Program) (wk : Bool) (f : FuncId) (args : List Value) (d : Option Tmp) (tm : List Value) (h : Hp) (K : Cont) : Prop := ACall P f args h fun v h' => (wk = true → Ext h h') ∧ K (put tm d v) h'
def acallV (P : Program) (wk : Bool) (f : Value) (args : List Value) (d : Option Tmp) (tm : List Value) (h : Hp) (K : Cont) : Prop :=
  match f with
  | .func (.func g) first cap => first = #[] ∧ acallK P wk g (args ++ cap.toList) d tm h K
  | _ => False
/-- Two ways. -/
def asplitK (b : Bool) (tm : List Value) (h : Hp) (A B : Cont) : Prop := (b = true → A tm h) ∧ (b = false → B tm h)
def aguard (s : Option Value) (want : Bool) (tm : List Value) (h : Hp) (A B : Cont) : Prop :=
  match s with
  | some (.bool b) => asplitK (b == want) tm h A B
  | some (.tuple vs) => if vs = #[] then B tm h else False
  | _ => False
def acondK (v : Value) (tm : List Value) (h : Hp) (A B : Cont) : Prop :=
  match v with
  | .bool b => asplitK b tm h A B
  | _ => False
/-- A function comes back. -/
def aret (o : Option Value) (R : Value → Hp → Prop) (h : Hp) : Prop := ∃ v, o = some v ∧ R v h

section
variable {P : Program}

theorem asplitK_intro {b : Bool} {tm : List Value} {h : Hp} {A B : Cont} (k1 : b = true → A tm h) (k2 : b = false → B tm h) : asplitK b tm h A B := ⟨k1, k2⟩
theorem callK {wk : Bool} {f : FuncId} {args : List Value} {d : Option Tmp} {tm : List Value} {h : Hp} {K : Cont} {R : Value → Hp → Prop} (c : ACall P f args h R) (k : ∀ v h', R v h' → (wk = true → Ext h h') ∧ K (put tm d v) h') : acallK P wk f args d tm h K := c.mono k
theorem callK0 {f : FuncId} {args : List Value} {d : Option Tmp} {tm : List Value} {h : Hp} {K : Cont} {R : Value → Hp → Prop} (c : ACall P f args h R) (k : ∀ v h', R v h' → K (put tm d v) h') : acallK P false f args d tm h K := c.mono fun v h' r => ⟨fun e => (by cases e), k v h' r⟩
theorem drawK {ops : Array Oper} {tm : List Value} {h : Hp} {K : Cont} (wk : Bool) (hok : (edgesOK ops && regOK P ops (fun _ => wk)) = true) (k : aopsL P ops wk ops.toList tm h K) : ADraw P ops tm h K := .inl ⟨wk, hok, k⟩
/-- A region in which an operation that makes a new object (s) is told behind calls: r1, s, r2. -/
theorem drawS2 {ops : Array Oper} {tm : List Value} {h : Hp} {K : Cont} (wk wk2 : Bool) (s : Nat) (r1 r2 : List Nat) {os : Oper} {l1 l2 : List Oper} (hos : ops[s]? = some os) (e1 : r1.filterMap (ops[·]?) = l1) (e2 : r2.filterMap (ops[·]?) = l2) (hok : (edgesOK ops && lateOK P ops (fun i => if r2.contains i then wk2 else wk) s r1 r2) = true) (k : aopsL P ops wk l1 tm h fun tm h => astepS P os tm h fun tm h => aopsL P ops wk2 l2 tm h K) : ADraw P ops tm h K := .inr (.inl ⟨wk, wk2, s, os, r1, r2, l1, l2, hos, e1, e2, hok, k⟩)
/-- A region in which some operations may come in several orders: r0, then each order of the family f :: F, then r2. -/
theorem drawF {ops : Array Oper} {tm : List Value} {h : Hp} {K : Cont} (wk : Bool) (r0 f : List Nat) (F : List (List Nat)) (r2 : List Nat) {l0 l2 : List Oper} {lF : List (List Oper)} (e0 : r0.filterMap (ops[·]?) = l0) (eF : (f :: F).map (fun g => g.filterMap (ops[·]?)) = lF) (e2 : r2.filterMap (ops[·]?) = l2) (hok : (edgesOK ops && famOK P ops (fun _ => wk) r0 f (f :: F) r2) = true) (k : aopsL P ops wk l0 tm h fun tm h => famAll P ops wk lF tm h fun tm h => aopsL P ops wk l2 tm h K) : ADraw P ops tm h K := .inr (.inr ⟨wk, r0, f, F, r2, l0, lF, l2, e0, eF, e2, hok, k⟩)
theorem aop_det {wk : Bool} {o : Oper} {tm : List Value} {h : Hp} {G : Cont} (hp : plainB o = true) (k : aop P wk o tm h G) : ∃ tm1 h1, (∀ X : Cont, X tm1 h1 → aop P wk o tm h X) ∧ G tm1 h1 := by
  unfold aop at k ⊢
  unfold plainB at hp
  split at hp
  · cases hp
  · rename_i hno
    split at k
    · rename_i f args ts e
      exact absurd e (hno _ _ _)
    · rename_i op hno2
      cases hk : kdOf P o.op with
      | pure | load =>
        simp only [hk] at k ⊢
        obtain ⟨v, e, q⟩ := k
        exact ⟨_, _, fun X hx => ⟨v, e, hx⟩, q⟩
      | call =>
        simp only [hk] at k
      | weak | strong =>
        simp only [hk] at k ⊢
        obtain ⟨v, h', e, q⟩ := k
        exact ⟨_, _, fun X hx => ⟨v, h', e, hx⟩, q⟩
theorem astep_det {ops : Array Oper} {wk : Bool} {o : Oper} {tm : List Value} {h : Hp} {G : Cont} (hp : plainB o = true) (k : astep P ops wk o tm h G) : ∃ tm1 h1, (∀ X : Cont, X tm1 h1 → astep P ops wk o tm h X) ∧ G tm1 h1 := by
  unfold astep at k ⊢
  cases hg : o.guard with
  | none =>
    simp only [hg] at k ⊢
    exact aop_det hp k
  | some g =>
    obtain ⟨j, want⟩ := g
    simp only [hg] at k ⊢
    cases hs : gslot ops tm j with
    | none => simp only [hs] at k
    | some s =>
      cases s with
      | bool b =>
        simp only [hs, asplit] at k ⊢
        rcases Bool.eq_false_or_eq_true (b == want) with hb | hb
        · obtain ⟨tm1, h1, q1, q2⟩ := aop_det hp (k.1 hb)
          exact ⟨tm1, h1, fun X hx => ⟨fun _ => q1 X hx, fun e => absurd (hb.symm.trans e) (by decide)⟩, q2⟩
        · exact ⟨_, _, fun X hx => ⟨fun e => absurd (hb.symm.trans e) (by decide), fun _ => hx⟩, k.2 hb⟩
      | tuple vs =>
        simp only [hs] at k ⊢
        by_cases hv : vs = #[]
        · simp only [hv, if_true] at k ⊢
          exact ⟨_, _, fun X hx => hx, k⟩
        · simp only [hv, if_false] at k
      | _ => simp only [hs] at k
theorem aopsL_det {ops : Array Oper} {wk : Bool} {G : Cont} : ∀ (os : List Oper) (tm : List Value) (h : Hp), os.all plainB = true → aopsL P ops wk os tm h G → ∃ tm1 h1, (∀ X : Cont, X tm1 h1 → aopsL P ops wk os tm h X) ∧ G tm1 h1
  | [], tm, h, _, k => ⟨tm, h, fun X hx => hx, k⟩
  | o :: os, tm, h, hp, k => by
    simp only [List.all_cons, Bool.and_eq_true] at hp
    unfold aopsL at k
    obtain ⟨tm1, h1, q1, q2⟩ := astep_det hp.1 k
    obtain ⟨tm2, h2, q3, q4⟩ := aopsL_det os tm1 h1 hp.2 q2
    exact ⟨tm2, h2, fun X hx => by unfold aopsL; exact q1 _ (q3 X hx), q4⟩
theorem aopsL_mono {ops : Array Oper} {wk : Bool} {G G' : Cont} (hk : ∀ tm h, G tm h → G' tm h) : ∀ (os : List Oper) (tm : List Value) (h : Hp), aopsL P ops wk os tm h G → aopsL P ops wk os tm h G'
  | [], tm, h, k => hk _ _ k
  | o :: os, tm, h, k => by
    unfold aopsL at k ⊢
    exact astep_out (fun v h' _ hh => aopsL_mono hk os _ _ hh) k
theorem famAll_mono {ops : Array Oper} {wk : Bool} {G G' : Cont} (hk : ∀ tm h, G tm h → G' tm h) : ∀ (F : List (List Oper)) (tm : List Value) (h : Hp), famAll P ops wk F tm h G → famAll P ops wk F tm h G'
  | [], tm, h, k => trivial
  | g :: F, tm, h, k => ⟨aopsL_mono hk g tm h k.1, famAll_mono hk F tm h k.2⟩
/-- As drawF; the orders end in one state. -/
theorem drawE {ops : Array Oper} {tm : List Value} {h : Hp} {K : Cont} (wk : Bool) (r0 f : List Nat) (F : List (List Nat)) (r2 : List Nat) {l0 lf l2 : List Oper} {lF : List (List Oper)} (e0 : r0.filterMap (ops[·]?) = l0) (ef : f.filterMap (ops[·]?) = lf) (eF : F.map (fun g => g.filterMap (ops[·]?)) = lF) (e2 : r2.filterMap (ops[·]?) = l2) (hok : (edgesOK ops && famOK P ops (fun _ => wk) r0 f (f :: F) r2) = true) (hpl : lf.all plainB = true)
    (k : aopsL P ops wk l0 tm h fun tm h => aopsL P ops wk lf tm h fun tm1 h1 => famAll P ops wk lF tm h (fun tm h => tm = tm1 ∧ h = h1) ∧ aopsL P ops wk l2 tm1 h1 K) : ADraw P ops tm h K := by
  refine drawF wk r0 f F r2 e0 (by rw [List.map_cons, ef, eF]) e2 hok (aopsL_mono (fun tm h kk => ?_) l0 tm h k)
  obtain ⟨tm1, h1, q1, q2, q3⟩ := aopsL_det lf tm h hpl kk
  refine ⟨q1 _ q3, famAll_mono ?_ lF tm h q2⟩
  rintro _ _ ⟨rfl, rfl⟩
  exact q3
theorem famAll_nil {ops : Array Oper} {wk : Bool} (v : Value) (tm : List Value) (h : Hp) (K : Cont) : famAll P ops wk [] (v :: tm) h K = True := rfl
theorem famAll_cons {ops : Array Oper} {wk : Bool} (g : List Oper) (F : List (List Oper)) (v : Value) (tm : List Value) (h : Hp) (K : Cont) : famAll P ops wk (g :: F) (v :: tm) h K = (aopsL P ops wk g (v :: tm) h K ∧ famAll P ops wk F (v :: tm) h K) := rfl
attribute [simp] famAll_nil famAll_cons
theorem drawS {ops : Array Oper} {tm : List Value} {h : Hp} {K : Cont} (wk : Bool) (s : Nat) (r1 r2 : List Nat) {os : Oper} {l1 l2 : List Oper} (hos : ops[s]? = some os) (e1 : r1.filterMap (ops[·]?) = l1) (e2 : r2.filterMap (ops[·]?) = l2) (hok : (edgesOK ops && lateOK P ops (fun i => if r2.contains i then wk else wk) s r1 r2) = true) (k : aopsL P ops wk l1 tm h fun tm h => astepS P os tm h fun tm h => aopsL P ops wk l2 tm h K) : ADraw P ops tm h K := drawS2 wk wk s r1 r2 hos e1 e2 hok k
theorem astepS_alloc (d : Nat) (t ty : TypeId) (pos : String) (af : Array Edge) (u : Value) (tm : List Value) (h : Hp) (K : Cont) : astepS P ⟨some d, .alloc t, ty, pos, af, none⟩ (u :: tm) h K = (d < (u :: tm).length ∧ aeff (eev P h (ev (u :: tm)) (.alloc t)) (some d) (u :: tm) K) := by
  apply propext
  constructor
  · rintro ⟨_, _, ⟨d', hd, hl⟩, v, ob, e, _, k⟩
    injection hd with hd; subst hd
    exact ⟨hl, v, _, e, k⟩
  · rintro ⟨hl, v, h', e, k⟩
    have e0 := e
    simp only [eev, Option.bind_eq_some_iff] at e
    obtain ⟨z, hz, e⟩ := e
    split at e
    · rename_i hs
      simp only [Option.map_eq_some_iff, Prod.mk.injEq] at e
      obtain ⟨_, _, rfl, rfl⟩ := e
      exact ⟨rfl, rfl, ⟨d, rfl, hl⟩, _, _, e0, hs, k⟩
    · cases e
theorem astepS_lit (d : Nat) (t ty : TypeId) (n : Nat) (ps : Array (Nat × Operand)) (pos : String) (af : Array Edge) (u : Value) (tm : List Value) (h : Hp) (K : Cont) : astepS P ⟨some d, .buildSlice t n ps, ty, pos, af, none⟩ (u :: tm) h K = (d < (u :: tm).length ∧ aeff (eev P h (ev (u :: tm)) (.buildSlice t n ps)) (some d) (u :: tm) fun tm' h' => (∃ ob, h' = h ++ [ob] ∧ ob.cells.all scal = true) ∧ K tm' h') := by
  apply propext
  constructor
  · rintro ⟨_, _, ⟨d', hd, hl⟩, v, ob, e, hs, k⟩
    injection hd with hd; subst hd
    exact ⟨hl, v, _, e, ⟨ob, rfl, hs⟩, k⟩
  · rintro ⟨hl, v, h', e, ⟨ob, rfl, hs⟩, k⟩
    exact ⟨rfl, rfl, ⟨d, rfl, hl⟩, v, ob, e, hs, k⟩
attribute [simp] astepS_alloc astepS_lit
theorem aval_some (v : Value) (d : Option Tmp) (tm : List Value) (h : Hp) (K : Cont) : aval (some v) d tm h K = K (put tm d v) h := by simp [aval]
theorem aval_ite (c : Prop) [Decidable c] (x : Option Value) (d : Option Tmp) (tm : List Value) (h : Hp) (K : Cont) : aval (if c then x else none) d tm h K = (c ∧ aval x d tm h K) := by
  by_cases h : c <;> simp [h, aval]
theorem aval_ite2 (c : Prop) [Decidable c] (x : Option Value) (d : Option Tmp) (tm : List Value) (h : Hp) (K : Cont) : aval (if c then none else x) d tm h K = (¬ c ∧ aval x d tm h K) := by
  by_cases h : c <;> simp [h, aval]
theorem aeff_some (v : Value) (d : Option Tmp) (tm : List Value) (h : Hp) (K : Cont) : aeff (some (v, h)) d tm K = K (put tm d v) h := propext ⟨fun ⟨_, _, e, k⟩ => by injection e with e; injection e with e1 e2; subst e1; subst e2; exact k, fun k => ⟨_, _, rfl, k⟩⟩
theorem aeff_ite (c : Prop) [Decidable c] (x : Option (Value × Hp)) (d : Option Tmp) (tm : List Value) (K : Cont) : aeff (if c then x else none) d tm K = (c ∧ aeff x d tm K) := by
  by_cases h : c <;> simp [h, aeff]
theorem asplitK_true (tm : List Value) (h : Hp) (A B : Cont) : asplitK true tm h A B = A tm h := by simp [asplitK]
theorem asplitK_false (tm : List Value) (h : Hp) (A B : Cont) : asplitK false tm h A B = B tm h := by simp [asplitK]
theorem aguard_bool (b want : Bool) (tm : List Value) (h : Hp) (A B : Cont) : aguard (some (.bool b)) want tm h A B = asplitK (b == want) tm h A B := rfl
theorem aguard_skip (want : Bool) (tm : List Value) (h : Hp) (A B : Cont) : aguard (some undef) want tm h A B = B tm h := by simp [aguard, undef]
theorem acondK_bool (b : Bool) (tm : List Value) (h : Hp) (A B : Cont) : acondK (.bool b) tm h A B = asplitK b tm h A B := rfl
theorem asplitK_eqt (b : Bool) (tm : List Value) (h : Hp) (A B : Cont) : asplitK (b == true) tm h A B = asplitK b tm h A B := by simp
theorem asplitK_eqf (b : Bool) (tm : List Value) (h : Hp) (A B : Cont) : asplitK (b == false) tm h A B = asplitK b tm h B A := by cases b <;> simp [asplitK]
theorem asplitK_not (b : Bool) (tm : List Value) (h : Hp) (A B : Cont) : asplitK (!b) tm h A B = asplitK b tm h B A := by cases b <;> simp [asplitK]

theorem seqQ_normal (next : Cont) (Q : Post) (tm : List Value) (h : Hp) : seqQ next Q .normal tm h = next tm h := rfl
theorem seqQ_exit (next : Cont) (Q : Post) (i : Nat) (tm : List Value) (h : Hp) : seqQ next Q (.exit i) tm h = Q (.exit i) tm h := rfl
theorem seqQ_ret (next : Cont) (Q : Post) (tm : List Value) (h : Hp) : seqQ next Q .ret tm h = Q .ret tm h := rfl
theorem blockQ_normal (id : Nat) (Q : Post) (tm : List Value) (h : Hp) : blockQ id Q .normal tm h = Q .normal tm h := rfl
theorem blockQ_exit (id : Nat) (Q : Post) (tm : List Value) (h : Hp) : blockQ id Q (.exit id) tm h = Q .normal tm h := by simp [blockQ]
theorem blockQ_exit' (id i : Nat) (Q : Post) (tm : List Value) (h : Hp) (hne : (i == id) = false) : blockQ id Q (.exit i) tm h = Q (.exit i) tm h := by simp at hne; simp [blockQ, hne]
theorem blockQ_ret (id : Nat) (Q : Post) (tm : List Value) (h : Hp) : blockQ id Q .ret tm h = Q .ret tm h := rfl
theorem retQ_ret (rs : List ResultVar) (R : Value → Hp → Prop) (tm : List Value) (h : Hp) : retQ P rs R .ret tm h = aret (aresults P rs tm h) R h := rfl
theorem retQ_normal (rs : List ResultVar) (R : Value → Hp → Prop) (tm : List Value) (h : Hp) : retQ P rs R .normal tm h = aret (aresults P rs tm h) R h := rfl
theorem aret_some (v : Value) (R : Value → Hp → Prop) (h : Hp) : aret (some v) R h = R v h := by simp [aret]
theorem ares_one (t : Tmp) (tm : List Value) (h : Hp) : aresults P [.tmp t] tm h = some ((tm[t]?).getD undef) := rfl
theorem ares_nil (tm : List Value) (h : Hp) : aresults P [] tm h = some (.tuple #[]) := rfl
theorem ares_two (s t : Tmp) (tm : List Value) (h : Hp) : aresults P [.tmp s, .tmp t] tm h = if (notTuple ((tm[s]?).getD undef) && notTuple ((tm[t]?).getD undef)) = true then some (.tuple #[(tm[s]?).getD undef, (tm[t]?).getD undef]) else none := by
  simp [aresults, aresult]
theorem ares_three (s t u : Tmp) (tm : List Value) (h : Hp) : aresults P [.tmp s, .tmp t, .tmp u] tm h = if (notTuple ((tm[s]?).getD undef) && (notTuple ((tm[t]?).getD undef) && notTuple ((tm[u]?).getD undef))) = true then some (.tuple #[(tm[s]?).getD undef, (tm[t]?).getD undef, (tm[u]?).getD undef]) else none := by
  simp [aresults, aresult]
theorem aret_ite (c : Prop) [Decidable c] (x : Option Value) (R : Value → Hp → Prop) (h : Hp) : aret (if c then x else none) R h = (c ∧ aret x R h) := by
  by_cases h : c <;> simp [h, aret]

section
variable (v : Value) (tm : List Value) (h : Hp) (Q : Post)
theorem awp_skip : awp P .skip Q (v :: tm) h = Q .normal (v :: tm) h := rfl
theorem awp_region (id : Nat) (ops : Array Oper) : awp P (.region id ops false) Q (v :: tm) h = aopsL P ops false ops.toList (v :: tm) h (fun tm h => Q .normal tm h) := rfl
theorem awp_draw (id : Nat) (ops : Array Oper) : awp P (.region id ops true) Q (v :: tm) h = ADraw P ops (v :: tm) h (fun tm h => Q .normal tm h) := rfl
theorem awp_seq (x y : Code) : awp P (.seq x y) Q (v :: tm) h = awp P x (seqQ (fun tm h => awp P y Q tm h) Q) (v :: tm) h := rfl
theorem awp_cond (c : Operand) (x y : Code) : awp P (.cond c x y) Q (v :: tm) h = acondK (ev (v :: tm) c) (v :: tm) h (fun tm h => awp P x Q tm h) (fun tm h => awp P y Q tm h) := rfl
theorem awp_block (id : Nat) (c : Code) : awp P (.block id c) Q (v :: tm) h = awp P c (blockQ id Q) (v :: tm) h := rfl
theorem awp_loop (c : Code) : awp P (.loop c) Q (v :: tm) h = ALoop P c Q (v :: tm) h := rfl
theorem awp_exit (id : Nat) : awp P (.exit id) Q (v :: tm) h = Q (.exit id) (v :: tm) h := rfl
theorem awp_ret : awp P .ret Q (v :: tm) h = Q .ret (v :: tm) h := rfl
end
section
variable (u : Value) (ops : Array Oper) (wk : Bool) (d : Option Tmp) (op : Op) (ty : TypeId) (pos : String) (af : Array Edge) (g : Option (Nat × Bool)) (tm : List Value) (h : Hp) (K : Cont)
theorem aopsL_nil : aopsL P ops wk [] (u :: tm) h K = K (u :: tm) h := rfl
theorem aopsL_none (os : List Oper) : aopsL P ops wk (⟨d, op, ty, pos, af, none⟩ :: os) (u :: tm) h K = aop P wk ⟨d, op, ty, pos, af, none⟩ (u :: tm) h fun tm h => aopsL P ops wk os tm h K := rfl
theorem aopsL_some (os : List Oper) (j : Nat) (want : Bool) : aopsL P ops wk (⟨d, op, ty, pos, af, some (j, want)⟩ :: os) (u :: tm) h K =
    aguard (gslot ops (u :: tm) j) want (u :: tm) h (fun tm h => aop P wk ⟨d, op, ty, pos, af, some (j, want)⟩ tm h fun tm h => aopsL P ops wk os tm h K) (fun tm h => aopsL P ops wk os (put tm d undef) h K) := by
  show astep P ops wk ⟨d, op, ty, pos, af, some (j, want)⟩ (u :: tm) h (fun tm h => aopsL P ops wk os tm h K) = _
  unfold astep aguard asplitK asplit
  (try simp only) <;> (generalize gslot ops (u :: tm) j = s; cases s <;> first | rfl | (rename_i s; cases s <;> rfl))
theorem gslot_eq (os : List Oper) (j : Nat) : gslot (List.toArray os) tm j = ((os[j]?).bind (·.dst)).bind (tm[·]?) := by simp [gslot]
theorem aop_pure (hk : kdOf P op = .pure) : aop P wk ⟨d, op, ty, pos, af, g⟩ tm h K = aval (qev P (ev tm) op) d tm h K := by
  unfold aop aval
  split
  · rename_i f args ts e
    simp only at e
    subst e
    simp [kdOf] at hk
  · simp only [hk]
theorem aop_load (hk : kdOf P op = .load) : aop P wk ⟨d, op, ty, pos, af, g⟩ tm h K = aval (lev P h (ev tm) op) d tm h K := by
  unfold aop aval
  split
  · rename_i f args ts e
    simp only at e
    subst e
    simp [kdOf] at hk
  · simp only [hk]
theorem aop_eff (hk : kdOf P op = .weak ∨ kdOf P op = .strong) : aop P wk ⟨d, op, ty, pos, af, g⟩ tm h K = aeff (eev P h (ev tm) op) d tm K := by
  unfold aop aeff
  split
  · rename_i f args ts e
    simp only at e
    subst e
    simp [kdOf] at hk
  · rcases hk with hk | hk <;> simp only [hk]
theorem aop_move (x : Operand) : aop P wk ⟨d, .move x, ty, pos, af, g⟩ (u :: tm) h K = K (put (u :: tm) d (ev (u :: tm) x)) h := by rw [aop_pure _ _ _ _ _ _ _ _ _ _ rfl]; simp [qev, aval_some]
theorem aop_assign (x : Operand) : aop P wk ⟨d, .assign x, ty, pos, af, g⟩ (u :: tm) h K = K (put (u :: tm) d (ev (u :: tm) x)) h := by rw [aop_pure _ _ _ _ _ _ _ _ _ _ rfl]; simp [qev, aval_some]
theorem aop_pick (c a b : Operand) : aop P wk ⟨d, .pick c a b, ty, pos, af, g⟩ (u :: tm) h K = aval (qev P (ev (u :: tm)) (.pick c a b)) d (u :: tm) h K := aop_pure _ _ _ _ _ _ _ _ _ _ rfl
theorem aop_bin (b : BinOp) (t : TypeId) (x y : Operand) (t2 : TypeId) : aop P wk ⟨d, .binOp b t x y t2, ty, pos, af, g⟩ (u :: tm) h K = aval (abin P b t (ev (u :: tm) x) (ev (u :: tm) y)) d (u :: tm) h K := aop_pure _ _ _ _ _ _ _ _ _ _ rfl
theorem aop_un (b : UnOp) (t : TypeId) (x : Operand) : aop P wk ⟨d, .unOp b t x, ty, pos, af, g⟩ (u :: tm) h K = aval (aun b (ev (u :: tm) x)) d (u :: tm) h K := aop_pure _ _ _ _ _ _ _ _ _ _ rfl
theorem aop_nilCheck (x : Operand) : aop P wk ⟨d, .nilCheck x, ty, pos, af, g⟩ (u :: tm) h K = aval (qev P (ev (u :: tm)) (.nilCheck x)) d (u :: tm) h K := aop_pure _ _ _ _ _ _ _ _ _ _ rfl
theorem aop_makeFunc (f : FuncId) (first cap : Array Operand) : aop P wk ⟨d, .makeFunc (.func f) first cap, ty, pos, af, g⟩ (u :: tm) h K = aval (qev P (ev (u :: tm)) (.makeFunc (.func f) first cap)) d (u :: tm) h K := aop_pure _ _ _ _ _ _ _ _ _ _ rfl
theorem aop_fieldAddr (t : TypeId) (x : Operand) (f : Nat) : aop P wk ⟨d, .fieldAddr t x f, ty, pos, af, g⟩ (u :: tm) h K = aval (qev P (ev (u :: tm)) (.fieldAddr t x f)) d (u :: tm) h K := aop_pure _ _ _ _ _ _ _ _ _ _ rfl
theorem aop_field (t : TypeId) (x : Operand) (f : Nat) : aop P wk ⟨d, .field t x f, ty, pos, af, g⟩ (u :: tm) h K = aval (afield P t (ev (u :: tm) x) f) d (u :: tm) h K := aop_pure _ _ _ _ _ _ _ _ _ _ rfl
theorem aop_build (t : TypeId) (ps : Array (Nat × Operand)) : aop P wk ⟨d, .build t ps, ty, pos, af, g⟩ (u :: tm) h K = aval (abuild P t (ps.toList.map fun p => (p.1, ev (u :: tm) p.2))) d (u :: tm) h K := aop_pure _ _ _ _ _ _ _ _ _ _ rfl
theorem aop_indexAddr (t : TypeId) (x i : Operand) : aop P wk ⟨d, .indexAddr t x i, ty, pos, af, g⟩ (u :: tm) h K = aval (aidx P t (ev (u :: tm) x) (ev (u :: tm) i)) d (u :: tm) h K := aop_pure _ _ _ _ _ _ _ _ _ _ rfl
theorem aop_index (t : TypeId) (x i : Operand) : aop P wk ⟨d, .index t x i, ty, pos, af, g⟩ (u :: tm) h K = aval (astr P t (ev (u :: tm) x) (ev (u :: tm) i)) d (u :: tm) h K := aop_pure _ _ _ _ _ _ _ _ _ _ rfl
theorem aop_extract (x : Operand) (i : Nat) : aop P wk ⟨d, .extract x i, ty, pos, af, g⟩ (u :: tm) h K = aval (qev P (ev (u :: tm)) (.extract x i)) d (u :: tm) h K := aop_pure _ _ _ _ _ _ _ _ _ _ rfl
theorem aop_len (x : Operand) (t : TypeId) : aop P wk ⟨d, .call ⟨.builtin .len, #[x], #[t]⟩, ty, pos, af, g⟩ (u :: tm) h K = aval (alen P t (ev (u :: tm) x)) d (u :: tm) h K := aop_pure _ _ _ _ _ _ _ _ _ _ rfl
theorem aop_min (xs : Array Operand) (ts : Array TypeId) : aop P wk ⟨d, .call ⟨.builtin .min, xs, ts⟩, ty, pos, af, g⟩ (u :: tm) h K = aval (amin .min (xs.toList.map (ev (u :: tm)))) d (u :: tm) h K := aop_pure _ _ _ _ _ _ _ _ _ _ rfl
theorem aop_max (xs : Array Operand) (ts : Array TypeId) : aop P wk ⟨d, .call ⟨.builtin .max, xs, ts⟩, ty, pos, af, g⟩ (u :: tm) h K = aval (amin .max (xs.toList.map (ev (u :: tm)))) d (u :: tm) h K := aop_pure _ _ _ _ _ _ _ _ _ _ rfl
theorem aop_ld (t : TypeId) (x : Operand) : aop P wk ⟨d, .load t x, ty, pos, af, g⟩ (u :: tm) h K = aval (lev P h (ev (u :: tm)) (.load t x)) d (u :: tm) h K := aop_load _ _ _ _ _ _ _ _ _ _ rfl
theorem aop_slS (t : TypeId) (x : Operand) (lo hi mx : Option Operand) (hs : strOf P t = true) : aop P wk ⟨d, .slice t x lo hi mx, ty, pos, af, g⟩ (u :: tm) h K = aval (asl P t (ev (u :: tm) x) (lo.map (ev (u :: tm))) (hi.map (ev (u :: tm))) (mx.map (ev (u :: tm)))) d (u :: tm) h K := by
  rw [aop_pure _ _ _ _ _ _ _ _ _ _ (by simp [kdOf, hs])]; simp [qev, hs]
theorem aop_slL (t : TypeId) (x : Operand) (lo hi mx : Option Operand) (hs : strOf P t = false) : aop P wk ⟨d, .slice t x lo hi mx, ty, pos, af, g⟩ (u :: tm) h K = aval (asl2 P h t (ev (u :: tm) x) (lo.map (ev (u :: tm))) (hi.map (ev (u :: tm))) (mx.map (ev (u :: tm)))) d (u :: tm) h K := by
  rw [aop_load _ _ _ _ _ _ _ _ _ _ (by simp [kdOf, hs])]; simp [lev, hs]
theorem aop_cvI (s t : TypeId) (x : Operand) (k1 k : IntKind) (h1 : strOf P s = false) (h2 : strOf P t = false) (h3 : intOf' P s = some k1) (h4 : intOf' P t = some k) : aop P wk ⟨d, .convert s t x, ty, pos, af, g⟩ (u :: tm) h K = aval (match ev (u :: tm) x with | .int _ n => some (.int k (k.wrap n)) | _ => none) d (u :: tm) h K := by
  have h5 : elemOf P t = none := by
    unfold intOf' at h4
    unfold elemOf
    split at h4
    · rename_i hu
      rw [hu]
    · cases h4
  rw [aop_pure _ _ _ _ _ _ _ _ _ _ (by simp [kdOf, h1, h2, h5])]
  simp only [qev, h3, h4]
  cases ev (u :: tm) x <;> simp [h1]
theorem aop_cvSB (s t : TypeId) (x : Operand) (h1 : strOf P s = true) (h2 : strOf P t = false) : aop P wk ⟨d, .convert s t x, ty, pos, af, g⟩ (u :: tm) h K = aeff (eev P h (ev (u :: tm)) (.convert s t x)) d (u :: tm) K :=
  aop_eff _ _ _ _ _ _ _ _ _ _ (.inl (by simp [kdOf, h1, h2]))
theorem aop_cvSl (s t : TypeId) (x : Operand) (h1 : strOf P s = false) (h2 : strOf P t = false) (h3 : (elemOf P t).isSome = true) : aop P wk ⟨d, .convert s t x, ty, pos, af, g⟩ (u :: tm) h K = aeff (eev P h (ev (u :: tm)) (.convert s t x)) d (u :: tm) K :=
  aop_eff _ _ _ _ _ _ _ _ _ _ (.inl (by simp [kdOf, h1, h2, h3]))
theorem aop_cvBS (s t : TypeId) (x : Operand) (h1 : strOf P s = false) (h2 : strOf P t = true) (h3 : intOf' P s = none) : aop P wk ⟨d, .convert s t x, ty, pos, af, g⟩ (u :: tm) h K = aval (lev P h (ev (u :: tm)) (.convert s t x)) d (u :: tm) h K :=
  aop_load _ _ _ _ _ _ _ _ _ _ (by simp [kdOf, h1, h2, h3])
theorem aop_cvSS (s t : TypeId) (x : Operand) (h1 : strOf P s = true) (h2 : strOf P t = true) : aop P wk ⟨d, .convert s t x, ty, pos, af, g⟩ (u :: tm) h K = aval (qev P (ev (u :: tm)) (.convert s t x)) d (u :: tm) h K :=
  aop_pure _ _ _ _ _ _ _ _ _ _ (by simp [kdOf, h1, h2])
theorem aop_box (t : TypeId) (x : Operand) : aop P wk ⟨d, .box t x, ty, pos, af, g⟩ (u :: tm) h K = aeff (eev P h (ev (u :: tm)) (.box t x)) d (u :: tm) K := aop_eff _ _ _ _ _ _ _ _ _ _ (.inl rfl)
theorem aop_alloc (t : TypeId) : aop P wk ⟨d, .alloc t, ty, pos, af, g⟩ (u :: tm) h K = aeff (eev P h (ev (u :: tm)) (.alloc t)) d (u :: tm) K := aop_eff _ _ _ _ _ _ _ _ _ _ (.inl rfl)
theorem aop_store (t : TypeId) (x y : Operand) : aop P wk ⟨d, .store t x y, ty, pos, af, g⟩ (u :: tm) h K = aeff (eev P h (ev (u :: tm)) (.store t x y)) d (u :: tm) K := aop_eff _ _ _ _ _ _ _ _ _ _ (.inr rfl)
theorem aop_lit (t : TypeId) (n : Nat) (ps : Array (Nat × Operand)) : aop P wk ⟨d, .buildSlice t n ps, ty, pos, af, g⟩ (u :: tm) h K = aeff (eev P h (ev (u :: tm)) (.buildSlice t n ps)) d (u :: tm) K := aop_eff _ _ _ _ _ _ _ _ _ _ (.inl rfl)
theorem aop_make (t : TypeId) (x y : Operand) : aop P wk ⟨d, .makeSlice t x y, ty, pos, af, g⟩ (u :: tm) h K = aeff (eev P h (ev (u :: tm)) (.makeSlice t x y)) d (u :: tm) K := aop_eff _ _ _ _ _ _ _ _ _ _ (.inl rfl)
theorem aop_copy (x y : Operand) (t t2 : TypeId) : aop P wk ⟨d, .call ⟨.builtin .copy, #[x, y], #[t, t2]⟩, ty, pos, af, g⟩ (u :: tm) h K = aeff (acopy P h t (ev (u :: tm) x) (ev (u :: tm) y)) d (u :: tm) K := aop_eff _ _ _ _ _ _ _ _ _ _ (.inr rfl)
theorem aop_clear (x : Operand) (t : TypeId) : aop P wk ⟨d, .call ⟨.builtin .clear, #[x], #[t]⟩, ty, pos, af, g⟩ (u :: tm) h K = aeff (aclear P h t (ev (u :: tm) x)) d (u :: tm) K := aop_eff _ _ _ _ _ _ _ _ _ _ (.inr rfl)
theorem aop_append (s x : Operand) (st xt : TypeId) : aop P wk ⟨d, .call ⟨.builtin .append, #[s, x], #[st, xt]⟩, ty, pos, af, g⟩ (u :: tm) h K = aeff (aappend P h st xt (ev (u :: tm) s) (ev (u :: tm) x)) d (u :: tm) K := aop_eff _ _ _ _ _ _ _ _ _ _ (.inr rfl)
theorem aop_call (f : FuncId) (args : Array Operand) (ts : Array TypeId) : aop P wk ⟨d, .call ⟨.value (.func f), args, ts⟩, ty, pos, af, g⟩ (u :: tm) h K = acallK P wk f (args.toList.map (ev (u :: tm))) d (u :: tm) h K := by
  simp [aop, ev, acallK]
theorem aop_callt (t : Tmp) (args : Array Operand) (ts : Array TypeId) : aop P wk ⟨d, .call ⟨.value (.tmp t), args, ts⟩, ty, pos, af, g⟩ (u :: tm) h K = acallV P wk (ev (u :: tm) (.tmp t)) (args.toList.map (ev (u :: tm))) d (u :: tm) h K := by
  unfold aop acallV acallK
  (try simp only) <;> (generalize ev (u :: tm) (.tmp t) = v; cases v <;> first | rfl | (rename_i fn f c; cases fn <;> rfl))
theorem acallV_f (g : FuncId) (cap : Array Value) (args : List Value) : acallV P wk (.func (.func g) #[] cap) args d tm h K = acallK P wk g (args ++ cap.toList) d tm h K := by
  simp [acallV]
end

theorem put_some (tm : List Value) (d : Tmp) (v : Value) : put tm (some d) v = tm.set d v := rfl
theorem put_none (tm : List Value) (v : Value) : put tm none v = tm := rfl
theorem ev_tmp (tm : List Value) (t : Tmp) : ev tm (.tmp t) = (tm[t]?).getD undef := rfl
theorem ev_int (tm : List Value) (k : IntKind) (n : Int) : ev tm (.const (.int k n)) = .int k n := rfl
theorem ev_bool (tm : List Value) (b : Bool) : ev tm (.const (.bool b)) = .bool b := rfl
theorem ev_str (tm : List Value) (s : ByteArray) : ev tm (.const (.string s)) = .string s := rfl
theorem ev_nil (tm : List Value) : ev tm (.const (.slice none 0 0)) = .slice none 0 0 := rfl
theorem ev_agg (tm : List Value) (cs : Array Value) (hc : cs.all scal = true) : ev tm (.const (.agg cs)) = .agg cs := by simp [ev, cst, hc]
theorem ev_func (tm : List Value) (f : FuncId) : ev tm (.func f) = .func (.func f) #[] #[] := rfl

/-! Whole numbers. -/
theorem abin_add (t : TypeId) (k : IntKind) (a b : Int) : abin P .add t (.int k a) (.int k b) = some (.int k (k.wrap (a + b))) := by simp [abin]
theorem abin_sub (t : TypeId) (k : IntKind) (a b : Int) : abin P .sub t (.int k a) (.int k b) = some (.int k (k.wrap (a - b))) := by simp [abin]
theorem abin_mul (t : TypeId) (k : IntKind) (a b : Int) : abin P .mul t (.int k a) (.int k b) = some (.int k (k.wrap (a * b))) := by simp [abin]
theorem abin_quo (t : TypeId) (k : IntKind) (a b : Int) : abin P .quo t (.int k a) (.int k b) = if b = 0 then none else some (.int k (k.wrap (a.tdiv b))) := by simp [abin]
theorem abin_rem (t : TypeId) (k : IntKind) (a b : Int) : abin P .rem t (.int k a) (.int k b) = if b = 0 then none else some (.int k (a.tmod b)) := by simp [abin]
theorem abin_eql (t : TypeId) (k : IntKind) (a b : Int) : abin P .eql t (.int k a) (.int k b) = some (.bool (a == b)) := by simp [abin]
theorem abin_neq (t : TypeId) (k : IntKind) (a b : Int) : abin P .neq t (.int k a) (.int k b) = some (.bool (a != b)) := by simp [abin]
theorem abin_lss (t : TypeId) (k : IntKind) (a b : Int) : abin P .lss t (.int k a) (.int k b) = some (.bool (decide (a < b))) := by simp [abin]
theorem abin_leq (t : TypeId) (k : IntKind) (a b : Int) : abin P .leq t (.int k a) (.int k b) = some (.bool (decide (a ≤ b))) := by simp [abin]
theorem abin_gtr (t : TypeId) (k : IntKind) (a b : Int) : abin P .gtr t (.int k a) (.int k b) = some (.bool (decide (b < a))) := by simp [abin]
theorem abin_geq (t : TypeId) (k : IntKind) (a b : Int) : abin P .geq t (.int k a) (.int k b) = some (.bool (decide (b ≤ a))) := by simp [abin]
theorem abin_beql (t : TypeId) (a b : Bool) (hb : isBool P t = true) : abin P .eql t (.bool a) (.bool b) = some (.bool (a == b)) := by simp [abin, hb]
theorem abin_bneq (t : TypeId) (a b : Bool) (hb : isBool P t = true) : abin P .neq t (.bool a) (.bool b) = some (.bool (!(a == b))) := by simp [abin, hb]
theorem wrap_in {n : Int} (h1 : -9223372036854775808 ≤ n) (h2 : n ≤ 9223372036854775807) : IntKind.i64.wrap n = n := by
  rw [IntKind.wrap_i64]; omega
theorem wrap_u8 {n : Int} (h1 : 0 ≤ n) (h2 : n ≤ 255) : IntKind.u8.wrap n = n := by
  simp only [IntKind.wrap, IntKind.bits, IntKind.signed]
  simp
  omega
theorem aun_not (b : Bool) : aun .not (.bool b) = some (.bool !b) := rfl
theorem qev_pick (ρ : Operand → Value) (c a b : Operand) : qev P ρ (.pick c a b) = match ρ c with | .bool t => some (if t then ρ a else ρ b) | _ => none := rfl
theorem aidx_sl (t : TypeId) (a : Addr) (n c : Nat) (k : IntKind) (i : Int) : aidx P t (.slice (some a) n c) (.int k i) = (elemOf P t).bind fun e => (szOf P e).bind fun sz => if 0 ≤ i ∧ i < n then some (.pointer (some ⟨a.block, a.off + i.toNat * sz, none⟩)) else none := rfl
theorem qev_fieldAddr (ρ : Operand → Value) (t : TypeId) (x : Operand) (f : Nat) : qev P ρ (.fieldAddr t x f) = match ρ x with
      | .pointer (some a) => (fldOf P t f).bind fun q => if szOf P q.2 = some 0 then none else (szOf P q.2).bind fun _ => some (.pointer (some ⟨a.block, a.off + q.1, none⟩))
      | _ => none := by
  cases hv : ρ x with
  | pointer a =>
    cases a with
    | none => simp [qev, hv]
    | some a =>
      simp only [qev, hv]
      cases fldOf P t f with
      | none => rfl
      | some q => simp only [Option.bind_some, Option.map_eq_bind]; split <;> rfl
  | _ => simp [qev, hv]
theorem lev_ld (h : Hp) (ρ : Operand → Value) (t : TypeId) (x : Operand) : lev P h ρ (.load t x) = match ρ x with
      | .pointer (some a) => (aggOf P t).bind fun g => if g = true then (szOf P t).bind fun n => (cellsAt h a.block a.off n).bind fun cs => some (.agg cs.toArray) else cellAt h a.block a.off
      | _ => none := by
  cases hv : ρ x with
  | pointer a =>
    cases a with
    | none => simp [lev, hv]
    | some a =>
      simp only [lev, hv]
      cases aggOf P t with
      | none => rfl
      | some g => cases g <;> simp only [Option.bind_some, Option.map_eq_bind] <;> rfl
  | _ => simp [lev, hv]
theorem alen_str (t : TypeId) (s : ByteArray) (h1 : strOf P t = true) : alen P t (.string s) = some (.int .i64 s.size) := by simp [alen, h1]
theorem alen_sl (t : TypeId) (a : Option Addr) (n c : Nat) (h1 : isSlice P t = true) : alen P t (.slice a n c) = some (.int .i64 n) := by simp [alen, h1]
end
attribute [simp] aop_cvSl aop_copy aop_clear awp_skip awp_region awp_draw awp_seq awp_cond awp_block awp_loop awp_exit awp_ret aopsL_nil aopsL_none aopsL_some gslot_eq aop_move aop_assign aop_pick aop_bin aop_un aop_nilCheck aop_makeFunc aop_fieldAddr aop_field aop_build aop_indexAddr aop_index aop_extract aop_len aop_min aop_max aop_ld aop_slS aop_slL aop_cvI aop_cvSB aop_cvBS aop_cvSS aop_box aop_alloc aop_store aop_lit aop_make aop_append aop_call aop_callt acallV_f put_some put_none ev_tmp ev_int ev_bool ev_str ev_nil ev_agg ev_func aval_some aval_ite aval_ite2 aeff_some aeff_ite asplitK_true asplitK_false aguard_bool aguard_skip acondK_bool asplitK_eqt asplitK_eqf asplitK_not seqQ_normal seqQ_exit seqQ_ret blockQ_normal blockQ_exit blockQ_exit' blockQ_ret retQ_ret retQ_normal aret_some ares_one ares_nil ares_two ares_three aret_ite abin_add abin_sub abin_mul abin_quo abin_rem abin_eql abin_neq abin_lss abin_leq abin_gtr abin_geq abin_beql abin_bneq aun_not qev_pick aidx_sl qev_fieldAddr lev_ld alen_str alen_sl
end Go.Proofs.YtgfilbekfkhjjaaGreat.Hz
/- Data on the plain heap: strings, elements, slices. -/
namespace Go.Proofs.YtgfilbekfkhjjaaGreat.Hz
open Go.RowKit
set_option linter.unusedVariables false
set_option linter.unusedSimpArgs false

/-! ### Strings are lists of bytes -/
abbrev Str := List UInt8
def S (l : Str) : ByteArray := ⟨l.toArray⟩
theorem S_size (l : Str) : (S l).size = l.length := by simp [S, ByteArray.size]
theorem S_toList (l : Str) : (S l).toList = l := by rw [ByteArray.toList_eq]; rfl
theorem S_append (a b : Str) : S a ++ S b = S (a ++ b) := by
  apply ByteArray.ext
  rw [ByteArray.data_append]
  simp [S]
theorem S_extract (l : Str) (i j : Nat) : (S l).extract i j = S ((l.take j).drop i) := by
  apply ByteArray.ext
  rw [ByteArray.data_extract]
  simp [S, List.extract_eq_take_drop, List.drop_take]
theorem S_data (l : Str) : (S l).data = l.toArray := rfl
theorem S_mk (l : Str) : ByteArray.mk (List.toArray l) = S l := rfl
theorem S_of (s : ByteArray) : s = S s.data.toList := by simp [S]
theorem S_inj {a b : Str} : S a = S b ↔ a = b := ⟨fun h => by have := congrArg (fun s => s.data.toList) h; simpa [S] using this, fun h => h ▸ rfl⟩
theorem bytesL_S (l : Str) : bytesL (S l) = l.map fun b => Value.int .u8 b.toNat := by simp [bytesL, S]
theorem strL_map : ∀ (l : Str), strL (l.map fun b => Value.int .u8 b.toNat) = some l
  | [] => rfl
  | b :: l => by simp [strL, strL_map l]

section
variable {P : Program}
theorem abin_sadd (t : TypeId) (a b : Str) : abin P .add t (.string (S a)) (.string (S b)) = if a.length + b.length ≤ 9223372036854775807 then some (.string (S (a ++ b))) else none := by simp [abin, S_size, S_append]
theorem abin_seql (t : TypeId) (a b : Str) : abin P .eql t (.string (S a)) (.string (S b)) = some (.bool (a == b)) := by simp [abin, S_toList]
theorem abin_sneq (t : TypeId) (a b : Str) : abin P .neq t (.string (S a)) (.string (S b)) = some (.bool !(a == b)) := by simp [abin, S_toList]
theorem abin_slss (t : TypeId) (a b : Str) : abin P .lss t (.string (S a)) (.string (S b)) = some (.bool (Op.bytesLess a b)) := by simp [abin, S_toList]
theorem abin_sleq (t : TypeId) (a b : Str) : abin P .leq t (.string (S a)) (.string (S b)) = some (.bool (Op.bytesLess a b || a == b)) := by simp [abin, S_toList]
theorem abin_sgtr (t : TypeId) (a b : Str) : abin P .gtr t (.string (S a)) (.string (S b)) = some (.bool !(Op.bytesLess a b || a == b)) := by simp [abin, S_toList]
theorem abin_sgeq (t : TypeId) (a b : Str) : abin P .geq t (.string (S a)) (.string (S b)) = some (.bool !(Op.bytesLess a b)) := by simp [abin, S_toList]
theorem astr_S (t : TypeId) (l : Str) (k : IntKind) (i : Int) (hs : strOf P t = true) : astr P t (.string (S l)) (.int k i) = if 0 ≤ i ∧ i < l.length then some (.int .u8 ((l[i.toNat]?).getD 0).toNat) else none := by
  simp only [astr, hs, Bool.true_and, decide_eq_true_eq, S_data]
  by_cases h0 : 0 ≤ i
  · by_cases h1 : i < l.length
    · have : i.toNat < l.length := by omega
      simp [h0, h1]
    · have : l.length ≤ i.toNat := by omega
      simp [h0, h1]
  · simp [h0]
theorem asl_ij (t : TypeId) (l : Str) (k k' : IntKind) (i j : Int) (hs : strOf P t = true) : asl P t (.string (S l)) (some (.int k i)) (some (.int k' j)) none = if 0 ≤ i ∧ i ≤ j ∧ j ≤ l.length then some (.string (S ((l.take j.toNat).drop i.toNat))) else none := by
  simp [asl, hs, bound, S_size, S_extract]
theorem asl_i (t : TypeId) (l : Str) (k : IntKind) (i : Int) (hs : strOf P t = true) : asl P t (.string (S l)) (some (.int k i)) none none = if 0 ≤ i ∧ i ≤ l.length then some (.string (S (l.drop i.toNat))) else none := by
  have : ((l.length : Int)).toNat = l.length := by omega
  simp [asl, hs, bound, S_size, S_extract]
theorem asl_j (t : TypeId) (l : Str) (k' : IntKind) (j : Int) (hs : strOf P t = true) : asl P t (.string (S l)) none (some (.int k' j)) none = if 0 ≤ j ∧ j ≤ l.length then some (.string (S (l.take j.toNat))) else none := by
  simp [asl, hs, bound, S_size, S_extract]
theorem alen_S (t : TypeId) (l : Str) (hs : strOf P t = true) : alen P t (.string (S l)) = some (.int .i64 l.length) := by simp [alen, hs, S_size]
end
attribute [simp] abin_sadd abin_seql abin_sneq abin_slss abin_sleq abin_sgtr abin_sgeq astr_S asl_ij asl_i asl_j alen_S S_mk S_size S_toList S_append S_inj

/-! ### How data stand in cells -/
structure Enc (α : Type) where
  n : Nat
  R : Hp → α → List Value → List Nat → Prop
  len : ∀ {h x cs F}, R h x cs F → cs.length = n
  ok : ∀ {h x cs F}, R h x cs F → cs.all okCell = true
  frame : ∀ {h h' : Hp} {x cs F}, R h x cs F → (∀ o ∈ F, h'[o]? = h[o]?) → R h' x cs F
  lt : ∀ {h : Hp} {x cs F}, R h x cs F → ∀ o ∈ F, o < h.length

/-- Plain cells. -/
def flatE {α : Type} (n : Nat) (f : α → List Value) (hn : ∀ x, (f x).length = n) (hok : ∀ x, (f x).all okCell = true) : Enc α where
  n := n
  R _ x cs F := cs = f x ∧ F = []
  len h := by rw [h.1]; exact hn _
  ok h := by rw [h.1]; exact hok _
  frame h _ := h
  lt h o ho := by rw [h.2] at ho; cases ho
def intE : Enc Int := flatE 1 (fun n => [.int .i64 n]) (fun _ => rfl) (fun _ => rfl)
def byteE : Enc UInt8 := flatE 1 (fun b => [.int .u8 b.toNat]) (fun _ => rfl) (fun _ => rfl)
def strE : Enc Str := flatE 1 (fun s => [.string (S s)]) (fun _ => rfl) (fun _ => rfl)
def boolE : Enc Bool := flatE 1 (fun b => [.bool b]) (fun _ => rfl) (fun _ => rfl)

def rowsR {α : Type} (A : Enc α) (h : Hp) : List α → List (List Value) → List (List Nat) → Prop
  | [], [], [] => True
  | x :: xs, c :: cs, F :: Fs => A.R h x c F ∧ rowsR A h xs cs Fs
  | _, _, _ => False
section
variable {α : Type} {A : Enc α} {h h' : Hp}
theorem rowsR.len : ∀ {xs : List α} {css : List (List Value)} {Fs : List (List Nat)}, rowsR A h xs css Fs → css.length = xs.length ∧ Fs.length = xs.length ∧ css.flatten.length = xs.length * A.n
  | [], [], [], _ => ⟨rfl, rfl, by simp⟩
  | x :: xs, c :: cs, F :: Fs, k => by
    obtain ⟨h1, h2, h3⟩ := rowsR.len k.2
    have := A.len k.1
    refine ⟨by simp [h1], by simp [h2], ?_⟩
    simp only [List.flatten_cons, List.length_append, List.length_cons, h3, this, Nat.add_mul]
    omega
  | [], [], _ :: _, k => k.elim
  | [], _ :: _, _, k => k.elim
  | _ :: _, [], _, k => k.elim
  | _ :: _, _ :: _, [], k => k.elim
theorem rowsR.ok : ∀ {xs : List α} {css : List (List Value)} {Fs : List (List Nat)}, rowsR A h xs css Fs → css.flatten.all okCell = true
  | [], [], [], _ => rfl
  | x :: xs, c :: cs, F :: Fs, k => by
    simp only [List.flatten_cons, List.all_append, A.ok k.1, rowsR.ok k.2, Bool.and_self]
  | [], [], _ :: _, k => k.elim
  | [], _ :: _, _, k => k.elim
  | _ :: _, [], _, k => k.elim
  | _ :: _, _ :: _, [], k => k.elim
theorem rowsR.frame : ∀ {xs : List α} {css : List (List Value)} {Fs : List (List Nat)}, rowsR A h xs css Fs → (∀ o ∈ Fs.flatten, h'[o]? = h[o]?) → rowsR A h' xs css Fs
  | [], [], [], _, _ => trivial
  | x :: xs, c :: cs, F :: Fs, k, e => ⟨A.frame k.1 fun o ho => e o (by simp [ho]), rowsR.frame k.2 fun o ho => e o (by simp only [List.flatten_cons, List.mem_append]; exact .inr ho)⟩
  | [], [], _ :: _, k, _ => k.elim
  | [], _ :: _, _, k, _ => k.elim
  | _ :: _, [], _, k, _ => k.elim
  | _ :: _, _ :: _, [], k, _ => k.elim
theorem rowsR.lt : ∀ {xs : List α} {css : List (List Value)} {Fs : List (List Nat)}, rowsR A h xs css Fs → ∀ o ∈ Fs.flatten, o < h.length
  | [], [], [], _, o, ho => by simp at ho
  | x :: xs, c :: cs, F :: Fs, k, o, ho => by
    simp only [List.flatten_cons, List.mem_append] at ho
    rcases ho with ho | ho
    · exact A.lt k.1 o ho
    · exact rowsR.lt k.2 o ho
  | [], [], _ :: _, k, _, _ => k.elim
  | [], _ :: _, _, k, _, _ => k.elim
  | _ :: _, [], _, k, _, _ => k.elim
  | _ :: _, _ :: _, [], k, _, _ => k.elim
theorem rowsR.append : ∀ {xs ys : List α} {c1 c2 : List (List Value)} {F1 F2 : List (List Nat)}, rowsR A h xs c1 F1 → rowsR A h ys c2 F2 → rowsR A h (xs ++ ys) (c1 ++ c2) (F1 ++ F2)
  | [], _, [], _, [], _, _, k => k
  | _ :: _, _, _ :: _, _, _ :: _, _, h, k => ⟨h.1, rowsR.append h.2 k⟩
  | [], _, [], _, _ :: _, _, h, _ => h.elim
  | [], _, _ :: _, _, _, _, h, _ => h.elim
  | _ :: _, _, [], _, _, _, h, _ => h.elim
  | _ :: _, _, _ :: _, _, [], _, h, _ => h.elim
theorem rowsR.get : ∀ {xs : List α} {css : List (List Value)} {Fs : List (List Nat)} (_ : rowsR A h xs css Fs) (i : Nat) (x : α), xs[i]? = some x → ∃ c F, css[i]? = some c ∧ Fs[i]? = some F ∧ A.R h x c F ∧ ∀ j, j < A.n → css.flatten[i * A.n + j]? = c[j]?
  | x :: xs, c :: cs, F :: Fs, k, 0, y, e => by
    simp at e; subst e
    refine ⟨c, F, rfl, rfl, k.1, fun j hj => ?_⟩
    simp only [Nat.zero_mul, Nat.zero_add, List.flatten_cons]
    exact List.getElem?_append_left (by rw [A.len k.1]; exact hj)
  | x :: xs, c :: cs, F :: Fs, k, i + 1, y, e => by
    obtain ⟨c', F', h1, h2, h3, h4⟩ := rowsR.get k.2 i y (by simpa using e)
    refine ⟨c', F', by simpa using h1, by simpa using h2, h3, fun j hj => ?_⟩
    rw [← h4 j hj, List.flatten_cons, List.getElem?_append_right (by rw [A.len k.1, Nat.add_mul]; omega), A.len k.1]
    congr 1
    rw [Nat.add_mul]; omega
  | [], [], [], _, _, _, e => by simp at e
  | [], [], _ :: _, k, _, _, _ => k.elim
  | [], _ :: _, _, k, _, _, _ => k.elim
  | _ :: _, [], _, k, _, _, _ => k.elim
  | _ :: _, _ :: _, [], k, _, _, _ => k.elim
end

/-- A slice that reads as a list: its elements' type, may it be written. -/
def slR {α : Type} (w : Bool) (e : TypeId) (A : Enc α) (h : Hp) (xs : List α) (a : Option Addr) (F : List Nat) : Prop :=
  match a with
  | none => xs = [] ∧ F = []
  | some a => a.spot = none ∧ ∃ ob css Fs pre post, h[a.block]? = some ob ∧ ob.live = true ∧ (w = true → ob.rw = true) ∧ ob.elem = e ∧ F = a.block :: Fs.flatten ∧ rowsR A h xs css Fs ∧ ob.cells = pre ++ css.flatten ++ post ∧ pre.length = a.off
section
variable {α : Type} {A : Enc α} {h h' : Hp} {w : Bool} {e : TypeId} {xs : List α} {a : Option Addr} {F : List Nat}
theorem slR.frame (k : slR w e A h xs a F) (hf : ∀ o ∈ F, h'[o]? = h[o]?) : slR w e A h' xs a F := by
  unfold slR at *
  cases a with
  | none => exact k
  | some a =>
    obtain ⟨h0, ob, css, Fs, pre, post, h1, h2, h3, h4, rfl, h5, h6, h7⟩ := k
    exact ⟨h0, ob, css, Fs, pre, post, by rw [hf _ (by simp)]; exact h1, h2, h3, h4, rfl, h5.frame fun o ho => hf o (by simp only [List.mem_cons]; exact .inr ho), h6, h7⟩
theorem slR.lt (k : slR w e A h xs a F) : ∀ o ∈ F, o < h.length := by
  unfold slR at k
  cases a with
  | none => obtain ⟨_, rfl⟩ := k; intro o ho; cases ho
  | some a =>
    obtain ⟨h0, ob, css, Fs, pre, post, h1, h2, h3, h4, rfl, h5, h6, h7⟩ := k
    intro o ho
    rcases List.mem_cons.1 ho with rfl | ho
    · exact (List.getElem?_eq_some_iff.1 h1).1
    · exact h5.lt o ho
theorem slR.ext (k : slR w e A h xs a F) (hx : Ext h h') : slR w e A h' xs a F := k.frame fun o ho => hx.2 o (k.lt o ho)
theorem slR.weak (k : slR w e A h xs a F) : slR false e A h xs a F := by
  unfold slR at *
  cases a with
  | none => exact k
  | some a =>
    obtain ⟨h0, ob, css, Fs, pre, post, h1, h2, h3, h4⟩ := k
    exact ⟨h0, ob, css, Fs, pre, post, h1, h2, (fun hh => by cases hh), h4⟩
/-- An element. -/
theorem slR.at_ (k : slR w e A h xs a F) {i : Nat} {x : α} (hx : xs[i]? = some x) : ∃ o off c Fi, a = some ⟨o, off, none⟩ ∧ A.R h x c Fi ∧ (∀ q ∈ Fi, q ∈ F) ∧ ∀ j, j < A.n → cellAt h o (off + i * A.n + j) = c[j]? := by
  unfold slR at k
  cases a with
  | none => obtain ⟨rfl, _⟩ := k; simp at hx
  | some a =>
    obtain ⟨h0, ob, css, Fs, pre, post, h1, h2, h3, h4, rfl, h5, h6, h7⟩ := k
    obtain ⟨c, Fi, g1, g2, g3, g4⟩ := h5.get i x hx
    refine ⟨a.block, a.off, c, Fi, by cases a; simp at h0; simp [h0], g3, fun q hq => by simp only [List.mem_cons]; exact .inr (List.mem_flatten.2 ⟨Fi, List.mem_of_getElem? g2, hq⟩), fun j hj => ?_⟩
    have hlen := h5.len.2.2
    have hi : i < xs.length := (List.getElem?_eq_some_iff.1 hx).1
    have hb : i * A.n + j < xs.length * A.n := by
      have : (i + 1) * A.n ≤ xs.length * A.n := Nat.mul_le_mul_right _ hi
      rw [Nat.add_mul] at this
      omega
    unfold cellAt
    rw [h1]
    simp only [h2, if_true]
    rw [← g4 j hj, h6, List.append_assoc, List.getElem?_append_right (by omega), List.getElem?_append_left (by omega)]
    congr 1
    omega
theorem cellsAt_of {o : Nat} : ∀ {cs : List Value} {i : Nat}, (∀ j, j < cs.length → cellAt h o (i + j) = cs[j]?) → cellsAt h o i cs.length = some cs
  | [], _, _ => rfl
  | c :: cs, i, k => by
    have h0 := k 0 (by simp)
    simp only [Nat.add_zero, List.getElem?_cons_zero] at h0
    have h1 : cellsAt h o (i + 1) cs.length = some cs := cellsAt_of fun j hj => by
      have := k (j + 1) (by simp; omega)
      simpa [Nat.add_assoc, Nat.add_comm 1] using this
    simp only [List.length_cons, cellsAt, h0, h1]
    rfl
/-- All cells. -/
theorem slR.cells {o off : Nat} (k : slR w e A h xs (some ⟨o, off, none⟩) F) : ∃ cs, cellsAt h o off (xs.length * A.n) = some cs ∧ cs.length = xs.length * A.n ∧ ∃ css Fs, cs = css.flatten ∧ rowsR A h xs css Fs ∧ F = o :: Fs.flatten := by
  obtain ⟨h0, ob, css, Fs, pre, post, h1, h2, h3, h4, rfl, h5, h6, h7⟩ := k
  have hlen := h5.len.2.2
  refine ⟨css.flatten, ?_, hlen, css, Fs, rfl, h5, rfl⟩
  rw [← hlen]
  refine cellsAt_of fun j hj => ?_
  unfold cellAt
  simp only at h7
  rw [h1]
  simp only [h2, if_true]
  rw [h6, List.append_assoc, List.getElem?_append_right (by omega), List.getElem?_append_left (by omega)]
  congr 1
  omega
theorem slR.el {o off : Nat} (k : slR w e A h xs (some ⟨o, off, none⟩) F) : elAt h o = some e := by
  obtain ⟨h0, ob, css, Fs, pre, post, h1, h2, h3, h4, _⟩ := k
  simp only at h1
  simp [elAt, h1, h4]
end
end Go.Proofs.YtgfilbekfkhjjaaGreat.Hz
