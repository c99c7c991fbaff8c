/- Regions: an operation's step on the plain heap, and why the order that a region draws does not matter. -/
import Derived.Test.YtidkkmkihifeoaaHzH
namespace Go.Proofs.Ytidkkmkihifeoaa.Hz
open Go.RowKit
set_option linter.unusedVariables false
set_option linter.unusedSimpArgs false

/-- All old objects are as they were. -/
def Ext (h h' : Hp) : Prop := h.length ≤ h'.length ∧ ∀ o, o < h.length → h'[o]? = h[o]?
theorem Ext.refl (h : Hp) : Ext h h := ⟨Nat.le_refl _, fun _ _ => rfl⟩
theorem Ext.trans {a b c : Hp} (h : Ext a b) (k : Ext b c) : Ext a c := ⟨Nat.le_trans h.1 k.1, fun o ho => (k.2 o (by have := h.1; omega)).trans (h.2 o ho)⟩
theorem Ext.push (h t : Hp) : Ext h (h ++ t) := ⟨by simp, fun o ho => List.getElem?_append_left ho⟩

def put (tm : List Value) (d : Option Tmp) (v : Value) : List Value :=
  match d with
  | some d => tm.set d v
  | none => tm

section
variable (P : Program)

/-- What a call comes to in the machine. -/
def CallsV (f : FuncId) (args : Array Value) (w : World) (S : Value → World → Prop) : Prop :=
  match (callFunc f args).run P w with
  | .ok (.enter g bs) w1 => Calls P g bs w1 fun e w2 => ∃ v, e = .returned v ∧ S v w2
  | .ok (.value v) w1 => S v w1
  | _ => False

/-- A CONTRACT: a call of f, on the plain heap. -/
def ACall (f : FuncId) (args : List Value) (h : Hp) (R : Value → Hp → Prop) : Prop :=
  ∀ (B : Nat) (w0 : World) (φ : Inj) (w : World) (args' : List Value), Rel P B w0 φ h w → All2 (RelV φ) args args' →
    CallsV P f args'.toArray w fun v' w' => ∃ φ' v h', φ <+: φ' ∧ Rel P B w0 φ' h' w' ∧ RelV φ' v v' ∧ R v h'

def asplit (b : Bool) (A B : Prop) : Prop := (b = true → A) ∧ (b = false → B)

def aop (wk : Bool) (o : Oper) (tm : List Value) (h : Hp) (K : List Value → Hp → Prop) : Prop :=
  match o.op with
  | .call { callee := .value f, args, .. } =>
    match ev tm f with
    | .func (.func g) first cap => first = #[] ∧ ACall P g (args.toList.map (ev tm) ++ cap.toList) h fun v h' => (wk = true → Ext h h') ∧ K (put tm o.dst v) h'
    | _ => False
  | op =>
    match kdOf P op with
    | .pure => ∃ v, qev P (ev tm) op = some v ∧ K (put tm o.dst v) h
    | .load => ∃ v, lev P h (ev tm) op = some v ∧ K (put tm o.dst v) h
    | .call => False
    | _ => ∃ v h', eev P h (ev tm) op = some (v, h') ∧ K (put tm o.dst v) h'

/-- The guard's slot. -/
def gslot (ops : Array Oper) (tm : List Value) (j : Nat) : Option Value := ((ops[j]?).bind (·.dst)).bind (tm[·]?)
def astep (ops : Array Oper) (wk : Bool) (o : Oper) (tm : List Value) (h : Hp) (K : List Value → Hp → Prop) : Prop :=
  match o.guard with
  | none => aop P wk o tm h K
  | some (j, want) =>
    match gslot ops tm j with
    | some (.bool b) => asplit (b == want) (aop P wk o tm h K) (K (put tm o.dst undef) h)
    | some (.tuple vs) => if vs = #[] then K (put tm o.dst undef) h else False
    | _ => False

def aops (ops : Array Oper) (wk : Nat → Bool) : List Nat → List Value → Hp → (List Value → Hp → Prop) → Prop
  | [], tm, h, K => K tm h
  | i :: rest, tm, h, K =>
    match ops[i]? with
    | none => aops ops wk rest tm h K
    | some o => astep P ops (wk i) o tm h fun tm h => aops ops wk rest tm h K
end

structure RelSt (P : Program) (B : Nat) (w0 : World) (φ : Inj) (tm : List Value) (h : Hp) (a : Act) (w : World) : Prop where
  tm : All2 (RelV φ) tm a.tmps.toList
  df : a.defers = []
  hp : Rel P B w0 φ h w

section
variable {P : Program} {B : Nat} {w0 w : World} {φ : Inj} {h : Hp} {tm : List Value} {a : Act}

theorem RelSt.ev (R : RelSt P B w0 φ tm h a w) (x : Operand) : RelV φ (ev tm x) (a.eval x) := relTm_ev R.tm a.defers x
theorem RelSt.put (R : RelSt P B w0 φ tm h a w) {φ' : Inj} {h' : Hp} {w' : World} {v v' : Value} (d : Option Tmp) (hφ : φ <+: φ') (hr : Rel P B w0 φ' h' w') (hv : RelV φ' v v') : RelSt P B w0 φ' (put tm d v) h' (a.put d v') w' := by
  have ht : All2 (RelV φ') tm a.tmps.toList := R.tm.mono fun _ _ r => r.mono hφ
  cases d with
  | none => exact ⟨ht, R.df, hr⟩
  | some d =>
    refine ⟨?_, R.df, hr⟩
    show All2 (RelV φ') (tm.set d v) (a.tmps.setIfInBounds d v').toList
    rw [Array.toList_setIfInBounds]
    exact ht.set d hv

theorem ACall.mono {f : FuncId} {args : List Value} {R R' : Value → Hp → Prop} (k : ACall P f args h R) (hr : ∀ v h', R v h' → R' v h') : ACall P f args h R' := by
  intro B w0 φ w args' hrel hargs
  have := k B w0 φ w args' hrel hargs
  unfold CallsV at *
  split at this
  · rename_i g bs w1 he
    refine this.mono fun e w2 ⟨v, h1, φ', v0, h', p1, p2, p3, p4⟩ => ⟨v, h1, φ', v0, h', p1, p2, p3, hr _ _ p4⟩
  · rename_i v w1 he
    obtain ⟨φ', v0, h', p1, p2, p3, p4⟩ := this
    exact ⟨φ', v0, h', p1, p2, p3, hr _ _ p4⟩
  · exact this

theorem aop_mono {wk : Bool} {o : Oper} {K K' : List Value → Hp → Prop} (hk : ∀ tm h, K tm h → K' tm h) (k : aop P wk o tm h K) : aop P wk o tm h K' := by
  unfold aop at *
  split at k
  · split at k
    · exact ⟨k.1, k.2.mono fun v h' ⟨h1, h2⟩ => ⟨h1, hk _ _ h2⟩⟩
    · exact k
  · split at k
    · obtain ⟨v, h1, h2⟩ := k; exact ⟨v, h1, hk _ _ h2⟩
    · obtain ⟨v, h1, h2⟩ := k; exact ⟨v, h1, hk _ _ h2⟩
    · exact k
    · obtain ⟨v, h', h1, h2⟩ := k; exact ⟨v, h', h1, hk _ _ h2⟩

/-- One operation in the machine. -/
theorem aop_sound {wk : Bool} {o : Oper} {K : List Value → Hp → Prop} (k : aop P wk o tm h K) (R : RelSt P B w0 φ tm h a w) (Q : Exit → Act → World → Prop) :
    o.wp P a w (fun a' w' => ∃ φ' tm' h', φ <+: φ' ∧ RelSt P B w0 φ' tm' h' a' w' ∧ K tm' h') Q := by
  unfold aop at k
  split at k
  · rename_i f args argTypes hop
    have hf := R.ev f
    split at k
    · rename_i g first cap hev
      obtain ⟨rfl, k⟩ := k
      rw [hev] at hf
      obtain ⟨_, cap', hf', hcap⟩ := hf
      have hargs : All2 (RelV φ) (args.toList.map (Hz.ev tm) ++ cap.toList) (args.toList.map a.eval ++ cap'.toList) :=
        (All2.map2 _ _ fun c _ => R.ev c).append (hcap.mono fun x y r => relV_of (by
          unfold RelC
          split
          · simp [RelC0] at r
          · exact r))
      have hc := k B w0 φ w _ R.hp hargs
      have harr : (args.toList.map a.eval ++ cap'.toList).toArray = args.map a.eval ++ cap' := by
        apply Array.ext'
        simp
      rw [harr] at hc
      unfold Oper.wp
      have hex : (execOp a.eval o).run P w = (callFunc g (args.map a.eval ++ cap')).run P w := by
        obtain ⟨dst, op, type, pos, after, guard⟩ := o
        simp only at hop
        subst hop
        simp [execOp, resolve, Deferred.ofValue, hf', invoke]
      rw [hex]
      unfold CallsV at hc
      split at hc
      · rename_i g' bs w1 he
        rw [he]
        simp only [Oper.upon]
        refine hc.mono fun e w2 ⟨v', he', φ', v, h', p1, p2, p3, p4, p5⟩ => ?_
        subst he'
        exact ⟨φ', _, h', p1, R.put o.dst p1 p2 p3, p5⟩
      · rename_i v' w1 he
        rw [he]
        obtain ⟨φ', v, h', p1, p2, p3, p4, p5⟩ := hc
        exact ⟨φ', _, h', p1, R.put o.dst p1 p2 p3, p5⟩
      · exact hc.elim
    · exact k.elim
  · unfold Oper.wp
    split at k
    · obtain ⟨v, h1, h2⟩ := k
      obtain ⟨v', r1, r2⟩ := qev_sound (P := P) (fun x => R.ev x) h1
      rw [r1 w]
      exact ⟨φ, _, h, List.prefix_refl _, R.put o.dst (List.prefix_refl _) R.hp r2, h2⟩
    · obtain ⟨v, h1, h2⟩ := k
      obtain ⟨v', r1, r2⟩ := lev_sound R.hp (fun x => R.ev x) h1
      rw [r1]
      exact ⟨φ, _, h, List.prefix_refl _, R.put o.dst (List.prefix_refl _) R.hp r2, h2⟩
    · exact k.elim
    · obtain ⟨v, h', h1, h2⟩ := k
      obtain ⟨φ', v', w', r1, r2, r3, r4⟩ := eev_sound R.hp (fun x => R.ev x) h1
      rcases r1 with r1 | ⟨r1, rfl⟩
      · rw [r1]
        exact ⟨φ', _, h', r2, R.put o.dst r2 r3 r4, h2⟩
      · rw [r1]
        exact ⟨φ', _, h', r2, R.put o.dst r2 r3 r4, h2⟩

theorem gslot_bool {ops : Array Oper} (R : RelSt P B w0 φ tm h a w) {j : Nat} {b : Bool} (e : gslot ops tm j = some (.bool b)) : yielded ops a.tmps j = some b := by
  unfold gslot at e
  simp only [Option.bind_eq_some_iff] at e
  obtain ⟨t, ht, e⟩ := e
  obtain ⟨v', k, r⟩ := R.tm.get t _ e
  obtain rfl := rBool (φ := φ) r
  have : a.tmps[t]? = some (.bool b) := by simpa using k
  unfold yielded
  have h2 : ((ops[j]?).bind (·.dst)).bind (a.tmps[·]?) = some (.bool b) := by
    rw [Option.bind_eq_some_iff]
    exact ⟨t, by rw [Option.bind_eq_some_iff]; exact ht, this⟩
  rw [h2]
theorem gslot_undef {ops : Array Oper} (R : RelSt P B w0 φ tm h a w) {j : Nat} (e : gslot ops tm j = some (.tuple #[])) : yielded ops a.tmps j = none := by
  unfold gslot at e
  simp only [Option.bind_eq_some_iff] at e
  obtain ⟨t, ht, e⟩ := e
  obtain ⟨v', k, r⟩ := R.tm.get t _ e
  obtain ⟨vs', rfl, hvs⟩ := r
  have : a.tmps[t]? = some (.tuple vs') := by simpa using k
  unfold yielded
  have h2 : ((ops[j]?).bind (·.dst)).bind (a.tmps[·]?) = some (.tuple vs') := by
    rw [Option.bind_eq_some_iff]
    exact ⟨t, by rw [Option.bind_eq_some_iff]; exact ht, this⟩
  rw [h2]

theorem astep_sound {ops : Array Oper} {wk : Bool} {i : Nat} {o : Oper} {K : List Value → Hp → Prop} (hi : ops[i]? = some o) (k : astep P ops wk o tm h K) (R : RelSt P B w0 φ tm h a w) (Q : Exit → Act → World → Prop) :
    wpOp P ops Q i (fun a' w' => ∃ φ' tm' h', φ <+: φ' ∧ RelSt P B w0 φ' tm' h' a' w' ∧ K tm' h') a w := by
  unfold wpOp
  simp only [hi]
  unfold astep at k
  split at k
  · rename_i hg
    rw [if_pos (by unfold Region.wanted; rw [hg])]
    exact .inl (aop_sound k R Q)
  · rename_i j want hg
    have skip : K (put tm o.dst undef) h → ∃ φ' tm' h', φ <+: φ' ∧ RelSt P B w0 φ' tm' h' (a.put o.dst undef) w ∧ K tm' h' :=
      fun hk => ⟨φ, _, h, List.prefix_refl _, R.put o.dst (List.prefix_refl _) R.hp (relV_undef φ), hk⟩
    split at k
    · rename_i b hb
      have hy := gslot_bool R hb
      have hw : Region.wanted o (yielded ops a.tmps) = (b == want) := by
        unfold Region.wanted
        rw [hg]
        simp only [hy]
        cases b <;> cases want <;> rfl
      rw [hw]
      cases hbw : (b == want) with
      | true => exact .inl (aop_sound (k.1 hbw) R Q)
      | false => exact skip (k.2 hbw)
    · rename_i vs hb
      split at k
      · rename_i hvs
        subst hvs
        have hy := gslot_undef R hb
        have hw : Region.wanted o (yielded ops a.tmps) = false := by
          unfold Region.wanted
          rw [hg]
          simp only [hy]
          rfl
        rw [hw]
        exact skip k
      · exact k.elim
    · exact k.elim

theorem aops_sound {ops : Array Oper} {wk : Nat → Bool} {Q : Exit → Act → World → Prop} : ∀ (l : List Nat) {φ : Inj} {tm : List Value} {h : Hp} {a : Act} {w : World} {K : List Value → Hp → Prop}, aops P ops wk l tm h K → RelSt P B w0 φ tm h a w →
    (∀ φ' tm' h' a' w', φ <+: φ' → RelSt P B w0 φ' tm' h' a' w' → K tm' h' → Q .normal a' w') → wpOps P ops Q l a w
  | [], φ, tm, h, a, w, K, k, R, hQ => hQ φ tm h a w (List.prefix_refl _) R k
  | i :: rest, φ, tm, h, a, w, K, k, R, hQ => by
    rw [wpOps_cons]
    unfold aops at k
    cases hi : ops[i]? with
    | none =>
      simp only [hi] at k
      unfold wpOp
      simp only [hi]
      exact aops_sound rest k R hQ
    | some o =>
      simp only [hi] at k
      refine wpOp_mono ?_ (astep_sound hi k R Q)
      rintro a' w' ⟨φ', tm', h', p1, p2, p3⟩
      exact aops_sound rest p3 p2 fun φ2 tm2 h2 a2 w2 q1 q2 q3 => hQ φ2 tm2 h2 a2 w2 (p1.trans q1) q2 q3
end
end Go.Proofs.Ytidkkmkihifeoaa.Hz
