/- A region that draws its order: every order comes to what the text's order comes to. -/
import Derived.Test.YtidkkmkihifeoaaHzI
namespace Go.Proofs.Ytidkkmkihifeoaa.Hz
open Go.RowKit
set_option linter.unusedVariables false
set_option linter.unusedSimpArgs false

section
variable {P : Program}

theorem mapO {ρ ρ' : Operand → Value} : ∀ (o : Option Operand), (∀ x ∈ o.toArray, ρ x = ρ' x) → o.map ρ = o.map ρ'
  | none, _ => rfl
  | some x, h => by simp [h x (by simp)]
theorem mapL {ρ ρ' : Operand → Value} (l : List Operand) (h : ∀ x ∈ l, ρ x = ρ' x) : l.map ρ = l.map ρ' := List.map_congr_left h

theorem qev_congr {ρ ρ' : Operand → Value} (op : Op) (h : ∀ x ∈ op.operands, ρ x = ρ' x) : qev P ρ op = qev P ρ' op := by
  cases op with
  | move x => simp [qev, h x (by simp [Op.operands])]
  | assign x => simp [qev, h x (by simp [Op.operands])]
  | pick c a b => simp only [qev, h c (by simp [Op.operands]), h a (by simp [Op.operands]), h b (by simp [Op.operands])]
  | nilCheck x => simp only [qev, h x (by simp [Op.operands])]
  | binOp op t x y u => simp only [qev, h x (by simp [Op.operands]), h y (by simp [Op.operands])]
  | unOp op t x => simp only [qev, h x (by simp [Op.operands])]
  | convert s d x => simp only [qev, h x (by simp [Op.operands])]
  | fieldAddr t x f => simp only [qev, h x (by simp [Op.operands])]
  | field t x f => simp only [qev, h x (by simp [Op.operands])]
  | indexAddr t x y => simp only [qev, h x (by simp [Op.operands]), h y (by simp [Op.operands])]
  | index t x y => simp only [qev, h x (by simp [Op.operands]), h y (by simp [Op.operands])]
  | extract x i => simp only [qev, h x (by simp [Op.operands])]
  | slice t x lo hi mx =>
    simp only [qev, h x (by simp [Op.operands]), mapO lo fun y hy => h y (by simp [Op.operands] at hy ⊢; simp [hy]), mapO hi fun y hy => h y (by simp [Op.operands] at hy ⊢; simp [hy]), mapO mx fun y hy => h y (by simp [Op.operands] at hy ⊢; simp [hy])]
  | makeFunc fn first cap =>
    cases fn with
    | func g =>
      have hc : cap.map ρ = cap.map ρ' := Array.map_congr_left fun x hx => h x (by simp [Op.operands, hx])
      have hc2 : cap.toList.map ρ = cap.toList.map ρ' := mapL _ fun x hx => h x (by simp [Op.operands] at hx ⊢; simp [hx])
      simp only [qev, hc, hc2]
    | _ => simp only [qev]
  | build t parts =>
    have : (parts.toList.map fun p => (p.1, ρ p.2)) = parts.toList.map fun p => (p.1, ρ' p.2) := List.map_congr_left fun p hp => by rw [h p.2 (by simp only [Op.operands]; simp at hp ⊢; exact ⟨_, hp⟩)]
    simp only [qev, this]
  | call c =>
    obtain ⟨cal, args, ts⟩ := c
    have ha : args.toList.map ρ = args.toList.map ρ' := mapL _ fun x hx => h x (by simp only [Op.operands, Call.operands]; simp at hx ⊢; simp [hx])
    have h1 : ∀ x, args.toList = [x] → ρ x = ρ' x := fun x hx => h x (by simp only [Op.operands, Call.operands]; have : x ∈ args.toList := by rw [hx]; simp
                                                                         simp at this ⊢; simp [this])
    cases cal with
    | builtin b =>
      cases b with
      | len =>
        simp only [qev]
        split
        · rename_i t x ht hx
          rw [h1 x hx]
        · rfl
      | min => simp only [qev, ha]
      | max => simp only [qev, ha]
      | _ => simp only [qev]
    | _ => simp only [qev]
  | _ => simp only [qev]

theorem lev_congr {h0 : Hp} {ρ ρ' : Operand → Value} (op : Op) (h : ∀ x ∈ op.operands, ρ x = ρ' x) : lev P h0 ρ op = lev P h0 ρ' op := by
  cases op with
  | load t x => simp only [lev, h x (by simp [Op.operands])]
  | convert s d x => simp only [lev, h x (by simp [Op.operands])]
  | slice t x lo hi mx =>
    simp only [lev, h x (by simp [Op.operands]), mapO lo fun y hy => h y (by simp [Op.operands] at hy ⊢; simp [hy]), mapO hi fun y hy => h y (by simp [Op.operands] at hy ⊢; simp [hy]), mapO mx fun y hy => h y (by simp [Op.operands] at hy ⊢; simp [hy])]
  | _ => simp only [lev]

theorem eev_congr {h0 : Hp} {ρ ρ' : Operand → Value} (op : Op) (h : ∀ x ∈ op.operands, ρ x = ρ' x) : eev P h0 ρ op = eev P h0 ρ' op := by
  cases op with
  | box t x => simp only [eev, h x (by simp [Op.operands])]
  | store t x y => simp only [eev, h x (by simp [Op.operands]), h y (by simp [Op.operands])]
  | convert s d x => simp only [eev, h x (by simp [Op.operands])]
  | makeSlice t x y => simp only [eev, h x (by simp [Op.operands]), h y (by simp [Op.operands])]
  | buildSlice t n parts =>
    have : (parts.toList.map fun p => (p.1, ρ p.2)) = parts.toList.map fun p => (p.1, ρ' p.2) := List.map_congr_left fun p hp => by rw [h p.2 (by simp only [Op.operands]; simp at hp ⊢; exact ⟨_, hp⟩)]
    simp only [eev, this]
  | call c =>
    obtain ⟨cal, args, ts⟩ := c
    have h1 : ∀ x y, args.toList = [x, y] → ρ x = ρ' x ∧ ρ y = ρ' y := fun x y hx => by
      have hm : ∀ z ∈ args.toList, ρ z = ρ' z := fun z hz => h z (by simp only [Op.operands, Call.operands]; simp at hz ⊢; simp [hz])
      exact ⟨hm x (by rw [hx]; simp), hm y (by rw [hx]; simp)⟩
    have h2 : ∀ x, args.toList = [x] → ρ x = ρ' x := by
      intro x hx
      have hm : x ∈ args.toList := by rw [hx]; simp
      refine h x ?_
      simp only [Op.operands, Call.operands]
      simp at hm ⊢
      simp [hm]
    cases cal with
    | builtin b =>
      cases b with
      | append =>
        simp only [eev]
        split
        · rename_i st xt s x ht hx
          rw [(h1 s x hx).1, (h1 s x hx).2]
        · rfl
      | copy =>
        simp only [eev]
        split
        · rename_i t st d s ht hx
          rw [(h1 d s hx).1, (h1 d s hx).2]
        · rfl
      | clear =>
        simp only [eev]
        split
        · rename_i t x ht hx
          rw [h2 x hx]
        · rfl
      | _ => simp only [eev]
    | _ => simp only [eev]
  | _ => simp only [eev]

theorem ev_put {tm : List Value} {d : Option Tmp} {v : Value} {x : Operand} (h : ∀ t, d = some t → x ≠ .tmp t) : ev (put tm d v) x = ev tm x := by
  cases d with
  | none => rfl
  | some d =>
    cases x with
    | tmp t =>
      have hne : d ≠ t := fun e => h d rfl (e ▸ rfl)
      simp [ev, put, List.getElem?_set_ne hne]
    | _ => rfl
theorem put_comm (tm : List Value) {x y : Option Tmp} (v u : Value) (h : ∀ d, x = some d → y ≠ some d) : put (put tm x v) y u = put (put tm y u) x v := by
  cases x with
  | none => rfl
  | some d =>
    cases y with
    | none => rfl
    | some e =>
      have hne : d ≠ e := fun he => h d rfl (he ▸ rfl)
      exact List.set_comm _ _ hne

variable {ops : Array Oper} {tm : List Value} {h : Hp}

theorem ev_apart {o : Oper} {d : Option Tmp} {v : Value} (k : ∀ t, d = some t → t ∉ o.looksAt ops) : ∀ x ∈ o.op.operands, ev (put tm d v) x = ev tm x := fun x hx => ev_put fun t ht hxt => k t ht (by
  subst hxt
  exact List.mem_append_left _ (List.mem_filterMap.2 ⟨.tmp t, by simpa using hx, rfl⟩))
theorem gslot_apart {o : Oper} {d : Option Tmp} {v : Value} (k : ∀ t, d = some t → t ∉ o.looksAt ops) {j : Nat} {want : Bool} (hg : o.guard = some (j, want)) : gslot ops (put tm d v) j = gslot ops tm j := by
  cases d with
  | none => rfl
  | some d =>
    unfold gslot
    cases ht : (ops[j]?).bind (·.dst) with
    | none => rfl
    | some t =>
      have hne : d ≠ t := fun e => k d rfl (by subst e; simp [Oper.looksAt, hg, ht])
      simp [put, List.getElem?_set_ne hne]

theorem aop_apart {wk : Bool} {o : Oper} {d : Option Tmp} {v : Value} (k : ∀ t, d = some t → t ∉ o.looksAt ops) (kd : ∀ t, d = some t → o.dst ≠ some t) (K : List Value → Hp → Prop) :
    aop P wk o (put tm d v) h K ↔ aop P wk o tm h (fun tm' h' => K (put tm' d v) h') := by
  have he := ev_apart (tm := tm) (v := v) k
  have hp : ∀ u, put (put tm d v) o.dst u = put (put tm o.dst u) d v := fun u => put_comm tm v u kd
  unfold aop
  split
  · rename_i f args argTypes hop
    rw [hop] at he
    have hf : ev (put tm d v) f = ev tm f := he f (by simp [Op.operands, Call.operands])
    have ha : args.toList.map (ev (put tm d v)) = args.toList.map (ev tm) := mapL _ fun x hx => he x (by simp [Op.operands, Call.operands] at hx ⊢; simp [hx])
    rw [hf]
    split
    · rw [ha]
      simp only [hp]
    · exact Iff.rfl
  · split
    · rw [qev_congr o.op he]; simp only [hp]
    · rw [lev_congr o.op he]; simp only [hp]
    · exact Iff.rfl
    · rw [eev_congr o.op he]; simp only [hp]
theorem astep_apart {wk : Bool} {o : Oper} {d : Option Tmp} {v : Value} (k : ∀ t, d = some t → t ∉ o.looksAt ops) (kd : ∀ t, d = some t → o.dst ≠ some t) (K : List Value → Hp → Prop) :
    astep P ops wk o (put tm d v) h K ↔ astep P ops wk o tm h (fun tm' h' => K (put tm' d v) h') := by
  have hp : ∀ u, put (put tm d v) o.dst u = put (put tm o.dst u) d v := fun u => put_comm tm v u kd
  unfold astep
  split
  · exact aop_apart k kd K
  · rename_i j want hg
    rw [gslot_apart k hg]
    split
    · unfold asplit; rw [aop_apart k kd K, hp]
    · rw [hp]
    · exact Iff.rfl

/-! An operation that only yields a value. -/
def raw (P : Program) (o : Oper) (tm : List Value) (h : Hp) : Option Value :=
  match kdOf P o.op with
  | .pure => qev P (ev tm) o.op
  | .load => lev P h (ev tm) o.op
  | _ => none
def val (P : Program) (ops : Array Oper) (o : Oper) (tm : List Value) (h : Hp) : Option Value :=
  match o.guard with
  | none => raw P o tm h
  | some (j, want) =>
    match gslot ops tm j with
    | some (.bool b) => if b == want then raw P o tm h else some undef
    | some (.tuple vs) => if vs = #[] then some undef else none
    | _ => none
def calm (P : Program) (o : Oper) : Bool :=
  match kdOf P o.op with
  | .pure | .load => true
  | _ => false
theorem calm_call {o : Oper} (hc : calm P o = true) : ∀ f args ts, o.op ≠ .call { callee := .value f, args := args, argTypes := ts } := by
  intro f args ts e
  unfold calm at hc
  rw [e] at hc
  simp [kdOf] at hc
theorem aop_calm {wk : Bool} {o : Oper} (hc : calm P o = true) (K : List Value → Hp → Prop) : aop P wk o tm h K ↔ ∃ v, raw P o tm h = some v ∧ K (put tm o.dst v) h := by
  have hcall := calm_call hc
  unfold calm at hc
  unfold aop raw
  split
  · rename_i f args ts hop
    exact absurd hop (hcall f args ts)
  · split
    · rename_i hk; simp only [hk]
    · rename_i hk; simp only [hk]
    · rename_i hk; simp [hk] at hc
    · rename_i h1 h2 h3
      split at hc
      · rename_i hk; exact absurd hk h1
      · rename_i hk; exact absurd hk h2
      · cases hc
theorem astep_calm {wk : Bool} {o : Oper} (hc : calm P o = true) (K : List Value → Hp → Prop) : astep P ops wk o tm h K ↔ ∃ v, val P ops o tm h = some v ∧ K (put tm o.dst v) h := by
  unfold astep val
  cases hg : o.guard with
  | none => exact aop_calm hc K
  | some g =>
    obtain ⟨j, want⟩ := g
    simp only
    cases hs : gslot ops tm j with
    | none => simp
    | some s =>
      cases s with
      | bool b =>
        simp only [asplit]
        rw [aop_calm hc K]
        cases hbw : (b == want) <;> simp
      | tuple vs => by_cases hv : vs = #[] <;> simp [hv]
      | _ => simp

theorem val_apart {o : Oper} {d : Option Tmp} {v : Value} (k : ∀ t, d = some t → t ∉ o.looksAt ops) : val P ops o (put tm d v) h = val P ops o tm h := by
  have he := ev_apart (tm := tm) (v := v) k
  have hr : raw P o (put tm d v) h = raw P o tm h := by
    unfold raw
    rw [qev_congr o.op he, lev_congr o.op he]
  unfold val
  rw [hr]
  split
  · rfl
  · rename_i j want hg
    rw [gslot_apart k hg]

/-! Reads stand where objects are only added. -/
def VA (h : Hp) : Value → Prop
  | .pointer (some a) | .slice (some a) _ _ => a.block < h.length
  | _ => True
theorem cellAt_ext {h' : Hp} (hx : Ext h h') {o : Nat} (ho : o < h.length) (i : Nat) : cellAt h' o i = cellAt h o i := by
  unfold cellAt
  rw [hx.2 o ho]
theorem cellsAt_ext {h' : Hp} (hx : Ext h h') {o : Nat} (ho : o < h.length) : ∀ (n i : Nat), cellsAt h' o i n = cellsAt h o i n
  | 0, _ => rfl
  | n + 1, i => by simp only [cellsAt, cellAt_ext hx ho, cellsAt_ext hx ho n]
theorem elAt_ext {h' : Hp} (hx : Ext h h') {o : Nat} (ho : o < h.length) : elAt h' o = elAt h o := by
  unfold elAt
  rw [hx.2 o ho]
theorem lev_ext {h' : Hp} {ρ : Operand → Value} (hx : Ext h h') (op : Op) (hv : ∀ x ∈ op.operands, VA h (ρ x)) : lev P h' ρ op = lev P h ρ op := by
  cases op with
  | load t x =>
    have h1 := hv x (by simp [Op.operands])
    simp only [lev]
    split
    · rename_i a ha
      rw [ha] at h1
      have h2 : a.block < h.length := h1
      simp only [cellAt_ext hx h2, cellsAt_ext hx h2]
    · rfl
  | convert s d x =>
    have h1 := hv x (by simp [Op.operands])
    simp only [lev]
    split
    · split
      · rfl
      · rename_i a n c ha
        rw [ha] at h1
        have h2 : a.block < h.length := h1
        simp only [cellsAt_ext hx h2]
      · rfl
    · rfl
  | slice t x lo hi mx =>
    have h1 := hv x (by simp [Op.operands])
    simp only [lev]
    split
    · rfl
    · unfold asl2
      split
      · rename_i a n c ha
        rw [ha] at h1
        have h2 : a.block < h.length := h1
        simp only [elAt_ext hx h2]
      · rfl
  | _ => simp only [lev]
theorem val_ext {h' : Hp} {o : Oper} (hx : Ext h h') (hv : ∀ x, VA h (ev tm x)) : val P ops o tm h' = val P ops o tm h := by
  unfold val raw
  rw [lev_ext hx o.op fun x _ => hv x]
theorem val_pure {h' : Hp} {o : Oper} (hc : kdOf P o.op = .pure) : val P ops o tm h' = val P ops o tm h := by
  unfold val raw
  simp only [hc]
theorem RelSt.va {B : Nat} {w0 w : World} {φ : Inj} {a : Act} (R : RelSt P B w0 φ tm h a w) (x : Operand) : VA h (Hz.ev tm x) := by
  have r := R.ev x
  have lt : ∀ {o : Nat} {p : Pl}, φ[o]? = some p → o < h.length := fun e => by rw [← R.hp.len]; exact (List.getElem?_eq_some_iff.1 e).1
  unfold VA
  split
  · rename_i a' he
    rw [he] at r
    obtain ⟨p, hp, _⟩ := r
    exact lt hp
  · rename_i a' n c he
    rw [he] at r
    obtain ⟨p, c', a2, hp, _⟩ := r
    exact lt hp
  · trivial

/-! What an operation may come to. -/
def Out (P : Program) (wk : Bool) (o : Oper) (h h' : Hp) : Prop :=
  match kdOf P o.op with
  | .pure | .load => h' = h
  | .weak => Ext h h'
  | .call => wk = true → Ext h h'
  | .strong => True
theorem eev_weak {ρ : Operand → Value} {op : Op} {v : Value} {h' : Hp} (e : eev P h ρ op = some (v, h')) (hk : kdOf P op = .weak) : Ext h h' := by
  have push : ∀ t, Ext h (h ++ t) := Ext.push h
  cases op with
  | box t x =>
    simp only [eev, Option.bind_eq_some_iff] at e
    obtain ⟨cs, _, e⟩ := e
    split at e
    · simp only [Option.map_eq_some_iff, Prod.mk.injEq] at e
      obtain ⟨_, _, _, rfl⟩ := e; exact push _
    · cases e
  | alloc t =>
    simp only [eev, Option.bind_eq_some_iff] at e
    obtain ⟨z, _, e⟩ := e
    split at e
    · simp only [Option.map_eq_some_iff, Prod.mk.injEq] at e
      obtain ⟨_, _, _, rfl⟩ := e; exact push _
    · cases e
  | buildSlice t n ps =>
    simp only [eev, Option.bind_eq_some_iff] at e
    obtain ⟨⟨el, sz, bt, zs⟩, _, e⟩ := e
    simp only at e
    split at e
    · simp only [Option.bind_eq_some_iff] at e
      obtain ⟨cs, _, e⟩ := e
      split at e
      · injection e with e; injection e with _ e; subst e; exact push _
      · cases e
    · cases e
  | makeSlice t l c =>
    simp only [eev] at e
    split at e
    · simp only [Option.bind_eq_some_iff] at e
      obtain ⟨⟨el, sz, bt, zs⟩, _, e⟩ := e
      simp only at e
      split at e
      · injection e with e; injection e with _ e; subst e; exact push _
      · cases e
    · cases e
  | convert s d x =>
    simp only [eev] at e
    split at e
    · simp only [Option.bind_eq_some_iff] at e
      obtain ⟨el, _, e⟩ := e
      split at e
      · injection e with e; injection e with _ e; subst e; exact push _
      · cases e
    · cases e
  | call c =>
    obtain ⟨cal, args, ts⟩ := c
    cases cal with
    | builtin b => cases b <;> simp [kdOf] at hk
    | _ => simp [kdOf] at hk
  | slice t x lo hi mx => simp only [kdOf] at hk; split at hk <;> cases hk
  | _ => simp [kdOf] at hk
theorem aop_out {wk : Bool} {o : Oper} {K K' : List Value → Hp → Prop} (hk : ∀ v h', Out P wk o h h' → K (put tm o.dst v) h' → K' (put tm o.dst v) h') (k : aop P wk o tm h K) : aop P wk o tm h K' := by
  unfold aop at *
  split at k
  · rename_i f args ts hop
    have ho : ∀ h', Out P wk o h h' = (wk = true → Ext h h') := fun h' => by unfold Out; rw [hop]; rfl
    split at k
    · exact ⟨k.1, k.2.mono fun v h' ⟨h1, h2⟩ => ⟨h1, hk _ _ (by rw [ho]; exact h1) h2⟩⟩
    · exact k
  · split at k
    · rename_i hkd
      obtain ⟨v, h1, h2⟩ := k; exact ⟨v, h1, hk _ _ (by unfold Out; simp [hkd]) h2⟩
    · rename_i hkd
      obtain ⟨v, h1, h2⟩ := k; exact ⟨v, h1, hk _ _ (by unfold Out; simp [hkd]) h2⟩
    · exact k
    · rename_i n1 n2 n3
      obtain ⟨v, h', h1, h2⟩ := k
      refine ⟨v, h', h1, hk _ _ ?_ h2⟩
      unfold Out
      split
      · rename_i hh; exact absurd hh n1
      · rename_i hh; exact absurd hh n2
      · rename_i hh; exact eev_weak h1 hh
      · rename_i hh; exact absurd hh n3
      · trivial
theorem out_refl {wk : Bool} {o : Oper} : Out P wk o h h := by
  unfold Out
  split <;> first | rfl | exact Ext.refl h | exact fun _ => Ext.refl h | trivial
theorem astep_out {wk : Bool} {o : Oper} {K K' : List Value → Hp → Prop} (hk : ∀ v h', Out P wk o h h' → K (put tm o.dst v) h' → K' (put tm o.dst v) h') (k : astep P ops wk o tm h K) : astep P ops wk o tm h K' := by
  unfold astep at *
  split at k
  · exact aop_out hk k
  · split at k
    · exact ⟨fun hb => aop_out hk (k.1 hb), fun hb => hk _ _ out_refl (k.2 hb)⟩
    · split at k
      · rename_i hv; rw [if_pos hv]; exact hk _ _ out_refl k
      · exact k.elim
    · exact k.elim

/-- May two operations change places? -/
def indep (P : Program) (ops : Array Oper) (wj wi : Bool) (x y : Oper) : Bool :=
  x.apart ops y && (calm P x || calm P y) &&
  (match kdOf P x.op, kdOf P y.op with
   | .load, .strong | .strong, .load => false
   | .load, .call => wi
   | .call, .load => wj
   | _, _ => true)

theorem val_out {wj wi : Bool} {x y : Oper} {h' : Hp} (hi : indep P ops wj wi x y = true) (hc : calm P y = true) (ho : Out P wj x h h') (hv : ∀ z, VA h (ev tm z)) : val P ops y tm h' = val P ops y tm h := by
  cases hy : kdOf P y.op with
  | pure => exact val_pure hy
  | load =>
    unfold indep at hi
    unfold Out at ho
    cases hx : kdOf P x.op with
    | pure => rw [hx] at ho; rw [ho]
    | load => rw [hx] at ho; rw [ho]
    | weak => rw [hx] at ho; exact val_ext ho hv
    | strong => rw [hx, hy] at hi; simp at hi
    | call => rw [hx, hy] at hi; rw [hx] at ho; simp at hi; exact val_ext (ho hi.2) hv
  | _ => unfold calm at hc; rw [hy] at hc; cases hc
theorem val_out' {wj wi : Bool} {x y : Oper} {h' : Hp} (hi : indep P ops wj wi x y = true) (hc : calm P x = true) (ho : Out P wi y h h') (hv : ∀ z, VA h (ev tm z)) : val P ops x tm h' = val P ops x tm h := by
  cases hx : kdOf P x.op with
  | pure => exact val_pure hx
  | load =>
    unfold indep at hi
    unfold Out at ho
    cases hy : kdOf P y.op with
    | pure => rw [hy] at ho; rw [ho]
    | load => rw [hy] at ho; rw [ho]
    | weak => rw [hy] at ho; exact val_ext ho hv
    | strong => rw [hx, hy] at hi; simp at hi
    | call => rw [hx, hy] at hi; rw [hy] at ho; simp at hi; exact val_ext (ho hi.2) hv
  | _ => unfold calm at hc; rw [hx] at hc; cases hc

/-- Some machine state is told. -/
def Told (P : Program) (tm : List Value) (h : Hp) : Prop := ∃ B w0 φ a w, RelSt P B w0 φ tm h a w

theorem aop_some {wk : Bool} {o : Oper} {K : List Value → Hp → Prop} (ht : Told P tm h) (k : aop P wk o tm h K) : ∃ v h', Out P wk o h h' ∧ K (put tm o.dst v) h' := by
  obtain ⟨B, w0, φ, a, w, R⟩ := ht
  have k2 : aop P wk o tm h (fun tm' h' => ∃ v, Out P wk o h h' ∧ tm' = put tm o.dst v ∧ K tm' h') := aop_out (fun v h' ho hk => ⟨v, ho, rfl, hk⟩) k
  have s := aop_sound k2 R (fun _ _ _ => False)
  have fin : ∀ a' w', (∃ φ' tm' h', φ <+: φ' ∧ RelSt P B w0 φ' tm' h' a' w' ∧ ∃ v, Out P wk o h h' ∧ tm' = put tm o.dst v ∧ K tm' h') → ∃ v h', Out P wk o h h' ∧ K (put tm o.dst v) h' := by
    rintro a' w' ⟨φ', tm', h', _, _, v, p1, rfl, p2⟩
    exact ⟨v, h', p1, p2⟩
  unfold Oper.wp Oper.upon at s
  split at s
  · exact fin _ _ s
  · exact fin _ _ s
  · exact fin _ _ s
  · obtain ⟨e, w', fr, hR, _⟩ := s []
    cases e with
    | returned v => exact fin _ _ hR
    | panicked c => exact hR.elim
    | outgrown => obtain ⟨_, _, hh⟩ := hR; exact hh.elim
  · obtain ⟨v, w', hR, _⟩ := s default []
    exact fin _ _ hR
  · exact s.elim
  · exact s.elim
theorem astep_some {wk : Bool} {o : Oper} {K : List Value → Hp → Prop} (ht : Told P tm h) (k : astep P ops wk o tm h K) : ∃ v h', Out P wk o h h' ∧ K (put tm o.dst v) h' := by
  unfold astep at k
  split at k
  · exact aop_some ht k
  · split at k
    · rename_i j want hg s b hb
      cases hbw : (b == want) with
      | true => exact aop_some ht (k.1 hbw)
      | false => exact ⟨_, _, out_refl, k.2 hbw⟩
    · split at k
      · exact ⟨_, _, out_refl, k⟩
      · exact k.elim
    · exact k.elim

theorem swap {wj wi : Bool} {x y : Oper} {K : List Value → Hp → Prop} (hi : indep P ops wj wi x y = true) (ht : Told P tm h)
    (k : astep P ops wj x tm h fun tm1 h1 => astep P ops wi y tm1 h1 K) : astep P ops wi y tm h fun tm1 h1 => astep P ops wj x tm1 h1 K := by
  have hi0 := hi
  unfold indep at hi
  simp only [Bool.and_eq_true, Bool.or_eq_true] at hi
  obtain ⟨⟨hap, hcalm⟩, _⟩ := hi
  obtain ⟨a1, a2, a3⟩ := Oper.apart_spec hap
  have a2' : ∀ d, y.dst = some d → x.dst ≠ some d := fun d hd hx => a2 d hx hd
  obtain ⟨B, w0, φ, a, w, R⟩ := ht
  have hv : ∀ z, VA h (ev tm z) := fun z => R.va z
  cases hcy : calm P y with
  | true =>
    have k' : astep P ops wj x tm h fun tm1 h1 => ∃ v, val P ops y tm1 h1 = some v ∧ K (put tm1 y.dst v) h1 := astep_out (fun v h1 _ hh => (astep_calm hcy K).1 hh) k
    obtain ⟨vx, h1, ho, v, hval, _⟩ := astep_some ⟨B, w0, φ, a, w, R⟩ k'
    rw [val_apart a1, val_out hi0 hcy ho hv] at hval
    refine (astep_calm hcy _).2 ⟨v, hval, ?_⟩
    rw [astep_apart a3 a2']
    refine astep_out (fun u h2 ho2 hh => ?_) k'
    obtain ⟨v2, hval2, hK⟩ := hh
    rw [val_apart a1, val_out hi0 hcy ho2 hv, hval] at hval2
    injection hval2 with hval2
    subst hval2
    exact hK
  | false =>
    rcases hcalm with hcx | hcy'
    · obtain ⟨v, hval, hk⟩ := (astep_calm hcx _).1 k
      rw [astep_apart a1 a2] at hk
      refine astep_out (fun u h2 ho2 hh => ?_) hk
      refine (astep_calm hcx _).2 ⟨v, ?_, ?_⟩
      · rw [val_apart a3, val_out' hi0 hcx ho2 hv, hval]
      · exact hh
    · rw [hcy] at hcy'; cases hcy'
end
end Go.Proofs.Ytidkkmkihifeoaa.Hz
