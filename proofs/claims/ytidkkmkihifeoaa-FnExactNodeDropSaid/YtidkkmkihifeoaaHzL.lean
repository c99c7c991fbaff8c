/- The calculus over code. -/
import Derived.Test.YtidkkmkihifeoaaHzK
import Derived.Deep.LoopGhost
namespace Go.Proofs.Ytidkkmkihifeoaa.Hz
open Go.RowKit
set_option linter.unusedVariables false
set_option linter.unusedSimpArgs false

abbrev Post := Exit → List Value → Hp → Prop
section
variable (P : Program)

/-- The operations of a region, in the text's order. -/
def aopsL (ops : Array Oper) (wk : Bool) : List Oper → List Value → Hp → (List Value → Hp → Prop) → Prop
  | [], tm, h, K => K tm h
  | o :: os, tm, h, K => astep P ops wk o tm h fun tm h => aopsL ops wk os tm h K

def edgesOK (ops : Array Oper) : Bool := (List.range ops.size).all fun i => match ops[i]? with | some o => o.after.toList.all fun e => !Region.binds .any e || decide (e.on < i) | none => true
/-- A region that draws its order. -/
def ADraw (ops : Array Oper) (tm : List Value) (h : Hp) (K : List Value → Hp → Prop) : Prop :=
  ∃ wk : Bool, (edgesOK ops && regOK P ops (fun _ => wk)) = true ∧ aopsL P ops wk ops.toList tm h K

/-- What a piece of code comes to, on the plain heap. -/
def AWp (c : Code) (Q : Post) (tm : List Value) (h : Hp) : Prop :=
  ∀ (B : Nat) (w0 : World) (φ : Inj) (a : Act) (w : World), RelSt P B w0 φ tm h a w →
    c.wp P (fun e a' w' => ∃ φ' tm' h', φ <+: φ' ∧ RelSt P B w0 φ' tm' h' a' w' ∧ Q e tm' h') a w
def ALoop (c : Code) (Q : Post) (tm : List Value) (h : Hp) : Prop := AWp P (.loop c) Q tm h

def seqQ (next : List Value → Hp → Prop) (Q : Post) : Post
  | .normal, tm, h => next tm h
  | e, tm, h => Q e tm h
def blockQ (id : Nat) (Q : Post) : Post
  | .exit i, tm, h => if i = id then Q .normal tm h else Q (.exit i) tm h
  | e, tm, h => Q e tm h
def acond (v : Value) (A B : Prop) : Prop :=
  match v with
  | .bool b => asplit b A B
  | _ => False

def awp : Code → Post → List Value → Hp → Prop
  | .skip, Q, tm, h => Q .normal tm h
  | .region _ ops false, Q, tm, h => aopsL P ops false ops.toList tm h (fun tm h => Q .normal tm h)
  | .region _ ops true, Q, tm, h => ADraw P ops tm h (fun tm h => Q .normal tm h)
  | .seq x y, Q, tm, h => awp x (seqQ (fun tm h => awp y Q tm h) Q) tm h
  | .cond c x y, Q, tm, h => acond (ev tm c) (awp x Q tm h) (awp y Q tm h)
  | .block id c, Q, tm, h => awp c (blockQ id Q) tm h
  | .loop c, Q, tm, h => ALoop P c Q tm h
  | .exit id, Q, tm, h => Q (.exit id) tm h
  | .ret, Q, tm, h => Q .ret tm h
  | _, _, _, _ => False
end

section
variable {P : Program} {ops : Array Oper} {tm : List Value} {h : Hp}

theorem aopsL_aops {wk : Bool} {K : List Value → Hp → Prop} : ∀ (os : List Oper) (i : Nat) (tm : List Value) (h : Hp), ops.toList.drop i = os → aopsL P ops wk os tm h K → aops P ops (fun _ => wk) (List.range' i os.length) tm h K
  | [], i, tm, h, _, k => k
  | o :: os, i, tm, h, hd, k => by
    have ho : ops[i]? = some o := by
      have := congrArg (fun l => l[0]?) hd
      simpa using this
    have hd' : ops.toList.drop (i + 1) = os := by
      have := congrArg (List.drop 1) hd
      simpa [List.drop_drop, Nat.add_comm] using this
    simp only [List.length_cons, List.range'_succ]
    unfold aops
    simp only [ho]
    unfold aopsL at k
    exact astep_out (fun v h' _ hk => aopsL_aops os (i + 1) _ h' hd' hk) k
theorem aopsL_range {wk : Bool} {K : List Value → Hp → Prop} (k : aopsL P ops wk ops.toList tm h K) : aops P ops (fun _ => wk) (List.range ops.size) tm h K := by
  have := aopsL_aops ops.toList 0 tm h rfl k
  rw [List.range_eq_range']
  simpa using this

theorem region_sound {id : Nat} {Q : Post} (k : aopsL P ops false ops.toList tm h (fun tm h => Q .normal tm h)) : AWp P (.region id ops false) Q tm h := by
  intro B w0 φ a w R
  refine wp_region (aops_sound _ (aopsL_range k) R ?_)
  exact fun φ' tm' h' a' w' p1 p2 p3 => ⟨φ', tm', h', p1, p2, p3⟩
theorem draw_sound (hm : P.follows .mixedOrders = true) {id : Nat} {Q : Post} (k : ADraw P ops tm h (fun tm h => Q .normal tm h)) : AWp P (.region id ops true) Q tm h := by
  obtain ⟨wk, hok, k⟩ := k
  simp only [Bool.and_eq_true] at hok
  intro B w0 φ a w R
  have R' : RelSt P B w0 φ tm h a { w with drawn := w.drawn + 1 } := ⟨R.tm, R.df, R.hp.drew _⟩
  refine wp_region_any hm (any_sound hok.2 ?_ ops.size (List.range ops.size) (Array.replicate ops.size false) (by simp) List.pairwise_lt_range (by simp) ?_ ?_ (aopsL_range k) R' ?_)
  · intro i o e hi he hb
    have hin : i < ops.size := (Array.getElem?_eq_some_iff.1 hi).1
    have h1 := List.all_eq_true.1 hok.1 i (by simpa using hin)
    simp only [hi] at h1
    have h2 := List.all_eq_true.1 h1 e (by simpa using he)
    simpa [hb] using h2
  · intro i
    simp [Array.getD_eq_getD_getElem?, Array.getElem?_replicate]
    intro hi
    simp [hi]
  · intro i o e hi hl _ _
    rw [Array.getD_eq_getD_getElem?, Array.getElem?_replicate] at hl
    split at hl <;> simp at hl
  · exact fun φ' tm' h' a' w' p1 p2 p3 => ⟨φ', tm', h', p1, p2, p3⟩

/-- The calculus is sound. -/
theorem awp_sound (hm : P.follows .mixedOrders = true) : ∀ (c : Code) {Q : Post} {tm : List Value} {h : Hp}, awp P c Q tm h → AWp P c Q tm h
  | .skip, Q, tm, h, k => fun B w0 φ a w R => wp_skip ⟨φ, tm, h, List.prefix_refl _, R, k⟩
  | .region id ops false, Q, tm, h, k => region_sound k
  | .region id ops true, Q, tm, h, k => draw_sound hm k
  | .seq x y, Q, tm, h, k => fun B w0 φ a w R => by
    refine wp_seq (wp_mono (awp_sound hm x k B w0 φ a w R) ?_)
    rintro e a' w' ⟨φ', tm', h', p1, p2, p3⟩
    cases e with
    | normal => exact wp_mono (awp_sound hm y p3 B w0 φ' a' w' p2) fun e a2 w2 ⟨φ2, tm2, h2, q1, q2, q3⟩ => ⟨φ2, tm2, h2, p1.trans q1, q2, q3⟩
    | _ => exact ⟨φ', tm', h', p1, p2, p3⟩
  | .cond c x y, Q, tm, h, k => fun B w0 φ a w R => by
    unfold awp acond at k
    split at k
    · rename_i b hb
      have he := R.ev c
      rw [hb] at he
      have he := rBool (φ := φ) he
      cases b with
      | true => exact wp_cond_true he (awp_sound hm x (k.1 rfl) B w0 φ a w R)
      | false => exact wp_cond_false he (awp_sound hm y (k.2 rfl) B w0 φ a w R)
    · exact k.elim
  | .block id c, Q, tm, h, k => fun B w0 φ a w R => by
    refine wp_block (wp_mono (awp_sound hm c k B w0 φ a w R) ?_)
    rintro e a' w' ⟨φ', tm', h', p1, p2, p3⟩
    cases e with
    | exit i =>
      show if i = id then _ else _
      have p3' : if i = id then Q .normal tm' h' else Q (.exit i) tm' h' := p3
      split
      · rename_i hi; rw [if_pos hi] at p3'; exact ⟨φ', tm', h', p1, p2, p3'⟩
      · rename_i hi; rw [if_neg hi] at p3'; exact ⟨φ', tm', h', p1, p2, p3'⟩
    | _ => exact ⟨φ', tm', h', p1, p2, p3⟩
  | .loop c, Q, tm, h, k => k
  | .exit id, Q, tm, h, k => fun B w0 φ a w R => wp_exit ⟨φ, tm, h, List.prefix_refl _, R, k⟩
  | .ret, Q, tm, h, k => fun B w0 φ a w R => wp_ret ⟨φ, tm, h, List.prefix_refl _, R, k⟩
  | .rangeFunc .., _, _, _, k => k.elim
  | .scope .., _, _, _, k => k.elim
  | .label .., _, _, _, k => k.elim
  | .goto .., _, _, _, k => k.elim
  | .refuse .., _, _, _, k => k.elim

/-- A frame of which some slots are told. -/
def mkF : Nat → Nat → List Nat → List Value → List Value
  | 0, _, _, _ => []
  | n + 1, i, s :: ss, v :: vs => if s = i then v :: mkF n (i + 1) ss vs else junk :: mkF n (i + 1) (s :: ss) (v :: vs)
  | n + 1, i, [], _ => junk :: mkF n (i + 1) [] []
  | n + 1, i, _ :: _, [] => junk :: mkF n (i + 1) [] []
def pickF (slots : List Nat) (tm : List Value) : List Value := slots.map fun s => (tm[s]?).getD undef
theorem rel_mkF {φ : Inj} : ∀ {tm tm' : List Value} (i : Nat) (slots : List Nat) (vs : List Value), All2 (RelV φ) tm tm' → (∀ (j s : Nat) (v : Value), slots[j]? = some s → vs[j]? = some v → i ≤ s → tm[s - i]? = none ∨ tm[s - i]? = some v) → All2 (RelV φ) (mkF tm.length i slots vs) tm'
  | [], [], _, _, _, _, _ => trivial
  | u :: us, u' :: us', i, [], vs, h, _ => ⟨relV_junk _ _, rel_mkF (i + 1) [] [] h.2 (fun j s v hs => by simp at hs)⟩
  | u :: us, u' :: us', i, s :: ss, [], h, _ => ⟨relV_junk _ _, rel_mkF (i + 1) [] [] h.2 (fun j s v hs => by simp at hs)⟩
  | u :: us, u' :: us', i, s :: ss, v :: vs, h, k => by
    simp only [List.length_cons, mkF]
    split
    · rename_i hsi
      subst hsi
      have h0 := k 0 s v rfl rfl (Nat.le_refl _)
      simp only [Nat.sub_self, List.getElem?_cons_zero] at h0
      rcases h0 with h0 | h0
      · cases h0
      · injection h0 with h0
        subst h0
        refine ⟨h.1, rel_mkF (s + 1) ss vs h.2 fun j x y hx hy hle => ?_⟩
        have := k (j + 1) x y (by simpa using hx) (by simpa using hy) (by omega)
        rw [show x - s = (x - (s + 1)) + 1 by omega, List.getElem?_cons_succ] at this
        exact this
    · rename_i hsi
      refine ⟨relV_junk _ _, rel_mkF (i + 1) (s :: ss) (v :: vs) h.2 fun j x y hx hy hle => ?_⟩
      have := k j x y hx hy (by omega)
      rw [show x - i = (x - (i + 1)) + 1 by omega, List.getElem?_cons_succ] at this
      exact this
  | [], _ :: _, _, _, _, h, _ => h.elim
  | _ :: _, [], _, _, _, h, _ => h.elim
theorem RelSt.pick {B : Nat} {w0 w : World} {φ : Inj} {a : Act} (R : RelSt P B w0 φ tm h a w) (slots : List Nat) : RelSt P B w0 φ (mkF tm.length 0 slots (pickF slots tm)) h a w := by
  refine ⟨rel_mkF 0 slots _ R.tm fun j s v hs hv _ => ?_, R.df, R.hp⟩
  simp only [pickF, List.getElem?_map, hs, Option.map_some, Option.some.injEq] at hv
  simp only [Nat.sub_zero]
  cases hx : tm[s]? with
  | none => exact .inl rfl
  | some u => rw [hx] at hv; simp at hv; subst hv; exact .inr rfl

/-- What a round hands on. -/
def ANext {X : Type} (n : Nat) (slots : List Nat) (vals : X → List Value) (hp : X → Hp) (I : X → Prop) (μ : X → Nat) (x : X) (tm : List Value) (h : Hp) : Prop :=
  ∃ y, I y ∧ μ y < μ x ∧ vals y = pickF slots tm ∧ hp y = h ∧ tm.length = n
theorem anext {X : Type} {n : Nat} {slots : List Nat} {vals : X → List Value} {hp : X → Hp} {I : X → Prop} {μ : X → Nat} {x : X} {tm : List Value} {h : Hp} (y : X) (hI : I y) (hμ : μ y < μ x) (hv : vals y = pickF slots tm) (hh : hp y = h) (hn : tm.length = n) : ANext n slots vals hp I μ x tm h := ⟨y, hI, hμ, hv, hh, hn⟩

/-- A LOOP: states told by X: the live slots' values, the heap; a measure that every round lowers. -/
theorem aloop (hm : P.follows .mixedOrders = true) {X : Type} (slots : List Nat) (vals : X → List Value) (hp : X → Hp) (I : X → Prop) (μ : X → Nat) {c : Code} {Q : Post} {tm : List Value} {h : Hp} (x0 : X) (h0 : I x0) (hv0 : vals x0 = pickF slots tm) (hp0 : hp x0 = h)
    (round : ∀ x, I x → awp P c (seqQ (ANext tm.length slots vals hp I μ x) Q) (mkF tm.length 0 slots (vals x)) (hp x)) : ALoop P c Q tm h := by
  intro B w0 φ a w R
  subst hp0
  have R0 := R.pick slots
  rw [← hv0] at R0
  refine wp_loop_ghost (fun n a' w' => ∃ x φ', μ x = n ∧ φ <+: φ' ∧ I x ∧ RelSt P B w0 φ' (mkF tm.length 0 slots (vals x)) (hp x) a' w') (μ x0) ⟨x0, φ, rfl, List.prefix_refl _, h0, R0⟩ ?_
  rintro n a1 w1 ⟨x, φ1, rfl, p1, hx, R1⟩
  refine wp_mono (awp_sound hm c (round x hx) B w0 φ1 a1 w1 R1) ?_
  rintro e a2 w2 ⟨φ2, tm2, h2, p2, R2, q⟩
  cases e with
  | normal =>
    obtain ⟨y, hy, hlt, f1, f2, f3⟩ := q
    refine ⟨μ y, hlt, y, φ2, rfl, p1.trans p2, hy, ?_⟩
    have R3 := R2.pick slots
    rw [f1, f2, ← f3]
    exact R3
  | _ => exact ⟨φ2, tm2, h2, p1.trans p2, R2, q⟩

/-- A function's results. -/
def aresult (P : Program) (tm : List Value) (h : Hp) : ResultVar → Option Value
  | .tmp t => some ((tm[t]?).getD undef)
  | .cell a t => lev P h (ev tm) (.load t (.tmp a))
def notTuple : Value → Bool
  | .tuple _ => false
  | _ => true
def aresults (P : Program) (rs : List ResultVar) (tm : List Value) (h : Hp) : Option Value :=
  match rs with
  | [r] => aresult P tm h r
  | rs => (rs.mapM (aresult P tm h)).bind fun vs => if vs.all notTuple then some (.tuple vs.toArray) else none
def retQ (P : Program) (rs : List ResultVar) (R : Value → Hp → Prop) : Post
  | .normal, tm, h | .ret, tm, h => ∃ v, aresults P rs tm h = some v ∧ R v h
  | _, _, _ => False

def resOne (tmps : Array Value) : ResultVar → Sem Value
  | .tmp t => pure (tmps.getD t undef)
  | .cell x t => do loadVar t (← asAddr (tmps.getD x undef))
theorem results_eq (fn : Func) (tmps : Array Value) : results fn tmps = (do let vs ← fn.results.mapM (resOne tmps); pure (if h : vs.size = 1 then vs[0] else .tuple vs)) := rfl
theorem aresult_sound {B : Nat} {w0 w : World} {φ : Inj} {a : Act} (R : RelSt P B w0 φ tm h a w) {r : ResultVar} {v : Value} (e : aresult P tm h r = some v) :
    ∃ v', (resOne a.tmps r).run P w = .ok v' w ∧ RelV φ v v' := by
  cases r with
  | tmp t =>
    injection e with e; subst e
    exact ⟨_, rfl, R.ev (.tmp t)⟩
  | cell x t =>
    obtain ⟨v', h1, h2⟩ := lev_sound R.hp (fun z => R.ev z) (o := { dst := none, op := .load t (.tmp x), type := 0, pos := "", after := #[], guard := none }) e
    refine ⟨v', ?_, h2⟩
    have hx := R.ev (.tmp x)
    simp only [aresult, lev] at e
    split at e
    · rename_i ad hq
      rw [hq] at hx
      obtain ⟨p, hp, hs, hx'⟩ := hx
      have hx2 : a.tmps.getD x undef = .pointer (some ⟨p.block, p.off + ad.off, none⟩) := hx'
      simp only [execOp, Instr.loadAt, Act.eval, hx2, Instr.sureAddr, Sem.run_bind, Sem.run_pure, Result.andThen_ok] at h1
      simp only [resOne, hx2, asAddr, Sem.run_bind, Sem.run_pure, Result.andThen_ok]
      cases hr : (loadVar t ⟨p.block, p.off + ad.off, none⟩).run P w with
      | ok u w2 => rw [hr] at h1; simp at h1; obtain ⟨rfl, rfl⟩ := h1; rfl
      | halt x w2 => rw [hr] at h1; simp at h1
    · cases e
theorem mapM_results {B : Nat} {w0 w : World} {φ : Inj} {a : Act} (R : RelSt P B w0 φ tm h a w) : ∀ (rs : List ResultVar) (vs : List Value), rs.mapM (aresult P tm h) = some vs →
    ∃ vs', (rs.mapM (resOne a.tmps)).run P w = .ok vs' w ∧ All2 (RelV φ) vs vs'
  | [], vs, e => by simp at e; subst e; exact ⟨[], rfl, trivial⟩
  | r :: rs, vs, e => by
    simp only [List.mapM_cons, Option.bind_eq_bind, Option.bind_eq_some_iff, Option.pure_def, Option.some.injEq] at e
    obtain ⟨v, hv, us, hus, rfl⟩ := e
    obtain ⟨v', h1, h2⟩ := aresult_sound R hv
    obtain ⟨us', k1, k2⟩ := mapM_results R rs us hus
    refine ⟨v' :: us', ?_, h2, k2⟩
    simp only [List.mapM_cons, Sem.run_bind, h1, Result.andThen_ok, k1, Sem.run_pure]
theorem relV1_not {φ : Inj} {v v' : Value} (h : RelV φ v v') (k : notTuple v = true) : RelV1 φ v v' := by
  unfold RelV at h
  split at h
  · simp [notTuple] at k
  · exact h
theorem aresults_sound {B : Nat} {w0 w : World} {φ : Inj} {a : Act} (R : RelSt P B w0 φ tm h a w) {fn : Func} {v : Value} (e : aresults P fn.results.toList tm h = some v) : ∃ v', (results fn a.tmps).run P w = .ok v' w ∧ RelV φ v v' := by
  rw [results_eq, Array.mapM_eq_mapM_toList]
  unfold aresults at e
  split at e
  · rename_i r hr
    rw [hr]
    obtain ⟨v', h1, h2⟩ := aresult_sound R e
    refine ⟨v', ?_, h2⟩
    obtain ⟨us, k1, k2⟩ := mapM_results R [r] [v] (by simp [e])
    simp only [Sem.run_bind, Sem.run_map, k1, Result.andThen_ok]
    have : us = [v'] := by
      simp only [List.mapM_cons, List.mapM_nil, Sem.run_bind, h1, Result.andThen_ok, Sem.run_pure] at k1
      injection k1 with k1
      exact k1.symm
    subst this
    simp
  · rename_i hne
    simp only [Option.bind_eq_some_iff] at e
    obtain ⟨vs, hvs, e⟩ := e
    split at e
    · rename_i hnt
      injection e with e
      subst e
      obtain ⟨us, k1, k2⟩ := mapM_results R _ _ hvs
      simp only [Sem.run_bind, Sem.run_map, k1, Result.andThen_ok]
      have hlen : us.length ≠ 1 := by
        intro hl
        have h1 := k2.length
        have h2 : vs.length = fn.results.toList.length := by
          have : ∀ (rs : List ResultVar) (vs : List Value), rs.mapM (aresult P tm h) = some vs → vs.length = rs.length := by
            intro rs
            induction rs with
            | nil => intro vs hv; simp at hv; subst hv; rfl
            | cons r rs ih =>
              intro vs hv
              simp only [List.mapM_cons, Option.bind_eq_bind, Option.bind_eq_some_iff, Option.pure_def, Option.some.injEq] at hv
              obtain ⟨v, _, us, hus, rfl⟩ := hv
              simp [ih us hus]
          exact this _ _ hvs
        have h3 : fn.results.toList.length = 1 := by omega
        cases hl : fn.results.toList with
        | nil => rw [hl] at h3; cases h3
        | cons r rs =>
          rw [hl] at h3
          have : rs = [] := List.eq_nil_of_length_eq_zero (by simpa using h3)
          subst this
          exact hne r hl
      rw [dif_neg (by simpa using hlen)]
      refine ⟨.tuple us.toArray, rfl, us.toArray, rfl, ?_⟩
      have : ∀ {vs us : List Value}, vs.all notTuple = true → All2 (RelV φ) vs us → All2 (RelV1 φ) vs us := by
        intro vs
        induction vs with
        | nil => intro us _ hh; cases us with
          | nil => trivial
          | cons _ _ => exact hh.elim
        | cons v vs ih => intro us hn hh; cases us with
          | nil => exact hh.elim
          | cons u us =>
            simp only [List.all_cons, Bool.and_eq_true] at hn
            exact ⟨relV1_not hh.1 hn.1, ih hn.2 hh.2⟩
      simpa using this hnt k2
    · cases e

/-- A CONTRACT, out of the function's body. -/
theorem acall (hm : P.follows .mixedOrders = true) {f : FuncId} {fn : Func} {c : Code} {args : List Value} {h : Hp} {R : Value → Hp → Prop} (hf : P.funcs[f]? = some fn) (hb : fn.body = some c) (hn : (fn.name == "runtime.NumGoroutine") = false)
    (k : awp P c (retQ P fn.results.toList R) (args ++ List.replicate (fn.ntmps - args.length) undef) h) : ACall P f args h R := by
  intro B w0 φ w args' hrel hargs
  have hl := hargs.length
  unfold CallsV
  have hen : (callFunc f args'.toArray).run P w = .ok (.enter f args'.toArray) w := by
    unfold callFunc
    simp only [Sem.run_bind, run_program, Result.andThen_ok, hf]
    simp [hn, hb]
  rw [hen]
  refine calls_of_wp hf hb ?_
  have R0 : RelSt P B w0 φ (args ++ List.replicate (fn.ntmps - args.length) undef) h ⟨args'.toArray ++ Array.replicate (fn.ntmps - args'.toArray.size) undef, []⟩ w := by
    refine ⟨?_, rfl, hrel⟩
    rw [Array.toList_append, Array.toList_replicate]
    refine hargs.append ?_
    simp only [List.size_toArray, ← hl]
    exact All2.refl fun v hv => by rw [List.eq_of_mem_replicate hv]; exact relV_undef φ
  refine wp_mono (awp_sound hm c k B w0 φ _ w R0) ?_
  rintro e a' w' ⟨φ', tm', h', p1, R', q⟩
  have fin : (∃ v, aresults P fn.results.toList tm' h' = some v ∧ R v h') → a'.defers = [] ∧ ∃ v', (results fn a'.tmps).run P w' = .ok v' w' ∧ ∃ v'', (Ending.returned v' = .returned v'') ∧ ∃ φ' v h', φ <+: φ' ∧ Rel P B w0 φ' h' w' ∧ RelV φ' v v'' ∧ R v h' := by
    rintro ⟨v, hv, hr⟩
    obtain ⟨v', h1, h2⟩ := aresults_sound R' hv
    exact ⟨R'.df, v', h1, v', rfl, φ', v, h', p1, R'.hp, h2, hr⟩
  cases e with
  | normal => exact fin q
  | ret => exact fin q
  | _ => exact q.elim
end
end Go.Proofs.Ytidkkmkihifeoaa.Hz
