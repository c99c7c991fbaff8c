/- The rules by which simp runs code on the plain heap. A frame that is written out (v :: l) is run; under a binder nothing goes on. -/
import Derived.Test.YtidkkmkihifeoaaHzL
namespace Go.Proofs.Ytidkkmkihifeoaa.Hz
open Go.RowKit
set_option linter.unusedVariables false
set_option linter.unusedSimpArgs false

abbrev Cont := List Value → Hp → Prop
/-- A value is put into its slot, and on. -/
def aval (o : Option Value) (d : Option Tmp) (tm : List Value) (h : Hp) (K : Cont) : Prop := ∃ v, o = some v ∧ K (put tm d v) h
def aeff (o : Option (Value × Hp)) (d : Option Tmp) (tm : List Value) (K : Cont) : Prop := ∃ v h', o = some (v, h') ∧ K (put tm d v) h'
/-- A call, and on. -/
def acallK (P : Program) (wk : Bool) (f : FuncId) (args : List Value) (d : Option Tmp) (tm : List Value) (h : Hp) (K : Cont) : Prop := ACall P f args h fun v h' => (wk = true → Ext h h') ∧ K (put tm d v) h'
def acallV (P : Program) (wk : Bool) (f : Value) (args : List Value) (d : Option Tmp) (tm : List Value) (h : Hp) (K : Cont) : Prop :=
  match f with
  | .func (.func g) first cap => first = #[] ∧ acallK P wk g (args ++ cap.toList) d tm h K
  | _ => False
/-- Two ways. -/
def asplitK (b : Bool) (tm : List Value) (h : Hp) (A B : Cont) : Prop := (b = true → A tm h) ∧ (b = false → B tm h)
def aguard (s : Option Value) (want : Bool) (tm : List Value) (h : Hp) (A B : Cont) : Prop :=
  match s with
  | some (.bool b) => asplitK (b == want) tm h A B
  | some (.tuple vs) => if vs = #[] then B tm h else False
  | _ => False
def acondK (v : Value) (tm : List Value) (h : Hp) (A B : Cont) : Prop :=
  match v with
  | .bool b => asplitK b tm h A B
  | _ => False
/-- A function comes back. -/
def aret (o : Option Value) (R : Value → Hp → Prop) (h : Hp) : Prop := ∃ v, o = some v ∧ R v h

section
variable {P : Program}

theorem asplitK_intro {b : Bool} {tm : List Value} {h : Hp} {A B : Cont} (k1 : b = true → A tm h) (k2 : b = false → B tm h) : asplitK b tm h A B := ⟨k1, k2⟩
theorem callK {wk : Bool} {f : FuncId} {args : List Value} {d : Option Tmp} {tm : List Value} {h : Hp} {K : Cont} {R : Value → Hp → Prop} (c : ACall P f args h R) (k : ∀ v h', R v h' → (wk = true → Ext h h') ∧ K (put tm d v) h') : acallK P wk f args d tm h K := c.mono k
theorem callK0 {f : FuncId} {args : List Value} {d : Option Tmp} {tm : List Value} {h : Hp} {K : Cont} {R : Value → Hp → Prop} (c : ACall P f args h R) (k : ∀ v h', R v h' → K (put tm d v) h') : acallK P false f args d tm h K := c.mono fun v h' r => ⟨fun e => (by cases e), k v h' r⟩
theorem drawK {ops : Array Oper} {tm : List Value} {h : Hp} {K : Cont} (wk : Bool) (hok : (edgesOK ops && regOK P ops (fun _ => wk)) = true) (k : aopsL P ops wk ops.toList tm h K) : ADraw P ops tm h K := ⟨wk, hok, k⟩

theorem aval_some (v : Value) (d : Option Tmp) (tm : List Value) (h : Hp) (K : Cont) : aval (some v) d tm h K = K (put tm d v) h := by simp [aval]
theorem aval_ite (c : Prop) [Decidable c] (x : Option Value) (d : Option Tmp) (tm : List Value) (h : Hp) (K : Cont) : aval (if c then x else none) d tm h K = (c ∧ aval x d tm h K) := by
  by_cases h : c <;> simp [h, aval]
theorem aval_ite2 (c : Prop) [Decidable c] (x : Option Value) (d : Option Tmp) (tm : List Value) (h : Hp) (K : Cont) : aval (if c then none else x) d tm h K = (¬ c ∧ aval x d tm h K) := by
  by_cases h : c <;> simp [h, aval]
theorem aeff_some (v : Value) (d : Option Tmp) (tm : List Value) (h : Hp) (K : Cont) : aeff (some (v, h)) d tm K = K (put tm d v) h := propext ⟨fun ⟨_, _, e, k⟩ => by injection e with e; injection e with e1 e2; subst e1; subst e2; exact k, fun k => ⟨_, _, rfl, k⟩⟩
theorem aeff_ite (c : Prop) [Decidable c] (x : Option (Value × Hp)) (d : Option Tmp) (tm : List Value) (K : Cont) : aeff (if c then x else none) d tm K = (c ∧ aeff x d tm K) := by
  by_cases h : c <;> simp [h, aeff]
theorem asplitK_true (tm : List Value) (h : Hp) (A B : Cont) : asplitK true tm h A B = A tm h := by simp [asplitK]
theorem asplitK_false (tm : List Value) (h : Hp) (A B : Cont) : asplitK false tm h A B = B tm h := by simp [asplitK]
theorem aguard_bool (b want : Bool) (tm : List Value) (h : Hp) (A B : Cont) : aguard (some (.bool b)) want tm h A B = asplitK (b == want) tm h A B := rfl
theorem aguard_skip (want : Bool) (tm : List Value) (h : Hp) (A B : Cont) : aguard (some undef) want tm h A B = B tm h := by simp [aguard, undef]
theorem acondK_bool (b : Bool) (tm : List Value) (h : Hp) (A B : Cont) : acondK (.bool b) tm h A B = asplitK b tm h A B := rfl
theorem asplitK_eqt (b : Bool) (tm : List Value) (h : Hp) (A B : Cont) : asplitK (b == true) tm h A B = asplitK b tm h A B := by simp
theorem asplitK_eqf (b : Bool) (tm : List Value) (h : Hp) (A B : Cont) : asplitK (b == false) tm h A B = asplitK b tm h B A := by cases b <;> simp [asplitK]
theorem asplitK_not (b : Bool) (tm : List Value) (h : Hp) (A B : Cont) : asplitK (!b) tm h A B = asplitK b tm h B A := by cases b <;> simp [asplitK]

theorem seqQ_normal (next : Cont) (Q : Post) (tm : List Value) (h : Hp) : seqQ next Q .normal tm h = next tm h := rfl
theorem seqQ_exit (next : Cont) (Q : Post) (i : Nat) (tm : List Value) (h : Hp) : seqQ next Q (.exit i) tm h = Q (.exit i) tm h := rfl
theorem seqQ_ret (next : Cont) (Q : Post) (tm : List Value) (h : Hp) : seqQ next Q .ret tm h = Q .ret tm h := rfl
theorem blockQ_normal (id : Nat) (Q : Post) (tm : List Value) (h : Hp) : blockQ id Q .normal tm h = Q .normal tm h := rfl
theorem blockQ_exit (id : Nat) (Q : Post) (tm : List Value) (h : Hp) : blockQ id Q (.exit id) tm h = Q .normal tm h := by simp [blockQ]
theorem blockQ_exit' (id i : Nat) (Q : Post) (tm : List Value) (h : Hp) (hne : (i == id) = false) : blockQ id Q (.exit i) tm h = Q (.exit i) tm h := by simp at hne; simp [blockQ, hne]
theorem blockQ_ret (id : Nat) (Q : Post) (tm : List Value) (h : Hp) : blockQ id Q .ret tm h = Q .ret tm h := rfl
theorem retQ_ret (rs : List ResultVar) (R : Value → Hp → Prop) (tm : List Value) (h : Hp) : retQ P rs R .ret tm h = aret (aresults P rs tm h) R h := rfl
theorem retQ_normal (rs : List ResultVar) (R : Value → Hp → Prop) (tm : List Value) (h : Hp) : retQ P rs R .normal tm h = aret (aresults P rs tm h) R h := rfl
theorem aret_some (v : Value) (R : Value → Hp → Prop) (h : Hp) : aret (some v) R h = R v h := by simp [aret]
theorem ares_one (t : Tmp) (tm : List Value) (h : Hp) : aresults P [.tmp t] tm h = some ((tm[t]?).getD undef) := rfl
theorem ares_nil (tm : List Value) (h : Hp) : aresults P [] tm h = some (.tuple #[]) := rfl
theorem ares_two (s t : Tmp) (tm : List Value) (h : Hp) : aresults P [.tmp s, .tmp t] tm h = if (notTuple ((tm[s]?).getD undef) && notTuple ((tm[t]?).getD undef)) = true then some (.tuple #[(tm[s]?).getD undef, (tm[t]?).getD undef]) else none := by
  simp [aresults, aresult]
theorem ares_three (s t u : Tmp) (tm : List Value) (h : Hp) : aresults P [.tmp s, .tmp t, .tmp u] tm h = if (notTuple ((tm[s]?).getD undef) && (notTuple ((tm[t]?).getD undef) && notTuple ((tm[u]?).getD undef))) = true then some (.tuple #[(tm[s]?).getD undef, (tm[t]?).getD undef, (tm[u]?).getD undef]) else none := by
  simp [aresults, aresult]
theorem aret_ite (c : Prop) [Decidable c] (x : Option Value) (R : Value → Hp → Prop) (h : Hp) : aret (if c then x else none) R h = (c ∧ aret x R h) := by
  by_cases h : c <;> simp [h, aret]

section
variable (v : Value) (tm : List Value) (h : Hp) (Q : Post)
theorem awp_skip : awp P .skip Q (v :: tm) h = Q .normal (v :: tm) h := rfl
theorem awp_region (id : Nat) (ops : Array Oper) : awp P (.region id ops false) Q (v :: tm) h = aopsL P ops false ops.toList (v :: tm) h (fun tm h => Q .normal tm h) := rfl
theorem awp_draw (id : Nat) (ops : Array Oper) : awp P (.region id ops true) Q (v :: tm) h = ADraw P ops (v :: tm) h (fun tm h => Q .normal tm h) := rfl
theorem awp_seq (x y : Code) : awp P (.seq x y) Q (v :: tm) h = awp P x (seqQ (fun tm h => awp P y Q tm h) Q) (v :: tm) h := rfl
theorem awp_cond (c : Operand) (x y : Code) : awp P (.cond c x y) Q (v :: tm) h = acondK (ev (v :: tm) c) (v :: tm) h (fun tm h => awp P x Q tm h) (fun tm h => awp P y Q tm h) := rfl
theorem awp_block (id : Nat) (c : Code) : awp P (.block id c) Q (v :: tm) h = awp P c (blockQ id Q) (v :: tm) h := rfl
theorem awp_loop (c : Code) : awp P (.loop c) Q (v :: tm) h = ALoop P c Q (v :: tm) h := rfl
theorem awp_exit (id : Nat) : awp P (.exit id) Q (v :: tm) h = Q (.exit id) (v :: tm) h := rfl
theorem awp_ret : awp P .ret Q (v :: tm) h = Q .ret (v :: tm) h := rfl
end
section
variable (u : Value) (ops : Array Oper) (wk : Bool) (d : Option Tmp) (op : Op) (ty : TypeId) (pos : String) (af : Array Edge) (g : Option (Nat × Bool)) (tm : List Value) (h : Hp) (K : Cont)
theorem aopsL_nil : aopsL P ops wk [] (u :: tm) h K = K (u :: tm) h := rfl
theorem aopsL_none (os : List Oper) : aopsL P ops wk (⟨d, op, ty, pos, af, none⟩ :: os) (u :: tm) h K = aop P wk ⟨d, op, ty, pos, af, none⟩ (u :: tm) h fun tm h => aopsL P ops wk os tm h K := rfl
theorem aopsL_some (os : List Oper) (j : Nat) (want : Bool) : aopsL P ops wk (⟨d, op, ty, pos, af, some (j, want)⟩ :: os) (u :: tm) h K =
    aguard (gslot ops (u :: tm) j) want (u :: tm) h (fun tm h => aop P wk ⟨d, op, ty, pos, af, some (j, want)⟩ tm h fun tm h => aopsL P ops wk os tm h K) (fun tm h => aopsL P ops wk os (put tm d undef) h K) := by
  show astep P ops wk ⟨d, op, ty, pos, af, some (j, want)⟩ (u :: tm) h (fun tm h => aopsL P ops wk os tm h K) = _
  unfold astep aguard asplitK asplit
  simp only
  generalize gslot ops (u :: tm) j = s
  cases s with
  | none => rfl
  | some s => cases s <;> rfl
theorem gslot_eq (os : List Oper) (j : Nat) : gslot (List.toArray os) tm j = ((os[j]?).bind (·.dst)).bind (tm[·]?) := by simp [gslot]
theorem aop_pure (hk : kdOf P op = .pure) : aop P wk ⟨d, op, ty, pos, af, g⟩ tm h K = aval (qev P (ev tm) op) d tm h K := by
  unfold aop aval
  split
  · rename_i f args ts e
    simp only at e
    subst e
    simp [kdOf] at hk
  · simp only [hk]
theorem aop_load (hk : kdOf P op = .load) : aop P wk ⟨d, op, ty, pos, af, g⟩ tm h K = aval (lev P h (ev tm) op) d tm h K := by
  unfold aop aval
  split
  · rename_i f args ts e
    simp only at e
    subst e
    simp [kdOf] at hk
  · simp only [hk]
theorem aop_eff (hk : kdOf P op = .weak ∨ kdOf P op = .strong) : aop P wk ⟨d, op, ty, pos, af, g⟩ tm h K = aeff (eev P h (ev tm) op) d tm K := by
  unfold aop aeff
  split
  · rename_i f args ts e
    simp only at e
    subst e
    simp [kdOf] at hk
  · rcases hk with hk | hk <;> simp only [hk]
theorem aop_move (x : Operand) : aop P wk ⟨d, .move x, ty, pos, af, g⟩ (u :: tm) h K = K (put (u :: tm) d (ev (u :: tm) x)) h := by rw [aop_pure _ _ _ _ _ _ _ _ _ _ rfl]; simp [qev, aval_some]
theorem aop_assign (x : Operand) : aop P wk ⟨d, .assign x, ty, pos, af, g⟩ (u :: tm) h K = K (put (u :: tm) d (ev (u :: tm) x)) h := by rw [aop_pure _ _ _ _ _ _ _ _ _ _ rfl]; simp [qev, aval_some]
theorem aop_pick (c a b : Operand) : aop P wk ⟨d, .pick c a b, ty, pos, af, g⟩ (u :: tm) h K = aval (qev P (ev (u :: tm)) (.pick c a b)) d (u :: tm) h K := aop_pure _ _ _ _ _ _ _ _ _ _ rfl
theorem aop_bin (b : BinOp) (t : TypeId) (x y : Operand) (t2 : TypeId) : aop P wk ⟨d, .binOp b t x y t2, ty, pos, af, g⟩ (u :: tm) h K = aval (abin P b t (ev (u :: tm) x) (ev (u :: tm) y)) d (u :: tm) h K := aop_pure _ _ _ _ _ _ _ _ _ _ rfl
theorem aop_un (b : UnOp) (t : TypeId) (x : Operand) : aop P wk ⟨d, .unOp b t x, ty, pos, af, g⟩ (u :: tm) h K = aval (aun b (ev (u :: tm) x)) d (u :: tm) h K := aop_pure _ _ _ _ _ _ _ _ _ _ rfl
theorem aop_nilCheck (x : Operand) : aop P wk ⟨d, .nilCheck x, ty, pos, af, g⟩ (u :: tm) h K = aval (qev P (ev (u :: tm)) (.nilCheck x)) d (u :: tm) h K := aop_pure _ _ _ _ _ _ _ _ _ _ rfl
theorem aop_makeFunc (f : FuncId) (first cap : Array Operand) : aop P wk ⟨d, .makeFunc (.func f) first cap, ty, pos, af, g⟩ (u :: tm) h K = aval (qev P (ev (u :: tm)) (.makeFunc (.func f) first cap)) d (u :: tm) h K := aop_pure _ _ _ _ _ _ _ _ _ _ rfl
theorem aop_fieldAddr (t : TypeId) (x : Operand) (f : Nat) : aop P wk ⟨d, .fieldAddr t x f, ty, pos, af, g⟩ (u :: tm) h K = aval (qev P (ev (u :: tm)) (.fieldAddr t x f)) d (u :: tm) h K := aop_pure _ _ _ _ _ _ _ _ _ _ rfl
theorem aop_field (t : TypeId) (x : Operand) (f : Nat) : aop P wk ⟨d, .field t x f, ty, pos, af, g⟩ (u :: tm) h K = aval (afield P t (ev (u :: tm) x) f) d (u :: tm) h K := aop_pure _ _ _ _ _ _ _ _ _ _ rfl
theorem aop_build (t : TypeId) (ps : Array (Nat × Operand)) : aop P wk ⟨d, .build t ps, ty, pos, af, g⟩ (u :: tm) h K = aval (abuild P t (ps.toList.map fun p => (p.1, ev (u :: tm) p.2))) d (u :: tm) h K := aop_pure _ _ _ _ _ _ _ _ _ _ rfl
theorem aop_indexAddr (t : TypeId) (x i : Operand) : aop P wk ⟨d, .indexAddr t x i, ty, pos, af, g⟩ (u :: tm) h K = aval (aidx P t (ev (u :: tm) x) (ev (u :: tm) i)) d (u :: tm) h K := aop_pure _ _ _ _ _ _ _ _ _ _ rfl
theorem aop_index (t : TypeId) (x i : Operand) : aop P wk ⟨d, .index t x i, ty, pos, af, g⟩ (u :: tm) h K = aval (astr P t (ev (u :: tm) x) (ev (u :: tm) i)) d (u :: tm) h K := aop_pure _ _ _ _ _ _ _ _ _ _ rfl
theorem aop_extract (x : Operand) (i : Nat) : aop P wk ⟨d, .extract x i, ty, pos, af, g⟩ (u :: tm) h K = aval (qev P (ev (u :: tm)) (.extract x i)) d (u :: tm) h K := aop_pure _ _ _ _ _ _ _ _ _ _ rfl
theorem aop_len (x : Operand) (t : TypeId) : aop P wk ⟨d, .call ⟨.builtin .len, #[x], #[t]⟩, ty, pos, af, g⟩ (u :: tm) h K = aval (alen P t (ev (u :: tm) x)) d (u :: tm) h K := aop_pure _ _ _ _ _ _ _ _ _ _ rfl
theorem aop_min (xs : Array Operand) (ts : Array TypeId) : aop P wk ⟨d, .call ⟨.builtin .min, xs, ts⟩, ty, pos, af, g⟩ (u :: tm) h K = aval (amin .min (xs.toList.map (ev (u :: tm)))) d (u :: tm) h K := aop_pure _ _ _ _ _ _ _ _ _ _ rfl
theorem aop_max (xs : Array Operand) (ts : Array TypeId) : aop P wk ⟨d, .call ⟨.builtin .max, xs, ts⟩, ty, pos, af, g⟩ (u :: tm) h K = aval (amin .max (xs.toList.map (ev (u :: tm)))) d (u :: tm) h K := aop_pure _ _ _ _ _ _ _ _ _ _ rfl
theorem aop_ld (t : TypeId) (x : Operand) : aop P wk ⟨d, .load t x, ty, pos, af, g⟩ (u :: tm) h K = aval (lev P h (ev (u :: tm)) (.load t x)) d (u :: tm) h K := aop_load _ _ _ _ _ _ _ _ _ _ rfl
theorem aop_slS (t : TypeId) (x : Operand) (lo hi mx : Option Operand) (hs : strOf P t = true) : aop P wk ⟨d, .slice t x lo hi mx, ty, pos, af, g⟩ (u :: tm) h K = aval (asl P t (ev (u :: tm) x) (lo.map (ev (u :: tm))) (hi.map (ev (u :: tm))) (mx.map (ev (u :: tm)))) d (u :: tm) h K := by
  rw [aop_pure _ _ _ _ _ _ _ _ _ _ (by simp [kdOf, hs])]; simp [qev, hs]
theorem aop_slL (t : TypeId) (x : Operand) (lo hi mx : Option Operand) (hs : strOf P t = false) : aop P wk ⟨d, .slice t x lo hi mx, ty, pos, af, g⟩ (u :: tm) h K = aval (asl2 P h t (ev (u :: tm) x) (lo.map (ev (u :: tm))) (hi.map (ev (u :: tm))) (mx.map (ev (u :: tm)))) d (u :: tm) h K := by
  rw [aop_load _ _ _ _ _ _ _ _ _ _ (by simp [kdOf, hs])]; simp [lev, hs]
theorem aop_cvI (s t : TypeId) (x : Operand) (k1 k : IntKind) (h1 : strOf P s = false) (h2 : strOf P t = false) (h3 : intOf' P s = some k1) (h4 : intOf' P t = some k) : aop P wk ⟨d, .convert s t x, ty, pos, af, g⟩ (u :: tm) h K = aval (match ev (u :: tm) x with | .int _ n => some (.int k (k.wrap n)) | _ => none) d (u :: tm) h K := by
  rw [aop_pure _ _ _ _ _ _ _ _ _ _ (by simp [kdOf, h1, h2])]
  simp only [qev, h3, h4]
  cases ev (u :: tm) x <;> simp [h1]
theorem aop_cvSB (s t : TypeId) (x : Operand) (h1 : strOf P s = true) (h2 : strOf P t = false) : aop P wk ⟨d, .convert s t x, ty, pos, af, g⟩ (u :: tm) h K = aeff (eev P h (ev (u :: tm)) (.convert s t x)) d (u :: tm) K :=
  aop_eff _ _ _ _ _ _ _ _ _ _ (.inl (by simp [kdOf, h1, h2]))
theorem aop_cvBS (s t : TypeId) (x : Operand) (h1 : strOf P s = false) (h2 : strOf P t = true) (h3 : intOf' P s = none) : aop P wk ⟨d, .convert s t x, ty, pos, af, g⟩ (u :: tm) h K = aval (lev P h (ev (u :: tm)) (.convert s t x)) d (u :: tm) h K :=
  aop_load _ _ _ _ _ _ _ _ _ _ (by simp [kdOf, h1, h2, h3])
theorem aop_cvSS (s t : TypeId) (x : Operand) (h1 : strOf P s = true) (h2 : strOf P t = true) : aop P wk ⟨d, .convert s t x, ty, pos, af, g⟩ (u :: tm) h K = aval (qev P (ev (u :: tm)) (.convert s t x)) d (u :: tm) h K :=
  aop_pure _ _ _ _ _ _ _ _ _ _ (by simp [kdOf, h1, h2])
theorem aop_box (t : TypeId) (x : Operand) : aop P wk ⟨d, .box t x, ty, pos, af, g⟩ (u :: tm) h K = aeff (eev P h (ev (u :: tm)) (.box t x)) d (u :: tm) K := aop_eff _ _ _ _ _ _ _ _ _ _ (.inl rfl)
theorem aop_alloc (t : TypeId) : aop P wk ⟨d, .alloc t, ty, pos, af, g⟩ (u :: tm) h K = aeff (eev P h (ev (u :: tm)) (.alloc t)) d (u :: tm) K := aop_eff _ _ _ _ _ _ _ _ _ _ (.inl rfl)
theorem aop_store (t : TypeId) (x y : Operand) : aop P wk ⟨d, .store t x y, ty, pos, af, g⟩ (u :: tm) h K = aeff (eev P h (ev (u :: tm)) (.store t x y)) d (u :: tm) K := aop_eff _ _ _ _ _ _ _ _ _ _ (.inr rfl)
theorem aop_lit (t : TypeId) (n : Nat) (ps : Array (Nat × Operand)) : aop P wk ⟨d, .buildSlice t n ps, ty, pos, af, g⟩ (u :: tm) h K = aeff (eev P h (ev (u :: tm)) (.buildSlice t n ps)) d (u :: tm) K := aop_eff _ _ _ _ _ _ _ _ _ _ (.inl rfl)
theorem aop_make (t : TypeId) (x y : Operand) : aop P wk ⟨d, .makeSlice t x y, ty, pos, af, g⟩ (u :: tm) h K = aeff (eev P h (ev (u :: tm)) (.makeSlice t x y)) d (u :: tm) K := aop_eff _ _ _ _ _ _ _ _ _ _ (.inl rfl)
theorem aop_copy (x y : Operand) (t t2 : TypeId) : aop P wk ⟨d, .call ⟨.builtin .copy, #[x, y], #[t, t2]⟩, ty, pos, af, g⟩ (u :: tm) h K = aeff (acopy P h t (ev (u :: tm) x) (ev (u :: tm) y)) d (u :: tm) K := aop_eff _ _ _ _ _ _ _ _ _ _ (.inr rfl)
theorem aop_clear (x : Operand) (t : TypeId) : aop P wk ⟨d, .call ⟨.builtin .clear, #[x], #[t]⟩, ty, pos, af, g⟩ (u :: tm) h K = aeff (aclear P h t (ev (u :: tm) x)) d (u :: tm) K := aop_eff _ _ _ _ _ _ _ _ _ _ (.inr rfl)
theorem aop_append (s x : Operand) (st xt : TypeId) : aop P wk ⟨d, .call ⟨.builtin .append, #[s, x], #[st, xt]⟩, ty, pos, af, g⟩ (u :: tm) h K = aeff (aappend P h st xt (ev (u :: tm) s) (ev (u :: tm) x)) d (u :: tm) K := aop_eff _ _ _ _ _ _ _ _ _ _ (.inr rfl)
theorem aop_call (f : FuncId) (args : Array Operand) (ts : Array TypeId) : aop P wk ⟨d, .call ⟨.value (.func f), args, ts⟩, ty, pos, af, g⟩ (u :: tm) h K = acallK P wk f (args.toList.map (ev (u :: tm))) d (u :: tm) h K := by
  simp [aop, ev, acallK]
theorem aop_callt (t : Tmp) (args : Array Operand) (ts : Array TypeId) : aop P wk ⟨d, .call ⟨.value (.tmp t), args, ts⟩, ty, pos, af, g⟩ (u :: tm) h K = acallV P wk (ev (u :: tm) (.tmp t)) (args.toList.map (ev (u :: tm))) d (u :: tm) h K := by
  unfold aop acallV acallK
  simp only
  generalize ev (u :: tm) (.tmp t) = v
  cases v with
  | func fn f c => cases fn <;> rfl
  | _ => rfl
theorem acallV_f (g : FuncId) (cap : Array Value) (args : List Value) : acallV P wk (.func (.func g) #[] cap) args d tm h K = acallK P wk g (args ++ cap.toList) d tm h K := by
  simp [acallV]
end

theorem put_some (tm : List Value) (d : Tmp) (v : Value) : put tm (some d) v = tm.set d v := rfl
theorem put_none (tm : List Value) (v : Value) : put tm none v = tm := rfl
theorem ev_tmp (tm : List Value) (t : Tmp) : ev tm (.tmp t) = (tm[t]?).getD undef := rfl
theorem ev_int (tm : List Value) (k : IntKind) (n : Int) : ev tm (.const (.int k n)) = .int k n := rfl
theorem ev_bool (tm : List Value) (b : Bool) : ev tm (.const (.bool b)) = .bool b := rfl
theorem ev_str (tm : List Value) (s : ByteArray) : ev tm (.const (.string s)) = .string s := rfl
theorem ev_nil (tm : List Value) : ev tm (.const (.slice none 0 0)) = .slice none 0 0 := rfl
theorem ev_agg (tm : List Value) (cs : Array Value) (hc : cs.all scal = true) : ev tm (.const (.agg cs)) = .agg cs := by simp [ev, cst, hc]
theorem ev_func (tm : List Value) (f : FuncId) : ev tm (.func f) = .func (.func f) #[] #[] := rfl

/-! Whole numbers. -/
theorem abin_add (t : TypeId) (k : IntKind) (a b : Int) : abin P .add t (.int k a) (.int k b) = some (.int k (k.wrap (a + b))) := by simp [abin]
theorem abin_sub (t : TypeId) (k : IntKind) (a b : Int) : abin P .sub t (.int k a) (.int k b) = some (.int k (k.wrap (a - b))) := by simp [abin]
theorem abin_mul (t : TypeId) (k : IntKind) (a b : Int) : abin P .mul t (.int k a) (.int k b) = some (.int k (k.wrap (a * b))) := by simp [abin]
theorem abin_quo (t : TypeId) (k : IntKind) (a b : Int) : abin P .quo t (.int k a) (.int k b) = if b = 0 then none else some (.int k (k.wrap (a.tdiv b))) := by simp [abin]
theorem abin_rem (t : TypeId) (k : IntKind) (a b : Int) : abin P .rem t (.int k a) (.int k b) = if b = 0 then none else some (.int k (a.tmod b)) := by simp [abin]
theorem abin_eql (t : TypeId) (k : IntKind) (a b : Int) : abin P .eql t (.int k a) (.int k b) = some (.bool (a == b)) := by simp [abin]
theorem abin_neq (t : TypeId) (k : IntKind) (a b : Int) : abin P .neq t (.int k a) (.int k b) = some (.bool (a != b)) := by simp [abin]
theorem abin_lss (t : TypeId) (k : IntKind) (a b : Int) : abin P .lss t (.int k a) (.int k b) = some (.bool (decide (a < b))) := by simp [abin]
theorem abin_leq (t : TypeId) (k : IntKind) (a b : Int) : abin P .leq t (.int k a) (.int k b) = some (.bool (decide (a ≤ b))) := by simp [abin]
theorem abin_gtr (t : TypeId) (k : IntKind) (a b : Int) : abin P .gtr t (.int k a) (.int k b) = some (.bool (decide (b < a))) := by simp [abin]
theorem abin_geq (t : TypeId) (k : IntKind) (a b : Int) : abin P .geq t (.int k a) (.int k b) = some (.bool (decide (b ≤ a))) := by simp [abin]
theorem abin_beql (t : TypeId) (a b : Bool) (hb : isBool P t = true) : abin P .eql t (.bool a) (.bool b) = some (.bool (a == b)) := by simp [abin, hb]
theorem abin_bneq (t : TypeId) (a b : Bool) (hb : isBool P t = true) : abin P .neq t (.bool a) (.bool b) = some (.bool (!(a == b))) := by simp [abin, hb]
theorem wrap_in {n : Int} (h1 : -9223372036854775808 ≤ n) (h2 : n ≤ 9223372036854775807) : IntKind.i64.wrap n = n := by
  rw [IntKind.wrap_i64]; omega
theorem wrap_u8 {n : Int} (h1 : 0 ≤ n) (h2 : n ≤ 255) : IntKind.u8.wrap n = n := by
  simp only [IntKind.wrap, IntKind.bits, IntKind.signed]
  simp
  omega
theorem aun_not (b : Bool) : aun .not (.bool b) = some (.bool !b) := rfl
theorem qev_pick (ρ : Operand → Value) (c a b : Operand) : qev P ρ (.pick c a b) = match ρ c with | .bool t => some (if t then ρ a else ρ b) | _ => none := rfl
theorem aidx_sl (t : TypeId) (a : Addr) (n c : Nat) (k : IntKind) (i : Int) : aidx P t (.slice (some a) n c) (.int k i) = (elemOf P t).bind fun e => (szOf P e).bind fun sz => if 0 ≤ i ∧ i < n then some (.pointer (some ⟨a.block, a.off + i.toNat * sz, none⟩)) else none := rfl
theorem qev_fieldAddr (ρ : Operand → Value) (t : TypeId) (x : Operand) (f : Nat) : qev P ρ (.fieldAddr t x f) = match ρ x with
      | .pointer (some a) => (fldOf P t f).bind fun q => if szOf P q.2 = some 0 then none else (szOf P q.2).bind fun _ => some (.pointer (some ⟨a.block, a.off + q.1, none⟩))
      | _ => none := by
  cases hv : ρ x with
  | pointer a =>
    cases a with
    | none => simp [qev, hv]
    | some a =>
      simp only [qev, hv]
      cases fldOf P t f with
      | none => rfl
      | some q => simp only [Option.bind_some, Option.map_eq_bind]; split <;> rfl
  | _ => simp [qev, hv]
theorem lev_ld (h : Hp) (ρ : Operand → Value) (t : TypeId) (x : Operand) : lev P h ρ (.load t x) = match ρ x with
      | .pointer (some a) => (aggOf P t).bind fun g => if g = true then (szOf P t).bind fun n => (cellsAt h a.block a.off n).bind fun cs => some (.agg cs.toArray) else cellAt h a.block a.off
      | _ => none := by
  cases hv : ρ x with
  | pointer a =>
    cases a with
    | none => simp [lev, hv]
    | some a =>
      simp only [lev, hv]
      cases aggOf P t with
      | none => rfl
      | some g => cases g <;> simp only [Option.bind_some, Option.map_eq_bind] <;> rfl
  | _ => simp [lev, hv]
theorem alen_str (t : TypeId) (s : ByteArray) (h1 : strOf P t = true) : alen P t (.string s) = some (.int .i64 s.size) := by simp [alen, h1]
theorem alen_sl (t : TypeId) (a : Option Addr) (n c : Nat) (h1 : isSlice P t = true) : alen P t (.slice a n c) = some (.int .i64 n) := by simp [alen, h1]
end
attribute [simp] aop_copy aop_clear awp_skip awp_region awp_draw awp_seq awp_cond awp_block awp_loop awp_exit awp_ret aopsL_nil aopsL_none aopsL_some gslot_eq aop_move aop_assign aop_pick aop_bin aop_un aop_nilCheck aop_makeFunc aop_fieldAddr aop_field aop_build aop_indexAddr aop_index aop_extract aop_len aop_min aop_max aop_ld aop_slS aop_slL aop_cvI aop_cvSB aop_cvBS aop_cvSS aop_box aop_alloc aop_store aop_lit aop_make aop_append aop_call aop_callt acallV_f put_some put_none ev_tmp ev_int ev_bool ev_str ev_nil ev_agg ev_func aval_some aval_ite aval_ite2 aeff_some aeff_ite asplitK_true asplitK_false aguard_bool aguard_skip acondK_bool asplitK_eqt asplitK_eqf asplitK_not seqQ_normal seqQ_exit seqQ_ret blockQ_normal blockQ_exit blockQ_exit' blockQ_ret retQ_ret retQ_normal aret_some ares_one ares_nil ares_two ares_three aret_ite abin_add abin_sub abin_mul abin_quo abin_rem abin_eql abin_neq abin_lss abin_leq abin_gtr abin_geq abin_beql abin_bneq aun_not qev_pick aidx_sl qev_fieldAddr lev_ld alen_str alen_sl
end Go.Proofs.Ytidkkmkihifeoaa.Hz
