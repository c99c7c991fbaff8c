/- Operations that ask nothing of the heap do in the machine what the plain evaluation says. -/
import Derived.Test.YtidkkmkihifeoaaHzB
import Derived.Laws.StructEq
namespace Go.Proofs.Ytidkkmkihifeoaa.Hz
open Go.RowKit
set_option linter.unusedVariables false
set_option linter.unusedSimpArgs false

section
variable {P : Program} {φ : Inj}

theorem relTm_ev {tm : List Value} {tmps : Array Value} (h : All2 (RelV φ) tm tmps.toList) (d : List Deferred) (x : Operand) : RelV φ (ev tm x) ((⟨tmps, d⟩ : Act).eval x) := by
  cases x with
  | tmp t =>
    simp only [ev, Act.eval]
    cases e : tm[t]? with
    | none =>
      have hl := h.length
      have : tmps[t]? = none := by
        rw [List.getElem?_eq_none_iff] at e
        rw [Array.getElem?_eq_none_iff]
        rw [hl] at e
        simpa using e
      simp [Array.getD_eq_getD_getElem?, this, relV_undef]
    | some v =>
      obtain ⟨v', k, r⟩ := h.get t v e
      have : tmps[t]? = some v' := by simpa using k
      simp [Array.getD_eq_getD_getElem?, this, r]
  | const v => exact relV_cst v
  | global g => exact relV_junk _ _
  | func f => exact relV_of (v := .func (.func f) #[] #[]) ⟨rfl, #[], rfl, trivial⟩

theorem und {t : TypeId} {d : TypeDesc} (h : P.underlying t = some d) (w : World) : (underlying t).run P w = .ok d w := by simp [underlying, h]
theorem szR {t : TypeId} {n : Nat} (h : szOf P t = some n) (w : World) : (sizeOf t).run P w = .ok n w := by
  simp only [szOf, Option.map_eq_some_iff] at h
  obtain ⟨i, hi, rfl⟩ := h
  simp [sizeOf, typeInfo, hi]
theorem zeroR {t : TypeId} {z : Value} (h : zeroOf P t = some z) (w : World) : (zeroValue t).run P w = .ok z w := by
  simp only [zeroOf, Option.bind_eq_some_iff] at h
  obtain ⟨i, hi, hz⟩ := h
  simp [zeroValue, typeInfo, hi, hz]
theorem byR {t : TypeId} {n : Nat} (h : byOf P t = some n) (w : World) : ∃ i : TypeInfo, (typeInfo t).run P w = .ok i w ∧ i.bytes = n := by
  simp only [byOf, Option.map_eq_some_iff] at h
  obtain ⟨i, hi, rfl⟩ := h
  exact ⟨i, by simp [typeInfo, hi], rfl⟩
theorem aggR {t : TypeId} {b : Bool} (h : aggOf P t = some b) (w : World) : (isAgg t).run P w = .ok b w := by
  simp only [aggOf, Option.map_eq_some_iff] at h
  obtain ⟨d, hd, rfl⟩ := h
  simp only [isAgg, Sem.run_bind, und hd, Result.andThen_ok]
  cases d <;> rfl
theorem elemR {t e : TypeId} (h : elemOf P t = some e) : P.underlying t = some (.slice e) := by
  unfold elemOf at h
  split at h
  · rename_i e' he; injection h with h; subst h; exact he
  · cases h
theorem strR {t : TypeId} (h : strOf P t = true) : P.underlying t = some .string := by
  unfold strOf at h
  split at h
  · assumption
  · cases h
theorem intR {t : TypeId} {k : IntKind} (h : intOf' P t = some k) : P.underlying t = some (.int k) := by
  unfold intOf' at h
  split at h
  · rename_i e' he; injection h with h; subst h; exact he
  · cases h
theorem sliceR {t : TypeId} (h : isSlice P t = true) : ∃ e, P.underlying t = some (.slice e) := by
  unfold isSlice at h
  split at h
  · exact ⟨_, by assumption⟩
  · cases h
theorem boolR {t : TypeId} (h : isBool P t = true) : P.underlying t = some .bool := by
  unfold isBool at h
  split at h
  · assumption
  · cases h
theorem fldR {t : TypeId} {f off : Nat} {ft : TypeId} (h : fldOf P t f = some (off, ft)) : ∃ fs x, P.underlying t = some (.struct fs) ∧ fs[f]? = some x ∧ x.offset = off ∧ x.type = ft := by
  unfold fldOf at h
  split at h
  · rename_i fs hfs
    simp only [Option.map_eq_some_iff, Prod.mk.injEq] at h
    obtain ⟨x, hx, h1, h2⟩ := h
    exact ⟨fs, x, hfs, hx, h1, h2⟩
  · cases h

theorem rInt {k : IntKind} {n : Int} {v' : Value} (h : RelV φ (.int k n) v') : v' = .int k n := h
theorem rBool {b : Bool} {v' : Value} (h : RelV φ (.bool b) v') : v' = .bool b := h
theorem rStr {s : ByteArray} {v' : Value} (h : RelV φ (.string s) v') : v' = .string s := h
theorem mkV {v : Value} (h : scal v = true) : RelV φ v v := relV_of (relC_scal h)

theorem rel_eqCell {k : Sc} {a b a' b' : Value} {x : Bool} (e : eqCell k a b = some x) (ha : RelC φ a a') (hb : RelC φ b b') : a' = a ∧ b' = b := by
  unfold eqCell at e
  split at e
  all_goals first | (cases e; done) | exact ⟨ha, hb⟩
theorem rel_eqCells : ∀ {ks : List Sc} {xs ys xs' ys' : List Value} {b : Bool}, eqCells ks xs ys = some b → All2 (RelC φ) xs xs' → All2 (RelC φ) ys ys' → eqCells ks xs' ys' = some b
  | [], [], [], xs', ys', b, e, hx, hy => by
    rw [All2.nil_iff] at hx hy; subst hx; subst hy; exact e
  | k :: ks, a :: as, c :: cs, xs', ys', b, e, hx, hy => by
    obtain ⟨a', as', rfl, h1, h2⟩ := All2.cons_iff.1 hx
    obtain ⟨c', cs', rfl, k1, k2⟩ := All2.cons_iff.1 hy
    simp only [eqCells, Option.bind_eq_some_iff, Option.map_eq_some_iff] at e ⊢
    obtain ⟨x, ex, y, ey, rfl⟩ := e
    obtain ⟨rfl, rfl⟩ := rel_eqCell ex h1 k1
    exact ⟨x, ex, y, rel_eqCells ey h2 k2, rfl⟩
  | [], _ :: _, _, _, _, _, e, _, _ => by simp [eqCells] at e
  | [], [], _ :: _, _, _, _, e, _, _ => by simp [eqCells] at e
  | _ :: _, [], _, _, _, _, e, _, _ => by simp [eqCells] at e
  | _ :: _, _ :: _, [], _, _, _, e, _, _ => by simp [eqCells] at e

theorem scOf_agg {t : TypeId} {k : Sc} (ht : scOf P t = some k) : aggOf P t = some false := by
  unfold scOf at ht
  unfold aggOf
  split at ht <;> first | (rename_i hh; rw [hh]; rfl) | cases ht
theorem part_scal {t : TypeId} {k : Sc} (ht : scOf P t = some k) {cs : Array Value} {i : Nat} {v : Value} (hv : cs[i]? = some v) (w : World) : (part t cs i).run P w = .ok v w := by
  simp [part, aggR (scOf_agg ht), hv]
theorem equal_scal {t : TypeId} {k : Sc} (ht : scOf P t = some k) {a b : Value} {x : Bool} (h : eqCell k a b = some x) (d : Nat) (w : World) : (Op.equalIn (d + 1) t a b).run P w = .ok x w := by
  unfold scOf at ht
  split at ht
  all_goals first | (cases ht; done) | skip
  all_goals (injection ht with ht; subst ht; rename_i hu)
  all_goals (unfold eqCell at h; split at h; all_goals first | (cases h; done) | skip)
  all_goals (try contradiction)
  · injection h with h; subst h; exact run_equalIn_bool' w d t _ _ hu
  · split at h
    · rename_i hk; injection h with h; subst h; subst hk; exact run_equalIn_int w d t _ _ _ _ hu
    · cases h
  · injection h with h; subst h; exact run_equalIn_string w d t _ _ hu
theorem eqFields_run (d : Nat) (xs ys : Array Value) (w : World) : ∀ (fs : List Field) (i : Nat) (ks : List Sc) (as bs : List Value) (b : Bool), ksOf P fs i = some ks → eqCells ks as bs = some b → xs.toList.drop i = as → ys.toList.drop i = bs → (Op.eqFields (d + 1) xs ys fs).run P w = .ok b w
  | [], i, ks, as, bs, b, hk, he, _, _ => by
    injection hk with hk; subst hk
    cases as <;> cases bs <;> simp [eqCells] at he
    subst he; rfl
  | f :: fs, i, ks, as, bs, b, hk, he, hx, hy => by
    simp only [ksOf] at hk
    split at hk
    · rename_i hf
      simp only [Option.bind_eq_some_iff, Option.map_eq_some_iff] at hk
      obtain ⟨k, k1, ks', k2, rfl⟩ := hk
      cases as with
      | nil => cases bs <;> simp [eqCells] at he
      | cons a as =>
      cases bs with
      | nil => simp [eqCells] at he
      | cons c bs =>
      simp only [eqCells, Option.bind_eq_some_iff, Option.map_eq_some_iff] at he
      obtain ⟨x, ex, y, ey, rfl⟩ := he
      have ha : xs[i]? = some a := by
        have := congrArg (fun l => l[0]?) hx
        simpa using this
      have hc : ys[i]? = some c := by
        have := congrArg (fun l => l[0]?) hy
        simpa using this
      have hx' : xs.toList.drop (i + 1) = as := by
        have := congrArg (List.drop 1) hx
        simpa [List.drop_drop, Nat.add_comm] using this
      have hy' : ys.toList.drop (i + 1) = bs := by
        have := congrArg (List.drop 1) hy
        simpa [List.drop_drop, Nat.add_comm] using this
      simp only [Op.eqFields, if_pos hf.1, Sem.run_bind, hf.2, part_scal k1 ha, part_scal k1 hc, Result.andThen_ok, equal_scal k1 ex, Sem.run_ite, Sem.run_pure, eqFields_run d xs ys w fs (i + 1) ks' as bs y k2 ey hx' hy']
      cases x <;> simp
    · cases hk
theorem eqKs_spec {t : TypeId} {ks : List Sc} (h : eqKs P t = some ks) : P.eqGuardType P.depth t = false ∧ P.stoodInHeld t = false ∧ ∃ fs, P.underlying t = some (.struct fs) ∧ ksOf P fs.toList 0 = some ks := by
  unfold eqKs at h
  split at h
  · rename_i hg
    simp only [Bool.and_eq_true, Bool.not_eq_true'] at hg
    split at h
    · rename_i fs hfs; exact ⟨hg.1, hg.2, fs, hfs, h⟩
    · cases h
  · cases h
theorem run_eqStruct {t : TypeId} {ks : List Sc} (h : eqKs P t = some ks) {xs ys : Array Value} {b : Bool} (he : eqCells ks xs.toList ys.toList = some b) (w : World) : (Op.equalIn 10000 t (.agg xs) (.agg ys)).run P w = .ok b w := by
  obtain ⟨_, h2, fs, hu, hk⟩ := eqKs_spec h
  have hf : P.fieldsOf t = fs := by simp [Program.fieldsOf, hu]
  rw [show (10000 : Nat) = 9999 + 1 from rfl, run_equalIn_struct w 9999 t xs ys (by rw [hf]; exact hu) h2, hf, show (9999 : Nat) = 9998 + 1 from rfl]
  exact eqFields_run 9998 xs ys w fs.toList 0 ks _ _ b hk he rfl rfl

def Q1 (P : Program) (φ : Inj) (s : Sem Value) (v : Value) : Prop := ∃ v', (∀ w, s.run P w = .ok v' w) ∧ RelV φ v v'

theorem q_eqGuard (op : BinOp) (t : TypeId) (x y : Operand) {a b : Value} (h : (∀ p, a ≠ .agg p) ∨ P.eqGuardType P.depth t = false) (h' : a ≠ .nilIface) (w : World) : (eqGuard op t x y a b).run P w = .ok () w := by
  cases a with
  | nilIface => exact absurd rfl h'
  | agg p =>
    rcases h with h | h
    · exact absurd rfl (h p)
    · cases b with
      | agg q => exact run_eqGuard_agg w op t x y p q h
      | _ => cases op <;> rfl
  | _ => cases op <;> rfl

theorem eq_slice_nil (d : Nat) {t el : TypeId} (hel : P.underlying t = some (.slice el)) (a : Option Addr) (n c : Nat) (w : World) : (Op.equalIn (d + 1) t (.slice a n c) (.slice none 0 0)).run P w = .ok a.isNone w := by
  cases a <;> simp [Op.equalIn, und hel]
theorem q_bin {op : BinOp} {t : TypeId} {x y v x' y' : Value} (e : abin P op t x y = some v) (hx : RelV φ x x') (hy : RelV φ y y') (xo yo : Operand) : Q1 P φ (do eqGuard op t xo yo x' y'; binOp op t x' y') v := by
  unfold abin at e
  split at e
  · obtain rfl := rInt hx; obtain rfl := rInt hy
    rename_i k a k' b
    have hg := fun w => q_eqGuard (P := P) op t xo yo (a := .int k a) (b := .int k' b) (.inl (by simp)) (by simp) w
    split at e
    · split at e
      · cases e
      · rename_i hb; injection e with e; subst e
        exact ⟨_, fun w => by simp only [Sem.run_bind, hg, Result.andThen_ok, binOp, Op.shift, if_neg hb]; rfl, mkV rfl⟩
    · split at e
      · cases e
      · rename_i hb; injection e with e; subst e
        exact ⟨_, fun w => by simp only [Sem.run_bind, hg, Result.andThen_ok, binOp, Op.shift, if_neg hb]; rfl, mkV rfl⟩
    · rename_i h1 h2
      split at e
      · cases e
      · rename_i hk
        have hk' : k = k' := Decidable.of_not_not hk
        subst hk'
        split at e
        all_goals first | (cases e; done) | skip
        all_goals first | (injection e with e; subst e; exact ⟨_, fun w => by simp only [Sem.run_bind, hg, Result.andThen_ok]; simp [binOp, Op.intArith, Op.intCmp, Op.intBits]; try rfl, mkV rfl⟩) | (split at e <;> first | (cases e; done) | (rename_i hb; injection e with e; subst e; exact ⟨_, fun w => by simp only [Sem.run_bind, hg, Result.andThen_ok]; simp [binOp, Op.intDiv, hb]; try rfl, mkV rfl⟩))
  · obtain rfl := rStr hx; obtain rfl := rStr hy
    rename_i a b
    have hg := fun w => q_eqGuard (P := P) op t xo yo (a := .string a) (b := .string b) (.inl (by simp)) (by simp) w
    split at e
    all_goals first | (cases e; done) | skip
    · split at e
      · rename_i hs; injection e with e; subst e
        refine ⟨_, fun w => ?_, mkV rfl⟩
        have : ¬ (((a.size + b.size : Nat) : Int) > IntKind.i64.max) := by
          have : IntKind.i64.max = 9223372036854775807 := by decide
          rw [this]; omega
        simp only [Sem.run_bind, hg, Result.andThen_ok, binOp, Op.stringOp, if_neg this]
        rfl
      · cases e
    all_goals (injection e with e; subst e; exact ⟨_, fun w => by simp only [Sem.run_bind, hg, Result.andThen_ok, binOp, Op.stringOp]; rfl, mkV rfl⟩)
  · obtain rfl := rBool hx; obtain rfl := rBool hy
    rename_i a b
    have hg := fun w => q_eqGuard (P := P) op t xo yo (a := .bool a) (b := .bool b) (.inl (by simp)) (by simp) w
    split at e
    · rename_i hb
      have hr := fun w => run_equalIn_bool' (P := P) w 9999 t a b (boolR hb)
      split at e
      all_goals first | (cases e; done) | skip
      all_goals (injection e with e; subst e; exact ⟨_, fun w => by simp only [Sem.run_bind, hg, Result.andThen_ok, binOp, Op.equal, Op.maxDepth, hr, Sem.run_pure], mkV rfl⟩)
    · cases e
  · rename_i a n c
    have hy' : y' = .slice none 0 0 := hy.2.2
    subst hy'
    split at e
    · rename_i hs
      obtain ⟨el, hel⟩ := sliceR hs
      have key : ∃ x'', x' = x'' ∧ (∀ w, (Op.equalIn 10000 t x' (.slice none 0 0)).run P w = .ok a.isNone w) ∧ (∀ p, x' ≠ .agg p) ∧ x' ≠ .nilIface := by
        cases a with
        | none =>
          obtain ⟨_, _, rfl⟩ := hx
          exact ⟨_, rfl, fun w => eq_slice_nil 9999 hel _ _ _ w, by simp, by simp⟩
        | some a =>
          obtain ⟨p, c', a', _, _, _, _, rfl, _⟩ := hx
          exact ⟨_, rfl, fun w => eq_slice_nil 9999 hel _ _ _ w, by simp, by simp⟩
      obtain ⟨_, _, hr, ha, hn⟩ := key
      have hg := fun w => q_eqGuard (P := P) op t xo yo (a := x') (b := .slice none 0 0) (.inl ha) hn w
      have hbin : ∀ w, (binOp .eql t x' (.slice none 0 0)).run P w = .ok (.bool a.isNone) w ∧ (binOp .neq t x' (.slice none 0 0)).run P w = .ok (.bool !a.isNone) w := by
        intro w
        cases a with
        | none => obtain ⟨_, _, rfl⟩ := hx; simp only [binOp, Op.equal, Op.maxDepth, Sem.run_bind, hr, Result.andThen_ok, Sem.run_pure, and_self]
        | some a => obtain ⟨p, c', a', _, _, _, _, rfl, _⟩ := hx; simp only [binOp, Op.equal, Op.maxDepth, Sem.run_bind, hr, Result.andThen_ok, Sem.run_pure, and_self]
      split at e
      all_goals first | (cases e; done) | skip
      · injection e with e; subst e; exact ⟨_, fun w => by simp only [Sem.run_bind, hg, Result.andThen_ok, (hbin w).1], mkV rfl⟩
      · injection e with e; subst e; exact ⟨_, fun w => by simp only [Sem.run_bind, hg, Result.andThen_ok, (hbin w).2], mkV rfl⟩
    · cases e
  · rename_i xs ys
    obtain ⟨xs', rfl, rx⟩ := hx
    obtain ⟨ys', rfl, ry⟩ := hy
    simp only [Option.bind_eq_some_iff] at e
    obtain ⟨ks, hks, e⟩ := e
    obtain ⟨h1, _, _⟩ := eqKs_spec hks
    have hg := fun w => q_eqGuard (P := P) op t xo yo (a := .agg xs') (b := .agg ys') (.inr h1) (by simp) w
    split at e
    all_goals first | (cases e; done) | skip
    all_goals (simp only [Option.map_eq_some_iff] at e; obtain ⟨b, he, rfl⟩ := e)
    · exact ⟨_, fun w => by simp only [Sem.run_bind, hg, Result.andThen_ok, run_eql_struct, run_eqStruct hks (rel_eqCells he rx ry)], mkV rfl⟩
    · exact ⟨_, fun w => by simp only [Sem.run_bind, hg, Result.andThen_ok, run_neq_struct, run_eqStruct hks (rel_eqCells he rx ry)], mkV rfl⟩
  · cases e
end
end Go.Proofs.Ytidkkmkihifeoaa.Hz
