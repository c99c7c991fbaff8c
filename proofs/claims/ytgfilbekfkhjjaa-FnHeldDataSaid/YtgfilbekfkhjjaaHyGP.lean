/- Texts of the calculus and of the program's functions, merged: AD AE AI IS IC. -/
import Derived.Test.YtgfilbekfkhjjaaHyGM
import Derived.Test.YtgfilbekfkhjjaaHyGE
import Derived.Test.YtgfilbekfkhjjaaHyGD
import Derived.Test.YtgfilbekfkhjjaaHyT
import Derived.Shelf.RegionOpenPlain
import Derived.WalkKit
import Derived.Lib.Walk
import Derived.Lib.SliceRun
import Derived.Lib.AppendZeros
import Derived.Lib.AppendZerosOnto
import Derived.Lib.Overlaps
import Derived.Laws.Externs
import Derived.Laws.IdiomCopy
import Derived.Laws.NewBlocks
/- DirAdd: what it gives; the reference. -/
namespace Go.Proofs.Ytgfilbekfkhjjaa.Hz
open Go.RowKit
set_option linter.unusedVariables false
set_option linter.unusedSimpArgs false
set_option maxRecDepth 20000

/-- Where a name belongs. -/
def insAt (name : Str) : List Ent → Nat
  | [] => 0
  | e :: es => if Op.bytesLess name e.name then 0 else 1 + insAt name es
theorem insAt_le (name : Str) : ∀ es : List Ent, insAt name es ≤ es.length
  | [] => Nat.le_refl _
  | e :: es => by
    have := insAt_le name es
    unfold insAt
    split
    · omega
    · simp; omega
theorem insAt_drop (name : Str) (es : List Ent) (k : Nat) (hk : k < es.length) : insAt name (es.drop k) = if Op.bytesLess name es[k].name then 0 else 1 + insAt name (es.drop (k + 1)) := by
  rw [List.drop_eq_getElem_cons hk]; rfl
def insE (es : List Ent) (name : Str) (node : Int) : List Ent := es.take (insAt name es) ++ [⟨name, node⟩] ++ es.drop (insAt name es)
def dirAdd (es : List Ent) (name : Str) (node : Int) : List Ent × Bool :=
  if entriesOk es && entriesOk (insE es name node) then (insE es name node, true) else (es, false)
theorem insE_len (es : List Ent) (name : Str) (node : Int) : (insE es name node).length = es.length + 1 := by
  have := insAt_le name es
  simp [insE]
  omega
theorem insE_nl (es : List Ent) (name : Str) (node : Int) : sumL Ent.nl (insE es name node) = sumL Ent.nl es + name.length := by
  have h1 : sumL Ent.nl es = sumL Ent.nl (es.take (insAt name es)) + sumL Ent.nl (es.drop (insAt name es)) := by rw [← sumL_append, List.take_append_drop]
  unfold insE
  rw [sumL_append, sumL_append, h1]
  simp [sumL, Ent.nl]
  omega
theorem cutLo {H : Hp} {w : Bool} {es : List Ent} {a : Option Addr} {F : List Nat} (k : slR w 134 entE H es a F) {n : Nat} (hn : n ≤ es.length) :
    ∃ b c G, asl2 Try.prog H 121 (.slice a es.length es.length) none (some (.int .i64 n)) none = some (.slice b n c) ∧ n ≤ c ∧ slR w 134 entE H (es.take n) b G := by
  cases a with
  | none =>
    obtain ⟨rfl, rfl⟩ := k
    obtain rfl : n = 0 := by simpa using hn
    exact ⟨none, 0, [], by simp [asl2, asl, bound], Nat.le_refl _, ⟨by simp, rfl⟩⟩
  | some b =>
    obtain ⟨o, off, sp⟩ := b
    obtain rfl : sp = none := k.1
    have hel := k.el
    obtain ⟨G, kp, -⟩ := k.part 0 n (by omega) hn
    simp only [List.drop_zero, Nat.zero_mul, Nat.add_zero] at kp
    exact ⟨_, es.length, G, by simp [asl2_j, hel, hn], hn, kp⟩
theorem cutHi {H : Hp} {w : Bool} {es : List Ent} {a : Option Addr} {F : List Nat} (k : slR w 134 entE H es a F) {n : Nat} (hn : n ≤ es.length) :
    ∃ b G, asl2 Try.prog H 121 (.slice a es.length es.length) (some (.int .i64 n)) none none = some (.slice b (es.length - n) (es.length - n)) ∧ slR w 134 entE H (es.drop n) b G := by
  cases a with
  | none =>
    obtain ⟨rfl, rfl⟩ := k
    obtain rfl : n = 0 := by simpa using hn
    exact ⟨none, [], by simp [asl2, asl, bound], ⟨by simp, rfl⟩⟩
  | some b =>
    obtain ⟨o, off, sp⟩ := b
    obtain rfl : sp = none := k.1
    have hel := k.el
    obtain ⟨G, kp, -⟩ := k.part n es.length hn (Nat.le_refl _)
    rw [List.take_length] at kp
    exact ⟨_, G, by simp [asl2_i, hel, hn]; rfl, kp⟩
section
variable (es : List Ent) (name : Str) (node : Int) (a : Option Addr) (F : List Nat) (w : Bool) (h : Hp) (hr : slR w 134 entE h es a F) (hl : es.length ≤ 1048576) (hn : sumL Ent.nl es + name.length ≤ 2097152)
include hr hl hn
set_option maxHeartbeats 4000000 in
theorem dirAdd_spec_c :
    ACall Try.prog 127 [.slice a es.length es.length, .string (S name), .int .i64 node] h fun r h' => ∃ a' F', r = .tuple #[.slice a' (dirAdd es name node).1.length (dirAdd es name node).1.length, .bool (dirAdd es name node).2] ∧ Own h 134 entE h' (dirAdd es name node).1 a' F' := by
  refine acall mixed Try.func127 rfl (by kernel_rfl) ?_
  have hw0 : IntKind.i64.wrap ((es.length : Int) - 1) = (es.length : Int) - 1 := wrap_in (by omega) (by omega)
  simp [Try.f127, hw0]
  refine aloop mixed [0, 1, 2, 8, 9] (fun (x : Nat) => [.slice a es.length es.length, .string (S name), .int .i64 node, .int .i64 ((x + insAt name (es.drop x) : Nat) : Int), .int .i64 ((x : Int) - 1)]) (fun _ => h) (fun x => x ≤ es.length) (fun x => x)
    es.length (Nat.le_refl _) (by simp [pickF, insAt]) rfl ?_
  intro c hc
  simp [mkF]
  refine asplitK_intro (fun hb => ?_) (fun hb => ?_) <;> simp at hb <;> simp [hb]
  · obtain ⟨c, rfl⟩ : ∃ c', c = c' + 1 := ⟨c - 1, by omega⟩
    have hlt : c < es.length := by omega
    obtain ⟨o, off, rfl, c0, c1⟩ := entAt hr hlt
    have hd := insAt_drop name es c hlt
    have hi : ((c + 1 : Nat) : Int) - 1 = (c : Int) := by omega
    have hw1 : IntKind.i64.wrap ((c : Int) - 1) = (c : Int) - 1 := wrap_in (by omega) (by omega)
    simp [hi, hlt, c0]
    refine asplitK_intro (fun hd1 => ?_) (fun hd1 => ?_)
    · rw [if_pos hd1] at hd
      simp [hw1]
      exact anext c (by omega) (by simp) (by simp [pickF, hd]) rfl (by simp)
    · rw [if_neg (by simpa using hd1)] at hd
      simp [hw1]
      exact anext c (by omega) (by simp) (by simp [pickF, hd]; omega) rfl (by simp)
  · obtain rfl : c = 0 := by omega
    simp
    have hle := insAt_le name es
    have hlen := insE_len es name node
    have hnl := insE_nl es name node
    obtain ⟨n, hnn⟩ : ∃ n, n = insAt name es := ⟨_, rfl⟩
    have hins : insE es name node = es.take n ++ [⟨name, node⟩] ++ es.drop n := by rw [hnn]; rfl
    rw [← hnn] at hle ⊢
    obtain ⟨b1, c1, G1, e1, q1, s1⟩ := cutLo hr hle
    have hl1 : (es.take n).length = n := by simp; omega
    have hcp := l8Copy_c (es.take n) b1 G1 w _ h s1 (by omega)
    rw [hl1] at hcp
    simp [e1]
    refine callK0 (hcp.cap q1) ?_
    rintro _ H1 ⟨b2, G2, rfl, o2⟩
    obtain ⟨a', H', F', eq, own', keep, sub⟩ := o2.append1K (P := Try.prog) ⟨name, node⟩ (cs := [.string (S name), .int .i64 node]) rfl (st := 121) (xt := 121) (bt := 24) (z := [.string (S []), .int .i64 0]) (by simp) (by simp) (by unfold big; omega) (by unfold big; omega)
    rw [hl1] at eq
    simp [eq]
    obtain ⟨b3, G3, e2, s3⟩ := cutHi (hr.ext own'.ext) hle
    have hl3 : (es.drop n).length = es.length - n := by simp
    have hl4 : (es.take n ++ [(⟨name, node⟩ : Ent)]).length = n + 1 := by rw [List.length_append, hl1]; rfl
    obtain ⟨a4, H4, F4, eq4, own4, keep4, len4⟩ := own'.appendSl (P := Try.prog) s3 (st := 121) (xt := 121) (bt := 24) (z := [.string (S []), .int .i64 0]) (by simp) (by simp) (by unfold big; omega) (by unfold big; omega)
    rw [hl3, hl4] at eq4
    rw [← hins] at own4
    have hl5 : n + 1 + (es.length - n) = (insE es name node).length := by omega
    rw [hl5] at eq4
    simp [e2, eq4]
    have hr4 := hr.ext own4.ext
    refine callK0 (entriesOk_spec_c es a F w _ _ hr4 (by omega) (by omega)) ?_
    rintro _ _ ⟨⟨t5, rfl⟩, rfl⟩
    cases e5 : entriesOk es
    · have hd : dirAdd es name node = (es, false) := by simp [dirAdd, e5]
      rw [hd]
      simp
      refine callK0 (l8Copy_c es a F w _ _ (hr4.to (by simp)) (by omega)) ?_
      rintro _ H6 ⟨a6, F6, rfl, o6⟩
      simp
      exact ⟨F6, o6.of_new (own4.ext.app _)⟩
    simp
    refine callK0 (entriesOk_spec_c (insE es name node) a4 F4 true _ _ (own4.sl.to (by simp)) (by omega) (by omega)) ?_
    rintro _ _ ⟨⟨t6, rfl⟩, rfl⟩
    cases e6 : entriesOk (insE es name node)
    · have hd : dirAdd es name node = (es, false) := by simp [dirAdd, e6]
      rw [hd]
      simp
      refine callK0 (l8Copy_c es a F w _ _ (hr4.to (by simp)) (by omega)) ?_
      rintro _ H6 ⟨a6, F6, rfl, o6⟩
      simp
      exact ⟨F6, o6.of_new (own4.ext.app _)⟩
    have hd : dirAdd es name node = (insE es name node, true) := by simp [dirAdd, e5, e6]
    rw [hd]
    simp
    exact ⟨F4, own4.to (by simp)⟩
end
end Go.Proofs.Ytgfilbekfkhjjaa.Hz
/- A name that is there already is not added. No program in sight. -/
namespace Go.Proofs.Ytgfilbekfkhjjaa.Hz
open Go.RowKit
set_option linter.unusedVariables false
set_option linter.unusedSimpArgs false
set_option maxRecDepth 20000

theorem less_irr : ∀ a : Str, Op.bytesLess a a = false
  | [] => rfl
  | a :: x => by simp [Op.bytesLess, less_irr x]
theorem less_trans : ∀ a b c : Str, Op.bytesLess a b = true → Op.bytesLess b c = true → Op.bytesLess a c = true
  | _, _, [], _, h => by simp [Op.bytesLess] at h
  | [], _, _ :: _, _, _ => rfl
  | _ :: _, [], _ :: _, h, _ => by simp [Op.bytesLess] at h
  | a :: x, b :: y, c :: z, h1, h2 => by
    simp only [Op.bytesLess, Bool.or_eq_true, Bool.and_eq_true, decide_eq_true_eq, beq_iff_eq] at h1 h2 ⊢
    rcases h1 with h1 | ⟨rfl, h1⟩
    · rcases h2 with h2 | ⟨rfl, h2⟩
      · exact .inl (UInt8.lt_trans h1 h2)
      · exact .inl h1
    · rcases h2 with h2 | ⟨rfl, h2⟩
      · exact .inl h2
      · exact .inr ⟨rfl, less_trans x y z h1 h2⟩
def adj : List Ent → Bool
  | [] => true
  | [_] => true
  | e :: e' :: r => Op.bytesLess e.name e'.name && adj (e' :: r)
theorem okFrom_adj (es : List Ent) : ∀ (l pre : List Ent), es = pre ++ l → okFrom es l pre.length = true → adj l = true
  | [], _, _, _ => rfl
  | [_], _, _, _ => rfl
  | e :: e' :: r, pre, he, h => by
    simp only [okFrom, Bool.and_eq_true] at h
    have h2 := h.2.1
    have ih := okFrom_adj es (e' :: r) (pre ++ [e]) (by rw [he]; simp) (by
      simp only [okFrom, Bool.and_eq_true, List.length_append, List.length_singleton]
      exact h.2)
    simp only [okAt, Bool.and_eq_true] at h2
    have h3 := h2.1.2
    have hg : es[pre.length]? = some e := by rw [he]; simp
    rw [hg] at h3
    simp only [adj, Bool.and_eq_true]
    exact ⟨h3, ih⟩
theorem entriesOk_adj {es : List Ent} (h : entriesOk es = true) : adj es = true := by
  simp only [entriesOk, Bool.and_eq_true] at h
  exact okFrom_adj es es [] rfl h.1
theorem adj_least : ∀ (e : Ent) (r : List Ent), adj (e :: r) = true → ∀ x ∈ r, Op.bytesLess e.name x.name = true
  | _, [], _, x, hx => by cases hx
  | e, e' :: r, h, x, hx => by
    simp only [adj, Bool.and_eq_true] at h
    rcases List.mem_cons.1 hx with rfl | hx
    · exact h.1
    · exact less_trans _ _ _ h.1 (adj_least e' r h.2 x hx)
theorem insE_cons (e : Ent) (r : List Ent) (name : Str) (node : Int) : insE (e :: r) name node = if Op.bytesLess name e.name then ⟨name, node⟩ :: e :: r else e :: insE r name node := by
  unfold insE
  simp only [insAt]
  split
  · simp
  · rw [Nat.add_comm]
    simp
theorem adj_dup (name : Str) (node : Int) : ∀ es : List Ent, adj es = true → (∃ x ∈ es, x.name = name) → adj (insE es name node) = false
  | [], _, h => by obtain ⟨x, hx, _⟩ := h; cases hx
  | e :: r, h, hx => by
    rw [insE_cons]
    obtain ⟨x, hx, hn⟩ := hx
    by_cases hl : Op.bytesLess name e.name = true
    · exfalso
      rcases List.mem_cons.1 hx with rfl | hx
      · rw [hn, less_irr] at hl; cases hl
      · have h1 := adj_least e r h x hx
        rw [hn] at h1
        have := less_trans _ _ _ hl h1
        rw [less_irr] at this; cases this
    · rw [if_neg hl]
      by_cases he : e.name = name
      · cases r with
        | nil => simp [insE, insAt, adj, he, less_irr]
        | cons e2 r2 =>
          simp only [adj, Bool.and_eq_true] at h
          rw [he] at h
          rw [insE_cons, if_pos h.1]
          simp [adj, he, less_irr]
      · have hr : x ∈ r := by
          rcases List.mem_cons.1 hx with rfl | hx
          · exact absurd hn he
          · exact hx
        have hadj : adj r = true := by
          cases r with
          | nil => rfl
          | cons e2 r2 => simp only [adj, Bool.and_eq_true] at h; exact h.2
        have ih := adj_dup name node r hadj ⟨x, hr, hn⟩
        cases hq : insE r name node with
        | nil => rw [hq] at ih; simp [adj] at ih
        | cons y ys => rw [hq] at ih; simp [adj, ih]
theorem dirFind_mem : ∀ (es : List Ent) (n : Str), 0 ≤ dirFind es n → ∃ e ∈ es, e.name = n
  | [], n, h => by simp [dirFind] at h
  | e :: es, n, h => by
    unfold dirFind at h
    by_cases he : e.name = n
    · exact ⟨e, by simp, he⟩
    · rw [if_neg he] at h
      obtain ⟨x, hx, hn⟩ := dirFind_mem es n h
      exact ⟨x, by simp [hx], hn⟩
theorem insE_dup {es : List Ent} {name : Str} (node : Int) (ok : entriesOk es = true) (h : 0 ≤ dirFind es name) : entriesOk (insE es name node) = false := by
  cases hk : entriesOk (insE es name node)
  · rfl
  · have h1 := entriesOk_adj hk
    rw [adj_dup name node es (entriesOk_adj ok) (dirFind_mem es name h)] at h1
    cases h1
theorem entTxt_pos (e : Ent) : 1 ≤ (entTxt e).length := by
  simp only [entTxt, putText, List.length_append]
  by_cases h : (e.name.length : Int) ≤ 2147483647
  · have : 1 ≤ (putNum (e.name.length : Int)).length := by
      unfold putNum
      rw [if_pos ⟨by omega, h⟩, numB]
      split <;> simp
    omega
  · omega
theorem dirText_pos : ∀ es : List Ent, es.length ≤ (dirText es).length
  | [] => Nat.zero_le _
  | e :: es => by
    have ih := dirText_pos es
    have h2 := entTxt_pos e
    have : (dirText (e :: es)).length = (entTxt e).length + (dirText es).length := by simp [dirText, catL]
    simp only [List.length_cons]
    omega
theorem entriesOk_small {es : List Ent} (h : entriesOk es = true) : es.length ≤ 80 := by
  simp only [entriesOk, Bool.and_eq_true, decide_eq_true_eq] at h
  exact Nat.le_trans (dirText_pos es) h.2
theorem dirAdd_len (es : List Ent) (name : Str) (node : Int) : (dirAdd es name node).1.length ≤ es.length + 80 ∧ ((dirAdd es name node).1.length ≤ es.length ∨ (dirAdd es name node).1.length ≤ 80) := by
  unfold dirAdd
  split
  · rename_i h
    simp only [Bool.and_eq_true] at h
    have := entriesOk_small h.2
    simp only
    omega
  · simp
end Go.Proofs.Ytgfilbekfkhjjaa.Hz
/- DirAdd: the program, given what slices.Insert does. -/
namespace Go.Proofs.Ytgfilbekfkhjjaa.Hz
open Go.RowKit
set_option linter.unusedVariables false
set_option linter.unusedSimpArgs false
set_option maxRecDepth 20000

theorem findI_insAt (name : Str) : ∀ (es : List Ent) (k : Nat), (findI (fun e => !(Op.bytesLess e.name name || e.name == name)) es k = -1 ∧ insAt name es = es.length) ∨ findI (fun e => !(Op.bytesLess e.name name || e.name == name)) es k = ((k + insAt name es : Nat) : Int)
  | [], k => .inl ⟨rfl, rfl⟩
  | e :: es, k => by
    have hl : (!(Op.bytesLess e.name name || e.name == name)) = Op.bytesLess name e.name := by
      rw [← less_total name e.name, Bool.not_not]
    unfold findI
    simp only [hl]
    by_cases h : Op.bytesLess name e.name = true
    · right
      simp [insAt, h]
    · have h' : Op.bytesLess name e.name = false := by simpa using h
      have hi : insAt name (e :: es) = 1 + insAt name es := by simp [insAt, h']
      rw [h', if_neg (by simp), hi]
      rcases findI_insAt name es (k + 1) with ⟨h1, h2⟩ | h1
      · exact .inl ⟨h1, by rw [h2, List.length_cons]; omega⟩
      · right
        rw [h1]
        omega
theorem cell_upA {B H : Hp} (x : Ext B H) {o i : Nat} {v : Value} (c : cellAt B o i = some v) : cellAt H o i = some v := by
  rw [cellAt_ext x (by obtain ⟨ob, ho, _⟩ := cellAt_some c; exact (List.getElem?_eq_some_iff.1 ho).1), c]
theorem findI_name {es : List Ent} {name : Str} (h : 0 ≤ findI (fun e => e.name == name) es 0) : ∃ e ∈ es, e.name = name := by
  rcases findI_spec (fun e => e.name == name) es 0 with ⟨h1, _⟩ | ⟨j, hj, _, h2, _⟩
  · rw [h1] at h; exact absurd h (by decide)
  · exact ⟨es[j], List.getElem_mem hj, by simpa using h2⟩
theorem insE_dup2 {es : List Ent} {name : Str} (node : Int) (ok : entriesOk es = true) (h : ∃ e ∈ es, e.name = name) : entriesOk (insE es name node) = false := by
  cases hk : entriesOk (insE es name node)
  · rfl
  · have h1 := entriesOk_adj hk
    rw [adj_dup name node es (entriesOk_adj ok) h] at h1
    cases h1
section
end
end Go.Proofs.Ytgfilbekfkhjjaa.Hz
/- slices.Insert of one entry, in the machine: the two roads on which the place is inside. -/
namespace Go.Proofs.Ytgfilbekfkhjjaa.Hz
open Go.RowKit Go.Lib
set_option linter.unusedVariables false
set_option linter.unusedSimpArgs false

section
variable {P : Program}
theorem step_copyI {ops : Array Oper} {o : Oper} {a : Act} {w : World} {K : Act → World → Prop} {Q : Exit → Act → World → Prop} {E : Prop}
    (hg : o.guard = none) (d x : Operand) (dT sT : TypeId) (hop : o.op = Op.call { callee := Callee.builtin Builtin.copy, args := #[d, x], argTypes := #[dT, sT] })
    (v u : Value) (hd : a.eval d = v) (hx : a.eval x = u) {v' : Value} {w' : World} (hr : (Builtin.copy_ #[dT, sT] o.type #[v, u]).run P w = .ok v' w') (hK : K (a.put o.dst v') w') :
    if Region.wanted o (yielded ops a.tmps) = true then Oper.wp P o a w K Q else E := by
  have hw : Region.wanted o (yielded ops a.tmps) = true := by simp [Region.wanted, hg]
  rw [if_pos hw]
  unfold Oper.wp
  simp [execOp, hop, resolve, invoke, builtin, hd, hx, hr, Result.andThen]
  exact hK
theorem copy_runI (w : World) {o : Oper} {a : Act} {K : Act → World → Prop} {Q : Exit → Act → World → Prop} (d s : Operand) (t t' : TypeId)
    (ho : o.op = .call { callee := .builtin .copy, args := #[d, s], argTypes := #[t, t'] }) (v u : Value) (hd : a.eval d = v) (hs : a.eval s = u) {v' : Value} {w' : World}
    (hr : (Builtin.copy_ #[t, t'] o.type #[v, u]).run P w = .ok v' w') (h : K (a.put o.dst v') w') : o.wp P a w K Q := by
  unfold Oper.wp execOp
  simp only [ho, resolve, invoke, builtin, Sem.run_bind, Sem.run_pure, Result.andThen_ok, List.map_toArray, List.map_cons, List.map_nil, hd, hs, hr]
  exact h
theorem list_copyI (w : World) {ops : Array Oper} {rest : List Oper} {o : Oper} {a : Act} {Q : Exit → Act → World → Prop} (hgd : o.guard = none) (d s : Operand) (t t' : TypeId)
    (ho : o.op = .call { callee := .builtin .copy, args := #[d, s], argTypes := #[t, t'] }) (v u : Value) (hd : a.eval d = v) (hs : a.eval s = u) {v' : Value} {w' : World}
    (hr : (Builtin.copy_ #[t, t'] o.type #[v, u]).run P w = .ok v' w') (h : wpList P ops Q rest (a.put o.dst v') w') : wpList P ops Q (o :: rest) a w :=
  wpList_plain hgd fun _ hK => copy_runI w d s t t' ho v u hd hs hr (hK _ _ h)
/-- A copy of k elements of so many cells. -/
theorem copy_cells (w : World) (dT sT ty elem : TypeId) (sz k b o dLen dCap : Nat) (a : Addr) (sLen sCap : Nat) (cs : List Value)
    (hu : P.underlying dT = some (.slice elem)) (hs : ∀ w, (Go.sizeOf elem).run P w = .ok sz w) (hk : k = Nat.min sLen dLen) (hn : cs.length = k * sz)
    (hsrc : ∀ j v, cs[j]? = some v → w.cell? (a.add j) = some v) (hc : ∀ j, j < cs.length → (w.cell? ⟨b, o + j, none⟩).isSome = true) (hf : ∀ j, j < cs.length → w.frozen? ⟨b, o + j, none⟩ = false) (h1 : ∀ v ∈ cs, v.oneCell' = true) :
    (Builtin.copy_ #[dT, sT] ty #[.slice (some ⟨b, o, none⟩) dLen dCap, .slice (some a) sLen sCap]).run P w = .ok (goInt k) (w.setCells b o cs) := by
  have hl := run_loadCells_list (P := P) w a cs hsrc
  have hst := run_storeCells_cells (P := P) b o cs 0 w (by simpa using hc) (by simpa using hf) h1
  rw [hn] at hl
  simp [Builtin.copy_, run_underlying hu, Builtin.lenOf, Builtin.firstCells, hs, ← hk, hl, hst]
theorem some_setCells (b : Nat) (vs : List Value) (o : Nat) (w : World) (h : ∀ j, j < vs.length → (w.cell? ⟨b, o + j, none⟩).isSome = true) (k : Nat) (hk : (w.cell? ⟨b, k, none⟩).isSome = true) : ((w.setCells b o vs).cell? ⟨b, k, none⟩).isSome = true := by
  by_cases hin : o ≤ k ∧ k < o + vs.length
  · have := World.cell?_setCells_in b vs o w h (k - o) (by omega)
    rw [show o + (k - o) = k by omega] at this
    rw [this]; rfl
  · rw [World.cell?_setCells_out b vs o w ⟨b, k, none⟩ (fun _ _ => by show k < o ∨ o + vs.length ≤ k; omega)]
    exact hk
end

theorem tSE : Try.prog.underlying 121 = some (.slice 134) := by kernel_rfl
theorem tIN : Try.prog.underlying 3 = some (.int .i64) := by kernel_rfl
theorem zEN (w : World) : (Go.sizeOf 134).run Try.prog w = .ok 2 w := szR (by kernel_rfl) w
theorem iEN : (Try.prog.info? 134).map (fun i => (i.zero, i.size, i.bytes)) = some (some (.agg #[.string ⟨#[]⟩, .int .i64 0]), 2, 24) := by kernel_rfl

end Go.Proofs.Ytgfilbekfkhjjaa.Hz
/- slices.Insert of one entry: the contract. -/
namespace Go.Proofs.Ytgfilbekfkhjjaa.Hz
open Go.RowKit
set_option linter.unusedVariables false
set_option linter.unusedSimpArgs false
set_option maxRecDepth 20000

theorem insEl : elOf Try.prog 121 = some (134, 2, 24, [.string ⟨#[]⟩, .int .i64 0]) := by kernel_rfl
theorem callsV_enter {P : Program} {f : FuncId} {fn : Func} {c : Code} (hf : P.funcs[f]? = some fn) (hb : fn.body = some c) (hn : (fn.name == "runtime.NumGoroutine") = false) {args : Array Value} {w : World} {S : Value → World → Prop}
    (k : Calls P f args w fun e w2 => ∃ v, e = .returned v ∧ S v w2) : CallsV P f args w S := by
  have hen : (callFunc f args).run P w = .ok (.enter f args) w := by
    unfold callFunc
    simp only [Sem.run_bind, run_program, Result.andThen_ok, hf]
    simp [hn, hb]
  unfold CallsV
  rw [hen]
  exact k
theorem setsAt_last (h : Hp) (ob : Ob) (i : Nat) (vs : List Value) : setsAt (h ++ [ob]) h.length i vs = h ++ [{ ob with cells := setL ob.cells i vs }] := by
  apply List.ext_getElem?
  intro q
  rw [setsAt_get]
  by_cases hq : h.length = q
  · subst hq
    simp
  · rw [if_neg hq]
    by_cases hlt : q < h.length
    · rw [List.getElem?_append_left hlt, List.getElem?_append_left hlt]
    · rw [List.getElem?_eq_none (by simp; omega), List.getElem?_eq_none (by simp; omega)]
/-- Row told cell by cell. -/
theorem ins_cells (es : List Ent) (x : Ent) (i : Nat) : ((es.take i ++ [x] ++ es.drop i).map Ent.cs).flatten = ((es.map Ent.cs).flatten.take (i * 2) ++ Ent.cs x) ++ (es.map Ent.cs).flatten.drop (i * 2) := by
  have key : ∀ (es : List Ent) (i : Nat), ((es.map Ent.cs).take i).flatten = (es.map Ent.cs).flatten.take (i * 2) ∧ ((es.map Ent.cs).drop i).flatten = (es.map Ent.cs).flatten.drop (i * 2) := by
    intro es
    induction es with
    | nil => intro i; simp
    | cons e es ih =>
      intro i
      cases i with
      | zero => simp
      | succ i =>
        obtain ⟨h1, h2⟩ := ih i
        have e2 : (i + 1) * 2 = i * 2 + 1 + 1 := by omega
        simp [h1, h2, e2, Ent.cs]
  obtain ⟨h1, h2⟩ := key es i
  simp [h1, h2]
theorem Own.mem0 {α : Type} {A : Enc α} {h0 h : Hp} {e : TypeId} {xs : List α} {F : List Nat} {o off : Nat} (k : Own h0 e A h xs (some ⟨o, off, none⟩) F) : o ∈ F := by
  obtain ⟨_, ob, css, Fs, pre, post, g1, g2, g3, g4, rfl, _⟩ := k.sl
  exact List.mem_cons_self
theorem ins_own {es : List Ent} {x : Ent} {i o off : Nat} {F : List Nat} {h0 h : Hp} (own : Own h0 134 entE h es (some ⟨o, off, none⟩) F) : Own h0 134 entE (kill h o ++ [⟨true, true, 134, ((es.take i ++ [x] ++ es.drop i).map Ent.cs).flatten⟩]) (es.take i ++ [x] ++ es.drop i) (some ⟨h.length, 0, none⟩) [h.length] := by
  have := Own.lit (h0 := h0) (h := kill h o) (e := 134) (A := entE) (own.ext.kill (own.new o (Own.mem0 own))) (rowsR.mkFlat (es.take i ++ [x] ++ es.drop i)) (by rw [flat_rep]; exact List.nodup_nil) (by rw [flat_rep]; simp)
  rw [flat_rep, kill_len] at this
  exact this
end Go.Proofs.Ytgfilbekfkhjjaa.Hz
