/- Texts of the calculus and of the program's functions, merged: AD AE. -/
import Derived.Test.YtgfilbekfkhjjaaGreatHyGM
import Derived.Test.YtgfilbekfkhjjaaGreatHyGE
import Derived.Test.YtgfilbekfkhjjaaGreatHyGD
/- DirAdd: what it gives; the reference. -/
namespace Go.Proofs.YtgfilbekfkhjjaaGreat.Hz
open Go.RowKit
set_option linter.unusedVariables false
set_option linter.unusedSimpArgs false
set_option maxRecDepth 20000

/-- Where a name belongs. -/
def insAt (name : Str) : List Ent → Nat
  | [] => 0
  | e :: es => if Op.bytesLess name e.name then 0 else 1 + insAt name es
theorem insAt_le (name : Str) : ∀ es : List Ent, insAt name es ≤ es.length
  | [] => Nat.le_refl _
  | e :: es => by
    have := insAt_le name es
    unfold insAt
    split
    · omega
    · simp; omega
theorem insAt_drop (name : Str) (es : List Ent) (k : Nat) (hk : k < es.length) : insAt name (es.drop k) = if Op.bytesLess name es[k].name then 0 else 1 + insAt name (es.drop (k + 1)) := by
  rw [List.drop_eq_getElem_cons hk]; rfl
def insE (es : List Ent) (name : Str) (node : Int) : List Ent := es.take (insAt name es) ++ [⟨name, node⟩] ++ es.drop (insAt name es)
def dirAdd (es : List Ent) (name : Str) (node : Int) : List Ent × Bool :=
  if entriesOk es && entriesOk (insE es name node) then (insE es name node, true) else (es, false)
theorem insE_len (es : List Ent) (name : Str) (node : Int) : (insE es name node).length = es.length + 1 := by
  have := insAt_le name es
  simp [insE]
  omega
theorem insE_nl (es : List Ent) (name : Str) (node : Int) : sumL Ent.nl (insE es name node) = sumL Ent.nl es + name.length := by
  have h1 : sumL Ent.nl es = sumL Ent.nl (es.take (insAt name es)) + sumL Ent.nl (es.drop (insAt name es)) := by rw [← sumL_append, List.take_append_drop]
  unfold insE
  rw [sumL_append, sumL_append, h1]
  simp [sumL, Ent.nl]
  omega
theorem cutLo {H : Hp} {w : Bool} {es : List Ent} {a : Option Addr} {F : List Nat} (k : slR w 106 entE H es a F) {n : Nat} (hn : n ≤ es.length) :
    ∃ b c G, asl2 Tryz.prog H 102 (.slice a es.length es.length) none (some (.int .i64 n)) none = some (.slice b n c) ∧ n ≤ c ∧ slR w 106 entE H (es.take n) b G := by
  cases a with
  | none =>
    obtain ⟨rfl, rfl⟩ := k
    obtain rfl : n = 0 := by simpa using hn
    exact ⟨none, 0, [], by simp [asl2, asl, bound], Nat.le_refl _, ⟨by simp, rfl⟩⟩
  | some b =>
    obtain ⟨o, off, sp⟩ := b
    obtain rfl : sp = none := k.1
    have hel := k.el
    obtain ⟨G, kp, -⟩ := k.part 0 n (by omega) hn
    simp only [List.drop_zero, Nat.zero_mul, Nat.add_zero] at kp
    exact ⟨_, es.length, G, by simp [asl2_j, hel, hn], hn, kp⟩
theorem cutHi {H : Hp} {w : Bool} {es : List Ent} {a : Option Addr} {F : List Nat} (k : slR w 106 entE H es a F) {n : Nat} (hn : n ≤ es.length) :
    ∃ b G, asl2 Tryz.prog H 102 (.slice a es.length es.length) (some (.int .i64 n)) none none = some (.slice b (es.length - n) (es.length - n)) ∧ slR w 106 entE H (es.drop n) b G := by
  cases a with
  | none =>
    obtain ⟨rfl, rfl⟩ := k
    obtain rfl : n = 0 := by simpa using hn
    exact ⟨none, [], by simp [asl2, asl, bound], ⟨by simp, rfl⟩⟩
  | some b =>
    obtain ⟨o, off, sp⟩ := b
    obtain rfl : sp = none := k.1
    have hel := k.el
    obtain ⟨G, kp, -⟩ := k.part n es.length hn (Nat.le_refl _)
    rw [List.take_length] at kp
    exact ⟨_, G, by simp [asl2_i, hel, hn]; rfl, kp⟩
section
variable (es : List Ent) (name : Str) (node : Int) (a : Option Addr) (F : List Nat) (w : Bool) (h : Hp) (hr : slR w 106 entE h es a F) (hl : es.length ≤ 1048576) (hn : sumL Ent.nl es + name.length ≤ 2097152)
include hr hl hn
end
end Go.Proofs.YtgfilbekfkhjjaaGreat.Hz
/- A name that is there already is not added. No program in sight. -/
namespace Go.Proofs.YtgfilbekfkhjjaaGreat.Hz
open Go.RowKit
set_option linter.unusedVariables false
set_option linter.unusedSimpArgs false
set_option maxRecDepth 20000

theorem less_irr : ∀ a : Str, Op.bytesLess a a = false
  | [] => rfl
  | a :: x => by simp [Op.bytesLess, less_irr x]
theorem less_trans : ∀ a b c : Str, Op.bytesLess a b = true → Op.bytesLess b c = true → Op.bytesLess a c = true
  | _, _, [], _, h => by simp [Op.bytesLess] at h
  | [], _, _ :: _, _, _ => rfl
  | _ :: _, [], _ :: _, h, _ => by simp [Op.bytesLess] at h
  | a :: x, b :: y, c :: z, h1, h2 => by
    simp only [Op.bytesLess, Bool.or_eq_true, Bool.and_eq_true, decide_eq_true_eq, beq_iff_eq] at h1 h2 ⊢
    rcases h1 with h1 | ⟨rfl, h1⟩
    · rcases h2 with h2 | ⟨rfl, h2⟩
      · exact .inl (UInt8.lt_trans h1 h2)
      · exact .inl h1
    · rcases h2 with h2 | ⟨rfl, h2⟩
      · exact .inl h2
      · exact .inr ⟨rfl, less_trans x y z h1 h2⟩
def adj : List Ent → Bool
  | [] => true
  | [_] => true
  | e :: e' :: r => Op.bytesLess e.name e'.name && adj (e' :: r)
theorem okFrom_adj (es : List Ent) : ∀ (l pre : List Ent), es = pre ++ l → okFrom es l pre.length = true → adj l = true
  | [], _, _, _ => rfl
  | [_], _, _, _ => rfl
  | e :: e' :: r, pre, he, h => by
    simp only [okFrom, Bool.and_eq_true] at h
    have h2 := h.2.1
    have ih := okFrom_adj es (e' :: r) (pre ++ [e]) (by rw [he]; simp) (by
      simp only [okFrom, Bool.and_eq_true, List.length_append, List.length_singleton]
      exact h.2)
    simp only [okAt, Bool.and_eq_true] at h2
    have h3 := h2.1.2
    have hg : es[pre.length]? = some e := by rw [he]; simp
    rw [hg] at h3
    simp only [adj, Bool.and_eq_true]
    exact ⟨h3, ih⟩
theorem entriesOk_adj {es : List Ent} (h : entriesOk es = true) : adj es = true := by
  simp only [entriesOk, Bool.and_eq_true] at h
  exact okFrom_adj es es [] rfl h.1
theorem adj_least : ∀ (e : Ent) (r : List Ent), adj (e :: r) = true → ∀ x ∈ r, Op.bytesLess e.name x.name = true
  | _, [], _, x, hx => by cases hx
  | e, e' :: r, h, x, hx => by
    simp only [adj, Bool.and_eq_true] at h
    rcases List.mem_cons.1 hx with rfl | hx
    · exact h.1
    · exact less_trans _ _ _ h.1 (adj_least e' r h.2 x hx)
theorem insE_cons (e : Ent) (r : List Ent) (name : Str) (node : Int) : insE (e :: r) name node = if Op.bytesLess name e.name then ⟨name, node⟩ :: e :: r else e :: insE r name node := by
  unfold insE
  simp only [insAt]
  split
  · simp
  · rw [Nat.add_comm]
    simp
theorem adj_dup (name : Str) (node : Int) : ∀ es : List Ent, adj es = true → (∃ x ∈ es, x.name = name) → adj (insE es name node) = false
  | [], _, h => by obtain ⟨x, hx, _⟩ := h; cases hx
  | e :: r, h, hx => by
    rw [insE_cons]
    obtain ⟨x, hx, hn⟩ := hx
    by_cases hl : Op.bytesLess name e.name = true
    · exfalso
      rcases List.mem_cons.1 hx with rfl | hx
      · rw [hn, less_irr] at hl; cases hl
      · have h1 := adj_least e r h x hx
        rw [hn] at h1
        have := less_trans _ _ _ hl h1
        rw [less_irr] at this; cases this
    · rw [if_neg hl]
      by_cases he : e.name = name
      · cases r with
        | nil => simp [insE, insAt, adj, he, less_irr]
        | cons e2 r2 =>
          simp only [adj, Bool.and_eq_true] at h
          rw [he] at h
          rw [insE_cons, if_pos h.1]
          simp [adj, he, less_irr]
      · have hr : x ∈ r := by
          rcases List.mem_cons.1 hx with rfl | hx
          · exact absurd hn he
          · exact hx
        have hadj : adj r = true := by
          cases r with
          | nil => rfl
          | cons e2 r2 => simp only [adj, Bool.and_eq_true] at h; exact h.2
        have ih := adj_dup name node r hadj ⟨x, hr, hn⟩
        cases hq : insE r name node with
        | nil => rw [hq] at ih; simp [adj] at ih
        | cons y ys => rw [hq] at ih; simp [adj, ih]
theorem dirFind_mem : ∀ (es : List Ent) (n : Str), 0 ≤ dirFind es n → ∃ e ∈ es, e.name = n
  | [], n, h => by simp [dirFind] at h
  | e :: es, n, h => by
    unfold dirFind at h
    by_cases he : e.name = n
    · exact ⟨e, by simp, he⟩
    · rw [if_neg he] at h
      obtain ⟨x, hx, hn⟩ := dirFind_mem es n h
      exact ⟨x, by simp [hx], hn⟩
theorem insE_dup {es : List Ent} {name : Str} (node : Int) (ok : entriesOk es = true) (h : 0 ≤ dirFind es name) : entriesOk (insE es name node) = false := by
  cases hk : entriesOk (insE es name node)
  · rfl
  · have h1 := entriesOk_adj hk
    rw [adj_dup name node es (entriesOk_adj ok) (dirFind_mem es name h)] at h1
    cases h1
theorem entTxt_pos (e : Ent) : 1 ≤ (entTxt e).length := by
  simp only [entTxt, putText, List.length_append]
  by_cases h : (e.name.length : Int) ≤ 2147483647
  · have : 1 ≤ (putNum (e.name.length : Int)).length := by
      unfold putNum
      rw [if_pos ⟨by omega, h⟩, numB]
      split <;> simp
    omega
  · omega
theorem dirText_pos : ∀ es : List Ent, es.length ≤ (dirText es).length
  | [] => Nat.zero_le _
  | e :: es => by
    have ih := dirText_pos es
    have h2 := entTxt_pos e
    have : (dirText (e :: es)).length = (entTxt e).length + (dirText es).length := by simp [dirText, catL]
    simp only [List.length_cons]
    omega
theorem entriesOk_small {es : List Ent} (h : entriesOk es = true) : es.length ≤ 80 := by
  simp only [entriesOk, Bool.and_eq_true, decide_eq_true_eq] at h
  exact Nat.le_trans (dirText_pos es) h.2
theorem dirAdd_len (es : List Ent) (name : Str) (node : Int) : (dirAdd es name node).1.length ≤ es.length + 80 ∧ ((dirAdd es name node).1.length ≤ es.length ∨ (dirAdd es name node).1.length ≤ 80) := by
  unfold dirAdd
  split
  · rename_i h
    simp only [Bool.and_eq_true] at h
    have := entriesOk_small h.2
    simp only
    omega
  · simp
end Go.Proofs.YtgfilbekfkhjjaaGreat.Hz
