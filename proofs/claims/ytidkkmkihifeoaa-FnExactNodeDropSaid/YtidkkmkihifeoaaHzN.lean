/- Data on the plain heap: strings, elements, slices. -/
import Derived.Test.YtidkkmkihifeoaaHzM
namespace Go.Proofs.Ytidkkmkihifeoaa.Hz
open Go.RowKit
set_option linter.unusedVariables false
set_option linter.unusedSimpArgs false

/-! ### Strings are lists of bytes -/
abbrev Str := List UInt8
def S (l : Str) : ByteArray := ⟨l.toArray⟩
theorem S_size (l : Str) : (S l).size = l.length := by simp [S, ByteArray.size]
theorem S_toList (l : Str) : (S l).toList = l := by rw [ByteArray.toList_eq]; rfl
theorem S_append (a b : Str) : S a ++ S b = S (a ++ b) := by
  apply ByteArray.ext
  rw [ByteArray.data_append]
  simp [S]
theorem S_extract (l : Str) (i j : Nat) : (S l).extract i j = S ((l.take j).drop i) := by
  apply ByteArray.ext
  rw [ByteArray.data_extract]
  simp [S, List.extract_eq_take_drop, List.drop_take]
theorem S_data (l : Str) : (S l).data = l.toArray := rfl
theorem S_mk (l : Str) : ByteArray.mk (List.toArray l) = S l := rfl
theorem S_of (s : ByteArray) : s = S s.data.toList := by simp [S]
theorem S_inj {a b : Str} : S a = S b ↔ a = b := ⟨fun h => by have := congrArg (fun s => s.data.toList) h; simpa [S] using this, fun h => h ▸ rfl⟩
theorem bytesL_S (l : Str) : bytesL (S l) = l.map fun b => Value.int .u8 b.toNat := by simp [bytesL, S]
theorem strL_map : ∀ (l : Str), strL (l.map fun b => Value.int .u8 b.toNat) = some l
  | [] => rfl
  | b :: l => by simp [strL, strL_map l]

section
variable {P : Program}
theorem abin_sadd (t : TypeId) (a b : Str) : abin P .add t (.string (S a)) (.string (S b)) = if a.length + b.length ≤ 9223372036854775807 then some (.string (S (a ++ b))) else none := by simp [abin, S_size, S_append]
theorem abin_seql (t : TypeId) (a b : Str) : abin P .eql t (.string (S a)) (.string (S b)) = some (.bool (a == b)) := by simp [abin, S_toList]
theorem abin_sneq (t : TypeId) (a b : Str) : abin P .neq t (.string (S a)) (.string (S b)) = some (.bool !(a == b)) := by simp [abin, S_toList]
theorem abin_slss (t : TypeId) (a b : Str) : abin P .lss t (.string (S a)) (.string (S b)) = some (.bool (Op.bytesLess a b)) := by simp [abin, S_toList]
theorem abin_sleq (t : TypeId) (a b : Str) : abin P .leq t (.string (S a)) (.string (S b)) = some (.bool (Op.bytesLess a b || a == b)) := by simp [abin, S_toList]
theorem abin_sgtr (t : TypeId) (a b : Str) : abin P .gtr t (.string (S a)) (.string (S b)) = some (.bool !(Op.bytesLess a b || a == b)) := by simp [abin, S_toList]
theorem abin_sgeq (t : TypeId) (a b : Str) : abin P .geq t (.string (S a)) (.string (S b)) = some (.bool !(Op.bytesLess a b)) := by simp [abin, S_toList]
theorem astr_S (t : TypeId) (l : Str) (k : IntKind) (i : Int) (hs : strOf P t = true) : astr P t (.string (S l)) (.int k i) = if 0 ≤ i ∧ i < l.length then some (.int .u8 ((l[i.toNat]?).getD 0).toNat) else none := by
  simp only [astr, hs, Bool.true_and, decide_eq_true_eq, S_data]
  by_cases h0 : 0 ≤ i
  · by_cases h1 : i < l.length
    · have : i.toNat < l.length := by omega
      simp [h0, h1]
    · have : l.length ≤ i.toNat := by omega
      simp [h0, h1]
  · simp [h0]
theorem asl_ij (t : TypeId) (l : Str) (k k' : IntKind) (i j : Int) (hs : strOf P t = true) : asl P t (.string (S l)) (some (.int k i)) (some (.int k' j)) none = if 0 ≤ i ∧ i ≤ j ∧ j ≤ l.length then some (.string (S ((l.take j.toNat).drop i.toNat))) else none := by
  simp [asl, hs, bound, S_size, S_extract]
theorem asl_i (t : TypeId) (l : Str) (k : IntKind) (i : Int) (hs : strOf P t = true) : asl P t (.string (S l)) (some (.int k i)) none none = if 0 ≤ i ∧ i ≤ l.length then some (.string (S (l.drop i.toNat))) else none := by
  have : ((l.length : Int)).toNat = l.length := by omega
  simp [asl, hs, bound, S_size, S_extract]
theorem asl_j (t : TypeId) (l : Str) (k' : IntKind) (j : Int) (hs : strOf P t = true) : asl P t (.string (S l)) none (some (.int k' j)) none = if 0 ≤ j ∧ j ≤ l.length then some (.string (S (l.take j.toNat))) else none := by
  simp [asl, hs, bound, S_size, S_extract]
theorem alen_S (t : TypeId) (l : Str) (hs : strOf P t = true) : alen P t (.string (S l)) = some (.int .i64 l.length) := by simp [alen, hs, S_size]
end
attribute [simp] abin_sadd abin_seql abin_sneq abin_slss abin_sleq abin_sgtr abin_sgeq astr_S asl_ij asl_i asl_j alen_S S_mk S_size S_toList S_append S_inj

/-! ### How data stand in cells -/
structure Enc (α : Type) where
  n : Nat
  R : Hp → α → List Value → List Nat → Prop
  len : ∀ {h x cs F}, R h x cs F → cs.length = n
  ok : ∀ {h x cs F}, R h x cs F → cs.all okCell = true
  frame : ∀ {h h' : Hp} {x cs F}, R h x cs F → (∀ o ∈ F, h'[o]? = h[o]?) → R h' x cs F
  lt : ∀ {h : Hp} {x cs F}, R h x cs F → ∀ o ∈ F, o < h.length

/-- Plain cells. -/
def flatE {α : Type} (n : Nat) (f : α → List Value) (hn : ∀ x, (f x).length = n) (hok : ∀ x, (f x).all okCell = true) : Enc α where
  n := n
  R _ x cs F := cs = f x ∧ F = []
  len h := by rw [h.1]; exact hn _
  ok h := by rw [h.1]; exact hok _
  frame h _ := h
  lt h o ho := by rw [h.2] at ho; cases ho
def intE : Enc Int := flatE 1 (fun n => [.int .i64 n]) (fun _ => rfl) (fun _ => rfl)
def byteE : Enc UInt8 := flatE 1 (fun b => [.int .u8 b.toNat]) (fun _ => rfl) (fun _ => rfl)
def strE : Enc Str := flatE 1 (fun s => [.string (S s)]) (fun _ => rfl) (fun _ => rfl)
def boolE : Enc Bool := flatE 1 (fun b => [.bool b]) (fun _ => rfl) (fun _ => rfl)

def rowsR {α : Type} (A : Enc α) (h : Hp) : List α → List (List Value) → List (List Nat) → Prop
  | [], [], [] => True
  | x :: xs, c :: cs, F :: Fs => A.R h x c F ∧ rowsR A h xs cs Fs
  | _, _, _ => False
section
variable {α : Type} {A : Enc α} {h h' : Hp}
theorem rowsR.len : ∀ {xs : List α} {css : List (List Value)} {Fs : List (List Nat)}, rowsR A h xs css Fs → css.length = xs.length ∧ Fs.length = xs.length ∧ css.flatten.length = xs.length * A.n
  | [], [], [], _ => ⟨rfl, rfl, by simp⟩
  | x :: xs, c :: cs, F :: Fs, k => by
    obtain ⟨h1, h2, h3⟩ := rowsR.len k.2
    have := A.len k.1
    refine ⟨by simp [h1], by simp [h2], ?_⟩
    simp only [List.flatten_cons, List.length_append, List.length_cons, h3, this, Nat.add_mul]
    omega
  | [], [], _ :: _, k => k.elim
  | [], _ :: _, _, k => k.elim
  | _ :: _, [], _, k => k.elim
  | _ :: _, _ :: _, [], k => k.elim
theorem rowsR.ok : ∀ {xs : List α} {css : List (List Value)} {Fs : List (List Nat)}, rowsR A h xs css Fs → css.flatten.all okCell = true
  | [], [], [], _ => rfl
  | x :: xs, c :: cs, F :: Fs, k => by
    simp only [List.flatten_cons, List.all_append, A.ok k.1, rowsR.ok k.2, Bool.and_self]
  | [], [], _ :: _, k => k.elim
  | [], _ :: _, _, k => k.elim
  | _ :: _, [], _, k => k.elim
  | _ :: _, _ :: _, [], k => k.elim
theorem rowsR.frame : ∀ {xs : List α} {css : List (List Value)} {Fs : List (List Nat)}, rowsR A h xs css Fs → (∀ o ∈ Fs.flatten, h'[o]? = h[o]?) → rowsR A h' xs css Fs
  | [], [], [], _, _ => trivial
  | x :: xs, c :: cs, F :: Fs, k, e => ⟨A.frame k.1 fun o ho => e o (by simp [ho]), rowsR.frame k.2 fun o ho => e o (by simp only [List.flatten_cons, List.mem_append]; exact .inr ho)⟩
  | [], [], _ :: _, k, _ => k.elim
  | [], _ :: _, _, k, _ => k.elim
  | _ :: _, [], _, k, _ => k.elim
  | _ :: _, _ :: _, [], k, _ => k.elim
theorem rowsR.lt : ∀ {xs : List α} {css : List (List Value)} {Fs : List (List Nat)}, rowsR A h xs css Fs → ∀ o ∈ Fs.flatten, o < h.length
  | [], [], [], _, o, ho => by simp at ho
  | x :: xs, c :: cs, F :: Fs, k, o, ho => by
    simp only [List.flatten_cons, List.mem_append] at ho
    rcases ho with ho | ho
    · exact A.lt k.1 o ho
    · exact rowsR.lt k.2 o ho
  | [], [], _ :: _, k, _, _ => k.elim
  | [], _ :: _, _, k, _, _ => k.elim
  | _ :: _, [], _, k, _, _ => k.elim
  | _ :: _, _ :: _, [], k, _, _ => k.elim
theorem rowsR.append : ∀ {xs ys : List α} {c1 c2 : List (List Value)} {F1 F2 : List (List Nat)}, rowsR A h xs c1 F1 → rowsR A h ys c2 F2 → rowsR A h (xs ++ ys) (c1 ++ c2) (F1 ++ F2)
  | [], _, [], _, [], _, _, k => k
  | _ :: _, _, _ :: _, _, _ :: _, _, h, k => ⟨h.1, rowsR.append h.2 k⟩
  | [], _, [], _, _ :: _, _, h, _ => h.elim
  | [], _, _ :: _, _, _, _, h, _ => h.elim
  | _ :: _, _, [], _, _, _, h, _ => h.elim
  | _ :: _, _, _ :: _, _, [], _, h, _ => h.elim
theorem rowsR.get : ∀ {xs : List α} {css : List (List Value)} {Fs : List (List Nat)} (_ : rowsR A h xs css Fs) (i : Nat) (x : α), xs[i]? = some x → ∃ c F, css[i]? = some c ∧ Fs[i]? = some F ∧ A.R h x c F ∧ ∀ j, j < A.n → css.flatten[i * A.n + j]? = c[j]?
  | x :: xs, c :: cs, F :: Fs, k, 0, y, e => by
    simp at e; subst e
    refine ⟨c, F, rfl, rfl, k.1, fun j hj => ?_⟩
    simp only [Nat.zero_mul, Nat.zero_add, List.flatten_cons]
    exact List.getElem?_append_left (by rw [A.len k.1]; exact hj)
  | x :: xs, c :: cs, F :: Fs, k, i + 1, y, e => by
    obtain ⟨c', F', h1, h2, h3, h4⟩ := rowsR.get k.2 i y (by simpa using e)
    refine ⟨c', F', by simpa using h1, by simpa using h2, h3, fun j hj => ?_⟩
    rw [← h4 j hj, List.flatten_cons, List.getElem?_append_right (by rw [A.len k.1, Nat.add_mul]; omega), A.len k.1]
    congr 1
    rw [Nat.add_mul]; omega
  | [], [], [], _, _, _, e => by simp at e
  | [], [], _ :: _, k, _, _, _ => k.elim
  | [], _ :: _, _, k, _, _, _ => k.elim
  | _ :: _, [], _, k, _, _, _ => k.elim
  | _ :: _, _ :: _, [], k, _, _, _ => k.elim
end

/-- A slice that reads as a list: its elements' type, may it be written. -/
def slR {α : Type} (w : Bool) (e : TypeId) (A : Enc α) (h : Hp) (xs : List α) (a : Option Addr) (F : List Nat) : Prop :=
  match a with
  | none => xs = [] ∧ F = []
  | some a => a.spot = none ∧ ∃ ob css Fs pre post, h[a.block]? = some ob ∧ ob.live = true ∧ (w = true → ob.rw = true) ∧ ob.elem = e ∧ F = a.block :: Fs.flatten ∧ rowsR A h xs css Fs ∧ ob.cells = pre ++ css.flatten ++ post ∧ pre.length = a.off
section
variable {α : Type} {A : Enc α} {h h' : Hp} {w : Bool} {e : TypeId} {xs : List α} {a : Option Addr} {F : List Nat}
theorem slR.frame (k : slR w e A h xs a F) (hf : ∀ o ∈ F, h'[o]? = h[o]?) : slR w e A h' xs a F := by
  unfold slR at *
  cases a with
  | none => exact k
  | some a =>
    obtain ⟨h0, ob, css, Fs, pre, post, h1, h2, h3, h4, rfl, h5, h6, h7⟩ := k
    exact ⟨h0, ob, css, Fs, pre, post, by rw [hf _ (by simp)]; exact h1, h2, h3, h4, rfl, h5.frame fun o ho => hf o (by simp only [List.mem_cons]; exact .inr ho), h6, h7⟩
theorem slR.lt (k : slR w e A h xs a F) : ∀ o ∈ F, o < h.length := by
  unfold slR at k
  cases a with
  | none => obtain ⟨_, rfl⟩ := k; intro o ho; cases ho
  | some a =>
    obtain ⟨h0, ob, css, Fs, pre, post, h1, h2, h3, h4, rfl, h5, h6, h7⟩ := k
    intro o ho
    rcases List.mem_cons.1 ho with rfl | ho
    · exact (List.getElem?_eq_some_iff.1 h1).1
    · exact h5.lt o ho
theorem slR.ext (k : slR w e A h xs a F) (hx : Ext h h') : slR w e A h' xs a F := k.frame fun o ho => hx.2 o (k.lt o ho)
theorem slR.weak (k : slR w e A h xs a F) : slR false e A h xs a F := by
  unfold slR at *
  cases a with
  | none => exact k
  | some a =>
    obtain ⟨h0, ob, css, Fs, pre, post, h1, h2, h3, h4⟩ := k
    exact ⟨h0, ob, css, Fs, pre, post, h1, h2, (fun hh => by cases hh), h4⟩
/-- An element. -/
theorem slR.at_ (k : slR w e A h xs a F) {i : Nat} {x : α} (hx : xs[i]? = some x) : ∃ o off c Fi, a = some ⟨o, off, none⟩ ∧ A.R h x c Fi ∧ (∀ q ∈ Fi, q ∈ F) ∧ ∀ j, j < A.n → cellAt h o (off + i * A.n + j) = c[j]? := by
  unfold slR at k
  cases a with
  | none => obtain ⟨rfl, _⟩ := k; simp at hx
  | some a =>
    obtain ⟨h0, ob, css, Fs, pre, post, h1, h2, h3, h4, rfl, h5, h6, h7⟩ := k
    obtain ⟨c, Fi, g1, g2, g3, g4⟩ := h5.get i x hx
    refine ⟨a.block, a.off, c, Fi, by cases a; simp at h0; simp [h0], g3, fun q hq => by simp only [List.mem_cons]; exact .inr (List.mem_flatten.2 ⟨Fi, List.mem_of_getElem? g2, hq⟩), fun j hj => ?_⟩
    have hlen := h5.len.2.2
    have hi : i < xs.length := (List.getElem?_eq_some_iff.1 hx).1
    have hb : i * A.n + j < xs.length * A.n := by
      have : (i + 1) * A.n ≤ xs.length * A.n := Nat.mul_le_mul_right _ hi
      rw [Nat.add_mul] at this
      omega
    unfold cellAt
    rw [h1]
    simp only [h2, if_true]
    rw [← g4 j hj, h6, List.append_assoc, List.getElem?_append_right (by omega), List.getElem?_append_left (by omega)]
    congr 1
    omega
theorem cellsAt_of {o : Nat} : ∀ {cs : List Value} {i : Nat}, (∀ j, j < cs.length → cellAt h o (i + j) = cs[j]?) → cellsAt h o i cs.length = some cs
  | [], _, _ => rfl
  | c :: cs, i, k => by
    have h0 := k 0 (by simp)
    simp only [Nat.add_zero, List.getElem?_cons_zero] at h0
    have h1 : cellsAt h o (i + 1) cs.length = some cs := cellsAt_of fun j hj => by
      have := k (j + 1) (by simp; omega)
      simpa [Nat.add_assoc, Nat.add_comm 1] using this
    simp only [List.length_cons, cellsAt, h0, h1]
    rfl
/-- All cells. -/
theorem slR.cells {o off : Nat} (k : slR w e A h xs (some ⟨o, off, none⟩) F) : ∃ cs, cellsAt h o off (xs.length * A.n) = some cs ∧ cs.length = xs.length * A.n ∧ ∃ css Fs, cs = css.flatten ∧ rowsR A h xs css Fs ∧ F = o :: Fs.flatten := by
  obtain ⟨h0, ob, css, Fs, pre, post, h1, h2, h3, h4, rfl, h5, h6, h7⟩ := k
  have hlen := h5.len.2.2
  refine ⟨css.flatten, ?_, hlen, css, Fs, rfl, h5, rfl⟩
  rw [← hlen]
  refine cellsAt_of fun j hj => ?_
  unfold cellAt
  simp only at h7
  rw [h1]
  simp only [h2, if_true]
  rw [h6, List.append_assoc, List.getElem?_append_right (by omega), List.getElem?_append_left (by omega)]
  congr 1
  omega
theorem slR.el {o off : Nat} (k : slR w e A h xs (some ⟨o, off, none⟩) F) : elAt h o = some e := by
  obtain ⟨h0, ob, css, Fs, pre, post, h1, h2, h3, h4, _⟩ := k
  simp only at h1
  simp [elAt, h1, h4]
end
end Go.Proofs.Ytidkkmkihifeoaa.Hz
