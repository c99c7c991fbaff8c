/- Parts of slices. -/
import Derived.Test.YtidkkmkihifeoaaHzV
namespace Go.Proofs.Ytidkkmkihifeoaa.Hz
open Go.RowKit
set_option linter.unusedVariables false
set_option linter.unusedSimpArgs false

/-! ### A call with slices of more room -/
theorem ACall.conv {P : Program} {f : FuncId} {avs avs' : List Value} {h : Hp} {R : Value → Hp → Prop} (k : ACall P f avs h R) (hc : ∀ φ vs, All2 (RelV φ) avs' vs → All2 (RelV φ) avs vs) : ACall P f avs' h R :=
  fun B w0 φ w args r ha => k B w0 φ w args r (hc _ _ ha)
theorem relV_cap {φ : Inj} {a : Option Addr} {n c : Nat} {v : Value} (hc : n ≤ c) (r : RelV φ (.slice a n c) v) : RelV φ (.slice a n n) v := by
  cases a with
  | none => obtain ⟨rfl, rfl, rfl⟩ := r; exact relV_of ⟨rfl, rfl, rfl⟩
  | some a =>
    obtain ⟨p, c', a', h1, h2, h3, h4, h5, h6⟩ := r
    exact relV_of ⟨p, c', a', h1, h2, h4, h4, h5, h6⟩
theorem ACall.cap {P : Program} {f : FuncId} {a : Option Addr} {n c : Nat} {avs : List Value} {h : Hp} {R : Value → Hp → Prop} (k : ACall P f (.slice a n n :: avs) h R) (hc : n ≤ c) : ACall P f (.slice a n c :: avs) h R :=
  k.conv fun _ _ r => by
    obtain ⟨v, vs, rfl, h1, h2⟩ := All2.cons_iff.1 r
    exact ⟨relV_cap hc h1, h2⟩
/-! ### A part of a slice -/
section
variable {α : Type} {A : Enc α} {h : Hp} {w : Bool} {e : TypeId}
theorem rowsR.take : ∀ {xs : List α} {css : List (List Value)} {Fs : List (List Nat)} (_ : rowsR A h xs css Fs) (k : Nat), rowsR A h (xs.take k) (css.take k) (Fs.take k)
  | [], [], [], _, k => by simp [rowsR]
  | _ :: _, _ :: _, _ :: _, _, 0 => trivial
  | x :: xs, c :: cs, F :: Fs, k, n + 1 => ⟨k.1, rowsR.take k.2 n⟩
  | [], [], _ :: _, k, _ => k.elim
  | [], _ :: _, _, k, _ => k.elim
  | _ :: _, [], _, k, _ => k.elim
  | _ :: _, _ :: _, [], k, _ => k.elim
theorem rowsR.drop : ∀ {xs : List α} {css : List (List Value)} {Fs : List (List Nat)} (_ : rowsR A h xs css Fs) (k : Nat), rowsR A h (xs.drop k) (css.drop k) (Fs.drop k)
  | [], [], [], _, k => by simp [rowsR]
  | _ :: _, _ :: _, _ :: _, k, 0 => k
  | x :: xs, c :: cs, F :: Fs, k, n + 1 => rowsR.drop k.2 n
  | [], [], _ :: _, k, _ => k.elim
  | [], _ :: _, _, k, _ => k.elim
  | _ :: _, [], _, k, _ => k.elim
  | _ :: _, _ :: _, [], k, _ => k.elim
theorem slR.part {xs : List α} {o off : Nat} {F : List Nat} (k : slR w e A h xs (some ⟨o, off, none⟩) F) (i j : Nat) (hij : i ≤ j) (hj : j ≤ xs.length) :
    ∃ F', slR w e A h ((xs.take j).drop i) (some ⟨o, off + i * A.n, none⟩) F' ∧ ∀ q ∈ F', q ∈ F := by
  obtain ⟨_, ob, css, Fs, pre, post, g1, g2, g3, g4, rfl, g5, g6, g7⟩ := k
  simp only at g1 g7
  have r1 := (g5.take j).drop i
  have e1 : css.flatten = ((css.take j).take i).flatten ++ (((css.take j).drop i).flatten ++ (css.drop j).flatten) := by
    rw [← List.append_assoc, ← List.flatten_append, List.take_append_drop, ← List.flatten_append, List.take_append_drop]
  have l1 : ((css.take j).take i).flatten.length = i * A.n := by
    have := ((g5.take j).take i).len.2.2
    rw [this]
    congr 1
    simp
    omega
  refine ⟨o :: ((Fs.take j).drop i).flatten, ⟨rfl, ob, (css.take j).drop i, (Fs.take j).drop i, pre ++ ((css.take j).take i).flatten, (css.drop j).flatten ++ post, g1, g2, g3, g4, rfl, r1, ?_, ?_⟩, ?_⟩
  · rw [g6, e1]; simp only [List.append_assoc]
  · simp only [List.length_append, l1, g7]
  · intro q hq
    rcases List.mem_cons.1 hq with rfl | hq
    · exact List.mem_cons_self
    · simp only [List.mem_cons]
      right
      obtain ⟨G, hG, hq⟩ := List.mem_flatten.1 hq
      exact List.mem_flatten.2 ⟨G, List.mem_of_mem_take (List.mem_of_mem_drop hG), hq⟩
theorem asl2_j {P : Program} (t : TypeId) (o off n c : Nat) (k : IntKind) (j : Int) : asl2 P h t (.slice (some ⟨o, off, none⟩) n c) none (some (.int k j)) none = (elemOf P t).bind fun e => (szOf P e).bind fun sz => if elAt h o = some e then (if 0 ≤ j ∧ j ≤ (max n c : Nat) then some (.slice (some ⟨o, off, none⟩) j.toNat (max n c)) else none) else none := by
  unfold asl2
  simp only [bound, Option.bind_some]
  cases elemOf P t with
  | none => rfl
  | some e =>
    simp only [Option.bind_some]
    cases szOf P e with
    | none => rfl
    | some sz =>
      simp
theorem asl2_i {P : Program} (t : TypeId) (o off n c : Nat) (k : IntKind) (i : Int) : asl2 P h t (.slice (some ⟨o, off, none⟩) n c) (some (.int k i)) none none = (elemOf P t).bind fun e => (szOf P e).bind fun sz => if elAt h o = some e then (if 0 ≤ i ∧ i ≤ n then some (.slice (some ⟨o, off + i.toNat * sz, none⟩) (n - i.toNat) (max n c - i.toNat)) else none) else none := by
  unfold asl2
  simp only [bound, Option.bind_some]
  cases elemOf P t with
  | none => rfl
  | some e =>
    simp only [Option.bind_some]
    cases szOf P e with
    | none => rfl
    | some sz =>
      simp only [Option.bind_some]
      by_cases he : elAt h o = some e
      · simp only [he, if_true]
        by_cases hc : 0 ≤ i ∧ i ≤ (n : Int)
        · rw [if_pos hc, if_pos ⟨hc.1, hc.2, by omega⟩]; simp
        · rw [if_neg hc, if_neg (by omega)]
      · simp [he]
theorem asl2_ij {P : Program} (t : TypeId) (o off n c : Nat) (k k' : IntKind) (i j : Int) : asl2 P h t (.slice (some ⟨o, off, none⟩) n c) (some (.int k i)) (some (.int k' j)) none = (elemOf P t).bind fun e => (szOf P e).bind fun sz => if elAt h o = some e then (if 0 ≤ i ∧ i ≤ j ∧ j ≤ (max n c : Nat) then some (.slice (some ⟨o, off + i.toNat * sz, none⟩) (j.toNat - i.toNat) (max n c - i.toNat)) else none) else none := by
  unfold asl2
  simp only [bound, Option.bind_some]
theorem asl2_ijm {P : Program} (t : TypeId) (o off n c : Nat) (k k' k2 : IntKind) (i j m : Int) : asl2 P h t (.slice (some ⟨o, off, none⟩) n c) (some (.int k i)) (some (.int k' j)) (some (.int k2 m)) = (elemOf P t).bind fun e => (szOf P e).bind fun sz => if elAt h o = some e then (if 0 ≤ i ∧ i ≤ j ∧ j ≤ m ∧ m ≤ (max n c : Nat) then some (.slice (some ⟨o, off + i.toNat * sz, none⟩) (j.toNat - i.toNat) (m.toNat - i.toNat)) else none) else none := by
  unfold asl2
  simp only [bound, Option.bind_some]
  cases elemOf P t with
  | none => rfl
  | some e =>
    simp only [Option.bind_some]
    cases szOf P e with
    | none => rfl
    | some sz =>
      simp
end
end Go.Proofs.Ytidkkmkihifeoaa.Hz
