/- Parts of slices. -/
import Derived.Test.YtmiflnadgckenaaHzV
namespace Go.Proofs.Ytmiflnadgckenaa.Hz
open Go.RowKit

/-! ### A part of a slice -/
section
variable {α : Type} {A : Enc α} {h : Hp} {w : Bool} {e : TypeId}
theorem rowsR.take : ∀ {xs : List α} {css : List (List Value)} {Fs : List (List Nat)} (_ : rowsR A h xs css Fs) (k : Nat), rowsR A h (xs.take k) (css.take k) (Fs.take k)
  | [], [], [], _, k => by simp [rowsR]
  | _ :: _, _ :: _, _ :: _, _, 0 => trivial
  | x :: xs, c :: cs, F :: Fs, k, n + 1 => ⟨k.1, rowsR.take k.2 n⟩
  | [], [], _ :: _, k, _ => k.elim
  | [], _ :: _, _, k, _ => k.elim
  | _ :: _, [], _, k, _ => k.elim
  | _ :: _, _ :: _, [], k, _ => k.elim
theorem rowsR.drop : ∀ {xs : List α} {css : List (List Value)} {Fs : List (List Nat)} (_ : rowsR A h xs css Fs) (k : Nat), rowsR A h (xs.drop k) (css.drop k) (Fs.drop k)
  | [], [], [], _, k => by simp [rowsR]
  | _ :: _, _ :: _, _ :: _, k, 0 => k
  | x :: xs, c :: cs, F :: Fs, k, n + 1 => rowsR.drop k.2 n
  | [], [], _ :: _, k, _ => k.elim
  | [], _ :: _, _, k, _ => k.elim
  | _ :: _, [], _, k, _ => k.elim
  | _ :: _, _ :: _, [], k, _ => k.elim
theorem slR.part {xs : List α} {o off : Nat} {F : List Nat} (k : slR w e A h xs (some ⟨o, off, none⟩) F) (i j : Nat) (hij : i ≤ j) (hj : j ≤ xs.length) :
    ∃ F', slR w e A h ((xs.take j).drop i) (some ⟨o, off + i * A.n, none⟩) F' ∧ ∀ q ∈ F', q ∈ F := by
  obtain ⟨_, ob, css, Fs, pre, post, g1, g2, g3, g4, rfl, g5, g6, g7⟩ := k
  simp only at g1 g7
  have r1 := (g5.take j).drop i
  have e1 : css.flatten = ((css.take j).take i).flatten ++ (((css.take j).drop i).flatten ++ (css.drop j).flatten) := by
    rw [← List.append_assoc, ← List.flatten_append, List.take_append_drop, ← List.flatten_append, List.take_append_drop]
  have l1 : ((css.take j).take i).flatten.length = i * A.n := by
    have := ((g5.take j).take i).len.2.2
    rw [this]
    congr 1
    simp
    omega
  refine ⟨o :: ((Fs.take j).drop i).flatten, ⟨rfl, ob, (css.take j).drop i, (Fs.take j).drop i, pre ++ ((css.take j).take i).flatten, (css.drop j).flatten ++ post, g1, g2, g3, g4, rfl, r1, ?_, ?_⟩, ?_⟩
  · rw [g6, e1]; simp only [List.append_assoc]
  · simp only [List.length_append, l1, g7]
  · intro q hq
    rcases List.mem_cons.1 hq with rfl | hq
    · exact List.mem_cons_self
    · simp only [List.mem_cons]
      right
      obtain ⟨G, hG, hq⟩ := List.mem_flatten.1 hq
      exact List.mem_flatten.2 ⟨G, List.mem_of_mem_take (List.mem_of_mem_drop hG), hq⟩
theorem asl2_j {P : Program} (t : TypeId) (o off n c : Nat) (k : IntKind) (j : Int) : asl2 P h t (.slice (some ⟨o, off, none⟩) n c) none (some (.int k j)) none = (elemOf P t).bind fun e => (szOf P e).bind fun sz => if elAt h o = some e then (if 0 ≤ j ∧ j ≤ (max n c : Nat) then some (.slice (some ⟨o, off, none⟩) j.toNat j.toNat) else none) else none := by
  unfold asl2
  simp only [bound, Option.bind_some]
  cases elemOf P t with
  | none => rfl
  | some e =>
    simp only [Option.bind_some]
    cases szOf P e with
    | none => rfl
    | some sz =>
      simp
end
end Go.Proofs.Ytmiflnadgckenaa.Hz
