/- Texts of the calculus and of the program's functions, merged: PQ. -/
import Derived.Test.YtgfilbekfkhjjaaGreatHyGF
import Derived.Test.YtgfilbekfkhjjaaGreatHyGK
/- Paths and their names. No program in sight. -/
namespace Go.Proofs.YtgfilbekfkhjjaaGreat.Hz
open Go.RowKit
set_option linter.unusedVariables false
set_option linter.unusedSimpArgs false
set_option maxRecDepth 20000

theorem pathOf_names {l : List Str} (hl : l.length ≤ 4) (ha : l.all nameOk = true) : pathOk (pathOf l) = true ∧ names (pathOf l) = l := by
  cases l with
  | nil => exact ⟨rfl, rfl⟩
  | cons x xs =>
    have hp := parts_raw_cons x xs
    have hf := flat_ok _ ha
    rw [hf] at hp
    have hpg : pathGood (rawP (x :: xs)) = true := by
      simp only [pathGood, hp, List.head?_cons, List.length_cons, List.drop_succ_cons, List.drop_zero, ha, Bool.and_true]
      have : inR ((xs.length + 1 + 1 : Nat) : Int) 2 5 = true := inR_iff.2 (by simp at hl; omega)
      rw [this]; rfl
    have hx : nameOk x = true := by simp at ha; exact ha.1
    have hx1 := (nameOk_len hx).1
    have hne : rawP (x :: xs) ≠ [47] := by
      cases x with
      | nil => simp at hx1
      | cons c cs => simp [rawP]
    have hok : pathOk (rawP (x :: xs)) = true := by simp [pathOk, hpg]
    have hn : names (rawP (x :: xs)) = x :: xs := by rw [names, if_neg hne, if_pos hpg, hp]; rfl
    have hany : ((x :: xs).any fun s => !nameOk s) = false := by
      rw [List.any_eq_false]
      intro y hy
      rw [List.all_eq_true] at ha
      simp [ha y hy]
    have hl' : decide (4 < (x :: xs).length) = false := decide_eq_false (by omega)
    have he : pathOf (x :: xs) = rawP (x :: xs) := by
      rw [pathOf, hany, hl', ← raw_join]
      rfl
    rw [he]
    exact ⟨hok, hn⟩
theorem above_ok {p : Str} (h : pathOk p = true) : pathOk (above p) = true ∧ names (above p) = (names p).take ((names p).length - 1) := by
  unfold above
  rw [if_pos h]
  refine pathOf_names ?_ ?_
  · have := names_len p
    simp
    omega
  · rw [List.all_eq_true]
    intro q hq
    exact names_mem (List.mem_of_mem_take hq)
theorem rawP_len : ∀ l : List Str, (rawP l).length = l.length + sumL List.length l
  | [] => rfl
  | x :: xs => by
    have := rawP_len xs
    simp only [rawP, sumL, List.length_cons, List.length_append, this]
    omega
theorem above_len (p : Str) : (above p).length ≤ 100 := by
  unfold above
  split
  · rw [pathOf_eq, pathOfN]
    split
    · simp
    · unfold outOf
      split
      · simp
      · have h1 := names_len p
        have h2 := sumL_all List.length 6 ((names p).take ((names p).length - 1)) (fun x hx => (nameOk_len (names_mem (List.mem_of_mem_take hx))).2)
        have h3 : ((names p).take ((names p).length - 1)).length ≤ 4 := by simp; omega
        rw [rawP_len]
        omega
  · simp
theorem names_pos {p : Str} (h : pathOk p = true) (hr : p ≠ [47]) : 0 < (names p).length := by
  have hg : pathGood p = true := by simpa [pathOk, hr] using h
  rw [names, if_neg hr, if_pos hg]
  simp only [pathGood, Bool.and_eq_true] at hg
  have := inR_iff.1 hg.1.2
  simp
  omega
end Go.Proofs.YtgfilbekfkhjjaaGreat.Hz
