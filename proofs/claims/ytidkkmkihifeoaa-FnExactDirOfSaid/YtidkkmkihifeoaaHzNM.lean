/- Names: both programs. -/
import Derived.Test.YtidkkmkihifeoaaHzW
namespace Go.Proofs.Ytidkkmkihifeoaa.Hz
open Go.RowKit
set_option linter.unusedVariables false
set_option linter.unusedSimpArgs false
set_option maxRecDepth 20000

def okC (c : UInt8) : Bool := decide ((97 ≤ c.toNat ∧ c.toNat ≤ 122) ∨ (48 ≤ c.toNat ∧ c.toNat ≤ 57))
def nameOk (s : Str) : Bool := decide (1 ≤ s.length ∧ s.length ≤ 6) && s.all okC
theorem all_drop {α : Type} (p : α → Bool) (xs : List α) (k : Nat) (hk : k < xs.length) : (xs.drop k).all p = (p xs[k] && (xs.drop (k + 1)).all p) := by
  rw [List.drop_eq_getElem_cons hk]; rfl

theorem nameOk_spec_c (s : Str) (h : Hp) (hs : s.length ≤ 9223372036854775806) : ACall Try.prog 146 [.string (S s)] h fun r h' => h' = h ∧ r = .bool (nameOk s) := by
  refine acall mixed Try.func146 rfl (by kernel_rfl) ?_
  simp [Try.f146]
  refine callK0 (within_spec_c s.length 1 6 h) ?_
  rintro _ h ⟨rfl, rfl⟩
  by_cases hr : (1 : Int) ≤ s.length ∧ (s.length : Int) ≤ 6
  · have h1 : 1 ≤ s.length := by omega
    have h2 : (s.length : Int) ≤ 6 := hr.2
    have h3 : s.length ≤ 6 := by omega
    have h5 : nameOk s = s.all okC := by simp [nameOk, h1, h3]
    rw [h5]
    have h6 : (1 : Int) ≤ s.length := hr.1
    simp [h2, h6]
    refine aloop mixed [0, 3] (fun (k : Nat) => [.string (S s), .int .i64 k]) (fun _ => h) (fun k => k ≤ s.length ∧ (s.drop k).all okC = s.all okC) (fun k => s.length - k) 0 ⟨by omega, by simp⟩ rfl rfl ?_
    rintro k ⟨hk, he⟩
    simp [mkF]
    refine asplitK_intro (fun hb => ?_) (fun hb => ?_) <;> simp at hb <;> simp [hb]
    · rw [all_drop okC s k hb] at he
      cases ho : okC s[k] with
      | true =>
        rw [ho, Bool.true_and] at he
        simp [okC] at ho
        rcases ho with ⟨ha, hb2⟩ | ⟨ha, hb2⟩
        · have h7 : (97 : Int) ≤ s[k].toNat := by omega
          have h8 : (s[k].toNat : Int) ≤ 122 := by omega
          have n7 : ¬ (s[k].toNat : Int) < 97 := by omega
          have n8 : ¬ (122 : Int) < s[k].toNat := by omega
          simp [h7, h8, n7, n8, hb]
          exact anext (k + 1) ⟨hb, he⟩ (by omega) (by simp [pickF, wrap_succ (show k < 9223372036854775807 by omega)]) rfl (by simp)
        · have h7 : (s[k].toNat : Int) < 97 := by omega
          have n7 : ¬ (97 : Int) ≤ s[k].toNat := by omega
          have h9 : (48 : Int) ≤ s[k].toNat := by omega
          have h10 : (s[k].toNat : Int) ≤ 57 := by omega
          have n9 : ¬ (s[k].toNat : Int) < 48 := by omega
          have n10 : ¬ (57 : Int) < s[k].toNat := by omega
          simp [h7, n7, h9, h10, n9, n10, hb]
          exact anext (k + 1) ⟨hb, he⟩ (by omega) (by simp [pickF, wrap_succ (show k < 9223372036854775807 by omega)]) rfl (by simp)
      | false =>
        rw [ho, Bool.false_and] at he
        simp [okC] at ho
        obtain ⟨hA, hB⟩ := ho
        by_cases h7 : (97 : Int) ≤ s[k].toNat
        · have n7 : ¬ (s[k].toNat : Int) < 97 := by omega
          have h8 : (122 : Int) < s[k].toNat := by omega
          have n8 : ¬ (s[k].toNat : Int) ≤ 122 := by omega
          have h9 : (48 : Int) ≤ s[k].toNat := by omega
          have n9 : ¬ (s[k].toNat : Int) < 48 := by omega
          have h10 : (57 : Int) < s[k].toNat := by omega
          have n10 : ¬ (s[k].toNat : Int) ≤ 57 := by omega
          simp [h7, n7, h8, n8, h9, n9, h10, n10, hb, ← he]
        · have n7 : (s[k].toNat : Int) < 97 := by omega
          by_cases h9 : (48 : Int) ≤ s[k].toNat
          · have n9 : ¬ (s[k].toNat : Int) < 48 := by omega
            have h10 : (57 : Int) < s[k].toNat := by omega
            have n10 : ¬ (s[k].toNat : Int) ≤ 57 := by omega
            simp [h7, n7, h9, n9, h10, n10, hb, ← he]
          · have n9 : (s[k].toNat : Int) < 48 := by omega
            simp [h7, n7, h9, n9, hb, ← he]
    · obtain rfl : k = s.length := by omega
      simpa using he
  · have h5 : nameOk s = false := by simp [nameOk]; omega
    rw [h5]
    have hr2 : (!decide ((1 : Int) ≤ s.length) || !decide ((s.length : Int) ≤ 6)) = true := by simp; omega
    simp
    refine asplitK_intro (fun hd => ?_) (fun hd => ?_) <;> simp
    simp at hd
    omega

theorem nameOk_c (s : Str) (h : Hp) (hs : s.length ≤ 9223372036854775806) : ACall Try.prog 103 [.string (S s)] h fun r h' => h' = h ∧ r = .bool (nameOk s) := by
  refine acall mixed Try.func103 rfl (by kernel_rfl) ?_
  simp [Try.f103]
  refine callK0 (within_c s.length 1 6 h) ?_
  rintro _ h ⟨rfl, rfl⟩
  by_cases hr : (1 : Int) ≤ s.length ∧ (s.length : Int) ≤ 6
  · have h1 : 1 ≤ s.length := by omega
    have h2 : (s.length : Int) ≤ 6 := hr.2
    have h3 : s.length ≤ 6 := by omega
    have h5 : nameOk s = s.all okC := by simp [nameOk, h1, h3]
    rw [h5]
    have h6 : (1 : Int) ≤ s.length := hr.1
    simp [h2, h6]
    refine aloop mixed [0, 9, 10] (fun (k : Nat) => [.string (S s), .int .i64 s.length, .int .i64 k]) (fun _ => h) (fun k => k ≤ s.length ∧ (s.drop k).all okC = s.all okC) (fun k => s.length - k) 0 ⟨by omega, by simp⟩ rfl rfl ?_
    rintro k ⟨hk, he⟩
    simp [mkF]
    refine asplitK_intro (fun hb => ?_) (fun hb => ?_) <;> simp at hb <;> simp [hb]
    · rw [all_drop okC s k hb] at he
      cases ho : okC s[k] with
      | true =>
        rw [ho, Bool.true_and] at he
        simp [okC] at ho
        rcases ho with ⟨ha, hb2⟩ | ⟨ha, hb2⟩
        · have h7 : (97 : Int) ≤ s[k].toNat := by omega
          have h8 : (s[k].toNat : Int) ≤ 122 := by omega
          have n7 : ¬ (s[k].toNat : Int) < 97 := by omega
          have n8 : ¬ (122 : Int) < s[k].toNat := by omega
          simp [h7, h8, n7, n8, hb]
          exact anext (k + 1) ⟨hb, he⟩ (by omega) (by simp [pickF, wrap_succ (show k < 9223372036854775807 by omega)]) rfl (by simp)
        · have h7 : (s[k].toNat : Int) < 97 := by omega
          have n7 : ¬ (97 : Int) ≤ s[k].toNat := by omega
          have h9 : (48 : Int) ≤ s[k].toNat := by omega
          have h10 : (s[k].toNat : Int) ≤ 57 := by omega
          have n9 : ¬ (s[k].toNat : Int) < 48 := by omega
          have n10 : ¬ (57 : Int) < s[k].toNat := by omega
          simp [h7, n7, h9, h10, n9, n10, hb]
          exact anext (k + 1) ⟨hb, he⟩ (by omega) (by simp [pickF, wrap_succ (show k < 9223372036854775807 by omega)]) rfl (by simp)
      | false =>
        rw [ho, Bool.false_and] at he
        simp [okC] at ho
        obtain ⟨hA, hB⟩ := ho
        by_cases h7 : (97 : Int) ≤ s[k].toNat
        · have n7 : ¬ (s[k].toNat : Int) < 97 := by omega
          have h8 : (122 : Int) < s[k].toNat := by omega
          have n8 : ¬ (s[k].toNat : Int) ≤ 122 := by omega
          have h9 : (48 : Int) ≤ s[k].toNat := by omega
          have n9 : ¬ (s[k].toNat : Int) < 48 := by omega
          have h10 : (57 : Int) < s[k].toNat := by omega
          have n10 : ¬ (s[k].toNat : Int) ≤ 57 := by omega
          simp [h7, n7, h8, n8, h9, n9, h10, n10, hb, ← he]
        · have n7 : (s[k].toNat : Int) < 97 := by omega
          by_cases h9 : (48 : Int) ≤ s[k].toNat
          · have n9 : ¬ (s[k].toNat : Int) < 48 := by omega
            have h10 : (57 : Int) < s[k].toNat := by omega
            have n10 : ¬ (s[k].toNat : Int) ≤ 57 := by omega
            simp [h7, n7, h9, n9, h10, n10, hb, ← he]
          · have n9 : (s[k].toNat : Int) < 48 := by omega
            simp [h7, n7, h9, n9, hb, ← he]
    · obtain rfl : k = s.length := by omega
      simpa using he
  · have h5 : nameOk s = false := by simp [nameOk]; omega
    rw [h5]
    simp
    refine asplitK_intro (fun hd => ?_) (fun hd => ?_) <;> simp
    simp at hd
    omega
end Go.Proofs.Ytidkkmkihifeoaa.Hz
