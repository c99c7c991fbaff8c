/- Do two trees agree? The reference. -/
import Derived.Test.YtgfilbekfkhjjaaGreatHyQA
namespace Go.Proofs.YtgfilbekfkhjjaaGreat.Hz
open Go.RowKit
set_option linter.unusedVariables false
set_option linter.unusedSimpArgs false
set_option maxRecDepth 20000

theorem agreeB_take (xs ys : List Item) (k : Nat) (hk : k < xs.length) : agreeB (xs.take (k + 1)) ys = (agreeB (xs.take k) ys && !clash ys xs[k]) := by
  unfold agreeB
  rw [List.take_succ_eq_append_getElem hk, List.all_append]
  simp
theorem agreeB_stop {xs ys : List Item} {k : Nat} (hk : k < xs.length) (h : clash ys xs[k] = true) : agreeB xs ys = false := by
  unfold agreeB
  rw [List.all_eq_false]
  exact ⟨xs[k], List.getElem_mem hk, by simp [h]⟩
set_option maxHeartbeats 2000000 in
theorem agree_c (xs ys : List Item) (a b : Option Addr) (F G : List Nat) (w w' : Bool) (t t' : TypeId) (h : Hp) (hx : slR w t itemE h xs a F) (hy : slR w' t' itemE h ys b G) (hlx : xs.length ≤ 1048576) (hly : ys.length ≤ 1048576) :
    ACall Tryz.prog 56 [.agg #[.slice a xs.length xs.length], .agg #[.slice b ys.length ys.length]] h fun r h' => (∃ t, h' = h ++ t) ∧ r = .bool (agreeB xs ys) := by
  refine acall mixed Tryz.func56 rfl (by kernel_rfl) ?_
  simp [Tryz.f56]
  refine aloop mixed [2, 3, 5] (fun (x : Nat × Hp) => [.pointer (some ⟨h.length, 0, none⟩), .pointer (some ⟨h.length + 1, 0, none⟩), .int .i64 x.1]) (fun x => h ++ ⟨true, true, 29, [.slice a xs.length xs.length]⟩ :: ⟨true, true, 29, [.slice b ys.length ys.length]⟩ :: x.2) (fun x => x.1 ≤ xs.length ∧ agreeB (xs.take x.1) ys = true) (fun x => xs.length - x.1) (0, []) ⟨by simp, by simp [agreeB]⟩ rfl rfl ?_
  rintro ⟨k, u⟩ ⟨hk, he⟩
  simp at hk he
  simp [mkF]
  refine asplitK_intro (fun hc => ?_) (fun hc => ?_) <;> simp at hc <;> simp [hc]
  · obtain ⟨o, off, rfl, c0, c1, c2, c3⟩ := itemAt hx hc
    have ho : o < h.length := by
      obtain ⟨ob, e, -⟩ := cellAt_some c0
      exact (List.getElem?_eq_some_iff.1 e).1
    have C0 : ∀ l, cellAt (h ++ l) o (off + k * 4) = some (.string (S xs[k].path)) := fun l => by rw [cellAt_ext (Ext.push h l) ho]; exact c0
    have C1 : ∀ l, cellAt (h ++ l) o (off + k * 4 + 1) = some (.int .i64 xs[k].kind) := fun l => by rw [cellAt_ext (Ext.push h l) ho]; exact c1
    refine drawS true 11 [0, 1, 2, 3, 4, 5, 6, 7, 8, 9, 10] [12, 13] (by simp; rfl) (by simp; rfl) (by simp; rfl) (by kernel_rfl) ?_
    simp [hc, C0]
    refine callK (treeGet_spec_c ys xs[k].path b G w' t' _ (hy.to (by simp)) hly) ?_
    rintro _ _ ⟨⟨v, rfl⟩, rfl⟩
    refine ⟨fun _ => Ext.push _ _, ?_⟩
    simp [Item.v]
    refine drawK true (by kernel_rfl) ?_
    simp [hc, C0, C1]
    have hcl : clash ys xs[k] = ((treeGet ys xs[k].path).2 && (treeGet ys xs[k].path).1.kind != xs[k].kind) := rfl
    cases hf : (treeGet ys xs[k].path).2
    · simp [hf] at hcl
      simp [hf]
      exact anext (k + 1, _) ⟨hc, by rw [agreeB_take _ _ _ hc, he, hcl]; rfl⟩ (by simp only; omega) (by simp [pickF, wrap_succ (show k < 9223372036854775807 by omega)]) rfl (by simp)
    · simp [hf, hc, C1]
      refine asplitK_intro (fun hd => ?_) (fun hd => ?_) <;> have hd' := hd <;> simp at hd <;> simp [hd, hd']
      · rw [agreeB_stop hc (by rw [hcl, hf, hd']; rfl)]
      · exact anext (k + 1, _) ⟨hc, by rw [agreeB_take _ _ _ hc, he, hcl, hf, hd']; rfl⟩ (by simp only; omega) (by simp [pickF, wrap_succ (show k < 9223372036854775807 by omega)]) rfl (by simp)
  · obtain rfl : k = xs.length := by omega
    simpa using he
end Go.Proofs.YtgfilbekfkhjjaaGreat.Hz
