/- Texts of the calculus and of the program's functions, merged: MH. -/
import Derived.Test.YtgfilbekfkhjjaaGreatHyGL
/- The laws' marks on items, found again. -/
namespace Go.Proofs.YtgfilbekfkhjjaaGreat.Hz
open Go.RowKit
set_option linter.unusedVariables false
set_option linter.unusedSimpArgs false
set_option maxRecDepth 20000

set_option maxHeartbeats 1000000 in
theorem heldItemS_c (n k : Nat) (a : Option Addr) (F : List Nat) (w : Bool) (t : TypeId) (h : Hp) (hr : slR w t itemE h (mkItems n k) a F) (hk : k + 4 * n ≤ 1073741824) :
    ACall Tryz.prog 51 [.slice a n n, .int .i64 k] h fun r h' => (∃ t, h' = h ++ t) ∧ r = .int .i64 ((k + 4 * n : Nat) : Int) := by
  refine acall mixed Tryz.func51 rfl (by kernel_rfl) ?_
  have hml := mkItems_len n k
  simp [Tryz.f51]
  refine aloop mixed [0, 1, 5] (fun (x : Nat × Hp) => [.slice a n n, .int .i64 ((k + 4 * x.1 : Nat) : Int), .int .i64 x.1]) (fun x => h ++ x.2) (fun x => x.1 ≤ n) (fun x => n - x.1) (0, []) (by simp) (by simp [pickF]) (by simp) ?_
  rintro ⟨j, t⟩ hj
  simp only at hj
  simp [mkF]
  refine asplitK_intro (fun hb => ?_) (fun hb => ?_) <;> simp at hb <;> simp [hb]
  · have hjl : j < (mkItems n k).length := by omega
    obtain ⟨o, off, rfl, c0, c1, c2, c3⟩ := itemAt (hr.ext (Ext.push h t)) hjl
    have hg := mkItems_get n k j hjl
    rw [hg] at c0 c1 c2 c3
    obtain ⟨K, hK⟩ : ∃ K : Nat, K = k + 4 * j := ⟨_, rfl⟩
    have wk : (k : Int) + 4 * (j : Int) = (K : Int) := by omega
    rw [← hK] at c0 c1 c2 c3
    rw [wk]
    refine drawK true (by kernel_rfl) ?_
    simp [hb, c0]
    refine callK (markText_c K _ (by omega)) ?_
    rintro _ _ ⟨⟨t2, rfl⟩, rfl⟩
    refine ⟨fun _ => Ext.push _ _, ?_⟩
    have w1 : IntKind.i64.wrap ((K : Int) + 1) = (K : Int) + 1 := by rw [wrap_in (by omega) (by omega)]
    have w2 : IntKind.i64.wrap ((K : Int) + 1 + 1) = ((K + 2 : Nat) : Int) := by rw [wrap_in (by omega) (by omega)]; omega
    have w3 : IntKind.i64.wrap (((K + 2 : Nat) : Int) + 1) = (K : Int) + 3 := by rw [wrap_in (by omega) (by omega)]; omega
    have w4 : IntKind.i64.wrap ((K : Int) + 3 + 1) = ((k + 4 * (j + 1) : Nat) : Int) := by rw [wrap_in (by omega) (by omega)]; omega
    have d1 := cell_more c1 t2
    have d2 := cell_more c2 t2
    have d3 := cell_more c3 t2
    simp at d1 d2 d3
    simp [hb, w1, d1, w2, -Int.natCast_add]
    refine drawK true (by kernel_rfl) ?_
    simp [hb, d2, -Int.natCast_add]
    refine callK (markText_c (K + 2) _ (by omega)) ?_
    rintro _ _ ⟨⟨t3, rfl⟩, rfl⟩
    refine ⟨fun _ => Ext.push _ _, ?_⟩
    have e3 := cell_more d3 t3
    simp at e3
    simp [hb, w3, e3, w4, -Int.natCast_add]
    exact anext (j + 1, t ++ (t2 ++ t3)) hb (by simp only; omega) (by simp [pickF, wrap_succ (show j < 9223372036854775807 by omega)]) (by simp) (by simp)
  · obtain rfl : j = n := by omega
    omega
theorem heldTree_c (n k : Nat) (a : Option Addr) (F : List Nat) (w : Bool) (t : TypeId) (h : Hp) (hr : slR w t itemE h (mkItems n k) a F) (hk : k + 4 * n ≤ 1073741824) :
    ACall Tryz.prog 17 [.agg #[.slice a n n], .int .i64 k] h fun r h' => (∃ t, h' = h ++ t) ∧ r = .int .i64 ((k + 4 * n : Nat) : Int) := by
  refine acall mixed Tryz.func17 rfl (by kernel_rfl) ?_
  simp [Tryz.f17]
  refine callK0 (heldItemS_c n k a F w t _ (hr.to (by simp)) hk) ?_
  rintro _ _ ⟨⟨t1, rfl⟩, rfl⟩
  have hn : ¬ ((k : Int) + 4 * (n : Int) < 0) := by omega
  simp [hn]
end Go.Proofs.YtgfilbekfkhjjaaGreat.Hz
