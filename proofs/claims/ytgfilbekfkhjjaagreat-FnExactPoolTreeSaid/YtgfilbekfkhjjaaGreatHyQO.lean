/- PoolTree: the reference, with its check. -/
import Derived.Test.YtgfilbekfkhjjaaGreatHyQL
import Derived.Test.YtgfilbekfkhjjaaGreatHyQF
namespace Go.Proofs.YtgfilbekfkhjjaaGreat.Hz
open Go.RowKit
set_option linter.unusedVariables false
set_option linter.unusedSimpArgs false
set_option maxRecDepth 20000

section
variable (x : Pool) (b : Option Addr) (F : List Nat) (w : Bool) (tBranch tNode : TypeId) (h : Hp) (k1 : slR w tBranch (branchE w tNode) h x.branches b F) (hl : x.nl ≤ 1048576)
include k1 hl
theorem poolTree_spec_c :
    ACall Tryz.prog 33 [.agg #[.int .i64 x.policy, .int .i64 x.minFree, .slice b x.branches.length x.branches.length, .bool x.move.on, .bool x.move.clean, .int .i64 x.move.src, .int .i64 x.move.dst, .string (S x.move.path), .int .i64 x.move.gen, .int .i64 x.move.done]] h fun r h' => ∃ a G, r = .agg #[.slice a (poolTree x).length (poolTree x).length] ∧ Own h 72 itemE h' (poolTree x) a G := by
  refine acall mixed Tryz.func33 rfl (by kernel_rfl) ?_
  simp [Tryz.f33]
  refine callK0 (poolOk_spec_c x b F w tBranch tNode _ (k1.to (by simp)) hl) ?_
  rintro _ _ ⟨⟨t1, rfl⟩, rfl⟩
  cases e1 : poolOk x
  · simp [poolTree, e1]
    exact ⟨_, Own.nil (Ext.push _ _)⟩
  have hn4 := (poolOk_head_t e1).2.2
  have hT : poolTree x = specF x.branches x.branches.length := by unfold poolTree specF; rw [if_pos e1]
  rw [hT]
  simp
  refine callK0 (l12Tree_c x b F w tBranch tNode _ (k1.to (by simp)) hl hn4) ?_
  rintro _ _ ⟨a, G, rfl, own⟩
  obtain ⟨u, rfl⟩ := own.ext.pre
  have nw := own.new
  have sl := own.sl
  simp at nw sl
  simp
  refine ⟨G, Ext.push _ _, sl.frame fun q hq => two_get _ _ _ _ _ _ (by have := nw q hq; omega), own.nd, fun q hq => by have := nw q hq; omega⟩
end
end Go.Proofs.YtgfilbekfkhjjaaGreat.Hz
