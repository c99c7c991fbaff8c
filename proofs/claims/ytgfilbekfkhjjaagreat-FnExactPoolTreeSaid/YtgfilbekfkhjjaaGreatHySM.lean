/- Nodes, images of file systems and pools compared: both programs. -/
import Derived.Test.YtgfilbekfkhjjaaGreatHyGJ
namespace Go.Proofs.YtgfilbekfkhjjaaGreat.Hz
open Go.RowKit
set_option linter.unusedVariables false
set_option linter.unusedSimpArgs false
set_option maxRecDepth 20000

theorem moveEq (x y : Move) : x = y ↔ (x.on = y.on ∧ x.clean = y.clean ∧ x.src = y.src ∧ x.dst = y.dst ∧ x.path = y.path ∧ x.gen = y.gen ∧ x.done = y.done) := by cases x; cases y; simp
theorem branchEq (x y : Branch) : x = y ↔ (x.mode = y.mode ∧ x.fs = y.fs) := by cases x; cases y; simp

end Go.Proofs.YtgfilbekfkhjjaaGreat.Hz
