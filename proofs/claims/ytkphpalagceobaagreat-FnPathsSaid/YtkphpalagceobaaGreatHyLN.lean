/- The law of what is made. -/
import Derived.Test.YtkphpalagceobaaGreatHyHE
import Derived.Test.YtkphpalagceobaaGreatHyZH
import Derived.Test.YtkphpalagceobaaGreatHyGH
import Derived.Test.YtkphpalagceobaaGreatHyGJ
import Derived.Test.YtkphpalagceobaaGreatHyGI
import Derived.Test.YtkphpalagceobaaGreatHyGT
import Derived.Test.YtkphpalagceobaaGreatHyGY
import Derived.Test.YtkphpalagceobaaGreatHyLD
namespace Go.Proofs.YtkphpalagceobaaGreat.Hz
open Go.RowKit
set_option linter.unusedVariables false
set_option linter.unusedSimpArgs false
set_option maxRecDepth 20000
theorem path_small {f : Fs} {x : Item} (hx : x ∈ treeItems f) : x.path.length ≤ 100 := by
  obtain ⟨ms, h, h1, h2, h3⟩ := tree_path hx
  have hne : ms ≠ [] := fun e => by rw [e] at h1; simp at h1
  rw [h, pathOf_raw hne h2 h3, rawP_len]
  have := sum_names ms (fun x hx => List.all_eq_true.1 h3 x hx)
  omega
end Go.Proofs.YtkphpalagceobaaGreat.Hz
