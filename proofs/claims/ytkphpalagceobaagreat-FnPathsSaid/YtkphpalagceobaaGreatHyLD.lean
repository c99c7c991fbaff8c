/- The law of dropped nodes. -/
import Derived.Test.YtkphpalagceobaaGreatHyHD
import Derived.Test.YtkphpalagceobaaGreatHyHB
import Derived.Test.YtkphpalagceobaaGreatHyGE
import Derived.Test.YtkphpalagceobaaGreatHyGJ
import Derived.Test.YtkphpalagceobaaGreatHyGK
import Derived.Test.YtkphpalagceobaaGreatHyHL
import Derived.Test.YtkphpalagceobaaGreatHyGC
namespace Go.Proofs.YtkphpalagceobaaGreat.Hz
open Go.RowKit
set_option linter.unusedVariables false
set_option linter.unusedSimpArgs false
set_option maxRecDepth 20000
theorem big_c (code : Str) (a : Option Addr) (h : Hp) : ACall Tryz.prog 11 [.slice a code.length code.length] h fun r h' => h' = h ∧ r = .bool (decide (1048576 < (code.length : Int))) := by
  refine acall mixed Tryz.func11 rfl (by kernel_rfl) ?_
  simp [Tryz.f11]
end Go.Proofs.YtkphpalagceobaaGreat.Hz
