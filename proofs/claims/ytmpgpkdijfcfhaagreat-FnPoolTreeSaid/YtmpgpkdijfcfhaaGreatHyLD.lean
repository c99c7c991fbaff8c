/- The law of dropped nodes. -/
import Derived.Test.YtmpgpkdijfcfhaaGreatHyHD
import Derived.Test.YtmpgpkdijfcfhaaGreatHyHB
import Derived.Test.YtmpgpkdijfcfhaaGreatHyGE
import Derived.Test.YtmpgpkdijfcfhaaGreatHyGJ
import Derived.Test.YtmpgpkdijfcfhaaGreatHyGK
import Derived.Test.YtmpgpkdijfcfhaaGreatHyHL
import Derived.Test.YtmpgpkdijfcfhaaGreatHyGC
namespace Go.Proofs.YtmpgpkdijfcfhaaGreat.Hz
open Go.RowKit
set_option linter.unusedVariables false
set_option linter.unusedSimpArgs false
set_option maxRecDepth 20000
theorem big_c (code:Str) (a:Option Addr) (h:Hp):ACall Tryz.prog 7 [.slice a code.length code.length] h fun r h'=>h'=h∧r=.bool (decide (1048576<(code.length:Int))):=by
  refine acall mixed Tryz.func7 rfl (by kernel_rfl) ?_
  simp [Tryz.f7]
end Go.Proofs.YtmpgpkdijfcfhaaGreat.Hz
