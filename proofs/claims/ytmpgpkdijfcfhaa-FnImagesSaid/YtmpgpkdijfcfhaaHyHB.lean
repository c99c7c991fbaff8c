/- Texts of the calculus and of the program's functions, merged: HP. -/
import Derived.Test.YtmpgpkdijfcfhaaHyGQ
import Derived.Test.YtmpgpkdijfcfhaaHyGM
namespace Go.Proofs.Ytmpgpkdijfcfhaa.Hz
open Go.RowKit
set_option linter.unusedVariables false
set_option linter.unusedSimpArgs false
section
variable {f:Fs} {i:Nat} {data:Str}
theorem Wrote.node (W:Wrote f i data):nA_ f (i:Int)=f.nodes[i]'W.hi:=nodeAtI_get W.hi
end
end Go.Proofs.Ytmpgpkdijfcfhaa.Hz
