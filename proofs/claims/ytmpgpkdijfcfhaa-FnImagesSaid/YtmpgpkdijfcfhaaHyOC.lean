/- The laws' codes as arguments. -/
import Derived.Test.YtmpgpkdijfcfhaaHyGC
namespace Go.Proofs.Ytmpgpkdijfcfhaa.Hz
open Go.RowKit
set_option linter.unusedVariables false
set_option maxRecDepth 20000
theorem opnV_code:OpnV Try.prog 34 (V1 (slE false 5 byteE) fun xs=>xs.length≤maxLen∧∀ x∈xs,True) :=
  opn1 (opn_slice (opn_byte (by kernel_rfl)) (by kernel_rfl) (by kernel_rfl) (by kernel_rfl) (by decide)) (one_slice (e:=5) (by kernel_rfl))
end Go.Proofs.Ytmpgpkdijfcfhaa.Hz
