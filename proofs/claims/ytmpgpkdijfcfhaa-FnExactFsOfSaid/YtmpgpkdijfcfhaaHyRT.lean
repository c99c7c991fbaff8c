/- A directory's text is read back. No program in sight. -/
import Derived.Test.YtmpgpkdijfcfhaaHyGC
import Derived.Test.YtmpgpkdijfcfhaaHyGE
import Derived.Test.YtmpgpkdijfcfhaaHyGD
namespace Go.Proofs.Ytmpgpkdijfcfhaa.Hz
open Go.RowKit
set_option linter.unusedVariables false
set_option linter.unusedSimpArgs false
set_option maxRecDepth 20000
theorem getNum_small (b:Str) (at_:Nat) (n:Nat) (h:b[at_]?=some (UInt8.ofNat n)) (hn:n<128):getNum b at_=some (n,at_+1):=by
  have h1:(UInt8.ofNat n).toNat=n:=by
    rw [UInt8.toNat_ofNat']
    omega
  unfold getNum gnF
  rw [Nat.add_zero,h]
  simp only [h1]
  rw [if_neg (by omega),if_neg (by simp; omega)]
  simp
  omega
end Go.Proofs.Ytmpgpkdijfcfhaa.Hz
