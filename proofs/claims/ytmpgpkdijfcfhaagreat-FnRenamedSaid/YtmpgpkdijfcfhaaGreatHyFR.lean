/- FreeOf: both programs. -/
import Derived.Test.YtmpgpkdijfcfhaaGreatHyHB
import Derived.Test.YtmpgpkdijfcfhaaGreatHyGE
namespace Go.Proofs.YtmpgpkdijfcfhaaGreat.Hz
open Go.RowKit
set_option linter.unusedVariables false
set_option linter.unusedSimpArgs false
set_option maxRecDepth 20000
def freeTo (f:Fs) (k:Nat):Nat:=(List.range k).countP (fun q:Nat=>!decide ((q:Int)∈held f.nodes))
theorem freeTo_all {f:Fs} (s:shapeOk f=true):(freeTo f f.data.length:Int)=freeOf f:=by
  have o:=(shapeOk_iff.1 s).own
  have:=count_free (n:=f.data.length) o.2 o.1
  unfold freeOf freeTo
  rw [if_pos s]
  omega
section
variable (f:Fs) (a1 a2:Option Addr) (F1 F2:List Nat) (w:Bool) (tNode:TypeId) (h:Hp) (k1:slR w tNode (nodeE w) h f.nodes a1 F1) (k2:slR w 9 strE h f.data a2 F2) (hl:f.nl≤1048576)
include k1 k2 hl
end
end Go.Proofs.YtmpgpkdijfcfhaaGreat.Hz
