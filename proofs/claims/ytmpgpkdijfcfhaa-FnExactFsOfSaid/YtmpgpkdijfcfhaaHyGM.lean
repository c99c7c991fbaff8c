/- Texts of the calculus and of the program's functions, merged: SD DD0 UL. -/
import Derived.Test.YtmpgpkdijfcfhaaHyGK
import Derived.Test.YtmpgpkdijfcfhaaHyGC
import Derived.Test.YtmpgpkdijfcfhaaHyGD
import Derived.Test.YtmpgpkdijfcfhaaHyRT
import Derived.Test.YtmpgpkdijfcfhaaHyGI
/- What is left when a node is dropped is well formed. No program in sight. -/
namespace Go.Proofs.Ytmpgpkdijfcfhaa.Hz
open Go.RowKit
set_option linter.unusedVariables false
set_option linter.unusedSimpArgs false
set_option maxRecDepth 20000
end Go.Proofs.Ytmpgpkdijfcfhaa.Hz
/- Dropping an entry: slices.Clone,slices.Delete,and both programs. -/
namespace Go.Proofs.Ytmpgpkdijfcfhaa.Hz
open Go.RowKit
set_option linter.unusedVariables false
set_option linter.unusedSimpArgs false
set_option maxRecDepth 20000
end Go.Proofs.Ytmpgpkdijfcfhaa.Hz
/- A name is taken out of a directory: both programs. -/
namespace Go.Proofs.Ytmpgpkdijfcfhaa.Hz
open Go.RowKit
set_option linter.unusedVariables false
set_option linter.unusedSimpArgs false
set_option maxRecDepth 20000
theorem FsRes.tail {f:Fs} {h H P1 P2 u:Hp} {v:Value} (k:FsRes f H (P1++u) v) (hP:P1.length=P2.length) (hH:P1.length≤H.length) (e:Ext h (P2++u)) (hle:h.length≤H.length):FsRes f h (P2++u) v:=by
  obtain ⟨b1,G1,b2,G2,rfl,o1,o2,dis⟩:=k
  have same:∀ q,H.length≤q→(P2++u)[q]?=(P1++u)[q]?:=fun q hq=>by
    rw [List.getElem?_append_right (by omega),List.getElem?_append_right (by omega),hP]
  exact ⟨b1,G1,b2,G2,rfl,⟨e,o1.sl.frame fun q hq=>same q (o1.new q hq),o1.nd,fun q hq=>Nat.le_trans hle (o1.new q hq)⟩,⟨e,o2.sl.frame fun q hq=>same q (o2.new q hq),o2.nd,fun q hq=>Nat.le_trans hle (o2.new q hq)⟩,dis⟩
theorem FsRes.low {f:Fs} {h H H' H'':Hp} {v:Value} (k:FsRes f H H' v) (e:Ext h H'') (hle:h.length≤H.length) (same:∀ q,H.length≤q→H''[q]?=H'[q]?):FsRes f h H'' v:=by
  obtain ⟨b1,G1,b2,G2,rfl,o1,o2,dis⟩:=k
  exact ⟨b1,G1,b2,G2,rfl,⟨e,o1.sl.frame fun q hq=>same q (o1.new q hq),o1.nd,fun q hq=>Nat.le_trans hle (o1.new q hq)⟩,⟨e,o2.sl.frame fun q hq=>same q (o2.new q hq),o2.nd,fun q hq=>Nat.le_trans hle (o2.new q hq)⟩,dis⟩
section
variable (f:Fs) (a1 a2:Option Addr) (F1 F2:List Nat) (w:Bool) (tNode:TypeId) (h:Hp) (k1:slR w tNode (nodeE w) h f.nodes a1 F1) (k2:slR w 9 strE h f.data a2 F2) (hl:f.nl≤1048576) (s:ShapeOk f) (d:Nat) (hd:d<f.nodes.length) (name:Str)
include k1 k2 hl s hd
end
end Go.Proofs.Ytmpgpkdijfcfhaa.Hz
