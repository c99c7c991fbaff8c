/- A leaf dropped, and a node set: what the trees are afterwards. No program in sight. -/
import Derived.Test.YtmpgpkdijfcfhaaGreatDoorHyHC
import Derived.Test.YtmpgpkdijfcfhaaGreatDoorHyGY
import Derived.Test.YtmpgpkdijfcfhaaGreatDoorHyGO
import Derived.Test.YtmpgpkdijfcfhaaGreatDoorHyGN
namespace Go.Proofs.YtmpgpkdijfcfhaaGreatDoor.Hz
open Go.RowKit
set_option linter.unusedVariables false
set_option linter.unusedSimpArgs false
set_option maxRecDepth 20000
theorem tree_nodup (f:Fs):(tI_ f).Nodup:=(tree_distinct f).imp fun h e=>h (by rw [e])
theorem perm_of_iff {α:Type} {a b:List α} (h1:a.Nodup) (h2:b.Nodup) (h:∀ x,x∈a↔x∈b):a.Perm b:=(List.perm_ext_iff_of_nodup h1 h2).2 h
end Go.Proofs.YtmpgpkdijfcfhaaGreatDoor.Hz
