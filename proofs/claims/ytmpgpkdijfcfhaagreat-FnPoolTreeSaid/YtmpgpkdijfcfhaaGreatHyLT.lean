/- The law of room. -/
import Derived.Test.YtmpgpkdijfcfhaaGreatHyJE
import Derived.Test.YtmpgpkdijfcfhaaGreatHyZM
import Derived.Test.YtmpgpkdijfcfhaaGreatHyHF
import Derived.Test.YtmpgpkdijfcfhaaGreatHyQF
import Derived.Test.YtmpgpkdijfcfhaaGreatHyLD
namespace Go.Proofs.YtmpgpkdijfcfhaaGreat.Hz
open Go.RowKit
set_option linter.unusedVariables false
set_option linter.unusedSimpArgs false
set_option maxRecDepth 20000
structure PBx (H:Hp) (B:Nat) (x:Pool) (a:Option Addr) (G:List Nat):Prop where
  box:H[B]?=some ⟨true,true,28,poolC x x.branches.length a⟩
  sl:slR true 47 (branchE true 60) H x.branches a G
section
variable {h H H2:Hp} {B:Nat} {x:Pool} {a:Option Addr} {G:List Nat} {r:Value}
theorem PBx.ext (k:PBx H B x a G) (e:Ext H H2):PBx H2 B x a G:=⟨(e.2 B (get_lt k.box)).trans k.box,k.sl.ext e⟩
theorem PBx.cells (k:PBx H B x a G):∀ j,cellAt H B j=(poolC x x.branches.length a)[j]?:=fun j=>by simp [cellAt,k.box]
theorem PBx.of (k:PIn h H x r):∃ a G,r=.agg (poolC x x.branches.length a).toArray∧PBx (H++[⟨true,true,28,poolC x x.branches.length a⟩]) H.length x a G∧Ext h (H++[⟨true,true,28,poolC x x.branches.length a⟩])∧PBe x:=by
  obtain ⟨a,G,e1,e2,e3,-,e5⟩:=k
  exact ⟨a,G,e1,⟨by simp,e3.ext (Ext.push _ _)⟩,e2.trans (Ext.push _ _),e5⟩
end
end Go.Proofs.YtmpgpkdijfcfhaaGreat.Hz
