/- Texts of the calculus and of the program's functions, merged: DW. -/
import Derived.Test.YtmpgpkdijfcfhaaDoorHyGE
import Derived.Test.YtmpgpkdijfcfhaaDoorHyGC
import Derived.Test.YtmpgpkdijfcfhaaDoorHyGD
/- The draws: a cursor over the code, and what is drawn from it. -/
namespace Go.Proofs.YtmpgpkdijfcfhaaDoor.Hz
open Go.RowKit
set_option linter.unusedVariables false
set_option linter.unusedSimpArgs false
set_option maxRecDepth 20000
def Dr (c:Nat) (h h':Hp):Prop:=h.length≤h'.length∧∀ q,q<h.length→q≠c→h'[q]?=h[q]?
theorem Dr.refl (c:Nat) (h:Hp):Dr c h h:=⟨Nat.le_refl _,fun _ _ _=>rfl⟩
theorem Dr.trans {c:Nat} {a b d:Hp} (x:Dr c a b) (y:Dr c b d):Dr c a d:=⟨Nat.le_trans x.1 y.1,fun q hq hc=>(y.2 q (by have:=x.1; omega) hc).trans (x.2 q hq hc)⟩
section
variable (c:Nat) (h:Hp) (a:Option Addr) (F:List Nat) (w:Bool) (t:TypeId)
end
end Go.Proofs.YtmpgpkdijfcfhaaDoor.Hz
