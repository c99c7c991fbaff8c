/- PoolFree: both programs. -/
import Derived.Test.YtmpgpkdijfcfhaaGreatHyHF
import Derived.Test.YtmpgpkdijfcfhaaGreatHyHB
import Derived.Test.YtmpgpkdijfcfhaaGreatHyGE
namespace Go.Proofs.YtmpgpkdijfcfhaaGreat.Hz
open Go.RowKit
set_option linter.unusedVariables false
set_option linter.unusedSimpArgs false
set_option maxRecDepth 20000
theorem poolOk_head_t {x:Pool} (h:poolOk x=true):headOk x=true∧1≤x.branches.length∧x.branches.length≤4:=by
  have:headOk x=true:=by
    cases e:headOk x
    · rw [poolOk_head e] at h; cases h
    · rfl
  refine ⟨this,?_⟩
  simp only [headOk,Bool.and_eq_true] at this
  have:=inR_iff.1 this.1.2
  omega
section
variable (x:Pool) (b:Option Addr) (F:List Nat) (w:Bool) (tBranch tNode:TypeId) (h:Hp) (k1:slR w tBranch (branchE w tNode) h x.branches b F) (hl:x.nl≤1048576)
include k1 hl
end
end Go.Proofs.YtmpgpkdijfcfhaaGreat.Hz
