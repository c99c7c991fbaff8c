/- What is hidden, and shown away again. No program in sight. -/
import Derived.Test.YtmpgpkdijfcfhaaGreatDoorHyZF
import Derived.Test.YtmpgpkdijfcfhaaGreatDoorHyGS
import Derived.Test.YtmpgpkdijfcfhaaGreatDoorHyEP
namespace Go.Proofs.YtmpgpkdijfcfhaaGreatDoor.Hz
open Go.RowKit
set_option linter.unusedVariables false
set_option linter.unusedSimpArgs false
set_option maxRecDepth 20000
theorem hidden_follow {f:Fs} {dep:Int→Nat} (C:Cert f dep):(hiddenNode f<0↔follow f [[126]] 0<0)∧(0≤hiddenNode f→follow f [[126]] 0=hiddenNode f∧∃ e,Edge f 0 e∧e.name=[126]∧e.node=hiddenNode f∧(nA_ f (hiddenNode f)).kind=1):=by
  have ok:=cert_fsOk C
  have hh:hiddenNode f=dirFind (dirI f 0).1 [126]:=by simp [hiddenNode,ok]
  have hk:=(shape_root C.sh).1
  have hf:follow f [[126]] 0=if dirFind (dirI f 0).1 [126]<0 then -1 else dirFind (dirI f 0).1 [126]:=by
    rw [follow_cons,if_pos hk]
    rfl
  rw [hf,hh]
  constructor
  · split <;> omega
  · intro h
    rw [if_neg (by omega)]
    have hlen:=(shape_root C.sh).2
    obtain ⟨e,he,h3,h4⟩:=dirFind_pos h
    have hE:Edge f 0 e:=⟨Int.le_refl _,by omega,hk,he⟩
    refine ⟨rfl,e,hE,h3,h4.symm,?_⟩
    rw [h4]
    rcases edge_name C hE with h5 | h5
    · exact absurd h3 (not_tilde h5)
    · exact h5.2.2
end Go.Proofs.YtmpgpkdijfcfhaaGreatDoor.Hz
