/- Room and winners of a pool. No program in sight. -/
import Derived.Test.YtmpgpkdijfcfhaaGreatHyQF
import Derived.Test.YtmpgpkdijfcfhaaGreatHyHG
import Derived.Test.YtmpgpkdijfcfhaaGreatHyHB
namespace Go.Proofs.YtmpgpkdijfcfhaaGreat.Hz
open Go.RowKit
set_option linter.unusedVariables false
set_option linter.unusedSimpArgs false
set_option maxRecDepth 20000
theorem poolOk_fsOk {x:Pool} (h:poolOk x=true):∀ b∈x.branches,fsOk b.fs=true:=fun b hb=>by
  unfold poolOk at h
  simp only [Bool.and_eq_true,List.all_eq_true] at h
  have:=h.1.2 b hb
  unfold brOk at this
  simp only [Bool.and_eq_true] at this
  exact this.2
theorem win_some {bs:List Branch} {p:Str} (h:holdTo bs p bs.length≠[]):∃ j:Nat,win bs p=j∧Wins (genI bs p) (holdTo bs p bs.length) j:=by
  have hs:=holdTo_sorted bs p bs.length
  unfold win
  cases hl:holdTo bs p bs.length with
  | nil=>exact absurd hl h
  | cons k ks =>
    rw [hl] at hs
    have h1:pickW bs p (k :: ks) (-1)=pickW bs p ks (k:Int):=by
      show pickW bs p ks (if (-1:Int)<0∨_ then (k:Int) else -1)=_
      rw [if_pos (.inl (by decide))]
    rw [h1]
    have hw:Wins (genI bs p) [k] k:=⟨by simp,fun m hm=>by simp at hm; subst hm; exact ⟨fun h=>absurd h (Nat.lt_irrefl _),fun h=>absurd h (Nat.lt_irrefl _)⟩⟩
    exact pickW_wins bs p ks [k] k hs hw
end Go.Proofs.YtmpgpkdijfcfhaaGreat.Hz
