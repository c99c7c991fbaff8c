/- A directory's text is read back. No program in sight. -/
import Derived.Test.YtmpgpkdijfcfhaaGreatHyGC
import Derived.Test.YtmpgpkdijfcfhaaGreatHyGE
import Derived.Test.YtmpgpkdijfcfhaaGreatHyGD
namespace Go.Proofs.YtmpgpkdijfcfhaaGreat.Hz
open Go.RowKit
set_option linter.unusedVariables false
set_option linter.unusedSimpArgs false
set_option maxRecDepth 20000
theorem okFrom_names (es:List Ent):∀ (l:List Ent) (k:Nat),okFrom es l k=true→∀ e∈l,nameH e.name=true
  | [],_,_,e,he=>by cases he
  | x :: l,k,h,e,he=>by
    simp only [okFrom,Bool.and_eq_true] at h
    rcases List.mem_cons.1 he with rfl | he
    · have h1:=h.1
      simp only [okAt,Bool.and_eq_true] at h1
      exact h1.1.1.1
    · exact okFrom_names es l (k+1) h.2 e he
theorem nameH_le {s:Str} (h:nameH s=true):s.length≤6:=by
  unfold nameH at h
  rw [Bool.or_eq_true] at h
  rcases h with h | h
  · have:s=[126]:=by simpa using h
    rw [this]; decide
  · simp only [nameOk,Bool.and_eq_true,decide_eq_true_eq] at h
    exact h.1.2
theorem putNum_small {n:Int} (h0:0≤n) (h:n<128):putNum n=[UInt8.ofNat n.toNat]:=by
  unfold putNum
  rw [if_pos (by omega),numB_lt (by omega)]
theorem okFrom_nodes (es:List Ent):∀ (l:List Ent) (k:Nat),okFrom es l k=true→∀ e∈l,1≤e.node∧e.node≤9
  | [],_,_,e,he=>by cases he
  | x :: l,k,h,e,he=>by
    simp only [okFrom,Bool.and_eq_true] at h
    rcases List.mem_cons.1 he with rfl | he
    · have h1:=h.1
      simp only [okAt,Bool.and_eq_true,decide_eq_true_eq] at h1
      exact h1.1.1.2
    · exact okFrom_nodes es l (k+1) h.2 e he
end Go.Proofs.YtmpgpkdijfcfhaaGreat.Hz
