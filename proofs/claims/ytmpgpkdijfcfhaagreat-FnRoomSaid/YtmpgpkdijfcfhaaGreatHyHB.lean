/- Texts of the calculus and of the program's functions, merged: HP. -/
import Derived.Test.YtmpgpkdijfcfhaaGreatHyGQ
import Derived.Test.YtmpgpkdijfcfhaaGreatHyGM
/- Free blocks, and what writing and dropping a node do to them. No program in sight. -/
namespace Go.Proofs.YtmpgpkdijfcfhaaGreat.Hz
open Go.RowKit
set_option linter.unusedVariables false
set_option linter.unusedSimpArgs false
noncomputable def freeOf (f:Fs):Int:=if shapeOk f then (f.data.length:Int) - ((held f.nodes).length:Int) else 0
theorem countP_not {α:Type} (p:α→Bool):∀ l:List α,l.countP (fun x=>!p x)+(l.filter p).length=l.length
  | []=>rfl
  | x :: l=>by
    have:=countP_not p l
    cases hp:p x <;> simp [hp] at this ⊢ <;> omega
theorem count_free {n:Nat} {bs:List Int} (nd:bs.Nodup) (hr:∀ b∈bs,0≤b∧b<n):(List.range n).countP (fun k:Nat=>!decide ((k:Int)∈bs))+bs.length=n:=by
  have h1:=countP_not (fun k:Nat=>decide ((k:Int)∈bs)) (List.range n)
  have h2:((List.range n).filter fun k:Nat=>decide ((k:Int)∈bs)).Perm (bs.map Int.toNat):=by
    rw [List.perm_ext_iff_of_nodup]
    · intro k
      simp only [List.mem_filter,List.mem_range,decide_eq_true_eq,List.mem_map]
      constructor
      · rintro ⟨_,hk⟩
        exact ⟨_,hk,by simp⟩
      · rintro ⟨b,hb,rfl⟩
        have:=hr b hb
        have e:((b.toNat:Nat):Int)=b:=by omega
        exact ⟨by omega,by rw [e]; exact hb⟩
    · exact List.Pairwise.filter _ List.nodup_range
    · refine List.Pairwise.map Int.toNat ?_ (List.Pairwise.and_mem.1 nd)
      rintro a b ⟨ha,hb,hne⟩ e
      have:=hr a ha
      have:=hr b hb
      exact hne (by omega)
  have h3:=h2.length_eq
  rw [List.length_map] at h3
  rw [List.length_range] at h1
  omega
section
variable {f:Fs} {i:Nat} {data:Str}
theorem Wrote.node (W:Wrote f i data):nodeAtI f (i:Int)=f.nodes[i]'W.hi:=nodeAtI_get W.hi
end
end Go.Proofs.YtmpgpkdijfcfhaaGreat.Hz
