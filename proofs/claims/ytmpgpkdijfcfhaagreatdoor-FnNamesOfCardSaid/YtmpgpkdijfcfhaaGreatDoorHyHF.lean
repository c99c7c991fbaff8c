/- Texts of the calculus and of the program's functions, merged: QA. -/
import Derived.Test.YtmpgpkdijfcfhaaGreatDoorHyHA
import Derived.Test.YtmpgpkdijfcfhaaGreatDoorHyGH
import Derived.Test.YtmpgpkdijfcfhaaGreatDoorHyGJ
namespace Go.Proofs.YtmpgpkdijfcfhaaGreatDoor.Hz
open Go.RowKit
set_option linter.unusedVariables false
set_option linter.unusedSimpArgs false
theorem tree_sorted (f:Fs):SortedP (tI_ f):=by
  unfold tI_
  split
  · rename_i e1
    exact (foldPut_sorted (itemsOf f 4 0 []) [] (by simp [SortedP]) (by simpa using itemsOf_distinct 4 0 [] (vis_root e1) (by simp) (by simp))).1
  · simp [SortedP]
theorem tree_mem {f:Fs} (e1:fsOk f=true) (x:Item):x∈tI_ f↔x∈itemsOf f 4 0 []:=by
  unfold tI_
  rw [if_pos e1]
  have:=(foldPut_sorted (itemsOf f 4 0 []) [] (by simp [SortedP]) (by simpa using itemsOf_distinct 4 0 [] (vis_root e1) (by simp) (by simp))).2
  simpa using this.mem_iff
theorem tree_distinct (f:Fs):(tI_ f).Pairwise fun a b=>a.path≠b.path:=by
  refine (tree_sorted f).imp fun {a b} h e=>?_
  rw [e,less_irr] at h
  cases h
theorem tree_path {f:Fs} {x:Item} (hx:x∈tI_ f):∃ ms:List Str,x.path=pathOf ms∧1≤ms.length∧ms.length≤4∧ms.all nameOk=true:=by
  cases e1:fsOk f
  · simp [tI_,e1] at hx
  obtain ⟨ms,p1,p2,p3,p4,_⟩:=itemsOf_path 4 0 [] (vis_root e1) (by simp) (by simp) x ((tree_mem e1 x).1 hx)
  exact ⟨ms,by simpa using p1,p2,p3,p4⟩
theorem tree_pathOk {f:Fs} {x:Item} (hx:x∈tI_ f):pathOk x.path=true∧x.path≠[47]:=by
  obtain ⟨ms,p1,p2,p3,p4⟩:=tree_path hx
  obtain ⟨h1,h2⟩:=pathOf_names p3 p4
  rw [p1]
  refine ⟨h1,fun e=>?_⟩
  rw [e] at h2
  have:names [47]=[]:=by simp [names]
  rw [this] at h2
  rw [← h2] at p2
  simp at p2
noncomputable def trees (bs:List Branch):List (List Item):=bs.map fun b=>tI_ b.fs
end Go.Proofs.YtmpgpkdijfcfhaaGreatDoor.Hz
