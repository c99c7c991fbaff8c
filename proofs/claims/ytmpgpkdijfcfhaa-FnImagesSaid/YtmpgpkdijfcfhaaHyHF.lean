/- Texts of the calculus and of the program's functions, merged: QA. -/
import Derived.Test.YtmpgpkdijfcfhaaHyHA
import Derived.Test.YtmpgpkdijfcfhaaHyGH
import Derived.Test.YtmpgpkdijfcfhaaHyGJ
namespace Go.Proofs.Ytmpgpkdijfcfhaa.Hz
open Go.RowKit
set_option linter.unusedVariables false
set_option linter.unusedSimpArgs false
theorem tree_sorted (f:Fs):SortedP (tI_ f):=by
  unfold tI_
  split
  · rename_i e1
    exact (foldPut_sorted (itemsOf f 4 0 []) [] (by simp [SortedP]) (by simpa using itemsOf_distinct 4 0 [] (vis_root e1) (by simp) (by simp))).1
  · simp [SortedP]
theorem tree_mem {f:Fs} (e1:fsOk f=true) (x:Item):x∈tI_ f↔x∈itemsOf f 4 0 []:=by
  unfold tI_
  rw [if_pos e1]
  have:=(foldPut_sorted (itemsOf f 4 0 []) [] (by simp [SortedP]) (by simpa using itemsOf_distinct 4 0 [] (vis_root e1) (by simp) (by simp))).2
  simpa using this.mem_iff
theorem tree_distinct (f:Fs):(tI_ f).Pairwise fun a b=>a.path≠b.path:=by
  refine (tree_sorted f).imp fun {a b} h e=>?_
  rw [e,less_irr] at h
  cases h
theorem tree_path {f:Fs} {x:Item} (hx:x∈tI_ f):∃ ms:List Str,x.path=pathOf ms∧1≤ms.length∧ms.length≤4∧ms.all nameOk=true:=by
  cases e1:fsOk f
  · simp [tI_,e1] at hx
  obtain ⟨ms,p1,p2,p3,p4,_⟩:=itemsOf_path 4 0 [] (vis_root e1) (by simp) (by simp) x ((tree_mem e1 x).1 hx)
  exact ⟨ms,by simpa using p1,p2,p3,p4⟩
theorem tree_pathOk {f:Fs} {x:Item} (hx:x∈tI_ f):pathOk x.path=true∧x.path≠[47]:=by
  obtain ⟨ms,p1,p2,p3,p4⟩:=tree_path hx
  obtain ⟨h1,h2⟩:=pathOf_names p3 p4
  rw [p1]
  refine ⟨h1,fun e=>?_⟩
  rw [e] at h2
  have:names [47]=[]:=by simp [names]
  rw [this] at h2
  rw [← h2] at p2
  simp at p2
theorem find_none {xs:List Item} {p:Str}:(treeFind xs p).2=false→∀ x∈xs,x.path≠p:=by
  induction xs with
  | nil=>intro _ x hx; simp at hx
  | cons y xs ih =>
    intro h x hx
    unfold treeFind at h
    split at h
    · cases h
    · rename_i hy
      rcases List.mem_cons.1 hx with rfl | hx
      · exact hy
      · exact ih h x hx
theorem find_some {xs:List Item} {p:Str}:(treeFind xs p).2=true→(treeFind xs p).1∈xs∧(treeFind xs p).1.path=p:=by
  induction xs with
  | nil=>intro h; simp [treeFind] at h
  | cons y xs ih =>
    intro h
    unfold treeFind at h ⊢
    split at h
    · rename_i hy
      rw [if_pos hy]
      exact ⟨by simp,hy⟩
    · rename_i hy
      rw [if_neg hy]
      obtain ⟨h1,h2⟩:=ih h
      exact ⟨by simp [h1],h2⟩
theorem find_has {xs:List Item} {p:Str} {x:Item} (hx:x∈xs) (hp:x.path=p):(treeFind xs p).2=true:=by
  cases h:(treeFind xs p).2
  · exact absurd hp (find_none h x hx)
  · rfl
theorem find_only {xs:List Item} (hd:xs.Pairwise fun a b=>a.path≠b.path) {x:Item} (hx:x∈xs):treeFind xs x.path=(x,true):=by
  have h1:=find_has hx rfl
  obtain ⟨h2,h3⟩:=find_some h1
  have:(treeFind xs x.path).1=x:=by
    by_cases e:(treeFind xs x.path).1=x
    · exact e
    · exfalso
      have hd2:xs.Pairwise fun a b=>a.path≠b.path:=hd
      rcases List.mem_iff_getElem.1 h2 with ⟨i,hi,ei⟩
      rcases List.mem_iff_getElem.1 hx with ⟨j,hj,ej⟩
      have hij:i≠j:=fun h=>e (by subst h; rw [← ei,ej])
      rcases Nat.lt_or_gt_of_ne hij with h | h
      · exact (List.pairwise_iff_getElem.1 hd2 i j hi hj h) (by rw [ei,ej,h3])
      · exact (List.pairwise_iff_getElem.1 hd2 j i hj hi h) (by rw [ei,ej,h3])
  exact Prod.ext this h1
theorem treeGet_find {xs:List Item} {p:Str} (h:p≠[47]):treeGet xs p=treeFind xs p:=by unfold treeGet; rw [if_neg h]
noncomputable def trees (bs:List Branch):List (List Item):=bs.map fun b=>tI_ b.fs
end Go.Proofs.Ytmpgpkdijfcfhaa.Hz
