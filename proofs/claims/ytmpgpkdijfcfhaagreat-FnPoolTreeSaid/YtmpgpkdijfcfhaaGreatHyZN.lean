/- The tree of a pool. No program in sight. -/
import Derived.Test.YtmpgpkdijfcfhaaGreatHyZI
import Derived.Test.YtmpgpkdijfcfhaaGreatHyZM
import Derived.Test.YtmpgpkdijfcfhaaGreatHyHG
namespace Go.Proofs.YtmpgpkdijfcfhaaGreat.Hz
open Go.RowKit
set_option linter.unusedVariables false
set_option linter.unusedSimpArgs false
set_option maxRecDepth 20000
section
variable {x:Pool} (ok:poolOk x=true)
include ok
theorem pool_sorted:SortedP (poolTree x)∧(poolTree x).Perm (specTo x.branches x.branches.length):=by
  have d2:=specTo_dis x.branches x.branches.length
  unfold poolTree
  rw [if_pos ok]
  obtain ⟨f1,f2⟩:=foldPut_sorted (specTo x.branches x.branches.length) [] List.Pairwise.nil (by simpa using d2)
  exact ⟨f1,by simpa using f2⟩
theorem pool_dis:(poolTree x).Pairwise fun a b=>a.path≠b.path:=((pool_sorted ok).2.pairwise_iff (R:=fun a b:Item=>a.path≠b.path) (fun {a b} h e=>h e.symm)).2 (specTo_dis x.branches x.branches.length)
theorem pool_mem (y:Item):y∈poolTree x↔∃ (i:Nat) (hi:i<x.branches.length),y∈tI_ x.branches[i].fs∧win x.branches y.path=i:=by
  rw [(pool_sorted ok).2.mem_iff,specTo_mem]
  constructor
  · rintro ⟨i,hi,h1,h2⟩
    rw [tre_get hi] at h1
    exact ⟨i,hi,h1,h2⟩
  · rintro ⟨i,hi,h1,h2⟩
    exact ⟨i,hi,by rw [tre_get hi]; exact h1,h2⟩
theorem pool_br (i:Nat) (hi:i<x.branches.length):∃ dep,Cert x.branches[i].fs dep:=fsOk_cert (poolOk_fsOk ok _ (List.getElem_mem hi))
theorem pool_has {i:Nat} (hi:i<x.branches.length) {u:Item} (hu:u∈tI_ x.branches[i].fs):∃ y,treeGet (poolTree x) u.path=(y,true)∧y.kind=u.kind:=by
  obtain ⟨hw,-⟩:=tree_walk hu
  have hh:i∈holdTo x.branches u.path x.branches.length:=holdTo_iff.2 ⟨hi,by rw [walkI_get hi]; exact hw⟩
  obtain ⟨j,hj,hW⟩:=win_some (bs:=x.branches) (p:=u.path) (fun e=>by rw [e] at hh; cases hh)
  obtain ⟨hjl,hjw⟩:=holdTo_iff.1 hW.1
  rw [walkI_get hjl] at hjw
  obtain ⟨dep,C⟩:=pool_br ok j hjl
  obtain ⟨ms,h3,h4,h5,h6⟩:=tree_path hu
  have hy:itemN x.branches[j].fs u.path (walk x.branches[j].fs u.path)∈tI_ x.branches[j].fs:=by
    rw [h3] at hjw ⊢
    exact walk_tree h4 h5 h6 hjw
  have hp:(itemN x.branches[j].fs u.path (walk x.branches[j].fs u.path)).path=u.path:=rfl
  refine ⟨itemN x.branches[j].fs u.path (walk x.branches[j].fs u.path),?_,?_⟩
  · rw [treeGet_find (tree_pathOk hu).2]
    have:=find_only (pool_dis ok) ((pool_mem ok _).2 ⟨j,hjl,hy,hj⟩)
    exact this
  · have hag:(trees x.branches).flatten.Pairwise agr:=by
      have:=ok
      unfold poolOk at this
      simp only [Bool.and_eq_true,decide_eq_true_eq] at this
      exact this.2
    have key:∀ (xs:List Item),xs.Pairwise agr→∀ a∈xs,∀ b∈xs,a.path=b.path→a.kind=b.kind:=by
      intro xs
      induction xs with
      | nil=>intro _ a ha; cases ha
      | cons z zs ih =>
        intro hp a ha b hb e
        rw [List.pairwise_cons] at hp
        rcases List.mem_cons.1 ha with h1 | h1 <;> rcases List.mem_cons.1 hb with h2 | h2
        · rw [h1,h2]
        · rw [h1] at e ⊢; exact hp.1 b h2 e
        · rw [h2] at e ⊢; exact (hp.1 a h1 e.symm).symm
        · exact ih hp.2 a h1 b h2 e
    have inn:∀ (k:Nat) (hk:k<x.branches.length) (z:Item),z∈tI_ x.branches[k].fs→z∈(trees x.branches).flatten:=fun k hk z hz=>by
      unfold trees
      exact List.mem_flatten.2 ⟨tI_ x.branches[k].fs,List.mem_map.2 ⟨x.branches[k],List.getElem_mem hk,rfl⟩,hz⟩
    exact key _ hag _ (inn j hjl _ hy) _ (inn i hi _ hu) hp
theorem pool_len:(poolTree x).length≤40:=by
  have h1:=(pool_sorted ok).2.length_eq
  have h4:x.branches.length≤4:=by
    have:=ok
    unfold poolOk headOk at this
    simp only [Bool.and_eq_true] at this
    have h:=inR_iff.1 this.1.1.1.2
    omega
  have key:∀ k,k≤x.branches.length→(specTo x.branches k).length≤10 * k:=by
    intro k
    induction k with
    | zero=>intro _; simp [specTo]
    | succ k ih =>
      intro hk
      have h2:=ih (by omega)
      have h3:(kept x.branches k (tre x.branches k)).length≤(tre x.branches k).length:=by
        unfold kept
        exact List.length_filter_le _ _
      have hkl:k<x.branches.length:=by omega
      obtain ⟨dep,C⟩:=pool_br ok k hkl
      have h5:=tree_small C
      rw [tre_get hkl] at h3
      rw [specTo_succ,List.length_append,tre_get hkl]
      omega
  have:=key _ (Nat.le_refl _)
  omega
theorem pool_treeOk:treeOk (poolTree x)=true:=by
  refine treeOk_of (pool_len ok) (pool_sorted ok).1 (fun y hy=>?_) (fun y hy=>?_)
  · obtain ⟨i,hi,h1,-⟩:=(pool_mem ok y).1 hy
    obtain ⟨dep,C⟩:=pool_br ok i hi
    exact item_ok C h1
  · obtain ⟨i,hi,h1,-⟩:=(pool_mem ok y).1 hy
    obtain ⟨dep,C⟩:=pool_br ok i hi
    obtain ⟨u1,u2⟩:=item_up C h1
    by_cases hr:above y.path=[47]
    · rw [hr]; exact ⟨rfl,rfl⟩
    · rw [treeGet_find hr] at u1 u2
      obtain ⟨m1,m2⟩:=find_some u1
      obtain ⟨z,hz,hk⟩:=pool_has ok hi m1
      rw [m2] at hz
      rw [hz]
      exact ⟨rfl,by rw [hk]; exact u2⟩
theorem winner_win (p:Str):winner x p=win x.branches p:=by
  unfold winner win
  rw [if_pos ok]
theorem pool_item {y:Item} (hy:y∈poolTree x):∃ (i:Nat) (hi:i<x.branches.length),winner x y.path=(i:Int)∧treeGet (tI_ x.branches[i].fs) y.path=(y,true):=by
  obtain ⟨i,hi,h1,h2⟩:=(pool_mem ok y).1 hy
  refine ⟨i,hi,by rw [winner_win ok,h2],?_⟩
  rw [treeGet_find (tree_pathOk h1).2]
  exact find_only (tree_distinct _) h1
theorem pool_one (h1:x.branches.length=1) (hi:0<x.branches.length):poolTree x=tI_ x.branches[0].fs:=by
  have nd:(poolTree x).Nodup:=(pool_dis ok).imp fun h e=>h (by rw [e])
  refine sorted_eq (pool_sorted ok).1 (tree_sorted _) (perm_of_iff nd (tree_nodup _) fun y=>?_)
  constructor
  · intro hy
    obtain ⟨i,hil,h2,-⟩:=(pool_mem ok y).1 hy
    have:i=0:=by omega
    subst this
    exact h2
  · intro hy
    refine (pool_mem ok y).2 ⟨0,hi,hy,?_⟩
    obtain ⟨hw,-⟩:=tree_walk hy
    have hh:0∈holdTo x.branches y.path x.branches.length:=holdTo_iff.2 ⟨hi,by rw [walkI_get hi]; exact hw⟩
    obtain ⟨j,hj,hW⟩:=win_some (bs:=x.branches) (p:=y.path) (fun e=>by rw [e] at hh; cases hh)
    have:=(holdTo_iff.1 hW.1).1
    have:j=0:=by omega
    subst this
    exact hj
end
end Go.Proofs.YtmpgpkdijfcfhaaGreat.Hz
