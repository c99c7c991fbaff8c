/- The tree of a right file system is right, and its paths are those of the nodes. No program in sight. -/
import Derived.Test.YtmpgpkdijfcfhaaGreatDoorHyZG
import Derived.Test.YtmpgpkdijfcfhaaGreatDoorHyGH
namespace Go.Proofs.YtmpgpkdijfcfhaaGreatDoor.Hz
open Go.RowKit
set_option linter.unusedVariables false
set_option linter.unusedSimpArgs false
set_option maxRecDepth 20000
section
variable {f:Fs} {dep:Int→Nat} (C:Cert f dep)
include C
theorem node_item {j:Int} (h0:0≤j) (h1:j<f.nodes.length) (hk:(nA_ f j).kind≠0):(1≤(nA_ f j).kind∧(nA_ f j).kind≤3)∧(0≤(nA_ f j).time∧(nA_ f j).time≤100000):=by
  obtain ⟨m,rfl⟩:=Int.eq_ofNat_of_zero_le h0
  have hm:m<f.nodes.length:=by omega
  have ho:=nodeOk_iff.1 (C.sh.ok _ (List.getElem_mem hm))
  rw [← nodeAtI_get hm] at ho
  rcases ho with h | h
  · exact absurd h.1 hk
  · exact ⟨h.2.1,h.2.2.2.1⟩
theorem item_ok {x:Item} (hx:x∈tI_ f):itemOk x=true:=by
  obtain ⟨ns,a,b,c,rfl⟩:=(tree_iff C x).1 hx
  have hp:=tree_pathOk hx
  have hr:=at_range C ns c
  have hk:=at_kind C c
  obtain ⟨k1,k2⟩:=node_item C c hr hk
  have hcs:=content_small C.sh (follow f ns 0)
  unfold itemOk
  rw [hp.1]
  have h47:((itemN f (pathOf ns) (follow f ns 0)).path == [47])=false:=by simpa using hp.2
  rw [h47]
  have hki:inR (itemN f (pathOf ns) (follow f ns 0)).kind 1 3=true:=inR_iff.2 k1
  rw [hki]
  simp only [Bool.not_false,Bool.true_and]
  unfold itemN
  simp only
  by_cases h2:(nA_ f (follow f ns 0)).kind=2
  · simp [h2]
  · rw [if_neg h2,if_neg h2,if_neg h2]
    simp only [Bool.and_eq_true,decide_eq_true_eq]
    exact ⟨hcs,inR_iff.2 k2⟩
def manyTo (f:Fs) (k:Nat):Nat:=(List.range k).countP (fun q:Nat=>decide (0<q) && (nA_ f (q:Int)).kind != 0)
theorem many_tree:(tI_ f).length+(if hiddenNode f<0 then 0 else 1)=manyTo f f.nodes.length:=by
  obtain ⟨hneg,hpos⟩:=hidden_follow C
  have hw:∀ x∈tI_ f,∃ ns:List Str,ns≠[]∧ns.all nameOk=true∧0≤follow f ns 0∧x=itemN f (pathOf ns) (follow f ns 0)∧walk f x.path=follow f ns 0:=fun x hx=>by
    obtain ⟨ns,a,b,c,rfl⟩:=(tree_iff C x).1 hx
    exact ⟨ns,a,b,c,rfl,walk_of (cert_fsOk C) (at_len C c) b⟩
  let L:=(tI_ f).map fun x=>(walk f x.path).toNat
  let M:=(List.range f.nodes.length).filter (fun q:Nat=>decide (0<q) && (nA_ f (q:Int)).kind != 0)
  have hM:M.length=manyTo f f.nodes.length:=(List.countP_eq_length_filter).symm
  have hL:L.length=(tI_ f).length:=by simp [L]
  have ndM:M.Nodup:=List.Pairwise.filter _ List.nodup_range
  have ndL:L.Nodup:=by
    refine List.pairwise_map.2 (List.Pairwise.imp_of_mem (fun {x y} hx hy hxy e=>hxy ?_) (tree_nodup f))
    obtain ⟨ns,a,b,c,e1,e2⟩:=hw x hx
    obtain ⟨ms,a',b',c',e1',e2'⟩:=hw y hy
    have:follow f ns 0=follow f ms 0:=by rw [← e2,← e2']; omega
    have hn:=at_uniq C _ ns ms rfl c this
    rw [e1,e1',hn]
  have mM:∀ q,q∈M↔q<f.nodes.length∧0<q∧(nA_ f (q:Int)).kind≠0:=fun q=>by
    simp [M,List.mem_filter]
  have mL:∀ q,q∈L↔q∈M∧(q:Int)≠hiddenNode f:=fun q=>by
    rw [mM]
    simp only [L,List.mem_map]
    constructor
    · rintro ⟨x,hx,rfl⟩
      obtain ⟨ns,a,b,c,e1,e2⟩:=hw x hx
      have hr:=at_range C ns c
      have hk:=at_kind C c
      rw [e2]
      have ht:(((follow f ns 0).toNat:Nat):Int)=follow f ns 0:=by omega
      have h0:follow f ns 0≠0:=fun e0=>a (at_uniq C _ ns [] rfl c (by rw [e0]; rfl))
      refine ⟨⟨by omega,by omega,by rw [ht]; exact hk⟩,fun e0=>?_⟩
      rw [ht] at e0
      have h3:=(hpos (by omega)).1
      exact not_hid b (at_uniq C _ ns [[126]] rfl c (by rw [e0,h3]))
    · rintro ⟨⟨h1,h2,h3⟩,h4⟩
      obtain ⟨ns,hn⟩:=at_all C (j:=(q:Int)) (by omega) (by omega) h3
      have hne:ns≠[]:=fun e=>by rw [e] at hn; have:(0:Int)=q:=hn; omega
      rcases at_names C _ ns rfl (by omega) with h5 | ⟨h5,-⟩
      · have hx:itemN f (pathOf ns) (follow f ns 0)∈tI_ f:=(tree_iff C _).2 ⟨ns,hne,h5,by omega,rfl⟩
        refine ⟨_,hx,?_⟩
        have hpth:(itemN f (pathOf ns) (follow f ns 0)).path=pathOf ns:=rfl
        rw [hpth,walk_of (cert_fsOk C) (at_len C (by omega)) h5,hn]
        omega
      · rw [h5] at hn
        have h6:0≤hiddenNode f:=by
          by_cases hc:hiddenNode f<0
          · have:=hneg.1 hc; omega
          · omega
        exact absurd ((hpos h6).1.symm.trans hn).symm h4
  by_cases hh:hiddenNode f<0
  · rw [if_pos hh,Nat.add_zero,← hL,← hM]
    refine (perm_of_iff ndL ndM fun q=>?_).length_eq
    rw [mL]
    exact ⟨fun h=>h.1,fun h=>⟨h,by omega⟩⟩
  · rw [if_neg hh,← hL,← hM]
    obtain ⟨h3,e,hE,-,h5,h6⟩:=hpos (by omega)
    obtain ⟨i,hi⟩:=Int.eq_ofNat_of_zero_le (show 0≤hiddenNode f by omega)
    have hlo:=lost_lt (C.lo _ _ hE)
    have hno:=mem_node hE.2.2.2
    have:M.Perm (i :: L):=by
      refine perm_of_iff ndM (List.nodup_cons.2 ⟨fun hm=>((mL i).1 hm).2 hi.symm,ndL⟩) fun q=>?_
      rw [List.mem_cons,mL]
      constructor
      · intro h
        by_cases hq:q=i
        · exact .inl hq
        · exact .inr ⟨h,fun e0=>hq (by omega)⟩
      · rintro (rfl | h)
        · rw [mM]
          rw [h5,hi] at hlo hno
          exact ⟨by have:=hlo.1; omega,by omega,hlo.2⟩
        · exact h.1
    have:=this.length_eq
    rw [List.length_cons] at this
    omega
theorem tree_small:(tI_ f).length≤10:=by
  have h:=many_tree C
  have h1:manyTo f f.nodes.length≤f.nodes.length:=by
    unfold manyTo
    exact Nat.le_trans List.countP_le_length (by simp)
  have h2:=(inR_iff.1 C.sh.nodes).2
  omega
end
end Go.Proofs.YtmpgpkdijfcfhaaGreatDoor.Hz
