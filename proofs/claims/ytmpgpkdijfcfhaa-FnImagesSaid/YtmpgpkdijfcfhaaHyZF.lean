/- A leaf dropped, and a node set: what the trees are afterwards. No program in sight. -/
import Derived.Test.YtmpgpkdijfcfhaaHyHC
import Derived.Test.YtmpgpkdijfcfhaaHyGY
import Derived.Test.YtmpgpkdijfcfhaaHyGO
import Derived.Test.YtmpgpkdijfcfhaaHyGN
namespace Go.Proofs.Ytmpgpkdijfcfhaa.Hz
open Go.RowKit
set_option linter.unusedVariables false
set_option linter.unusedSimpArgs false
set_option maxRecDepth 20000
theorem fsSet_ok {f:Fs} {p data:Str} {t g:Int} (h:(fsSet f p data t g).2=0):fsOk f=true∧(0≤t∧t≤100000)∧(0≤g∧g≤1000000)∧pathOk p=true∧0≤walk f p∧(nA_ f (walk f p)).kind≠2∧(nW_ f (walk f p) data).2=true∧(fsSet f p data t g).1=stamped (nW_ f (walk f p) data).1 (walk f p).toNat t g:=by
  unfold fsSet at h ⊢
  split at h
  · cases h
  rename_i c1
  rw [if_neg c1]
  simp only [Bool.and_eq_false_iff,not_or,Bool.not_eq_false] at c1
  split at h
  · cases h
  rename_i c2
  rw [if_neg c2]
  split at h
  · cases h
  rename_i c3
  rw [if_neg c3]
  split at h
  · cases h
  rename_i c4
  rw [if_neg c4]
  split at h
  · cases h
  rename_i c5
  rw [if_neg c5]
  split at h
  · rename_i c6
    rw [if_pos c6]
    exact ⟨c1.1.1,inR_iff.1 c1.1.2,inR_iff.1 c1.2,by simpa using c2,by omega,c4,c6,rfl⟩
  · cases h
theorem fsSet_no {f:Fs} {p data:Str} {t g:Int} (h:(fsSet f p data t g).2≠0):(fsSet f p data t g).1=f:=by
  unfold fsSet at h ⊢
  repeat' split
  all_goals first | rfl | skip
  rename_i c1 c2 c3 c4 c5 c6
  rw [if_neg c1,if_neg c2,if_neg c3,if_neg c4,if_neg c5,if_pos c6] at h
  exact absurd rfl h
theorem fsSet_cert {f:Fs} {p data:Str} {t g:Int} (h:(fsSet f p data t g).2=0):∃ dep,Cert f dep∧Cert (fsSet f p data t g).1 dep∧(∀ ns,follow (fsSet f p data t g).1 ns 0=follow f ns 0)∧pathOk p=true∧p≠[47]∧0≤walk f p∧(nA_ f (walk f p)).kind≠2 ∧
    (∀ j:Int,0≤j→view (fsSet f p data t g).1 j=if j=walk f p then ⟨(nA_ f (walk f p)).kind,g,t,data⟩ else view f j):=by
  obtain ⟨ok,ht,hg,hp,hw,hk,hwr,hres⟩:=fsSet_ok h
  obtain ⟨dep,C⟩:=fsOk_cert ok
  rw [hres]
  have hr:p≠[47]:=by
    rintro rfl
    have:walk f [47]=0:=by
      have hp47:pathOk [47]=true:=by simp [pathOk]
      simp [walk,ok,hp47,names_root,follow]
    rw [this] at hk
    exact hk (root_kind ok)
  obtain ⟨i,hi⟩:=Int.eq_ofNat_of_zero_le hw
  rw [hi] at hk hwr ⊢
  have hw':walk f p=follow f (names p) 0:=by simp [walk,ok,hp]
  have hrange:=at_range C (names p) (by rw [← hw',hi]; omega)
  have hk0:=at_kind C (ns:=names p) (by rw [← hw',hi]; omega)
  rw [← hw',hi] at hrange hk0
  have hil:i<f.nodes.length:=by omega
  obtain ⟨W,e1,U⟩:=upd_write C.sh hwr
  have hx:=U.eq (i:Int) (by omega)
  rw [if_pos rfl] at hx
  simp only [view,Nd.mk.injEq] at hx
  have U2:=upd_stamp U.sh (t:=t) (g:=g) (by rw [U.len]; exact hil) (by rw [hx.1]; exact hk0) (fun h=>by rw [hx.1] at h; exact absurd h hk) ht hg
  have hview:∀ j:Int,0≤j→view (stamped (nW_ f (i:Int) data).1 i t g) j=if j=(i:Int) then ⟨(nA_ f (i:Int)).kind,g,t,data⟩ else view f j:=fun j hj=>by
    rw [U2.eq j hj]
    split
    · rw [hx.1,hx.2.2.2]
    · rename_i hji
      rw [U.eq j hj,if_neg hji]
  have hto:(((i:Nat):Int)).toNat=i:=by omega
  rw [hto]
  refine ⟨dep,C,?_⟩
  have hsame:=cert_same C U2.sh (by rw [U2.len,U.len]) (fun j hj=>by
    have h:=hview j hj
    split at h
    · rename_i hji
      subst hji
      simp only [view,Nd.mk.injEq] at h
      exact h.1
    · exact kind_view h) (fun j hj hk2=>by
    have h:=hview j hj
    rw [if_neg (fun e:j=(i:Int)=>hk (by rw [← e]; exact hk2))] at h
    exact dirI_view h)
  exact ⟨hsame.1,hsame.2,hp,hr,by omega,hk,hview⟩
end Go.Proofs.Ytmpgpkdijfcfhaa.Hz
