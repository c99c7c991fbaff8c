/- Room and winners of a pool. No program in sight. -/
import Derived.Test.YtmpgpkdijfcfhaaGreatHyHF
import Derived.Test.YtmpgpkdijfcfhaaGreatHyHB
import Derived.Test.YtmpgpkdijfcfhaaGreatHyGE
import Derived.Test.YtmpgpkdijfcfhaaGreatHyHG
namespace Go.Proofs.YtmpgpkdijfcfhaaGreat.Hz
open Go.RowKit
set_option linter.unusedVariables false
set_option linter.unusedSimpArgs false
set_option maxRecDepth 20000
theorem win_some {bs:List Branch} {p:Str} (h:holdTo bs p bs.length≠[]):∃ j:Nat,win bs p=j∧Wins (genI bs p) (holdTo bs p bs.length) j:=by
  have hs:=holdTo_sorted bs p bs.length
  unfold win
  cases hl:holdTo bs p bs.length with
  | nil=>exact absurd hl h
  | cons k ks =>
    rw [hl] at hs
    have h1:pickW bs p (k :: ks) (-1)=pickW bs p ks (k:Int):=by
      show pickW bs p ks (if (-1:Int)<0∨_ then (k:Int) else -1)=_
      rw [if_pos (.inl (by decide))]
    rw [h1]
    have hw:Wins (genI bs p) [k] k:=⟨by simp,fun m hm=>by simp at hm; subst hm; exact ⟨fun h=>absurd h (Nat.lt_irrefl _),fun h=>absurd h (Nat.lt_irrefl _)⟩⟩
    exact pickW_wins bs p ks [k] k hs hw
theorem win_none {bs:List Branch} {p:Str} (h:holdTo bs p bs.length=[]):win bs p=-1:=by
  unfold win
  rw [h]
  rfl
theorem genI_pos {bs:List Branch} {p:Str} {k:Nat} (h:k∈holdTo bs p bs.length):0≤genI bs p k:=by
  obtain ⟨h1,h2⟩:=holdTo_iff.1 h
  rw [walkI_get h1] at h2
  rw [genI_get h1]
  exact genAt_pos h2
def timesI (x:Int):List Int→Int
  | []=>0
  | y :: ys=>(if y=x then 1 else 0)+timesI x ys
theorem timesI_no (x:Int):∀ ys:List Int,x ∉ ys→timesI x ys=0
  | [],_=>rfl
  | y :: ys,h=>by
    have h1:¬ y=x:=fun e=>h (by rw [e]; simp)
    have h2:=timesI_no x ys fun hm=>h (by simp [hm])
    show (if y=x then (1:Int) else 0)+timesI x ys=0
    rw [if_neg h1,h2]; rfl
theorem timesI_one (x:Int):∀ ys:List Int,ys.Nodup→x∈ys→timesI x ys=1
  | [],_,h=>by cases h
  | y :: ys,nd,h=>by
    rw [List.nodup_cons] at nd
    show (if y=x then (1:Int) else 0)+timesI x ys=1
    by_cases hy:y=x
    · rw [if_pos hy,timesI_no x ys (by rw [← hy]; exact nd.1)]; rfl
    · rw [if_neg hy,timesI_one x ys nd.2 (by
        rcases List.mem_cons.1 h with h | h
        · exact absurd h.symm hy
        · exact h)]; rfl
theorem winner_law (x:Pool) (p:Str):(winner x p<0↔holders x p=[]) ∧
    (∀ k∈holders x p,0≤k∧k<x.branches.length∧0≤winner x p∧winner x p<x.branches.length∧0≤genI x.branches p k.toNat∧genI x.branches p k.toNat≤genI x.branches p (winner x p).toNat∧(genI x.branches p k.toNat=genI x.branches p (winner x p).toNat→winner x p≤k)) ∧
    (0≤winner x p→timesI (winner x p) (holders x p)=1):=by
  unfold winner holders
  cases ok:poolOk x
  · simp
  · simp only [if_true]
    have hwin:pickW x.branches p (holdTo x.branches p x.branches.length) (-1)=win x.branches p:=rfl
    rw [hwin]
    by_cases hh:holdTo x.branches p x.branches.length=[]
    · rw [win_none hh,hh]
      refine ⟨by simp [asInts],fun k hk=>by simp [asInts] at hk,fun h=>absurd h (by decide)⟩
    · obtain ⟨j,hj,hW⟩:=win_some hh
      rw [hj]
      have hjl:=(holdTo_iff.1 hW.1).1
      refine ⟨⟨fun h=>by omega,fun h=>?_⟩,fun k hk=>?_,fun _=>?_⟩
      · unfold asInts at h
        exact absurd (List.map_eq_nil_iff.1 h) hh
      · unfold asInts at hk
        obtain ⟨m,hm,rfl⟩:=List.mem_map.1 hk
        have hml:=(holdTo_iff.1 hm).1
        have e1:((m:Nat):Int).toNat=m:=by omega
        have e2:((j:Nat):Int).toNat=j:=by omega
        rw [e1,e2]
        refine ⟨by omega,by omega,by omega,by omega,genI_pos hm,hW.le hm,fun e=>?_⟩
        by_cases hlt:m<j
        · have:=(hW.2 m hm).1 hlt; omega
        · omega
      · refine timesI_one _ _ ?_ (List.mem_map.2 ⟨j,hW.1,rfl⟩)
        exact List.pairwise_map.2 ((holdTo_sorted x.branches p x.branches.length).imp fun {a b} h e=>by omega)
end Go.Proofs.YtmpgpkdijfcfhaaGreat.Hz
