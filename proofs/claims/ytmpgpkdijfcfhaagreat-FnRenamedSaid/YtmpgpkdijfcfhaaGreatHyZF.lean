/- A leaf dropped, and a node set: what the trees are afterwards. No program in sight. -/
import Derived.Test.YtmpgpkdijfcfhaaGreatHyHC
import Derived.Test.YtmpgpkdijfcfhaaGreatHyGY
import Derived.Test.YtmpgpkdijfcfhaaGreatHyGO
import Derived.Test.YtmpgpkdijfcfhaaGreatHyGN
namespace Go.Proofs.YtmpgpkdijfcfhaaGreat.Hz
open Go.RowKit
set_option linter.unusedVariables false
set_option linter.unusedSimpArgs false
set_option maxRecDepth 20000
theorem dirDrop_iff {es:List Ent} (hn:es.Pairwise fun a b=>a.name≠b.name) (nm:Str) (e:Ent):e∈(dirDrop es nm).1↔e∈es∧e.name≠nm:=by
  rcases findI_spec (fun e=>e.name == nm) es 0 with ⟨h1,h2⟩ | ⟨j,hj,h1,h2,-⟩
  · have hd:(dirDrop es nm).1=es:=by simp [dirDrop,h1,dropAt]
    rw [hd]
    exact ⟨fun h=>⟨h,by simpa using h2 e h⟩,fun h=>h.1⟩
  · have hz:0+j=j:=by omega
    rw [hz] at h1
    have hd:(dirDrop es nm).1=es.take j++es.drop (j+1):=by
      have:¬ ((j:Int)<0):=by omega
      simp [dirDrop,h1,dropAt,this]
    have hs:es=es.take j++es[j] :: es.drop (j+1):=by
      rw [← List.drop_eq_getElem_cons hj,List.take_append_drop]
    have hjn:es[j].name=nm:=by simpa using h2
    have hp:=hn
    rw [hs,List.pairwise_append,List.pairwise_cons] at hp
    obtain ⟨-,⟨p2,-⟩,p3⟩:=hp
    have hm:e∈es↔e∈es.take j∨e=es[j]∨e∈es.drop (j+1):=by
      have:e∈es↔e∈es.take j++es[j] :: es.drop (j+1):=by rw [← hs]
      rw [this,List.mem_append,List.mem_cons]
    rw [hd,List.mem_append,hm]
    constructor
    · rintro (h | h)
      · exact ⟨.inl h,fun e0=>p3 e h es[j] (List.mem_cons_self) (by rw [e0,hjn])⟩
      · exact ⟨.inr (.inr h),fun e0=>p2 e h (by rw [e0,hjn])⟩
    · rintro ⟨h | rfl | h,h4⟩
      · exact .inl h
      · exact absurd hjn h4
      · exact .inr h
theorem path_edge {f:Fs} {dep:Int→Nat} (C:Cert f dep) {p:Str} (hp:pathOk p=true) (hr:p≠[47]) (hw:0≤walk f p) :
    ∃ (d i:Nat) (e:Ent),walk f (above p)=d∧walk f p=i∧Edge f (d:Int) e∧e.name=last p∧e.node=(i:Int)∧follow f (names p) 0=i∧follow f ((names p).take ((names p).length - 1)) 0=d:=by
  have ok:=cert_fsOk C
  have hw2:walk f p=follow f (names p) 0:=by simp [walk,ok,hp]
  have hab:=above_ok hp
  have hwa:walk f (above p)=follow f ((names p).take ((names p).length - 1)) 0:=by simp [walk,ok,hab.1,hab.2]
  have hpos:=names_pos hp hr
  rw [hw2] at hw
  have hsp:names p=(names p).take ((names p).length - 1)++[last p]:=by
    rw [last_at p hpos]
    have h1:(names p).length - 1<(names p).length:=by omega
    have h2:=List.take_succ_eq_append_getElem h1
    rw [← h2,List.take_of_length_le (by omega)]
  have hw3:=hw
  rw [hsp] at hw3
  obtain ⟨e,h1,h2,h3,h4⟩:=at_snoc C hw3
  rw [← hsp] at h4
  obtain ⟨i,hi⟩:=Int.eq_ofNat_of_zero_le hw
  obtain ⟨d,hd⟩:=Int.eq_ofNat_of_zero_le h1
  rw [hd] at h2
  exact ⟨d,i,e,by rw [hwa,hd],by rw [hw2,hi],h2,h3,by rw [← h4,hi],hi,hd⟩
theorem tree_nodup (f:Fs):(treeItems f).Nodup:=(tree_distinct f).imp fun h e=>h (by rw [e])
theorem perm_of_iff {α:Type} {a b:List α} (h1:a.Nodup) (h2:b.Nodup) (h:∀ x,x∈a↔x∈b):a.Perm b:=(List.perm_ext_iff_of_nodup h1 h2).2 h
end Go.Proofs.YtmpgpkdijfcfhaaGreat.Hz
