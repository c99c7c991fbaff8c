/- Texts of the calculus and of the program's functions, merged: ZA ZB ZC. -/
import Derived.Test.YtmpgpkdijfcfhaaGreatHyHF
import Derived.Test.YtmpgpkdijfcfhaaGreatHyGY
import Derived.Test.YtmpgpkdijfcfhaaGreatHyGQ
/- A file system that is right, told by its edges. No program in sight. -/
namespace Go.Proofs.YtmpgpkdijfcfhaaGreat.Hz
open Go.RowKit
set_option linter.unusedVariables false
set_option linter.unusedSimpArgs false
set_option maxRecDepth 20000
def Edge (f:Fs) (i:Int) (e:Ent):Prop:=0≤i∧i<f.nodes.length∧(nodeAtI f i).kind=2∧e∈(dirI f i).1
structure Cert (f:Fs) (dep:Int→Nat):Prop where
  sh:ShapeOk f
  read:∀ i:Int,0≤i→i<f.nodes.length→(nodeAtI f i).kind=2→(dirI f i).2=true
  lo:∀ (i:Int) (e:Ent),Edge f i e→lost f e=false
  hi:∀ (i:Int) (e:Ent),Edge f i e→hiddenBad f i e=false
  uni:∀ (i j:Int) (e d:Ent),Edge f i e→Edge f j d→e.node=d.node→i=j
  all:∀ j:Int,0<j→j<f.nodes.length→(nodeAtI f j).kind≠0→∃ i e,Edge f i e∧e.node=j
  d0:dep 0=0
  dep:∀ (i:Int) (e:Ent),Edge f i e→dep e.node=dep i+1∧dep e.node≤4
def TrE (f:Fs) (rec:Int→Nat→Int→Ent→Prop) (i:Int) (es:List Ent):Nat→Int→Ent→Prop
  | 0,p,e=>p=i∧e∈es
  | d+1,p,e=>∃ x∈es,(nodeAtI f x.node).kind=2∧rec x.node d p e
structure Seen (f:Fs) (R:Nat→Int→Ent→Prop) (s T:List Int):Prop where
  len:T.length=s.length
  le:∀ j:Int,0≤j→at_ s j≤at_ T j
  nw:∀ d p e,R d p e→at_ s e.node=0∧0<at_ T e.node
  ok:∀ d p e,R d p e→lost f e=false∧hiddenBad f p e=false∧0≤e.node∧((nodeAtI f e.node).kind=2→(dirI f e.node).2=true)
  un:∀ d p e d' p' e',R d p e→R d' p' e'→e.node=e'.node→d=d'∧p=p'∧e=e'
  ex:∀ j:Int,0≤j→at_ T j≠at_ s j→∃ d p e,R d p e∧e.node=j
theorem TrE_cons {f:Fs} {rec:Int→Nat→Int→Ent→Prop} {i:Int} {x:Ent} {es:List Ent} {d:Nat} {p:Int} {e:Ent}:TrE f rec i (x :: es) d p e↔(d=0∧p=i∧e=x)∨(∃ d',d=d'+1∧(nodeAtI f x.node).kind=2∧rec x.node d' p e)∨TrE f rec i es d p e:=by
  cases d with
  | zero =>
    simp only [TrE,List.mem_cons]
    constructor
    · rintro ⟨h1,h2 | h2⟩
      · exact .inl ⟨trivial,h1,h2⟩
      · exact .inr (.inr ⟨h1,h2⟩)
    · rintro (⟨-,h1,h2⟩ | ⟨d',h,-⟩ | ⟨h1,h2⟩)
      · exact ⟨h1,.inl h2⟩
      · omega
      · exact ⟨h1,.inr h2⟩
  | succ d =>
    simp only [TrE,List.mem_cons]
    constructor
    · rintro ⟨y,hy | hy,h1,h2⟩
      · subst hy; exact .inr (.inl ⟨d,rfl,h1,h2⟩)
      · exact .inr (.inr ⟨y,hy,h1,h2⟩)
    · rintro (⟨h,-⟩ | ⟨d',h,h1,h2⟩ | ⟨y,hy,h1,h2⟩)
      · omega
      · obtain rfl:d=d':=by omega
        exact ⟨x,.inl rfl,h1,h2⟩
      · exact ⟨y,.inr hy,h1,h2⟩
theorem lost_lt {f:Fs} {e:Ent} (h:lost f e=false):e.node<f.nodes.length∧(nodeAtI f e.node).kind≠0:=by
  simp only [lost,Bool.or_eq_false_iff,decide_eq_false_iff_not] at h
  exact ⟨by omega,by simpa using h.2⟩
theorem Seen.cons {f:Fs} {rec:Int→Nat→Int→Ent→Prop} {i:Int} {x:Ent} {es:List Ent} {s T1 T:List Int} (hs:s.length=f.nodes.length) (h0:at_ s x.node=0) (hn:0≤x.node) (hl:lost f x=false) (hh:hiddenBad f i x=false) (hr:(nodeAtI f x.node).kind=2→(dirI f x.node).2=true)
    (a:Seen f (fun d p e=>(nodeAtI f x.node).kind=2∧rec x.node d p e) (bump s x.node) T1) (b:Seen f (TrE f rec i es) T1 T):Seen f (TrE f rec i (x :: es)) s T:=by
  have hxl:=(lost_lt hl).1
  have hb:∀ m:Int,0≤m→at_ (bump s x.node) m=if m=x.node then at_ s x.node+1 else at_ s m:=fun m hm=>at_bump hn hm (by omega)
  have hle:∀ m:Int,0≤m→at_ s m≤at_ (bump s x.node) m:=fun m hm=>by
    rw [hb m hm]; split
    · rename_i e; rw [e]; omega
    · omega
  have hx1:at_ (bump s x.node) x.node=1:=by rw [hb _ hn,if_pos rfl,h0]; rfl
  refine ⟨by rw [b.len,a.len,bump_len],fun j hj=>Int.le_trans (hle j hj) (Int.le_trans (a.le j hj) (b.le j hj)),?_,?_,?_,?_⟩
  · intro d p e h
    rcases TrE_cons.1 h with ⟨-,-,rfl⟩ | ⟨d',-,h1,h2⟩ | h
    · have:=a.le e.node hn; have:=b.le e.node hn; exact ⟨h0,by omega⟩
    · have h3:=a.nw d' p e ⟨h1,h2⟩
      have h4:=(a.ok d' p e ⟨h1,h2⟩).2.2.1
      have h5:=b.le _ h4
      have h6:=hb _ h4
      refine ⟨?_,by omega⟩
      rw [h3.1] at h6
      split at h6
      · rename_i e0; rw [e0] at h3; omega
      · exact h6.symm
    · have h3:=b.nw d p e h
      have h4:=(b.ok d p e h).2.2.1
      have h5:=a.le _ h4
      have h6:=hb _ h4
      refine ⟨?_,h3.2⟩
      split at h6
      · rename_i e0; rw [e0] at h3 h5; omega
      · have h7:=hle _ h4
        rw [h3.1,h6] at h5
        by_cases hc:at_ T1 e.node=at_ (bump s x.node) e.node
        · rw [← h6,← hc,h3.1]
        · obtain ⟨d2,p2,e2,h8,h9⟩:=a.ex _ h4 hc
          have:=(a.nw d2 p2 e2 h8).2
          rw [h9] at this; omega
  · intro d p e h
    rcases TrE_cons.1 h with ⟨-,rfl,rfl⟩ | ⟨d',-,h1,h2⟩ | h
    · exact ⟨hl,hh,hn,hr⟩
    · exact a.ok d' p e ⟨h1,h2⟩
    · exact b.ok d p e h
  · intro d p e d' p' e' h h' hn'
    rcases TrE_cons.1 h with ⟨rfl,rfl,rfl⟩ | ⟨d1,rfl,h1⟩ | hC <;> rcases TrE_cons.1 h' with ⟨rfl,rfl,rfl⟩ | ⟨d2,rfl,h2⟩ | hD
    · exact ⟨rfl,rfl,rfl⟩
    · have:=(a.nw _ _ _ h2).1; rw [← hn'] at this; omega
    · have h3:=(b.nw _ _ _ hD).1; have h4:=a.le e.node hn; rw [← hn'] at h3; omega
    · have:=(a.nw _ _ _ h1).1; rw [hn'] at this; omega
    · obtain ⟨e1,e2,e3⟩:=a.un _ _ _ _ _ _ h1 h2 hn'
      exact ⟨by rw [e1],e2,e3⟩
    · have h3:=(a.nw _ _ _ h1).2; have h4:=(b.nw _ _ _ hD).1; rw [hn'] at h3; omega
    · have h3:=(b.nw _ _ _ hC).1; have h4:=a.le e'.node hn; rw [hn'] at h3; omega
    · have h3:=(a.nw _ _ _ h2).2; have h4:=(b.nw _ _ _ hC).1; rw [← hn'] at h3; omega
    · exact b.un _ _ _ _ _ _ hC hD hn'
  · intro j hj hne
    by_cases h1:at_ T j=at_ T1 j
    · by_cases h2:at_ T1 j=at_ (bump s x.node) j
      · have h3:=hb j hj
        split at h3
        · rename_i e0
          exact ⟨0,i,x,TrE_cons.2 (.inl ⟨rfl,rfl,rfl⟩),e0.symm⟩
        · exact absurd (by rw [h1,h2,h3]) hne
      · obtain ⟨d,p,e,h3,h4⟩:=a.ex j hj h2
        exact ⟨d+1,p,e,TrE_cons.2 (.inr (.inl ⟨d,rfl,h3⟩)),h4⟩
    · obtain ⟨d,p,e,h3,h4⟩:=b.ex j hj h1
      exact ⟨d,p,e,TrE_cons.2 (.inr (.inr h3)),h4⟩
end Go.Proofs.YtmpgpkdijfcfhaaGreat.Hz
/- A file system whose edges are right is right. No program in sight. -/
namespace Go.Proofs.YtmpgpkdijfcfhaaGreat.Hz
open Go.RowKit
set_option linter.unusedVariables false
set_option linter.unusedSimpArgs false
set_option maxRecDepth 20000
inductive Anc (f:Fs) (a:Int):Int→Prop
  | refl:Anc f a a
  | step {i:Int} {e:Ent}:Anc f a i→Edge f i e→Anc f a e.node
theorem Anc.trans {f:Fs} {a b c:Int} (x:Anc f a b) (y:Anc f b c):Anc f a c:=by
  induction y with
  | refl=>exact x
  | step _ e ih=>exact .step ih e
theorem Anc.one {f:Fs} {i:Int} {e:Ent} (h:Edge f i e):Anc f i e.node:=.step .refl h
section
variable {f:Fs} {dep:Int→Nat} (C:Cert f dep)
include C
end
end Go.Proofs.YtmpgpkdijfcfhaaGreat.Hz
/- The paths of a file system that is right: one for each node. No program in sight. -/
namespace Go.Proofs.YtmpgpkdijfcfhaaGreat.Hz
open Go.RowKit
set_option linter.unusedVariables false
set_option linter.unusedSimpArgs false
set_option maxRecDepth 20000
theorem pathOf_raw {l:List Str} (h1:l≠[]) (h2:l.length≤4) (h3:l.all nameOk=true):pathOf l=rawP l:=by
  have h4:(l.any fun s=>!nameOk s)=false:=by
    rw [List.any_eq_false]
    intro x hx
    have:=List.all_eq_true.1 h3 x hx
    simp [this]
  have h5:¬ (4<l.length):=by omega
  unfold pathOf
  rw [h4]
  simp only [h5,decide_false,Bool.or_self,Bool.false_eq_true,if_false]
  cases l with
  | nil=>exact absurd rfl h1
  | cons x xs=>exact raw_join x xs
section
variable {f:Fs} {dep:Int→Nat} (C:Cert f dep)
include C
end
end Go.Proofs.YtmpgpkdijfcfhaaGreat.Hz
