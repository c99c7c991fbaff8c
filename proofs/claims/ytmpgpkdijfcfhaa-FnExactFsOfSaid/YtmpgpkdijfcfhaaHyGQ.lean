/- Texts of the calculus and of the program's functions, merged: PW. -/
import Derived.Test.YtmpgpkdijfcfhaaHyGM
import Derived.Test.YtmpgpkdijfcfhaaHyGI
/- What is left when a node is made or written is well formed, and what was written is read back. No program in sight. -/
namespace Go.Proofs.Ytmpgpkdijfcfhaa.Hz
open Go.RowKit
set_option linter.unusedVariables false
set_option linter.unusedSimpArgs false
set_option maxRecDepth 20000
theorem blkOk_iff:∀ (bs seen:List Int),blkOk seen bs=true↔(∀ b∈bs,0≤b∧b≤35)∧bs.Nodup∧∀ b∈bs,b ∉ seen
  | [],seen=>by simp [blkOk]
  | b :: bs,seen=>by
    simp only [blkOk,Bool.and_eq_true,blkOk_iff bs,inR_iff,Bool.not_eq_true',List.nodup_cons,List.mem_cons]
    constructor
    · rintro ⟨⟨h1,h2⟩,h3,h4,h5⟩
      have h2':b ∉ seen:=by simpa using h2
      refine ⟨?_,⟨fun hm=>h5 b hm (by simp),h4⟩,?_⟩
      · rintro c (rfl | hc)
        · exact h1
        · exact h3 c hc
      · rintro c (rfl | hc)
        · exact h2'
        · exact fun hs=>h5 c hc (by simp [hs])
    · rintro ⟨h1,⟨h2,h3⟩,h4⟩
      refine ⟨⟨h1 b (.inl rfl),by simpa using h4 b (.inl rfl)⟩,fun c hc=>h1 c (.inr hc),h3,fun c hc hs=>?_⟩
      rcases List.mem_append.1 hs with hs | hs
      · exact h4 c (.inr hc) hs
      · simp at hs
        subst hs
        exact h2 hc
theorem nodeOk_iff {n:Node}:nodeOk n=true↔(n.kind=0∧n.gen=0∧n.time=0∧n.size=0∧n.blocks=[])∨(n.kind≠0∧(1≤n.kind∧n.kind≤3)∧(0≤n.gen∧n.gen≤1000000)∧(0≤n.time∧n.time≤100000)∧(0≤n.size∧n.size≤80)∧(n.kind=2→n.gen=0∧n.time=0)∧(n.blocks.length:Int)=blocksFor n.size∧(∀ b∈n.blocks,0≤b∧b≤35)∧n.blocks.Nodup):=by
  unfold nodeOk
  by_cases h:n.kind=0
  · rw [if_pos (by simpa using h)]
    simp only [Bool.and_eq_true,beq_iff_eq]
    constructor
    · rintro ⟨⟨⟨h1,h2⟩,h3⟩,h4⟩
      exact .inl ⟨h,h1,h2,h3,List.eq_nil_of_length_eq_zero (by omega)⟩
    · rintro (⟨_,h1,h2,h3,h4⟩ | ⟨h1,_⟩)
      · exact ⟨⟨⟨h1,h2⟩,h3⟩,by simp [h4]⟩
      · exact absurd h h1
  · rw [if_neg (by simpa using h)]
    simp only [Bool.and_eq_true,inR_iff,Bool.not_eq_true',badDir,badLen,blkOk_iff,bne_eq_false_iff_eq,Bool.and_eq_false_iff,Bool.or_eq_false_iff,beq_eq_false_iff_ne]
    constructor
    · rintro ⟨⟨⟨⟨⟨⟨h1,h2⟩,h3⟩,h4⟩,h5⟩,h6⟩,h7,h8,_⟩
      exact .inr ⟨h,h1,h2,h3,h4,fun hk=>h5.resolve_left fun hn=>hn hk,h6,h7,h8⟩
    · rintro (⟨h0,_⟩ | ⟨_,h1,h2,h3,h4,h5,h6,h7,h8⟩)
      · exact absurd h0 h
      · refine ⟨⟨⟨⟨⟨⟨h1,h2⟩,h3⟩,h4⟩,?_⟩,h6⟩,h7,h8,by simp⟩
        by_cases hk:n.kind=2
        · exact .inr (h5 hk)
        · exact .inl hk
structure Wrote (f:Fs) (i:Nat) (data:Str):Prop where
  hi:i<f.nodes.length
  kind:f.nodes[i].kind≠0
  le:data.length≤80
  len:(writeBlocks f (i:Int) data).length=needOf data
  nodup:(writeBlocks f (i:Int) data).Nodup
  mem:∀ b∈writeBlocks f (i:Int) data,b∈f.nodes[i].blocks∨b ∉ held f.nodes
  range:∀ b∈writeBlocks f (i:Int) data,0≤b∧b<f.data.length
  pre:∀ b∈f.nodes[i].blocks,b∈writeBlocks f (i:Int) data∨b∈f.nodes[i].blocks.drop (needOf data)
section
variable {f:Fs} {i:Nat} {data:Str} (W:Wrote f i data)
include W
end
end Go.Proofs.Ytmpgpkdijfcfhaa.Hz
