/- What is hidden, and shown away again. No program in sight. -/
import Derived.Test.YtmpgpkdijfcfhaaGreatHyZF
import Derived.Test.YtmpgpkdijfcfhaaGreatHyGS
import Derived.Test.YtmpgpkdijfcfhaaGreatHyEP
namespace Go.Proofs.YtmpgpkdijfcfhaaGreat.Hz
open Go.RowKit
set_option linter.unusedVariables false
set_option linter.unusedSimpArgs false
set_option maxRecDepth 20000
theorem wr_bl {f:Fs} {i:Nat} {data:Str} (W:Wrote f i data):((nodeAtI (written f (i:Int) data) (i:Int)).blocks.length:Int)=blocksFor data.length:=by
  have hi:=W.hi
  have e:(nodeAtI (written f (i:Int) data) (i:Int)).blocks=writeBlocks f (i:Int) data:=by simp [written,nodeAtI,hi]
  rw [e,W.len,(needOf_le data W.le).2.1]
theorem wr_free {f:Fs} (s:ShapeOk f) {i:Nat} {data:Str} (W:Wrote f i data):freeOf (written f (i:Int) data)+blocksFor data.length=freeOf f+((nodeAtI f (i:Int)).blocks.length:Int):=by
  rw [W.node]
  exact written_free s W
theorem make_free {f:Fs} (s:ShapeOk f) {m:Nat} (hm:m<f.nodes.length) (hn:f.nodes[m]=⟨0,0,0,0,[]⟩) {kind:Int} (hk:1≤kind∧kind≤3):freeOf ⟨f.nodes.set m ⟨kind,0,0,0,[]⟩,f.data⟩=freeOf f:=by
  have hs:=made_shape s hm hn hk
  have hh:=held_len_set hm ⟨kind,0,0,0,[]⟩
  rw [hn] at hh
  simp only [List.length_nil,Nat.add_zero] at hh
  unfold freeOf
  rw [if_pos (shapeOk_t hs),if_pos (shapeOk_t s)]
  simp only
  omega
theorem blocks_le {n b:Nat} (h:n≤16 * b) (hb:b≤5):blocksFor (n:Int)≤(b:Int):=by
  unfold blocksFor
  split
  · omega
  · split <;> omega
theorem bl_content {f:Fs} (s:ShapeOk f) {i:Nat} (hi:i<f.nodes.length) {n:Nat} (hn:n≤(contentI f (i:Int)).length):blocksFor (n:Int)≤((nodeAtI f (i:Int)).blocks.length:Int):=by
  have h1:=contentOf_le s (nodeAtI f (i:Int)).blocks
  have h2:(nodeAtI f (i:Int)).blocks.length≤5:=by
    rw [nodeAtI_get hi]
    exact blocks_small (s.ok _ (List.getElem_mem hi))
  refine blocks_le ?_ h2
  have:contentI f (i:Int)=contentOf f (nodeAtI f (i:Int)).blocks:=rfl
  rw [this] at hn
  omega
theorem growS_free {f:Fs} (s:ShapeOk f) {d:Nat} (hd:d<f.nodes.length) (hk:(nodeAtI f (d:Int)).kind≠0) {nm:Str} {kind:Int} {m:Nat} (h:(growS f (d:Int) nm kind).2.2=true) (hm:(growS f (d:Int) nm kind).2.1=m) :
    (nodeAtI (growS f (d:Int) nm kind).1 (m:Int)).blocks=[]∧((nodeAtI (growS f (d:Int) nm kind).1 (d:Int)).blocks.length:Int)=blocksFor ((dirText (insE (dirI f (d:Int)).1 nm (m:Int))).length:Int) ∧
      freeOf (growS f (d:Int) nm kind).1+blocksFor ((dirText (insE (dirI f (d:Int)).1 nm (m:Int))).length:Int)=freeOf f+((nodeAtI f (d:Int)).blocks.length:Int) ∧
      ∀ q:Nat,q≠d→q≠m→nodeAtI (growS f (d:Int) nm kind).1 (q:Int)=nodeAtI f (q:Int):=by
  unfold growS at h hm ⊢
  split at h
  · rename_i hmk
    rw [if_pos hmk] at hm ⊢
    rcases nodeMake_cases f kind s with e | ⟨m',hm',hkd,hn,e⟩
    · rw [e] at hmk; cases hmk
    · rw [e] at h hm ⊢
      simp only at h hm ⊢
      obtain rfl:m'=m:=by omega
      have hne:d≠m':=by
        rintro rfl
        rw [nodeAtI_get hd,hn] at hk
        exact hk rfl
      have u1:=upd_make s hm' hn hkd
      have ms:=u1.sh
      have hv:=u1.eq (d:Int) (by omega)
      rw [if_neg (by omega)] at hv
      have hdir:=dirI_view hv
      rcases linkS_cases _ ms (d:Int) nm (m':Int) with ⟨e2,_⟩ | ⟨d',hd',_,ok,W,e2⟩
      · rw [e2] at h; cases h
      · obtain rfl:d=d':=by omega
        rw [hdir] at ok W e2
        rw [e2]
        simp only
        have f1:=make_free s hm' hn hkd
        have f2:=wr_free ms W
        have nd:nodeAtI ⟨f.nodes.set m' ⟨kind,0,0,0,[]⟩,f.data⟩ (d:Int)=nodeAtI f (d:Int):=by
          have hne':m'≠d:=fun e=>hne e.symm
          unfold nodeAtI
          simp [List.getElem?_set,hne']
        refine ⟨?_,wr_bl W,?_,fun q h1 h2=>?_⟩
        · rw [(written_other ms W hne).1]
          simp [nodeAtI,hm']
        · rw [f2,f1,nd]
        · rw [(written_other ms W (fun e=>h1 e.symm)).1]
          have hne':m'≠q:=fun e=>h2 e.symm
          unfold nodeAtI
          simp [List.getElem?_set,hne']
  · cases h
end Go.Proofs.YtmpgpkdijfcfhaaGreat.Hz
