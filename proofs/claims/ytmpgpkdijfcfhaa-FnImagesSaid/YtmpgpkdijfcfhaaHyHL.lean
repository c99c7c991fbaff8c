/- Changes of an image keep its lengths and stay small. No program in sight. -/
import Derived.Test.YtmpgpkdijfcfhaaHyGT
import Derived.Test.YtmpgpkdijfcfhaaHyGS
import Derived.Test.YtmpgpkdijfcfhaaHyGO
namespace Go.Proofs.Ytmpgpkdijfcfhaa.Hz
open Go.RowKit
set_option linter.unusedVariables false
set_option linter.unusedSimpArgs false
def SL (f g:Fs):Prop:=g.nodes.length=f.nodes.length∧g.data.length=f.data.length
theorem SL.refl (f:Fs):SL f f:=⟨rfl,rfl⟩
theorem SL.trans {f g k:Fs} (a:SL f g) (b:SL g k):SL f k:=⟨b.1.trans a.1,b.2.trans a.2⟩
theorem nodeWrite_sl (f:Fs) (i:Int) (data:Str):SL f (nW_ f i data).1:=by
  unfold nW_
  split
  · exact ⟨by simp [written],by simp [written,putChunks_len,dropData_len]⟩
  · exact SL.refl f
theorem nodeMake_sl (f:Fs) (kind:Int):SL f (nodeMake f kind).1:=by
  unfold nodeMake
  split
  · exact ⟨by simp,rfl⟩
  · exact SL.refl f
theorem nodeDrop_sl (f:Fs) (i:Int):SL f (nodeDrop f i).1:=⟨(nodeDrop_len f i).1,(nodeDrop_len f i).2⟩
theorem stamped_sl (f:Fs) (i:Nat) (t g:Int):SL f (stamped f i t g):=⟨by simp [stamped],rfl⟩
theorem linkS_sl (f:Fs) (d:Int) (name:Str) (node:Int):SL f (linkS f d name node).1:=by
  unfold linkS
  split
  · exact nodeWrite_sl _ _ _
  · exact SL.refl f
theorem growS_sl (f:Fs) (d:Int) (name:Str) (kind:Int):SL f (growS f d name kind).1:=by
  unfold growS
  split
  · exact (nodeMake_sl f kind).trans (linkS_sl _ _ _ _)
  · exact SL.refl f
theorem climbS_sl:∀ (ns:List Str) (f:Fs) (i:Int),SL f (climbS f ns i).1
  | [],f,i=>by unfold climbS; split <;> exact SL.refl f
  | n :: ns,f,i=>by
    unfold climbS
    split
    · split
      · split
        · exact (growS_sl f i n 2).trans (climbS_sl ns _ _)
        · exact SL.refl f
      · exact climbS_sl ns f _
    · exact SL.refl f
theorem fsMake_sl (f:Fs) (p:Str) (kind:Int) (data:Str) (t g:Int):SL f (fsMake f p kind data t g).1:=by
  unfold fsMake
  repeat' split
  all_goals first | exact SL.refl f | exact (((climbS_sl _ f 0).trans (growS_sl _ _ _ _)).trans (nodeWrite_sl _ _ _)).trans (stamped_sl _ _ _ _)
theorem fsSet_sl (f:Fs) (p data:Str) (t g:Int):SL f (fsSet f p data t g).1:=by
  unfold fsSet
  repeat' split
  all_goals first | exact SL.refl f | exact (nodeWrite_sl _ _ _).trans (stamped_sl _ _ _ _)
theorem fsDrop_sl (f:Fs) (p:Str):SL f (fsDrop f p).1:=by
  unfold fsDrop
  repeat' split
  all_goals first | exact SL.refl f | exact (nodeDrop_sl _ _).trans (nodeWrite_sl _ _ _)
theorem fsHide_sl (f:Fs) (data:Str):SL f (fsHide f data).1:=by
  unfold fsHide
  repeat' split
  all_goals first | exact SL.refl f | exact nodeWrite_sl _ _ _ | exact (growS_sl _ _ _ _).trans (nodeWrite_sl _ _ _)
section
variable {N:Nat} (hN:1000≤N)
include hN
theorem nodeWrite_nlN (f:Fs) (i:Int) (data:Str) (h:f.nl≤N):(nW_ f i data).1.nl≤N:=by
  unfold nW_
  split
  · rename_i hc
    simp only [Bool.and_eq_true,usable,decide_eq_true_eq] at hc
    have s:=(shapeOk_iff.1 hc.1.1.1).small
    have:=(written_small s i data (needOf_le data hc.1.2).1).nl
    simp only
    omega
  · exact h
theorem fsMake_nlN (f:Fs) (p:Str) (kind:Int) (data:Str) (t g:Int) (h:f.nl≤N):(fsMake f p kind data t g).1.nl≤N:=by
  unfold fsMake
  split
  · exact h
  rename_i e1
  have e1':fsOk f=true:=by
    cases hf:fsOk f
    · exact absurd (.inl (by simp [hf])) e1
    · rfl
  repeat' split
  all_goals first | exact h | (refine Nat.le_trans (stamped_nl _ _ _ _) (nodeWrite_nlN hN _ _ _ ?_); have:=(mkG_shape e1' p kind).small.nl; omega)
theorem fsSet_nlN (f:Fs) (p data:Str) (t g:Int) (h:f.nl≤N):(fsSet f p data t g).1.nl≤N:=by
  unfold fsSet
  repeat' split
  all_goals first | exact h | exact Nat.le_trans (stamped_nl _ _ _ _) (nodeWrite_nlN hN _ _ _ h)
theorem fsDrop_nlN (f:Fs) (p:Str) (h:f.nl≤N):(fsDrop f p).1.nl≤N:=by
  unfold fsDrop
  repeat' split
  all_goals first | exact h | exact nodeWrite_nlN hN _ _ _ (Nat.le_trans (nodeDrop_nl _ _) h)
theorem fsHide_nlN (f:Fs) (data:Str) (h:f.nl≤N):(fsHide f data).1.nl≤N:=by
  unfold fsHide
  split
  · exact h
  rename_i e1
  have sh:ShapeOk f:=fsOk_shape (by simpa using e1)
  repeat' split
  all_goals first | exact h | exact nodeWrite_nlN hN _ _ _ h | (refine nodeWrite_nlN hN _ _ _ ?_; have:=(growS_shape sh ((0:Nat):Int) [126] 1).small.nl; omega)
end
end Go.Proofs.Ytmpgpkdijfcfhaa.Hz
