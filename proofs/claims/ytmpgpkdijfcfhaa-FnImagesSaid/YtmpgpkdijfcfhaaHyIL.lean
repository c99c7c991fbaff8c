/- The reference's right branches are well shaped. -/
import Derived.Test.YtmpgpkdijfcfhaaHyHD
import Derived.Test.YtmpgpkdijfcfhaaHyZH
namespace Go.Proofs.Ytmpgpkdijfcfhaa.Hz
open Go.RowKit
set_option linter.unusedVariables false
set_option linter.unusedSimpArgs false
set_option maxRecDepth 20000
theorem make_shape {f:Fs} {p data:Str} {kind t g:Int} (s:ShapeOk f):ShapeOk (fsMake f p kind data t g).1:=by
  by_cases h:(fsMake f p kind data t g).2=0
  · exact fsOk_shape (made_law h).2.1
  · have e:(fsMake f p kind data t g).1=f:=by
      unfold fsMake at h ⊢
      repeat' split
      all_goals first | rfl | skip
      all_goals simp_all
    rw [e]
    exact s
theorem set_shape {f:Fs} {p data:Str} {t g:Int} (s:ShapeOk f):ShapeOk (fsSet f p data t g).1:=by
  by_cases h:(fsSet f p data t g).2=0
  · obtain ⟨dep,-,D,-⟩:=fsSet_cert h
    exact fsOk_shape (cert_fsOk D)
  · rw [fsSet_no h]; exact s
theorem drop_shape {f:Fs} {p:Str} (s:ShapeOk f):ShapeOk (fsDrop f p).1:=by
  unfold fsDrop
  repeat' split
  all_goals first | exact s | exact nodeWrite_shape (nodeDrop_shape s _) _ _
theorem hide_shape {f:Fs} {data:Str} (s:ShapeOk f):ShapeOk (fsHide f data).1:=by
  unfold fsHide
  repeat' split
  all_goals first | exact s | exact nodeWrite_shape (growS_shape s _ _ _) _ _ | exact nodeWrite_shape s _ _
theorem fresh_shape (n m:Nat) (h1:4≤n) (h2:n≤10) (h3:6≤m) (h4:m≤30):ShapeOk (freshFs n m):=by
  have hm:∀ x∈(freshFs n m).nodes,x=⟨0,0,0,0,[]⟩∨x=⟨2,0,0,0,[]⟩:=fun x hx=>by
    unfold freshFs at hx
    rcases List.mem_or_eq_of_mem_set hx with h | h
    · exact .inl (List.mem_replicate.1 h).2
    · exact .inr h
  have hb:∀ x∈(freshFs n m).nodes,x.blocks=[]:=fun x hx=>by rcases hm x hx with rfl | rfl <;> rfl
  have hh:held (freshFs n m).nodes=[]:=by
    unfold held
    rw [List.flatMap_eq_nil_iff]
    exact hb
  have hn:(freshFs n m).nodes.length=n:=by simp [freshFs]
  have hd:(freshFs n m).data.length=m:=by simp [freshFs]
  refine ⟨?_,?_,fun h0=>?_,fun x hx=>?_,?_,?_,fun x hx j hj=>?_⟩
  · rw [hn]; exact inR_iff.2 (by omega)
  · rw [hd]; exact inR_iff.2 (by omega)
  · simp [freshFs]
  · rcases hm x hx with rfl | rfl <;> decide
  · unfold OwnOk
    rw [hh]
    exact ⟨fun b hb=>(by cases hb),List.nodup_nil⟩
  · unfold DataOk
    rw [hh]
    intro k hk
    simp [freshFs]
  · rw [hb x hx] at hj
    simp at hj
theorem l11Right_s (c:Nat) (h:Hp) (d:Draw h c) :
    ACall Try.prog 51 [.pointer (some ⟨c,0,none⟩)] h fun r h'=>∃ f b1 b2 G1 G2,r=.agg #[.slice b1 f.nodes.length f.nodes.length,.slice b2 f.data.length f.data.length]∧DFs h c h' f b1 b2 G1 G2∧f.nl≤1000∧2≤f.nodes.length∧f.nodes.length≤10∧1≤f.data.length∧f.data.length≤36∧ShapeOk f :=
  l11Right_q ShapeOk fresh_shape (fun _ _ _ _ _ _ s=>make_shape s) (fun _ _ _ _ _ s=>set_shape s) (fun _ _ s=>drop_shape s) (fun _ _ s=>hide_shape s) c h d
end Go.Proofs.Ytmpgpkdijfcfhaa.Hz
