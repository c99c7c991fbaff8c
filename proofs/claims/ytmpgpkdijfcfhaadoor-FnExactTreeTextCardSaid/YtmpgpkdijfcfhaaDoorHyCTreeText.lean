/- The law of TreeText. -/
import Derived.Test.YtmpgpkdijfcfhaaDoorHyTZ
namespace Go.Proofs.YtmpgpkdijfcfhaaDoor.Hz
open Go.RowKit
set_option linter.unusedVariables false
set_option linter.unusedSimpArgs false
set_option maxRecDepth 20000
set_option maxHeartbeats 4000000 in
theorem FnExactTreeText_c (xs:List Item) (a:Option Addr) (F:List Nat) (w:Bool) (t:TypeId) (h:Hp) (hx:slR w t itemE h xs a F) (hl:xs.length≤maxLen)
    (h3:∀ e∈xs,e.path.length≤maxLen∧e.data.length≤maxLen∧tW e) :
    ACall Tryd.prog 3 [.agg #[.slice a xs.length xs.length]] h fun r _=>r=.bool true:=by
  refine acall mixed Tryd.func3 rfl (by kernel_rfl) ?_
  have ht:∀ e∈xs,tW e:=fun e he=>(h3 e he).2.2
  simp [Tryd.f3]
  refine callK0 (szTree_c xs a F w t _ (hx.ext (Ext.push h _)) _ (by omega) (by omega) hl fun e he=>⟨(h3 e he).1,(h3 e he).2.1⟩) ?_
  rintro _ _ ⟨⟨t1,rfl⟩,n,rfl,hn1,hn2⟩
  simp
  refine asplitK_intro (fun hc=>?_) (fun hc=>?_) <;> simp at hc <;> simp
  have hlx:xs.length≤1048576:=by have:=hn2 hc; omega
  have hly:xs.length+sumL Item.nl xs≤1048576:=by have:=hn2 hc; omega
  refine callK0 (toTree_c xs a F w t _ (hx.to (by simp)) hlx) ?_
  rintro _ _ ⟨a1,F1,rfl,o1⟩
  obtain ⟨u1,rfl⟩:=o1.ext.pre
  simp
  refine callK0 (treeText_spec_c xs a1 F1 true _ _ (o1.sl.to (by simp)) hly ht) ?_
  rintro _ _ ⟨ew,rfl⟩
  obtain ⟨uw,rfl⟩:=ew.pre
  simp
  refine callK0 (toTree_c xs a F w t _ (hx.to (by simp)) hlx) ?_
  rintro _ _ ⟨ax,Fx,rfl,ox⟩
  obtain ⟨ux,rfl⟩:=ox.ext.pre
  simp
  refine callK0 (treeText_impl_c xs ax Fx true _ _ (ox.sl.to (by simp)) hly ht) ?_
  rintro _ _ ⟨eg,rfl⟩
  obtain ⟨ug,rfl⟩:=eg.pre
  simp
  refine drawK true (by kernel_rfl) ?_
  simp
  refine callK (toTree_c xs a F w t _ (hx.to (by simp)) hlx) ?_
  rintro _ _ ⟨a3,F3,rfl,o3⟩
  obtain ⟨u6,rfl⟩:=o3.ext.pre
  refine ⟨fun _=>o3.ext,?_⟩
  simp
  refine callK (eqTree_c xs xs ax a3 Fx F3 true true _ _ _ (ox.sl.to (by simp)) (o3.sl.to (by simp)) hlx) ?_
  rintro _ _ ⟨⟨u7,rfl⟩,rfl⟩
  refine ⟨fun _=>Ext.push _ _,?_⟩
  simp
end Go.Proofs.YtmpgpkdijfcfhaaDoor.Hz
