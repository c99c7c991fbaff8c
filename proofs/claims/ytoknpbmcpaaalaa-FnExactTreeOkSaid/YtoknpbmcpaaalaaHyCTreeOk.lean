/- The law of TreeOk. -/
import Derived.Test.YtoknpbmcpaaalaaHyGH
namespace Go.Proofs.Ytoknpbmcpaaalaa.Hz
open Go.RowKit
set_option linter.unusedVariables false
set_option linter.unusedSimpArgs false
set_option maxRecDepth 20000

set_option maxHeartbeats 2000000 in
theorem FnExactTreeOk_c (xs : List Item) (a : Option Addr) (F : List Nat) (w : Bool) (t : TypeId) (h : Hp) (hx : slR w t itemE h xs a F) (hl : xs.length ≤ maxLen)
    (h3 : ∀ e ∈ xs, e.path.length ≤ maxLen ∧ e.data.length ≤ maxLen) :
    ACall Try.prog 3 [.agg #[.slice a xs.length xs.length]] h fun r _ => r = .bool true := by
  refine acall mixed Try.func3 rfl (by kernel_rfl) ?_
  have h4 : maxLen = 9223372036854775807 := by decide
  simp [Try.f3]
  refine callK0 (szTree_c xs a F w t _ (hx.ext (Ext.push h _)) _ (by omega) (by omega) hl h3) ?_
  rintro _ _ ⟨⟨t1, rfl⟩, n, rfl, hn1, hn2⟩
  simp
  refine asplitK_intro (fun hc => ?_) (fun hc => ?_) <;> simp at hc <;> simp
  have hlx : xs.length ≤ 1048576 := by have := hn2 hc; omega
  have hly : xs.length + sumL Item.nl xs ≤ 1048576 := by have := hn2 hc; omega
  refine callK0 (toTree_c xs a F w t _ (hx.ext (Ext.push h _)) hlx) ?_
  rintro _ H1 ⟨a1, F1, rfl, o1⟩
  obtain ⟨u1, rfl⟩ := o1.ext.pre
  simp at o1
  simp
  refine callK0 (treeOk_spec_c xs a1 F1 true _ o1.sl hly) ?_
  rintro _ _ ⟨⟨u2, rfl⟩, rfl⟩
  simp
  refine callK0 (toTree_c xs a F w t _ (hx.ext (Ext.push h _)) hlx) ?_
  rintro _ H2 ⟨a2, F2, rfl, o2⟩
  obtain ⟨u3, rfl⟩ := o2.ext.pre
  simp at o2
  have p2 := o2.grow (Ext.push _ [⟨true, true, 29, [.slice a2 xs.length xs.length]⟩])
  simp at p2
  simp
  refine callK0 (treeOk_impl_c xs a2 F2 true _ p2.sl hly) ?_
  rintro _ _ ⟨⟨u4, rfl⟩, rfl⟩
  simp
  have p3 := p2.grow (Ext.push _ u4)
  simp at p3
  refine drawK true (by kernel_rfl) ?_
  simp
  refine callK (toTree_c xs a F w t _ (hx.ext (Ext.push h _)) hlx) ?_
  rintro _ H5 ⟨a5, F5, rfl, o5⟩
  obtain ⟨u7, rfl⟩ := o5.ext.pre
  refine ⟨fun _ => o5.ext, ?_⟩
  simp at o5
  simp
  refine callK (eqTree_c xs xs a2 a5 F2 F5 true true _ _ _ (p3.sl.to (by simp)) o5.sl hlx) ?_
  rintro _ _ ⟨⟨u8, rfl⟩, rfl⟩
  refine ⟨fun _ => Ext.push _ _, ?_⟩
  simp
end Go.Proofs.Ytoknpbmcpaaalaa.Hz
