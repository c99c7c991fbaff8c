/- The law of TreeNames. -/
import Derived.Test.YtoknpbmcpaaalaaHyGL
import Derived.Test.YtoknpbmcpaaalaaHyGH
namespace Go.Proofs.Ytoknpbmcpaaalaa.Hz
open Go.RowKit
set_option linter.unusedVariables false
set_option linter.unusedSimpArgs false
set_option maxRecDepth 20000

set_option maxHeartbeats 4000000 in
theorem FnExactTreeNames_c (xs : List Item) (p : Str) (a : Option Addr) (F : List Nat) (w : Bool) (t : TypeId) (h : Hp) (hx : slR w t itemE h xs a F) (hl : xs.length ≤ maxLen) (hn : p.length ≤ maxLen)
    (h3 : ∀ e ∈ xs, e.path.length ≤ maxLen ∧ e.data.length ≤ maxLen) :
    ACall Try.prog 4 [.agg #[.slice a xs.length xs.length], .string (S p)] h fun r _ => r = .bool true := by
  refine acall mixed Try.func4 rfl (by kernel_rfl) ?_
  have h4 : maxLen = 9223372036854775807 := by decide
  simp [Try.f4]
  refine asplitK_intro (fun hb => ?_) (fun hb => ?_) <;> simp at hb <;> simp
  refine callK0 (szTree_c xs a F w t _ (hx.ext (Ext.push h _)) _ (by omega) (by omega) hl h3) ?_
  rintro _ _ ⟨⟨t1, rfl⟩, n, rfl, hn1, hn2⟩
  simp
  refine asplitK_intro (fun hc => ?_) (fun hc => ?_) <;> simp at hc <;> simp
  have hlx : xs.length ≤ 1048576 := by have := hn2 hc; omega
  have hly : xs.length + sumL Item.nl xs ≤ 1048576 := by have := hn2 hc; omega
  have hlr : (treeNames xs p).length ≤ 1048576 := by
    have := under_len xs p
    unfold treeNames
    split
    · omega
    · simp
  refine callK0 (toTree_c xs a F w t _ (hx.to (by simp)) hlx) ?_
  rintro _ _ ⟨a1, F1, rfl, o1⟩
  obtain ⟨u1, rfl⟩ := o1.ext.pre
  simp
  refine callK0 (treeNames_spec_c xs p a1 F1 true _ (o1.sl.to (by simp)) hly) ?_
  rintro _ _ ⟨aw, Fw, rfl, ow⟩
  obtain ⟨uw, rfl⟩ := ow.ext.pre
  simp
  refine callK0 (toTree_c xs a F w t _ (hx.to (by simp)) hlx) ?_
  rintro _ _ ⟨ax, Fx, rfl, ox⟩
  obtain ⟨ux, rfl⟩ := ox.ext.pre
  simp
  refine callK0 (treeNames_impl_c xs p ax Fx true _ (ox.sl.to (by simp)) hly) ?_
  rintro _ _ ⟨ag, Fg, rfl, og⟩
  obtain ⟨ug, rfl⟩ := og.ext.pre
  simp
  refine callK0 (eqStringS_c (treeNames xs p) (treeNames xs p) ag aw Fg Fw true true _ _ _ (og.sl.to (by simp)) (ow.sl.to (by simp)) hlr) ?_
  rintro _ _ ⟨⟨u5, rfl⟩, rfl⟩
  simp
  refine drawK true (by kernel_rfl) ?_
  simp
  refine callK (toTree_c xs a F w t _ (hx.to (by simp)) hlx) ?_
  rintro _ _ ⟨a3, F3, rfl, o3⟩
  obtain ⟨u6, rfl⟩ := o3.ext.pre
  refine ⟨fun _ => o3.ext, ?_⟩
  simp
  refine callK (eqTree_c xs xs ax a3 Fx F3 true true _ _ _ (ox.sl.to (by simp)) (o3.sl.to (by simp)) hlx) ?_
  rintro _ _ ⟨⟨u7, rfl⟩, rfl⟩
  refine ⟨fun _ => Ext.push _ _, ?_⟩
  simp
  refine callK0 (markTree_c xs 1 ax Fx _ _ (ox.to (by simp)) (by omega)) ?_
  rintro _ H8 ⟨rfl, omx, keep8, len8⟩
  have g8 : slR true 9 strE H8 (treeNames xs p) ag Fg := slR.frame (og.sl.to (by simp)) (fun q hq => keep8 q (by have := og.sl.lt q hq; simp at this ⊢; omega) (fun hm => by have y1 := og.new q hq; have y2 := ox.sl.lt q hm; simp at y1 y2; omega))
  have w8 : slR true 9 strE H8 (treeNames xs p) aw Fw := slR.frame (ow.sl.to (by simp)) (fun q hq => keep8 q (by have := ow.sl.lt q hq; simp at this ⊢; omega) (fun hm => by have y1 := ox.new q hm; have y2 := ow.sl.lt q hq; simp at y1 y2; omega))
  have r8 : slR w t itemE H8 xs a F := slR.frame (hx.to (by simp)) (fun q hq => keep8 q (by have := hx.lt q hq; simp at this ⊢; omega) (fun hm => by have y1 := ox.new q hm; have y2 := hx.lt q hq; simp at y1 y2; omega))
  have lw8 : ∀ q ∈ Fw, q ∉ Fg := fun q hq hm => by have y1 := og.new q hm; have y2 := ow.sl.lt q hq; simp at y1 y2; omega
  have lr8 : ∀ q ∈ F, q ∉ Fg := fun q hq hm => by have y1 := og.new q hm; have y2 := hx.lt q hq; simp at y1 y2; omega
  have kpos : ¬ ((1 : Int) + 4 * (xs.length : Int) < 0) := by omega
  have hpos : ¬ ((1 : Int) + ((treeNames xs p).length : Int) < 0) := by omega
  obtain ⟨b8, b8'⟩ := keepCell (F2 := []) (fun q hq h1 _ => keep8 q hq h1) (q := h.length) (i := 0) (v := .slice a xs.length xs.length) (fun hm => by have y1 := ox.new _ hm; simp at y1; omega) (by simp) (by simp)
  simp [kpos, b8, b8']
  refine callK0 (eqStringS_c (treeNames xs p) (treeNames xs p) ag aw Fg Fw true true _ _ _ g8 w8 hlr) ?_
  rintro _ _ ⟨⟨u9, rfl⟩, rfl⟩
  simp [b8, b8']
  refine callK0 (markStringS_c (treeNames xs p) 1 ag Fg _ (Own.any (g8.to (by simp)) og.nd) (by omega)) ?_
  rintro _ H10 ⟨rfl, om, keep10, len10⟩
  have w10 : slR true 9 strE H10 (treeNames xs p) aw Fw := slR.frame (w8.to (by simp)) (fun q hq => keep10 q (by have := w8.lt q hq; simp at this ⊢; omega) (lw8 q hq))
  have r10 : slR w t itemE H10 xs a F := slR.frame (r8.to (by simp)) (fun q hq => keep10 q (by have := r8.lt q hq; simp at this ⊢; omega) (lr8 q hq))
  obtain ⟨b10, b10'⟩ := keepCell (F2 := []) (fun q hq h1 _ => keep10 q hq h1) (q := h.length) (i := 0) (v := .slice a xs.length xs.length) (fun hm => by have y1 := og.new _ hm; simp at y1; omega) (by simp) (by simp [b8'])
  simp [hpos, b10, b10']
  refine callK0 (heldStringS_c (treeNames xs p).length 1 ag Fg true _ _ (om.sl.to (by simp)) (by omega)) ?_
  rintro _ _ ⟨⟨u11, rfl⟩, rfl⟩
  simp [hpos, b10, b10']
  refine callK0 (toTree_c xs a F w t _ (r10.to (by simp)) hlx) ?_
  rintro _ _ ⟨ay, Fy, rfl, oy⟩
  obtain ⟨uy, rfl⟩ := oy.ext.pre
  simp [b10, b10']
  refine callK0 (treeNames_impl_c xs p ay Fy true _ (oy.sl.to (by simp)) hly) ?_
  rintro _ _ ⟨ah, Fh, rfl, oh⟩
  obtain ⟨uh, rfl⟩ := oh.ext.pre
  simp [b10, b10']
  refine callK0 (eqStringS_c (treeNames xs p) (treeNames xs p) ah aw Fh Fw true true _ _ _ (oh.sl.to (by simp)) (w10.to (by simp)) hlr) ?_
  rintro _ _ ⟨⟨u14, rfl⟩, rfl⟩
  simp [b10, b10']
  refine callK0 (heldStringS_c (treeNames xs p).length 1 ag Fg true _ _ (om.sl.to (by simp)) (by omega)) ?_
  rintro _ _ ⟨⟨u15, rfl⟩, rfl⟩
  simp [hpos]
end Go.Proofs.Ytoknpbmcpaaalaa.Hz
