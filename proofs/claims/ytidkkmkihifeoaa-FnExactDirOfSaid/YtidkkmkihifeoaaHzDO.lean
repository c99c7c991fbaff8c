/- The law of DirOf. -/
import Derived.Test.YtidkkmkihifeoaaHzDO0
import Derived.Test.YtidkkmkihifeoaaHzMK
namespace Go.Proofs.Ytidkkmkihifeoaa.Hz
open Go.RowKit
set_option linter.unusedVariables false
set_option linter.unusedSimpArgs false
set_option maxRecDepth 20000

set_option maxHeartbeats 2000000 in
theorem FnExactDirOf_c (nm : Str) (h : Hp) (hnm : nm.length ≤ maxLen) :
    ACall Try.prog 4 [.string (S nm)] h fun r _ => r = .bool true := by
  refine acall mixed Try.func4 rfl (by kernel_rfl) ?_
  have h4 : maxLen = 9223372036854775807 := by decide
  simp [Try.f4]
  refine asplitK_intro (fun nmb => ?_) (fun nmb => ?_) <;> simp at nmb <;> simp
  have hD : ((dirOf nm).1).length ≤ 1048576 := by have := dirOf_len nm; omega
  have hpos : ¬ ((1 : Int) + 2 * (((dirOf nm).1).length : Int) < 0) := by omega
  refine callK0 (dirOf_spec_c nm _ (by omega)) ?_
  rintro _ _ ⟨aw, Fw, rfl, ow⟩
  obtain ⟨uw, rfl⟩ := ow.ext.pre
  simp
  refine callK0 (dirOf_impl_c nm _ (by omega)) ?_
  rintro _ _ ⟨ag, Fg, rfl, og⟩
  obtain ⟨ug, rfl⟩ := og.ext.pre
  simp
  refine callK0 (eqEntryS_c ((dirOf nm).1) ((dirOf nm).1) ag aw Fg Fw true true _ _ _ (og.sl.to (by simp)) (ow.sl.to (by simp)) hD) ?_
  rintro _ _ ⟨⟨u5, rfl⟩, rfl⟩
  simp [hpos]
  have lw8 : ∀ q ∈ Fw, q ∉ Fg := fun q hq hm => by have y1 := og.new q hm; have y2 := ow.sl.lt q hq; simp at y1 y2; omega
  refine callK0 (markEntryS_c ((dirOf nm).1) 1 ag Fg _ _ (Own.any (og.sl.to (by simp)) og.nd) (by omega)) ?_
  rintro _ H10 ⟨rfl, om, keep10, len10⟩
  have w10 : slR true 66 entE H10 ((dirOf nm).1) aw Fw := slR.frame (ow.sl.to (by simp)) (fun q hq => keep10 q (by have := ow.sl.lt q hq; simp at this ⊢; omega) (lw8 q hq))
  simp
  refine callK0 (heldEntryS_c ((dirOf nm).1).length 1 ag Fg true _ H10 om.sl (by omega)) ?_
  rintro _ _ ⟨⟨u11, rfl⟩, rfl⟩
  simp [hpos]
  refine callK0 (dirOf_impl_c nm _ (by omega)) ?_
  rintro _ _ ⟨ah, Fh, rfl, oh⟩
  obtain ⟨uh, rfl⟩ := oh.ext.pre
  simp
  refine callK0 (eqEntryS_c ((dirOf nm).1) ((dirOf nm).1) ah aw Fh Fw true true _ _ _ (oh.sl.to (by simp)) (w10.to (by simp)) hD) ?_
  rintro _ _ ⟨⟨u14, rfl⟩, rfl⟩
  simp [hpos]
  refine callK0 (heldEntryS_c ((dirOf nm).1).length 1 ag Fg true _ _ (om.sl.to (by simp)) (by omega)) ?_
  rintro _ _ ⟨⟨u15, rfl⟩, rfl⟩
  simp [hpos]
end Go.Proofs.Ytidkkmkihifeoaa.Hz
