/- The law of DirAdd. -/
import Derived.Test.YtcndiilogcembaaHyGP
import Derived.Test.YtcndiilogcembaaHyGD
import Derived.Test.YtcndiilogcembaaHyGC
namespace Go.Proofs.Ytcndiilogcembaa.Hz
open Go.RowKit
set_option linter.unusedVariables false
set_option linter.unusedSimpArgs false
set_option maxRecDepth 20000

set_option maxHeartbeats 2000000 in
theorem FnExactDirAdd_c (xs : List Ent) (nm : Str) (nd : Int) (a : Option Addr) (F : List Nat) (w : Bool) (t : TypeId) (h : Hp) (hr : slR w t entE h xs a F) (hl : xs.length ≤ maxLen) (hnm : nm.length ≤ maxLen) (hx : ∀ x ∈ xs, x.name.length ≤ maxLen) (hwnd : (Lit.int .i64 nd).wf = true) :
    ACall Try.prog 3 [.slice a xs.length xs.length, .string (S nm), .int .i64 nd] h fun r _ => r = .bool true := by
  refine acall mixed Try.func3 rfl (by kernel_rfl) ?_
  have h4 : maxLen = 9223372036854775807 := by decide
  simp [Try.f3]
  refine asplitK_intro (fun nmb => ?_) (fun nmb => ?_) <;> simp at nmb <;> simp
  refine callK0 (szEntryS_c xs a F w t _ h hr (by omega) (by omega) hl hx) ?_
  rintro _ _ ⟨⟨t1, rfl⟩, n, rfl, hn1, hn2⟩
  simp
  refine asplitK_intro (fun hc => ?_) (fun hc => ?_) <;> simp at hc <;> simp
  have hlx : xs.length ≤ 1048576 := by have := hn2 hc; omega
  have hnx : sumL Ent.nl xs ≤ 1048576 := by have := hn2 hc; omega
  have hD : ((dirAdd xs nm nd).1).length ≤ 1048576 := by have := dirAdd_len xs nm nd; omega
  have hpos : ¬ ((1 : Int) + 2 * (((dirAdd xs nm nd).1).length : Int) < 0) := by omega
  refine callK0 (toEntryS_c xs a F w t _ (hr.to (by simp)) hlx) ?_
  rintro _ _ ⟨a1, F1, rfl, o1⟩
  obtain ⟨u1, rfl⟩ := o1.ext.pre
  simp
  refine callK0 (dirAdd_spec_c xs nm nd a1 F1 true _ (o1.sl.to (by simp)) hlx (by omega)) ?_
  rintro _ _ ⟨aw, Fw, rfl, ow⟩
  obtain ⟨uw, rfl⟩ := ow.ext.pre
  simp
  refine callK0 (toEntryS_c xs a F w t _ (hr.to (by simp)) hlx) ?_
  rintro _ _ ⟨ax, Fx, rfl, ox⟩
  obtain ⟨ux, rfl⟩ := ox.ext.pre
  simp
  refine callK0 (dirAdd_impl_of slices_Insert_c xs nm nd ax Fx true _ (ox.sl.to (by simp)) hlx (by omega)) ?_
  rintro _ _ ⟨ag, Fg, rfl, og⟩
  obtain ⟨ug, rfl⟩ := og.ext.pre
  simp
  refine callK0 (eqEntryS_c ((dirAdd xs nm nd).1) ((dirAdd xs nm nd).1) ag aw Fg Fw true true _ _ _ (og.sl.to (by simp)) (ow.sl.to (by simp)) hD) ?_
  rintro _ _ ⟨⟨u5, rfl⟩, rfl⟩
  simp [hpos]
  refine callK0 (toEntryS_c xs a F w t _ (hr.to (by simp)) hlx) ?_
  rintro _ _ ⟨a3, F3, rfl, o3⟩
  obtain ⟨u3, rfl⟩ := o3.ext.pre
  simp
  refine callK0 (eqEntryS_c (xs) (xs) ax a3 Fx F3 true true _ _ _ (ox.sl.to (by simp)) (o3.sl.to (by simp)) hlx) ?_
  rintro _ _ ⟨⟨u7, rfl⟩, rfl⟩
  simp [hpos]
  refine callK0 (markEntryS_c xs 1 ax Fx _ _ (ox.to (by simp)) (by omega)) ?_
  rintro _ H8 ⟨rfl, omx, keep8, len8⟩
  have g8 : slR true 38 entE H8 ((dirAdd xs nm nd).1) ag Fg := slR.frame (og.sl.to (by simp)) (fun q hq => keep8 q (by have := og.sl.lt q hq; simp at this ⊢; omega) (fun hm => by have y1 := og.new q hq; have y2 := ox.sl.lt q hm; simp at y1 y2; omega))
  have w8 : slR true 38 entE H8 ((dirAdd xs nm nd).1) aw Fw := slR.frame (ow.sl.to (by simp)) (fun q hq => keep8 q (by have := ow.sl.lt q hq; simp at this ⊢; omega) (fun hm => by have y1 := ox.new q hm; have y2 := ow.sl.lt q hq; simp at y1 y2; omega))
  have r8 : slR w t entE H8 xs a F := slR.frame (hr.to (by simp)) (fun q hq => keep8 q (by have := hr.lt q hq; simp at this ⊢; omega) (fun hm => by have y1 := ox.new q hm; have y2 := hr.lt q hq; simp at y1 y2; omega))
  have lw8 : ∀ q ∈ Fw, q ∉ Fg := fun q hq hm => by have y1 := og.new q hm; have y2 := ow.sl.lt q hq; simp at y1 y2; omega
  have lr8 : ∀ q ∈ F, q ∉ Fg := fun q hq hm => by have y1 := og.new q hm; have y2 := hr.lt q hq; simp at y1 y2; omega
  have kpos : ¬ ((1 : Int) + 2 * (xs.length : Int) < 0) := by omega
  simp [kpos]
  refine callK0 (eqEntryS_c ((dirAdd xs nm nd).1) ((dirAdd xs nm nd).1) ag aw Fg Fw true true _ _ _ (g8.to (by simp)) (w8.to (by simp)) hD) ?_
  rintro _ _ ⟨⟨u9, rfl⟩, rfl⟩
  simp [hpos]
  refine callK0 (markEntryS_c ((dirAdd xs nm nd).1) 1 ag Fg _ _ (Own.any (g8.to (by simp)) og.nd) (by omega)) ?_
  rintro _ H10 ⟨rfl, om, keep10, len10⟩
  have w10 : slR true 38 entE H10 ((dirAdd xs nm nd).1) aw Fw := slR.frame (w8.to (by simp)) (fun q hq => keep10 q (by have := w8.lt q hq; simp at this ⊢; omega) (lw8 q hq))
  have r10 : slR w t entE H10 xs a F := slR.frame (r8.to (by simp)) (fun q hq => keep10 q (by have := r8.lt q hq; simp at this ⊢; omega) (lr8 q hq))
  simp
  refine callK0 (heldEntryS_c ((dirAdd xs nm nd).1).length 1 ag Fg true _ H10 om.sl (by omega)) ?_
  rintro _ _ ⟨⟨u11, rfl⟩, rfl⟩
  simp [hpos]
  refine callK0 (toEntryS_c xs a F w t _ (r10.to (by simp)) hlx) ?_
  rintro _ _ ⟨ay, Fy, rfl, oy⟩
  obtain ⟨uy, rfl⟩ := oy.ext.pre
  simp
  refine callK0 (dirAdd_impl_of slices_Insert_c xs nm nd ay Fy true _ (oy.sl.to (by simp)) hlx (by omega)) ?_
  rintro _ _ ⟨ah, Fh, rfl, oh⟩
  obtain ⟨uh, rfl⟩ := oh.ext.pre
  simp
  refine callK0 (eqEntryS_c ((dirAdd xs nm nd).1) ((dirAdd xs nm nd).1) ah aw Fh Fw true true _ _ _ (oh.sl.to (by simp)) (w10.to (by simp)) hD) ?_
  rintro _ _ ⟨⟨u14, rfl⟩, rfl⟩
  simp [hpos]
  refine callK0 (heldEntryS_c ((dirAdd xs nm nd).1).length 1 ag Fg true _ _ (om.sl.to (by simp)) (by omega)) ?_
  rintro _ _ ⟨⟨u15, rfl⟩, rfl⟩
  simp [hpos]
theorem FnExactDirAdd_v (h : Hp) (avs : List Value) (hv : All2 (fun V av => V h av) [(V1 (slE false 67 entE) fun xs => xs.length ≤ maxLen ∧ ∀ x ∈ xs, x.name.length ≤ maxLen), (V1 strE fun s => s.length ≤ maxLen), (V1 intE fun n => (Lit.int .i64 n).wf = true)] avs) : ACall Try.prog 3 avs h fun r _ => r = .bool true := by
  obtain ⟨v0, vs0, rfl, q0, hv⟩ := All2.cons_iff.1 hv
  obtain ⟨v1, vs1, rfl, q1, hv⟩ := All2.cons_iff.1 hv
  obtain ⟨v2, vs2, rfl, q2, hv⟩ := All2.cons_iff.1 hv
  obtain rfl := All2.nil_iff.1 hv
  obtain ⟨xs, F, ⟨a, ea, hr⟩, hl, hx⟩ := q0
  obtain rfl : v0 = _ := List.cons.inj ea |>.1
  obtain ⟨nm, _, ⟨q_nm, _⟩, wnm⟩ := q1
  obtain rfl : v1 = _ := List.cons.inj q_nm |>.1
  obtain ⟨nd, _, ⟨q_nd, _⟩, wnd⟩ := q2
  obtain rfl : v2 = _ := List.cons.inj q_nd |>.1
  exact FnExactDirAdd_c xs nm nd a F false _ h hr hl wnm hx wnd
end Go.Proofs.Ytcndiilogcembaa.Hz
