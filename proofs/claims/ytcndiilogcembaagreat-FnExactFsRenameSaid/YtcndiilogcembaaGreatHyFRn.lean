/- The law of FsRename. -/
import Derived.Test.YtcndiilogcembaaGreatHyRA
import Derived.Test.YtcndiilogcembaaGreatHyRB
import Derived.Test.YtcndiilogcembaaGreatHyGD
import Derived.Test.YtcndiilogcembaaGreatHyGJ
namespace Go.Proofs.YtcndiilogcembaaGreat.Hz
open Go.RowKit
set_option linter.unusedVariables false
set_option linter.unusedSimpArgs false
set_option maxRecDepth 20000

set_option maxHeartbeats 4000000 in
theorem FnExactFsRename_c (x : Fs) (xa1 xa2 : Option Addr) (xF1 xF2 : List Nat) (pa : Str) (qa : Str) (ge : Int) (w : Bool) (xtNode : TypeId) (h : Hp) (xk1 : slR w xtNode (nodeE w) h x.nodes xa1 xF1) (xk2 : slR w 9 strE h x.data xa2 xF2) (xbd : x.bd) (pan : pa.length ≤ maxLen) (qan : qa.length ≤ maxLen) :
    ACall Tryz.prog 7 [.agg #[.slice xa1 x.nodes.length x.nodes.length, .slice xa2 x.data.length x.data.length], .string (S pa), .string (S qa), .int .i64 ge] h fun r _ => r = .bool true := by
  refine acall mixed Tryz.func7 rfl (by kernel_rfl) ?_
  have h4 : maxLen = 9223372036854775807 := by decide
  simp [Tryz.f7]
  refine asplitK_intro (fun pab => ?_) (fun pab => ?_) <;> simp at pab <;> simp [pab]
  refine asplitK_intro (fun qab => ?_) (fun qab => ?_) <;> simp at qab <;> simp [qab]
  refine callK0 (szFs_c x xa1 xa2 xF1 xF2 w xtNode 1048576 _ (xk1.to (by simp)) (xk2.to (by simp)) (by omega) (by omega) xbd) ?_
  rintro _ _ ⟨⟨xt, rfl⟩, xn0, rfl, xn1, xn2⟩
  simp
  refine asplitK_intro (fun xc => ?_) (fun xc => ?_) <;> simp at xc <;> simp
  have xnl : x.nl ≤ 1048576 := by have := xn2 xc; omega
  have xlim := Fs.lim_of x xnl
  have rnl : ((fsRename x pa qa ge).1).nl ≤ 1048576 := fsRename_nl x pa qa ge xnl
  have rlim := Fs.lim_of _ rnl
  obtain ⟨m1, m2, m3, m4⟩ := kFs_le x xnl
  obtain ⟨n1, n2, n3, n4⟩ := kFs_le _ rnl
  refine callK0 (toFs_c x xa1 xa2 xF1 xF2 w xtNode _ (xk1.to (by simp)) (xk2.to (by simp)) xlim) ?_
  rintro _ _ ⟨ab1, _, ab2, _, rfl, ob⟩
  obtain ⟨ub, rfl⟩ := ob.ext.pre
  obtain ⟨bF1, bF2, bs1, bs2, eb⟩ := fsR ob.r
  simp
  refine callK0 (fsRename_spec_c x ab1 ab2 _ _ true _ _ (bs1.to (by simp)) (bs2.to (by simp)) xnl pa qa ge (by omega) (by omega)) ?_
  rintro _ _ ⟨_, rfl, aw1, wF1, aw2, wF2, rfl, ow1, ow2, dw⟩
  obtain ⟨uw, rfl⟩ := ow1.ext.pre
  simp
  refine callK0 (toFs_c x xa1 xa2 xF1 xF2 w xtNode _ (xk1.to (by simp)) (xk2.to (by simp)) xlim) ?_
  rintro _ _ ⟨ac1, _, ac2, _, rfl, oc⟩
  obtain ⟨uc, rfl⟩ := oc.ext.pre
  obtain ⟨cF1, cF2, cs1, cs2, ec⟩ := fsR oc.r
  simp
  refine callK0 (fsRename_impl_c x ac1 ac2 _ _ true _ _ (cs1.to (by simp)) (cs2.to (by simp)) xnl pa qa ge (by omega) (by omega)) ?_
  rintro _ _ ⟨_, rfl, ag1, gF1, ag2, gF2, rfl, og1, og2, dg⟩
  obtain ⟨ug, rfl⟩ := og1.ext.pre
  simp
  refine callK0 (eqFs_c ((fsRename x pa qa ge).1) ((fsRename x pa qa ge).1) ag1 aw1 _ _ ag2 aw2 _ _ true true _ _ _ (og1.sl.to (by simp)) (ow1.sl.to (by simp)) (og2.sl.to (by simp)) (ow2.sl.to (by simp)) rlim) ?_
  rintro _ _ ⟨⟨u5, rfl⟩, rfl⟩
  simp
  refine drawK true (by kernel_rfl) ?_
  simp
  refine callK (toFs_c x xa1 xa2 xF1 xF2 w xtNode _ (xk1.to (by simp)) (xk2.to (by simp)) xlim) ?_
  rintro _ _ ⟨ad1, _, ad2, _, rfl, od⟩
  obtain ⟨ud, rfl⟩ := od.ext.pre
  refine ⟨fun _ => od.ext, ?_⟩
  obtain ⟨dF1, dF2, ds1, ds2, ed⟩ := fsR od.r
  simp
  refine callK (eqFs_c (x) (x) ac1 ad1 _ _ ac2 ad2 _ _ true true _ _ _ (cs1.to (by simp)) (ds1.to (by simp)) (cs2.to (by simp)) (ds2.to (by simp)) xlim) ?_
  rintro _ _ ⟨⟨u7, rfl⟩, rfl⟩
  refine ⟨fun _ => Ext.push _ _, ?_⟩
  simp
  have cnd := oc.nd
  rw [ec] at cnd
  have cnew : ∀ q, q ∈ cF1 ∨ q ∈ cF2 → _ ≤ q := fun q hq => oc.new q (by rw [ec]; exact List.mem_append.2 hq)
  have clt1 := cs1.lt
  have clt2 := cs2.lt
  simp at cnew clt1 clt2
  have cn := List.nodup_append.1 cnd
  refine callK0 (markFs_c x ac1 ac2 cF1 cF2 _ (Own.any (cs1.to (by simp)) cn.1) (Own.any (cs2.to (by simp)) cn.2.1) (fun q h1 h2 => cn.2.2 q h1 q h2 rfl) xnl) ?_
  rintro _ H8 ⟨rfl, -, -, keep8, len8⟩
  have g81 : slR true 103 (nodeE true) H8 ((fsRename x pa qa ge).1).nodes ag1 gF1 := slR.frame (og1.sl.to (by simp)) (fun q hq => keep8 q (by have := og1.sl.lt q hq; simp at this ⊢; omega) (fun hm => by have y1 := og1.new q hq; have y2 := clt1 q hm; (first | omega | (simp at y1 y2; done) | (simp at y1 y2; omega))) (fun hm => by have y1 := og1.new q hq; have y2 := clt2 q hm; (first | omega | (simp at y1 y2; done) | (simp at y1 y2; omega))))
  have g82 : slR true 9 strE H8 ((fsRename x pa qa ge).1).data ag2 gF2 := slR.frame (og2.sl.to (by simp)) (fun q hq => keep8 q (by have := og2.sl.lt q hq; simp at this ⊢; omega) (fun hm => by have y1 := og2.new q hq; have y2 := clt1 q hm; (first | omega | (simp at y1 y2; done) | (simp at y1 y2; omega))) (fun hm => by have y1 := og2.new q hq; have y2 := clt2 q hm; (first | omega | (simp at y1 y2; done) | (simp at y1 y2; omega))))
  have w81 : slR true 103 (nodeE true) H8 ((fsRename x pa qa ge).1).nodes aw1 wF1 := slR.frame (ow1.sl.to (by simp)) (fun q hq => keep8 q (by have := ow1.sl.lt q hq; simp at this ⊢; omega) (fun hm => by have y1 := cnew q (.inl hm); have y2 := ow1.sl.lt q hq; (first | omega | (simp at y1 y2; done) | (simp at y1 y2; omega))) (fun hm => by have y1 := cnew q (.inr hm); have y2 := ow1.sl.lt q hq; (first | omega | (simp at y1 y2; done) | (simp at y1 y2; omega))))
  have w82 : slR true 9 strE H8 ((fsRename x pa qa ge).1).data aw2 wF2 := slR.frame (ow2.sl.to (by simp)) (fun q hq => keep8 q (by have := ow2.sl.lt q hq; simp at this ⊢; omega) (fun hm => by have y1 := cnew q (.inl hm); have y2 := ow2.sl.lt q hq; (first | omega | (simp at y1 y2; done) | (simp at y1 y2; omega))) (fun hm => by have y1 := cnew q (.inr hm); have y2 := ow2.sl.lt q hq; (first | omega | (simp at y1 y2; done) | (simp at y1 y2; omega))))
  have x81 : slR w xtNode (nodeE w) H8 x.nodes xa1 xF1 := slR.frame (xk1.to (by simp)) (fun q hq => keep8 q (by have := xk1.lt q hq; simp at this ⊢; omega) (fun hm => by have y1 := cnew q (.inl hm); have y2 := xk1.lt q hq; (first | omega | (simp at y1 y2; done) | (simp at y1 y2; omega))) (fun hm => by have y1 := cnew q (.inr hm); have y2 := xk1.lt q hq; (first | omega | (simp at y1 y2; done) | (simp at y1 y2; omega))))
  have x82 : slR w 9 strE H8 x.data xa2 xF2 := slR.frame (xk2.to (by simp)) (fun q hq => keep8 q (by have := xk2.lt q hq; simp at this ⊢; omega) (fun hm => by have y1 := cnew q (.inl hm); have y2 := xk2.lt q hq; (first | omega | (simp at y1 y2; done) | (simp at y1 y2; omega))) (fun hm => by have y1 := cnew q (.inr hm); have y2 := xk2.lt q hq; (first | omega | (simp at y1 y2; done) | (simp at y1 y2; omega))))
  have disw11 : ∀ q ∈ wF1, q ∉ gF1 := fun q hq hm => by have y1 := og1.new q hm; have y2 := ow1.sl.lt q hq; (first | omega | (simp at y1 y2; done) | (simp at y1 y2; omega))
  have disw12 : ∀ q ∈ wF1, q ∉ gF2 := fun q hq hm => by have y1 := og2.new q hm; have y2 := ow1.sl.lt q hq; (first | omega | (simp at y1 y2; done) | (simp at y1 y2; omega))
  have disx11 : ∀ q ∈ xF1, q ∉ gF1 := fun q hq hm => by have y1 := og1.new q hm; have y2 := xk1.lt q hq; (first | omega | (simp at y1 y2; done) | (simp at y1 y2; omega))
  have disx12 : ∀ q ∈ xF1, q ∉ gF2 := fun q hq hm => by have y1 := og2.new q hm; have y2 := xk1.lt q hq; (first | omega | (simp at y1 y2; done) | (simp at y1 y2; omega))
  have disw21 : ∀ q ∈ wF2, q ∉ gF1 := fun q hq hm => by have y1 := og1.new q hm; have y2 := ow2.sl.lt q hq; (first | omega | (simp at y1 y2; done) | (simp at y1 y2; omega))
  have disw22 : ∀ q ∈ wF2, q ∉ gF2 := fun q hq hm => by have y1 := og2.new q hm; have y2 := ow2.sl.lt q hq; (first | omega | (simp at y1 y2; done) | (simp at y1 y2; omega))
  have disx21 : ∀ q ∈ xF2, q ∉ gF1 := fun q hq hm => by have y1 := og1.new q hm; have y2 := xk2.lt q hq; (first | omega | (simp at y1 y2; done) | (simp at y1 y2; omega))
  have disx22 : ∀ q ∈ xF2, q ∉ gF2 := fun q hq hm => by have y1 := og2.new q hm; have y2 := xk2.lt q hq; (first | omega | (simp at y1 y2; done) | (simp at y1 y2; omega))
  have p2c08 := keepCell keep8 (q := h.length) (i := 0) (v := .slice xa1 x.nodes.length x.nodes.length) (fun hm => by have y1 := cnew _ (.inl hm); have y2 := clt1 _ hm; (first | omega | (simp at y1 y2; done) | (simp at y1 y2; omega))) (fun hm => by have y1 := cnew _ (.inr hm); have y2 := clt2 _ hm; (first | omega | (simp at y1 y2; done) | (simp at y1 y2; omega))) (by simp)
  have p2c18 := keepCell keep8 (q := h.length) (i := 1) (v := .slice xa2 x.data.length x.data.length) (fun hm => by have y1 := cnew _ (.inl hm); have y2 := clt1 _ hm; (first | omega | (simp at y1 y2; done) | (simp at y1 y2; omega))) (fun hm => by have y1 := cnew _ (.inr hm); have y2 := clt2 _ hm; (first | omega | (simp at y1 y2; done) | (simp at y1 y2; omega))) (by simp)
  have p6c08 := keepCell keep8 (q := (h.length + (xt.length + (ub.length + uw.length) + 1))) (i := 0) (v := .slice aw1 ((fsRename x pa qa ge).1).nodes.length ((fsRename x pa qa ge).1).nodes.length) (fun hm => by have y1 := cnew _ (.inl hm); have y2 := clt1 _ hm; (first | omega | (simp at y1 y2; done) | (simp at y1 y2; omega))) (fun hm => by have y1 := cnew _ (.inr hm); have y2 := clt2 _ hm; (first | omega | (simp at y1 y2; done) | (simp at y1 y2; omega))) (by simp)
  have p6c18 := keepCell keep8 (q := (h.length + (xt.length + (ub.length + uw.length) + 1))) (i := 1) (v := .slice aw2 ((fsRename x pa qa ge).1).data.length ((fsRename x pa qa ge).1).data.length) (fun hm => by have y1 := cnew _ (.inl hm); have y2 := clt1 _ hm; (first | omega | (simp at y1 y2; done) | (simp at y1 y2; omega))) (fun hm => by have y1 := cnew _ (.inr hm); have y2 := clt2 _ hm; (first | omega | (simp at y1 y2; done) | (simp at y1 y2; omega))) (by simp)
  have p10c08 := keepCell keep8 (q := (h.length + (xt.length + (ub.length + (uw.length + (uc.length + (ug.length + 1) + 1))) + 1))) (i := 0) (v := .slice ag1 ((fsRename x pa qa ge).1).nodes.length ((fsRename x pa qa ge).1).nodes.length) (fun hm => by have y1 := cnew _ (.inl hm); have y2 := clt1 _ hm; (first | omega | (simp at y1 y2; done) | (simp at y1 y2; omega))) (fun hm => by have y1 := cnew _ (.inr hm); have y2 := clt2 _ hm; (first | omega | (simp at y1 y2; done) | (simp at y1 y2; omega))) (by simp)
  have p10c18 := keepCell keep8 (q := (h.length + (xt.length + (ub.length + (uw.length + (uc.length + (ug.length + 1) + 1))) + 1))) (i := 1) (v := .slice ag2 ((fsRename x pa qa ge).1).data.length ((fsRename x pa qa ge).1).data.length) (fun hm => by have y1 := cnew _ (.inl hm); have y2 := clt1 _ hm; (first | omega | (simp at y1 y2; done) | (simp at y1 y2; omega))) (fun hm => by have y1 := cnew _ (.inr hm); have y2 := clt2 _ hm; (first | omega | (simp at y1 y2; done) | (simp at y1 y2; omega))) (by simp)
  have kx : ¬ (((kFs x 1 : Nat) : Int) < 0) := by omega
  simp [kx, p2c08, p2c18, p6c08, p6c18, p10c08, p10c18]
  refine callK0 (eqFs_c ((fsRename x pa qa ge).1) ((fsRename x pa qa ge).1) ag1 aw1 _ _ ag2 aw2 _ _ true true _ _ _ (g81.to (by simp)) (w81.to (by simp)) (g82.to (by simp)) (w82.to (by simp)) rlim) ?_
  rintro _ _ ⟨⟨u9, rfl⟩, rfl⟩
  simp [p2c08, p2c18, p6c08, p6c18, p10c08, p10c18]
  refine callK0 (markFs_c _ ag1 ag2 gF1 gF2 _ (Own.any (g81.to (by simp)) og1.nd) (Own.any (g82.to (by simp)) og2.nd) dg rnl) ?_
  rintro _ H10 ⟨rfl, om1, om2, keep10, len10⟩
  have w101 : slR true 103 (nodeE true) H10 ((fsRename x pa qa ge).1).nodes aw1 wF1 := slR.frame (w81.to (by simp)) (fun q hq => keep10 q (by have := w81.lt q hq; simp at this ⊢; omega) (disw11 q hq) (disw12 q hq))
  have w102 : slR true 9 strE H10 ((fsRename x pa qa ge).1).data aw2 wF2 := slR.frame (w82.to (by simp)) (fun q hq => keep10 q (by have := w82.lt q hq; simp at this ⊢; omega) (disw21 q hq) (disw22 q hq))
  have x101 : slR w xtNode (nodeE w) H10 x.nodes xa1 xF1 := slR.frame (x81.to (by simp)) (fun q hq => keep10 q (by have := x81.lt q hq; simp at this ⊢; omega) (disx11 q hq) (disx12 q hq))
  have x102 : slR w 9 strE H10 x.data xa2 xF2 := slR.frame (x82.to (by simp)) (fun q hq => keep10 q (by have := x82.lt q hq; simp at this ⊢; omega) (disx21 q hq) (disx22 q hq))
  have p2c010 := keepCell keep10 (q := h.length) (i := 0) (v := .slice xa1 x.nodes.length x.nodes.length) (fun hm => by have y1 := og1.new _ hm; have y2 := og1.sl.lt _ hm; (first | omega | (simp at y1 y2; done) | (simp at y1 y2; omega))) (fun hm => by have y1 := og2.new _ hm; have y2 := og2.sl.lt _ hm; (first | omega | (simp at y1 y2; done) | (simp at y1 y2; omega))) (by simp [p2c08])
  have p2c110 := keepCell keep10 (q := h.length) (i := 1) (v := .slice xa2 x.data.length x.data.length) (fun hm => by have y1 := og1.new _ hm; have y2 := og1.sl.lt _ hm; (first | omega | (simp at y1 y2; done) | (simp at y1 y2; omega))) (fun hm => by have y1 := og2.new _ hm; have y2 := og2.sl.lt _ hm; (first | omega | (simp at y1 y2; done) | (simp at y1 y2; omega))) (by simp [p2c18])
  have p6c010 := keepCell keep10 (q := (h.length + (xt.length + (ub.length + uw.length) + 1))) (i := 0) (v := .slice aw1 ((fsRename x pa qa ge).1).nodes.length ((fsRename x pa qa ge).1).nodes.length) (fun hm => by have y1 := og1.new _ hm; have y2 := og1.sl.lt _ hm; (first | omega | (simp at y1 y2; done) | (simp at y1 y2; omega))) (fun hm => by have y1 := og2.new _ hm; have y2 := og2.sl.lt _ hm; (first | omega | (simp at y1 y2; done) | (simp at y1 y2; omega))) (by simp [p6c08])
  have p6c110 := keepCell keep10 (q := (h.length + (xt.length + (ub.length + uw.length) + 1))) (i := 1) (v := .slice aw2 ((fsRename x pa qa ge).1).data.length ((fsRename x pa qa ge).1).data.length) (fun hm => by have y1 := og1.new _ hm; have y2 := og1.sl.lt _ hm; (first | omega | (simp at y1 y2; done) | (simp at y1 y2; omega))) (fun hm => by have y1 := og2.new _ hm; have y2 := og2.sl.lt _ hm; (first | omega | (simp at y1 y2; done) | (simp at y1 y2; omega))) (by simp [p6c18])
  have p10c010 := keepCell keep10 (q := (h.length + (xt.length + (ub.length + (uw.length + (uc.length + (ug.length + 1) + 1))) + 1))) (i := 0) (v := .slice ag1 ((fsRename x pa qa ge).1).nodes.length ((fsRename x pa qa ge).1).nodes.length) (fun hm => by have y1 := og1.new _ hm; have y2 := og1.sl.lt _ hm; (first | omega | (simp at y1 y2; done) | (simp at y1 y2; omega))) (fun hm => by have y1 := og2.new _ hm; have y2 := og2.sl.lt _ hm; (first | omega | (simp at y1 y2; done) | (simp at y1 y2; omega))) (by simp [p10c08])
  have p10c110 := keepCell keep10 (q := (h.length + (xt.length + (ub.length + (uw.length + (uc.length + (ug.length + 1) + 1))) + 1))) (i := 1) (v := .slice ag2 ((fsRename x pa qa ge).1).data.length ((fsRename x pa qa ge).1).data.length) (fun hm => by have y1 := og1.new _ hm; have y2 := og1.sl.lt _ hm; (first | omega | (simp at y1 y2; done) | (simp at y1 y2; omega))) (fun hm => by have y1 := og2.new _ hm; have y2 := og2.sl.lt _ hm; (first | omega | (simp at y1 y2; done) | (simp at y1 y2; omega))) (by simp [p10c18])
  simp [p2c010, p2c110, p6c010, p6c110, p10c010, p10c110]
  have kr : ¬ (((kFs ((fsRename x pa qa ge).1) 1 : Nat) : Int) < 0) := by omega
  refine callK0 (heldFs_c _ ag1 ag2 gF1 gF2 _ om1.sl om2.sl rnl) ?_
  rintro _ _ ⟨⟨u11, rfl⟩, rfl⟩
  simp [kr, p2c010, p2c110, p6c010, p6c110, p10c010, p10c110]
  refine callK0 (toFs_c x xa1 xa2 xF1 xF2 w xtNode _ (x101.to (by simp)) (x102.to (by simp)) xlim) ?_
  rintro _ _ ⟨ay1, _, ay2, _, rfl, oy⟩
  obtain ⟨uy, rfl⟩ := oy.ext.pre
  obtain ⟨yF1, yF2, ys1, ys2, ey⟩ := fsR oy.r
  simp
  refine callK0 (fsRename_impl_c x ay1 ay2 _ _ true _ _ (ys1.to (by simp)) (ys2.to (by simp)) xnl pa qa ge (by omega) (by omega)) ?_
  rintro _ _ ⟨_, rfl, ah1, hF1, ah2, hF2, rfl, oh1, oh2, dh⟩
  obtain ⟨uh, rfl⟩ := oh1.ext.pre
  simp [p2c010, p2c110, p6c010, p6c110, p10c010, p10c110]
  refine callK0 (eqFs_c ((fsRename x pa qa ge).1) ((fsRename x pa qa ge).1) ah1 aw1 _ _ ah2 aw2 _ _ true true _ _ _ (oh1.sl.to (by simp)) (w101.to (by simp)) (oh2.sl.to (by simp)) (w102.to (by simp)) rlim) ?_
  rintro _ _ ⟨⟨u14, rfl⟩, rfl⟩
  simp [p2c010, p2c110, p6c010, p6c110, p10c010, p10c110]
  refine callK0 (heldFs_c _ ag1 ag2 gF1 gF2 _ (om1.sl.to (by simp)) (om2.sl.to (by simp)) rnl) ?_
  rintro _ _ ⟨⟨u15, rfl⟩, rfl⟩
  simp [kr]

theorem FnExactFsRename_v (h : Hp) (avs : List Value) (hv : All2 (fun V av => V h av) [(VS (fsE false 116) Fs.bd), (V1 strE fun s => s.length ≤ maxLen), (V1 strE fun s => s.length ≤ maxLen), (V1 intE fun n => (Lit.int .i64 n).wf = true)] avs) : ACall Tryz.prog 7 avs h fun r _ => r = .bool true := by
  obtain ⟨v0, vs0, rfl, q0, hv⟩ := All2.cons_iff.1 hv
  obtain ⟨v1, vs1, rfl, q1, hv⟩ := All2.cons_iff.1 hv
  obtain ⟨v2, vs2, rfl, q2, hv⟩ := All2.cons_iff.1 hv
  obtain ⟨v3, vs3, rfl, q3, hv⟩ := All2.cons_iff.1 hv
  obtain rfl := All2.nil_iff.1 hv
  obtain ⟨x, _, _, rfl, ⟨xa1, xF1, xa2, xF2, rfl, _, xk1, xk2⟩, xbd⟩ := q0
  obtain ⟨pa, _, ⟨pae, _⟩, paw⟩ := q1
  obtain rfl : v1 = _ := List.cons.inj pae |>.1
  obtain ⟨qa, _, ⟨qae, _⟩, qaw⟩ := q2
  obtain rfl : v2 = _ := List.cons.inj qae |>.1
  obtain ⟨ge, _, ⟨gee, _⟩, gew⟩ := q3
  obtain rfl : v3 = _ := List.cons.inj gee |>.1
  exact FnExactFsRename_c x xa1 xa2 xF1 xF2 pa qa ge false _ h xk1 xk2 xbd paw qaw
end Go.Proofs.YtcndiilogcembaaGreat.Hz
