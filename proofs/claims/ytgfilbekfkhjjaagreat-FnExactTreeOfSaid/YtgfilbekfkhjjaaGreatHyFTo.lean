/- The law of TreeOf. -/
import Derived.Test.YtgfilbekfkhjjaaGreatHyHA
import Derived.Test.YtgfilbekfkhjjaaGreatHyHB
import Derived.Test.YtgfilbekfkhjjaaGreatHyGF
import Derived.Test.YtgfilbekfkhjjaaGreatHyGH
import Derived.Test.YtgfilbekfkhjjaaGreatHyGD
import Derived.Test.YtgfilbekfkhjjaaGreatHyGJ
namespace Go.Proofs.YtgfilbekfkhjjaaGreat.Hz
open Go.RowKit
set_option linter.unusedVariables false
set_option linter.unusedSimpArgs false
set_option maxRecDepth 20000

set_option maxHeartbeats 4000000 in
theorem FnExactTreeOf_c (x : Fs) (xa1 xa2 : Option Addr) (xF1 xF2 : List Nat) (w : Bool) (xtNode : TypeId) (h : Hp) (xk1 : slR w xtNode (nodeE w) h x.nodes xa1 xF1) (xk2 : slR w 9 strE h x.data xa2 xF2) (xbd : x.bd) :
    ACall Tryz.prog 3 [.agg #[.slice xa1 x.nodes.length x.nodes.length, .slice xa2 x.data.length x.data.length]] h fun r _ => r = .bool true := by
  refine acall mixed Tryz.func3 rfl (by kernel_rfl) ?_
  have h4 : maxLen = 9223372036854775807 := by decide
  simp [Tryz.f3]
  refine callK0 (szFs_c x xa1 xa2 xF1 xF2 w xtNode 1048576 _ (xk1.to (by simp)) (xk2.to (by simp)) (by omega) (by omega) xbd) ?_
  rintro _ _ ⟨⟨xt, rfl⟩, xn0, rfl, xn1, xn2⟩
  simp
  refine asplitK_intro (fun xc => ?_) (fun xc => ?_) <;> simp at xc <;> simp
  have xnl : x.nl ≤ 1048576 := by have := xn2 xc; omega
  have xlim := Fs.lim_of x xnl
  have hR : (treeItems x).length ≤ 1048576 := Nat.le_trans (treeItems_le x) (by omega)
  obtain ⟨m1, m2, m3, m4⟩ := kFs_le x xnl
  refine callK0 (toFs_c x xa1 xa2 xF1 xF2 w xtNode _ (xk1.to (by simp)) (xk2.to (by simp)) xlim) ?_
  rintro _ _ ⟨ab1, _, ab2, _, rfl, ob⟩
  obtain ⟨ub, rfl⟩ := ob.ext.pre
  obtain ⟨bF1, bF2, bs1, bs2, eb⟩ := fsR ob.r
  simp
  refine callK0 (treeOf_spec_c x ab1 ab2 _ _ true _ _ (bs1.to (by simp)) (bs2.to (by simp)) xnl) ?_
  rintro _ _ ⟨aw, Fw, rfl, sw, xw⟩
  obtain ⟨uw, rfl⟩ := xw.pre
  simp
  refine callK0 (toFs_c x xa1 xa2 xF1 xF2 w xtNode _ (xk1.to (by simp)) (xk2.to (by simp)) xlim) ?_
  rintro _ _ ⟨ac1, _, ac2, _, rfl, oc⟩
  obtain ⟨uc, rfl⟩ := oc.ext.pre
  obtain ⟨cF1, cF2, cs1, cs2, ec⟩ := fsR oc.r
  simp
  refine callK0 (treeOf_impl_c x ac1 ac2 _ _ true _ _ (cs1.to (by simp)) (cs2.to (by simp)) xnl) ?_
  rintro _ _ ⟨ag, Fg, rfl, og⟩
  obtain ⟨ug, rfl⟩ := og.ext.pre
  simp
  refine callK0 (eqTree_c (treeItems x) (treeItems x) ag aw Fg Fw true true _ _ _ (og.sl.to (by simp)) (sw.to (by simp)) hR) ?_
  rintro _ _ ⟨⟨u5, rfl⟩, rfl⟩
  simp
  refine drawK true (by kernel_rfl) ?_
  simp
  refine callK (toFs_c x xa1 xa2 xF1 xF2 w xtNode _ (xk1.to (by simp)) (xk2.to (by simp)) xlim) ?_
  rintro _ _ ⟨ad1, _, ad2, _, rfl, od⟩
  obtain ⟨ud, rfl⟩ := od.ext.pre
  refine ⟨fun _ => od.ext, ?_⟩
  obtain ⟨dF1, dF2, ds1, ds2, ed⟩ := fsR od.r
  simp
  refine callK (eqFs_c x x ac1 ad1 _ _ ac2 ad2 _ _ true true _ _ _ (cs1.to (by simp)) (ds1.to (by simp)) (cs2.to (by simp)) (ds2.to (by simp)) xlim) ?_
  rintro _ _ ⟨⟨u7, rfl⟩, rfl⟩
  refine ⟨fun _ => Ext.push _ _, ?_⟩
  simp
  have cnd := oc.nd
  rw [ec] at cnd
  have cnew : ∀ q, q ∈ cF1 ∨ q ∈ cF2 → _ ≤ q := fun q hq => oc.new q (by rw [ec]; exact List.mem_append.2 hq)
  have clt1 := cs1.lt
  have clt2 := cs2.lt
  simp at cnew clt1 clt2
  have cn := List.nodup_append.1 cnd
  refine callK0 (markFs_c x ac1 ac2 cF1 cF2 _ (Own.any (cs1.to (by simp)) cn.1) (Own.any (cs2.to (by simp)) cn.2.1) (fun q h1 h2 => cn.2.2 q h1 q h2 rfl) xnl) ?_
  rintro _ H8 ⟨rfl, -, -, keep8, len8⟩
  have g8 : slR true 72 itemE H8 (treeItems x) ag Fg := slR.frame (og.sl.to (by simp)) (fun q hq => keep8 q (by have := og.sl.lt q hq; simp at this ⊢; omega) (fun hm => by have y1 := og.new q hq; have y2 := clt1 q hm; (first | omega | (simp at y1 y2; done) | (simp at y1 y2; omega))) (fun hm => by have y1 := og.new q hq; have y2 := clt2 q hm; (first | omega | (simp at y1 y2; done) | (simp at y1 y2; omega))))
  have w8 : slR true 72 itemE H8 (treeItems x) aw Fw := slR.frame (sw.to (by simp)) (fun q hq => keep8 q (by have := sw.lt q hq; simp at this ⊢; omega) (fun hm => by have y1 := cnew q (.inl hm); have y2 := sw.lt q hq; (first | omega | (simp at y1 y2; done) | (simp at y1 y2; omega))) (fun hm => by have y1 := cnew q (.inr hm); have y2 := sw.lt q hq; (first | omega | (simp at y1 y2; done) | (simp at y1 y2; omega))))
  have x81 : slR w xtNode (nodeE w) H8 x.nodes xa1 xF1 := slR.frame (xk1.to (by simp)) (fun q hq => keep8 q (by have := xk1.lt q hq; simp at this ⊢; omega) (fun hm => by have y1 := cnew q (.inl hm); have y2 := xk1.lt q hq; (first | omega | (simp at y1 y2; done) | (simp at y1 y2; omega))) (fun hm => by have y1 := cnew q (.inr hm); have y2 := xk1.lt q hq; (first | omega | (simp at y1 y2; done) | (simp at y1 y2; omega))))
  have x82 : slR w 9 strE H8 x.data xa2 xF2 := slR.frame (xk2.to (by simp)) (fun q hq => keep8 q (by have := xk2.lt q hq; simp at this ⊢; omega) (fun hm => by have y1 := cnew q (.inl hm); have y2 := xk2.lt q hq; (first | omega | (simp at y1 y2; done) | (simp at y1 y2; omega))) (fun hm => by have y1 := cnew q (.inr hm); have y2 := xk2.lt q hq; (first | omega | (simp at y1 y2; done) | (simp at y1 y2; omega))))
  have disw : ∀ q ∈ Fw, q ∉ Fg := fun q hq hm => by have y1 := og.new q hm; have y2 := sw.lt q hq; (first | omega | (simp at y1 y2; done) | (simp at y1 y2; omega))
  have disx1 : ∀ q ∈ xF1, q ∉ Fg := fun q hq hm => by have y1 := og.new q hm; have y2 := xk1.lt q hq; (first | omega | (simp at y1 y2; done) | (simp at y1 y2; omega))
  have disx2 : ∀ q ∈ xF2, q ∉ Fg := fun q hq hm => by have y1 := og.new q hm; have y2 := xk2.lt q hq; (first | omega | (simp at y1 y2; done) | (simp at y1 y2; omega))
  have p2c08 := keepCell keep8 (q := h.length) (i := 0) (v := .slice xa1 x.nodes.length x.nodes.length) (fun hm => by have y1 := cnew _ (.inl hm); have y2 := clt1 _ hm; (first | omega | (simp at y1 y2; done) | (simp at y1 y2; omega))) (fun hm => by have y1 := cnew _ (.inr hm); have y2 := clt2 _ hm; (first | omega | (simp at y1 y2; done) | (simp at y1 y2; omega))) (by simp)
  have p2c18 := keepCell keep8 (q := h.length) (i := 1) (v := .slice xa2 x.data.length x.data.length) (fun hm => by have y1 := cnew _ (.inl hm); have y2 := clt1 _ hm; (first | omega | (simp at y1 y2; done) | (simp at y1 y2; omega))) (fun hm => by have y1 := cnew _ (.inr hm); have y2 := clt2 _ hm; (first | omega | (simp at y1 y2; done) | (simp at y1 y2; omega))) (by simp)
  have p6c08 := keepCell keep8 (q := (h.length + (xt.length + (ub.length + uw.length) + 1))) (i := 0) (v := .slice aw (treeItems x).length (treeItems x).length) (fun hm => by have y1 := cnew _ (.inl hm); have y2 := clt1 _ hm; (first | omega | (simp at y1 y2; done) | (simp at y1 y2; omega))) (fun hm => by have y1 := cnew _ (.inr hm); have y2 := clt2 _ hm; (first | omega | (simp at y1 y2; done) | (simp at y1 y2; omega))) (by simp)
  have p10c08 := keepCell keep8 (q := (h.length + (xt.length + (ub.length + (uw.length + (uc.length + (ug.length + 1) + 1))) + 1))) (i := 0) (v := .slice ag (treeItems x).length (treeItems x).length) (fun hm => by have y1 := cnew _ (.inl hm); have y2 := clt1 _ hm; (first | omega | (simp at y1 y2; done) | (simp at y1 y2; omega))) (fun hm => by have y1 := cnew _ (.inr hm); have y2 := clt2 _ hm; (first | omega | (simp at y1 y2; done) | (simp at y1 y2; omega))) (by simp)
  have kx : ¬ (((kFs x 1 : Nat) : Int) < 0) := by omega
  have kr : ¬ ((1 : Int) + 4 * ((treeItems x).length : Int) < 0) := by omega
  simp [kx, p2c08, p2c18, p6c08, p10c08]
  refine callK0 (eqTree_c (treeItems x) (treeItems x) ag aw Fg Fw true true _ _ _ (g8.to (by simp)) (w8.to (by simp)) hR) ?_
  rintro _ _ ⟨⟨u9, rfl⟩, rfl⟩
  simp [p2c08, p2c18, p6c08, p10c08]
  refine callK0 (markTree_c (treeItems x) 1 ag Fg _ _ (Own.any (g8.to (by simp)) og.nd) (by omega)) ?_
  rintro _ H10 ⟨rfl, om, keep10, len10⟩
  have w10 : slR true 72 itemE H10 (treeItems x) aw Fw := slR.frame (w8.to (by simp)) (fun q hq => keep10 q (by have := w8.lt q hq; simp at this ⊢; omega) (disw q hq))
  have x101 : slR w xtNode (nodeE w) H10 x.nodes xa1 xF1 := slR.frame (x81.to (by simp)) (fun q hq => keep10 q (by have := x81.lt q hq; simp at this ⊢; omega) (disx1 q hq))
  have x102 : slR w 9 strE H10 x.data xa2 xF2 := slR.frame (x82.to (by simp)) (fun q hq => keep10 q (by have := x82.lt q hq; simp at this ⊢; omega) (disx2 q hq))
  have p2c010 := keepCell (F2 := []) (fun q hq h1 _ => keep10 q hq h1) (q := h.length) (i := 0) (v := .slice xa1 x.nodes.length x.nodes.length) (fun hm => by have y1 := og.new _ hm; have y2 := og.sl.lt _ hm; (first | omega | (simp at y1 y2; done) | (simp at y1 y2; omega))) (by simp) (by simp [p2c08])
  have p2c110 := keepCell (F2 := []) (fun q hq h1 _ => keep10 q hq h1) (q := h.length) (i := 1) (v := .slice xa2 x.data.length x.data.length) (fun hm => by have y1 := og.new _ hm; have y2 := og.sl.lt _ hm; (first | omega | (simp at y1 y2; done) | (simp at y1 y2; omega))) (by simp) (by simp [p2c18])
  have p6c010 := keepCell (F2 := []) (fun q hq h1 _ => keep10 q hq h1) (q := (h.length + (xt.length + (ub.length + uw.length) + 1))) (i := 0) (v := .slice aw (treeItems x).length (treeItems x).length) (fun hm => by have y1 := og.new _ hm; have y2 := og.sl.lt _ hm; (first | omega | (simp at y1 y2; done) | (simp at y1 y2; omega))) (by simp) (by simp [p6c08])
  have p10c010 := keepCell (F2 := []) (fun q hq h1 _ => keep10 q hq h1) (q := (h.length + (xt.length + (ub.length + (uw.length + (uc.length + (ug.length + 1) + 1))) + 1))) (i := 0) (v := .slice ag (treeItems x).length (treeItems x).length) (fun hm => by have y1 := og.new _ hm; have y2 := og.sl.lt _ hm; (first | omega | (simp at y1 y2; done) | (simp at y1 y2; omega))) (by simp) (by simp [p10c08])
  simp [kr, p2c010, p2c110, p6c010, p10c010]
  refine callK0 (heldTree_c (treeItems x).length 1 ag Fg true _ _ (om.sl.to (by simp)) (by omega)) ?_
  rintro _ _ ⟨⟨u11, rfl⟩, rfl⟩
  simp [kr, p2c010, p2c110, p6c010, p10c010]
  refine callK0 (toFs_c x xa1 xa2 xF1 xF2 w xtNode _ (x101.to (by simp)) (x102.to (by simp)) xlim) ?_
  rintro _ _ ⟨ay1, _, ay2, _, rfl, oy⟩
  obtain ⟨uy, rfl⟩ := oy.ext.pre
  obtain ⟨yF1, yF2, ys1, ys2, ey⟩ := fsR oy.r
  simp [p2c010, p2c110, p6c010, p10c010]
  refine callK0 (treeOf_impl_c x ay1 ay2 _ _ true _ _ (ys1.to (by simp)) (ys2.to (by simp)) xnl) ?_
  rintro _ _ ⟨ah, Fh, rfl, oh⟩
  obtain ⟨uh, rfl⟩ := oh.ext.pre
  simp [p2c010, p2c110, p6c010, p10c010]
  refine callK0 (eqTree_c (treeItems x) (treeItems x) ah aw Fh Fw true true _ _ _ (oh.sl.to (by simp)) (w10.to (by simp)) hR) ?_
  rintro _ _ ⟨⟨u14, rfl⟩, rfl⟩
  simp [p2c010, p2c110, p6c010, p10c010]
  refine callK0 (heldTree_c (treeItems x).length 1 ag Fg true _ _ (om.sl.to (by simp)) (by omega)) ?_
  rintro _ _ ⟨⟨u15, rfl⟩, rfl⟩
  simp [kr]

theorem FnExactTreeOf_v (h : Hp) (avs : List Value) (hv : All2 (fun V av => V h av) [(VS (fsE false 98) Fs.bd)] avs) : ACall Tryz.prog 3 avs h fun r _ => r = .bool true := by
  obtain ⟨v0, vs0, rfl, q0, hv⟩ := All2.cons_iff.1 hv
  obtain rfl := All2.nil_iff.1 hv
  obtain ⟨x, _, _, rfl, ⟨xa1, xF1, xa2, xF2, rfl, _, xk1, xk2⟩, xbd⟩ := q0
  exact FnExactTreeOf_c x xa1 xa2 xF1 xF2 false _ h xk1 xk2 xbd
end Go.Proofs.YtgfilbekfkhjjaaGreat.Hz
