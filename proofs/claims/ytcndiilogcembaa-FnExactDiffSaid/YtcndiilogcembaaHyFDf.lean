/- The law of Diff. -/
import Derived.Test.YtcndiilogcembaaHyGW
import Derived.Test.YtcndiilogcembaaHyGF
import Derived.Test.YtcndiilogcembaaHyGH
import Derived.Test.YtcndiilogcembaaHyGD
import Derived.Test.YtcndiilogcembaaHyGJ
namespace Go.Proofs.Ytcndiilogcembaa.Hz
open Go.RowKit
set_option linter.unusedVariables false
set_option linter.unusedSimpArgs false
set_option maxRecDepth 20000

theorem markFsAt_c (f : Fs) (k : Nat) (a1 a2 : Option Addr) (F1 F2 : List Nat) (h : Hp) (o1 : Own [] 98 (nodeE true) h f.nodes a1 F1) (o2 : Own [] 9 strE h f.data a2 F2) (dis : ∀ q ∈ F1, q ∉ F2) (hl : f.nl ≤ 1048576) (hk : k ≤ 20000000) :
    ACall Try.prog 28 [.agg #[.slice a1 f.nodes.length f.nodes.length, .slice a2 f.data.length f.data.length], .int .i64 k] h fun r h' => r = .int .i64 (kFs f k : Nat) ∧ (∀ q, q < h.length → q ∉ F1 → q ∉ F2 → h'[q]? = h[q]?) ∧ h.length ≤ h'.length := by
  refine acall mixed Try.func28 rfl (by kernel_rfl) ?_
  obtain ⟨b1, b2, b3, b4⟩ := kFs_le f hl
  have b5 := kAt_le f.nodes k f.nodes.length
  simp [Try.f28]
  have hm1 := markNodeS_c f.nodes k a1 F1 _ (o1.to (h' := h ++ [⟨true, true, 50, [.slice a1 f.nodes.length f.nodes.length, .slice a2 f.data.length f.data.length]⟩]) ⟨_, rfl⟩) (by omega)
  refine callK0 hm1 ?_
  rintro _ H1 ⟨rfl, om1, keep1, len1⟩
  have hbx : h.length ∉ F1 := fun hm => Nat.lt_irrefl _ (o1.sl.lt _ hm)
  have hcell : cellAt H1 h.length 1 = some (.slice a2 f.data.length f.data.length) := by
    rw [cellAt_get (keep1 h.length (by simp) hbx)]
    simp
  simp at len1
  have o2' : Own [] 9 strE H1 f.data a2 F2 := Own.any (slR.frame (o2.sl.to (by simp)) (fun q hq => keep1 q (by have := o2.sl.lt q hq; simp; omega) (fun hm => dis q hm hq))) o2.nd
  simp [hcell]
  refine callK0 (markStringS_c f.data (kAt f.nodes k f.nodes.length) a2 F2 H1 o2' (by omega)) ?_
  rintro _ H2 ⟨rfl, om2, keep2, len2⟩
  simp
  refine ⟨by simp [kFs], fun q hq hn1 hn2 => ?_, by omega⟩
  rw [keep2 q (by omega) hn2, keep1 q (by simp; omega) hn1, List.getElem?_append_left hq]

set_option maxHeartbeats 8000000 in
theorem FnExactDiff_c (w : Bool) (h : Hp) (x : Fs) (xa1 xa2 : Option Addr) (xF1 xF2 : List Nat) (xtNode : TypeId) (xk1 : slR w xtNode (nodeE w) h x.nodes xa1 xF1) (xk2 : slR w 9 strE h x.data xa2 xF2) (xbd : x.bd) (y : Fs) (ya1 ya2 : Option Addr) (yF1 yF2 : List Nat) (ytNode : TypeId) (yk1 : slR w ytNode (nodeE w) h y.nodes ya1 yF1) (yk2 : slR w 9 strE h y.data ya2 yF2) (ybd : y.bd) :
    ACall Try.prog 6 [.agg #[.slice xa1 x.nodes.length x.nodes.length, .slice xa2 x.data.length x.data.length], .agg #[.slice ya1 y.nodes.length y.nodes.length, .slice ya2 y.data.length y.data.length]] h fun r _ => r = .bool true := by
  refine acall mixed Try.func6 rfl (by kernel_rfl) ?_
  have h4 : maxLen = 9223372036854775807 := by decide
  simp [Try.f6]
  refine callK0 (szFs_c x xa1 xa2 xF1 xF2 w xtNode 1048576 _ (xk1.to (by simp)) (xk2.to (by simp)) (by omega) (by omega) xbd) ?_
  rintro _ _ ⟨⟨xt, rfl⟩, xn0, rfl, xn1, xn2⟩
  simp
  refine asplitK_intro (fun xc => ?_) (fun xc => ?_) <;> simp at xc <;> simp
  have xnl : x.nl ≤ 1048576 := by have := xn2 xc; omega
  have xlim := Fs.lim_of x xnl
  obtain ⟨xm1, xm2, xm3, xm4⟩ := kFs_le x xnl
  refine callK0 (szFs_c y ya1 ya2 yF1 yF2 w ytNode xn0 _ (yk1.to (by simp)) (yk2.to (by simp)) (by omega) (by omega) ybd) ?_
  rintro _ _ ⟨⟨yt, rfl⟩, yn0, rfl, yn1, yn2⟩
  simp
  refine asplitK_intro (fun yc => ?_) (fun yc => ?_) <;> simp at yc <;> simp
  have ynl : y.nl ≤ 1048576 := by have := yn2 yc; omega
  have ylim := Fs.lim_of y ynl
  obtain ⟨ym1, ym2, ym3, ym4⟩ := kFs_le y ynl
  have hR : (diff x y).length ≤ 1048576 := diff_len x y
  refine drawK true (by kernel_rfl) ?_
  simp
  refine callK (toFs_c x xa1 xa2 xF1 xF2 w xtNode _ (xk1.to (by simp)) (xk2.to (by simp)) xlim) ?_
  rintro _ _ ⟨ab1, _, ab2, _, rfl, ob⟩
  obtain ⟨ub, rfl⟩ := ob.ext.pre
  refine ⟨fun _ => ob.ext, ?_⟩
  obtain ⟨bF1, bF2, bs1, bs2, eb⟩ := fsR ob.r
  simp
  refine callK (toFs_c y ya1 ya2 yF1 yF2 w ytNode _ (yk1.to (by simp)) (yk2.to (by simp)) ylim) ?_
  rintro _ _ ⟨abb1, _, abb2, _, rfl, obb⟩
  obtain ⟨ubb, rfl⟩ := obb.ext.pre
  refine ⟨fun _ => obb.ext, ?_⟩
  obtain ⟨bbF1, bbF2, bbs1, bbs2, ebb⟩ := fsR obb.r
  simp
  refine callK (diff_spec_c x y ab1 ab2 _ _ true _ abb1 abb2 _ _ true _ _ (bs1.to (by simp)) (bs2.to (by simp)) xnl (bbs1.to (by simp)) (bbs2.to (by simp)) ynl) ?_
  rintro _ _ ⟨aw, Fw, rfl, ow⟩
  obtain ⟨uw, rfl⟩ := ow.ext.pre
  refine ⟨fun _ => ow.ext, ?_⟩
  simp
  refine callK0 (toFs_c x xa1 xa2 xF1 xF2 w xtNode _ (xk1.to (by simp)) (xk2.to (by simp)) xlim) ?_
  rintro _ _ ⟨ac1, _, ac2, _, rfl, oc⟩
  obtain ⟨uc, rfl⟩ := oc.ext.pre
  obtain ⟨cF1, cF2, cs1, cs2, ec⟩ := fsR oc.r
  simp
  refine callK0 (toFs_c y ya1 ya2 yF1 yF2 w ytNode _ (yk1.to (by simp)) (yk2.to (by simp)) ylim) ?_
  rintro _ _ ⟨ae1, _, ae2, _, rfl, oe⟩
  obtain ⟨ue, rfl⟩ := oe.ext.pre
  obtain ⟨eF1, eF2, es1, es2, ee⟩ := fsR oe.r
  simp
  refine callK0 (diff_impl_c x y ac1 ac2 _ _ true _ ae1 ae2 _ _ true _ _ (cs1.to (by simp)) (cs2.to (by simp)) xnl (es1.to (by simp)) (es2.to (by simp)) ynl) ?_
  rintro _ _ ⟨ag, Fg, rfl, og⟩
  obtain ⟨ug, rfl⟩ := og.ext.pre
  simp
  refine callK0 (eqPutS_c (diff x y) (diff x y) ag aw Fg Fw true true _ _ _ (og.sl.to (by simp)) (ow.sl.to (by simp)) hR) ?_
  rintro _ _ ⟨⟨u5, rfl⟩, rfl⟩
  simp
  refine drawK true (by kernel_rfl) ?_
  simp
  refine callK (toFs_c x xa1 xa2 xF1 xF2 w xtNode _ (xk1.to (by simp)) (xk2.to (by simp)) xlim) ?_
  rintro _ _ ⟨ad1, _, ad2, _, rfl, od⟩
  obtain ⟨ud, rfl⟩ := od.ext.pre
  refine ⟨fun _ => od.ext, ?_⟩
  obtain ⟨dF1, dF2, ds1, ds2, ed⟩ := fsR od.r
  simp
  refine callK (eqFs_c x x ac1 ad1 _ _ ac2 ad2 _ _ true true _ _ _ (cs1.to (by simp)) (ds1.to (by simp)) (cs2.to (by simp)) (ds2.to (by simp)) xlim) ?_
  rintro _ _ ⟨⟨uqx, rfl⟩, rfl⟩
  refine ⟨fun _ => Ext.push _ _, ?_⟩
  simp
  refine drawK true (by kernel_rfl) ?_
  simp
  refine callK (toFs_c y ya1 ya2 yF1 yF2 w ytNode _ (yk1.to (by simp)) (yk2.to (by simp)) ylim) ?_
  rintro _ _ ⟨add1, _, add2, _, rfl, odd⟩
  obtain ⟨udd, rfl⟩ := odd.ext.pre
  refine ⟨fun _ => odd.ext, ?_⟩
  obtain ⟨ddF1, ddF2, dds1, dds2, edd⟩ := fsR odd.r
  simp
  refine callK (eqFs_c y y ae1 add1 _ _ ae2 add2 _ _ true true _ _ _ (es1.to (by simp)) (dds1.to (by simp)) (es2.to (by simp)) (dds2.to (by simp)) ylim) ?_
  rintro _ _ ⟨⟨uqy, rfl⟩, rfl⟩
  refine ⟨fun _ => Ext.push _ _, ?_⟩
  simp
  have nodc := oc.nd
  rw [ec] at nodc
  have cnew : ∀ q, q ∈ cF1 ∨ q ∈ cF2 → _ ≤ q := fun q hq => oc.new q (by rw [ec]; exact List.mem_append.2 hq)
  have clt1 := cs1.lt
  have clt2 := cs2.lt
  simp at cnew clt1 clt2
  have cn := List.nodup_append.1 nodc
  have node := oe.nd
  rw [ee] at node
  have enew : ∀ q, q ∈ eF1 ∨ q ∈ eF2 → _ ≤ q := fun q hq => oe.new q (by rw [ee]; exact List.mem_append.2 hq)
  have elt1 := es1.lt
  have elt2 := es2.lt
  simp at enew elt1 elt2
  have en := List.nodup_append.1 node
  refine callK0 (markFsAt_c x 1 ac1 ac2 cF1 cF2 _ (Own.any (cs1.to (by simp)) cn.1) (Own.any (cs2.to (by simp)) cn.2.1) (fun q h1 h2 => cn.2.2 q h1 q h2 rfl) xnl (by omega)) ?_
  rintro _ H8 ⟨rfl, keep8, len8⟩
  have g8 : slR true 105 putE H8 (diff x y) ag Fg := slR.frame (og.sl.to (by simp)) (fun q hq => keep8 q (by have := og.sl.lt q hq; simp at this ⊢; omega) (fun hm => by have y1 := og.new q hq; have y2 := clt1 q hm; (first | omega | (simp at y1 y2; done) | (simp at y1 y2; omega))) (fun hm => by have y1 := og.new q hq; have y2 := clt2 q hm; (first | omega | (simp at y1 y2; done) | (simp at y1 y2; omega))))
  have w8 : slR true 105 putE H8 (diff x y) aw Fw := slR.frame (ow.sl.to (by simp)) (fun q hq => keep8 q (by have := ow.sl.lt q hq; simp at this ⊢; omega) (fun hm => by have y1 := cnew q (.inl hm); have y2 := ow.sl.lt q hq; (first | omega | (simp at y1 y2; done) | (simp at y1 y2; omega))) (fun hm => by have y1 := cnew q (.inr hm); have y2 := ow.sl.lt q hq; (first | omega | (simp at y1 y2; done) | (simp at y1 y2; omega))))
  have x18 : slR w xtNode (nodeE w) H8 x.nodes xa1 xF1 := slR.frame (xk1.to (by simp)) (fun q hq => keep8 q (by have := xk1.lt q hq; simp at this ⊢; omega) (fun hm => by have y1 := cnew q (.inl hm); have y2 := xk1.lt q hq; (first | omega | (simp at y1 y2; done) | (simp at y1 y2; omega))) (fun hm => by have y1 := cnew q (.inr hm); have y2 := xk1.lt q hq; (first | omega | (simp at y1 y2; done) | (simp at y1 y2; omega))))
  have x28 : slR w 9 strE H8 x.data xa2 xF2 := slR.frame (xk2.to (by simp)) (fun q hq => keep8 q (by have := xk2.lt q hq; simp at this ⊢; omega) (fun hm => by have y1 := cnew q (.inl hm); have y2 := xk2.lt q hq; (first | omega | (simp at y1 y2; done) | (simp at y1 y2; omega))) (fun hm => by have y1 := cnew q (.inr hm); have y2 := xk2.lt q hq; (first | omega | (simp at y1 y2; done) | (simp at y1 y2; omega))))
  have y18 : slR w ytNode (nodeE w) H8 y.nodes ya1 yF1 := slR.frame (yk1.to (by simp)) (fun q hq => keep8 q (by have := yk1.lt q hq; simp at this ⊢; omega) (fun hm => by have y1 := cnew q (.inl hm); have y2 := yk1.lt q hq; (first | omega | (simp at y1 y2; done) | (simp at y1 y2; omega))) (fun hm => by have y1 := cnew q (.inr hm); have y2 := yk1.lt q hq; (first | omega | (simp at y1 y2; done) | (simp at y1 y2; omega))))
  have y28 : slR w 9 strE H8 y.data ya2 yF2 := slR.frame (yk2.to (by simp)) (fun q hq => keep8 q (by have := yk2.lt q hq; simp at this ⊢; omega) (fun hm => by have y1 := cnew q (.inl hm); have y2 := yk2.lt q hq; (first | omega | (simp at y1 y2; done) | (simp at y1 y2; omega))) (fun hm => by have y1 := cnew q (.inr hm); have y2 := yk2.lt q hq; (first | omega | (simp at y1 y2; done) | (simp at y1 y2; omega))))
  have e18 : slR true 98 (nodeE true) H8 y.nodes ae1 eF1 := slR.frame (es1.to (by simp)) (fun q hq => keep8 q (by have := es1.lt q hq; simp at this ⊢; omega) (fun hm => by have y1 := enew q (.inl hq); have y2 := clt1 q hm; (first | omega | (simp at y1 y2; done) | (simp at y1 y2; omega))) (fun hm => by have y1 := enew q (.inl hq); have y2 := clt2 q hm; (first | omega | (simp at y1 y2; done) | (simp at y1 y2; omega))))
  have e28 : slR true 9 strE H8 y.data ae2 eF2 := slR.frame (es2.to (by simp)) (fun q hq => keep8 q (by have := es2.lt q hq; simp at this ⊢; omega) (fun hm => by have y1 := enew q (.inr hq); have y2 := clt1 q hm; (first | omega | (simp at y1 y2; done) | (simp at y1 y2; omega))) (fun hm => by have y1 := enew q (.inr hq); have y2 := clt2 q hm; (first | omega | (simp at y1 y2; done) | (simp at y1 y2; omega))))
  have pxc08 := keepCell keep8 (q := h.length) (i := 0) (v := .slice xa1 x.nodes.length x.nodes.length) (fun hm => by have y1 := cnew _ (.inl hm); have y2 := clt1 _ hm; (first | omega | (simp at y1 y2; done) | (simp at y1 y2; omega))) (fun hm => by have y1 := cnew _ (.inr hm); have y2 := clt2 _ hm; (first | omega | (simp at y1 y2; done) | (simp at y1 y2; omega))) (by simp)
  have pxc18 := keepCell keep8 (q := h.length) (i := 1) (v := .slice xa2 x.data.length x.data.length) (fun hm => by have y1 := cnew _ (.inl hm); have y2 := clt1 _ hm; (first | omega | (simp at y1 y2; done) | (simp at y1 y2; omega))) (fun hm => by have y1 := cnew _ (.inr hm); have y2 := clt2 _ hm; (first | omega | (simp at y1 y2; done) | (simp at y1 y2; omega))) (by simp)
  have pyc08 := keepCell keep8 (q := (h.length + 1)) (i := 0) (v := .slice ya1 y.nodes.length y.nodes.length) (fun hm => by have y1 := cnew _ (.inl hm); have y2 := clt1 _ hm; (first | omega | (simp at y1 y2; done) | (simp at y1 y2; omega))) (fun hm => by have y1 := cnew _ (.inr hm); have y2 := clt2 _ hm; (first | omega | (simp at y1 y2; done) | (simp at y1 y2; omega))) (by simp)
  have pyc18 := keepCell keep8 (q := (h.length + 1)) (i := 1) (v := .slice ya2 y.data.length y.data.length) (fun hm => by have y1 := cnew _ (.inl hm); have y2 := clt1 _ hm; (first | omega | (simp at y1 y2; done) | (simp at y1 y2; omega))) (fun hm => by have y1 := cnew _ (.inr hm); have y2 := clt2 _ hm; (first | omega | (simp at y1 y2; done) | (simp at y1 y2; omega))) (by simp)
  have pec08 := keepCell keep8 (q := (h.length + (xt.length + (yt.length + (ub.length + (ubb.length + (uw.length + (uc.length + (ue.length + 1)))))) + 1 + 1))) (i := 0) (v := .slice ae1 y.nodes.length y.nodes.length) (fun hm => by have y1 := cnew _ (.inl hm); have y2 := clt1 _ hm; (first | omega | (simp at y1 y2; done) | (simp at y1 y2; omega))) (fun hm => by have y1 := cnew _ (.inr hm); have y2 := clt2 _ hm; (first | omega | (simp at y1 y2; done) | (simp at y1 y2; omega))) (by simp)
  have pec18 := keepCell keep8 (q := (h.length + (xt.length + (yt.length + (ub.length + (ubb.length + (uw.length + (uc.length + (ue.length + 1)))))) + 1 + 1))) (i := 1) (v := .slice ae2 y.data.length y.data.length) (fun hm => by have y1 := cnew _ (.inl hm); have y2 := clt1 _ hm; (first | omega | (simp at y1 y2; done) | (simp at y1 y2; omega))) (fun hm => by have y1 := cnew _ (.inr hm); have y2 := clt2 _ hm; (first | omega | (simp at y1 y2; done) | (simp at y1 y2; omega))) (by simp)
  simp [pxc08, pxc18, pyc08, pyc18, pec08, pec18]
  refine callK0 (markFsAt_c y (kFs x 1) ae1 ae2 eF1 eF2 _ (Own.any (e18.to (by simp)) en.1) (Own.any (e28.to (by simp)) en.2.1) (fun q h1 h2 => en.2.2 q h1 q h2 rfl) ynl (by omega)) ?_
  rintro _ H9 ⟨rfl, keep9, len9⟩
  simp at len8 len9
  have g9 : slR true 105 putE H9 (diff x y) ag Fg := slR.frame (g8.to (by simp)) (fun q hq => keep9 q (by have := g8.lt q hq; simp at this ⊢; omega) (fun hm => by have y1 := og.new q hq; have y2 := elt1 q hm; (first | omega | (simp at y1 y2; done) | (simp at y1 y2; omega))) (fun hm => by have y1 := og.new q hq; have y2 := elt2 q hm; (first | omega | (simp at y1 y2; done) | (simp at y1 y2; omega))))
  have w9 : slR true 105 putE H9 (diff x y) aw Fw := slR.frame (w8.to (by simp)) (fun q hq => keep9 q (by have := w8.lt q hq; simp at this ⊢; omega) (fun hm => by have y1 := enew q (.inl hm); have y2 := ow.sl.lt q hq; (first | omega | (simp at y1 y2; done) | (simp at y1 y2; omega))) (fun hm => by have y1 := enew q (.inr hm); have y2 := ow.sl.lt q hq; (first | omega | (simp at y1 y2; done) | (simp at y1 y2; omega))))
  have x19 : slR w xtNode (nodeE w) H9 x.nodes xa1 xF1 := slR.frame (x18.to (by simp)) (fun q hq => keep9 q (by have := x18.lt q hq; simp at this ⊢; omega) (fun hm => by have y1 := enew q (.inl hm); have y2 := xk1.lt q hq; (first | omega | (simp at y1 y2; done) | (simp at y1 y2; omega))) (fun hm => by have y1 := enew q (.inr hm); have y2 := xk1.lt q hq; (first | omega | (simp at y1 y2; done) | (simp at y1 y2; omega))))
  have x29 : slR w 9 strE H9 x.data xa2 xF2 := slR.frame (x28.to (by simp)) (fun q hq => keep9 q (by have := x28.lt q hq; simp at this ⊢; omega) (fun hm => by have y1 := enew q (.inl hm); have y2 := xk2.lt q hq; (first | omega | (simp at y1 y2; done) | (simp at y1 y2; omega))) (fun hm => by have y1 := enew q (.inr hm); have y2 := xk2.lt q hq; (first | omega | (simp at y1 y2; done) | (simp at y1 y2; omega))))
  have y19 : slR w ytNode (nodeE w) H9 y.nodes ya1 yF1 := slR.frame (y18.to (by simp)) (fun q hq => keep9 q (by have := y18.lt q hq; simp at this ⊢; omega) (fun hm => by have y1 := enew q (.inl hm); have y2 := yk1.lt q hq; (first | omega | (simp at y1 y2; done) | (simp at y1 y2; omega))) (fun hm => by have y1 := enew q (.inr hm); have y2 := yk1.lt q hq; (first | omega | (simp at y1 y2; done) | (simp at y1 y2; omega))))
  have y29 : slR w 9 strE H9 y.data ya2 yF2 := slR.frame (y28.to (by simp)) (fun q hq => keep9 q (by have := y28.lt q hq; simp at this ⊢; omega) (fun hm => by have y1 := enew q (.inl hm); have y2 := yk2.lt q hq; (first | omega | (simp at y1 y2; done) | (simp at y1 y2; omega))) (fun hm => by have y1 := enew q (.inr hm); have y2 := yk2.lt q hq; (first | omega | (simp at y1 y2; done) | (simp at y1 y2; omega))))
  have pxc09 := keepCell keep9 (q := h.length) (i := 0) (v := .slice xa1 x.nodes.length x.nodes.length) (fun hm => by have y1 := enew _ (.inl hm); have y2 := elt1 _ hm; (first | omega | (simp at y1 y2; done) | (simp at y1 y2; omega))) (fun hm => by have y1 := enew _ (.inr hm); have y2 := elt2 _ hm; (first | omega | (simp at y1 y2; done) | (simp at y1 y2; omega))) (by simp [pxc08])
  have pxc19 := keepCell keep9 (q := h.length) (i := 1) (v := .slice xa2 x.data.length x.data.length) (fun hm => by have y1 := enew _ (.inl hm); have y2 := elt1 _ hm; (first | omega | (simp at y1 y2; done) | (simp at y1 y2; omega))) (fun hm => by have y1 := enew _ (.inr hm); have y2 := elt2 _ hm; (first | omega | (simp at y1 y2; done) | (simp at y1 y2; omega))) (by simp [pxc18])
  have pyc09 := keepCell keep9 (q := (h.length + 1)) (i := 0) (v := .slice ya1 y.nodes.length y.nodes.length) (fun hm => by have y1 := enew _ (.inl hm); have y2 := elt1 _ hm; (first | omega | (simp at y1 y2; done) | (simp at y1 y2; omega))) (fun hm => by have y1 := enew _ (.inr hm); have y2 := elt2 _ hm; (first | omega | (simp at y1 y2; done) | (simp at y1 y2; omega))) (by simp [pyc08])
  have pyc19 := keepCell keep9 (q := (h.length + 1)) (i := 1) (v := .slice ya2 y.data.length y.data.length) (fun hm => by have y1 := enew _ (.inl hm); have y2 := elt1 _ hm; (first | omega | (simp at y1 y2; done) | (simp at y1 y2; omega))) (fun hm => by have y1 := enew _ (.inr hm); have y2 := elt2 _ hm; (first | omega | (simp at y1 y2; done) | (simp at y1 y2; omega))) (by simp [pyc18])
  have disw : ∀ q ∈ Fw, q ∉ Fg := fun q hq hm => by have y1 := og.new q hm; have y2 := ow.sl.lt q hq; (first | omega | (simp at y1 y2; done) | (simp at y1 y2; omega))
  have disx1 : ∀ q ∈ xF1, q ∉ Fg := fun q hq hm => by have y1 := og.new q hm; have y2 := xk1.lt q hq; (first | omega | (simp at y1 y2; done) | (simp at y1 y2; omega))
  have disx2 : ∀ q ∈ xF2, q ∉ Fg := fun q hq hm => by have y1 := og.new q hm; have y2 := xk2.lt q hq; (first | omega | (simp at y1 y2; done) | (simp at y1 y2; omega))
  have disy1 : ∀ q ∈ yF1, q ∉ Fg := fun q hq hm => by have y1 := og.new q hm; have y2 := yk1.lt q hq; (first | omega | (simp at y1 y2; done) | (simp at y1 y2; omega))
  have disy2 : ∀ q ∈ yF2, q ∉ Fg := fun q hq hm => by have y1 := og.new q hm; have y2 := yk2.lt q hq; (first | omega | (simp at y1 y2; done) | (simp at y1 y2; omega))
  have kx : ¬ (((kFs y (kFs x 1) : Nat) : Int) < 0) := by omega
  have kr : ¬ ((1 : Int) + 2 * ((diff x y).length : Int) < 0) := by omega
  simp [kx, pxc09, pxc19, pyc09, pyc19]
  refine callK0 (eqPutS_c (diff x y) (diff x y) ag aw Fg Fw true true _ _ _ (g9.to (by simp)) (w9.to (by simp)) hR) ?_
  rintro _ _ ⟨⟨u9, rfl⟩, rfl⟩
  simp [pxc09, pxc19, pyc09, pyc19]
  refine callK0 (markPutS_c (diff x y) 1 ag Fg [] _ (Own.any (g9.to (by simp)) og.nd) (by omega)) ?_
  rintro _ H10 ⟨rfl, om, keep10, len10⟩
  have w10 : slR true 105 putE H10 (diff x y) aw Fw := slR.frame (w9.to (by simp)) (fun q hq => keep10 q (by have := w9.lt q hq; simp at this ⊢; omega) (disw q hq))
  have x110 : slR w xtNode (nodeE w) H10 x.nodes xa1 xF1 := slR.frame (x19.to (by simp)) (fun q hq => keep10 q (by have := x19.lt q hq; simp at this ⊢; omega) (disx1 q hq))
  have x210 : slR w 9 strE H10 x.data xa2 xF2 := slR.frame (x29.to (by simp)) (fun q hq => keep10 q (by have := x29.lt q hq; simp at this ⊢; omega) (disx2 q hq))
  have y110 : slR w ytNode (nodeE w) H10 y.nodes ya1 yF1 := slR.frame (y19.to (by simp)) (fun q hq => keep10 q (by have := y19.lt q hq; simp at this ⊢; omega) (disy1 q hq))
  have y210 : slR w 9 strE H10 y.data ya2 yF2 := slR.frame (y29.to (by simp)) (fun q hq => keep10 q (by have := y29.lt q hq; simp at this ⊢; omega) (disy2 q hq))
  have pxc010 := keepCell (F2 := []) (fun q hq h1 _ => keep10 q hq h1) (q := h.length) (i := 0) (v := .slice xa1 x.nodes.length x.nodes.length) (fun hm => by have y1 := og.new _ hm; have y2 := og.sl.lt _ hm; (first | omega | (simp at y1 y2; done) | (simp at y1 y2; omega))) (by simp) (by simp [pxc09])
  have pxc110 := keepCell (F2 := []) (fun q hq h1 _ => keep10 q hq h1) (q := h.length) (i := 1) (v := .slice xa2 x.data.length x.data.length) (fun hm => by have y1 := og.new _ hm; have y2 := og.sl.lt _ hm; (first | omega | (simp at y1 y2; done) | (simp at y1 y2; omega))) (by simp) (by simp [pxc19])
  have pyc010 := keepCell (F2 := []) (fun q hq h1 _ => keep10 q hq h1) (q := (h.length + 1)) (i := 0) (v := .slice ya1 y.nodes.length y.nodes.length) (fun hm => by have y1 := og.new _ hm; have y2 := og.sl.lt _ hm; (first | omega | (simp at y1 y2; done) | (simp at y1 y2; omega))) (by simp) (by simp [pyc09])
  have pyc110 := keepCell (F2 := []) (fun q hq h1 _ => keep10 q hq h1) (q := (h.length + 1)) (i := 1) (v := .slice ya2 y.data.length y.data.length) (fun hm => by have y1 := og.new _ hm; have y2 := og.sl.lt _ hm; (first | omega | (simp at y1 y2; done) | (simp at y1 y2; omega))) (by simp) (by simp [pyc19])
  simp [kr, pxc010, pxc110, pyc010, pyc110]
  refine callK0 (heldPutS_c (diff x y).length 1 ag Fg true _ _ (om.sl.to (by simp)) (by omega)) ?_
  rintro _ _ ⟨⟨u11, rfl⟩, rfl⟩
  simp [kr, pxc010, pxc110, pyc010, pyc110]
  refine drawK true (by kernel_rfl) ?_
  simp [pxc010, pxc110, pyc010, pyc110]
  refine callK (toFs_c x xa1 xa2 xF1 xF2 w xtNode _ (x110.to (by simp)) (x210.to (by simp)) xlim) ?_
  rintro _ _ ⟨ayx1, _, ayx2, _, rfl, oyx⟩
  obtain ⟨uyx, rfl⟩ := oyx.ext.pre
  refine ⟨fun _ => oyx.ext, ?_⟩
  obtain ⟨yxF1, yxF2, yxs1, yxs2, eyx⟩ := fsR oyx.r
  simp [pxc010, pxc110, pyc010, pyc110]
  refine callK (toFs_c y ya1 ya2 yF1 yF2 w ytNode _ (y110.to (by simp)) (y210.to (by simp)) ylim) ?_
  rintro _ _ ⟨ayy1, _, ayy2, _, rfl, oyy⟩
  obtain ⟨uyy, rfl⟩ := oyy.ext.pre
  refine ⟨fun _ => oyy.ext, ?_⟩
  obtain ⟨yyF1, yyF2, yys1, yys2, eyy⟩ := fsR oyy.r
  simp [pxc010, pxc110, pyc010, pyc110]
  refine callK (diff_impl_c x y ayx1 ayx2 _ _ true _ ayy1 ayy2 _ _ true _ _ (yxs1.to (by simp)) (yxs2.to (by simp)) xnl (yys1.to (by simp)) (yys2.to (by simp)) ynl) ?_
  rintro _ _ ⟨ah, Fh, rfl, oh⟩
  obtain ⟨uh, rfl⟩ := oh.ext.pre
  refine ⟨fun _ => oh.ext, ?_⟩
  simp [pxc010, pxc110, pyc010, pyc110]
  refine callK0 (eqPutS_c (diff x y) (diff x y) ah aw Fh Fw true true _ _ _ (oh.sl.to (by simp)) (w10.to (by simp)) hR) ?_
  rintro _ _ ⟨⟨u14, rfl⟩, rfl⟩
  simp [pxc010, pxc110, pyc010, pyc110]
  refine callK0 (heldPutS_c (diff x y).length 1 ag Fg true _ _ (om.sl.to (by simp)) (by omega)) ?_
  rintro _ _ ⟨⟨u15, rfl⟩, rfl⟩
  simp [kr]

theorem FnExactDiff_v (h : Hp) (avs : List Value) (hv : All2 (fun V av => V h av) [(VS (fsE false 115) Fs.bd), (VS (fsE false 115) Fs.bd)] avs) : ACall Try.prog 6 avs h fun r _ => r = .bool true := by
  obtain ⟨v0, vs0, rfl, q0, hv⟩ := All2.cons_iff.1 hv
  obtain ⟨v1, vs1, rfl, q1, hv⟩ := All2.cons_iff.1 hv
  obtain rfl := All2.nil_iff.1 hv
  obtain ⟨x, _, _, rfl, ⟨xa1, xF1, xa2, xF2, rfl, _, xk1, xk2⟩, xbd⟩ := q0
  obtain ⟨y, _, _, rfl, ⟨ya1, yF1, ya2, yF2, rfl, _, yk1, yk2⟩, ybd⟩ := q1
  exact FnExactDiff_c false h x xa1 xa2 xF1 xF2 _ xk1 xk2 xbd y ya1 ya2 yF1 yF2 _ yk1 yk2 ybd
end Go.Proofs.Ytcndiilogcembaa.Hz
