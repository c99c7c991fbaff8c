/- The law of PoolTree. -/
import Derived.Test.YtgfilbekfkhjjaaGreatHyQN
import Derived.Test.YtgfilbekfkhjjaaGreatHyQO
import Derived.Test.YtgfilbekfkhjjaaGreatHyMP
import Derived.Test.YtgfilbekfkhjjaaGreatHyHB
import Derived.Test.YtgfilbekfkhjjaaGreatHyGH
import Derived.Test.YtgfilbekfkhjjaaGreatHyGJ
namespace Go.Proofs.YtgfilbekfkhjjaaGreat.Hz
open Go.RowKit
set_option linter.unusedVariables false
set_option linter.unusedSimpArgs false
set_option maxRecDepth 20000

theorem poolTree_le (x : Pool) : (poolTree x).length ≤ 29520 := by
  cases e1 : poolOk x
  · simp [poolTree, e1]
  · exact poolTree_len (poolOk_head_t e1).2.2
theorem cells_kept {H : Hp} {q : Nat} {ob : Ob} (e : H[q]? = some ob) (hl : ob.live = true) : (∀ i, cellAt H q i = ob.cells[i]?) ∧ ∀ l i, cellAt (H ++ l) q i = ob.cells[i]? := by
  have h1 : ∀ i, cellAt H q i = ob.cells[i]? := cellAt_of_get e hl
  exact ⟨h1, fun l i => by rw [cellAt_ext (Ext.push H l) (List.getElem?_eq_some_iff.1 e).1]; exact h1 i⟩
set_option maxHeartbeats 4000000 in
theorem FnExactPoolTree_c (x : Pool) (xa1 : Option Addr) (xF1 : List Nat) (w : Bool) (xtBranch xtNode : TypeId) (h : Hp) (xk1 : slR w xtBranch (branchE w xtNode) h x.branches xa1 xF1) (xbd : x.bd) :
    ACall Tryz.prog 8 [.agg #[.int .i64 x.policy, .int .i64 x.minFree, .slice xa1 x.branches.length x.branches.length, .bool x.move.on, .bool x.move.clean, .int .i64 x.move.src, .int .i64 x.move.dst, .string (S x.move.path), .int .i64 x.move.gen, .int .i64 x.move.done]] h fun r _ => r = .bool true := by
  refine acall mixed Tryz.func8 rfl (by kernel_rfl) ?_
  have h4 : maxLen = 9223372036854775807 := by decide
  simp [Tryz.f8]
  refine callK0 (szPool_c x xa1 xF1 w xtBranch xtNode 1048576 _ (xk1.to (by simp)) (by omega) (by omega) xbd) ?_
  rintro _ _ ⟨⟨xt, rfl⟩, xn0, rfl, xn1, xn2⟩
  simp
  refine asplitK_intro (fun xc => ?_) (fun xc => ?_) <;> simp at xc <;> simp
  have xnl : x.nl ≤ 1048576 := by have := xn2 xc; omega
  have xlim := Pool.lim_of x xnl
  have hR0 := poolTree_le x
  have hR : (poolTree x).length ≤ 1048576 := by omega
  refine callK0 (toPool_c x xa1 xF1 w xtBranch xtNode _ (xk1.to (by simp)) xlim) ?_
  rintro _ _ ⟨xb1, _, rfl, xob⟩
  obtain ⟨ub, rfl⟩ := xob.ext.pre
  obtain ⟨_, xbs1, -⟩ := poolR xob.r
  simp
  refine callK0 (poolTree_spec_c x xb1 _ true _ _ _ (xbs1.to (by simp)) xnl) ?_
  rintro _ _ ⟨aw, Fw, rfl, ow⟩
  obtain ⟨uw, rfl⟩ := ow.ext.pre
  have sw := ow.sl
  simp
  refine callK0 (toPool_c x xa1 xF1 w xtBranch xtNode _ (xk1.to (by simp)) xlim) ?_
  rintro _ _ ⟨ac1, cF, rfl, oc⟩
  obtain ⟨uc, rfl⟩ := oc.ext.pre
  obtain ⟨_, cs1, rfl⟩ := poolR oc.r
  simp
  refine callK0 (poolTree_impl_c x ac1 _ true _ _ _ (cs1.to (by simp)) xnl) ?_
  rintro _ _ ⟨ag, Fg, rfl, og⟩
  obtain ⟨ug, rfl⟩ := og.ext.pre
  simp
  refine callK0 (eqTree_c (poolTree x) (poolTree x) ag aw Fg Fw true true _ _ _ (og.sl.to (by simp)) (sw.to (by simp)) hR) ?_
  rintro _ _ ⟨⟨u5, rfl⟩, rfl⟩
  simp
  refine drawK true (by kernel_rfl) ?_
  simp
  refine callK (toPool_c x xa1 xF1 w xtBranch xtNode _ (xk1.to (by simp)) xlim) ?_
  rintro _ _ ⟨xd1, _, rfl, xod⟩
  obtain ⟨xud, rfl⟩ := xod.ext.pre
  refine ⟨fun _ => xod.ext, ?_⟩
  obtain ⟨_, xds1, -⟩ := poolR xod.r
  simp
  refine callK (eqPool_c x x ac1 xd1 _ _ true true _ _ _ _ _ (cs1.to (by simp)) (xds1.to (by simp)) xlim) ?_
  rintro _ _ ⟨⟨u7, rfl⟩, rfl⟩
  refine ⟨fun _ => Ext.push _ _, ?_⟩
  simp
  have cnew := oc.new
  have clt := cs1.lt
  simp at cnew clt
  refine callK0 (markPool_c x ac1 cF _ (Own.any (cs1.to (by simp)) oc.nd) xnl) ?_
  rintro _ H8 ⟨nm, rfl, keep8, len8⟩
  have g8 : slR true 72 itemE H8 (poolTree x) ag Fg := slR.frame (og.sl.to (by simp)) (fun q hq => keep8 q (by have := og.sl.lt q hq; simp at this ⊢; omega) (fun hm => by have y1 := og.new q hq; have y2 := clt q hm; (first | omega | (simp at y1 y2; done) | (simp at y1 y2; omega))))
  have w8 : slR true 72 itemE H8 (poolTree x) aw Fw := slR.frame (sw.to (by simp)) (fun q hq => keep8 q (by have := sw.lt q hq; simp at this ⊢; omega) (fun hm => by have y1 := cnew q hm; have y2 := sw.lt q hq; (first | omega | (simp at y1 y2; done) | (simp at y1 y2; omega))))
  have x81 : slR w xtBranch (branchE w xtNode) H8 x.branches xa1 xF1 := slR.frame (xk1.to (by simp)) (fun q hq => keep8 q (by have := xk1.lt q hq; simp at this ⊢; omega) (fun hm => by have y1 := cnew q hm; have y2 := xk1.lt q hq; (first | omega | (simp at y1 y2; done) | (simp at y1 y2; omega))))
  have disw : ∀ q ∈ Fw, q ∉ Fg := fun q hq hm => by have y1 := og.new q hm; have y2 := sw.lt q hq; (first | omega | (simp at y1 y2; done) | (simp at y1 y2; omega))
  have disx1 : ∀ q ∈ xF1, q ∉ Fg := fun q hq hm => by have y1 := og.new q hm; have y2 := xk1.lt q hq; (first | omega | (simp at y1 y2; done) | (simp at y1 y2; omega))
  have pb8 : H8[h.length]? = some ⟨true, true, 44, poolV x xa1⟩ := by
    rw [keep8 h.length (by simp) (fun hm => by have y1 := cnew _ hm; (first | omega | (simp at y1; done) | (simp at y1; omega)))]
    simp [poolV]
  have p68 := keepCell (F2 := []) (fun q hq h1 _ => keep8 q hq h1) (q := (h.length + (xt.length + (ub.length + uw.length) + 1))) (i := 0) (v := .slice aw (poolTree x).length (poolTree x).length) (fun hm => by have y1 := cnew _ hm; have y2 := clt _ hm; (first | omega | (simp at y1 y2; done) | (simp at y1 y2; omega))) (by simp) (by simp)
  have p108 := keepCell (F2 := []) (fun q hq h1 _ => keep8 q hq h1) (q := (h.length + (xt.length + (ub.length + (uw.length + (uc.length + (ug.length + 1) + 1))) + 1))) (i := 0) (v := .slice ag (poolTree x).length (poolTree x).length) (fun hm => by have y1 := cnew _ hm; have y2 := clt _ hm; (first | omega | (simp at y1 y2; done) | (simp at y1 y2; omega))) (by simp) (by simp)
  obtain ⟨c8, c8l⟩ := cells_kept pb8 rfl
  simp only [poolV] at c8 c8l
  have kn : ¬ ((nm : Int) < 0) := by omega
  have kr : ¬ ((1 : Int) + 4 * ((poolTree x).length : Int) < 0) := by omega
  simp [kn, c8, c8l, p68, p108]
  refine callK0 (eqTree_c (poolTree x) (poolTree x) ag aw Fg Fw true true _ _ _ (g8.to (by simp)) (w8.to (by simp)) hR) ?_
  rintro _ _ ⟨⟨u9, rfl⟩, rfl⟩
  simp [c8, c8l, p68, p108]
  refine callK0 (markTree_c (poolTree x) 1 ag Fg _ _ (Own.any (g8.to (by simp)) og.nd) (by omega)) ?_
  rintro _ H10 ⟨rfl, om, keep10, len10⟩
  have w10 : slR true 72 itemE H10 (poolTree x) aw Fw := slR.frame (w8.to (by simp)) (fun q hq => keep10 q (by have := w8.lt q hq; simp at this ⊢; omega) (disw q hq))
  have x101 : slR w xtBranch (branchE w xtNode) H10 x.branches xa1 xF1 := slR.frame (x81.to (by simp)) (fun q hq => keep10 q (by have := x81.lt q hq; simp at this ⊢; omega) (disx1 q hq))
  have pb10 : H10[h.length]? = some ⟨true, true, 44, poolV x xa1⟩ := by
    have hlt := (List.getElem?_eq_some_iff.1 pb8).1
    rw [keep10 h.length (by simp; omega) (fun hm => by have y1 := og.new _ hm; (first | omega | (simp at y1; done) | (simp at y1; omega))), List.getElem?_append_left hlt]
    exact pb8
  have p610 := keepCell (F2 := []) (fun q hq h1 _ => keep10 q hq h1) (q := (h.length + (xt.length + (ub.length + uw.length) + 1))) (i := 0) (v := .slice aw (poolTree x).length (poolTree x).length) (fun hm => by have y1 := og.new _ hm; have y2 := og.sl.lt _ hm; (first | omega | (simp at y1 y2; done) | (simp at y1 y2; omega))) (by simp) (by simp [p68])
  have p1010 := keepCell (F2 := []) (fun q hq h1 _ => keep10 q hq h1) (q := (h.length + (xt.length + (ub.length + (uw.length + (uc.length + (ug.length + 1) + 1))) + 1))) (i := 0) (v := .slice ag (poolTree x).length (poolTree x).length) (fun hm => by have y1 := og.new _ hm; have y2 := og.sl.lt _ hm; (first | omega | (simp at y1 y2; done) | (simp at y1 y2; omega))) (by simp) (by simp [p108])
  obtain ⟨c10, c10l⟩ := cells_kept pb10 rfl
  simp only [poolV] at c10 c10l
  simp [kr, c10, c10l, p610, p1010]
  refine callK0 (heldTree_c (poolTree x).length 1 ag Fg true _ _ (om.sl.to (by simp)) (by omega)) ?_
  rintro _ _ ⟨⟨u11, rfl⟩, rfl⟩
  simp [kr, c10, c10l, p610, p1010]
  refine callK0 (toPool_c x xa1 xF1 w xtBranch xtNode _ (x101.to (by simp)) xlim) ?_
  rintro _ _ ⟨ay1, _, rfl, oy⟩
  obtain ⟨uy, rfl⟩ := oy.ext.pre
  obtain ⟨_, ys1, -⟩ := poolR oy.r
  simp [c10, c10l, p610, p1010]
  refine callK0 (poolTree_impl_c x ay1 _ true _ _ _ (ys1.to (by simp)) xnl) ?_
  rintro _ _ ⟨ah, Fh, rfl, oh⟩
  obtain ⟨uh, rfl⟩ := oh.ext.pre
  simp [c10, c10l, p610, p1010]
  refine callK0 (eqTree_c (poolTree x) (poolTree x) ah aw Fh Fw true true _ _ _ (oh.sl.to (by simp)) (w10.to (by simp)) hR) ?_
  rintro _ _ ⟨⟨u14, rfl⟩, rfl⟩
  simp [c10, c10l, p610, p1010]
  refine callK0 (heldTree_c (poolTree x).length 1 ag Fg true _ _ (om.sl.to (by simp)) (by omega)) ?_
  rintro _ _ ⟨⟨u15, rfl⟩, rfl⟩
  simp [kr]
theorem FnExactPoolTree_v (h : Hp) (avs : List Value) (hv : All2 (fun V av => V h av) [(VS (poolE false 122 98) Pool.bd)] avs) : ACall Tryz.prog 8 avs h fun r _ => r = .bool true := by
  obtain ⟨v0, vs0, rfl, q0, hv⟩ := All2.cons_iff.1 hv
  obtain rfl := All2.nil_iff.1 hv
  obtain ⟨x, _, _, rfl, ⟨xa1, xF1, rfl, _, xk1⟩, xbd⟩ := q0
  exact FnExactPoolTree_c x xa1 xF1 false _ _ h xk1 xbd
end Go.Proofs.YtgfilbekfkhjjaaGreat.Hz
