/- The law of Winner. -/
import Derived.Test.YtgfilbekfkhjjaaGreatHyQH
import Derived.Test.YtgfilbekfkhjjaaGreatHyGJ
namespace Go.Proofs.YtgfilbekfkhjjaaGreat.Hz
open Go.RowKit
set_option maxRecDepth 20000
set_option linter.unusedVariables false
set_option linter.unusedSimpArgs false

theorem FnExactWinner_c (x : Pool) (xa1 : Option Addr) (xF1 : List Nat) (p : Str) (w : Bool) (xtBranch xtNode : TypeId) (h : Hp) (xk1 : slR w xtBranch (branchE w xtNode) h x.branches xa1 xF1) (xbd : x.bd) (pn : p.length ≤ maxLen) :
    ACall Tryz.prog 6 [.agg #[.int .i64 x.policy, .int .i64 x.minFree, .slice xa1 x.branches.length x.branches.length, .bool x.move.on, .bool x.move.clean, .int .i64 x.move.src, .int .i64 x.move.dst, .string (S x.move.path), .int .i64 x.move.gen, .int .i64 x.move.done], .string (S p)] h fun r _ => r = .bool true := by
  refine acall mixed Tryz.func6 rfl (by kernel_rfl) ?_
  have h4 : maxLen = 9223372036854775807 := by decide
  simp [Tryz.f6]
  refine asplitK_intro (fun pb => ?_) (fun pb => ?_) <;> simp at pb <;> simp
  refine callK0 (szPool_c x xa1 xF1 w xtBranch xtNode 1048576 _ (xk1.to (by simp)) (by omega) (by omega) xbd) ?_
  rintro _ _ ⟨⟨xt, rfl⟩, xn0, rfl, xn1, xn2⟩
  simp
  refine asplitK_intro (fun xc => ?_) (fun xc => ?_) <;> simp at xc <;> simp
  have xnl : x.nl ≤ 1048576 := by have := xn2 xc; omega
  have xlim := Pool.lim_of x xnl
  refine callK0 (toPool_c x xa1 xF1 w xtBranch xtNode _ (xk1.to (by simp)) xlim) ?_
  rintro _ _ ⟨xb1, _, rfl, xob⟩
  obtain ⟨xub, rfl⟩ := xob.ext.pre
  obtain ⟨_, xbs1, -⟩ := poolR xob.r
  simp
  refine callK0 (winner_spec_c x xb1 _ true _ _ _ (xbs1.to (by simp)) xnl p (by omega)) ?_
  rintro _ _ ⟨⟨uspec, rfl⟩, rfl⟩
  simp
  refine callK0 (toPool_c x xa1 xF1 w xtBranch xtNode _ (xk1.to (by simp)) xlim) ?_
  rintro _ _ ⟨xc1, _, rfl, xoc⟩
  obtain ⟨xuc, rfl⟩ := xoc.ext.pre
  obtain ⟨_, xcs1, -⟩ := poolR xoc.r
  simp
  refine callK0 (winner_impl_c x xc1 _ true _ _ _ (xcs1.to (by simp)) xnl p (by omega)) ?_
  rintro _ _ ⟨⟨uimpl, rfl⟩, rfl⟩
  simp
  refine drawK true (by kernel_rfl) ?_
  simp
  refine callK (toPool_c x xa1 xF1 w xtBranch xtNode _ (xk1.to (by simp)) xlim) ?_
  rintro _ _ ⟨xd1, _, rfl, xod⟩
  obtain ⟨xud, rfl⟩ := xod.ext.pre
  refine ⟨fun _ => xod.ext, ?_⟩
  obtain ⟨_, xds1, -⟩ := poolR xod.r
  simp
  refine callK (eqPool_c x x xc1 xd1 _ _ true true _ _ _ _ _ (xcs1.to (by simp)) (xds1.to (by simp)) xlim) ?_
  rintro _ _ ⟨⟨uxeq, rfl⟩, rfl⟩
  refine ⟨fun _ => Ext.push _ _, ?_⟩
  simp

theorem FnExactWinner_v (h : Hp) (avs : List Value) (hv : All2 (fun V av => V h av) [(VS (poolE false 122 98) Pool.bd), (V1 strE fun s => s.length ≤ maxLen)] avs) : ACall Tryz.prog 6 avs h fun r _ => r = .bool true := by
  obtain ⟨v0, vs0, rfl, q0, hv⟩ := All2.cons_iff.1 hv
  obtain ⟨v1, vs1, rfl, q1, hv⟩ := All2.cons_iff.1 hv
  obtain rfl := All2.nil_iff.1 hv
  obtain ⟨x, _, _, rfl, ⟨xa1, xF1, rfl, _, xk1⟩, xbd⟩ := q0
  obtain ⟨p, _, ⟨pe, _⟩, pn⟩ := q1
  obtain rfl : v1 = _ := List.cons.inj pe |>.1
  exact FnExactWinner_c x xa1 xF1 p false _ _ h xk1 xbd pn
end Go.Proofs.YtgfilbekfkhjjaaGreat.Hz
