/- The law of PoolSame. -/
import Derived.Test.YtidkkmkihifeoaaHzSM
import Derived.Test.YtidkkmkihifeoaaHzXN
namespace Go.Proofs.Ytidkkmkihifeoaa.Hz
open Go.RowKit
set_option maxRecDepth 20000
set_option linter.unusedVariables false

theorem FnExactPoolSame_c (x : Pool) (xa1 : Option Addr) (xF1 : List Nat) (y : Pool) (ya1 : Option Addr) (yF1 : List Nat) (w : Bool) (xtBranch xtNode : TypeId) (ytBranch ytNode : TypeId) (h : Hp) (xk1 : slR w xtBranch (branchE w xtNode) h x.branches xa1 xF1) (yk1 : slR w ytBranch (branchE w ytNode) h y.branches ya1 yF1) (xbd : x.bd) (ybd : y.bd) :
    ACall Try.prog 7 [.agg #[.int .i64 x.policy, .int .i64 x.minFree, .slice xa1 x.branches.length x.branches.length, .bool x.move.on, .bool x.move.clean, .int .i64 x.move.src, .int .i64 x.move.dst, .string (S x.move.path), .int .i64 x.move.gen, .int .i64 x.move.done], .agg #[.int .i64 y.policy, .int .i64 y.minFree, .slice ya1 y.branches.length y.branches.length, .bool y.move.on, .bool y.move.clean, .int .i64 y.move.src, .int .i64 y.move.dst, .string (S y.move.path), .int .i64 y.move.gen, .int .i64 y.move.done]] h fun r _ => r = .bool true := by
  refine acall mixed Try.func7 rfl (by kernel_rfl) ?_
  have h4 : maxLen = 9223372036854775807 := by decide
  simp [Try.f7]
  refine callK0 (szPool_c x xa1 xF1 w xtBranch xtNode 1048576 _ (xk1.to (by simp)) (by omega) (by omega) xbd) ?_
  rintro _ _ ⟨⟨xt, rfl⟩, xn0, rfl, xn1, xn2⟩
  simp
  refine asplitK_intro (fun xc => ?_) (fun xc => ?_) <;> simp at xc <;> simp
  have xnl : x.nl ≤ 1048576 := by have := xn2 xc; omega
  have xlim := Pool.lim_of x xnl
  refine callK0 (szPool_c y ya1 yF1 w ytBranch ytNode xn0 _ (yk1.to (by simp)) xc (by omega) ybd) ?_
  rintro _ _ ⟨⟨yt, rfl⟩, yn0, rfl, yn1, yn2⟩
  simp
  refine asplitK_intro (fun yc => ?_) (fun yc => ?_) <;> simp at yc <;> simp
  have ynl : y.nl ≤ 1048576 := by have := yn2 yc; omega
  have ylim := Pool.lim_of y ynl
  refine drawK true (by kernel_rfl) ?_
  simp
  refine callK (toPool_c x xa1 xF1 w xtBranch xtNode _ (xk1.to (by simp)) xlim) ?_
  rintro _ _ ⟨xb1, _, rfl, xob⟩
  obtain ⟨xub, rfl⟩ := xob.ext.pre
  refine ⟨fun _ => xob.ext, ?_⟩
  obtain ⟨_, xbs1, -⟩ := poolR xob.r
  simp
  refine callK (toPool_c y ya1 yF1 w ytBranch ytNode _ (yk1.to (by simp)) ylim) ?_
  rintro _ _ ⟨yb1, _, rfl, yob⟩
  obtain ⟨yub, rfl⟩ := yob.ext.pre
  refine ⟨fun _ => yob.ext, ?_⟩
  obtain ⟨_, ybs1, -⟩ := poolR yob.r
  simp
  refine callK (poolSame_spec_c x y xb1 yb1 _ _ true true _ _ _ _ _ (xbs1.to (by simp)) (ybs1.to (by simp)) xlim) ?_
  rintro _ _ ⟨⟨uspec, rfl⟩, rfl⟩
  refine ⟨fun _ => Ext.push _ _, ?_⟩
  simp
  refine callK0 (toPool_c x xa1 xF1 w xtBranch xtNode _ (xk1.to (by simp)) xlim) ?_
  rintro _ _ ⟨xc1, _, rfl, xoc⟩
  obtain ⟨xuc, rfl⟩ := xoc.ext.pre
  obtain ⟨_, xcs1, -⟩ := poolR xoc.r
  simp
  refine callK0 (toPool_c y ya1 yF1 w ytBranch ytNode _ (yk1.to (by simp)) ylim) ?_
  rintro _ _ ⟨yc1, _, rfl, yoc⟩
  obtain ⟨yuc, rfl⟩ := yoc.ext.pre
  obtain ⟨_, ycs1, -⟩ := poolR yoc.r
  simp
  refine callK0 (poolSame_impl_c x y xc1 yc1 _ _ true true _ _ _ _ _ (xcs1.to (by simp)) (ycs1.to (by simp)) xlim) ?_
  rintro _ _ ⟨⟨uimpl, rfl⟩, rfl⟩
  simp
  refine drawK true (by kernel_rfl) ?_
  simp
  refine callK (toPool_c x xa1 xF1 w xtBranch xtNode _ (xk1.to (by simp)) xlim) ?_
  rintro _ _ ⟨xd1, _, rfl, xod⟩
  obtain ⟨xud, rfl⟩ := xod.ext.pre
  refine ⟨fun _ => xod.ext, ?_⟩
  obtain ⟨_, xds1, -⟩ := poolR xod.r
  simp
  refine callK (eqPool_c x x xc1 xd1 _ _ true true _ _ _ _ _ (xcs1.to (by simp)) (xds1.to (by simp)) xlim) ?_
  rintro _ _ ⟨⟨uxeq, rfl⟩, rfl⟩
  refine ⟨fun _ => Ext.push _ _, ?_⟩
  simp
  refine drawK true (by kernel_rfl) ?_
  simp
  refine callK (toPool_c y ya1 yF1 w ytBranch ytNode _ (yk1.to (by simp)) ylim) ?_
  rintro _ _ ⟨yd1, _, rfl, yod⟩
  obtain ⟨yud, rfl⟩ := yod.ext.pre
  refine ⟨fun _ => yod.ext, ?_⟩
  obtain ⟨_, yds1, -⟩ := poolR yod.r
  simp
  refine callK (eqPool_c y y yc1 yd1 _ _ true true _ _ _ _ _ (ycs1.to (by simp)) (yds1.to (by simp)) ylim) ?_
  rintro _ _ ⟨⟨uyeq, rfl⟩, rfl⟩
  refine ⟨fun _ => Ext.push _ _, ?_⟩
  simp

theorem FnExactPoolSame_v (h : Hp) (avs : List Value) (hv : All2 (fun V av => V h av) [(VS (poolE false 174 183) Pool.bd), (VS (poolE false 174 183) Pool.bd)] avs) : ACall Try.prog 7 avs h fun r _ => r = .bool true := by
  obtain ⟨v0, vs0, rfl, q0, hv⟩ := All2.cons_iff.1 hv
  obtain ⟨v1, vs1, rfl, q1, hv⟩ := All2.cons_iff.1 hv
  obtain rfl := All2.nil_iff.1 hv
  obtain ⟨x, _, _, rfl, ⟨xa1, xF1, rfl, _, xk1⟩, xbd⟩ := q0
  obtain ⟨y, _, _, rfl, ⟨ya1, yF1, rfl, _, yk1⟩, ybd⟩ := q1
  exact FnExactPoolSame_c x xa1 xF1 y ya1 yF1 false _ _ _ _ h xk1 yk1 xbd ybd
end Go.Proofs.Ytidkkmkihifeoaa.Hz
