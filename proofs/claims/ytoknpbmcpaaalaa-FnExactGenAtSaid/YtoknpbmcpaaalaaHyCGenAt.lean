/- The law of GenAt. -/
import Derived.Test.YtoknpbmcpaaalaaHyGI
import Derived.Test.YtoknpbmcpaaalaaHyGJ
namespace Go.Proofs.Ytoknpbmcpaaalaa.Hz
open Go.RowKit
set_option maxRecDepth 20000
set_option linter.unusedVariables false
set_option linter.unusedSimpArgs false

theorem FnExactGenAt_c (x : Fs) (xa1 xa2 : Option Addr) (xF1 xF2 : List Nat) (p : Str) (w : Bool) (xtNode : TypeId) (h : Hp) (xk1 : slR w xtNode (nodeE w) h x.nodes xa1 xF1) (xk2 : slR w 9 strE h x.data xa2 xF2) (xbd : x.bd) (pn : p.length ≤ maxLen) :
    ACall Try.prog 11 [.agg #[.slice xa1 x.nodes.length x.nodes.length, .slice xa2 x.data.length x.data.length], .string (S p)] h fun r _ => r = .bool true := by
  refine acall mixed Try.func11 rfl (by kernel_rfl) ?_
  have h4 : maxLen = 9223372036854775807 := by decide
  simp [Try.f11]
  refine asplitK_intro (fun pb => ?_) (fun pb => ?_) <;> simp at pb <;> simp
  refine callK0 (szFs_c x xa1 xa2 xF1 xF2 w xtNode 1048576 _ (xk1.to (by simp)) (xk2.to (by simp)) (by omega) (by omega) xbd) ?_
  rintro _ _ ⟨⟨xt, rfl⟩, xn0, rfl, xn1, xn2⟩
  simp
  refine asplitK_intro (fun xc => ?_) (fun xc => ?_) <;> simp at xc <;> simp
  have xnl : x.nl ≤ 1048576 := by have := xn2 xc; omega
  have xlim := Fs.lim_of x xnl
  refine callK0 (toFs_c x xa1 xa2 xF1 xF2 w xtNode _ (xk1.to (by simp)) (xk2.to (by simp)) xlim) ?_
  rintro _ _ ⟨xb1, _, xb2, _, rfl, xob⟩
  obtain ⟨xub, rfl⟩ := xob.ext.pre
  obtain ⟨_, _, xbs1, xbs2, -⟩ := fsR xob.r
  simp
  refine callK0 (genAt_spec_c x xb1 xb2 _ _ true _ _ (xbs1.to (by simp)) (xbs2.to (by simp)) xnl p (by omega)) ?_
  rintro _ _ ⟨⟨uspec, rfl⟩, rfl⟩
  simp
  refine callK0 (toFs_c x xa1 xa2 xF1 xF2 w xtNode _ (xk1.to (by simp)) (xk2.to (by simp)) xlim) ?_
  rintro _ _ ⟨xc1, _, xc2, _, rfl, xoc⟩
  obtain ⟨xuc, rfl⟩ := xoc.ext.pre
  obtain ⟨_, _, xcs1, xcs2, -⟩ := fsR xoc.r
  simp
  refine callK0 (genAt_impl_c x xc1 xc2 _ _ true _ _ (xcs1.to (by simp)) (xcs2.to (by simp)) xnl p (by omega)) ?_
  rintro _ _ ⟨⟨uimpl, rfl⟩, rfl⟩
  simp
  refine drawK true (by kernel_rfl) ?_
  simp
  refine callK (toFs_c x xa1 xa2 xF1 xF2 w xtNode _ (xk1.to (by simp)) (xk2.to (by simp)) xlim) ?_
  rintro _ _ ⟨xd1, _, xd2, _, rfl, xod⟩
  obtain ⟨xud, rfl⟩ := xod.ext.pre
  refine ⟨fun _ => xod.ext, ?_⟩
  obtain ⟨_, _, xds1, xds2, -⟩ := fsR xod.r
  simp
  refine callK (eqFs_c x x xc1 xd1 _ _ xc2 xd2 _ _ true true _ _ _ (xcs1.to (by simp)) (xds1.to (by simp)) (xcs2.to (by simp)) (xds2.to (by simp)) xlim) ?_
  rintro _ _ ⟨⟨uxeq, rfl⟩, rfl⟩
  refine ⟨fun _ => Ext.push _ _, ?_⟩
  simp

theorem FnExactGenAt_v (h : Hp) (avs : List Value) (hv : All2 (fun V av => V h av) [(VS (fsE false 146) Fs.bd), (V1 strE fun s => s.length ≤ maxLen)] avs) : ACall Try.prog 11 avs h fun r _ => r = .bool true := by
  obtain ⟨v0, vs0, rfl, q0, hv⟩ := All2.cons_iff.1 hv
  obtain ⟨v1, vs1, rfl, q1, hv⟩ := All2.cons_iff.1 hv
  obtain rfl := All2.nil_iff.1 hv
  obtain ⟨x, _, _, rfl, ⟨xa1, xF1, xa2, xF2, rfl, _, xk1, xk2⟩, xbd⟩ := q0
  obtain ⟨p, _, ⟨pe, _⟩, pn⟩ := q1
  obtain rfl : v1 = _ := List.cons.inj pe |>.1
  exact FnExactGenAt_c x xa1 xa2 xF1 xF2 p false _ h xk1 xk2 xbd pn
end Go.Proofs.Ytoknpbmcpaaalaa.Hz
