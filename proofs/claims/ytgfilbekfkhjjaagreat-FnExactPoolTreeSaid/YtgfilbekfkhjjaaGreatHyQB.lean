/- A pool's move: both programs. -/
import Derived.Test.YtgfilbekfkhjjaaGreatHyQA
import Derived.Test.YtgfilbekfkhjjaaGreatHyGF
namespace Go.Proofs.YtgfilbekfkhjjaaGreat.Hz
open Go.RowKit
set_option linter.unusedVariables false
set_option linter.unusedSimpArgs false
set_option maxRecDepth 20000

theorem isMode_c (k : Int) (h : Hp) : ACall Tryz.prog 61 [.int .i64 k] h fun r h' => r = .bool (inR k 0 2) ∧ h' = h := by
  refine acall mixed Tryz.func61 rfl (by kernel_rfl) ?_
  simp [Tryz.f61]
  refine callK0 (withinR k 0 2 h) ?_
  rintro _ _ ⟨rfl, rfl⟩
  simp
theorem move_off {m : Move} (h : m.on = false) : (decide (m = ⟨false, false, 0, 0, [], 0, 0⟩)) = (decide (m.clean = false) && decide (m.src = 0) && decide (m.dst = 0) && decide (m.path = []) && decide (m.gen = 0) && decide (m.done = 0)) := by
  obtain ⟨on, clean, src, dst, path, gen, done⟩ := m
  simp at h
  subst h
  simp [Bool.decide_and, Bool.and_assoc]
set_option maxHeartbeats 1000000 in
theorem moveOk_spec_c (m : Move) (n : Nat) (h : Hp) (hn : n ≤ 1048576) (hp : m.path.length ≤ 1048576) (q : Pool) (hq : q.move = m) (hb : q.branches.length = n) :
    ACall Tryz.prog 55 [.agg #[.bool m.on, .bool m.clean, .int .i64 m.src, .int .i64 m.dst, .string (S m.path), .int .i64 m.gen, .int .i64 m.done], .int .i64 n] h fun r h' => (∃ t, h' = h ++ t) ∧ r = .bool (moveOk q) := by
  refine acall mixed Tryz.func55 rfl (by kernel_rfl) ?_
  simp [Tryz.f55]
  have hm := move_off (m := m)
  have hw : IntKind.i64.wrap ((n : Int) - 1) = (n : Int) - 1 := wrap_in (by omega) (by omega)
  cases hon : m.on
  · simp [moveOk, hq, hon, hm hon]
    grind
  simp [hw]
  refine callK0 (l1InR _ _ _ _) ?_
  rintro _ _ ⟨rfl, rfl⟩
  cases e1 : inR m.src 0 ((n : Int) - 1)
  · simp [moveOk, hq, hon, hb, e1]
  simp [hw]
  refine callK0 (l1InR _ _ _ _) ?_
  rintro _ _ ⟨rfl, rfl⟩
  cases e2 : inR m.dst 0 ((n : Int) - 1)
  · simp [moveOk, hq, hon, hb, e1, e2]
  simp [hw]
  refine asplitK_intro (fun e3 => ?_) (fun e3 => ?_) <;> have e3' := e3 <;> simp at e3 <;> simp [e3, e3']
  rotate_left
  · simp [moveOk, hq, hon, hb, e1, e2, e3]
  refine callK0 (pathOk_spec_c m.path _ hp) ?_
  rintro _ _ ⟨⟨t, rfl⟩, rfl⟩
  cases e4 : pathOk m.path
  · simp [moveOk, hq, hon, hb, e1, e2, e3, e4]
  simp
  refine asplitK_intro (fun e5 => ?_) (fun e5 => ?_) <;> have e5' := e5 <;> simp at e5 <;> simp [e5, e5']
  · simp [moveOk, hq, hon, hb, e1, e2, e3, e4, e5]
  refine callK0 (l1InR _ _ _ _) ?_
  rintro _ _ ⟨rfl, rfl⟩
  cases e6 : inR m.gen 0 1000000
  · simp [moveOk, hq, hon, hb, e1, e2, e3, e4, e5, e6]
  simp
  refine callK0 (l1InR _ _ _ _) ?_
  rintro _ _ ⟨rfl, rfl⟩
  simp [moveOk, hq, hon, hb, e1, e2, e3, e4, e5, e6]
set_option maxHeartbeats 1000000 in
theorem moveOk_impl_c (q : Pool) (b : Option Addr) (m : Move) (n : Nat) (h : Hp) (hn : n ≤ 1048576) (hp : m.path.length ≤ 1048576) (hq : q.move = m) (hb : q.branches.length = n) :
    ACall Tryz.prog 60 [.agg #[.int .i64 q.policy, .int .i64 q.minFree, .slice b n n, .bool m.on, .bool m.clean, .int .i64 m.src, .int .i64 m.dst, .string (S m.path), .int .i64 m.gen, .int .i64 m.done]] h fun r h' => (∃ t, h' = h ++ t) ∧ r = .bool (moveOk q) := by
  refine acall mixed Tryz.func60 rfl (by kernel_rfl) ?_
  simp [Tryz.f60]
  have hm := move_off (m := m)
  have hw : IntKind.i64.wrap ((n : Int) - 1) = (n : Int) - 1 := wrap_in (by omega) (by omega)
  cases hon : m.on
  · simp [moveOk, hq, hon, hm hon]
    grind
  simp [hw]
  refine callK0 (withinR _ _ _ _) ?_
  rintro _ _ ⟨rfl, rfl⟩
  cases e1 : inR m.src 0 ((n : Int) - 1)
  · simp [moveOk, hq, hon, hb, e1]
  simp [hw]
  refine callK0 (withinR _ _ _ _) ?_
  rintro _ _ ⟨rfl, rfl⟩
  cases e2 : inR m.dst 0 ((n : Int) - 1)
  · simp [moveOk, hq, hon, hb, e1, e2]
  simp [hw]
  refine asplitK_intro (fun e3 => ?_) (fun e3 => ?_) <;> have e3' := e3 <;> simp at e3 <;> simp [e3, e3']
  rotate_left
  · simp [moveOk, hq, hon, hb, e1, e2, e3]
  refine callK0 (pathOk_impl_c m.path _ hp) ?_
  rintro _ _ ⟨⟨t, rfl⟩, rfl⟩
  cases e4 : pathOk m.path
  · simp [moveOk, hq, hon, hb, e1, e2, e3, e4]
  simp
  refine asplitK_intro (fun e5 => ?_) (fun e5 => ?_) <;> have e5' := e5 <;> simp at e5 <;> simp [e5, e5']
  · simp [moveOk, hq, hon, hb, e1, e2, e3, e4, e5]
  refine callK0 (withinR _ _ _ _) ?_
  rintro _ _ ⟨rfl, rfl⟩
  cases e6 : inR m.gen 0 1000000
  · simp [moveOk, hq, hon, hb, e1, e2, e3, e4, e5, e6]
  simp
  refine callK0 (withinR _ _ _ _) ?_
  rintro _ _ ⟨rfl, rfl⟩
  simp [moveOk, hq, hon, hb, e1, e2, e3, e4, e5, e6]
end Go.Proofs.YtgfilbekfkhjjaaGreat.Hz
