/- Trees: the laws' helpers; two trees compared, both programs. -/
import Derived.Test.YtmiflnadgckenaaHzI2
import Derived.Test.YtmiflnadgckenaaHzV
namespace Go.Proofs.Ytmiflnadgckenaa.Hz
open Go.RowKit
set_option maxRecDepth 20000

theorem itemEq {x y : Item} : x = y ↔ (x.path = y.path ∧ x.kind = y.kind ∧ x.data = y.data ∧ x.time = y.time) := by cases x; cases y; simp
section
variable (es : List Item) (a : Option Addr) (F : List Nat) (w : Bool) (t : TypeId) (h : Hp) (hr : slR w t itemE h es a F)
include hr
theorem szTree_c (left : Int) (h1 : 0 ≤ left) (h2 : left ≤ 1048576) (hl : es.length ≤ maxLen) (h3 : ∀ e ∈ es, e.path.length ≤ maxLen ∧ e.data.length ≤ maxLen) :
    ACall Try.prog 23 [.agg #[.slice a es.length es.length], .int .i64 left] h fun r h' => (∃ t, h' = h ++ t) ∧ ∃ n : Int, r = .int .i64 n ∧ n ≤ left ∧ (0 ≤ n → es.length + sumL Item.nl es + n = left) := by
  refine acall mixed Try.func23 rfl (by kernel_rfl) ?_
  simp [Try.f23]
  refine callK0 (szItemS_c es a F w t left _ (hr.ext (Ext.push h _)) h1 h2 hl h3) ?_
  rintro _ _ ⟨⟨t1, rfl⟩, n, rfl, hn, he⟩
  simp
  refine asplitK_intro (fun hb => ?_) (fun hb => ?_) <;> simp at hb <;> simp [hb]
  · omega
  · exact ⟨hn, he hb⟩
theorem toTree_c (hl : es.length ≤ 1048576) :
    ACall Try.prog 25 [.agg #[.slice a es.length es.length]] h fun r h' => ∃ a' F', r = .agg #[.slice a' es.length es.length] ∧ Own h 44 itemE h' es a' F' := by
  refine acall mixed Try.func25 rfl (by kernel_rfl) ?_
  simp [Try.f25]
  refine callK0 (toItemS_c es a F w t _ (hr.ext (Ext.push h _)) hl) ?_
  rintro _ H ⟨a', F', rfl, own⟩
  obtain ⟨t1, rfl⟩ := own.ext.pre
  simp
  exact ⟨F', own.locals [_, _, _] rfl⟩
end

section
variable (xs ys : List Item) (a b : Option Addr) (F G : List Nat) (w w' : Bool) (t t' : TypeId) (h : Hp) (hx : slR w t itemE h xs a F) (hy : slR w' t' itemE h ys b G) (hl : xs.length ≤ 1048576)
include hx hy hl
theorem eqTree_c : ACall Try.prog 27 [.agg #[.slice a xs.length xs.length], .agg #[.slice b ys.length ys.length]] h fun r h' => (∃ t, h' = h ++ t) ∧ r = .bool (decide (xs = ys)) := by
  refine acall mixed Try.func27 rfl (by kernel_rfl) ?_
  simp [Try.f27]
  refine callK0 (eqItemS_c xs ys a b F G w w' t t' _ (hx.ext (Ext.push h _)) (hy.ext (Ext.push h _)) hl) ?_
  rintro _ _ ⟨⟨t1, rfl⟩, rfl⟩
  simp
  refine asplitK_intro (fun hb => ?_) (fun hb => ?_) <;> simp at hb <;> simp [hb]
theorem treeSame_spec_c : ACall Try.prog 24 [.agg #[.slice a xs.length xs.length], .agg #[.slice b ys.length ys.length]] h fun r h' => (∃ t, h' = h ++ t) ∧ r = .bool (decide (xs = ys)) := by
  refine acall mixed Try.func24 rfl (by kernel_rfl) ?_
  simp [Try.f24]
  refine asplitK_intro (fun hb => ?_) (fun hb => ?_) <;> simp at hb <;> simp [hb]
  · rintro rfl; exact hb rfl
  have hl2 : xs.length = ys.length := by omega
  refine aloop mixed [2, 3, 5] (fun (k : Nat) => [.pointer (some ⟨h.length, 0, none⟩), .pointer (some ⟨h.length + 1, 0, none⟩), .int .i64 k]) (fun _ => _) (fun k => k ≤ xs.length ∧ xs.take k = ys.take k) (fun k => xs.length - k) 0 ⟨by omega, by simp⟩ rfl rfl ?_
  rintro k ⟨hk, he⟩
  simp [mkF]
  refine asplitK_intro (fun hc => ?_) (fun hc => ?_) <;> simp at hc <;> simp [hc]
  · have hc2 : k < ys.length := by omega
    obtain ⟨o, off, rfl, c0, c1, c2, c3⟩ := itemAt (hx.ext (Ext.push h [⟨true, true, 40, [.slice a xs.length xs.length]⟩, ⟨true, true, 40, [.slice b ys.length ys.length]⟩])) hc
    obtain ⟨o', off', rfl, d0, d1, d2, d3⟩ := itemAt (hy.ext (Ext.push h [⟨true, true, 40, [.slice (some ⟨o, off, none⟩) xs.length xs.length]⟩, ⟨true, true, 40, [.slice b ys.length ys.length]⟩])) hc2
    refine drawK false (by kernel_rfl) ?_
    simp [hc, hc2, c0, c1, c2, c3, d0, d1, d2, d3]
    refine asplitK_intro (fun hd => ?_) (fun hd => ?_)
    · have hne : xs ≠ ys := by rintro rfl; simp at hd
      simp [hne]
    · have hd2 : xs[k] = ys[k] := by simp at hd; exact itemEq.2 (by simp [hd])
      simp
      exact anext (k + 1) ⟨hc, take_snoc hc hc2 he hd2⟩ (by omega) (by simp [pickF, wrap_succ (show k < 9223372036854775807 by omega)]) rfl (by simp)
  · obtain rfl : k = xs.length := by omega
    exact take_all hl2 he
theorem equalItem_c : ACall Try.prog 62 [.slice a xs.length xs.length, .slice b ys.length ys.length] h fun r h' => h' = h ∧ r = .bool (decide (xs = ys)) := by
  refine acall mixed Try.func62 rfl (by kernel_rfl) ?_
  simp [Try.f62]
  refine asplitK_intro (fun hb => ?_) (fun hb => ?_) <;> simp at hb <;> simp [hb]
  · rintro rfl; exact hb rfl
  have hl2 : xs.length = ys.length := by omega
  refine aloop mixed [0, 1, 12, 13] (fun (k : Nat) => [.slice a xs.length xs.length, .slice b ys.length ys.length, .int .i64 xs.length, .int .i64 k]) (fun _ => h) (fun k => k ≤ xs.length ∧ xs.take k = ys.take k) (fun k => xs.length - k) 0 ⟨by omega, by simp⟩ (by simp [pickF, hl2]) rfl ?_
  rintro k ⟨hk, he⟩
  simp [mkF]
  refine asplitK_intro (fun hc => ?_) (fun hc => ?_) <;> simp at hc <;> simp [hc]
  · have hc2 : k < ys.length := by omega
    obtain ⟨o, off, rfl, c0, c1, c2, c3⟩ := itemAt hx hc
    obtain ⟨o', off', rfl, d0, d1, d2, d3⟩ := itemAt hy hc2
    refine drawK false (by kernel_rfl) ?_
    simp [hc, hc2, c0, c1, c2, c3, d0, d1, d2, d3]
    refine asplitK_intro (fun hd => ?_) (fun hd => ?_)
    · have hne : xs ≠ ys := by rintro rfl; simp at hd
      simp [hne]
    · have hd2 : xs[k] = ys[k] := by simp at hd; exact itemEq.2 (by simp [hd])
      simp
      exact anext (k + 1) ⟨hc, take_snoc hc hc2 he hd2⟩ (by omega) (by simp [pickF, wrap_succ (show k < 9223372036854775807 by omega)]) rfl (by simp)
  · obtain rfl : k = xs.length := by omega
    exact take_all hl2 he
theorem treeSame_impl_c : ACall Try.prog 26 [.agg #[.slice a xs.length xs.length], .agg #[.slice b ys.length ys.length]] h fun r h' => (∃ t, h' = h ++ t) ∧ r = .bool (decide (xs = ys)) := by
  refine acall mixed Try.func26 rfl (by kernel_rfl) ?_
  simp [Try.f26]
  refine callK0 (equalItem_c xs ys a b F G w w' t t' _ (hx.ext (Ext.push h _)) (hy.ext (Ext.push h _)) hl) ?_
  rintro _ _ ⟨rfl, rfl⟩
  simp
end

/-! ### The law -/
theorem FnExactTreeSame_c (xs ys : List Item) (a b : Option Addr) (F G : List Nat) (w w' : Bool) (t t' : TypeId) (h : Hp) (hx : slR w t itemE h xs a F) (hy : slR w' t' itemE h ys b G) (hl : xs.length ≤ maxLen) (hl' : ys.length ≤ maxLen)
    (h3 : ∀ e ∈ xs, e.path.length ≤ maxLen ∧ e.data.length ≤ maxLen) (h3' : ∀ e ∈ ys, e.path.length ≤ maxLen ∧ e.data.length ≤ maxLen) :
    ACall Try.prog 6 [.agg #[.slice a xs.length xs.length], .agg #[.slice b ys.length ys.length]] h fun r _ => r = .bool true := by
  refine acall mixed Try.func6 rfl (by kernel_rfl) ?_
  have h4 : maxLen = 9223372036854775807 := by decide
  simp [Try.f6]
  refine callK0 (szTree_c xs a F w t _ (hx.ext (Ext.push h _)) _ (by omega) (by omega) hl h3) ?_
  rintro _ _ ⟨⟨t1, rfl⟩, n, rfl, hn1, hn2⟩
  simp
  refine asplitK_intro (fun hc => ?_) (fun hc => ?_) <;> simp at hc <;> simp
  have hlx : xs.length ≤ 1048576 := by have := hn2 hc; omega
  refine callK0 (szTree_c ys b G w' t' _ (hy.ext (Ext.push h _)) n hc hn1 hl' h3') ?_
  rintro _ _ ⟨⟨t2, rfl⟩, m, rfl, hm1, hm2⟩
  simp
  refine asplitK_intro (fun hd => ?_) (fun hd => ?_) <;> simp at hd <;> simp
  have hly : ys.length ≤ 1048576 := by have := hm2 hd; omega
  refine drawK true (by kernel_rfl) ?_
  simp
  refine callK (toTree_c xs a F w t _ (hx.ext (Ext.push h _)) hlx) ?_
  rintro _ H1 ⟨a1, F1, rfl, o1⟩
  obtain ⟨u1, rfl⟩ := o1.ext.pre
  refine ⟨fun _ => o1.ext, ?_⟩
  simp at o1
  simp
  refine callK (toTree_c ys b G w' t' _ (hy.ext (Ext.push h _)) hly) ?_
  rintro _ H2 ⟨a2, F2, rfl, o2⟩
  obtain ⟨u2, rfl⟩ := o2.ext.pre
  refine ⟨fun _ => o2.ext, ?_⟩
  simp at o2
  simp
  refine callK (treeSame_spec_c xs ys a1 a2 F1 F2 true true _ _ _ (o1.sl.ext o2.ext) o2.sl hlx) ?_
  rintro _ _ ⟨⟨u3, rfl⟩, rfl⟩
  refine ⟨fun _ => Ext.push _ _, ?_⟩
  simp
  refine callK0 (toTree_c xs a F w t _ (hx.ext (Ext.push h _)) hlx) ?_
  rintro _ H3 ⟨a3, F3, rfl, o3⟩
  obtain ⟨u4, rfl⟩ := o3.ext.pre
  simp at o3
  simp
  refine callK0 (toTree_c ys b G w' t' _ (hy.ext (Ext.push h _)) hly) ?_
  rintro _ H4 ⟨a4, F4, rfl, o4⟩
  obtain ⟨u5, rfl⟩ := o4.ext.pre
  simp at o4
  simp
  have p3 := o3.grow (Ext.push _ [⟨true, true, 40, [.slice a3 xs.length xs.length]⟩])
  simp at p3
  have q3 := (p3.grow o4.ext).grow (Ext.push _ [⟨true, true, 40, [.slice a4 ys.length ys.length]⟩])
  have q4 := o4.grow (Ext.push _ [⟨true, true, 40, [.slice a4 ys.length ys.length]⟩])
  simp at q3 q4
  refine callK0 (treeSame_impl_c xs ys a3 a4 F3 F4 true true _ _ _ q3.sl q4.sl hlx) ?_
  rintro _ _ ⟨⟨u6, rfl⟩, rfl⟩
  simp
  have r3 := q3.grow (Ext.push _ u6)
  have r4 := q4.grow (Ext.push _ u6)
  simp at r3 r4
  refine drawK true (by kernel_rfl) ?_
  simp
  refine callK (toTree_c xs a F w t _ (hx.ext (Ext.push h _)) hlx) ?_
  rintro _ H5 ⟨a5, F5, rfl, o5⟩
  obtain ⟨u7, rfl⟩ := o5.ext.pre
  refine ⟨fun _ => o5.ext, ?_⟩
  simp at o5
  simp
  refine callK (eqTree_c xs xs a3 a5 F3 F5 true true _ _ _ (r3.sl.ext o5.ext) o5.sl hlx) ?_
  rintro _ _ ⟨⟨u8, rfl⟩, rfl⟩
  refine ⟨fun _ => Ext.push _ _, ?_⟩
  simp
  have s4 := (r4.grow o5.ext).grow (Ext.push _ u8)
  simp at s4
  refine drawK true (by kernel_rfl) ?_
  simp
  refine callK (toTree_c ys b G w' t' _ (hy.ext (Ext.push h _)) hly) ?_
  rintro _ H6 ⟨a6, F6, rfl, o6⟩
  obtain ⟨u9, rfl⟩ := o6.ext.pre
  refine ⟨fun _ => o6.ext, ?_⟩
  simp at o6
  simp
  refine callK (eqTree_c ys ys a4 a6 F4 F6 true true _ _ _ (s4.sl.ext o6.ext) o6.sl hly) ?_
  rintro _ _ ⟨⟨u10, rfl⟩, rfl⟩
  refine ⟨fun _ => Ext.push _ _, ?_⟩
  simp
end Go.Proofs.Ytmiflnadgckenaa.Hz
