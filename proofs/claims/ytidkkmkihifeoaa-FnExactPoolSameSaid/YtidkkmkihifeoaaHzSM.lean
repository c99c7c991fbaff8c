/- Nodes, images of file systems and pools compared: both programs. -/
import Derived.Test.YtidkkmkihifeoaaHzPL
namespace Go.Proofs.Ytidkkmkihifeoaa.Hz
open Go.RowKit
set_option maxRecDepth 20000
set_option linter.unusedVariables false

theorem l1Same_c (xs ys : List Int) (a b : Option Addr) (F G : List Nat) (w w' : Bool) (t t' : TypeId) (h : Hp) (hx : slR w t intE h xs a F) (hy : slR w' t' intE h ys b G) (hl : xs.length ≤ 1048576) :
    ACall Try.prog 190 [.slice a xs.length xs.length, .slice b ys.length ys.length] h fun r h' => (∃ t, h' = h ++ t) ∧ r = .bool (decide (xs = ys)) := by
  refine acall mixed Try.func190 rfl (by kernel_rfl) ?_
  simp [Try.f190]
  refine asplitK_intro (fun hb => ?_) (fun hb => ?_) <;> simp at hb <;> simp [hb]
  · rintro rfl; exact hb rfl
  have hl2 : xs.length = ys.length := by omega
  refine aloop mixed [0, 1, 5] (fun (x : Nat × Hp) => [.slice a xs.length xs.length, .slice b ys.length ys.length, .int .i64 x.1]) (fun x => h ++ x.2) (fun x => x.1 ≤ xs.length ∧ xs.take x.1 = ys.take x.1) (fun x => xs.length - x.1) (0, []) ⟨by simp, by simp⟩ (by simp [pickF]) (by simp) ?_
  rintro ⟨k, t⟩ ⟨hk, he⟩
  simp only at hk he
  simp [mkF]
  refine asplitK_intro (fun hc => ?_) (fun hc => ?_) <;> simp at hc <;> simp [hc]
  · have hc2 : k < ys.length := by omega
    obtain ⟨o, off, rfl, c0⟩ := intEAt (hx.ext (Ext.push h t)) hc
    obtain ⟨o', off', rfl, d0⟩ := intEAt (hy.ext (Ext.push h t)) hc2
    refine drawK false (by kernel_rfl) ?_
    simp [hc, hc2, c0, d0]
    refine asplitK_intro (fun hd => ?_) (fun hd => ?_) <;> simp at hd <;> simp [hd]
    · rintro rfl; exact hd rfl
    · exact anext (k + 1, t) ⟨hc, take_snoc hc hc2 he hd⟩ (by simp only; omega) (by simp [pickF, wrap_succ (show k < 9223372036854775807 by omega)]) (by simp) (by simp)
  · obtain rfl : k = xs.length := by omega
    exact take_all (by omega) he

theorem l1Texts_c (xs ys : List Str) (a b : Option Addr) (F G : List Nat) (w w' : Bool) (t t' : TypeId) (h : Hp) (hx : slR w t strE h xs a F) (hy : slR w' t' strE h ys b G) (hl : xs.length ≤ 1048576) :
    ACall Try.prog 156 [.slice a xs.length xs.length, .slice b ys.length ys.length] h fun r h' => (∃ t, h' = h ++ t) ∧ r = .bool (decide (xs = ys)) := by
  refine acall mixed Try.func156 rfl (by kernel_rfl) ?_
  simp [Try.f156]
  refine asplitK_intro (fun hb => ?_) (fun hb => ?_) <;> simp at hb <;> simp [hb]
  · rintro rfl; exact hb rfl
  have hl2 : xs.length = ys.length := by omega
  refine aloop mixed [0, 1, 5] (fun (x : Nat × Hp) => [.slice a xs.length xs.length, .slice b ys.length ys.length, .int .i64 x.1]) (fun x => h ++ x.2) (fun x => x.1 ≤ xs.length ∧ xs.take x.1 = ys.take x.1) (fun x => xs.length - x.1) (0, []) ⟨by simp, by simp⟩ (by simp [pickF]) (by simp) ?_
  rintro ⟨k, t⟩ ⟨hk, he⟩
  simp only at hk he
  simp [mkF]
  refine asplitK_intro (fun hc => ?_) (fun hc => ?_) <;> simp at hc <;> simp [hc]
  · have hc2 : k < ys.length := by omega
    obtain ⟨o, off, rfl, c0⟩ := strEAt (hx.ext (Ext.push h t)) hc
    obtain ⟨o', off', rfl, d0⟩ := strEAt (hy.ext (Ext.push h t)) hc2
    refine drawK false (by kernel_rfl) ?_
    simp [hc, hc2, c0, d0]
    refine asplitK_intro (fun hd => ?_) (fun hd => ?_) <;> simp at hd <;> simp [hd]
    · exact anext (k + 1, t) ⟨hc, take_snoc hc hc2 he hd⟩ (by simp only; omega) (by simp [pickF, wrap_succ (show k < 9223372036854775807 by omega)]) (by simp) (by simp)
    · rintro rfl; exact hd rfl
  · obtain rfl : k = xs.length := by omega
    exact take_all (by omega) he

theorem equalInt_c (xs ys : List Int) (a b : Option Addr) (F G : List Nat) (w w' : Bool) (t t' : TypeId) (h : Hp) (hx : slR w t intE h xs a F) (hy : slR w' t' intE h ys b G) (hl : xs.length ≤ 1048576) :
    ACall Try.prog 191 [.slice a xs.length xs.length, .slice b ys.length ys.length] h fun r h' => (∃ t, h' = h ++ t) ∧ r = .bool (decide (xs = ys)) := by
  refine acall mixed Try.func191 rfl (by kernel_rfl) ?_
  simp [Try.f191]
  refine asplitK_intro (fun hb => ?_) (fun hb => ?_) <;> simp at hb <;> simp [hb]
  · rintro rfl; exact hb rfl
  have hl2 : xs.length = ys.length := by omega
  refine aloop mixed [0, 1, 12, 13] (fun (x : Nat × Hp) => [.slice a xs.length xs.length, .slice b ys.length ys.length, .int .i64 xs.length, .int .i64 x.1]) (fun x => h ++ x.2) (fun x => x.1 ≤ xs.length ∧ xs.take x.1 = ys.take x.1) (fun x => xs.length - x.1) (0, []) ⟨by simp, by simp⟩ (by simp [pickF, hl2]) (by simp) ?_
  rintro ⟨k, t⟩ ⟨hk, he⟩
  simp only at hk he
  simp [mkF]
  refine asplitK_intro (fun hc => ?_) (fun hc => ?_) <;> simp at hc <;> simp [hc]
  · have hc2 : k < ys.length := by omega
    obtain ⟨o, off, rfl, c0⟩ := intEAt (hx.ext (Ext.push h t)) hc
    obtain ⟨o', off', rfl, d0⟩ := intEAt (hy.ext (Ext.push h t)) hc2
    refine drawK false (by kernel_rfl) ?_
    simp [hc, hc2, c0, d0]
    refine asplitK_intro (fun hd => ?_) (fun hd => ?_) <;> simp at hd <;> simp [hd]
    · rintro rfl; exact hd rfl
    · exact anext (k + 1, t) ⟨hc, take_snoc hc hc2 he hd⟩ (by simp only; omega) (by simp [pickF, wrap_succ (show k < 9223372036854775807 by omega)]) (by simp) (by simp)
  · obtain rfl : k = xs.length := by omega
    exact take_all (by omega) he

theorem equalStr_c (xs ys : List Str) (a b : Option Addr) (F G : List Nat) (w w' : Bool) (t t' : TypeId) (h : Hp) (hx : slR w t strE h xs a F) (hy : slR w' t' strE h ys b G) (hl : xs.length ≤ 1048576) :
    ACall Try.prog 161 [.slice a xs.length xs.length, .slice b ys.length ys.length] h fun r h' => (∃ t, h' = h ++ t) ∧ r = .bool (decide (xs = ys)) := by
  refine acall mixed Try.func161 rfl (by kernel_rfl) ?_
  simp [Try.f161]
  refine asplitK_intro (fun hb => ?_) (fun hb => ?_) <;> simp at hb <;> simp [hb]
  · rintro rfl; exact hb rfl
  have hl2 : xs.length = ys.length := by omega
  refine aloop mixed [0, 1, 12, 13] (fun (x : Nat × Hp) => [.slice a xs.length xs.length, .slice b ys.length ys.length, .int .i64 xs.length, .int .i64 x.1]) (fun x => h ++ x.2) (fun x => x.1 ≤ xs.length ∧ xs.take x.1 = ys.take x.1) (fun x => xs.length - x.1) (0, []) ⟨by simp, by simp⟩ (by simp [pickF, hl2]) (by simp) ?_
  rintro ⟨k, t⟩ ⟨hk, he⟩
  simp only at hk he
  simp [mkF]
  refine asplitK_intro (fun hc => ?_) (fun hc => ?_) <;> simp at hc <;> simp [hc]
  · have hc2 : k < ys.length := by omega
    obtain ⟨o, off, rfl, c0⟩ := strEAt (hx.ext (Ext.push h t)) hc
    obtain ⟨o', off', rfl, d0⟩ := strEAt (hy.ext (Ext.push h t)) hc2
    refine drawK false (by kernel_rfl) ?_
    simp [hc, hc2, c0, d0]
    refine asplitK_intro (fun hd => ?_) (fun hd => ?_) <;> simp at hd <;> simp [hd]
    · exact anext (k + 1, t) ⟨hc, take_snoc hc hc2 he hd⟩ (by simp only; omega) (by simp [pickF, wrap_succ (show k < 9223372036854775807 by omega)]) (by simp) (by simp)
    · rintro rfl; exact hd rfl
  · obtain rfl : k = xs.length := by omega
    exact take_all (by omega) he

theorem nodeSame_impl_c (x y : Node) (a1 b1 : Option Addr) (F1 G1 : List Nat) (w w' : Bool)  (h : Hp) (k1 : slR w 3 intE h x.blocks a1 F1) (l1 : slR w' 3 intE h y.blocks b1 G1) (hl : x.lim) :
    ACall Try.prog 160 [.agg #[.int .i64 x.kind, .int .i64 x.gen, .int .i64 x.time, .int .i64 x.size, .slice a1 x.blocks.length x.blocks.length], .agg #[.int .i64 y.kind, .int .i64 y.gen, .int .i64 y.time, .int .i64 y.size, .slice b1 y.blocks.length y.blocks.length]] h fun r h' => (∃ t, h' = h ++ t) ∧ r = .bool (decide (x = y)) := by
  refine acall mixed Try.func160 rfl (by kernel_rfl) ?_
  have he : (x = y) ↔ (x.kind = y.kind ∧ x.gen = y.gen ∧ x.time = y.time ∧ x.size = y.size ∧ x.blocks = y.blocks) := by cases x; cases y; simp
  simp [Try.f160, he]
  refine asplitK_intro (fun hb => ?_) (fun hb => ?_) <;> (have hb' := hb; simp at hb; simp [hb, hb'])
  refine asplitK_intro (fun hb => ?_) (fun hb => ?_) <;> (have hb' := hb; simp at hb; simp [hb, hb'])
  refine asplitK_intro (fun hb => ?_) (fun hb => ?_) <;> (have hb' := hb; simp at hb; simp [hb, hb'])
  refine asplitK_intro (fun hb => ?_) (fun hb => ?_) <;> (have hb' := hb; simp at hb; simp [hb, hb'])
  refine callK0 (equalInt_c x.blocks y.blocks a1 b1 F1 G1 w w' _ _ _ (k1.ext (Ext.push h _)) (l1.ext (Ext.push h _)) hl) ?_
  rintro _ _ ⟨⟨t1, rfl⟩, rfl⟩
  simp

theorem nodeSame_spec_c (x y : Node) (a1 b1 : Option Addr) (F1 G1 : List Nat) (w w' : Bool)  (h : Hp) (k1 : slR w 3 intE h x.blocks a1 F1) (l1 : slR w' 3 intE h y.blocks b1 G1) (hl : x.lim) :
    ACall Try.prog 157 [.agg #[.int .i64 x.kind, .int .i64 x.gen, .int .i64 x.time, .int .i64 x.size, .slice a1 x.blocks.length x.blocks.length], .agg #[.int .i64 y.kind, .int .i64 y.gen, .int .i64 y.time, .int .i64 y.size, .slice b1 y.blocks.length y.blocks.length]] h fun r h' => (∃ t, h' = h ++ t) ∧ r = .bool (decide (x = y)) := by
  refine acall mixed Try.func157 rfl (by kernel_rfl) ?_
  have he : (x = y) ↔ (x.kind = y.kind ∧ x.gen = y.gen ∧ x.time = y.time ∧ x.size = y.size ∧ x.blocks = y.blocks) := by cases x; cases y; simp
  simp [Try.f157, he]
  refine asplitK_intro (fun hb => ?_) (fun hb => ?_) <;> (have hb' := hb; simp at hb; simp [hb, hb'])
  refine asplitK_intro (fun hb => ?_) (fun hb => ?_) <;> (have hb' := hb; simp at hb; simp [hb, hb'])
  refine asplitK_intro (fun hb => ?_) (fun hb => ?_) <;> (have hb' := hb; simp at hb; simp [hb, hb'])
  refine asplitK_intro (fun hb => ?_) (fun hb => ?_) <;> (have hb' := hb; simp at hb; simp [hb, hb'])
  refine callK0 (l1Same_c x.blocks y.blocks a1 b1 F1 G1 w w' _ _ _ (k1.ext (Ext.push h _)) (l1.ext (Ext.push h _)) hl) ?_
  rintro _ _ ⟨⟨t1, rfl⟩, rfl⟩
  simp

theorem equalFuncNode_c (xs ys : List Node) (a b : Option Addr) (F G : List Nat) (w w' : Bool) (t t' : TypeId) (h : Hp) (hx : slR w t (nodeE w) h xs a F) (hy : slR w' t' (nodeE w') h ys b G) (hl : xs.length ≤ 1048576) (hb1 : ∀ x ∈ xs, x.lim) :
    ACall Try.prog 159 [.slice a xs.length xs.length, .slice b ys.length ys.length, .func (.func 160) #[] #[]] h fun r h' => (∃ t, h' = h ++ t) ∧ r = .bool (decide (xs = ys)) := by
  refine acall mixed Try.func159 rfl (by kernel_rfl) ?_
  simp [Try.f159]
  refine asplitK_intro (fun hb => ?_) (fun hb => ?_) <;> simp at hb <;> simp [hb]
  · rintro rfl; exact hb rfl
  have hl2 : xs.length = ys.length := by omega
  refine aloop mixed [0, 1, 2, 15, 16, 17] (fun (x : Nat × Hp) => [.slice a xs.length xs.length, .slice b ys.length ys.length, .func (.func 160) #[] #[], .slice a xs.length xs.length, .int .i64 xs.length, .int .i64 x.1]) (fun x => h ++ x.2) (fun x => x.1 ≤ xs.length ∧ xs.take x.1 = ys.take x.1) (fun x => xs.length - x.1) (0, []) ⟨by simp, by simp⟩ (by simp [pickF, hl2]) (by simp) ?_
  rintro ⟨k, t⟩ ⟨hk, he⟩
  simp only at hk he
  simp [mkF]
  refine asplitK_intro (fun hc => ?_) (fun hc => ?_) <;> simp at hc <;> simp [hc]
  · have hc2 : k < ys.length := by omega
    obtain ⟨o, off, ax1, fx1, rfl, c0, c1, c2, c3, c4, ck1, -⟩ := nodeAt (hx.ext (Ext.push h t)) hc
    obtain ⟨o', off', ay1, fy1, rfl, d0, d1, d2, d3, d4, dk1, -⟩ := nodeAt (hy.ext (Ext.push h t)) hc2
    have d0' := cell_more d0
    have d1' := cell_more d1
    have d2' := cell_more d2
    have d3' := cell_more d3
    have d4' := cell_more d4
    simp [hc, hc2, c0, c1, c2, c3, c4, d0', d1', d2', d3', d4']
    refine callK0 (nodeSame_impl_c xs[k] ys[k] ax1 ay1 fx1 fy1 w w' _ (ck1.more _) (dk1.more _) (hb1 _ (List.getElem_mem hc))) ?_
    rintro _ _ ⟨⟨t2, rfl⟩, rfl⟩
    simp
    refine asplitK_intro (fun hd => ?_) (fun hd => ?_) <;> simp at hd <;> simp [hd]
    · exact anext (k + 1, _) ⟨hc, take_snoc hc hc2 he hd⟩ (by simp only; omega) (by simp [pickF, wrap_succ (show k < 9223372036854775807 by omega)]) rfl (by simp)
    · rintro rfl; exact hd rfl
  · obtain rfl : k = xs.length := by omega
    exact take_all (by omega) he

theorem fsSame_impl_c (x y : Fs) (a1 b1 : Option Addr) (F1 G1 : List Nat) (a2 b2 : Option Addr) (F2 G2 : List Nat) (w w' : Bool) (tNode tNode' : TypeId) (h : Hp) (k1 : slR w tNode (nodeE w) h x.nodes a1 F1) (l1 : slR w' tNode' (nodeE w') h y.nodes b1 G1) (k2 : slR w 9 strE h x.data a2 F2) (l2 : slR w' 9 strE h y.data b2 G2) (hl : x.lim) :
    ACall Try.prog 95 [.agg #[.slice a1 x.nodes.length x.nodes.length, .slice a2 x.data.length x.data.length], .agg #[.slice b1 y.nodes.length y.nodes.length, .slice b2 y.data.length y.data.length]] h fun r h' => (∃ t, h' = h ++ t) ∧ r = .bool (decide (x = y)) := by
  refine acall mixed Try.func95 rfl (by kernel_rfl) ?_
  have he : (x = y) ↔ (x.nodes = y.nodes ∧ x.data = y.data) := by cases x; cases y; simp
  simp [Try.f95, he]
  refine callK0 (equalFuncNode_c x.nodes y.nodes a1 b1 F1 G1 w w' _ _ _ (k1.ext (Ext.push h _)) (l1.ext (Ext.push h _)) hl.1 hl.2.1) ?_
  rintro _ _ ⟨⟨t1, rfl⟩, rfl⟩
  simp
  refine asplitK_intro (fun hb => ?_) (fun hb => ?_) <;> (have hb' := hb; simp at hb; simp [hb, hb'])
  refine callK0 (equalStr_c x.data y.data a2 b2 F2 G2 w w' _ _ _ (k2.ext (Ext.push h _)) (l2.ext (Ext.push h _)) hl.2.2) ?_
  rintro _ _ ⟨⟨t1, rfl⟩, rfl⟩
  simp

theorem fsSame_spec_c (x y : Fs) (a1 b1 : Option Addr) (F1 G1 : List Nat) (a2 b2 : Option Addr) (F2 G2 : List Nat) (w w' : Bool) (tNode tNode' : TypeId) (h : Hp) (k1 : slR w tNode (nodeE w) h x.nodes a1 F1) (l1 : slR w' tNode' (nodeE w') h y.nodes b1 G1) (k2 : slR w 9 strE h x.data a2 F2) (l2 : slR w' 9 strE h y.data b2 G2) (hl : x.lim) :
    ACall Try.prog 90 [.agg #[.slice a1 x.nodes.length x.nodes.length, .slice a2 x.data.length x.data.length], .agg #[.slice b1 y.nodes.length y.nodes.length, .slice b2 y.data.length y.data.length]] h fun r h' => (∃ t, h' = h ++ t) ∧ r = .bool (decide (x = y)) := by
  refine acall mixed Try.func90 rfl (by kernel_rfl) ?_
  have he : (x = y) ↔ (x.nodes = y.nodes ∧ x.data = y.data) := by cases x; cases y; simp
  simp [Try.f90, he]
  refine asplitK_intro (fun hb => ?_) (fun hb => ?_) <;> (have hb' := hb; simp at hb; simp [hb, hb'])
  · intro hh
    exact absurd (by rw [hh]) hb
  refine callK0 (l1Texts_c x.data y.data a2 b2 F2 G2 w w' _ _ _ (k2.ext (Ext.push h _)) (l2.ext (Ext.push h _)) hl.2.2) ?_
  rintro _ _ ⟨⟨t1, rfl⟩, rfl⟩
  simp
  refine asplitK_intro (fun hc => ?_) (fun hc => ?_) <;> (have hc' := hc; simp at hc; simp [hc, hc'])
  have hl2 : x.nodes.length = y.nodes.length := by omega
  have hbg : x.nodes.length ≤ 1048576 := hl.1
  refine aloop mixed [2, 3, 5] (fun (z : Nat × Hp) => [.pointer (some ⟨h.length, 0, none⟩), .pointer (some ⟨h.length + 1, 0, none⟩), .int .i64 z.1]) (fun z => h ++ (⟨true, true, 77, [.slice a1 x.nodes.length x.nodes.length, .slice a2 x.data.length x.data.length]⟩ :: ⟨true, true, 77, [.slice b1 y.nodes.length y.nodes.length, .slice b2 y.data.length y.data.length]⟩ :: z.2)) (fun z => z.1 ≤ x.nodes.length ∧ x.nodes.take z.1 = y.nodes.take z.1) (fun z => x.nodes.length - z.1) (0, t1) ⟨by simp, by simp⟩ (by simp [pickF]) (by simp [hc]) ?_
  rintro ⟨k, t⟩ ⟨hk, he2⟩
  simp only at hk he2
  simp [mkF]
  refine asplitK_intro (fun hd => ?_) (fun hd => ?_) <;> simp at hd <;> simp [hd]
  · have hd2 : k < y.nodes.length := by omega
    have A1 := nodeAt (k1.ext (Ext.push h (⟨true, true, 77, [.slice a1 x.nodes.length x.nodes.length, .slice a2 x.data.length x.data.length]⟩ :: ⟨true, true, 77, [.slice b1 y.nodes.length y.nodes.length, .slice b2 y.data.length y.data.length]⟩ :: t))) hd
    have A2 := nodeAt (l1.ext (Ext.push h (⟨true, true, 77, [.slice a1 x.nodes.length x.nodes.length, .slice a2 x.data.length x.data.length]⟩ :: ⟨true, true, 77, [.slice b1 y.nodes.length y.nodes.length, .slice b2 y.data.length y.data.length]⟩ :: t))) hd2
    obtain ⟨o, off, ax1, fx1, rfl, c0, c1, c2, c3, c4, ck1, -⟩ := A1
    obtain ⟨o', off', ay1, fy1, rfl, d0, d1, d2, d3, d4, dk1, -⟩ := A2
    refine drawK false (by kernel_rfl) ?_
    simp [hd, hd2, c0, c1, c2, c3, c4, d0, d1, d2, d3, d4]
    refine callK0 (nodeSame_spec_c x.nodes[k] y.nodes[k] ax1 ay1 fx1 fy1 w w' _ ck1 dk1 (hl.2.1 _ (List.getElem_mem hd))) ?_
    rintro _ _ ⟨⟨t2, rfl⟩, rfl⟩
    simp
    refine asplitK_intro (fun hf => ?_) (fun hf => ?_) <;> simp at hf <;> simp [hf]
    · exact anext (k + 1, t ++ t2) ⟨hd, take_snoc hd hd2 he2 hf⟩ (by simp only; omega) (by simp [pickF, wrap_succ (show k < 9223372036854775807 by omega)]) (by simp) (by simp)
    · intro hh; exact absurd (by simp [hh]) hf
  · obtain rfl : k = x.nodes.length := by omega
    exact take_all hl2 he2

theorem branchSame_impl_c (x y : Branch) (a1 b1 : Option Addr) (F1 G1 : List Nat) (a2 b2 : Option Addr) (F2 G2 : List Nat) (w w' : Bool) (tNode tNode' : TypeId) (h : Hp) (k1 : slR w tNode (nodeE w) h x.fs.nodes a1 F1) (l1 : slR w' tNode' (nodeE w') h y.fs.nodes b1 G1) (k2 : slR w 9 strE h x.fs.data a2 F2) (l2 : slR w' 9 strE h y.fs.data b2 G2) (hl : x.lim) :
    ACall Try.prog 94 [.agg #[.int .i64 x.mode, .slice a1 x.fs.nodes.length x.fs.nodes.length, .slice a2 x.fs.data.length x.fs.data.length], .agg #[.int .i64 y.mode, .slice b1 y.fs.nodes.length y.fs.nodes.length, .slice b2 y.fs.data.length y.fs.data.length]] h fun r h' => (∃ t, h' = h ++ t) ∧ r = .bool (decide (x = y)) := by
  refine acall mixed Try.func94 rfl (by kernel_rfl) ?_
  have he : (x = y) ↔ (x.mode = y.mode ∧ x.fs = y.fs) := by cases x; cases y; simp
  simp [Try.f94, he]
  refine asplitK_intro (fun hb => ?_) (fun hb => ?_) <;> (have hb' := hb; simp at hb; simp [hb, hb'])
  refine callK0 (fsSame_impl_c x.fs y.fs a1 b1 F1 G1 a2 b2 F2 G2 w w' tNode tNode' _ (k1.ext (Ext.push h _)) (l1.ext (Ext.push h _)) (k2.ext (Ext.push h _)) (l2.ext (Ext.push h _)) hl) ?_
  rintro _ _ ⟨⟨t1, rfl⟩, rfl⟩
  simp

theorem equalFuncBranch_c (xs ys : List Branch) (a b : Option Addr) (F G : List Nat) (w w' : Bool) (t t' tNode tNode' : TypeId) (h : Hp) (hx : slR w t (branchE w tNode) h xs a F) (hy : slR w' t' (branchE w' tNode') h ys b G) (hl : xs.length ≤ 1048576) (hb1 : ∀ x ∈ xs, x.lim) :
    ACall Try.prog 93 [.slice a xs.length xs.length, .slice b ys.length ys.length, .func (.func 94) #[] #[]] h fun r h' => (∃ t, h' = h ++ t) ∧ r = .bool (decide (xs = ys)) := by
  refine acall mixed Try.func93 rfl (by kernel_rfl) ?_
  simp [Try.f93]
  refine asplitK_intro (fun hb => ?_) (fun hb => ?_) <;> simp at hb <;> simp [hb]
  · rintro rfl; exact hb rfl
  have hl2 : xs.length = ys.length := by omega
  refine aloop mixed [0, 1, 2, 15, 16, 17] (fun (x : Nat × Hp) => [.slice a xs.length xs.length, .slice b ys.length ys.length, .func (.func 94) #[] #[], .slice a xs.length xs.length, .int .i64 xs.length, .int .i64 x.1]) (fun x => h ++ x.2) (fun x => x.1 ≤ xs.length ∧ xs.take x.1 = ys.take x.1) (fun x => xs.length - x.1) (0, []) ⟨by simp, by simp⟩ (by simp [pickF, hl2]) (by simp) ?_
  rintro ⟨k, t⟩ ⟨hk, he⟩
  simp only at hk he
  simp [mkF]
  refine asplitK_intro (fun hc => ?_) (fun hc => ?_) <;> simp at hc <;> simp [hc]
  · have hc2 : k < ys.length := by omega
    obtain ⟨o, off, ax1, fx1, ax2, fx2, rfl, c0, c1, c2, ck1, ck2, -, -⟩ := branchAt (hx.ext (Ext.push h t)) hc
    obtain ⟨o', off', ay1, fy1, ay2, fy2, rfl, d0, d1, d2, dk1, dk2, -, -⟩ := branchAt (hy.ext (Ext.push h t)) hc2
    have d0' := cell_more d0
    have d1' := cell_more d1
    have d2' := cell_more d2
    simp [hc, hc2, c0, c1, c2, d0', d1', d2']
    refine callK0 (branchSame_impl_c xs[k] ys[k] ax1 ay1 fx1 fy1 ax2 ay2 fx2 fy2 w w' tNode tNode' _ (ck1.more _) (dk1.more _) (ck2.more _) (dk2.more _) (hb1 _ (List.getElem_mem hc))) ?_
    rintro _ _ ⟨⟨t2, rfl⟩, rfl⟩
    simp
    refine asplitK_intro (fun hd => ?_) (fun hd => ?_) <;> simp at hd <;> simp [hd]
    · exact anext (k + 1, _) ⟨hc, take_snoc hc hc2 he hd⟩ (by simp only; omega) (by simp [pickF, wrap_succ (show k < 9223372036854775807 by omega)]) rfl (by simp)
    · rintro rfl; exact hd rfl
  · obtain rfl : k = xs.length := by omega
    exact take_all (by omega) he

theorem moveEq (x y : Move) : x = y ↔ (x.on = y.on ∧ x.clean = y.clean ∧ x.src = y.src ∧ x.dst = y.dst ∧ x.path = y.path ∧ x.gen = y.gen ∧ x.done = y.done) := by cases x; cases y; simp
theorem branchEq (x y : Branch) : x = y ↔ (x.mode = y.mode ∧ x.fs = y.fs) := by cases x; cases y; simp

theorem poolSame_impl_c (x y : Pool) (a1 b1 : Option Addr) (F1 G1 : List Nat) (w w' : Bool) (tBranch tBranch' tNode tNode' : TypeId) (h : Hp) (k1 : slR w tBranch (branchE w tNode) h x.branches a1 F1) (l1 : slR w' tBranch' (branchE w' tNode') h y.branches b1 G1) (hl : x.lim) :
    ACall Try.prog 34 [.agg #[.int .i64 x.policy, .int .i64 x.minFree, .slice a1 x.branches.length x.branches.length, .bool x.move.on, .bool x.move.clean, .int .i64 x.move.src, .int .i64 x.move.dst, .string (S x.move.path), .int .i64 x.move.gen, .int .i64 x.move.done], .agg #[.int .i64 y.policy, .int .i64 y.minFree, .slice b1 y.branches.length y.branches.length, .bool y.move.on, .bool y.move.clean, .int .i64 y.move.src, .int .i64 y.move.dst, .string (S y.move.path), .int .i64 y.move.gen, .int .i64 y.move.done]] h fun r h' => (∃ t, h' = h ++ t) ∧ r = .bool (decide (x = y)) := by
  refine acall mixed Try.func34 rfl (by kernel_rfl) ?_
  have he : (x = y) ↔ (x.policy = y.policy ∧ x.minFree = y.minFree ∧ x.branches = y.branches ∧ x.move = y.move) := by cases x; cases y; simp
  simp [Try.f34, he]
  have hm : (x.move.on == y.move.on && (x.move.clean == y.move.clean && (x.move.src == y.move.src && (x.move.dst == y.move.dst && (x.move.path == y.move.path && (x.move.gen == y.move.gen && x.move.done == y.move.done)))))) = decide (x.move = y.move) := by
    rw [Bool.eq_iff_iff]; simp [moveEq]
  refine asplitK_intro (fun hb1 => ?_) (fun hb1 => ?_) <;> (have hb' := hb1; simp at hb1; simp [hb1, hb', hm])
  refine asplitK_intro (fun hb2 => ?_) (fun hb2 => ?_) <;> (have hb' := hb2; simp at hb2; simp [hb2, hb', hm])
  refine asplitK_intro (fun hb3 => ?_) (fun hb3 => ?_) <;> (have hb' := hb3; simp at hb3; simp [hb3, hb', hm])
  refine callK0 (equalFuncBranch_c x.branches y.branches a1 b1 F1 G1 w w' _ _ tNode tNode' _ (k1.ext (Ext.push h _)) (l1.ext (Ext.push h _)) hl.1 hl.2) ?_
  rintro _ _ ⟨⟨t1, rfl⟩, rfl⟩
  simp

theorem poolSame_spec_c (x y : Pool) (a1 b1 : Option Addr) (F1 G1 : List Nat) (w w' : Bool) (tBranch tBranch' tNode tNode' : TypeId) (h : Hp) (k1 : slR w tBranch (branchE w tNode) h x.branches a1 F1) (l1 : slR w' tBranch' (branchE w' tNode') h y.branches b1 G1) (hl : x.lim) :
    ACall Try.prog 32 [.agg #[.int .i64 x.policy, .int .i64 x.minFree, .slice a1 x.branches.length x.branches.length, .bool x.move.on, .bool x.move.clean, .int .i64 x.move.src, .int .i64 x.move.dst, .string (S x.move.path), .int .i64 x.move.gen, .int .i64 x.move.done], .agg #[.int .i64 y.policy, .int .i64 y.minFree, .slice b1 y.branches.length y.branches.length, .bool y.move.on, .bool y.move.clean, .int .i64 y.move.src, .int .i64 y.move.dst, .string (S y.move.path), .int .i64 y.move.gen, .int .i64 y.move.done]] h fun r h' => (∃ t, h' = h ++ t) ∧ r = .bool (decide (x = y)) := by
  refine acall mixed Try.func32 rfl (by kernel_rfl) ?_
  have he : (x = y) ↔ (x.policy = y.policy ∧ x.minFree = y.minFree ∧ x.branches = y.branches ∧ x.move = y.move) := by cases x; cases y; simp
  simp [Try.f32, he]
  have hm : (x.move.on == y.move.on && (x.move.clean == y.move.clean && (x.move.src == y.move.src && (x.move.dst == y.move.dst && (x.move.path == y.move.path && (x.move.gen == y.move.gen && x.move.done == y.move.done)))))) = decide (x.move = y.move) := by
    rw [Bool.eq_iff_iff]; simp [moveEq]
  refine asplitK_intro (fun hb1 => ?_) (fun hb1 => ?_) <;> (have hb' := hb1; simp at hb1; simp [hb1, hb', hm])
  refine asplitK_intro (fun hb2 => ?_) (fun hb2 => ?_) <;> (have hb' := hb2; simp at hb2; simp [hb2, hb', hm])
  refine asplitK_intro (fun hb3 => ?_) (fun hb3 => ?_) <;> (have hb' := hb3; simp at hb3; simp [hb3, hb', hm])
  refine asplitK_intro (fun hb => ?_) (fun hb => ?_) <;> (have hb' := hb; simp at hb; simp [hb, hb'])
  · intro hh
    exact absurd (by rw [hh]) hb
  have hl2 : x.branches.length = y.branches.length := by omega
  have hbg : x.branches.length ≤ 1048576 := hl.1
  refine aloop mixed [2, 3, 5] (fun (z : Nat × Hp) => [.pointer (some ⟨h.length, 0, none⟩), .pointer (some ⟨h.length + 1, 0, none⟩), .int .i64 z.1]) (fun z => h ++ (⟨true, true, 56, [.int .i64 x.policy, .int .i64 x.minFree, .slice a1 x.branches.length x.branches.length, .bool x.move.on, .bool x.move.clean, .int .i64 x.move.src, .int .i64 x.move.dst, .string (S x.move.path), .int .i64 x.move.gen, .int .i64 x.move.done]⟩ :: ⟨true, true, 56, [.int .i64 y.policy, .int .i64 y.minFree, .slice b1 y.branches.length y.branches.length, .bool y.move.on, .bool y.move.clean, .int .i64 y.move.src, .int .i64 y.move.dst, .string (S y.move.path), .int .i64 y.move.gen, .int .i64 y.move.done]⟩ :: z.2)) (fun z => z.1 ≤ x.branches.length ∧ x.branches.take z.1 = y.branches.take z.1) (fun z => x.branches.length - z.1) (0, []) ⟨by simp, by simp⟩ (by simp [pickF]) (by simp [hb1, hb2, hb3]) ?_
  rintro ⟨k, t⟩ ⟨hk, he2⟩
  simp only at hk he2
  simp [mkF]
  refine asplitK_intro (fun hd => ?_) (fun hd => ?_) <;> simp at hd <;> simp [hd]
  · have hd2 : k < y.branches.length := by omega
    have A1 := branchAt (k1.ext (Ext.push h (⟨true, true, 56, [.int .i64 x.policy, .int .i64 x.minFree, .slice a1 x.branches.length x.branches.length, .bool x.move.on, .bool x.move.clean, .int .i64 x.move.src, .int .i64 x.move.dst, .string (S x.move.path), .int .i64 x.move.gen, .int .i64 x.move.done]⟩ :: ⟨true, true, 56, [.int .i64 y.policy, .int .i64 y.minFree, .slice b1 y.branches.length y.branches.length, .bool y.move.on, .bool y.move.clean, .int .i64 y.move.src, .int .i64 y.move.dst, .string (S y.move.path), .int .i64 y.move.gen, .int .i64 y.move.done]⟩ :: t))) hd
    have A2 := branchAt (l1.ext (Ext.push h (⟨true, true, 56, [.int .i64 x.policy, .int .i64 x.minFree, .slice a1 x.branches.length x.branches.length, .bool x.move.on, .bool x.move.clean, .int .i64 x.move.src, .int .i64 x.move.dst, .string (S x.move.path), .int .i64 x.move.gen, .int .i64 x.move.done]⟩ :: ⟨true, true, 56, [.int .i64 y.policy, .int .i64 y.minFree, .slice b1 y.branches.length y.branches.length, .bool y.move.on, .bool y.move.clean, .int .i64 y.move.src, .int .i64 y.move.dst, .string (S y.move.path), .int .i64 y.move.gen, .int .i64 y.move.done]⟩ :: t))) hd2
    obtain ⟨o, off, ax1, fx1, ax2, fx2, rfl, c0, c1, c2, ck1, ck2, -, -⟩ := A1
    obtain ⟨o', off', ay1, fy1, ay2, fy2, rfl, d0, d1, d2, dk1, dk2, -, -⟩ := A2
    refine drawK false (by kernel_rfl) ?_
    simp [hd, hd2, c0, c1, c2, d0, d1, d2]
    refine asplitK_intro (fun hf => ?_) (fun hf => ?_) <;> (have hf' := hf; simp at hf; simp [hf, hf', hd, hd2, c0, c1, c2, d0, d1, d2])
    · intro hh; exact absurd (by simp [hh]) hf
    refine callK0 (fsSame_spec_c x.branches[k].fs y.branches[k].fs ax1 ay1 fx1 fy1 ax2 ay2 fx2 fy2 w w' tNode tNode' _ ck1 dk1 ck2 dk2 (hl.2 _ (List.getElem_mem hd))) ?_
    rintro _ _ ⟨⟨t2, rfl⟩, rfl⟩
    simp
    refine asplitK_intro (fun hg => ?_) (fun hg => ?_) <;> simp at hg <;> simp [hg]
    · have hbr : x.branches[k] = y.branches[k] := (branchEq _ _).2 ⟨hf, hg⟩
      exact anext (k + 1, t ++ t2) ⟨hd, take_snoc hd hd2 he2 hbr⟩ (by simp only; omega) (by simp [pickF, wrap_succ (show k < 9223372036854775807 by omega)]) (by simp) (by simp)
    · intro hh; exact absurd (by simp [hh]) hg
  · obtain rfl : k = x.branches.length := by omega
    exact take_all hl2 he2
end Go.Proofs.Ytidkkmkihifeoaa.Hz
