/- Slices of integers and of texts, nodes and branches' images: the laws' helpers. -/
import Derived.Test.YtidkkmkihifeoaaHzT
import Derived.Test.YtidkkmkihifeoaaHzY
namespace Go.Proofs.Ytidkkmkihifeoaa.Hz
open Go.RowKit
set_option linter.unusedVariables false
set_option linter.unusedSimpArgs false
set_option maxRecDepth 20000

theorem intEAt {h : Hp} {w : Bool} {t : TypeId} {es : List Int} {a : Option Addr} {F : List Nat} (k : slR w t intE h es a F) {i : Nat} (hi : i < es.length) : ∃ o off, a = some ⟨o, off, none⟩ ∧ cellAt h o (off + i) = some (.int .i64 es[i]) := by
  obtain ⟨o, off, c, Fi, rfl, ⟨rfl, _⟩, -, hc⟩ := k.at_ (List.getElem?_eq_getElem hi)
  have := hc 0 (by decide)
  exact ⟨o, off, rfl, by simpa [intE, flatE] using this⟩
theorem szIntS_c (es : List Int) (a : Option Addr) (left : Int) (h : Hp) (h1 : 0 ≤ left) (h2 : left ≤ 1048576) (hl : es.length ≤ maxLen) :
    ACall Try.prog 193 [.slice a es.length es.length, .int .i64 left] h fun r h' => (∃ t, h' = h ++ t) ∧ ∃ n : Int, r = .int .i64 n ∧ n ≤ left ∧ (0 ≤ n → es.length + n = left) := by
  refine acall mixed Try.func193 rfl (by kernel_rfl) ?_
  have h4 : maxLen = 9223372036854775807 := by decide
  have w1 : IntKind.i64.wrap (left - es.length) = left - es.length := wrap_in (by omega) (by omega)
  simp [Try.f193, w1]
  refine asplitK_intro (fun hb => ?_) (fun hb => ?_) <;> simp at hb <;> simp [hb]
  all_goals omega
theorem toIntS_c (es : List Int) (a : Option Addr) (F : List Nat) (w : Bool) (t : TypeId) (h : Hp) (hr : slR w t intE h es a F) (hl : es.length ≤ 1048576) :
    ACall Try.prog 194 [.slice a es.length es.length] h fun r h' => ∃ a' F', r = .slice a' es.length es.length ∧ Own h 3 intE h' es a' F' := by
  refine acall mixed Try.func194 rfl (by kernel_rfl) ?_
  have hb1 : (es.length : Int) * 8 ≤ (big : Int) := by unfold big; omega
  have hb2 : es.length ≤ big := by unfold big; omega
  simp [Try.f194, hb1, hb2]
  have own0 := Own.rep (A := intE) h 3 es.length (z := 0) (zs := [.int .i64 0]) ⟨rfl, rfl⟩
  refine aloop mixed [0, 3, 4] (fun (x : Nat × Hp) => [.slice a es.length es.length, .slice (some ⟨h.length, 0, none⟩) es.length es.length, .int .i64 x.1]) (fun x => x.2)
    (fun x => x.1 ≤ es.length ∧ ∃ F', Own h 3 intE x.2 (es.take x.1 ++ List.replicate (es.length - x.1) 0) (some ⟨h.length, 0, none⟩) F') (fun x => es.length - x.1) (0, _) ⟨by simp, _, by simpa using own0⟩ (by simp [pickF]) rfl ?_
  rintro ⟨k, H⟩ ⟨hk, F', own⟩
  simp only at hk own
  simp [mkF]
  refine asplitK_intro (fun hb => ?_) (fun hb => ?_) <;> simp at hb <;> simp [hb]
  · obtain ⟨o, off, rfl, c0⟩ := intEAt (hr.ext own.ext) hb
    obtain ⟨hcan, F2, own2⟩ := own.putFlat (i := k) (by simp; omega) es[k] 0 [.int .i64 es[k]] (by simp) (by simp)
    rw [fill_set _ k hb] at own2
    simp at hcan own2
    simp [hb, c0, hcan]
    exact anext (k + 1, _) ⟨hb, F2, own2⟩ (by simp only; omega) (by simp [pickF, wrap_succ (show k < 9223372036854775807 by omega)]) rfl (by simp)
  · obtain rfl : k = es.length := by omega
    simp at own
    exact ⟨_, own⟩
theorem eqIntS_c (xs ys : List Int) (a b : Option Addr) (F G : List Nat) (w w' : Bool) (t t' : TypeId) (h : Hp) (hx : slR w t intE h xs a F) (hy : slR w' t' intE h ys b G) (hl : xs.length ≤ 1048576) :
    ACall Try.prog 195 [.slice a xs.length xs.length, .slice b ys.length ys.length] h fun r h' => (∃ t, h' = h ++ t) ∧ r = .bool (decide (xs = ys)) := by
  refine acall mixed Try.func195 rfl (by kernel_rfl) ?_
  simp [Try.f195]
  refine asplitK_intro (fun hb => ?_) (fun hb => ?_) <;> simp at hb <;> simp [hb]
  · rintro rfl; exact hb rfl
  have hl2 : xs.length = ys.length := by omega
  refine aloop mixed [0, 1, 5] (fun (x : Nat × Hp) => [.slice a xs.length xs.length, .slice b ys.length ys.length, .int .i64 x.1]) (fun x => h ++ x.2) (fun x => x.1 ≤ xs.length ∧ xs.take x.1 = ys.take x.1) (fun x => xs.length - x.1) (0, []) ⟨by simp, by simp⟩ (by simp [pickF]) (by simp) ?_
  rintro ⟨k, t⟩ ⟨hk, he⟩
  simp only at hk he
  simp [mkF]
  refine asplitK_intro (fun hc => ?_) (fun hc => ?_) <;> simp at hc <;> simp [hc]
  · have hc2 : k < ys.length := by omega
    obtain ⟨o, off, rfl, c0⟩ := intEAt (hx.ext (Ext.push h t)) hc
    obtain ⟨o', off', rfl, d0⟩ := intEAt (hy.ext (Ext.push h t)) hc2
    refine drawK false (by kernel_rfl) ?_
    simp [hc, hc2, c0, d0]
    refine asplitK_intro (fun hd => ?_) (fun hd => ?_) <;> simp at hd <;> simp [hd]
    · rintro rfl; exact hd rfl
    · exact anext (k + 1, t) ⟨hc, take_snoc hc hc2 he hd⟩ (by simp only; omega) (by simp [pickF, wrap_succ (show k < 9223372036854775807 by omega)]) (by simp) (by simp)
  · obtain rfl : k = xs.length := by omega
    exact take_all (by omega) he

theorem strEAt {h : Hp} {w : Bool} {t : TypeId} {es : List Str} {a : Option Addr} {F : List Nat} (k : slR w t strE h es a F) {i : Nat} (hi : i < es.length) : ∃ o off, a = some ⟨o, off, none⟩ ∧ cellAt h o (off + i) = some (.string (S es[i])) := by
  obtain ⟨o, off, c, Fi, rfl, ⟨rfl, _⟩, -, hc⟩ := k.at_ (List.getElem?_eq_getElem hi)
  have := hc 0 (by decide)
  exact ⟨o, off, rfl, by simpa [strE, flatE] using this⟩
theorem szStringS_c (es : List Str) (a : Option Addr) (F : List Nat) (w : Bool) (t : TypeId) (left : Int) (h : Hp) (hr : slR w t strE h es a F) (h1 : 0 ≤ left) (h2 : left ≤ 1048576) (hl : es.length ≤ maxLen) (h3 : ∀ s ∈ es, s.length ≤ maxLen) :
    ACall Try.prog 110 [.slice a es.length es.length, .int .i64 left] h fun r h' => (∃ t, h' = h ++ t) ∧ ∃ n : Int, r = .int .i64 n ∧ n ≤ left ∧ (0 ≤ n → es.length + sumL List.length es + n = left) := by
  refine acall mixed Try.func110 rfl (by kernel_rfl) ?_
  have h4 : maxLen = 9223372036854775807 := by decide
  have w1 : IntKind.i64.wrap (left - es.length) = left - es.length := wrap_in (by omega) (by omega)
  simp [Try.f110, w1]
  refine asplitK_intro (fun hb => ?_) (fun hb => ?_) <;> simp at hb <;> simp [hb]
  · omega
  refine aloop mixed [0, 1, 5] (fun (x : Nat × Int × Hp) => [.slice a es.length es.length, .int .i64 x.2.1, .int .i64 x.1]) (fun x => h ++ x.2.2) (fun x => x.1 ≤ es.length ∧ 0 ≤ x.2.1 ∧ es.length + sumL List.length (es.take x.1) + x.2.1 = left) (fun x => es.length - x.1) (0, left - es.length, []) ⟨by simp, by simp only; omega, by simp; omega⟩ (by simp [pickF]) (by simp) ?_
  rintro ⟨k, l, t'⟩ ⟨hk, hl0, hs⟩
  simp only at hk hl0 hs
  simp [mkF]
  refine asplitK_intro (fun hb => ?_) (fun hb => ?_) <;> simp at hb <;> simp [hb]
  · obtain ⟨o, off, rfl, c0⟩ := strEAt (hr.ext (Ext.push h t')) hb
    have h5 := h3 _ (List.getElem_mem hb)
    have w2 : IntKind.i64.wrap (l - es[k].length) = l - es[k].length := wrap_in (by omega) (by omega)
    simp [hb, c0, w2]
    have := sumL_take List.length es k hb
    refine asplitK_intro (fun hb2 => ?_) (fun hb2 => ?_) <;> simp at hb2 <;> simp [hb2]
    · omega
    · exact anext (k + 1, l - es[k].length, t') ⟨hb, by simp only; omega, by simp only; omega⟩ (by simp only; omega) (by simp [pickF, wrap_succ (show k < 9223372036854775807 by omega)]) rfl (by simp)
  · obtain rfl : k = es.length := by omega
    simp only [List.take_length] at hs
    omega
theorem toStringS_c (es : List Str) (a : Option Addr) (F : List Nat) (w : Bool) (t : TypeId) (h : Hp) (hr : slR w t strE h es a F) (hl : es.length ≤ 1048576) :
    ACall Try.prog 114 [.slice a es.length es.length] h fun r h' => ∃ a' F', r = .slice a' es.length es.length ∧ Own h 9 strE h' es a' F' := by
  refine acall mixed Try.func114 rfl (by kernel_rfl) ?_
  have hb1 : (es.length : Int) * 16 ≤ (big : Int) := by unfold big; omega
  have hb2 : es.length ≤ big := by unfold big; omega
  simp [Try.f114, hb1, hb2]
  have own0 := Own.rep (A := strE) h 9 es.length (z := []) (zs := [.string (S [])]) ⟨rfl, rfl⟩
  refine aloop mixed [0, 3, 4] (fun (x : Nat × Hp) => [.slice a es.length es.length, .slice (some ⟨h.length, 0, none⟩) es.length es.length, .int .i64 x.1]) (fun x => x.2)
    (fun x => x.1 ≤ es.length ∧ ∃ F', Own h 9 strE x.2 (es.take x.1 ++ List.replicate (es.length - x.1) []) (some ⟨h.length, 0, none⟩) F') (fun x => es.length - x.1) (0, _) ⟨by simp, _, by simpa using own0⟩ (by simp [pickF]) rfl ?_
  rintro ⟨k, H⟩ ⟨hk, F', own⟩
  simp only at hk own
  simp [mkF]
  refine asplitK_intro (fun hb => ?_) (fun hb => ?_) <;> simp at hb <;> simp [hb]
  · obtain ⟨o, off, rfl, c0⟩ := strEAt (hr.ext own.ext) hb
    obtain ⟨hcan, F2, own2⟩ := own.putFlat (i := k) (by simp; omega) es[k] 0 [.string (S es[k])] (by simp) (by simp)
    rw [fill_set _ k hb] at own2
    simp at hcan own2
    simp [hb, c0, hcan]
    exact anext (k + 1, _) ⟨hb, F2, own2⟩ (by simp only; omega) (by simp [pickF, wrap_succ (show k < 9223372036854775807 by omega)]) rfl (by simp)
  · obtain rfl : k = es.length := by omega
    simp at own
    exact ⟨_, own⟩
theorem eqStringS_c (xs ys : List Str) (a b : Option Addr) (F G : List Nat) (w w' : Bool) (t t' : TypeId) (h : Hp) (hx : slR w t strE h xs a F) (hy : slR w' t' strE h ys b G) (hl : xs.length ≤ 1048576) :
    ACall Try.prog 48 [.slice a xs.length xs.length, .slice b ys.length ys.length] h fun r h' => (∃ t, h' = h ++ t) ∧ r = .bool (decide (xs = ys)) := by
  refine acall mixed Try.func48 rfl (by kernel_rfl) ?_
  simp [Try.f48]
  refine asplitK_intro (fun hb => ?_) (fun hb => ?_) <;> simp at hb <;> simp [hb]
  · rintro rfl; exact hb rfl
  have hl2 : xs.length = ys.length := by omega
  refine aloop mixed [0, 1, 5] (fun (x : Nat × Hp) => [.slice a xs.length xs.length, .slice b ys.length ys.length, .int .i64 x.1]) (fun x => h ++ x.2) (fun x => x.1 ≤ xs.length ∧ xs.take x.1 = ys.take x.1) (fun x => xs.length - x.1) (0, []) ⟨by simp, by simp⟩ (by simp [pickF]) (by simp) ?_
  rintro ⟨k, t⟩ ⟨hk, he⟩
  simp only at hk he
  simp [mkF]
  refine asplitK_intro (fun hc => ?_) (fun hc => ?_) <;> simp at hc <;> simp [hc]
  · have hc2 : k < ys.length := by omega
    obtain ⟨o, off, rfl, c0⟩ := strEAt (hx.ext (Ext.push h t)) hc
    obtain ⟨o', off', rfl, d0⟩ := strEAt (hy.ext (Ext.push h t)) hc2
    refine drawK false (by kernel_rfl) ?_
    simp [hc, hc2, c0, d0]
    refine asplitK_intro (fun hd => ?_) (fun hd => ?_) <;> simp at hd <;> simp [hd]
    · exact anext (k + 1, t) ⟨hc, take_snoc hc hc2 he hd⟩ (by simp only; omega) (by simp [pickF, wrap_succ (show k < 9223372036854775807 by omega)]) (by simp) (by simp)
    · rintro rfl; exact hd rfl
  · obtain rfl : k = xs.length := by omega
    exact take_all (by omega) he

structure Node where
  kind : Int
  gen : Int
  time : Int
  size : Int
  blocks : List Int
  deriving DecidableEq
def Node.nl (x : Node) : Nat := x.blocks.length
def Node.bd (x : Node) : Prop := x.blocks.length ≤ maxLen
def Node.lim (x : Node) : Prop := x.blocks.length ≤ 1048576
def nodeE (w : Bool)  : Enc Node where
  n := 5
  R h x cs F := ∃ a1 F1, cs = [.int .i64 x.kind, .int .i64 x.gen, .int .i64 x.time, .int .i64 x.size, .slice a1 x.blocks.length x.blocks.length] ∧ F = F1 ∧ slR w 3 intE h x.blocks a1 F1
  len := by rintro h x cs F ⟨a1, F1, rfl, _⟩; rfl
  ok := by rintro h x cs F ⟨a1, F1, rfl, _⟩; rfl
  frame := by rintro h h' x cs F ⟨a1, F1, rfl, rfl, k1⟩ hf; exact ⟨a1, _, rfl, rfl, k1.frame fun q hq => hf q (by simp [hq])⟩
  lt := by rintro h x cs F ⟨a1, F1, rfl, rfl, k1⟩ q hq; exact k1.lt q hq

theorem Node.lim_of (x : Node) (h : x.nl ≤ 1048576) : x.lim := show x.blocks.length ≤ 1048576 by simp only [Node.nl] at h; omega
theorem nodeR {h : Hp} {w : Bool} {x : Node} {a1 : Option Addr} {F : List Nat} (k : (nodeE w).R h x [.int .i64 x.kind, .int .i64 x.gen, .int .i64 x.time, .int .i64 x.size, .slice a1 x.blocks.length x.blocks.length] F) : ∃ F1, slR w 3 intE h x.blocks a1 F1 ∧ F = F1 := by
  obtain ⟨b1, F1, e, e2, k1⟩ := k
  simp at e
  obtain rfl := e
  exact ⟨F1, k1, e2⟩

theorem nodeAt {h : Hp} {w : Bool} {t : TypeId} {es : List Node} {a : Option Addr} {F : List Nat} (k : slR w t (nodeE w) h es a F) {i : Nat} (hi : i < es.length) : ∃ o off b1 G1, a = some ⟨o, off, none⟩ ∧ cellAt h o (off + i * 5) = some (.int .i64 es[i].kind) ∧ cellAt h o (off + i * 5 + 1) = some (.int .i64 es[i].gen) ∧ cellAt h o (off + i * 5 + 2) = some (.int .i64 es[i].time) ∧ cellAt h o (off + i * 5 + 3) = some (.int .i64 es[i].size) ∧ cellAt h o (off + i * 5 + 4) = some (.slice b1 es[i].blocks.length es[i].blocks.length) ∧ slR w 3 intE h es[i].blocks b1 G1 ∧ (∀ q ∈ G1, q ∈ F) := by
  obtain ⟨o, off, c, Fi, rfl, ⟨b1, G1, rfl, rfl, k1⟩, hq, hc⟩ := k.at_ (List.getElem?_eq_getElem hi)
  exact ⟨o, off, b1, _, rfl, hc 0 (by show _ < 5; omega), hc 1 (by show _ < 5; omega), hc 2 (by show _ < 5; omega), hc 3 (by show _ < 5; omega), hc 4 (by show _ < 5; omega), k1, fun q hq' => hq q (by simp [hq'])⟩

theorem szNode_c (x : Node) (a1 : Option Addr) (F1 : List Nat) (w : Bool)  (left : Int) (h : Hp) (k1 : slR w 3 intE h x.blocks a1 F1) (h1 : 0 ≤ left) (h2 : left ≤ 1048576) (hb : x.bd) :
    ACall Try.prog 166 [.agg #[.int .i64 x.kind, .int .i64 x.gen, .int .i64 x.time, .int .i64 x.size, .slice a1 x.blocks.length x.blocks.length], .int .i64 left] h fun r h' => (∃ t, h' = h ++ t) ∧ ∃ n : Int, r = .int .i64 n ∧ n ≤ left ∧ (0 ≤ n → x.nl + n = left) := by
  refine acall mixed Try.func166 rfl (by kernel_rfl) ?_
  have h4 : maxLen = 9223372036854775807 := by decide
  have hnl : x.nl = x.blocks.length := rfl
  simp [Try.f166]
  refine callK0 (szIntS_c x.blocks a1 left _ h1 h2 hb) ?_
  rintro _ _ ⟨⟨t1, rfl⟩, n1, rfl, hn1, he1⟩
  simp
  refine asplitK_intro (fun hc1 => ?_) (fun hc1 => ?_) <;> simp at hc1 <;> simp [hc1]
  · omega
  omega

theorem szNodeS_c (es : List Node) (a : Option Addr) (F : List Nat) (w : Bool) (t : TypeId) (left : Int) (h : Hp) (hr : slR w t (nodeE w) h es a F) (h1 : 0 ≤ left) (h2 : left ≤ 1048576) (hl : es.length ≤ maxLen) (h3 : ∀ e ∈ es, e.bd) :
    ACall Try.prog 109 [.slice a es.length es.length, .int .i64 left] h fun r h' => (∃ t, h' = h ++ t) ∧ ∃ n : Int, r = .int .i64 n ∧ n ≤ left ∧ (0 ≤ n → es.length + sumL Node.nl es + n = left) := by
  refine acall mixed Try.func109 rfl (by kernel_rfl) ?_
  have h4 : maxLen = 9223372036854775807 := by decide
  have w1 : IntKind.i64.wrap (left - es.length) = left - es.length := wrap_in (by omega) (by omega)
  simp [Try.f109, w1]
  refine asplitK_intro (fun hb => ?_) (fun hb => ?_) <;> simp at hb <;> simp [hb]
  · omega
  refine aloop mixed [0, 1, 5] (fun (x : Nat × Int × Hp) => [.slice a es.length es.length, .int .i64 x.2.1, .int .i64 x.1]) (fun x => h ++ x.2.2) (fun x => x.1 ≤ es.length ∧ 0 ≤ x.2.1 ∧ es.length + sumL Node.nl (es.take x.1) + x.2.1 = left) (fun x => es.length - x.1) (0, left - es.length, []) ⟨by simp, by simp only; omega, by simp; omega⟩ (by simp [pickF]) (by simp) ?_
  rintro ⟨k, l, t'⟩ ⟨hk, hl0, hs⟩
  simp only at hk hl0 hs
  simp [mkF]
  refine asplitK_intro (fun hb => ?_) (fun hb => ?_) <;> simp at hb <;> simp [hb]
  · obtain ⟨o, off, b1, B1, rfl, c0, c1, c2, c3, c4, k1, -⟩ := nodeAt (hr.ext (Ext.push h t')) hb
    simp [hb, c0, c1, c2, c3, c4]
    refine callK0 (szNode_c es[k] b1 B1 w l _ k1 hl0 (by omega) (h3 _ (List.getElem_mem hb))) ?_
    rintro _ _ ⟨⟨t, rfl⟩, n, rfl, hn, he⟩
    simp
    have := sumL_take Node.nl es k hb
    refine asplitK_intro (fun hb2 => ?_) (fun hb2 => ?_) <;> simp at hb2 <;> simp [hb2]
    · omega
    · exact anext (k + 1, n, t' ++ t) ⟨hb, hb2, by simp only; omega⟩ (by simp only; omega) (by simp [pickF, wrap_succ (show k < 9223372036854775807 by omega)]) rfl (by simp)
  · obtain rfl : k = es.length := by omega
    simp only [List.take_length] at hs
    omega

theorem eqNode_c (x y : Node) (a1 b1 : Option Addr) (F1 G1 : List Nat) (w w' : Bool)  (h : Hp) (k1 : slR w 3 intE h x.blocks a1 F1) (l1 : slR w' 3 intE h y.blocks b1 G1) (hl : x.lim) :
    ACall Try.prog 168 [.agg #[.int .i64 x.kind, .int .i64 x.gen, .int .i64 x.time, .int .i64 x.size, .slice a1 x.blocks.length x.blocks.length], .agg #[.int .i64 y.kind, .int .i64 y.gen, .int .i64 y.time, .int .i64 y.size, .slice b1 y.blocks.length y.blocks.length]] h fun r h' => (∃ t, h' = h ++ t) ∧ r = .bool (decide (x = y)) := by
  refine acall mixed Try.func168 rfl (by kernel_rfl) ?_
  have he : (x = y) ↔ (x.kind = y.kind ∧ x.gen = y.gen ∧ x.time = y.time ∧ x.size = y.size ∧ x.blocks = y.blocks) := by cases x; cases y; simp
  simp [Try.f168, he]
  refine asplitK_intro (fun hb => ?_) (fun hb => ?_) <;> simp at hb <;> simp [hb]
  refine asplitK_intro (fun hb => ?_) (fun hb => ?_) <;> simp at hb <;> simp [hb]
  refine asplitK_intro (fun hb => ?_) (fun hb => ?_) <;> simp at hb <;> simp [hb]
  refine asplitK_intro (fun hb => ?_) (fun hb => ?_) <;> simp at hb <;> simp [hb]
  refine callK0 (eqIntS_c x.blocks y.blocks a1 b1 F1 G1 w w' _ _ _ (k1.ext (Ext.push h _)) (l1.ext (Ext.push h _)) hl) ?_
  rintro _ _ ⟨⟨t1, rfl⟩, rfl⟩
  simp
  refine asplitK_intro (fun hb => ?_) (fun hb => ?_) <;> simp at hb <;> simp [hb]

theorem eqNodeS_c (xs ys : List Node) (a b : Option Addr) (F G : List Nat) (w w' : Bool) (t t' : TypeId) (h : Hp) (hx : slR w t (nodeE w) h xs a F) (hy : slR w' t' (nodeE w') h ys b G) (hl : xs.length ≤ 1048576) (hb1 : ∀ x ∈ xs, x.lim) :
    ACall Try.prog 117 [.slice a xs.length xs.length, .slice b ys.length ys.length] h fun r h' => (∃ t, h' = h ++ t) ∧ r = .bool (decide (xs = ys)) := by
  refine acall mixed Try.func117 rfl (by kernel_rfl) ?_
  simp [Try.f117]
  refine asplitK_intro (fun hb => ?_) (fun hb => ?_) <;> simp at hb <;> simp [hb]
  · rintro rfl; exact hb rfl
  have hl2 : xs.length = ys.length := by omega
  refine aloop mixed [0, 1, 5] (fun (x : Nat × Hp) => [.slice a xs.length xs.length, .slice b ys.length ys.length, .int .i64 x.1]) (fun x => h ++ x.2) (fun x => x.1 ≤ xs.length ∧ xs.take x.1 = ys.take x.1) (fun x => xs.length - x.1) (0, []) ⟨by simp, by simp⟩ (by simp [pickF]) (by simp) ?_
  rintro ⟨k, t⟩ ⟨hk, he⟩
  simp only at hk he
  simp [mkF]
  refine asplitK_intro (fun hc => ?_) (fun hc => ?_) <;> simp at hc <;> simp [hc]
  · have hc2 : k < ys.length := by omega
    obtain ⟨o, off, ax1, fx1, rfl, c0, c1, c2, c3, c4, ck1, -⟩ := nodeAt (hx.ext (Ext.push h t)) hc
    obtain ⟨o', off', ay1, fy1, rfl, d0, d1, d2, d3, d4, dk1, -⟩ := nodeAt (hy.ext (Ext.push h t)) hc2
    refine drawK false (by kernel_rfl) ?_
    simp [hc, hc2, c0, c1, c2, c3, c4, d0, d1, d2, d3, d4]
    refine callK0 (eqNode_c xs[k] ys[k] ax1 ay1 fx1 fy1 w w' _ ck1 dk1 (hb1 _ (List.getElem_mem hc))) ?_
    rintro _ _ ⟨⟨t2, rfl⟩, rfl⟩
    simp
    refine asplitK_intro (fun hd => ?_) (fun hd => ?_) <;> simp at hd <;> simp [hd]
    · exact anext (k + 1, t ++ t2) ⟨hc, take_snoc hc hc2 he hd⟩ (by simp only; omega) (by simp [pickF, wrap_succ (show k < 9223372036854775807 by omega)]) (by simp) (by simp)
    · rintro rfl; exact hd rfl
  · obtain rfl : k = xs.length := by omega
    exact take_all (by omega) he

structure Fs where
  nodes : List Node
  data : List Str
  deriving DecidableEq
def Fs.nl (x : Fs) : Nat := x.nodes.length + sumL Node.nl x.nodes + x.data.length + sumL List.length x.data
def Fs.bd (x : Fs) : Prop := x.nodes.length ≤ maxLen ∧ (∀ y ∈ x.nodes, y.bd) ∧ x.data.length ≤ maxLen ∧ (∀ s ∈ x.data, s.length ≤ maxLen)
def Fs.lim (x : Fs) : Prop := x.nodes.length ≤ 1048576 ∧ (∀ y ∈ x.nodes, y.lim) ∧ x.data.length ≤ 1048576
def fsE (w : Bool) (tNode : TypeId) : Enc Fs where
  n := 2
  R h x cs F := ∃ a1 F1 a2 F2, cs = [.slice a1 x.nodes.length x.nodes.length, .slice a2 x.data.length x.data.length] ∧ F = F1 ++ F2 ∧ slR w tNode (nodeE w) h x.nodes a1 F1 ∧ slR w 9 strE h x.data a2 F2
  len := by rintro h x cs F ⟨a1, F1, a2, F2, rfl, _⟩; rfl
  ok := by rintro h x cs F ⟨a1, F1, a2, F2, rfl, _⟩; rfl
  frame := by rintro h h' x cs F ⟨a1, F1, a2, F2, rfl, rfl, k1, k2⟩ hf; exact ⟨a1, _, a2, _, rfl, rfl, k1.frame fun q hq => hf q (by simp [hq]), k2.frame fun q hq => hf q (by simp [hq])⟩
  lt := by
    rintro h x cs F ⟨a1, F1, a2, F2, rfl, rfl, k1, k2⟩ q hq
    simp only [List.mem_append] at hq
    rcases hq with hq | hq
    · exact k1.lt q hq
    · exact k2.lt q hq

theorem Fs.lim_of (x : Fs) (h : x.nl ≤ 1048576) : x.lim := ⟨show x.nodes.length ≤ 1048576 by simp only [Fs.nl] at h; omega, fun y hy => Node.lim_of y (by have := sumL_mem Node.nl hy; simp only [Fs.nl] at h; omega), show x.data.length ≤ 1048576 by simp only [Fs.nl] at h; omega⟩
theorem fsR {h : Hp} {w : Bool} {x : Fs} {tNode : TypeId} {a1 a2 : Option Addr} {F : List Nat} (k : (fsE w tNode).R h x [.slice a1 x.nodes.length x.nodes.length, .slice a2 x.data.length x.data.length] F) : ∃ F1 F2, slR w tNode (nodeE w) h x.nodes a1 F1 ∧ slR w 9 strE h x.data a2 F2 ∧ F = F1 ++ F2 := by
  obtain ⟨b1, F1, b2, F2, e, e2, k1, k2⟩ := k
  simp at e
  obtain ⟨rfl, rfl⟩ := e
  exact ⟨F1, F2, k1, k2, e2⟩

theorem szFs_c (x : Fs) (a1 a2 : Option Addr) (F1 F2 : List Nat) (w : Bool) (tNode : TypeId) (left : Int) (h : Hp) (k1 : slR w tNode (nodeE w) h x.nodes a1 F1) (k2 : slR w 9 strE h x.data a2 F2) (h1 : 0 ≤ left) (h2 : left ≤ 1048576) (hb : x.bd) :
    ACall Try.prog 41 [.agg #[.slice a1 x.nodes.length x.nodes.length, .slice a2 x.data.length x.data.length], .int .i64 left] h fun r h' => (∃ t, h' = h ++ t) ∧ ∃ n : Int, r = .int .i64 n ∧ n ≤ left ∧ (0 ≤ n → x.nl + n = left) := by
  refine acall mixed Try.func41 rfl (by kernel_rfl) ?_
  have h4 : maxLen = 9223372036854775807 := by decide
  have hnl : x.nl = x.nodes.length + sumL Node.nl x.nodes + x.data.length + sumL List.length x.data := rfl
  simp [Try.f41]
  refine callK0 (szNodeS_c x.nodes a1 F1 w _ left _ (k1.ext (Ext.push h _)) h1 h2 hb.1 hb.2.1) ?_
  rintro _ _ ⟨⟨t1, rfl⟩, n1, rfl, hn1, he1⟩
  simp
  refine asplitK_intro (fun hc1 => ?_) (fun hc1 => ?_) <;> simp at hc1 <;> simp [hc1]
  · omega
  refine callK0 (szStringS_c x.data a2 F2 w _ n1 _ (k2.ext (Ext.push h _)) hc1 (by omega) hb.2.2.1 hb.2.2.2) ?_
  rintro _ _ ⟨⟨t2, rfl⟩, n2, rfl, hn2, he2⟩
  simp
  refine asplitK_intro (fun hc2 => ?_) (fun hc2 => ?_) <;> simp at hc2 <;> simp [hc2]
  · omega
  omega

theorem eqFs_c (x y : Fs) (a1 b1 : Option Addr) (F1 G1 : List Nat) (a2 b2 : Option Addr) (F2 G2 : List Nat) (w w' : Bool) (tNode tNode' : TypeId) (h : Hp) (k1 : slR w tNode (nodeE w) h x.nodes a1 F1) (l1 : slR w' tNode' (nodeE w') h y.nodes b1 G1) (k2 : slR w 9 strE h x.data a2 F2) (l2 : slR w' 9 strE h y.data b2 G2) (hl : x.lim) :
    ACall Try.prog 45 [.agg #[.slice a1 x.nodes.length x.nodes.length, .slice a2 x.data.length x.data.length], .agg #[.slice b1 y.nodes.length y.nodes.length, .slice b2 y.data.length y.data.length]] h fun r h' => (∃ t, h' = h ++ t) ∧ r = .bool (decide (x = y)) := by
  refine acall mixed Try.func45 rfl (by kernel_rfl) ?_
  have he : (x = y) ↔ (x.nodes = y.nodes ∧ x.data = y.data) := by cases x; cases y; simp
  simp [Try.f45, he]
  refine callK0 (eqNodeS_c x.nodes y.nodes a1 b1 F1 G1 w w' _ _ _ (k1.ext (Ext.push h _)) (l1.ext (Ext.push h _)) hl.1 hl.2.1) ?_
  rintro _ _ ⟨⟨t1, rfl⟩, rfl⟩
  simp
  refine asplitK_intro (fun hb => ?_) (fun hb => ?_) <;> simp at hb <;> simp [hb]
  refine callK0 (eqStringS_c x.data y.data a2 b2 F2 G2 w w' _ _ _ (k2.ext (Ext.push h _)) (l2.ext (Ext.push h _)) hl.2.2) ?_
  rintro _ _ ⟨⟨t2, rfl⟩, rfl⟩
  simp
  refine asplitK_intro (fun hb => ?_) (fun hb => ?_) <;> simp at hb <;> simp [hb]
end Go.Proofs.Ytidkkmkihifeoaa.Hz
