/- Getting an item of a tree: both programs. -/
import Derived.Test.YtmiflnadgckenaaHzTS
import Derived.Test.YtmiflnadgckenaaHzU
namespace Go.Proofs.Ytmiflnadgckenaa.Hz
open Go.RowKit
set_option maxRecDepth 20000

/-- What is found: the item and whether. -/
def treeFind : List Item → Str → Item × Bool
  | [], _ => (⟨[], 0, [], 0⟩, false)
  | x :: xs, p => if x.path = p then (x, true) else treeFind xs p
def treeGet (xs : List Item) (p : Str) : Item × Bool := if p = [47] then (⟨[47], 2, [], 0⟩, true) else treeFind xs p
theorem treeFind_drop (xs : List Item) (p : Str) (k : Nat) (hk : k < xs.length) : treeFind (xs.drop k) p = if xs[k].path = p then (xs[k], true) else treeFind (xs.drop (k + 1)) p := by
  rw [List.drop_eq_getElem_cons hk]; rfl
theorem treeFind_findI (xs : List Item) (p : Str) : (findI (fun e => e.path == p) xs 0 = -1 ∧ treeFind xs p = (⟨[], 0, [], 0⟩, false)) ∨ ∃ j, ∃ hj : j < xs.length, findI (fun e => e.path == p) xs 0 = (j : Int) ∧ treeFind xs p = (xs[j], true) := by
  have key : ∀ (es : List Item) (i : Nat), (findI (fun e => e.path == p) es i = -1 ∧ treeFind es p = (⟨[], 0, [], 0⟩, false)) ∨ ∃ j, ∃ hj : j < es.length, findI (fun e => e.path == p) es i = ((i + j : Nat) : Int) ∧ treeFind es p = (es[j], true) := by
    intro es
    induction es with
    | nil => intro i; exact .inl ⟨rfl, rfl⟩
    | cons e es ih =>
      intro i
      by_cases hn : e.path = p
      · exact .inr ⟨0, by simp, by simp [findI, hn], by simp [treeFind, hn]⟩
      · rcases ih (i + 1) with ⟨h1, h2⟩ | ⟨j, hj, h1, h2⟩
        · exact .inl ⟨by simp [findI, hn, h1], by simp [treeFind, hn, h2]⟩
        · exact .inr ⟨j + 1, by simpa using hj, by simp [findI, hn, h1]; omega, by simp [treeFind, hn, h2]⟩
  simpa using key xs 0

theorem indexFuncItem_c (es : List Item) (a : Option Addr) (F : List Nat) (w : Bool) (t : TypeId) (h : Hp) (hr : slR w t itemE h es a F) (hl : es.length ≤ 1048576) (p : Item → Bool) (g : FuncId) (cap : Array Value)
    (hg : ∀ e ∈ es, ∀ t, ACall Try.prog g (e.v :: cap.toList) (h ++ t) fun r h' => (∃ t', h' = h ++ t ++ t') ∧ r = .bool (p e)) :
    ACall Try.prog 97 [.slice a es.length es.length, .func (.func g) #[] cap] h fun r h' => (∃ t, h' = h ++ t) ∧ r = .int .i64 (findI p es 0) := by
  refine acall mixed Try.func97 rfl (by kernel_rfl) ?_
  simp [Try.f97]
  refine aloop mixed [0, 1, 7, 8] (fun (x : Nat × Hp) => [.slice a es.length es.length, .func (.func g) #[] cap, .int .i64 es.length, .int .i64 x.1]) (fun x => h ++ x.2) (fun x => x.1 ≤ es.length ∧ findI p (es.drop x.1) x.1 = findI p es 0) (fun x => es.length - x.1) (0, []) ⟨by simp, by simp⟩ (by simp [pickF]) (by simp) ?_
  rintro ⟨k, t'⟩ ⟨hk, he⟩
  simp only at hk he
  simp [mkF]
  refine asplitK_intro (fun hb => ?_) (fun hb => ?_) <;> simp at hb <;> simp [hb]
  · obtain ⟨o, off, rfl, c0, c1, c2, c3⟩ := itemAt (hr.ext (Ext.push h t')) hb
    rw [findI_drop p es k hb] at he
    simp [hb, c0, c1, c2, c3]
    refine callK0 (hg es[k] (List.getElem_mem hb) t') ?_
    rintro _ _ ⟨⟨t2, rfl⟩, rfl⟩
    simp
    refine asplitK_intro (fun hc => ?_) (fun hc => ?_) <;> simp [hc] at he <;> simp [he]
    exact anext (k + 1, t' ++ t2) ⟨hb, he⟩ (by simp only; omega) (by simp [pickF, wrap_succ (show k < 9223372036854775807 by omega)]) (by simp) (by simp)
  · obtain rfl : k = es.length := by omega
    simpa [findI] using he
theorem itemAt1_c (e : Item) (name : Str) (o : Nat) (h : Hp) (ho : o < h.length) (hc : cellAt h o 0 = some (.string (S name))) :
    ACall Try.prog 98 [e.v, .pointer (some ⟨o, 0, none⟩)] h fun r h' => (∃ t', h' = h ++ t') ∧ r = .bool (e.path == name) := by
  refine acall mixed Try.func98 rfl (by kernel_rfl) ?_
  have hc2 : ∀ l, cellAt (h ++ l) o 0 = some (.string (S name)) := fun l => by rw [cellAt_ext (Ext.push h l) ho]; exact hc
  simp [Try.f98, Item.v, hc2]

section
variable (xs : List Item) (p : Str) (a : Option Addr) (F : List Nat) (w : Bool) (t : TypeId) (h : Hp) (hx : slR w t itemE h xs a F) (hl : xs.length ≤ 1048576)
include hx hl
theorem itemAt_c : ACall Try.prog 64 [.agg #[.slice a xs.length xs.length], .string (S p)] h fun r h' => (∃ t', h' = h ++ t') ∧ r = .int .i64 (findI (fun e => e.path == p) xs 0) := by
  refine acall mixed Try.func64 rfl (by kernel_rfl) ?_
  simp [Try.f64]
  refine callK0 (indexFuncItem_c xs a F w t _ (hx.ext (Ext.push _ _)) hl (fun e => e.path == p) _ _ fun e he t => ?_) ?_
  · refine (itemAt1_c e p (h.length + 1) _ (by simp) (by simp)).mono ?_
    simp
  · rintro _ _ ⟨⟨t2, rfl⟩, rfl⟩
    simp
theorem treeGet_spec_c : ACall Try.prog 28 [.agg #[.slice a xs.length xs.length], .string (S p)] h fun r h' => (∃ t', h' = h ++ t') ∧ r = .tuple #[(treeGet xs p).1.v, .bool (treeGet xs p).2] := by
  refine acall mixed Try.func28 rfl (by kernel_rfl) ?_
  simp [Try.f28]
  refine asplitK_intro (fun hb => ?_) (fun hb => ?_) <;> simp at hb <;> simp [hb, treeGet, Item.v]
  refine aloop mixed [1, 2, 4, 6] (fun (k : Nat) => [.string (S p), .pointer (some ⟨h.length, 0, none⟩), .pointer (some ⟨h.length + 1, 0, none⟩), .int .i64 k]) (fun _ => _) (fun k => k ≤ xs.length ∧ treeFind (xs.drop k) p = treeFind xs p) (fun k => xs.length - k) 0 ⟨by omega, by simp⟩ rfl rfl ?_
  rintro k ⟨hk, he⟩
  simp [mkF]
  refine asplitK_intro (fun hc => ?_) (fun hc => ?_) <;> simp at hc <;> simp [hc]
  · obtain ⟨o, off, rfl, c0, c1, c2, c3⟩ := itemAt (hx.ext (Ext.push h [⟨true, true, 40, [.slice a xs.length xs.length]⟩, ⟨true, true, 44, [.string (S []), .int .i64 0, .string (S []), .int .i64 0]⟩])) hc
    rw [treeFind_drop xs p k hc] at he
    simp [hc, c0]
    refine asplitK_intro (fun hd => ?_) (fun hd => ?_) <;> simp at hd <;> simp [hd] at he <;> simp [hd]
    · simp [hc, c0, c1, c2, c3, ← he, hd]
    exact anext (k + 1) ⟨hc, he⟩ (by omega) (by simp [pickF, wrap_succ (show k < 9223372036854775807 by omega)]) rfl (by simp)
  · obtain rfl : k = xs.length := by omega
    have h0 : treeFind xs p = (⟨[], 0, [], 0⟩, false) := by simpa [treeFind] using he.symm
    simp [h0]
theorem treeGet_impl_c : ACall Try.prog 29 [.agg #[.slice a xs.length xs.length], .string (S p)] h fun r h' => (∃ t', h' = h ++ t') ∧ r = .tuple #[(treeGet xs p).1.v, .bool (treeGet xs p).2] := by
  refine acall mixed Try.func29 rfl (by kernel_rfl) ?_
  simp [Try.f29]
  refine asplitK_intro (fun hb => ?_) (fun hb => ?_) <;> simp at hb <;> simp [hb, treeGet, Item.v]
  refine callK0 (itemAt_c xs p a F w t _ (hx.ext (Ext.push h _)) hl) ?_
  rintro _ _ ⟨⟨t1, rfl⟩, rfl⟩
  rcases treeFind_findI xs p with ⟨h1, h2⟩ | ⟨j, hj, h1, h2⟩
  · simp [h1, h2]
  · obtain ⟨o, off, rfl, c0, c1, c2, c3⟩ := itemAt (hx.ext (Ext.push h (⟨true, true, 40, [.slice a xs.length xs.length]⟩ :: ⟨true, true, 44, [.string (S []), .int .i64 0, .string (S []), .int .i64 0]⟩ :: t1))) hj
    have : ¬ (j : Int) < 0 := by omega
    simp [h1, h2, this, hj, c0, c1, c2, c3]
end

/-! ### The law -/
theorem eqItem_v (x y : Item) (h : Hp) : ACall Try.prog 30 [x.v, y.v] h fun r h' => (∃ t, h' = h ++ t) ∧ r = .bool (decide (x = y)) := eqItem_c x y h
theorem FnExactTreeGet_c (xs : List Item) (p : Str) (a : Option Addr) (F : List Nat) (w : Bool) (t : TypeId) (h : Hp) (hx : slR w t itemE h xs a F) (hl : xs.length ≤ maxLen) (hn : p.length ≤ maxLen)
    (h3 : ∀ e ∈ xs, e.path.length ≤ maxLen ∧ e.data.length ≤ maxLen) :
    ACall Try.prog 7 [.agg #[.slice a xs.length xs.length], .string (S p)] h fun r _ => r = .bool true := by
  refine acall mixed Try.func7 rfl (by kernel_rfl) ?_
  have h4 : maxLen = 9223372036854775807 := by decide
  simp [Try.f7]
  refine asplitK_intro (fun hb => ?_) (fun hb => ?_) <;> simp at hb <;> simp
  refine callK0 (szTree_c xs a F w t _ (hx.ext (Ext.push h _)) _ (by omega) (by omega) hl h3) ?_
  rintro _ _ ⟨⟨t1, rfl⟩, n, rfl, hn1, hn2⟩
  simp
  refine asplitK_intro (fun hc => ?_) (fun hc => ?_) <;> simp at hc <;> simp
  have hlx : xs.length ≤ 1048576 := by have := hn2 hc; omega
  refine callK0 (toTree_c xs a F w t _ (hx.ext (Ext.push h _)) hlx) ?_
  rintro _ H1 ⟨a1, F1, rfl, o1⟩
  obtain ⟨u1, rfl⟩ := o1.ext.pre
  simp at o1
  simp
  refine callK0 (treeGet_spec_c xs p a1 F1 true _ _ o1.sl hlx) ?_
  rintro _ _ ⟨⟨u2, rfl⟩, rfl⟩
  simp [Item.v]
  refine callK0 (toTree_c xs a F w t _ (hx.ext (Ext.push h _)) hlx) ?_
  rintro _ H2 ⟨a2, F2, rfl, o2⟩
  obtain ⟨u3, rfl⟩ := o2.ext.pre
  simp at o2
  have p2 := o2.grow (Ext.push _ [⟨true, true, 40, [.slice a2 xs.length xs.length]⟩])
  simp at p2
  simp
  refine callK0 (treeGet_impl_c xs p a2 F2 true _ _ p2.sl hlx) ?_
  rintro _ _ ⟨⟨u4, rfl⟩, rfl⟩
  simp [Item.v]
  refine callK0 (eqItem_c (treeGet xs p).1 (treeGet xs p).1 _) ?_
  rintro _ _ ⟨⟨u5, rfl⟩, rfl⟩
  simp
  have p3 := (p2.grow (Ext.push _ u4)).grow (Ext.push _ [⟨true, true, 44, (treeGet xs p).1.cs⟩])
  have p4 := p3.grow (Ext.push _ u5)
  simp [Item.cs] at p4
  refine drawK true (by kernel_rfl) ?_
  simp
  refine callK (toTree_c xs a F w t _ (hx.ext (Ext.push h _)) hlx) ?_
  rintro _ H5 ⟨a5, F5, rfl, o5⟩
  obtain ⟨u7, rfl⟩ := o5.ext.pre
  refine ⟨fun _ => o5.ext, ?_⟩
  simp at o5
  simp
  refine callK (eqTree_c xs xs a2 a5 F2 F5 true true _ _ _ (p4.sl.ext o5.ext) o5.sl hlx) ?_
  rintro _ _ ⟨⟨u8, rfl⟩, rfl⟩
  refine ⟨fun _ => Ext.push _ _, ?_⟩
  simp
end Go.Proofs.Ytmiflnadgckenaa.Hz
