/- Items: the laws' helpers. -/
import Derived.Test.YtidkkmkihifeoaaHzT
import Derived.Test.YtidkkmkihifeoaaHzR
namespace Go.Proofs.Ytidkkmkihifeoaa.Hz
open Go.RowKit
set_option linter.unusedVariables false
set_option linter.unusedSimpArgs false
set_option maxRecDepth 20000

structure Item where
  path : Str
  kind : Int
  data : Str
  time : Int
  deriving DecidableEq
def Item.nl (e : Item) : Nat := e.path.length + e.data.length
def Item.cs (e : Item) : List Value := [.string (S e.path), .int .i64 e.kind, .string (S e.data), .int .i64 e.time]
def Item.v (e : Item) : Value := .agg #[.string (S e.path), .int .i64 e.kind, .string (S e.data), .int .i64 e.time]
def itemE : Enc Item := flatE 4 Item.cs (fun _ => rfl) (fun _ => rfl)

section
variable {h : Hp} {w : Bool} {t : TypeId} {es : List Item} {a : Option Addr} {F : List Nat}
theorem itemAt (k : slR w t itemE h es a F) {i : Nat} (hi : i < es.length) : ∃ o off, a = some ⟨o, off, none⟩ ∧ cellAt h o (off + i * 4) = some (.string (S es[i].path)) ∧ cellAt h o (off + i * 4 + 1) = some (.int .i64 es[i].kind) ∧ cellAt h o (off + i * 4 + 2) = some (.string (S es[i].data)) ∧ cellAt h o (off + i * 4 + 3) = some (.int .i64 es[i].time) := by
  obtain ⟨o, off, c, Fi, rfl, ⟨rfl, _⟩, -, hc⟩ := k.at_ (List.getElem?_eq_getElem hi)
  exact ⟨o, off, rfl, hc 0 (by decide), hc 1 (by decide), hc 2 (by decide), hc 3 (by decide)⟩
end

/-! ### The laws' helpers -/
theorem szItem_c (e : Item) (left : Int) (h : Hp) (h1 : 0 ≤ left) (h2 : left ≤ 1048576) (hpath : e.path.length ≤ maxLen) (hdata : e.data.length ≤ maxLen) :
    ACall Try.prog 144 [e.v, .int .i64 left] h fun r h' => (∃ t, h' = h ++ t) ∧ ∃ n : Int, r = .int .i64 n ∧ n ≤ left ∧ (0 ≤ n → e.nl + n = left) := by
  refine acall mixed Try.func144 rfl (by kernel_rfl) ?_
  have h4 : maxLen = 9223372036854775807 := by decide
  have hnl : e.nl = e.path.length + e.data.length := rfl
  have w0 : IntKind.i64.wrap (left - e.path.length) = left - e.path.length := wrap_in (by omega) (by omega)
  simp [Try.f144, Item.v, hnl, w0]
  refine asplitK_intro (fun hb0 => ?_) (fun hb0 => ?_) <;> simp at hb0
  · simp [hb0]
    omega
  have w1 : IntKind.i64.wrap (left - e.path.length - e.data.length) = left - e.path.length - e.data.length := wrap_in (by omega) (by omega)
  simp [hb0, w1]
  refine asplitK_intro (fun hb1 => ?_) (fun hb1 => ?_) <;> simp at hb1
  · simp [hb1]
    omega
  simp [hb1]
  omega

theorem szItemS_c (es : List Item) (a : Option Addr) (F : List Nat) (w : Bool) (t : TypeId) (left : Int) (h : Hp) (hr : slR w t itemE h es a F) (h1 : 0 ≤ left) (h2 : left ≤ 1048576) (hl : es.length ≤ maxLen) (h3 : ∀ e ∈ es, e.path.length ≤ maxLen ∧ e.data.length ≤ maxLen) :
    ACall Try.prog 78 [.slice a es.length es.length, .int .i64 left] h fun r h' => (∃ t, h' = h ++ t) ∧ ∃ n : Int, r = .int .i64 n ∧ n ≤ left ∧ (0 ≤ n → es.length + sumL Item.nl es + n = left) := by
  refine acall mixed Try.func78 rfl (by kernel_rfl) ?_
  have h4 : maxLen = 9223372036854775807 := by decide
  have w1 : IntKind.i64.wrap (left - es.length) = left - es.length := wrap_in (by omega) (by omega)
  simp [Try.f78, w1]
  refine asplitK_intro (fun hb => ?_) (fun hb => ?_) <;> simp at hb <;> simp [hb]
  · omega
  refine aloop mixed [0, 1, 5] (fun (x : Nat × Int × Hp) => [.slice a es.length es.length, .int .i64 x.2.1, .int .i64 x.1]) (fun x => h ++ x.2.2) (fun x => x.1 ≤ es.length ∧ 0 ≤ x.2.1 ∧ es.length + sumL Item.nl (es.take x.1) + x.2.1 = left) (fun x => es.length - x.1) (0, left - es.length, []) ⟨by simp, by simp only; omega, by simp; omega⟩ (by simp [pickF]) (by simp) ?_
  rintro ⟨k, l, t'⟩ ⟨hk, hl0, hs⟩
  simp only at hk hl0 hs
  simp [mkF]
  refine asplitK_intro (fun hb => ?_) (fun hb => ?_) <;> simp at hb <;> simp [hb]
  · obtain ⟨o, off, rfl, c0, c1, c2, c3⟩ := itemAt (hr.ext (Ext.push h t')) hb
    simp [hb, c0, c1, c2, c3]
    refine callK0 (szItem_c es[k] l _ hl0 (by omega) (h3 _ (List.getElem_mem hb)).1 (h3 _ (List.getElem_mem hb)).2) ?_
    rintro _ _ ⟨⟨t, rfl⟩, n, rfl, hn, he⟩
    simp
    have := sumL_take Item.nl es k hb
    refine asplitK_intro (fun hb2 => ?_) (fun hb2 => ?_) <;> simp at hb2 <;> simp [hb2]
    · omega
    · exact anext (k + 1, n, t' ++ t) ⟨hb, hb2, by simp only; omega⟩ (by simp only; omega) (by simp [pickF, wrap_succ (show k < 9223372036854775807 by omega)]) rfl (by simp)
  · obtain rfl : k = es.length := by omega
    simp only [List.take_length] at hs
    omega

theorem toItem_c (e : Item) (h : Hp) : ACall Try.prog 149 [e.v] h fun r h' => (∃ t, h' = h ++ t) ∧ r = e.v := by
  refine acall mixed Try.func149 rfl (by kernel_rfl) ?_
  simp [Try.f149, Item.v]
theorem eqItem_c (e e' : Item) (h : Hp) : ACall Try.prog 154 [e.v, e'.v] h fun r h' => (∃ t, h' = h ++ t) ∧ r = .bool (decide (e = e')) := by
  refine acall mixed Try.func154 rfl (by kernel_rfl) ?_
  have he : (e = e') ↔ (e.path = e'.path ∧ e.kind = e'.kind ∧ e.data = e'.data ∧ e.time = e'.time) := by cases e; cases e'; simp
  simp [Try.f154, Item.v, he]
  refine asplitK_intro (fun hb => ?_) (fun hb => ?_) <;> simp at hb <;> simp [hb]
  refine asplitK_intro (fun hb => ?_) (fun hb => ?_) <;> simp at hb <;> simp [hb]
  refine asplitK_intro (fun hb => ?_) (fun hb => ?_) <;> simp at hb <;> simp [hb]
  refine asplitK_intro (fun hb => ?_) (fun hb => ?_) <;> simp at hb <;> simp [hb]

theorem toItemS_c (es : List Item) (a : Option Addr) (F : List Nat) (w : Bool) (t : TypeId) (h : Hp) (hr : slR w t itemE h es a F) (hl : es.length ≤ 1048576) :
    ACall Try.prog 83 [.slice a es.length es.length] h fun r h' => ∃ a' F', r = .slice a' es.length es.length ∧ Own h 111 itemE h' es a' F' := by
  refine acall mixed Try.func83 rfl (by kernel_rfl) ?_
  have hb1 : (es.length : Int) * 48 ≤ (big : Int) := by unfold big; omega
  have hb2 : es.length ≤ big := by unfold big; omega
  simp [Try.f83, hb1, hb2]
  have own0 := Own.rep (A := itemE) h 111 es.length (z := ⟨[], 0, [], 0⟩) (zs := [.string (S []), .int .i64 0, .string (S []), .int .i64 0]) ⟨rfl, rfl⟩
  refine aloop mixed [0, 3, 4] (fun (x : Nat × Hp) => [.slice a es.length es.length, .slice (some ⟨h.length, 0, none⟩) es.length es.length, .int .i64 x.1]) (fun x => x.2)
    (fun x => x.1 ≤ es.length ∧ ∃ F', Own h 111 itemE x.2 (es.take x.1 ++ List.replicate (es.length - x.1) ⟨[], 0, [], 0⟩) (some ⟨h.length, 0, none⟩) F') (fun x => es.length - x.1) (0, _) ⟨by simp, _, by simpa using own0⟩ (by simp [pickF]) rfl ?_
  rintro ⟨k, H⟩ ⟨hk, F', own⟩
  simp only at hk own
  simp [mkF]
  refine asplitK_intro (fun hb => ?_) (fun hb => ?_) <;> simp at hb <;> simp [hb]
  · obtain ⟨o, off, rfl, c0, c1, c2, c3⟩ := itemAt (hr.ext own.ext) hb
    simp [hb, c0, c1, c2, c3]
    refine callK0 (toItem_c es[k] _) ?_
    rintro _ _ ⟨⟨t', rfl⟩, rfl⟩
    have own1 := own.grow (Ext.push H t')
    obtain ⟨hcan, F2, own2⟩ := own1.putFlat (i := k) (by simp; omega) es[k] 0 [.string (S es[k].path), .int .i64 es[k].kind, .string (S es[k].data), .int .i64 es[k].time] (by simp) (by simp [Item.cs])
    rw [fill_set _ k hb] at own2
    simp at hcan own2
    simp [Item.v, hb, hcan]
    exact anext (k + 1, _) ⟨hb, F2, own2⟩ (by simp only; omega) (by simp [pickF, wrap_succ (show k < 9223372036854775807 by omega)]) rfl (by simp)
  · obtain rfl : k = es.length := by omega
    simp at own
    exact ⟨F', own⟩

theorem eqItemS_c (xs ys : List Item) (a b : Option Addr) (F G : List Nat) (w w' : Bool) (t t' : TypeId) (h : Hp) (hx : slR w t itemE h xs a F) (hy : slR w' t' itemE h ys b G) (hl : xs.length ≤ 1048576) :
    ACall Try.prog 87 [.slice a xs.length xs.length, .slice b ys.length ys.length] h fun r h' => (∃ t, h' = h ++ t) ∧ r = .bool (decide (xs = ys)) := by
  refine acall mixed Try.func87 rfl (by kernel_rfl) ?_
  simp [Try.f87]
  refine asplitK_intro (fun hb => ?_) (fun hb => ?_) <;> simp at hb <;> simp [hb]
  · rintro rfl; exact hb rfl
  refine aloop mixed [0, 1, 5] (fun (x : Nat × Hp) => [.slice a xs.length xs.length, .slice b ys.length ys.length, .int .i64 x.1]) (fun x => h ++ x.2) (fun x => x.1 ≤ xs.length ∧ xs.take x.1 = ys.take x.1) (fun x => xs.length - x.1) (0, []) ⟨by simp, by simp⟩ (by simp [pickF]) (by simp) ?_
  rintro ⟨k, t⟩ ⟨hk, he⟩
  simp only at hk he
  simp [mkF]
  refine asplitK_intro (fun hc => ?_) (fun hc => ?_) <;> simp at hc <;> simp [hc]
  · have hl2 : xs.length = ys.length := by omega
    have hc2 : k < ys.length := by omega
    obtain ⟨o, off, rfl, c0, c1, c2, c3⟩ := itemAt (hx.ext (Ext.push h t)) hc
    obtain ⟨o', off', rfl, d0, d1, d2, d3⟩ := itemAt (hy.ext (Ext.push h t)) hc2
    refine drawK false (by kernel_rfl) ?_
    simp [hc, hc2, c0, c1, c2, c3, d0, d1, d2, d3]
    refine callK0 (eqItem_c xs[k] ys[k] _) ?_
    rintro _ _ ⟨⟨t2, rfl⟩, rfl⟩
    simp
    refine asplitK_intro (fun hd => ?_) (fun hd => ?_) <;> simp at hd <;> simp [hd]
    · exact anext (k + 1, t ++ t2) ⟨hc, take_snoc hc hc2 he hd⟩ (by simp only; omega) (by simp [pickF, wrap_succ (show k < 9223372036854775807 by omega)]) (by simp) (by simp)
    · rintro rfl; exact hd rfl
  · obtain rfl : k = xs.length := by omega
    exact take_all (by omega) he
end Go.Proofs.Ytidkkmkihifeoaa.Hz
