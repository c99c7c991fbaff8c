/- Entries: the laws' helpers, and finding an entry. -/
import Derived.Test.YtidkkmkihifeoaaHzT
import Derived.Test.YtidkkmkihifeoaaHzR
namespace Go.Proofs.Ytidkkmkihifeoaa.Hz
open Go.RowKit
set_option linter.unusedVariables false
set_option linter.unusedSimpArgs false
set_option maxRecDepth 20000

structure Ent where
  name : Str
  node : Int
  deriving DecidableEq
def Ent.nl (e : Ent) : Nat := e.name.length
def Ent.cs (e : Ent) : List Value := [.string (S e.name), .int .i64 e.node]
def Ent.v (e : Ent) : Value := .agg #[.string (S e.name), .int .i64 e.node]
def entE : Enc Ent := flatE 2 Ent.cs (fun _ => rfl) (fun _ => rfl)

section
variable {h : Hp} {w : Bool} {t : TypeId} {es : List Ent} {a : Option Addr} {F : List Nat}
theorem entAt (k : slR w t entE h es a F) {i : Nat} (hi : i < es.length) : ∃ o off, a = some ⟨o, off, none⟩ ∧ cellAt h o (off + i * 2) = some (.string (S es[i].name)) ∧ cellAt h o (off + i * 2 + 1) = some (.int .i64 es[i].node) := by
  obtain ⟨o, off, c, Fi, rfl, ⟨rfl, _⟩, -, hc⟩ := k.at_ (List.getElem?_eq_getElem hi)
  exact ⟨o, off, rfl, hc 0 (by decide), hc 1 (by decide)⟩
end

/-! ### The laws' helpers -/
theorem szEntry_c (e : Ent) (left : Int) (h : Hp) (h1 : 0 ≤ left) (h2 : left ≤ 1048576) (hname : e.name.length ≤ maxLen) :
    ACall Try.prog 62 [e.v, .int .i64 left] h fun r h' => (∃ t, h' = h ++ t) ∧ ∃ n : Int, r = .int .i64 n ∧ n ≤ left ∧ (0 ≤ n → e.nl + n = left) := by
  refine acall mixed Try.func62 rfl (by kernel_rfl) ?_
  have h4 : maxLen = 9223372036854775807 := by decide
  have hnl : e.nl = e.name.length := rfl
  have w0 : IntKind.i64.wrap (left - e.name.length) = left - e.name.length := wrap_in (by omega) (by omega)
  simp [Try.f62, Ent.v, hnl, w0]
  refine asplitK_intro (fun hb0 => ?_) (fun hb0 => ?_) <;> simp at hb0
  · simp [hb0]
    omega
  simp [hb0]
  omega

theorem szEntryS_c (es : List Ent) (a : Option Addr) (F : List Nat) (w : Bool) (t : TypeId) (left : Int) (h : Hp) (hr : slR w t entE h es a F) (h1 : 0 ≤ left) (h2 : left ≤ 1048576) (hl : es.length ≤ maxLen) (h3 : ∀ e ∈ es, e.name.length ≤ maxLen) :
    ACall Try.prog 15 [.slice a es.length es.length, .int .i64 left] h fun r h' => (∃ t, h' = h ++ t) ∧ ∃ n : Int, r = .int .i64 n ∧ n ≤ left ∧ (0 ≤ n → es.length + sumL Ent.nl es + n = left) := by
  refine acall mixed Try.func15 rfl (by kernel_rfl) ?_
  have h4 : maxLen = 9223372036854775807 := by decide
  have w1 : IntKind.i64.wrap (left - es.length) = left - es.length := wrap_in (by omega) (by omega)
  simp [Try.f15, w1]
  refine asplitK_intro (fun hb => ?_) (fun hb => ?_) <;> simp at hb <;> simp [hb]
  · omega
  refine aloop mixed [0, 1, 5] (fun (x : Nat × Int × Hp) => [.slice a es.length es.length, .int .i64 x.2.1, .int .i64 x.1]) (fun x => h ++ x.2.2) (fun x => x.1 ≤ es.length ∧ 0 ≤ x.2.1 ∧ es.length + sumL Ent.nl (es.take x.1) + x.2.1 = left) (fun x => es.length - x.1) (0, left - es.length, []) ⟨by simp, by simp only; omega, by simp; omega⟩ (by simp [pickF]) (by simp) ?_
  rintro ⟨k, l, t'⟩ ⟨hk, hl0, hs⟩
  simp only at hk hl0 hs
  simp [mkF]
  refine asplitK_intro (fun hb => ?_) (fun hb => ?_) <;> simp at hb <;> simp [hb]
  · obtain ⟨o, off, rfl, c0, c1⟩ := entAt (hr.ext (Ext.push h t')) hb
    simp [hb, c0, c1]
    refine callK0 (szEntry_c es[k] l _ hl0 (by omega) (h3 _ (List.getElem_mem hb))) ?_
    rintro _ _ ⟨⟨t, rfl⟩, n, rfl, hn, he⟩
    simp
    have := sumL_take Ent.nl es k hb
    refine asplitK_intro (fun hb2 => ?_) (fun hb2 => ?_) <;> simp at hb2 <;> simp [hb2]
    · omega
    · exact anext (k + 1, n, t' ++ t) ⟨hb, hb2, by simp only; omega⟩ (by simp only; omega) (by simp [pickF, wrap_succ (show k < 9223372036854775807 by omega)]) rfl (by simp)
  · obtain rfl : k = es.length := by omega
    simp only [List.take_length] at hs
    omega

theorem toEntry_c (e : Ent) (h : Hp) : ACall Try.prog 64 [e.v] h fun r h' => (∃ t, h' = h ++ t) ∧ r = e.v := by
  refine acall mixed Try.func64 rfl (by kernel_rfl) ?_
  simp [Try.f64, Ent.v]
theorem eqEntry_c (e e' : Ent) (h : Hp) : ACall Try.prog 68 [e.v, e'.v] h fun r h' => (∃ t, h' = h ++ t) ∧ r = .bool (decide (e = e')) := by
  refine acall mixed Try.func68 rfl (by kernel_rfl) ?_
  have he : (e = e') ↔ (e.name = e'.name ∧ e.node = e'.node) := by cases e; cases e'; simp
  simp [Try.f68, Ent.v, he]
  refine asplitK_intro (fun hb => ?_) (fun hb => ?_) <;> simp at hb <;> simp [hb]
  refine asplitK_intro (fun hb => ?_) (fun hb => ?_) <;> simp at hb <;> simp [hb]

theorem toEntryS_c (es : List Ent) (a : Option Addr) (F : List Nat) (w : Bool) (t : TypeId) (h : Hp) (hr : slR w t entE h es a F) (hl : es.length ≤ 1048576) :
    ACall Try.prog 17 [.slice a es.length es.length] h fun r h' => ∃ a' F', r = .slice a' es.length es.length ∧ Own h 66 entE h' es a' F' := by
  refine acall mixed Try.func17 rfl (by kernel_rfl) ?_
  have hb1 : (es.length : Int) * 24 ≤ (big : Int) := by unfold big; omega
  have hb2 : es.length ≤ big := by unfold big; omega
  simp [Try.f17, hb1, hb2]
  have own0 := Own.rep (A := entE) h 66 es.length (z := ⟨[], 0⟩) (zs := [.string (S []), .int .i64 0]) ⟨rfl, rfl⟩
  refine aloop mixed [0, 3, 4] (fun (x : Nat × Hp) => [.slice a es.length es.length, .slice (some ⟨h.length, 0, none⟩) es.length es.length, .int .i64 x.1]) (fun x => x.2)
    (fun x => x.1 ≤ es.length ∧ ∃ F', Own h 66 entE x.2 (es.take x.1 ++ List.replicate (es.length - x.1) ⟨[], 0⟩) (some ⟨h.length, 0, none⟩) F') (fun x => es.length - x.1) (0, _) ⟨by simp, _, by simpa using own0⟩ (by simp [pickF]) rfl ?_
  rintro ⟨k, H⟩ ⟨hk, F', own⟩
  simp only at hk own
  simp [mkF]
  refine asplitK_intro (fun hb => ?_) (fun hb => ?_) <;> simp at hb <;> simp [hb]
  · obtain ⟨o, off, rfl, c0, c1⟩ := entAt (hr.ext own.ext) hb
    simp [hb, c0, c1]
    refine callK0 (toEntry_c es[k] _) ?_
    rintro _ _ ⟨⟨t', rfl⟩, rfl⟩
    have own1 := own.grow (Ext.push H t')
    obtain ⟨hcan, F2, own2⟩ := own1.putFlat (i := k) (by simp; omega) es[k] 0 [.string (S es[k].name), .int .i64 es[k].node] (by simp) (by simp [Ent.cs])
    rw [fill_set _ k hb] at own2
    simp at hcan own2
    simp [Ent.v, hb, hcan]
    exact anext (k + 1, _) ⟨hb, F2, own2⟩ (by simp only; omega) (by simp [pickF, wrap_succ (show k < 9223372036854775807 by omega)]) rfl (by simp)
  · obtain rfl : k = es.length := by omega
    simp at own
    exact ⟨F', own⟩

theorem eqEntryS_c (xs ys : List Ent) (a b : Option Addr) (F G : List Nat) (w w' : Bool) (t t' : TypeId) (h : Hp) (hx : slR w t entE h xs a F) (hy : slR w' t' entE h ys b G) (hl : xs.length ≤ 1048576) :
    ACall Try.prog 19 [.slice a xs.length xs.length, .slice b ys.length ys.length] h fun r h' => (∃ t, h' = h ++ t) ∧ r = .bool (decide (xs = ys)) := by
  refine acall mixed Try.func19 rfl (by kernel_rfl) ?_
  simp [Try.f19]
  refine asplitK_intro (fun hb => ?_) (fun hb => ?_) <;> simp at hb <;> simp [hb]
  · rintro rfl; exact hb rfl
  refine aloop mixed [0, 1, 5] (fun (x : Nat × Hp) => [.slice a xs.length xs.length, .slice b ys.length ys.length, .int .i64 x.1]) (fun x => h ++ x.2) (fun x => x.1 ≤ xs.length ∧ xs.take x.1 = ys.take x.1) (fun x => xs.length - x.1) (0, []) ⟨by simp, by simp⟩ (by simp [pickF]) (by simp) ?_
  rintro ⟨k, t⟩ ⟨hk, he⟩
  simp only at hk he
  simp [mkF]
  refine asplitK_intro (fun hc => ?_) (fun hc => ?_) <;> simp at hc <;> simp [hc]
  · have hl2 : xs.length = ys.length := by omega
    have hc2 : k < ys.length := by omega
    obtain ⟨o, off, rfl, c0, c1⟩ := entAt (hx.ext (Ext.push h t)) hc
    obtain ⟨o', off', rfl, d0, d1⟩ := entAt (hy.ext (Ext.push h t)) hc2
    refine drawK false (by kernel_rfl) ?_
    simp [hc, hc2, c0, c1, d0, d1]
    refine callK0 (eqEntry_c xs[k] ys[k] _) ?_
    rintro _ _ ⟨⟨t2, rfl⟩, rfl⟩
    simp
    refine asplitK_intro (fun hd => ?_) (fun hd => ?_) <;> simp at hd <;> simp [hd]
    · exact anext (k + 1, t ++ t2) ⟨hc, take_snoc hc hc2 he hd⟩ (by simp only; omega) (by simp [pickF, wrap_succ (show k < 9223372036854775807 by omega)]) (by simp) (by simp)
    · rintro rfl; exact hd rfl
  · obtain rfl : k = xs.length := by omega
    exact take_all (by omega) he

def dirFind : List Ent → Str → Int
  | [], _ => -1
  | e :: es, n => if e.name = n then e.node else dirFind es n
theorem dirFind_drop (es : List Ent) (n : Str) (k : Nat) (hk : k < es.length) : dirFind (es.drop k) n = if es[k].name = n then es[k].node else dirFind (es.drop (k + 1)) n := by
  rw [List.drop_eq_getElem_cons hk]; rfl
end Go.Proofs.Ytidkkmkihifeoaa.Hz
