/- Texts of the calculus and of the program's functions, merged: PT DF. -/
import Derived.Test.YtcndiilogcembaaHyT
import Derived.Test.YtcndiilogcembaaHyGC
import Derived.Test.YtcndiilogcembaaHyGD
import Derived.Test.YtcndiilogcembaaHyGV
import Derived.Test.YtcndiilogcembaaHyGE
/- Writes: their encoding, and the laws' helpers. -/
namespace Go.Proofs.Ytcndiilogcembaa.Hz
open Go.RowKit
set_option linter.unusedVariables false
set_option linter.unusedSimpArgs false
set_option maxRecDepth 20000

structure Put where
  at_ : Int
  data : Str
  deriving DecidableEq
def Put.nl (e : Put) : Nat := e.data.length
def Put.cs (e : Put) : List Value := [.int .i64 e.at_, .string (S e.data)]
def Put.v (e : Put) : Value := .agg #[.int .i64 e.at_, .string (S e.data)]
def putE : Enc Put := flatE 2 Put.cs (fun _ => rfl) (fun _ => rfl)

section
variable {h : Hp} {w : Bool} {t : TypeId} {es : List Put} {a : Option Addr} {F : List Nat}
theorem putAt (k : slR w t putE h es a F) {i : Nat} (hi : i < es.length) : ∃ o off, a = some ⟨o, off, none⟩ ∧ cellAt h o (off + i * 2) = some (.int .i64 es[i].at_) ∧ cellAt h o (off + i * 2 + 1) = some (.string (S es[i].data)) := by
  obtain ⟨o, off, c, Fi, rfl, ⟨rfl, _⟩, -, hc⟩ := k.at_ (List.getElem?_eq_getElem hi)
  exact ⟨o, off, rfl, hc 0 (by decide), hc 1 (by decide)⟩
end

theorem eqPut_c (e e' : Put) (h : Hp) : ACall Try.prog 78 [e.v, e'.v] h fun r h' => (∃ t, h' = h ++ t) ∧ r = .bool (decide (e = e')) := by
  refine acall mixed Try.func78 rfl (by kernel_rfl) ?_
  have he : (e = e') ↔ (e.at_ = e'.at_ ∧ e.data = e'.data) := by cases e; cases e'; simp
  simp [Try.f78, Put.v, he]
  refine asplitK_intro (fun hb => ?_) (fun hb => ?_) <;> simp at hb <;> simp [hb]
  refine asplitK_intro (fun hb => ?_) (fun hb => ?_) <;> simp at hb <;> simp [hb]

theorem eqPutS_c (xs ys : List Put) (a b : Option Addr) (F G : List Nat) (w w' : Bool) (t t' : TypeId) (h : Hp) (hx : slR w t putE h xs a F) (hy : slR w' t' putE h ys b G) (hl : xs.length ≤ 1048576) :
    ACall Try.prog 33 [.slice a xs.length xs.length, .slice b ys.length ys.length] h fun r h' => (∃ t, h' = h ++ t) ∧ r = .bool (decide (xs = ys)) := by
  refine acall mixed Try.func33 rfl (by kernel_rfl) ?_
  simp [Try.f33]
  refine asplitK_intro (fun hb => ?_) (fun hb => ?_) <;> simp at hb <;> simp [hb]
  · rintro rfl; exact hb rfl
  refine aloop mixed [0, 1, 5] (fun (x : Nat × Hp) => [.slice a xs.length xs.length, .slice b ys.length ys.length, .int .i64 x.1]) (fun x => h ++ x.2) (fun x => x.1 ≤ xs.length ∧ xs.take x.1 = ys.take x.1) (fun x => xs.length - x.1) (0, []) ⟨by simp, by simp⟩ (by simp [pickF]) (by simp) ?_
  rintro ⟨k, t⟩ ⟨hk, he⟩
  simp only at hk he
  simp [mkF]
  refine asplitK_intro (fun hc => ?_) (fun hc => ?_) <;> simp at hc <;> simp [hc]
  · have hl2 : xs.length = ys.length := by omega
    have hc2 : k < ys.length := by omega
    obtain ⟨o, off, rfl, c0, c1⟩ := putAt (hx.ext (Ext.push h t)) hc
    obtain ⟨o', off', rfl, d0, d1⟩ := putAt (hy.ext (Ext.push h t)) hc2
    refine drawK false (by kernel_rfl) ?_
    simp [hc, hc2, c0, c1, d0, d1]
    refine callK0 (eqPut_c xs[k] ys[k] _) ?_
    rintro _ _ ⟨⟨t2, rfl⟩, rfl⟩
    simp
    refine asplitK_intro (fun hd => ?_) (fun hd => ?_) <;> simp at hd <;> simp [hd]
    · exact anext (k + 1, t ++ t2) ⟨hc, take_snoc hc hc2 he hd⟩ (by simp only; omega) (by simp [pickF, wrap_succ (show k < 9223372036854775807 by omega)]) (by simp) (by simp)
    · rintro rfl; exact hd rfl
  · obtain rfl : k = xs.length := by omega
    exact take_all (by omega) he

def mkPuts : Nat → Nat → List Put
  | 0, _ => []
  | n + 1, k => ⟨(k : Int), markT (k + 1)⟩ :: mkPuts n (k + 2)
theorem mkPuts_len : ∀ (n k : Nat), (mkPuts n k).length = n
  | 0, _ => rfl
  | n + 1, k => by simp [mkPuts, mkPuts_len n (k + 2)]
theorem mkPuts_get : ∀ (n k j : Nat) (hj : j < (mkPuts n k).length), (mkPuts n k)[j] = ⟨((k + 2 * j : Nat) : Int), markT (k + 2 * j + 1)⟩
  | 0, _, _, hj => by simp [mkPuts] at hj
  | n + 1, k, 0, _ => by simp [mkPuts]
  | n + 1, k, j + 1, hj => by
    have := mkPuts_get n (k + 2) j (by simpa [mkPuts] using hj)
    simp only [mkPuts, List.getElem_cons_succ, this]
    rw [show k + 2 + 2 * j = k + 2 * (j + 1) by omega]
theorem markPutS_c (es : List Put) (k : Nat) (a : Option Addr) (F : List Nat) (h0 h : Hp) (own : Own h0 105 putE h es a F) (hk : k + 2 * es.length ≤ 1073741824) :
    ACall Try.prog 34 [.slice a es.length es.length, .int .i64 k] h fun r h' => r = .int .i64 ((k + 2 * es.length : Nat) : Int) ∧ Own h0 105 putE h' (mkPuts es.length k) a F ∧ (∀ q, q < h.length → q ∉ F → h'[q]? = h[q]?) ∧ h.length ≤ h'.length := by
  refine acall mixed Try.func34 rfl (by kernel_rfl) ?_
  have hml := mkPuts_len es.length k
  simp [Try.f34]
  refine aloop mixed [0, 1, 5] (fun (x : Nat × Hp) => [.slice a es.length es.length, .int .i64 ((k + 2 * x.1 : Nat) : Int), .int .i64 x.1]) (fun x => x.2) (fun x => x.1 ≤ es.length ∧ Own h0 105 putE x.2 ((mkPuts es.length k).take x.1 ++ es.drop x.1) a F ∧ (∀ q, q < h.length → q ∉ F → x.2[q]? = h[q]?) ∧ h.length ≤ x.2.length) (fun x => es.length - x.1) (0, h) ⟨by simp, by simpa using own, fun q _ _ => rfl, Nat.le_refl _⟩ (by simp [pickF]) rfl ?_
  rintro ⟨j, H⟩ ⟨hj, oj, keep, hlen⟩
  simp only at hj oj keep hlen
  simp [mkF]
  refine asplitK_intro (fun hb => ?_) (fun hb => ?_) <;> simp at hb <;> simp [hb]
  · have hjl : j < ((mkPuts es.length k).take j ++ es.drop j).length := by simp [hml]; omega
    obtain ⟨o, off, rfl, -, -⟩ := putAt oj.sl hjl
    have hF := oj.flatF
    subst hF
    have wk : (k : Int) + 2 * (j : Int) + 1 = ((k + 2 * j + 1 : Nat) : Int) := by omega
    have w1' : IntKind.i64.wrap ((k : Int) + 2 * (j : Int) + 1) = (k : Int) + 2 * (j : Int) + 1 := by rw [wrap_in (by omega) (by omega)]
    have w2' : IntKind.i64.wrap ((k : Int) + 2 * (j : Int) + 1 + 1) = (k : Int) + 2 * ((j : Int) + 1) := by rw [wrap_in (by omega) (by omega)]; omega
    obtain ⟨hcan1, F1, o2⟩ := oj.putFlat (i := j) hjl ⟨((k + 2 * j : Nat) : Int), (((mkPuts es.length k).take j ++ es.drop j)[j]).data⟩ 0 [.int .i64 ((k + 2 * j : Nat) : Int)] (by simp) (by simp [Put.cs])
    obtain rfl := o2.flatF
    have hcan1' : canSet H o (off + j * 2) 1 = true := by simpa using hcan1
    simp [hb, hcan1', w1']
    rw [wk]
    refine callK0 (markText_c (k + 2 * j + 1) _ (by omega)) ?_
    rintro _ _ ⟨⟨t, rfl⟩, rfl⟩
    have o1 := o2.grow (Ext.push _ t)
    obtain ⟨hcan2, F2, o3⟩ := o1.putFlat (i := j) (by simpa using hjl) ⟨((k + 2 * j : Nat) : Int), markT (k + 2 * j + 1)⟩ 1 [.string (S (markT (k + 2 * j + 1)))] (by simp) (by simp [Put.cs])
    obtain rfl := o3.flatF
    rw [List.set_set] at o3
    have hg := mkPuts_get es.length k j (by rw [hml]; exact hb)
    rw [← hg, take_drop_set (by rw [hml]; exact hb) hml] at o3
    simp at hcan2 o3
    simp [hb, hcan2, w2']
    refine anext (j + 1, setsAt (setsAt H o (off + j * 2) [.int .i64 ((k : Int) + 2 * (j : Int))] ++ t) o (off + j * 2 + 1) [.string (S (markT (k + 2 * j + 1)))]) ⟨hb, o3, fun q hq hm => ?_, ?_⟩ (by simp only; omega) (by simp [pickF, wrap_succ (show j < 9223372036854775807 by omega)]) rfl (by simp)
    · have hqo : ¬ (o = q) := by simpa [eq_comm] using hm
      simp only
      rw [setsAt_get, if_neg hqo, List.getElem?_append_left (by rw [setsAt_len]; omega), setsAt_get, if_neg hqo]
      exact keep q hq (by simpa using hm)
    · simp only
      rw [setsAt_len, List.length_append, setsAt_len]; omega
  · obtain rfl : j = es.length := by omega
    rw [List.drop_length, List.append_nil, List.take_of_length_le (by omega)] at oj
    exact ⟨by omega, oj, keep, hlen⟩
theorem heldPutS_c (n k : Nat) (a : Option Addr) (F : List Nat) (w : Bool) (t : TypeId) (h : Hp) (hr : slR w t putE h (mkPuts n k) a F) (hk : k + 2 * n ≤ 1073741824) :
    ACall Try.prog 35 [.slice a n n, .int .i64 k] h fun r h' => (∃ t, h' = h ++ t) ∧ r = .int .i64 ((k + 2 * n : Nat) : Int) := by
  refine acall mixed Try.func35 rfl (by kernel_rfl) ?_
  have hml := mkPuts_len n k
  simp [Try.f35]
  refine aloop mixed [0, 1, 5] (fun (x : Nat × Hp) => [.slice a n n, .int .i64 ((k + 2 * x.1 : Nat) : Int), .int .i64 x.1]) (fun x => h ++ x.2) (fun x => x.1 ≤ n) (fun x => n - x.1) (0, []) (by simp) (by simp [pickF]) (by simp) ?_
  rintro ⟨j, t⟩ hj
  simp only at hj
  simp [mkF]
  refine asplitK_intro (fun hb => ?_) (fun hb => ?_) <;> simp at hb <;> simp [hb]
  · have hjl : j < (mkPuts n k).length := by omega
    obtain ⟨o, off, rfl, c0, c1⟩ := putAt (hr.ext (Ext.push h t)) hjl
    have hg := mkPuts_get n k j hjl
    rw [hg] at c0 c1
    have wk : (k : Int) + 2 * (j : Int) + 1 = ((k + 2 * j + 1 : Nat) : Int) := by omega
    have w1' : IntKind.i64.wrap ((k : Int) + 2 * (j : Int) + 1) = (k : Int) + 2 * (j : Int) + 1 := by rw [wrap_in (by omega) (by omega)]
    have w2' : IntKind.i64.wrap ((k : Int) + 2 * (j : Int) + 1 + 1) = (k : Int) + 2 * ((j : Int) + 1) := by rw [wrap_in (by omega) (by omega)]; omega
    simp [hb, c0, w1']
    refine drawK true (by kernel_rfl) ?_
    simp [hb, c1]
    rw [wk]
    refine callK (markText_c (k + 2 * j + 1) _ (by omega)) ?_
    rintro _ _ ⟨⟨t2, rfl⟩, rfl⟩
    refine ⟨fun _ => Ext.push _ _, ?_⟩
    simp [w2']
    exact anext (j + 1, t ++ t2) hb (by simp only; omega) (by simp [pickF, w2', wrap_succ (show j < 9223372036854775807 by omega)]) (by simp) (by simp)
  · obtain rfl : j = n := by omega
    omega
end Go.Proofs.Ytcndiilogcembaa.Hz
/- Diff: both programs. -/
namespace Go.Proofs.Ytcndiilogcembaa.Hz
open Go.RowKit
set_option linter.unusedVariables false
set_option linter.unusedSimpArgs false
set_option maxRecDepth 20000

def diffUp (xs ys : List Str) : Nat → List Put
  | 0 => []
  | k + 1 => diffUp xs ys k ++ if xs[k]?.getD [] ≠ ys[k]?.getD [] then [⟨(k : Int), ys[k]?.getD []⟩] else []
theorem diffUp_len (xs ys : List Str) : ∀ k, (diffUp xs ys k).length ≤ k
  | 0 => by simp [diffUp]
  | k + 1 => by
    have := diffUp_len xs ys k
    rw [diffUp, List.length_append]
    split <;> simp <;> omega
noncomputable def diff (x y : Fs) : List Put := if (fsBlocks x).length = (fsBlocks y).length then diffUp (fsBlocks x) (fsBlocks y) (fsBlocks x).length else []
theorem diff_len (x y : Fs) : (diff x y).length ≤ 1048576 := by
  unfold diff
  split
  · exact Nat.le_trans (diffUp_len _ _ _) (fsBlocks_len x)
  · simp
theorem fsBlocks_pos {f : Fs} (h : shapeOk f = true) : 2 ≤ (fsBlocks f).length := by simp [fsBlocks, h]
theorem diff_bad {x y : Fs} (h : shapeOk x = false ∨ shapeOk y = false) : diff x y = [] := by
  unfold diff
  rcases h with h | h
  · have e : fsBlocks x = [] := by simp [fsBlocks, h]
    rw [e]; split <;> rfl
  · have e : fsBlocks y = [] := by simp [fsBlocks, h]
    rw [e]
    split
    · rename_i h2
      rw [h2]; rfl
    · rfl
theorem blocks_some {h : Hp} {f : Fs} {a : Option Addr} {F : List Nat} {t : TypeId} {w : Bool} (k : slR w t strE h (fsBlocks f) a F) (e : shapeOk f = true) : ∃ p, a = some p := by
  cases a with
  | none =>
    obtain ⟨e2, _⟩ := k
    have := fsBlocks_pos e
    rw [e2] at this; simp at this
  | some p => exact ⟨p, rfl⟩
section
variable (x y : Fs) (a1 a2 : Option Addr) (F1 F2 : List Nat) (w : Bool) (tNode : TypeId) (c1 c2 : Option Addr) (G1 G2 : List Nat) (w' : Bool) (tNode' : TypeId) (h : Hp) (k1 : slR w tNode (nodeE w) h x.nodes a1 F1) (k2 : slR w 9 strE h x.data a2 F2) (hl : x.nl ≤ 1048576) (j1 : slR w' tNode' (nodeE w') h y.nodes c1 G1) (j2 : slR w' 9 strE h y.data c2 G2) (hl' : y.nl ≤ 1048576)
include k1 k2 hl j1 j2 hl'
set_option maxHeartbeats 4000000 in
theorem diff_spec_c :
    ACall Try.prog 31 [.agg #[.slice a1 x.nodes.length x.nodes.length, .slice a2 x.data.length x.data.length], .agg #[.slice c1 y.nodes.length y.nodes.length, .slice c2 y.data.length y.data.length]] h fun r h' => ∃ a F, r = .slice a (diff x y).length (diff x y).length ∧ Own h 105 putE h' (diff x y) a F := by
  refine acall mixed Try.func31 rfl (by kernel_rfl) ?_
  simp [Try.f31]
  have hbx := fsBlocks_len x
  have hby := fsBlocks_len y
  obtain ⟨B0, hB0⟩ : ∃ B0, B0 = h ++ [(⟨true, true, 50, [.slice a1 x.nodes.length x.nodes.length, .slice a2 x.data.length x.data.length]⟩ : Ob), (⟨true, true, 50, [.slice c1 y.nodes.length y.nodes.length, .slice c2 y.data.length y.data.length]⟩ : Ob)] := ⟨_, rfl⟩
  have eh : Ext h B0 := by rw [hB0]; exact Ext.push _ _
  have hl0 : B0.length = h.length + 2 := by rw [hB0]; simp
  have bx0 : cellAt B0 h.length 0 = some (.slice a1 x.nodes.length x.nodes.length) := by rw [hB0]; simp
  have bx1 : cellAt B0 h.length 1 = some (.slice a2 x.data.length x.data.length) := by rw [hB0]; simp
  have by0 : cellAt B0 (h.length + 1) 0 = some (.slice c1 y.nodes.length y.nodes.length) := by rw [hB0]; simp
  have by1 : cellAt B0 (h.length + 1) 1 = some (.slice c2 y.data.length y.data.length) := by rw [hB0]; simp
  have eB : (h ++ [(⟨true, true, 50, [.slice a1 x.nodes.length x.nodes.length, .slice a2 x.data.length x.data.length]⟩ : Ob), (⟨true, true, 50, [.slice c1 y.nodes.length y.nodes.length, .slice c2 y.data.length y.data.length]⟩ : Ob), ⟨true, true, 105, []⟩] : Hp) = B0 ++ [⟨true, true, 105, []⟩] := by rw [hB0]; simp
  rw [eB]
  clear eB hB0
  have o0 := empty1 putE B0 105
  rw [hl0] at o0
  generalize (B0 ++ [(⟨true, true, 105, []⟩ : Ob)] : Hp) = H0 at o0 ⊢
  refine callK0 (fsBlocks_spec_c x a1 a2 F1 F2 w tNode _ (k1.ext (eh.trans o0.ext)) (k2.ext (eh.trans o0.ext)) hl) ?_
  rintro _ H1 ⟨ax, Fx, rfl, ox⟩
  have o1 := o0.grow ox.ext
  simp [cell_up o1.ext by0, cell_up o1.ext by1]
  refine callK0 (fsBlocks_spec_c y c1 c2 G1 G2 w' tNode' _ (j1.ext (eh.trans o1.ext)) (j2.ext (eh.trans o1.ext)) hl') ?_
  rintro _ H2 ⟨ay, Fy, rfl, oy⟩
  have o2 := o1.grow oy.ext
  have sx := ox.sl.ext oy.ext
  have sy := oy.sl
  have hlt := o0.sl.lt (h.length + 2) (by simp)
  have hlt1 := ox.ext.1
  have dx : ∀ q ∈ Fx, q ≠ h.length + 2 := fun q hq e => by have := ox.new q hq; omega
  have dy : ∀ q ∈ Fy, q ≠ h.length + 2 := fun q hq e => by have := oy.new q hq; omega
  simp
  refine asplitK_intro (fun hb => ?_) (fun hb => ?_) <;> simp at hb <;> simp [hb]
  · have hd : diff x y = [] := by unfold diff; rw [if_neg (by omega)]
    rw [hd]
    exact ⟨_, ⟨rfl, rfl⟩, _, o2.of_new eh⟩
  have hd : diff x y = diffUp (fsBlocks x) (fsBlocks y) (fsBlocks x).length := by unfold diff; rw [if_pos (by omega)]
  clear o1 o0 ox oy
  refine aloop mixed [5, 6, 7, 8] (fun (z : Nat × Option Addr × Hp) => [.slice z.2.1 (diffUp (fsBlocks x) (fsBlocks y) z.1).length (diffUp (fsBlocks x) (fsBlocks y) z.1).length, .slice ax (fsBlocks x).length (fsBlocks x).length, .slice ay (fsBlocks y).length (fsBlocks y).length, .int .i64 z.1]) (fun z => z.2.2)
    (fun z => z.1 ≤ (fsBlocks x).length ∧ slR true 9 strE z.2.2 (fsBlocks x) ax Fx ∧ slR true 9 strE z.2.2 (fsBlocks y) ay Fy ∧ ∃ F, Own B0 105 putE z.2.2 (diffUp (fsBlocks x) (fsBlocks y) z.1) z.2.1 F ∧ (∀ q ∈ Fx, q ∉ F) ∧ (∀ q ∈ Fy, q ∉ F)) (fun z => (fsBlocks x).length - z.1) (0, some ⟨h.length + 2, 0, none⟩, H2) ⟨by simp, sx, sy, _, o2, fun q hq hm => dx q hq (by simpa using hm), fun q hq hm => dy q hq (by simpa using hm)⟩ rfl rfl ?_
  clear sx sy o2 dx dy
  rintro ⟨k, a, H⟩ ⟨hk, sx, sy, F, own, dx, dy⟩
  simp only at hk sx sy own
  simp [mkF]
  refine asplitK_intro (fun hc => ?_) (fun hc => ?_) <;> simp at hc <;> simp [hc]
  · have hcy : k < (fsBlocks y).length := by omega
    obtain ⟨o, off, rfl, cx⟩ := strEAt sx hc
    obtain ⟨o', off', rfl, cy⟩ := strEAt sy hcy
    have hgx : (fsBlocks x)[k]?.getD [] = (fsBlocks x)[k] := by rw [List.getElem?_eq_getElem hc]; rfl
    have hgy : (fsBlocks y)[k]?.getD [] = (fsBlocks y)[k] := by rw [List.getElem?_eq_getElem hcy]; rfl
    refine drawK false (by kernel_rfl) ?_
    simp [hc, hcy, cx, cy]
    refine asplitK_intro (fun hn => ?_) (fun hn => ?_) <;> simp at hn <;> simp [hn]
    · have hs : diffUp (fsBlocks x) (fsBlocks y) (k + 1) = diffUp (fsBlocks x) (fsBlocks y) k := by rw [diffUp, hgx, hgy, if_neg (by simpa using hn)]; simp
      exact anext (k + 1, a, H) ⟨hc, sx, sy, F, by simp only; rw [hs]; exact own, dx, dy⟩ (by simp only; omega) (by simp [pickF, hs, wrap_succ (show k < 9223372036854775807 by omega)]) rfl (by simp)
    · have hlk := diffUp_len (fsBlocks x) (fsBlocks y) k
      have hs : diffUp (fsBlocks x) (fsBlocks y) (k + 1) = diffUp (fsBlocks x) (fsBlocks y) k ++ [⟨(k : Int), (fsBlocks y)[k]⟩] := by rw [diffUp, hgx, hgy, if_pos hn]
      obtain ⟨a2, H3, F3, eq3, own3, keep3, sub3⟩ := own.append1K (P := Try.prog) ⟨(k : Int), (fsBlocks y)[k]⟩ (cs := [.int .i64 k, .string (S (fsBlocks y)[k])]) rfl (st := 57) (xt := 57) (bt := 24) (z := [.int .i64 0, .string (S [])]) (by simp) (by simp) (by unfold big; omega) (by unfold big; omega)
      rw [← hs] at own3
      have hsl : (diffUp (fsBlocks x) (fsBlocks y) k).length + 1 = (diffUp (fsBlocks x) (fsBlocks y) (k + 1)).length := by rw [hs]; simp
      rw [hsl] at eq3
      simp [hc, hcy, cy, eq3]
      exact anext (k + 1, a2, H3) ⟨hc, sx.frame fun q hq => keep3 q (sx.lt q hq) (dx q hq), sy.frame fun q hq => keep3 q (sy.lt q hq) (dy q hq), F3, own3, fun q hq hm => (sub3 q hm).elim (dx q hq) (fun e => by have := sx.lt q hq; omega), fun q hq hm => (sub3 q hm).elim (dy q hq) (fun e => by have := sy.lt q hq; omega)⟩ (by simp only; omega) (by simp [pickF, wrap_succ (show k < 9223372036854775807 by omega)]) rfl (by simp)
  · obtain rfl : k = (fsBlocks x).length := by omega
    rw [hd]
    exact ⟨_, ⟨rfl, rfl⟩, _, own.of_new eh⟩
set_option maxHeartbeats 4000000 in
theorem diff_impl_c :
    ACall Try.prog 32 [.agg #[.slice a1 x.nodes.length x.nodes.length, .slice a2 x.data.length x.data.length], .agg #[.slice c1 y.nodes.length y.nodes.length, .slice c2 y.data.length y.data.length]] h fun r h' => ∃ a F, r = .slice a (diff x y).length (diff x y).length ∧ Own h 105 putE h' (diff x y) a F := by
  refine acall mixed Try.func32 rfl (by kernel_rfl) ?_
  simp [Try.f32]
  have hbx := fsBlocks_len x
  have hby := fsBlocks_len y
  obtain ⟨B0, hB0⟩ : ∃ B0, B0 = h ++ [(⟨true, true, 50, [.slice a1 x.nodes.length x.nodes.length, .slice a2 x.data.length x.data.length]⟩ : Ob), (⟨true, true, 50, [.slice c1 y.nodes.length y.nodes.length, .slice c2 y.data.length y.data.length]⟩ : Ob)] := ⟨_, rfl⟩
  have eh : Ext h B0 := by rw [hB0]; exact Ext.push _ _
  have bx0 : cellAt B0 h.length 0 = some (.slice a1 x.nodes.length x.nodes.length) := by rw [hB0]; simp
  have bx1 : cellAt B0 h.length 1 = some (.slice a2 x.data.length x.data.length) := by rw [hB0]; simp
  have by0 : cellAt B0 (h.length + 1) 0 = some (.slice c1 y.nodes.length y.nodes.length) := by rw [hB0]; simp
  have by1 : cellAt B0 (h.length + 1) 1 = some (.slice c2 y.data.length y.data.length) := by rw [hB0]; simp
  rw [← hB0]
  clear hB0
  refine drawK true (by kernel_rfl) ?_
  simp [bx0, bx1]
  refine callK (fsBlocks_impl_c x a1 a2 F1 F2 w tNode _ (k1.ext eh) (k2.ext eh) hl) ?_
  rintro _ H1 ⟨ax, Fx, nx, rfl, ox⟩
  refine ⟨fun _ => ox.ext, ?_⟩
  simp [cell_up ox.ext by0, cell_up ox.ext by1]
  refine callK (fsBlocks_impl_c y c1 c2 G1 G2 w' tNode' _ (j1.ext (eh.trans ox.ext)) (j2.ext (eh.trans ox.ext)) hl') ?_
  rintro _ H2 ⟨ay, Fy, ny, rfl, oy⟩
  refine ⟨fun _ => oy.ext, ?_⟩
  have sx := ox.sl.ext oy.ext
  have sy := oy.sl
  have e2 : Ext h H2 := eh.trans (ox.ext.trans oy.ext)
  cases ex : shapeOk x
  · obtain rfl := nx ex
    rw [diff_bad (.inl ex)]
    simp
    exact ⟨_, Own.nil e2⟩
  obtain ⟨px, rfl⟩ := blocks_some sx ex
  cases ey : shapeOk y
  · obtain rfl := ny ey
    rw [diff_bad (.inr ey)]
    simp
    exact ⟨_, Own.nil e2⟩
  obtain ⟨py, rfl⟩ := blocks_some sy ey
  simp
  refine asplitK_intro (fun hb => ?_) (fun hb => ?_) <;> simp at hb <;> simp [hb]
  · have hd : diff x y = [] := by unfold diff; rw [if_neg (by omega)]
    rw [hd]
    simp
    exact ⟨_, Own.nil e2⟩
  have hd : diff x y = diffUp (fsBlocks x) (fsBlocks y) (fsBlocks x).length := by unfold diff; rw [if_pos (by omega)]
  have o0 := empty1 putE H2 105
  have hxy : (fsBlocks x).length = (fsBlocks y).length := by omega
  refine aloop mixed [5, 7, 28, 29, 30] (fun (z : Nat × Option Addr × Hp) => [.slice (some px) (fsBlocks x).length (fsBlocks x).length, .slice z.2.1 (diffUp (fsBlocks x) (fsBlocks y) z.1).length (diffUp (fsBlocks x) (fsBlocks y) z.1).length, .slice (some py) (fsBlocks y).length (fsBlocks y).length, .int .i64 (fsBlocks y).length, .int .i64 z.1]) (fun z => z.2.2)
    (fun z => z.1 ≤ (fsBlocks y).length ∧ ∃ F, Own H2 105 putE z.2.2 (diffUp (fsBlocks x) (fsBlocks y) z.1) z.2.1 F) (fun z => (fsBlocks y).length - z.1) (0, some ⟨H2.length, 0, none⟩, _) ⟨by simp, _, o0⟩ rfl rfl ?_
  rintro ⟨k, a, H⟩ ⟨hk, F, own⟩
  simp only at hk own
  simp [mkF]
  refine asplitK_intro (fun hc => ?_) (fun hc => ?_) <;> simp at hc <;> simp [hc]
  · have hcx : k < (fsBlocks x).length := by omega
    obtain ⟨o, off, e1, cx⟩ := strEAt (sx.ext own.ext) hcx
    obtain ⟨o', off', e2, cy⟩ := strEAt (sy.ext own.ext) hc
    obtain rfl := Option.some.inj e1
    obtain rfl := Option.some.inj e2
    have hgx : (fsBlocks x)[k]?.getD [] = (fsBlocks x)[k] := by rw [List.getElem?_eq_getElem hcx]; rfl
    have hgy : (fsBlocks y)[k]?.getD [] = (fsBlocks y)[k] := by rw [List.getElem?_eq_getElem hc]; rfl
    simp [hc, hcx, cx, cy]
    refine asplitK_intro (fun hn => ?_) (fun hn => ?_) <;> simp at hn <;> simp [hn]
    · have hs : diffUp (fsBlocks x) (fsBlocks y) (k + 1) = diffUp (fsBlocks x) (fsBlocks y) k := by rw [diffUp, hgx, hgy, if_neg (by simp; exact hn.symm)]; simp
      exact anext (k + 1, a, H) ⟨hc, F, by simp only; rw [hs]; exact own⟩ (by simp only; omega) (by simp [pickF, hs, wrap_succ (show k < 9223372036854775807 by omega)]) rfl (by simp)
    · have hlk := diffUp_len (fsBlocks x) (fsBlocks y) k
      have hs : diffUp (fsBlocks x) (fsBlocks y) (k + 1) = diffUp (fsBlocks x) (fsBlocks y) k ++ [⟨(k : Int), (fsBlocks y)[k]⟩] := by rw [diffUp, hgx, hgy, if_pos (fun e => hn e.symm)]
      obtain ⟨a2, H3, F3, eq3, own3⟩ := own.append1 (P := Try.prog) ⟨(k : Int), (fsBlocks y)[k]⟩ (cs := [.int .i64 k, .string (S (fsBlocks y)[k])]) rfl (st := 57) (xt := 57) (bt := 24) (z := [.int .i64 0, .string (S [])]) (by simp) (by simp) (by unfold big; omega) (by unfold big; omega)
      rw [← hs] at own3
      have hsl : (diffUp (fsBlocks x) (fsBlocks y) k).length + 1 = (diffUp (fsBlocks x) (fsBlocks y) (k + 1)).length := by rw [hs]; simp
      rw [hsl] at eq3
      simp [eq3]
      exact anext (k + 1, a2, H3) ⟨hc, F3, own3⟩ (by simp only; omega) (by simp [pickF, wrap_succ (show k < 9223372036854775807 by omega)]) rfl (by simp)
  · obtain rfl : k = (fsBlocks y).length := by omega
    rw [hd, hxy]
    exact ⟨_, ⟨rfl, rfl⟩, _, own.of_new e2⟩
end
end Go.Proofs.Ytcndiilogcembaa.Hz
