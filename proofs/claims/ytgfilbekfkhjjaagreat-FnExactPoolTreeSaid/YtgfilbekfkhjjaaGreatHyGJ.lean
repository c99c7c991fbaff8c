/- Texts of the calculus and of the program's functions, merged: PL XN. -/
import Derived.Test.YtgfilbekfkhjjaaGreatHyGD
import Derived.Test.YtgfilbekfkhjjaaGreatHyGC
/- Branches, moves and pools: the laws' helpers. -/
namespace Go.Proofs.YtgfilbekfkhjjaaGreat.Hz
open Go.RowKit
set_option linter.unusedVariables false
set_option linter.unusedSimpArgs false
set_option maxRecDepth 20000

structure Branch where
  mode : Int
  fs : Fs
  deriving DecidableEq
def Branch.nl (x : Branch) : Nat := x.fs.nl
def Branch.bd (x : Branch) : Prop := x.fs.bd
def Branch.lim (x : Branch) : Prop := x.fs.lim
def branchE (w : Bool) (tNode : TypeId) : Enc Branch where
  n := 3
  R h x cs F := ∃ a1 F1 a2 F2, cs = [.int .i64 x.mode, .slice a1 x.fs.nodes.length x.fs.nodes.length, .slice a2 x.fs.data.length x.fs.data.length] ∧ F = F1 ++ F2 ∧ slR w tNode (nodeE w) h x.fs.nodes a1 F1 ∧ slR w 9 strE h x.fs.data a2 F2
  len := by rintro h x cs F ⟨a1, F1, a2, F2, rfl, _⟩; rfl
  ok := by rintro h x cs F ⟨a1, F1, a2, F2, rfl, _⟩; rfl
  frame := by rintro h h' x cs F ⟨a1, F1, a2, F2, rfl, rfl, k1, k2⟩ hf; exact ⟨a1, _, a2, _, rfl, rfl, k1.frame fun q hq => hf q (by simp [hq]), k2.frame fun q hq => hf q (by simp [hq])⟩
  lt := by
    rintro h x cs F ⟨a1, F1, a2, F2, rfl, rfl, k1, k2⟩ q hq
    simp only [List.mem_append] at hq
    rcases hq with hq | hq
    · exact k1.lt q hq
    · exact k2.lt q hq

theorem Branch.lim_of (x : Branch) (h : x.nl ≤ 1048576) : x.lim := Fs.lim_of _ (by simp only [Branch.nl] at h; omega)
theorem branchR {h : Hp} {w : Bool} {x : Branch} {tNode : TypeId} {a1 a2 : Option Addr} {F : List Nat} (k : (branchE w tNode).R h x [.int .i64 x.mode, .slice a1 x.fs.nodes.length x.fs.nodes.length, .slice a2 x.fs.data.length x.fs.data.length] F) : ∃ F1 F2, slR w tNode (nodeE w) h x.fs.nodes a1 F1 ∧ slR w 9 strE h x.fs.data a2 F2 ∧ F = F1 ++ F2 := by
  obtain ⟨b1, F1, b2, F2, e, e2, k1, k2⟩ := k
  simp at e
  obtain ⟨rfl, rfl⟩ := e
  exact ⟨F1, F2, k1, k2, e2⟩

theorem branchAt {h : Hp} {w : Bool} {t tNode : TypeId} {es : List Branch} {a : Option Addr} {F : List Nat} (k : slR w t (branchE w tNode) h es a F) {i : Nat} (hi : i < es.length) : ∃ o off b1 G1 b2 G2, a = some ⟨o, off, none⟩ ∧ cellAt h o (off + i * 3) = some (.int .i64 es[i].mode) ∧ cellAt h o (off + i * 3 + 1) = some (.slice b1 es[i].fs.nodes.length es[i].fs.nodes.length) ∧ cellAt h o (off + i * 3 + 2) = some (.slice b2 es[i].fs.data.length es[i].fs.data.length) ∧ slR w tNode (nodeE w) h es[i].fs.nodes b1 G1 ∧ slR w 9 strE h es[i].fs.data b2 G2 ∧ (∀ q ∈ G1, q ∈ F) ∧ (∀ q ∈ G2, q ∈ F) := by
  obtain ⟨o, off, c, Fi, rfl, ⟨b1, G1, b2, G2, rfl, rfl, k1, k2⟩, hq, hc⟩ := k.at_ (List.getElem?_eq_getElem hi)
  exact ⟨o, off, b1, _, b2, _, rfl, hc 0 (by show _ < 3; omega), hc 1 (by show _ < 3; omega), hc 2 (by show _ < 3; omega), k1, k2, fun q hq' => hq q (by simp [hq']), fun q hq' => hq q (by simp [hq'])⟩

theorem szBranch_c (x : Branch) (a1 a2 : Option Addr) (F1 F2 : List Nat) (w : Bool) (tNode : TypeId) (left : Int) (h : Hp) (k1 : slR w tNode (nodeE w) h x.fs.nodes a1 F1) (k2 : slR w 9 strE h x.fs.data a2 F2) (h1 : 0 ≤ left) (h2 : left ≤ 1048576) (hb : x.bd) :
    ACall Tryz.prog 94 [.agg #[.int .i64 x.mode, .slice a1 x.fs.nodes.length x.fs.nodes.length, .slice a2 x.fs.data.length x.fs.data.length], .int .i64 left] h fun r h' => (∃ t, h' = h ++ t) ∧ ∃ n : Int, r = .int .i64 n ∧ n ≤ left ∧ (0 ≤ n → x.nl + n = left) := by
  refine acall mixed Tryz.func94 rfl (by kernel_rfl) ?_
  have h4 : maxLen = 9223372036854775807 := by decide
  have hnl : x.nl = x.fs.nl := rfl
  simp [Tryz.f94]
  refine callK0 (szFs_c x.fs a1 a2 F1 F2 w tNode left _ (k1.ext (Ext.push h _)) (k2.ext (Ext.push h _)) h1 h2 hb) ?_
  rintro _ _ ⟨⟨t1, rfl⟩, n1, rfl, hn1, he1⟩
  simp
  refine asplitK_intro (fun hc1 => ?_) (fun hc1 => ?_) <;> simp at hc1 <;> simp [hc1]
  · omega
  omega

theorem szBranchS_c (es : List Branch) (a : Option Addr) (F : List Nat) (w : Bool) (t : TypeId) (tNode : TypeId) (left : Int) (h : Hp) (hr : slR w t (branchE w tNode) h es a F) (h1 : 0 ≤ left) (h2 : left ≤ 1048576) (hl : es.length ≤ maxLen) (h3 : ∀ e ∈ es, e.bd) :
    ACall Tryz.prog 52 [.slice a es.length es.length, .int .i64 left] h fun r h' => (∃ t, h' = h ++ t) ∧ ∃ n : Int, r = .int .i64 n ∧ n ≤ left ∧ (0 ≤ n → es.length + sumL Branch.nl es + n = left) := by
  refine acall mixed Tryz.func52 rfl (by kernel_rfl) ?_
  have h4 : maxLen = 9223372036854775807 := by decide
  have w1 : IntKind.i64.wrap (left - es.length) = left - es.length := wrap_in (by omega) (by omega)
  simp [Tryz.f52, w1]
  refine asplitK_intro (fun hb => ?_) (fun hb => ?_) <;> simp at hb <;> simp [hb]
  · omega
  refine aloop mixed [0, 1, 5] (fun (x : Nat × Int × Hp) => [.slice a es.length es.length, .int .i64 x.2.1, .int .i64 x.1]) (fun x => h ++ x.2.2) (fun x => x.1 ≤ es.length ∧ 0 ≤ x.2.1 ∧ es.length + sumL Branch.nl (es.take x.1) + x.2.1 = left) (fun x => es.length - x.1) (0, left - es.length, []) ⟨by simp, by simp only; omega, by simp; omega⟩ (by simp [pickF]) (by simp) ?_
  rintro ⟨k, l, t'⟩ ⟨hk, hl0, hs⟩
  simp only at hk hl0 hs
  simp [mkF]
  refine asplitK_intro (fun hb => ?_) (fun hb => ?_) <;> simp at hb <;> simp [hb]
  · obtain ⟨o, off, b1, B1, b2, B2, rfl, c0, c1, c2, k1, k2, -, -⟩ := branchAt (hr.ext (Ext.push h t')) hb
    simp [hb, c0, c1, c2]
    refine callK0 (szBranch_c es[k] b1 b2 B1 B2 w tNode l _ k1 k2 hl0 (by omega) (h3 _ (List.getElem_mem hb))) ?_
    rintro _ _ ⟨⟨t, rfl⟩, n, rfl, hn, he⟩
    simp
    have := sumL_take Branch.nl es k hb
    refine asplitK_intro (fun hb2 => ?_) (fun hb2 => ?_) <;> simp at hb2 <;> simp [hb2]
    · omega
    · exact anext (k + 1, n, t' ++ t) ⟨hb, hb2, by simp only; omega⟩ (by simp only; omega) (by simp [pickF, wrap_succ (show k < 9223372036854775807 by omega)]) rfl (by simp)
  · obtain rfl : k = es.length := by omega
    simp only [List.take_length] at hs
    omega

theorem toBranch_c (x : Branch) (a1 a2 : Option Addr) (F1 F2 : List Nat) (w : Bool) (tNode : TypeId) (h : Hp) (k1 : slR w tNode (nodeE w) h x.fs.nodes a1 F1) (k2 : slR w 9 strE h x.fs.data a2 F2) (hl : x.lim) :
    ACall Tryz.prog 97 [.agg #[.int .i64 x.mode, .slice a1 x.fs.nodes.length x.fs.nodes.length, .slice a2 x.fs.data.length x.fs.data.length]] h fun r h' => ∃ b1 G1 b2 G2, r = .agg #[.int .i64 x.mode, .slice b1 x.fs.nodes.length x.fs.nodes.length, .slice b2 x.fs.data.length x.fs.data.length] ∧ OwnE h (branchE true 101) h' x [.int .i64 x.mode, .slice b1 x.fs.nodes.length x.fs.nodes.length, .slice b2 x.fs.data.length x.fs.data.length] (G1 ++ G2) := by
  refine acall mixed Tryz.func97 rfl (by kernel_rfl) ?_
  simp [Tryz.f97]
  refine callK0 (toFs_c x.fs a1 a2 F1 F2 w tNode _ (k1.ext (Ext.push h _)) (k2.ext (Ext.push h _)) hl) ?_
  rintro _ _ ⟨b1, G1, b2, G2, rfl, o1⟩
  obtain ⟨u1, rfl⟩ := o1.ext.pre
  simp
  obtain ⟨c1, H1, c2, H2, e1, e2, s1, s2⟩ := o1.r
  obtain ⟨rfl, rfl⟩ : b1 = c1 ∧ b2 = c2 := by simpa using e1
  have nd := o1.nd
  have n1 : ∀ q ∈ G1 ++ G2, h.length + 3 ≤ q := fun q hq => by have := o1.new q hq; simp at this; omega
  rw [e2] at nd n1
  simp at s1 s2
  exact ⟨b1, H1, b2, ⟨rfl, rfl⟩, H2, Ext.push _ _, ⟨b1, H1, b2, H2, rfl, rfl, slR.late0 (l := [_, _, _]) (l' := [_, _, _]) s1 (fun q hq => n1 q (by simp [hq])) rfl, slR.late0 (l := [_, _, _]) (l' := [_, _, _]) s2 (fun q hq => n1 q (by simp [hq])) rfl⟩, nd, fun q hq => by have := n1 q hq; omega⟩

theorem toBranchS_c (es : List Branch) (a : Option Addr) (F : List Nat) (w : Bool) (t : TypeId) (tNode : TypeId) (h : Hp) (hr : slR w t (branchE w tNode) h es a F) (hl : es.length ≤ 1048576) (hlim : ∀ e ∈ es, e.lim) :
    ACall Tryz.prog 57 [.slice a es.length es.length] h fun r h' => ∃ a' F', r = .slice a' es.length es.length ∧ Own h 84 (branchE true 101) h' es a' F' := by
  refine acall mixed Tryz.func57 rfl (by kernel_rfl) ?_
  have hb1 : (es.length : Int) * 56 ≤ (big : Int) := by unfold big; omega
  have hb2 : es.length ≤ big := by unfold big; omega
  simp [Tryz.f57, hb1, hb2]
  have own0 := Own.rep (A := (branchE true 101)) h 84 es.length (z := ⟨0, ⟨[], []⟩⟩) (zs := [.int .i64 0, .slice none 0 0, .slice none 0 0]) ⟨none, [], none, [], rfl, rfl, ⟨rfl, rfl⟩, ⟨rfl, rfl⟩⟩
  refine aloop mixed [0, 3, 4] (fun (x : Nat × Hp) => [.slice a es.length es.length, .slice (some ⟨h.length, 0, none⟩) es.length es.length, .int .i64 x.1]) (fun x => x.2)
    (fun x => x.1 ≤ es.length ∧ ∃ F', Own h 84 (branchE true 101) x.2 (es.take x.1 ++ List.replicate (es.length - x.1) ⟨0, ⟨[], []⟩⟩) (some ⟨h.length, 0, none⟩) F') (fun x => es.length - x.1) (0, _) ⟨by simp, _, by simpa using own0⟩ (by simp [pickF]) rfl ?_
  rintro ⟨k, H⟩ ⟨hk, F', own⟩
  simp only at hk own
  simp [mkF]
  refine asplitK_intro (fun hb => ?_) (fun hb => ?_) <;> simp at hb <;> simp [hb]
  · obtain ⟨o, off, b1, B1, b2, B2, rfl, c0, c1, c2, k1, k2, -, -⟩ := branchAt (hr.ext own.ext) hb
    simp [hb, c0, c1, c2]
    refine callK0 (toBranch_c es[k] b1 b2 B1 B2 w tNode _ k1 k2 (hlim _ (List.getElem_mem hb))) ?_
    rintro _ _ ⟨d1, D1, d2, D2, rfl, oe⟩
    obtain ⟨hcan, F2, own2⟩ := own.putE (i := k) (by simp; omega) oe
    rw [fill_set _ k hb] at own2
    have hn : (branchE true 101).n = 3 := rfl
    simp only [hn, Nat.zero_add] at hcan own2
    simp [hb, hcan]
    exact anext (k + 1, _) ⟨hb, F2, own2⟩ (by simp only; omega) (by simp [pickF, wrap_succ (show k < 9223372036854775807 by omega)]) rfl (by simp)
  · obtain rfl : k = es.length := by omega
    simp at own
    exact ⟨_, own⟩

theorem eqBranch_c (x y : Branch) (a1 b1 : Option Addr) (F1 G1 : List Nat) (a2 b2 : Option Addr) (F2 G2 : List Nat) (w w' : Bool) (tNode tNode' : TypeId) (h : Hp) (k1 : slR w tNode (nodeE w) h x.fs.nodes a1 F1) (l1 : slR w' tNode' (nodeE w') h y.fs.nodes b1 G1) (k2 : slR w 9 strE h x.fs.data a2 F2) (l2 : slR w' 9 strE h y.fs.data b2 G2) (hl : x.lim) :
    ACall Tryz.prog 99 [.agg #[.int .i64 x.mode, .slice a1 x.fs.nodes.length x.fs.nodes.length, .slice a2 x.fs.data.length x.fs.data.length], .agg #[.int .i64 y.mode, .slice b1 y.fs.nodes.length y.fs.nodes.length, .slice b2 y.fs.data.length y.fs.data.length]] h fun r h' => (∃ t, h' = h ++ t) ∧ r = .bool (decide (x = y)) := by
  refine acall mixed Tryz.func99 rfl (by kernel_rfl) ?_
  have he : (x = y) ↔ (x.mode = y.mode ∧ x.fs = y.fs) := by cases x; cases y; simp
  simp [Tryz.f99, he]
  refine asplitK_intro (fun hb => ?_) (fun hb => ?_) <;> simp at hb <;> simp [hb]
  refine callK0 (eqFs_c x.fs y.fs a1 b1 F1 G1 a2 b2 F2 G2 w w' tNode tNode' _ (k1.ext (Ext.push h _)) (l1.ext (Ext.push h _)) (k2.ext (Ext.push h _)) (l2.ext (Ext.push h _)) hl) ?_
  rintro _ _ ⟨⟨t1, rfl⟩, rfl⟩
  simp
  refine asplitK_intro (fun hb => ?_) (fun hb => ?_) <;> simp at hb <;> simp [hb]

theorem eqBranchS_c (xs ys : List Branch) (a b : Option Addr) (F G : List Nat) (w w' : Bool) (t t' tNode tNode' : TypeId) (h : Hp) (hx : slR w t (branchE w tNode) h xs a F) (hy : slR w' t' (branchE w' tNode') h ys b G) (hl : xs.length ≤ 1048576) (hb1 : ∀ x ∈ xs, x.lim) :
    ACall Tryz.prog 63 [.slice a xs.length xs.length, .slice b ys.length ys.length] h fun r h' => (∃ t, h' = h ++ t) ∧ r = .bool (decide (xs = ys)) := by
  refine acall mixed Tryz.func63 rfl (by kernel_rfl) ?_
  simp [Tryz.f63]
  refine asplitK_intro (fun hb => ?_) (fun hb => ?_) <;> simp at hb <;> simp [hb]
  · rintro rfl; exact hb rfl
  have hl2 : xs.length = ys.length := by omega
  refine aloop mixed [0, 1, 5] (fun (x : Nat × Hp) => [.slice a xs.length xs.length, .slice b ys.length ys.length, .int .i64 x.1]) (fun x => h ++ x.2) (fun x => x.1 ≤ xs.length ∧ xs.take x.1 = ys.take x.1) (fun x => xs.length - x.1) (0, []) ⟨by simp, by simp⟩ (by simp [pickF]) (by simp) ?_
  rintro ⟨k, t⟩ ⟨hk, he⟩
  simp only at hk he
  simp [mkF]
  refine asplitK_intro (fun hc => ?_) (fun hc => ?_) <;> simp at hc <;> simp [hc]
  · have hc2 : k < ys.length := by omega
    obtain ⟨o, off, ax1, fx1, ax2, fx2, rfl, c0, c1, c2, ck1, ck2, -, -⟩ := branchAt (hx.ext (Ext.push h t)) hc
    obtain ⟨o', off', ay1, fy1, ay2, fy2, rfl, d0, d1, d2, dk1, dk2, -, -⟩ := branchAt (hy.ext (Ext.push h t)) hc2
    refine drawK false (by kernel_rfl) ?_
    simp [hc, hc2, c0, c1, c2, d0, d1, d2]
    refine callK0 (eqBranch_c xs[k] ys[k] ax1 ay1 fx1 fy1 ax2 ay2 fx2 fy2 w w' tNode tNode' _ ck1 dk1 ck2 dk2 (hb1 _ (List.getElem_mem hc))) ?_
    rintro _ _ ⟨⟨t2, rfl⟩, rfl⟩
    simp
    refine asplitK_intro (fun hd => ?_) (fun hd => ?_) <;> simp at hd <;> simp [hd]
    · exact anext (k + 1, t ++ t2) ⟨hc, take_snoc hc hc2 he hd⟩ (by simp only; omega) (by simp [pickF, wrap_succ (show k < 9223372036854775807 by omega)]) (by simp) (by simp)
    · rintro rfl; exact hd rfl
  · obtain rfl : k = xs.length := by omega
    exact take_all (by omega) he

structure Move where
  on : Bool
  clean : Bool
  src : Int
  dst : Int
  path : Str
  gen : Int
  done : Int
  deriving DecidableEq
def Move.nl (x : Move) : Nat := x.path.length
def Move.bd (x : Move) : Prop := x.path.length ≤ maxLen
def Move.cs (e : Move) : List Value := [.bool e.on, .bool e.clean, .int .i64 e.src, .int .i64 e.dst, .string (S e.path), .int .i64 e.gen, .int .i64 e.done]
def Move.v (e : Move) : Value := .agg #[.bool e.on, .bool e.clean, .int .i64 e.src, .int .i64 e.dst, .string (S e.path), .int .i64 e.gen, .int .i64 e.done]
def moveE : Enc Move := flatE 7 Move.cs (fun _ => rfl) (fun _ => rfl)

theorem szMove_c (x : Move)  (w : Bool)  (left : Int) (h : Hp)  (h1 : 0 ≤ left) (h2 : left ≤ 1048576) (hb : x.bd) :
    ACall Tryz.prog 53 [.agg #[.bool x.on, .bool x.clean, .int .i64 x.src, .int .i64 x.dst, .string (S x.path), .int .i64 x.gen, .int .i64 x.done], .int .i64 left] h fun r h' => (∃ t, h' = h ++ t) ∧ ∃ n : Int, r = .int .i64 n ∧ n ≤ left ∧ (0 ≤ n → x.nl + n = left) := by
  refine acall mixed Tryz.func53 rfl (by kernel_rfl) ?_
  have h4 : maxLen = 9223372036854775807 := by decide
  have hnl : x.nl = x.path.length := rfl
  have h5 : x.path.length ≤ maxLen := hb
  have w0 : IntKind.i64.wrap (left - x.path.length) = left - x.path.length := wrap_in (by omega) (by omega)
  simp [Tryz.f53, w0]
  refine asplitK_intro (fun hb => ?_) (fun hb => ?_) <;> simp at hb <;> simp [hb] <;> omega

theorem toMove_c (e : Move) (h : Hp) : ACall Tryz.prog 58 [e.v] h fun r h' => (∃ t, h' = h ++ t) ∧ r = e.v := by
  refine acall mixed Tryz.func58 rfl (by kernel_rfl) ?_
  simp [Tryz.f58, Move.v]

theorem eqMove_c (x y : Move) (h : Hp) :
    ACall Tryz.prog 64 [.agg #[.bool x.on, .bool x.clean, .int .i64 x.src, .int .i64 x.dst, .string (S x.path), .int .i64 x.gen, .int .i64 x.done], .agg #[.bool y.on, .bool y.clean, .int .i64 y.src, .int .i64 y.dst, .string (S y.path), .int .i64 y.gen, .int .i64 y.done]] h fun r h' => (∃ t, h' = h ++ t) ∧ r = .bool (decide (x = y)) := by
  refine acall mixed Tryz.func64 rfl (by kernel_rfl) ?_
  have he : (x = y) ↔ (x.on = y.on ∧ x.clean = y.clean ∧ x.src = y.src ∧ x.dst = y.dst ∧ x.path = y.path ∧ x.gen = y.gen ∧ x.done = y.done) := by cases x; cases y; simp
  simp [Tryz.f64, he]
  refine asplitK_intro (fun hb => ?_) (fun hb => ?_) <;> simp at hb <;> simp [hb]
  refine asplitK_intro (fun hb => ?_) (fun hb => ?_) <;> simp at hb <;> simp [hb]
  refine asplitK_intro (fun hb => ?_) (fun hb => ?_) <;> simp at hb <;> simp [hb]
  refine asplitK_intro (fun hb => ?_) (fun hb => ?_) <;> simp at hb <;> simp [hb]
  refine asplitK_intro (fun hb => ?_) (fun hb => ?_) <;> simp at hb <;> simp [hb]
  refine asplitK_intro (fun hb => ?_) (fun hb => ?_) <;> simp at hb <;> simp [hb]
  refine asplitK_intro (fun hb => ?_) (fun hb => ?_) <;> simp at hb <;> simp [hb]

structure Pool where
  policy : Int
  minFree : Int
  branches : List Branch
  move : Move
  deriving DecidableEq
def Pool.nl (x : Pool) : Nat := x.branches.length + sumL Branch.nl x.branches + x.move.nl
def Pool.bd (x : Pool) : Prop := x.branches.length ≤ maxLen ∧ (∀ y ∈ x.branches, y.bd) ∧ x.move.bd
def Pool.lim (x : Pool) : Prop := x.branches.length ≤ 1048576 ∧ (∀ y ∈ x.branches, y.lim)
def poolE (w : Bool) (tBranch tNode : TypeId) : Enc Pool where
  n := 10
  R h x cs F := ∃ a1 F1, cs = [.int .i64 x.policy, .int .i64 x.minFree, .slice a1 x.branches.length x.branches.length, .bool x.move.on, .bool x.move.clean, .int .i64 x.move.src, .int .i64 x.move.dst, .string (S x.move.path), .int .i64 x.move.gen, .int .i64 x.move.done] ∧ F = F1 ∧ slR w tBranch (branchE w tNode) h x.branches a1 F1
  len := by rintro h x cs F ⟨a1, F1, rfl, _⟩; rfl
  ok := by rintro h x cs F ⟨a1, F1, rfl, _⟩; rfl
  frame := by rintro h h' x cs F ⟨a1, F1, rfl, rfl, k1⟩ hf; exact ⟨a1, _, rfl, rfl, k1.frame fun q hq => hf q (by simp [hq])⟩
  lt := by rintro h x cs F ⟨a1, F1, rfl, rfl, k1⟩ q hq; exact k1.lt q hq

theorem Pool.lim_of (x : Pool) (h : x.nl ≤ 1048576) : x.lim := ⟨show x.branches.length ≤ 1048576 by simp only [Pool.nl] at h; omega, fun y hy => Branch.lim_of y (by have := sumL_mem Branch.nl hy; simp only [Pool.nl] at h; omega)⟩
theorem poolR {h : Hp} {w : Bool} {x : Pool} {tBranch tNode : TypeId} {a1 : Option Addr} {F : List Nat} (k : (poolE w tBranch tNode).R h x [.int .i64 x.policy, .int .i64 x.minFree, .slice a1 x.branches.length x.branches.length, .bool x.move.on, .bool x.move.clean, .int .i64 x.move.src, .int .i64 x.move.dst, .string (S x.move.path), .int .i64 x.move.gen, .int .i64 x.move.done] F) : ∃ F1, slR w tBranch (branchE w tNode) h x.branches a1 F1 ∧ F = F1 := by
  obtain ⟨b1, F1, e, e2, k1⟩ := k
  simp at e
  obtain rfl := e
  exact ⟨F1, k1, e2⟩

theorem szPool_c (x : Pool) (a1 : Option Addr) (F1 : List Nat) (w : Bool) (tBranch tNode : TypeId) (left : Int) (h : Hp) (k1 : slR w tBranch (branchE w tNode) h x.branches a1 F1) (h1 : 0 ≤ left) (h2 : left ≤ 1048576) (hb : x.bd) :
    ACall Tryz.prog 18 [.agg #[.int .i64 x.policy, .int .i64 x.minFree, .slice a1 x.branches.length x.branches.length, .bool x.move.on, .bool x.move.clean, .int .i64 x.move.src, .int .i64 x.move.dst, .string (S x.move.path), .int .i64 x.move.gen, .int .i64 x.move.done], .int .i64 left] h fun r h' => (∃ t, h' = h ++ t) ∧ ∃ n : Int, r = .int .i64 n ∧ n ≤ left ∧ (0 ≤ n → x.nl + n = left) := by
  refine acall mixed Tryz.func18 rfl (by kernel_rfl) ?_
  have h4 : maxLen = 9223372036854775807 := by decide
  have hnl : x.nl = x.branches.length + sumL Branch.nl x.branches + x.move.nl := rfl
  simp [Tryz.f18]
  refine callK0 (szBranchS_c x.branches a1 F1 w _ tNode left _ (k1.ext (Ext.push h _)) h1 h2 hb.1 hb.2.1) ?_
  rintro _ _ ⟨⟨t1, rfl⟩, n1, rfl, hn1, he1⟩
  simp
  refine asplitK_intro (fun hc1 => ?_) (fun hc1 => ?_) <;> simp at hc1 <;> simp [hc1]
  · omega
  refine callK0 (szMove_c x.move w n1 _ hc1 (by omega) hb.2.2) ?_
  rintro _ _ ⟨⟨t2, rfl⟩, n2, rfl, hn2, he2⟩
  simp
  refine asplitK_intro (fun hc2 => ?_) (fun hc2 => ?_) <;> simp at hc2 <;> simp [hc2]
  · omega
  omega

theorem toPool_c (x : Pool) (a1 : Option Addr) (F1 : List Nat) (w : Bool) (tBranch tNode : TypeId) (h : Hp) (k1 : slR w tBranch (branchE w tNode) h x.branches a1 F1) (hl : x.lim) :
    ACall Tryz.prog 20 [.agg #[.int .i64 x.policy, .int .i64 x.minFree, .slice a1 x.branches.length x.branches.length, .bool x.move.on, .bool x.move.clean, .int .i64 x.move.src, .int .i64 x.move.dst, .string (S x.move.path), .int .i64 x.move.gen, .int .i64 x.move.done]] h fun r h' => ∃ b1 G1, r = .agg #[.int .i64 x.policy, .int .i64 x.minFree, .slice b1 x.branches.length x.branches.length, .bool x.move.on, .bool x.move.clean, .int .i64 x.move.src, .int .i64 x.move.dst, .string (S x.move.path), .int .i64 x.move.gen, .int .i64 x.move.done] ∧ OwnE h (poolE true 84 101) h' x [.int .i64 x.policy, .int .i64 x.minFree, .slice b1 x.branches.length x.branches.length, .bool x.move.on, .bool x.move.clean, .int .i64 x.move.src, .int .i64 x.move.dst, .string (S x.move.path), .int .i64 x.move.gen, .int .i64 x.move.done] (G1) := by
  refine acall mixed Tryz.func20 rfl (by kernel_rfl) ?_
  simp [Tryz.f20]
  refine callK0 (toBranchS_c x.branches a1 F1 w _ tNode _ (k1.ext (Ext.push h _)) hl.1 hl.2) ?_
  rintro _ _ ⟨b1, G1, rfl, o1⟩
  obtain ⟨u1, rfl⟩ := o1.ext.pre
  simp
  refine callK0 (toMove_c x.move _) ?_
  rintro _ _ ⟨⟨v1, rfl⟩, rfl⟩
  simp [Move.v]
  have s1 := o1.sl
  have n1 : ∀ q ∈ G1, h.length + 3 ≤ q := fun q hq => by have := o1.new q hq; simp at this; omega
  simp at s1
  exact ⟨G1, Ext.push _ _, ⟨b1, G1, rfl, rfl, slR.late (l := [_, _, _]) (l' := [_, _, _]) s1 n1 rfl⟩, o1.nd, fun q hq => by have := n1 q hq; omega⟩

theorem eqPool_c (x y : Pool) (a1 b1 : Option Addr) (F1 G1 : List Nat) (w w' : Bool) (tBranch tBranch' tNode tNode' : TypeId) (h : Hp) (k1 : slR w tBranch (branchE w tNode) h x.branches a1 F1) (l1 : slR w' tBranch' (branchE w' tNode') h y.branches b1 G1) (hl : x.lim) :
    ACall Tryz.prog 22 [.agg #[.int .i64 x.policy, .int .i64 x.minFree, .slice a1 x.branches.length x.branches.length, .bool x.move.on, .bool x.move.clean, .int .i64 x.move.src, .int .i64 x.move.dst, .string (S x.move.path), .int .i64 x.move.gen, .int .i64 x.move.done], .agg #[.int .i64 y.policy, .int .i64 y.minFree, .slice b1 y.branches.length y.branches.length, .bool y.move.on, .bool y.move.clean, .int .i64 y.move.src, .int .i64 y.move.dst, .string (S y.move.path), .int .i64 y.move.gen, .int .i64 y.move.done]] h fun r h' => (∃ t, h' = h ++ t) ∧ r = .bool (decide (x = y)) := by
  refine acall mixed Tryz.func22 rfl (by kernel_rfl) ?_
  have he : (x = y) ↔ (x.policy = y.policy ∧ x.minFree = y.minFree ∧ x.branches = y.branches ∧ x.move = y.move) := by cases x; cases y; simp
  simp [Tryz.f22, he]
  refine asplitK_intro (fun hb => ?_) (fun hb => ?_) <;> simp at hb <;> simp [hb]
  refine asplitK_intro (fun hb => ?_) (fun hb => ?_) <;> simp at hb <;> simp [hb]
  refine callK0 (eqBranchS_c x.branches y.branches a1 b1 F1 G1 w w' _ _ tNode tNode' _ (k1.ext (Ext.push h _)) (l1.ext (Ext.push h _)) hl.1 hl.2) ?_
  rintro _ _ ⟨⟨t1, rfl⟩, rfl⟩
  simp
  refine asplitK_intro (fun hb => ?_) (fun hb => ?_) <;> simp at hb <;> simp [hb]
  refine callK0 (eqMove_c x.move y.move _) ?_
  rintro _ _ ⟨⟨t2, rfl⟩, rfl⟩
  simp
  refine asplitK_intro (fun hb => ?_) (fun hb => ?_) <;> simp at hb <;> simp [hb]
end Go.Proofs.YtgfilbekfkhjjaaGreat.Hz
/- What parameters that hold slices open to. -/
namespace Go.Proofs.YtgfilbekfkhjjaaGreat.Hz
open Go.RowKit
set_option linter.unusedVariables false
set_option linter.unusedSimpArgs false
set_option maxRecDepth 20000

theorem opn_node : Opn Tryz.prog 98 (nodeE false) Node.bd := by
  intro H enc W φ h fuel cs x R hx
  obtain ⟨hl, n, hf⟩ := trod_fields (l := [(3, 0), (3, 1), (3, 2), (3, 3), (57, 4)]) (by kernel_rfl) hx
  have hc : Tryz.prog.cellsOf 98 = 5 := by kernel_rfl
  have z0 : Tryz.prog.cellsOf 3 = 1 := by kernel_rfl
  have z1 : Tryz.prog.cellsOf 57 = 1 := by kernel_rfl
  obtain ⟨y0, hh0⟩ := hf 0 _ rfl
  obtain ⟨y1, hh1⟩ := hf 1 _ rfl
  obtain ⟨y2, hh2⟩ := hf 2 _ rfl
  obtain ⟨y3, hh3⟩ := hf 3 _ rfl
  obtain ⟨y4, hh4⟩ := hf 4 _ rfl
  simp only [z0, z1] at hh0 hh1 hh2 hh3 hh4
  obtain ⟨φ0, H0, ac0, d0, G0, p0, q0, R0, r0, e0, o0⟩ := (opn_int u_int) R hh0
  obtain ⟨φ1, H1, ac1, d1, G1, p1, q1, R1, r1, e1, o1⟩ := (opn_int u_int) R0 hh1
  obtain ⟨φ2, H2, ac2, d2, G2, p2, q2, R2, r2, e2, o2⟩ := (opn_int u_int) R1 hh2
  obtain ⟨φ3, H3, ac3, d3, G3, p3, q3, R3, r3, e3, o3⟩ := (opn_int u_int) R2 hh3
  obtain ⟨φ4, H4, ac4, d4, G4, p4, q4, R4, r4, e4, o4⟩ := (opn_slice (opn_int u_int) (by kernel_rfl) (by kernel_rfl) (by kernel_rfl) (by decide)) R3 hh4
  obtain ⟨rfl, rfl⟩ := e0
  obtain ⟨rfl, rfl⟩ := e1
  obtain ⟨rfl, rfl⟩ := e2
  obtain ⟨rfl, rfl⟩ := e3
  obtain ⟨a1, rfl, k1⟩ := e4
  have cut : cs = (cs.drop 0).take 1 ++ ((cs.drop 1).take 1 ++ ((cs.drop 2).take 1 ++ ((cs.drop 3).take 1 ++ ((cs.drop 4).take 1)))) := by
    match cs, hl.trans hc with
    | [v0, v1, v2, v3, v4], _ => rfl
  refine ⟨φ4, H4, _, ⟨d0, d1, d2, d3, d4⟩, G4, p0.trans (p1.trans (p2.trans (p3.trans (p4)))), q0.trans (q1.trans (q2.trans (q3.trans (q4)))), R4, ?_, (⟨_, _, rfl, rfl, k1⟩ : (nodeE false).R _ _ [.int .i64 d0, .int .i64 d1, .int .i64 d2, .int .i64 d3, .slice a1 d4.length d4.length] _), o4.1⟩
  rw [cut]
  exact All2.append (All2.mono (fun _ _ z => RelC.mono (p1.trans (p2.trans (p3.trans (p4)))) z) r0) (All2.append (All2.mono (fun _ _ z => RelC.mono (p2.trans (p3.trans (p4))) z) r1) (All2.append (All2.mono (fun _ _ z => RelC.mono (p3.trans (p4)) z) r2) (All2.append (All2.mono (fun _ _ z => RelC.mono (p4) z) r3) (r4))))
theorem opnV_node : OpnV Tryz.prog 98 (VS (nodeE false) Node.bd) := by
  obtain ⟨fs, h, _⟩ := fsOf_some (P := Tryz.prog) (t := 98) (l := [(3, 0), (3, 1), (3, 2), (3, 3), (57, 4)]) (by kernel_rfl)
  exact opnS opn_node h

theorem opn_fs : Opn Tryz.prog 25 (fsE false 98) Fs.bd := by
  intro H enc W φ h fuel cs x R hx
  obtain ⟨hl, n, hf⟩ := trod_fields (l := [(22, 0), (23, 1)]) (by kernel_rfl) hx
  have hc : Tryz.prog.cellsOf 25 = 2 := by kernel_rfl
  have z0 : Tryz.prog.cellsOf 22 = 1 := by kernel_rfl
  have z1 : Tryz.prog.cellsOf 23 = 1 := by kernel_rfl
  obtain ⟨y0, hh0⟩ := hf 0 _ rfl
  obtain ⟨y1, hh1⟩ := hf 1 _ rfl
  simp only [z0, z1] at hh0 hh1
  obtain ⟨φ0, H0, ac0, d0, G0, p0, q0, R0, r0, e0, o0⟩ := (opn_slice (opn_node) (by kernel_rfl) (by kernel_rfl) (by kernel_rfl) (by decide)) R hh0
  obtain ⟨φ1, H1, ac1, d1, G1, p1, q1, R1, r1, e1, o1⟩ := (opn_slice (opn_str u_str) (by kernel_rfl) (by kernel_rfl) (by kernel_rfl) (by decide)) R0 hh1
  obtain ⟨a1, rfl, k1⟩ := e0
  obtain ⟨a2, rfl, k2⟩ := e1
  have cut : cs = (cs.drop 0).take 1 ++ ((cs.drop 1).take 1) := by
    match cs, hl.trans hc with
    | [v0, v1], _ => rfl
  refine ⟨φ1, H1, _, ⟨d0, d1⟩, G0 ++ G1, p0.trans (p1), q0.trans (q1), R1, ?_, (⟨_, _, _, _, rfl, rfl, k1.pre q1, k2⟩ : (fsE false 98).R _ _ [.slice a1 d0.length d0.length, .slice a2 d1.length d1.length] _), ⟨o0.1, o0.2, o1.1, o1.2⟩⟩
  rw [cut]
  exact All2.append (All2.mono (fun _ _ z => RelC.mono (p1) z) r0) (r1)
theorem opnV_fs : OpnV Tryz.prog 25 (VS (fsE false 98) Fs.bd) := by
  obtain ⟨fs, h, _⟩ := fsOf_some (P := Tryz.prog) (t := 25) (l := [(22, 0), (23, 1)]) (by kernel_rfl)
  exact opnS opn_fs h

theorem opn_branch : Opn Tryz.prog 122 (branchE false 98) Branch.bd := by
  intro H enc W φ h fuel cs x R hx
  obtain ⟨hl, n, hf⟩ := trod_fields (l := [(3, 0), (25, 1)]) (by kernel_rfl) hx
  have hc : Tryz.prog.cellsOf 122 = 3 := by kernel_rfl
  have z0 : Tryz.prog.cellsOf 3 = 1 := by kernel_rfl
  have z1 : Tryz.prog.cellsOf 25 = 2 := by kernel_rfl
  obtain ⟨y0, hh0⟩ := hf 0 _ rfl
  obtain ⟨y1, hh1⟩ := hf 1 _ rfl
  simp only [z0, z1] at hh0 hh1
  obtain ⟨φ0, H0, ac0, d0, G0, p0, q0, R0, r0, e0, o0⟩ := (opn_int u_int) R hh0
  obtain ⟨φ1, H1, ac1, d1, G1, p1, q1, R1, r1, e1, o1⟩ := (opn_fs) R0 hh1
  obtain ⟨rfl, rfl⟩ := e0
  obtain ⟨a1, E1, a2, E2, rfl, rfl, k1, k2⟩ := e1
  have cut : cs = (cs.drop 0).take 1 ++ ((cs.drop 1).take 2) := by
    match cs, hl.trans hc with
    | [v0, v1, v2], _ => rfl
  refine ⟨φ1, H1, _, ⟨d0, d1⟩, E1 ++ E2, p0.trans (p1), q0.trans (q1), R1, ?_, (⟨_, _, _, _, rfl, rfl, k1, k2⟩ : (branchE false 98).R _ _ [.int .i64 d0, .slice a1 d1.nodes.length d1.nodes.length, .slice a2 d1.data.length d1.data.length] _), o1⟩
  rw [cut]
  exact All2.append (All2.mono (fun _ _ z => RelC.mono (p1) z) r0) (r1)
theorem opnV_branch : OpnV Tryz.prog 122 (VS (branchE false 98) Branch.bd) := by
  obtain ⟨fs, h, _⟩ := fsOf_some (P := Tryz.prog) (t := 122) (l := [(3, 0), (25, 1)]) (by kernel_rfl)
  exact opnS opn_branch h

theorem opn_move : Opn Tryz.prog 42 moveE Move.bd := by
  intro H enc W φ h fuel cs x R hx
  obtain ⟨hl, n, hf⟩ := trod_fields (l := [(4, 0), (4, 1), (3, 2), (3, 3), (9, 4), (3, 5), (3, 6)]) (by kernel_rfl) hx
  have hc : Tryz.prog.cellsOf 42 = 7 := by kernel_rfl
  have z0 : Tryz.prog.cellsOf 4 = 1 := by kernel_rfl
  have z1 : Tryz.prog.cellsOf 3 = 1 := by kernel_rfl
  have z2 : Tryz.prog.cellsOf 9 = 1 := by kernel_rfl
  obtain ⟨y0, hh0⟩ := hf 0 _ rfl
  obtain ⟨y1, hh1⟩ := hf 1 _ rfl
  obtain ⟨y2, hh2⟩ := hf 2 _ rfl
  obtain ⟨y3, hh3⟩ := hf 3 _ rfl
  obtain ⟨y4, hh4⟩ := hf 4 _ rfl
  obtain ⟨y5, hh5⟩ := hf 5 _ rfl
  obtain ⟨y6, hh6⟩ := hf 6 _ rfl
  simp only [z0, z1, z2] at hh0 hh1 hh2 hh3 hh4 hh5 hh6
  obtain ⟨φ0, H0, ac0, d0, G0, p0, q0, R0, r0, e0, o0⟩ := (opn_bool u_bool) R hh0
  obtain ⟨φ1, H1, ac1, d1, G1, p1, q1, R1, r1, e1, o1⟩ := (opn_bool u_bool) R0 hh1
  obtain ⟨φ2, H2, ac2, d2, G2, p2, q2, R2, r2, e2, o2⟩ := (opn_int u_int) R1 hh2
  obtain ⟨φ3, H3, ac3, d3, G3, p3, q3, R3, r3, e3, o3⟩ := (opn_int u_int) R2 hh3
  obtain ⟨φ4, H4, ac4, d4, G4, p4, q4, R4, r4, e4, o4⟩ := (opn_str u_str) R3 hh4
  obtain ⟨φ5, H5, ac5, d5, G5, p5, q5, R5, r5, e5, o5⟩ := (opn_int u_int) R4 hh5
  obtain ⟨φ6, H6, ac6, d6, G6, p6, q6, R6, r6, e6, o6⟩ := (opn_int u_int) R5 hh6
  obtain ⟨rfl, rfl⟩ := e0
  obtain ⟨rfl, rfl⟩ := e1
  obtain ⟨rfl, rfl⟩ := e2
  obtain ⟨rfl, rfl⟩ := e3
  obtain ⟨rfl, rfl⟩ := e4
  obtain ⟨rfl, rfl⟩ := e5
  obtain ⟨rfl, rfl⟩ := e6
  have cut : cs = (cs.drop 0).take 1 ++ ((cs.drop 1).take 1 ++ ((cs.drop 2).take 1 ++ ((cs.drop 3).take 1 ++ ((cs.drop 4).take 1 ++ ((cs.drop 5).take 1 ++ ((cs.drop 6).take 1)))))) := by
    match cs, hl.trans hc with
    | [v0, v1, v2, v3, v4, v5, v6], _ => rfl
  refine ⟨φ6, H6, _, ⟨d0, d1, d2, d3, d4, d5, d6⟩, [], p0.trans (p1.trans (p2.trans (p3.trans (p4.trans (p5.trans (p6)))))), q0.trans (q1.trans (q2.trans (q3.trans (q4.trans (q5.trans (q6)))))), R6, ?_, (⟨rfl, rfl⟩ : moveE.R _ _ [.bool d0, .bool d1, .int .i64 d2, .int .i64 d3, .string (S d4), .int .i64 d5, .int .i64 d6] _), o4⟩
  rw [cut]
  exact All2.append (All2.mono (fun _ _ z => RelC.mono (p1.trans (p2.trans (p3.trans (p4.trans (p5.trans (p6)))))) z) r0) (All2.append (All2.mono (fun _ _ z => RelC.mono (p2.trans (p3.trans (p4.trans (p5.trans (p6))))) z) r1) (All2.append (All2.mono (fun _ _ z => RelC.mono (p3.trans (p4.trans (p5.trans (p6)))) z) r2) (All2.append (All2.mono (fun _ _ z => RelC.mono (p4.trans (p5.trans (p6))) z) r3) (All2.append (All2.mono (fun _ _ z => RelC.mono (p5.trans (p6)) z) r4) (All2.append (All2.mono (fun _ _ z => RelC.mono (p6) z) r5) (r6))))))
theorem opnV_move : OpnV Tryz.prog 42 (VS moveE Move.bd) := by
  obtain ⟨fs, h, _⟩ := fsOf_some (P := Tryz.prog) (t := 42) (l := [(4, 0), (4, 1), (3, 2), (3, 3), (9, 4), (3, 5), (3, 6)]) (by kernel_rfl)
  exact opnS opn_move h

theorem opn_pool : Opn Tryz.prog 44 (poolE false 122 98) Pool.bd := by
  intro H enc W φ h fuel cs x R hx
  obtain ⟨hl, n, hf⟩ := trod_fields (l := [(3, 0), (3, 1), (40, 2), (42, 3)]) (by kernel_rfl) hx
  have hc : Tryz.prog.cellsOf 44 = 10 := by kernel_rfl
  have z0 : Tryz.prog.cellsOf 3 = 1 := by kernel_rfl
  have z1 : Tryz.prog.cellsOf 40 = 1 := by kernel_rfl
  have z2 : Tryz.prog.cellsOf 42 = 7 := by kernel_rfl
  obtain ⟨y0, hh0⟩ := hf 0 _ rfl
  obtain ⟨y1, hh1⟩ := hf 1 _ rfl
  obtain ⟨y2, hh2⟩ := hf 2 _ rfl
  obtain ⟨y3, hh3⟩ := hf 3 _ rfl
  simp only [z0, z1, z2] at hh0 hh1 hh2 hh3
  obtain ⟨φ0, H0, ac0, d0, G0, p0, q0, R0, r0, e0, o0⟩ := (opn_int u_int) R hh0
  obtain ⟨φ1, H1, ac1, d1, G1, p1, q1, R1, r1, e1, o1⟩ := (opn_int u_int) R0 hh1
  obtain ⟨φ2, H2, ac2, d2, G2, p2, q2, R2, r2, e2, o2⟩ := (opn_slice (opn_branch) (by kernel_rfl) (by kernel_rfl) (by kernel_rfl) (by decide)) R1 hh2
  obtain ⟨φ3, H3, ac3, d3, G3, p3, q3, R3, r3, e3, o3⟩ := (opn_move) R2 hh3
  obtain ⟨rfl, rfl⟩ := e0
  obtain ⟨rfl, rfl⟩ := e1
  obtain ⟨a1, rfl, k1⟩ := e2
  obtain ⟨rfl, rfl⟩ := e3
  have cut : cs = (cs.drop 0).take 1 ++ ((cs.drop 1).take 1 ++ ((cs.drop 2).take 1 ++ ((cs.drop 3).take 7))) := by
    match cs, hl.trans hc with
    | [v0, v1, v2, v3, v4, v5, v6, v7, v8, v9], _ => rfl
  refine ⟨φ3, H3, _, ⟨d0, d1, d2, d3⟩, G2, p0.trans (p1.trans (p2.trans (p3))), q0.trans (q1.trans (q2.trans (q3))), R3, ?_, (⟨_, _, rfl, rfl, k1.pre q3⟩ : (poolE false 122 98).R _ _ [.int .i64 d0, .int .i64 d1, .slice a1 d2.length d2.length, .bool d3.on, .bool d3.clean, .int .i64 d3.src, .int .i64 d3.dst, .string (S d3.path), .int .i64 d3.gen, .int .i64 d3.done] _), ⟨o2.1, o2.2, o3⟩⟩
  rw [cut]
  exact All2.append (All2.mono (fun _ _ z => RelC.mono (p1.trans (p2.trans (p3))) z) r0) (All2.append (All2.mono (fun _ _ z => RelC.mono (p2.trans (p3)) z) r1) (All2.append (All2.mono (fun _ _ z => RelC.mono (p3) z) r2) (r3)))
theorem opnV_pool : OpnV Tryz.prog 44 (VS (poolE false 122 98) Pool.bd) := by
  obtain ⟨fs, h, _⟩ := fsOf_some (P := Tryz.prog) (t := 44) (l := [(3, 0), (3, 1), (40, 2), (42, 3)]) (by kernel_rfl)
  exact opnS opn_pool h
end Go.Proofs.YtgfilbekfkhjjaaGreat.Hz
