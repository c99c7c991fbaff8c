/- Texts of the calculus and of the program's functions, merged: MG FO TS TG NW0 TO TP. -/
import Derived.Test.YtoknpbmcpaaalaaHyGF
import Derived.Test.YtoknpbmcpaaalaaHyGE
import Derived.Test.YtoknpbmcpaaalaaHyGC
import Derived.Test.YtoknpbmcpaaalaaHyGD
/- The laws' marks on nodes and images of file systems: the walks. -/
namespace Go.Proofs.Ytoknpbmcpaaalaa.Hz
open Go.RowKit
set_option linter.unusedVariables false
set_option linter.unusedSimpArgs false
set_option maxRecDepth 20000

theorem Own.nodeField' {h0 h : Hp} {e : TypeId} {xs : List Node} {F : List Nat} {o off : Nat} (k : Own h0 e (nodeE true) h xs (some ⟨o, off, none⟩) F) {i : Nat} {x : Node} (hx : xs[i]? = some x) (j : Nat) (v : Int) (x' : Node) (hj : j < 4) (hb : x'.blocks = x.blocks)
    (hs : ∀ sl : Value, setL [.int .i64 x.kind, .int .i64 x.gen, .int .i64 x.time, .int .i64 x.size, sl] j [.int .i64 v] = [.int .i64 x'.kind, .int .i64 x'.gen, .int .i64 x'.time, .int .i64 x'.size, sl]) :
    canSet h o (off + i * 5 + j) 1 = true ∧ Own h0 e (nodeE true) (setsAt h o (off + i * 5 + j) [.int .i64 v]) (xs.set i x') (some ⟨o, off, none⟩) F := by
  obtain ⟨c, Fi, ⟨a1, F1, rfl, rfl, sl⟩, _, _, _, _, hput⟩ := k.row hx
  exact hput j [.int .i64 v] x' (by show j + 1 ≤ 5; omega) ⟨a1, _, by rw [hs, hb], rfl, by rw [hb]; exact sl⟩
theorem Own.memF {α : Type} {A : Enc α} {h0 h : Hp} {e : TypeId} {xs : List α} {F : List Nat} {o off : Nat} (k : Own h0 e A h xs (some ⟨o, off, none⟩) F) : o ∈ F := by
  obtain ⟨_, ob, css, Fs, pre, post, g1, g2, g3, g4, rfl, _⟩ := k.sl
  exact List.mem_cons_self
set_option maxHeartbeats 2000000 in
theorem markNodeS_c (es : List Node) (k : Nat) (a : Option Addr) (F : List Nat) (h : Hp) (own : Own [] 109 (nodeE true) h es a F) (hk : k + 4 * es.length + sumL Node.nl es ≤ 1073741824) :
    ACall Try.prog 98 [.slice a es.length es.length, .int .i64 k] h fun r h' => r = .int .i64 (kAt es k es.length : Nat) ∧ Own [] 109 (nodeE true) h' (mkNodes es k) a F ∧ (∀ q, q < h.length → q ∉ F → h'[q]? = h[q]?) ∧ h.length ≤ h'.length := by
  refine acall mixed Try.func98 rfl (by kernel_rfl) ?_
  have hml := mkNodes_len es k
  have hk0 : kAt es k 0 = k := by simp [kAt, sumL]
  simp [Try.f98]
  refine aloop mixed [0, 1, 5] (fun (x : Nat × Hp) => [.slice a es.length es.length, .int .i64 (kAt es k x.1 : Nat), .int .i64 x.1]) (fun x => x.2) (fun x => x.1 ≤ es.length ∧ Own [] 109 (nodeE true) x.2 ((mkNodes es k).take x.1 ++ es.drop x.1) a F ∧ (∀ q, q < h.length → q ∉ F → x.2[q]? = h[q]?) ∧ h.length ≤ x.2.length) (fun x => es.length - x.1) (0, h) ⟨by simp, by simpa using own, fun q _ _ => rfl, Nat.le_refl _⟩ (by simp [pickF, hk0]) rfl ?_
  rintro ⟨j, H⟩ ⟨hj, oj, keep, hlen⟩
  simp only at hj oj keep hlen
  simp [mkF]
  refine asplitK_intro (fun hb => ?_) (fun hb => ?_) <;> simp at hb <;> simp [hb]
  · have hjl : j < ((mkNodes es k).take j ++ es.drop j).length := by simp [hml]; omega
    have hjm : j < (mkNodes es k).length := by omega
    obtain ⟨o, off, b0, G0, rfl, -, -, -, -, -, -, -⟩ := nodeAt oj.sl hjl
    have hLj : ((mkNodes es k).take j ++ es.drop j)[j]? = some es[j] := by
      rw [List.getElem?_append_right (by simp; omega)]
      have e1 : j - ((mkNodes es k).take j).length = 0 := by simp; omega
      rw [e1, List.getElem?_drop]
      simp [hb]
    have hg := mkNodes_get es k j hjm hb
    have hkn := kAt_le es k (j + 1)
    have hks := kAt_succ es k j hb
    have hbl : es[j].blocks.length ≤ sumL Node.nl es := sumL_mem Node.nl (List.getElem_mem hb)
    obtain ⟨K, hK⟩ : ∃ K, K = kAt es k j := ⟨_, rfl⟩
    rw [← hK] at hg hks
    rw [← hK]
    have hKb : K + 4 + es[j].blocks.length ≤ 1073741824 := by omega
    obtain ⟨hc1, o1⟩ := oj.nodeField' hLj 0 (K : Int) ⟨(K : Int), es[j].gen, es[j].time, es[j].size, es[j].blocks⟩ (by omega) rfl (fun sl => rfl)
    have hm1 : ∀ (x : Node), (((mkNodes es k).take j ++ es.drop j).set j x)[j]? = some x := fun x => by rw [List.getElem?_set_self hjl]
    obtain ⟨hc2, o2⟩ := o1.nodeField' (hm1 _) 1 ((K : Int) + 1) ⟨(K : Int), (K : Int) + 1, es[j].time, es[j].size, es[j].blocks⟩ (by omega) rfl (fun sl => rfl)
    rw [List.set_set] at o2
    obtain ⟨hc3, o3⟩ := o2.nodeField' (hm1 _) 2 ((K : Int) + 2) ⟨(K : Int), (K : Int) + 1, (K : Int) + 2, es[j].size, es[j].blocks⟩ (by omega) rfl (fun sl => rfl)
    rw [List.set_set] at o3
    obtain ⟨hc4, o4⟩ := o3.nodeField' (hm1 _) 3 ((K : Int) + 3) ⟨(K : Int), (K : Int) + 1, (K : Int) + 2, (K : Int) + 3, es[j].blocks⟩ (by omega) rfl (fun sl => rfl)
    rw [List.set_set] at o4
    obtain ⟨c, Fi, ⟨b1, G1, rfl, rfl, sl⟩, hFn, hFs, hcell, hin, _⟩ := o4.row (hm1 _)
    have hcs := hcell 4 (by show 4 < 5; omega)
    simp at hcs hc1 hc2 hc3 hc4
    have w1 : IntKind.i64.wrap ((K : Int) + 1) = (K : Int) + 1 := wrap_in (by omega) (by omega)
    have w2 : IntKind.i64.wrap ((K : Int) + 1 + 1) = (K : Int) + 2 := by rw [wrap_in (by omega) (by omega)]; omega
    have w3 : IntKind.i64.wrap ((K : Int) + 2 + 1) = (K : Int) + 3 := by rw [wrap_in (by omega) (by omega)]; omega
    have w4 : IntKind.i64.wrap ((K : Int) + 3 + 1) = ((K + 4 : Nat) : Int) := by rw [wrap_in (by omega) (by omega)]; omega
    have hn5 : (nodeE true).n = 5 := rfl
    simp only [hn5] at hcs
    simp [hb, hc1, w1, hc2, w2, hc3, w3, hc4, w4, hcs]
    simp only [Nat.add_zero] at o4 sl hin
    have keep4 : ∀ (v1 v2 v3 v4 : Value) (q : Nat), q < h.length → q ∉ F → (setsAt (setsAt (setsAt (setsAt H o (off + j * 5) [v1]) o (off + j * 5 + 1) [v2]) o (off + j * 5 + 2) [v3]) o (off + j * 5 + 3) [v4])[q]? = h[q]? := fun v1 v2 v3 v4 q hq hm => by
      have hqo : ¬ (o = q) := fun e => hm (e ▸ oj.memF)
      rw [setsAt_get, if_neg hqo, setsAt_get, if_neg hqo, setsAt_get, if_neg hqo, setsAt_get, if_neg hqo]
      exact keep q hq hm
    have len4 : ∀ (v1 v2 v3 v4 : Value), (setsAt (setsAt (setsAt (setsAt H o (off + j * 5) [v1]) o (off + j * 5 + 1) [v2]) o (off + j * 5 + 2) [v3]) o (off + j * 5 + 3) [v4]).length = H.length := fun v1 v2 v3 v4 => by
      rw [setsAt_len, setsAt_len, setsAt_len, setsAt_len]
    have hl4 := len4 (.int .i64 K) (.int .i64 ((K : Int) + 1)) (.int .i64 ((K : Int) + 2)) (.int .i64 ((K : Int) + 3))
    have hk4 := keep4 (.int .i64 K) (.int .i64 ((K : Int) + 1)) (.int .i64 ((K : Int) + 2)) (.int .i64 ((K : Int) + 3))
    generalize setsAt (setsAt (setsAt (setsAt H o (off + j * 5) [.int .i64 K]) o (off + j * 5 + 1) [.int .i64 ((K : Int) + 1)]) o (off + j * 5 + 2) [.int .i64 ((K : Int) + 2)]) o (off + j * 5 + 3) [.int .i64 ((K : Int) + 3)] = H4 at o4 sl hin hl4 hk4 ⊢
    have hmi := markIntS_c es[j].blocks (K + 4) b1 Fi H4 (Own.any sl hFn) (by omega)
    simp only [Int.natCast_add, Int.cast_ofNat_Int] at hmi
    refine callK0 hmi ?_
    rintro _ H5 ⟨rfl, omi, keep5, len5⟩
    have o5 := hin H5 (mkNode es[j] K) ⟨Nat.zero_le _, fun _ hq => by simp at hq⟩ (fun q hq hn => keep5 q (o4.sl.lt q hq) hn) ⟨b1, _, by simp [mkNode, mkInts_len], rfl, omi.sl⟩
    rw [List.set_set, ← hg, take_drop_set hjm hml] at o5
    simp
    exact anext (j + 1, H5) ⟨hb, o5, fun q hq hm => (keep5 q (by omega) (fun hh => hm (hFs q hh).1)).trans (hk4 q hq hm), by simp only; omega⟩ (by simp only; omega) (by simp [pickF, hks, wrap_succ (show j < 9223372036854775807 by omega)]) rfl (by simp)
  · obtain rfl : j = es.length := by omega
    rw [List.drop_length, List.append_nil, List.take_of_length_le (by omega)] at oj
    exact ⟨rfl, oj, keep, hlen⟩
set_option maxHeartbeats 2000000 in
theorem heldNodeS_c (es : List Node) (k : Nat) (a : Option Addr) (F : List Nat) (w : Bool) (t : TypeId) (h : Hp) (hr : slR w t (nodeE w) h (mkNodes es k) a F) (hk : k + 4 * es.length + sumL Node.nl es ≤ 1073741824) :
    ACall Try.prog 106 [.slice a es.length es.length, .int .i64 k] h fun r h' => (∃ t, h' = h ++ t) ∧ r = .int .i64 (kAt es k es.length : Nat) := by
  refine acall mixed Try.func106 rfl (by kernel_rfl) ?_
  have hml := mkNodes_len es k
  have hk0 : kAt es k 0 = k := by simp [kAt, sumL]
  simp [Try.f106]
  refine aloop mixed [0, 1, 5] (fun (x : Nat × Hp) => [.slice a es.length es.length, .int .i64 (kAt es k x.1 : Nat), .int .i64 x.1]) (fun x => h ++ x.2) (fun x => x.1 ≤ es.length) (fun x => es.length - x.1) (0, []) (by simp) (by simp [pickF, hk0]) (by simp) ?_
  rintro ⟨j, t⟩ hj
  simp only at hj
  simp [mkF]
  refine asplitK_intro (fun hb => ?_) (fun hb => ?_) <;> simp at hb <;> simp [hb]
  · have hjm : j < (mkNodes es k).length := by omega
    obtain ⟨o, off, b1, G1, rfl, c0, c1, c2, c3, c4, kb, -⟩ := nodeAt (hr.ext (Ext.push h t)) hjm
    have hg := mkNodes_get es k j hjm hb
    have hkn := kAt_le es k (j + 1)
    have hks := kAt_succ es k j hb
    obtain ⟨K, hK⟩ : ∃ K, K = kAt es k j := ⟨_, rfl⟩
    rw [← hK] at hg hks
    rw [hg] at c0 c1 c2 c3 c4 kb
    rw [← hK]
    have hKb : K + 4 + es[j].blocks.length ≤ 1073741824 := by omega
    have w1 : IntKind.i64.wrap ((K : Int) + 1) = (K : Int) + 1 := wrap_in (by omega) (by omega)
    have w2 : IntKind.i64.wrap ((K : Int) + 1 + 1) = (K : Int) + 2 := by rw [wrap_in (by omega) (by omega)]; omega
    have w3 : IntKind.i64.wrap ((K : Int) + 2 + 1) = (K : Int) + 3 := by rw [wrap_in (by omega) (by omega)]; omega
    have w4 : IntKind.i64.wrap ((K : Int) + 3 + 1) = (K : Int) + 4 := by rw [wrap_in (by omega) (by omega)]; omega
    simp [mkNode, mkInts_len] at c0 c1 c2 c3 c4
    have hpos : ¬ ((K : Int) + 4 + es[j].blocks.length < 0) := by omega
    simp [hb, c0, w1, c1, w2, c2, w3, c3, w4, c4]
    have hmi := heldIntS_c es[j].blocks.length (K + 4) b1 G1 w _ _ kb (by omega)
    simp only [Int.natCast_add, Int.cast_ofNat_Int] at hmi
    refine callK0 hmi ?_
    rintro _ _ ⟨⟨t2, rfl⟩, rfl⟩
    simp [hpos]
    exact anext (j + 1, t ++ t2) hb (by simp only; omega) (by simp [pickF, hks, wrap_succ (show j < 9223372036854775807 by omega)]) (by simp) (by simp)
  · obtain rfl : j = es.length := by omega
    rfl
def mkFs (f : Fs) (k : Nat) : Fs := ⟨mkNodes f.nodes k, mkStrs f.data.length (kAt f.nodes k f.nodes.length)⟩
def kFs (f : Fs) (k : Nat) : Nat := kAt f.nodes k f.nodes.length + f.data.length
theorem kFs_le (f : Fs) (hl : f.nl ≤ 1048576) : kAt f.nodes 1 f.nodes.length ≤ 10000000 ∧ kFs f 1 ≤ 20000000 ∧ 1 + 4 * f.nodes.length + sumL Node.nl f.nodes ≤ 10000000 ∧ f.data.length ≤ 1048576 := by
  have h1 := kAt_le f.nodes 1 f.nodes.length
  have e : f.nl = f.nodes.length + sumL Node.nl f.nodes + f.data.length + sumL List.length f.data := rfl
  unfold kFs
  omega
theorem markFs_c (f : Fs) (a1 a2 : Option Addr) (F1 F2 : List Nat) (h : Hp) (o1 : Own [] 109 (nodeE true) h f.nodes a1 F1) (o2 : Own [] 9 strE h f.data a2 F2) (dis : ∀ q ∈ F1, q ∉ F2) (hl : f.nl ≤ 1048576) :
    ACall Try.prog 38 [.agg #[.slice a1 f.nodes.length f.nodes.length, .slice a2 f.data.length f.data.length], .int .i64 1] h fun r h' => r = .int .i64 (kFs f 1 : Nat) ∧ Own [] 109 (nodeE true) h' (mkNodes f.nodes 1) a1 F1 ∧ Own [] 9 strE h' (mkStrs f.data.length (kAt f.nodes 1 f.nodes.length)) a2 F2 ∧ (∀ q, q < h.length → q ∉ F1 → q ∉ F2 → h'[q]? = h[q]?) ∧ h.length ≤ h'.length := by
  refine acall mixed Try.func38 rfl (by kernel_rfl) ?_
  obtain ⟨b1, b2, b3, b4⟩ := kFs_le f hl
  simp [Try.f38]
  have hm1 := markNodeS_c f.nodes 1 a1 F1 _ (o1.to (h' := h ++ [⟨true, true, 55, [.slice a1 f.nodes.length f.nodes.length, .slice a2 f.data.length f.data.length]⟩]) ⟨_, rfl⟩) (by omega)
  simp only [Int.cast_ofNat_Int, Int.natCast_one] at hm1
  refine callK0 hm1 ?_
  rintro _ H1 ⟨rfl, om1, keep1, len1⟩
  have hbx : h.length ∉ F1 := fun hm => Nat.lt_irrefl _ (o1.sl.lt _ hm)
  have hcell : cellAt H1 h.length 1 = some (.slice a2 f.data.length f.data.length) := by
    rw [cellAt_get (keep1 h.length (by simp) hbx)]
    simp
  simp at len1
  have o2' : Own [] 9 strE H1 f.data a2 F2 := Own.any (slR.frame (o2.sl.to (by simp)) (fun q hq => keep1 q (by have := o2.sl.lt q hq; simp; omega) (fun hm => dis q hm hq))) o2.nd
  simp [hcell]
  refine callK0 (markStringS_c f.data (kAt f.nodes 1 f.nodes.length) a2 F2 H1 o2' (by omega)) ?_
  rintro _ H2 ⟨rfl, om2, keep2, len2⟩
  simp
  refine ⟨by simp [kFs], Own.any (slR.frame om1.sl (fun q hq => keep2 q (om1.sl.lt q hq) (dis q hq))) om1.nd, om2, fun q hq hn1 hn2 => ?_, by omega⟩
  rw [keep2 q (by omega) hn2, keep1 q (by simp; omega) hn1, List.getElem?_append_left hq]
theorem heldFs_c (f : Fs) (a1 a2 : Option Addr) (F1 F2 : List Nat) (h : Hp) (o1 : slR true 109 (nodeE true) h (mkNodes f.nodes 1) a1 F1) (o2 : slR true 9 strE h (mkStrs f.data.length (kAt f.nodes 1 f.nodes.length)) a2 F2) (hl : f.nl ≤ 1048576) :
    ACall Try.prog 41 [.agg #[.slice a1 f.nodes.length f.nodes.length, .slice a2 f.data.length f.data.length], .int .i64 1] h fun r h' => (∃ t, h' = h ++ t) ∧ r = .int .i64 (kFs f 1 : Nat) := by
  refine acall mixed Try.func41 rfl (by kernel_rfl) ?_
  obtain ⟨b1, b2, b3, b4⟩ := kFs_le f hl
  simp [Try.f41]
  have hm1 := heldNodeS_c f.nodes 1 a1 F1 true _ _ (o1.to (h' := h ++ [⟨true, true, 55, [.slice a1 f.nodes.length f.nodes.length, .slice a2 f.data.length f.data.length]⟩]) ⟨_, rfl⟩) (by omega)
  simp only [Int.cast_ofNat_Int, Int.natCast_one] at hm1
  refine callK0 hm1 ?_
  rintro _ _ ⟨⟨t1, rfl⟩, rfl⟩
  have hp1 : ¬ (((kAt f.nodes 1 f.nodes.length : Nat) : Int) < 0) := by omega
  simp [hp1]
  refine callK0 (heldStringS_c f.data.length (kAt f.nodes 1 f.nodes.length) a2 F2 true _ _ (o2.to (by simp)) (by omega)) ?_
  rintro _ _ ⟨⟨t2, rfl⟩, rfl⟩
  have hp2 : ¬ (((kAt f.nodes 1 f.nodes.length : Nat) : Int) + f.data.length < 0) := by omega
  simp [hp2, kFs]
end Go.Proofs.Ytoknpbmcpaaalaa.Hz
/- A file system's image that is copied, turned and given back. -/
namespace Go.Proofs.Ytoknpbmcpaaalaa.Hz
open Go.RowKit
set_option linter.unusedVariables false
set_option linter.unusedSimpArgs false
set_option maxRecDepth 20000

structure FsOut (f0 : Fs) (a1 a2 : Option Addr) (h : Hp) (oi : Nat) (f : Fs) (an ad : Option Addr) (H : Hp) : Prop where
  ext : Ext h H
  box : H[h.length]? = some ⟨true, true, 55, [.slice a1 f0.nodes.length f0.nodes.length, .slice a2 f0.data.length f0.data.length]⟩
  res : ∃ x y, H[h.length + 1]? = some ⟨true, true, 55, [x, y]⟩
  out : H[oi]? = some ⟨true, true, 55, [.slice an f.nodes.length f.nodes.length, .slice ad f.data.length f.data.length]⟩
  oi2 : h.length + 2 ≤ oi
  own : ∃ Fn Fd, Own h 109 (nodeE true) H f.nodes an Fn ∧ Own h 9 strE H f.data ad Fd ∧ (∀ q ∈ Fn, h.length + 2 ≤ q ∧ q ≠ oi ∧ q ∉ Fd) ∧ ∀ q ∈ Fd, h.length + 2 ≤ q ∧ q ≠ oi

section
variable {f0 f : Fs} {a1 a2 an ad : Option Addr} {h H : Hp} {oi : Nat}
theorem FsOut.cells (k : FsOut f0 a1 a2 h oi f an ad H) :
    cellAt H oi 0 = some (.slice an f.nodes.length f.nodes.length) ∧ cellAt H oi 1 = some (.slice ad f.data.length f.data.length) ∧ cellAt H h.length 0 = some (.slice a1 f0.nodes.length f0.nodes.length) ∧ cellAt H h.length 1 = some (.slice a2 f0.data.length f0.data.length) := by
  refine ⟨?_, ?_, ?_, ?_⟩
  · rw [cellAt_of_get k.out rfl]; rfl
  · rw [cellAt_of_get k.out rfl]; rfl
  · rw [cellAt_of_get k.box rfl]; rfl
  · rw [cellAt_of_get k.box rfl]; rfl
theorem FsOut.grow (k : FsOut f0 a1 a2 h oi f an ad H) (t : Hp) : FsOut f0 a1 a2 h oi f an ad (H ++ t) := by
  obtain ⟨ext, box, res, out, oi2, Fn, Fd, own, dat, dn, dd⟩ := k
  have xx := Ext.push H t
  refine ⟨ext.trans xx, ?_, ?_, ?_, oi2, Fn, Fd, own.grow xx, dat.grow xx, dn, dd⟩
  · rw [xx.2 _ (get_lt box)]; exact box
  · obtain ⟨x, y, res⟩ := res; exact ⟨x, y, by rw [xx.2 _ (get_lt res)]; exact res⟩
  · rw [xx.2 _ (get_lt out)]; exact out
theorem FsOut.start {u : Hp} {F1 F2 : List Nat}
    (o1 : Own (h ++ [⟨true, true, 55, [.slice a1 f0.nodes.length f0.nodes.length, .slice a2 f0.data.length f0.data.length]⟩, ⟨true, true, 55, [.slice none 0 0, .slice none 0 0]⟩]) 109 (nodeE true) (h ++ ⟨true, true, 55, [.slice a1 f0.nodes.length f0.nodes.length, .slice a2 f0.data.length f0.data.length]⟩ :: ⟨true, true, 55, [.slice none 0 0, .slice none 0 0]⟩ :: u) f0.nodes an F1)
    (o2 : Own (h ++ [⟨true, true, 55, [.slice a1 f0.nodes.length f0.nodes.length, .slice a2 f0.data.length f0.data.length]⟩, ⟨true, true, 55, [.slice none 0 0, .slice none 0 0]⟩]) 9 strE (h ++ ⟨true, true, 55, [.slice a1 f0.nodes.length f0.nodes.length, .slice a2 f0.data.length f0.data.length]⟩ :: ⟨true, true, 55, [.slice none 0 0, .slice none 0 0]⟩ :: u) f0.data ad F2)
    (dis : ∀ q ∈ F1, q ∉ F2) :
    FsOut f0 a1 a2 h (h.length + (u.length + 1 + 1)) f0 an ad (h ++ ⟨true, true, 55, [.slice a1 f0.nodes.length f0.nodes.length, .slice a2 f0.data.length f0.data.length]⟩ :: ⟨true, true, 55, [.slice none 0 0, .slice none 0 0]⟩ :: (u ++ [⟨true, true, 55, [.slice an f0.nodes.length f0.nodes.length, .slice ad f0.data.length f0.data.length]⟩])) where
  ext := Ext.push _ _
  box := by simp
  res := ⟨.slice none 0 0, .slice none 0 0, by simp⟩
  out := by
    rw [List.getElem?_append_right (by omega)]
    simp
  oi2 := by omega
  own := by
    have e0 : Ext h (h ++ [⟨true, true, 55, [.slice a1 f0.nodes.length f0.nodes.length, .slice a2 f0.data.length f0.data.length]⟩, ⟨true, true, 55, [.slice none 0 0, .slice none 0 0]⟩]) := Ext.push _ _
    have p1 := (Own.of_new e0 o1).grow (Ext.push _ [⟨true, true, 55, [.slice an f0.nodes.length f0.nodes.length, .slice ad f0.data.length f0.data.length]⟩])
    have p2 := (Own.of_new e0 o2).grow (Ext.push _ [⟨true, true, 55, [.slice an f0.nodes.length f0.nodes.length, .slice ad f0.data.length f0.data.length]⟩])
    refine ⟨F1, F2, by simpa using p1, by simpa using p2, fun q hq => ?_, fun q hq => ?_⟩
    · have h1 := o1.new q hq
      have h2 := o1.sl.lt q hq
      simp at h1 h2
      exact ⟨by omega, by omega, dis q hq⟩
    · have h1 := o2.new q hq
      have h2 := o2.sl.lt q hq
      simp at h1 h2
      exact ⟨by omega, by omega⟩
theorem FsOut.done (k : FsOut f0 a1 a2 h oi f an ad H) (vs : List Value) (hvs : vs.length = 2) :
    canSet H (h.length + 1) 0 2 = true ∧ cellAt (setsAt H (h.length + 1) 0 vs) (h.length + 1) 0 = vs[0]? ∧ cellAt (setsAt H (h.length + 1) 0 vs) (h.length + 1) 1 = vs[1]? ∧
      ∃ G1 G2, Own h 109 (nodeE true) (setsAt H (h.length + 1) 0 vs) f.nodes an G1 ∧ Own h 9 strE (setsAt H (h.length + 1) 0 vs) f.data ad G2 ∧ ∀ q ∈ G1, q ∉ G2 := by
  obtain ⟨ext, box, ⟨x, y, res⟩, out, oi2, Fn, Fd, own, dat, dn, dd⟩ := k
  have hg : (setsAt H (h.length + 1) 0 vs)[h.length + 1]? = some ⟨true, true, 55, vs⟩ := by
    rw [setsAt_get, if_pos rfl, res]
    simp only [Option.map_some]
    rw [setL_all _ _ (by simpa using hvs)]
  have hne : ∀ q, h.length + 2 ≤ q → (setsAt H (h.length + 1) 0 vs)[q]? = H[q]? := fun q hq => by rw [setsAt_get, if_neg (by omega)]
  refine ⟨by simp [canSet, res], by rw [cellAt_of_get hg rfl], by rw [cellAt_of_get hg rfl], Fn, Fd, ⟨own.ext.set (by omega) 0 _, own.sl.frame fun q hq => hne q (dn q hq).1, own.nd, own.new⟩, ⟨dat.ext.set (by omega) 0 _, dat.sl.frame fun q hq => hne q (dd q hq).1, dat.nd, dat.new⟩, fun q hq => (dn q hq).2.2⟩
/-- A field of a node is turned. -/
theorem FsOut.field {o off : Nat} (k : FsOut f0 a1 a2 h oi f (some ⟨o, off, none⟩) ad H) {i : Nat} {x : Node} (hx : f.nodes[i]? = some x) (j : Nat) (v : Int) (x' : Node) (hj : j < 4) (hb : x'.blocks = x.blocks)
    (hs : ∀ sl : Value, setL [.int .i64 x.kind, .int .i64 x.gen, .int .i64 x.time, .int .i64 x.size, sl] j [.int .i64 v] = [.int .i64 x'.kind, .int .i64 x'.gen, .int .i64 x'.time, .int .i64 x'.size, sl]) :
    canSet H o (off + i * 5 + j) 1 = true ∧ FsOut f0 a1 a2 h oi ⟨f.nodes.set i x', f.data⟩ (some ⟨o, off, none⟩) ad (setsAt H o (off + i * 5 + j) [.int .i64 v]) := by
  obtain ⟨ext, box, ⟨y, z, res⟩, out, oi2, Fn, Fd, own, dat, dn, dd⟩ := k
  obtain ⟨hc, own'⟩ := own.nodeField' hx j v x' hj hb hs
  have ho := dn o own.memF
  have hne : ∀ q, q ≠ o → (setsAt H o (off + i * 5 + j) [.int .i64 v])[q]? = H[q]? := fun q hq => by rw [setsAt_get, if_neg (fun e => hq e.symm)]
  refine ⟨hc, ⟨own'.ext, by rw [hne _ (by omega)]; exact box, ⟨y, z, by rw [hne _ (by omega)]; exact res⟩, by rw [hne _ (Ne.symm ho.2.1), List.length_set]; exact out, oi2, Fn, Fd, own', ⟨own'.ext, dat.sl.frame fun q hq => hne q fun e => ho.2.2 (e ▸ hq), dat.nd, dat.new⟩, dn, dd⟩⟩
/-- A node is made empty. -/
theorem FsOut.clear {o off : Nat} (k : FsOut f0 a1 a2 h oi f (some ⟨o, off, none⟩) ad H) {i : Nat} (hi : i < f.nodes.length) :
    canSet H o (off + i * 5) 5 = true ∧ FsOut f0 a1 a2 h oi ⟨f.nodes.set i ⟨0, 0, 0, 0, []⟩, f.data⟩ (some ⟨o, off, none⟩) ad (setsAt H o (off + i * 5) [.int .i64 0, .int .i64 0, .int .i64 0, .int .i64 0, .slice none 0 0]) := by
  obtain ⟨ext, box, ⟨y, z, res⟩, out, oi2, Fn, Fd, own, dat, dn, dd⟩ := k
  obtain ⟨c, Fi, hR, hFi, _, hput⟩ := own.put (List.getElem?_eq_getElem hi)
  have hl : c.length = 5 := (nodeE true).len hR
  have hset : setL c 0 [.int .i64 0, .int .i64 0, .int .i64 0, .int .i64 0, .slice none 0 0] = [.int .i64 0, .int .i64 0, .int .i64 0, .int .i64 0, .slice none 0 0] := setL_all _ c (by rw [hl]; rfl)
  obtain ⟨hc, F', own', _, sub⟩ := hput 0 [.int .i64 0, .int .i64 0, .int .i64 0, .int .i64 0, .slice none 0 0] ⟨0, 0, 0, 0, []⟩ [] (by show 0 + 5 ≤ 5; omega) (by rw [hset]; exact ⟨none, [], rfl, rfl, rfl, rfl⟩) (by simp) List.nodup_nil (fun q hq => by cases hq)
  have hn5 : (nodeE true).n = 5 := rfl
  simp only [hn5, Nat.add_zero] at hc own'
  have ho := dn o own.memF
  have sub' : ∀ q ∈ F', q ∈ Fn := fun q hq => by simpa using sub q hq
  have hne : ∀ q, q ≠ o → (setsAt H o (off + i * 5) [.int .i64 0, .int .i64 0, .int .i64 0, .int .i64 0, .slice none 0 0])[q]? = H[q]? := fun q hq => by rw [setsAt_get, if_neg (fun e => hq e.symm)]
  refine ⟨hc, ⟨own'.ext, by rw [hne _ (by omega)]; exact box, ⟨y, z, by rw [hne _ (by omega)]; exact res⟩, by rw [hne _ (Ne.symm ho.2.1), List.length_set]; exact out, oi2, F', Fd, own', ⟨own'.ext, dat.sl.frame fun q hq => hne q fun e => ho.2.2 (e ▸ hq), dat.nd, dat.new⟩, fun q hq => dn q (sub' q hq), dd⟩⟩
/-- A block is turned. -/
theorem FsOut.put {o off : Nat} (k : FsOut f0 a1 a2 h oi f an (some ⟨o, off, none⟩) H) {b : Nat} (hb : b < f.data.length) (s : Str) :
    canSet H o (off + b) 1 = true ∧ FsOut f0 a1 a2 h oi ⟨f.nodes, f.data.set b s⟩ an (some ⟨o, off, none⟩) (setsAt H o (off + b) [.string (S s)]) := by
  obtain ⟨ext, box, ⟨y, z, res⟩, out, oi2, Fn, Fd, own, dat, dn, dd⟩ := k
  obtain ⟨c, Fi, ⟨rfl, rfl⟩, hFi, _, hput⟩ := dat.put (List.getElem?_eq_getElem hb)
  obtain ⟨hc, F', dat', _, sub⟩ := hput 0 [.string (S s)] s [] (by show 0 + 1 ≤ 1; omega) ⟨rfl, rfl⟩ (by simp) List.nodup_nil (fun q hq => by cases hq)
  have hn1 : (strE).n = 1 := rfl
  simp only [hn1, Nat.add_zero, Nat.mul_one] at hc dat'
  have ho : o ∈ Fd := dat.memF
  have ho2 := dd o ho
  have sub' : ∀ q ∈ F', q ∈ Fd := fun q hq => by simpa using sub q hq
  have hne : ∀ q, q ≠ o → (setsAt H o (off + b) [.string (S s)])[q]? = H[q]? := fun q hq => by rw [setsAt_get, if_neg (fun e => hq e.symm)]
  refine ⟨hc, ⟨dat'.ext, by rw [hne _ (by omega)]; exact box, ⟨y, z, by rw [hne _ (by omega)]; exact res⟩, by rw [hne _ (Ne.symm ho2.2), List.length_set]; exact out, oi2, Fn, F', ⟨dat'.ext, own.sl.frame fun q hq => hne q fun e => (dn q hq).2.2 (e ▸ ho), own.nd, own.new⟩, dat', fun q hq => ⟨(dn q hq).1, (dn q hq).2.1, fun hm => (dn q hq).2.2 (sub' q hm)⟩, fun q hq => dd q (sub' q hq)⟩⟩
end
theorem keepCell {G H : Hp} {F1 F2 : List Nat} (keep : ∀ q, q < G.length → q ∉ F1 → q ∉ F2 → H[q]? = G[q]?) {q i : Nat} {v : Value} (h1 : q ∉ F1) (h2 : q ∉ F2) (c : cellAt G q i = some v) : cellAt H q i = some v ∧ ∀ l, cellAt (H ++ l) q i = some v := by
  obtain ⟨ob, ho, _⟩ := cellAt_some c
  have hk := keep q (get_lt ho) h1 h2
  have e : cellAt H q i = some v := by rw [cellAt_get hk]; exact c
  rw [ho] at hk
  exact ⟨e, fun l => by rw [cellAt_ext (Ext.push H l) (get_lt hk)]; exact e⟩
end Go.Proofs.Ytoknpbmcpaaalaa.Hz
/- Trees: the laws' helpers; two trees compared, both programs. -/
namespace Go.Proofs.Ytoknpbmcpaaalaa.Hz
open Go.RowKit
set_option linter.unusedVariables false
set_option linter.unusedSimpArgs false
set_option maxRecDepth 20000

theorem itemEq {x y : Item} : x = y ↔ (x.path = y.path ∧ x.kind = y.kind ∧ x.data = y.data ∧ x.time = y.time) := by cases x; cases y; simp
section
variable (es : List Item) (a : Option Addr) (F : List Nat) (w : Bool) (t : TypeId) (h : Hp) (hr : slR w t itemE h es a F)
include hr
theorem szTree_c (left : Int) (h1 : 0 ≤ left) (h2 : left ≤ 1048576) (hl : es.length ≤ maxLen) (h3 : ∀ e ∈ es, e.path.length ≤ maxLen ∧ e.data.length ≤ maxLen) :
    ACall Try.prog 15 [.agg #[.slice a es.length es.length], .int .i64 left] h fun r h' => (∃ t, h' = h ++ t) ∧ ∃ n : Int, r = .int .i64 n ∧ n ≤ left ∧ (0 ≤ n → es.length + sumL Item.nl es + n = left) := by
  refine acall mixed Try.func15 rfl (by kernel_rfl) ?_
  simp [Try.f15]
  refine callK0 (szItemS_c es a F w t left _ (hr.ext (Ext.push h _)) h1 h2 hl h3) ?_
  rintro _ _ ⟨⟨t1, rfl⟩, n, rfl, hn, he⟩
  simp
  refine asplitK_intro (fun hb => ?_) (fun hb => ?_) <;> simp at hb <;> simp [hb]
  · omega
  · exact ⟨hn, he hb⟩
theorem toTree_c (hl : es.length ≤ 1048576) :
    ACall Try.prog 17 [.agg #[.slice a es.length es.length]] h fun r h' => ∃ a' F', r = .agg #[.slice a' es.length es.length] ∧ Own h 78 itemE h' es a' F' := by
  refine acall mixed Try.func17 rfl (by kernel_rfl) ?_
  simp [Try.f17]
  refine callK0 (toItemS_c es a F w t _ (hr.ext (Ext.push h _)) hl) ?_
  rintro _ H ⟨a', F', rfl, own⟩
  obtain ⟨t1, rfl⟩ := own.ext.pre
  simp
  exact ⟨F', own.locals [_, _, _] rfl⟩
end

section
variable (xs ys : List Item) (a b : Option Addr) (F G : List Nat) (w w' : Bool) (t t' : TypeId) (h : Hp) (hx : slR w t itemE h xs a F) (hy : slR w' t' itemE h ys b G) (hl : xs.length ≤ 1048576)
include hx hy hl
theorem eqTree_c : ACall Try.prog 19 [.agg #[.slice a xs.length xs.length], .agg #[.slice b ys.length ys.length]] h fun r h' => (∃ t, h' = h ++ t) ∧ r = .bool (decide (xs = ys)) := by
  refine acall mixed Try.func19 rfl (by kernel_rfl) ?_
  simp [Try.f19]
  refine callK0 (eqItemS_c xs ys a b F G w w' t t' _ (hx.ext (Ext.push h _)) (hy.ext (Ext.push h _)) hl) ?_
  rintro _ _ ⟨⟨t1, rfl⟩, rfl⟩
  simp
  refine asplitK_intro (fun hb => ?_) (fun hb => ?_) <;> simp at hb <;> simp [hb]
end

/-! ### The law -/
end Go.Proofs.Ytoknpbmcpaaalaa.Hz
/- Getting an item of a tree: both programs. -/
namespace Go.Proofs.Ytoknpbmcpaaalaa.Hz
open Go.RowKit
set_option linter.unusedVariables false
set_option linter.unusedSimpArgs false
set_option maxRecDepth 20000

/-- What is found: the item and whether. -/
def treeFind : List Item → Str → Item × Bool
  | [], _ => (⟨[], 0, [], 0⟩, false)
  | x :: xs, p => if x.path = p then (x, true) else treeFind xs p
def treeGet (xs : List Item) (p : Str) : Item × Bool := if p = [47] then (⟨[47], 2, [], 0⟩, true) else treeFind xs p
theorem treeFind_drop (xs : List Item) (p : Str) (k : Nat) (hk : k < xs.length) : treeFind (xs.drop k) p = if xs[k].path = p then (xs[k], true) else treeFind (xs.drop (k + 1)) p := by
  rw [List.drop_eq_getElem_cons hk]; rfl
theorem treeFind_findI (xs : List Item) (p : Str) : (findI (fun e => e.path == p) xs 0 = -1 ∧ treeFind xs p = (⟨[], 0, [], 0⟩, false)) ∨ ∃ j, ∃ hj : j < xs.length, findI (fun e => e.path == p) xs 0 = (j : Int) ∧ treeFind xs p = (xs[j], true) := by
  have key : ∀ (es : List Item) (i : Nat), (findI (fun e => e.path == p) es i = -1 ∧ treeFind es p = (⟨[], 0, [], 0⟩, false)) ∨ ∃ j, ∃ hj : j < es.length, findI (fun e => e.path == p) es i = ((i + j : Nat) : Int) ∧ treeFind es p = (es[j], true) := by
    intro es
    induction es with
    | nil => intro i; exact .inl ⟨rfl, rfl⟩
    | cons e es ih =>
      intro i
      by_cases hn : e.path = p
      · exact .inr ⟨0, by simp, by simp [findI, hn], by simp [treeFind, hn]⟩
      · rcases ih (i + 1) with ⟨h1, h2⟩ | ⟨j, hj, h1, h2⟩
        · exact .inl ⟨by simp [findI, hn, h1], by simp [treeFind, hn, h2]⟩
        · exact .inr ⟨j + 1, by simpa using hj, by simp [findI, hn, h1]; omega, by simp [treeFind, hn, h2]⟩
  simpa using key xs 0

theorem indexFuncItem_c (es : List Item) (a : Option Addr) (F : List Nat) (w : Bool) (t : TypeId) (h : Hp) (hr : slR w t itemE h es a F) (hl : es.length ≤ 1048576) (p : Item → Bool) (g : FuncId) (cap : Array Value)
    (hg : ∀ e ∈ es, ∀ t, ACall Try.prog g (e.v :: cap.toList) (h ++ t) fun r h' => (∃ t', h' = h ++ t ++ t') ∧ r = .bool (p e)) :
    ACall Try.prog 165 [.slice a es.length es.length, .func (.func g) #[] cap] h fun r h' => (∃ t, h' = h ++ t) ∧ r = .int .i64 (findI p es 0) := by
  refine acall mixed Try.func165 rfl (by kernel_rfl) ?_
  simp [Try.f165]
  refine aloop mixed [0, 1, 7, 8] (fun (x : Nat × Hp) => [.slice a es.length es.length, .func (.func g) #[] cap, .int .i64 es.length, .int .i64 x.1]) (fun x => h ++ x.2) (fun x => x.1 ≤ es.length ∧ findI p (es.drop x.1) x.1 = findI p es 0) (fun x => es.length - x.1) (0, []) ⟨by simp, by simp⟩ (by simp [pickF]) (by simp) ?_
  rintro ⟨k, t'⟩ ⟨hk, he⟩
  simp only at hk he
  simp [mkF]
  refine asplitK_intro (fun hb => ?_) (fun hb => ?_) <;> simp at hb <;> simp [hb]
  · obtain ⟨o, off, rfl, c0, c1, c2, c3⟩ := itemAt (hr.ext (Ext.push h t')) hb
    rw [findI_drop p es k hb] at he
    simp [hb, c0, c1, c2, c3]
    refine callK0 (hg es[k] (List.getElem_mem hb) t') ?_
    rintro _ _ ⟨⟨t2, rfl⟩, rfl⟩
    simp
    refine asplitK_intro (fun hc => ?_) (fun hc => ?_) <;> simp [hc] at he <;> simp [he]
    exact anext (k + 1, t' ++ t2) ⟨hb, he⟩ (by simp only; omega) (by simp [pickF, wrap_succ (show k < 9223372036854775807 by omega)]) (by simp) (by simp)
  · obtain rfl : k = es.length := by omega
    simpa [findI] using he
theorem itemAt1_c (e : Item) (name : Str) (o : Nat) (h : Hp) (ho : o < h.length) (hc : cellAt h o 0 = some (.string (S name))) :
    ACall Try.prog 166 [e.v, .pointer (some ⟨o, 0, none⟩)] h fun r h' => (∃ t', h' = h ++ t') ∧ r = .bool (e.path == name) := by
  refine acall mixed Try.func166 rfl (by kernel_rfl) ?_
  have hc2 : ∀ l, cellAt (h ++ l) o 0 = some (.string (S name)) := fun l => by rw [cellAt_ext (Ext.push h l) ho]; exact hc
  simp [Try.f166, Item.v, hc2]

section
variable (xs : List Item) (p : Str) (a : Option Addr) (F : List Nat) (w : Bool) (t : TypeId) (h : Hp) (hx : slR w t itemE h xs a F) (hl : xs.length ≤ 1048576)
include hx hl
theorem itemAt_c : ACall Try.prog 132 [.agg #[.slice a xs.length xs.length], .string (S p)] h fun r h' => (∃ t', h' = h ++ t') ∧ r = .int .i64 (findI (fun e => e.path == p) xs 0) := by
  refine acall mixed Try.func132 rfl (by kernel_rfl) ?_
  simp [Try.f132]
  refine callK0 (indexFuncItem_c xs a F w t _ (hx.ext (Ext.push _ _)) hl (fun e => e.path == p) _ _ fun e he t => ?_) ?_
  · refine (itemAt1_c e p (h.length + 1) _ (by simp) (by simp)).mono ?_
    simp
  · rintro _ _ ⟨⟨t2, rfl⟩, rfl⟩
    simp
theorem treeGet_spec_c : ACall Try.prog 64 [.agg #[.slice a xs.length xs.length], .string (S p)] h fun r h' => (∃ t', h' = h ++ t') ∧ r = .tuple #[(treeGet xs p).1.v, .bool (treeGet xs p).2] := by
  refine acall mixed Try.func64 rfl (by kernel_rfl) ?_
  simp [Try.f64]
  refine asplitK_intro (fun hb => ?_) (fun hb => ?_) <;> simp at hb <;> simp [hb, treeGet, Item.v]
  refine aloop mixed [1, 2, 4, 6] (fun (k : Nat) => [.string (S p), .pointer (some ⟨h.length, 0, none⟩), .pointer (some ⟨h.length + 1, 0, none⟩), .int .i64 k]) (fun _ => _) (fun k => k ≤ xs.length ∧ treeFind (xs.drop k) p = treeFind xs p) (fun k => xs.length - k) 0 ⟨by omega, by simp⟩ rfl rfl ?_
  rintro k ⟨hk, he⟩
  simp [mkF]
  refine asplitK_intro (fun hc => ?_) (fun hc => ?_) <;> simp at hc <;> simp [hc]
  · obtain ⟨o, off, rfl, c0, c1, c2, c3⟩ := itemAt (hx.ext (Ext.push h [⟨true, true, 29, [.slice a xs.length xs.length]⟩, ⟨true, true, 78, [.string (S []), .int .i64 0, .string (S []), .int .i64 0]⟩])) hc
    rw [treeFind_drop xs p k hc] at he
    simp [hc, c0]
    refine asplitK_intro (fun hd => ?_) (fun hd => ?_) <;> simp at hd <;> simp [hd] at he <;> simp [hd]
    · simp [hc, c0, c1, c2, c3, ← he, hd]
    exact anext (k + 1) ⟨hc, he⟩ (by omega) (by simp [pickF, wrap_succ (show k < 9223372036854775807 by omega)]) rfl (by simp)
  · obtain rfl : k = xs.length := by omega
    have h0 : treeFind xs p = (⟨[], 0, [], 0⟩, false) := by simpa [treeFind] using he.symm
    simp [h0]
theorem treeGet_impl_c : ACall Try.prog 68 [.agg #[.slice a xs.length xs.length], .string (S p)] h fun r h' => (∃ t', h' = h ++ t') ∧ r = .tuple #[(treeGet xs p).1.v, .bool (treeGet xs p).2] := by
  refine acall mixed Try.func68 rfl (by kernel_rfl) ?_
  simp [Try.f68]
  refine asplitK_intro (fun hb => ?_) (fun hb => ?_) <;> simp at hb <;> simp [hb, treeGet, Item.v]
  refine callK0 (itemAt_c xs p a F w t _ (hx.ext (Ext.push h _)) hl) ?_
  rintro _ _ ⟨⟨t1, rfl⟩, rfl⟩
  rcases treeFind_findI xs p with ⟨h1, h2⟩ | ⟨j, hj, h1, h2⟩
  · simp [h1, h2]
  · obtain ⟨o, off, rfl, c0, c1, c2, c3⟩ := itemAt (hx.ext (Ext.push h (⟨true, true, 29, [.slice a xs.length xs.length]⟩ :: ⟨true, true, 78, [.string (S []), .int .i64 0, .string (S []), .int .i64 0]⟩ :: t1))) hj
    have : ¬ (j : Int) < 0 := by omega
    simp [h1, h2, this, hj, c0, c1, c2, c3]
end

/-! ### The law -/
theorem eqItem_v (x y : Item) (h : Hp) : ACall Try.prog 134 [x.v, y.v] h fun r h' => (∃ t, h' = h ++ t) ∧ r = .bool (decide (x = y)) := eqItem_c x y h
end Go.Proofs.Ytoknpbmcpaaalaa.Hz
/- NodeMake and NodeDrop: both programs. -/
namespace Go.Proofs.Ytoknpbmcpaaalaa.Hz
open Go.RowKit
set_option linter.unusedVariables false
set_option linter.unusedSimpArgs false
set_option maxRecDepth 20000

def freeAt (f : Fs) : Int := findI (fun n => n.kind == 0) f.nodes 0
noncomputable def nodeMake (f : Fs) (kind : Int) : Fs × Int × Bool :=
  if shapeOk f && inR kind 1 3 && decide (0 ≤ freeAt f) then (⟨f.nodes.set (freeAt f).toNat { nodeAtI f (freeAt f) with kind := kind }, f.data⟩, freeAt f, true) else (f, -1, false)
theorem sumL_set {α : Type} (g : α → Nat) : ∀ (xs : List α) (i : Nat) (hi : i < xs.length) (x : α), sumL g (xs.set i x) + g xs[i] = sumL g xs + g x
  | y :: xs, 0, _, x => by simp [sumL]; omega
  | y :: xs, i + 1, hi, x => by
    have := sumL_set g xs i (by simpa using hi) x
    simp [sumL]
    omega
theorem nodes_set_nl (f : Fs) (i : Nat) (hi : i < f.nodes.length) (x' : Node) (hx : Node.nl x' = Node.nl f.nodes[i]) : Fs.nl ⟨f.nodes.set i x', f.data⟩ ≤ f.nl := by
  have h1 := sumL_set Node.nl f.nodes _ hi x'
  have h3 : (f.nodes.set i x').length = f.nodes.length := List.length_set
  simp only [Fs.nl]
  omega
theorem nodeMake_nl (f : Fs) (kind : Int) : (nodeMake f kind).1.nl ≤ f.nl := by
  unfold nodeMake
  split
  · by_cases hi : (freeAt f).toNat < f.nodes.length
    · exact nodes_set_nl f _ hi _ (by simp [nodeAtI, hi, Node.nl])
    · rw [List.set_eq_of_length_le (by omega)]
      exact Nat.le_refl _
  · exact Nat.le_refl _
/-- What a call gives that returns an image. -/
def FsRes (f : Fs) (h h' : Hp) (v : Value) : Prop := ∃ b1 G1 b2 G2, v = .agg #[.slice b1 f.nodes.length f.nodes.length, .slice b2 f.data.length f.data.length] ∧ Own h 109 (nodeE true) h' f.nodes b1 G1 ∧ Own h 9 strE h' f.data b2 G2 ∧ ∀ q ∈ G1, q ∉ G2
theorem isKind_c (k : Int) (h : Hp) : ACall Try.prog 130 [.int .i64 k] h fun r h' => r = .bool (inR k 1 3) ∧ h' = h := by
  refine acall mixed Try.func130 rfl (by kernel_rfl) ?_
  simp [Try.f130]
  refine callK0 (withinR k 1 3 _) ?_
  rintro _ _ ⟨rfl, rfl⟩
  simp
theorem FsOut.res_ {f0 f : Fs} {a1 a2 an ad : Option Addr} {h H : Hp} {oi : Nat} (k : FsOut f0 a1 a2 h oi f an ad H) (v0 v1 : Value) (e0 : v0 = .slice an f.nodes.length f.nodes.length) (e1 : v1 = .slice ad f.data.length f.data.length) : FsRes f h (setsAt H (h.length + 1) 0 [v0, v1]) (.agg #[.slice an f.nodes.length f.nodes.length, .slice ad f.data.length f.data.length]) := by
  obtain ⟨-, -, -, G1, G2, o1, o2, d⟩ := k.done [v0, v1] rfl
  exact ⟨an, G1, ad, G2, rfl, o1, o2, d⟩
end Go.Proofs.Ytoknpbmcpaaalaa.Hz
/- A tree that is right: both programs. -/
namespace Go.Proofs.Ytoknpbmcpaaalaa.Hz
open Go.RowKit
set_option linter.unusedVariables false
set_option linter.unusedSimpArgs false
set_option maxRecDepth 20000

theorem above_spec_c (p : Str) (h : Hp) (hl : p.length ≤ 1048576) :
    ACall Try.prog 65 [.string (S p)] h fun r h' => (∃ t, h' = h ++ t) ∧ r = .string (S (above p)) := by
  refine acall mixed Try.func65 rfl (by kernel_rfl) ?_
  simp [Try.f65]
  refine callK0 (names_spec_c p _ hl) ?_
  rintro _ _ ⟨a, F, rfl, own⟩
  obtain ⟨u, rfl⟩ := own.ext.pre
  simp
  refine callK0 (pathOk_spec_c p _ hl) ?_
  rintro _ _ ⟨⟨t0, rfl⟩, rfl⟩
  have hn := names_len p
  cases hok : pathOk p
  · simp [above, hok]
  simp
  refine asplitK_intro (fun hb => ?_) (fun hb => ?_) <;> (have hb' := hb; simp at hb; simp [hb, hb'])
  · have : pathOf [] = [47] := rfl
    simp [above, hok, hb, this]
  have ht := sum_names ((names p).take ((names p).length - 1)) fun x hx => names_mem (List.mem_of_mem_take hx)
  have htl : ((names p).take ((names p).length - 1)).length = (names p).length - 1 := by simp
  have hbd : ((names p).take ((names p).length - 1)).length + sumL List.length ((names p).take ((names p).length - 1)) ≤ 1048576 := by omega
  have hpos : 0 < (names p).length := List.length_pos_iff.2 hb
  have w1 : IntKind.i64.wrap ((names p).length - 1 : Int) = (((names p).length - 1 : Nat) : Int) := by rw [wrap_in (by omega) (by omega)]; omega
  obtain ⟨o, off, rfl, -⟩ := strEAt own.sl hpos
  have cut := (own.grow (Ext.push _ t0)).cut 0 ((names p).length - 1) (by omega) (by omega)
  simp only [List.drop_zero, Nat.zero_mul, Nat.add_zero] at cut
  have hpo := pathOf_spec_c _ _ _ true _ _ cut.sl hbd
  rw [htl] at hpo
  simp at hpo
  have hel := (own.grow (Ext.push _ t0)).sl.el
  simp at hel
  have hle : (((names p).length - 1 : Nat) : Int) ≤ (names p).length := by omega
  simp [w1, asl2_j, hel, hle]
  refine callK0 (hpo.cap (by omega)) ?_
  rintro _ _ ⟨⟨t1, rfl⟩, rfl⟩
  simp [above, hok]
def itemOk (x : Item) : Bool := pathOk x.path && !(x.path == [47]) && inR x.kind 1 3 && (if x.kind = 2 then decide (x.data = []) && decide (x.time = 0) else decide (x.data.length ≤ 80) && inR x.time 0 100000)
theorem itemOk_c (x : Item) (h : Hp) (hl : x.path.length ≤ 1048576) :
    ACall Try.prog 67 [x.v] h fun r h' => (∃ t, h' = h ++ t) ∧ r = .bool (itemOk x) := by
  refine acall mixed Try.func67 rfl (by kernel_rfl) ?_
  simp [Try.f67, Item.v]
  refine callK0 (pathOk_impl_c x.path _ hl) ?_
  rintro _ _ ⟨⟨t0, rfl⟩, rfl⟩
  cases e1 : pathOk x.path
  · simp [itemOk, e1]
  simp
  refine asplitK_intro (fun hb => ?_) (fun hb => ?_) <;> (have hb' := hb; simp at hb; simp [hb, hb'])
  · simp [itemOk, hb]
  refine callK0 (isKind_c x.kind _) ?_
  rintro _ H ⟨rfl, rfl⟩
  cases e2 : inR x.kind 1 3
  · simp [itemOk, e2]
  simp
  refine asplitK_intro (fun hc => ?_) (fun hc => ?_) <;> (have hc' := hc; simp at hc; simp [hc, hc'])
  · refine asplitK_intro (fun hd => ?_) (fun hd => ?_) <;> (have hd' := hd; simp at hd; simp [hd, hd'])
    · have e3 : inR 2 1 3 = true := by decide
      by_cases ht : x.time = 0 <;> simp [itemOk, e1, hb, e3, hc, hd, ht]
    · have e3 : inR 2 1 3 = true := by decide
      simp [itemOk, e1, hb, e3, hc, hd]
  · refine asplitK_intro (fun hd => ?_) (fun hd => ?_) <;> (have hd' := hd; simp at hd; simp [hd, hd'])
    · refine callK0 (withinR x.time 0 100000 _) ?_
      rintro _ H ⟨rfl, rfl⟩
      have hd2 : x.data.length ≤ 80 := by omega
      simp [itemOk, e1, hb, e2, hc, hd2]
    · have hd2 : ¬ x.data.length ≤ 80 := by omega
      simp [itemOk, e1, hb, e2, hc, hd2]
def stepOk (xs : List Item) (i : Nat) (x : Item) : Bool := itemOk x && (match i with | 0 => true | j + 1 => match xs[j]? with | some y => Op.bytesLess y.path x.path | none => true) && ((treeGet xs (above x.path)).2 && decide ((treeGet xs (above x.path)).1.kind = 2))
def treeFrom (xs : List Item) : List Item → Nat → Bool
  | [], _ => true
  | x :: r, i => stepOk xs i x && treeFrom xs r (i + 1)
def treeOk (xs : List Item) : Bool := decide (xs.length ≤ 40) && treeFrom xs xs 0
theorem treeFrom_drop (xs : List Item) (k : Nat) (hk : k < xs.length) : treeFrom xs (xs.drop k) k = (stepOk xs k xs[k] && treeFrom xs (xs.drop (k + 1)) (k + 1)) := by
  rw [List.drop_eq_getElem_cons hk]; rfl
theorem stepOk_pos (xs : List Item) (x : Item) (k : Nat) (h0 : 0 < k) (hk : k - 1 < xs.length) : stepOk xs k x = (itemOk x && Op.bytesLess xs[k - 1].path x.path && ((treeGet xs (above x.path)).2 && decide ((treeGet xs (above x.path)).1.kind = 2))) := by
  obtain ⟨j, rfl⟩ : ∃ j, k = j + 1 := ⟨k - 1, by omega⟩
  simp only [Nat.add_sub_cancel] at hk
  simp [stepOk, hk]
theorem stepOk_zero (xs : List Item) (x : Item) : stepOk xs 0 x = (itemOk x && ((treeGet xs (above x.path)).2 && decide ((treeGet xs (above x.path)).1.kind = 2))) := by
  simp [stepOk]
section
variable (xs : List Item) (a : Option Addr) (F : List Nat) (w : Bool) (h : Hp) (hx : slR w 78 itemE h xs a F) (hl : xs.length + sumL Item.nl xs ≤ 1048576)
include hx hl
set_option maxHeartbeats 2000000 in
theorem treeOk_impl_c : ACall Try.prog 18 [.agg #[.slice a xs.length xs.length]] h fun r h' => (∃ t, h' = h ++ t) ∧ r = .bool (treeOk xs) := by
  refine acall mixed Try.func18 rfl (by kernel_rfl) ?_
  simp [Try.f18]
  refine asplitK_intro (fun hb => ?_) (fun hb => ?_) <;> (have hb' := hb; simp at hb; simp [hb, hb'])
  · have : ¬ xs.length ≤ 40 := by omega
    simp [treeOk, this]
  have h40 : xs.length ≤ 40 := by omega
  have hroot : treeFrom xs xs 0 = treeOk xs := by simp [treeOk, h40]
  refine aloop mixed [1, 12, 13, 14] (fun (x : Nat × Hp) => [.pointer (some ⟨h.length, 0, none⟩), .slice a xs.length xs.length, .int .i64 xs.length, .int .i64 x.1]) (fun x => h ++ ⟨true, true, 29, [.slice a xs.length xs.length]⟩ :: x.2) (fun x => x.1 ≤ xs.length ∧ treeFrom xs (xs.drop x.1) x.1 = treeOk xs) (fun x => xs.length - x.1) (0, []) ⟨by simp, by simpa using hroot⟩ (by simp [pickF]) (by simp) ?_
  rintro ⟨k, t⟩ ⟨hk, he⟩
  simp only at hk he
  simp [mkF]
  refine asplitK_intro (fun hb => ?_) (fun hb => ?_) <;> simp at hb <;> simp [hb]
  rotate_left
  · obtain rfl : k = xs.length := by omega
    rw [List.drop_length] at he
    simpa [treeFrom] using he
  have hnl : xs[k].path.length ≤ 1048576 := by
    have := sumL_mem Item.nl (List.getElem_mem hb)
    have h2 : xs[k].nl = xs[k].path.length + xs[k].data.length := rfl
    omega
  obtain ⟨o, off, rfl, c0, c1, c2, c3⟩ := itemAt (hx.ext (Ext.push h (⟨true, true, 29, [.slice a xs.length xs.length]⟩ :: t))) hb
  rw [treeFrom_drop xs k hb] at he
  simp [hb, c0, c1, c2, c3]
  refine drawK false (by kernel_rfl) ?_
  simp
  have hio := itemOk_c xs[k] (h ++ ⟨true, true, 29, [.slice (some ⟨o, off, none⟩) xs.length xs.length]⟩ :: (t ++ [⟨true, true, 78, [.string (S xs[k].path), .int .i64 xs[k].kind, .string (S xs[k].data), .int .i64 xs[k].time]⟩])) hnl
  simp only [Item.v] at hio
  refine callK0 hio ?_
  rintro _ _ ⟨⟨t1, rfl⟩, rfl⟩
  cases e1 : itemOk xs[k]
  · have : stepOk xs k xs[k] = false := by simp [stepOk, e1]
    rw [this] at he
    simp at he
    simp [he]
  simp
  have hlx : xs.length ≤ 1048576 := by omega
  by_cases hk0 : k = 0
  · subst hk0
    have hstep : stepOk xs 0 xs[0] = ((treeGet xs (above xs[0].path)).2 && decide ((treeGet xs (above xs[0].path)).1.kind = 2)) := by rw [stepOk_zero, e1]; rfl
    simp
    refine drawS true 8 [0, 1, 2, 3, 4, 5, 6, 7] [9, 10] (by simp; rfl) (by simp; rfl) (by simp; rfl) (by kernel_rfl) ?_
    simp
    refine callK (above_impl_c xs[0].path _ hnl) ?_
    rintro _ _ ⟨⟨t2, rfl⟩, rfl⟩
    refine ⟨fun _ => Ext.push _ _, ?_⟩
    simp
    refine callK (treeGet_impl_c xs (above xs[0].path) _ F w _ _ (hx.to (by simp)) hlx) ?_
    rintro _ _ ⟨⟨t3, rfl⟩, rfl⟩
    refine ⟨fun _ => Ext.push _ _, ?_⟩
    simp [Item.v]
    cases e3 : (treeGet xs (above xs[0].path)).2
    · rw [hstep, e3] at he
      simp at he
      simp [he]
    simp
    refine asplitK_intro (fun hd => ?_) (fun hd => ?_) <;> (have hd' := hd; simp at hd; simp [hd, hd'])
    · rw [hstep, e3] at he
      simp [hd] at he
      simp [he]
    · rw [hstep, e3] at he
      simp [hd] at he
      exact anext (0 + 1, t ++ ⟨true, true, 78, [.string (S xs[0].path), .int .i64 xs[0].kind, .string (S xs[0].data), .int .i64 xs[0].time]⟩ :: (t1 ++ (t2 ++ (t3 ++ [⟨true, true, 78, [.string (S (treeGet xs (above xs[0].path)).1.path), .int .i64 (treeGet xs (above xs[0].path)).1.kind, .string (S (treeGet xs (above xs[0].path)).1.data), .int .i64 (treeGet xs (above xs[0].path)).1.time]⟩])))) ⟨hb, by simpa using he⟩ (by simp only; omega) (by simp [pickF, (by decide : IntKind.i64.wrap 1 = 1)]) (by simp [hd]) (by simp)
  · have hk1 : k - 1 < xs.length := by omega
    have wk : IntKind.i64.wrap ((k : Int) - 1) = ((k - 1 : Nat) : Int) := by rw [wrap_in (by omega) (by omega)]; omega
    obtain ⟨o', off', ea, d0, -⟩ := itemAt (hx.ext (Ext.push h (⟨true, true, 29, [.slice (some ⟨o, off, none⟩) xs.length xs.length]⟩ :: (t ++ ⟨true, true, 78, [.string (S xs[k].path), .int .i64 xs[k].kind, .string (S xs[k].data), .int .i64 xs[k].time]⟩ :: t1)))) hk1
    cases ea
    have hkp : 0 < k := by omega
    cases hle : Op.bytesLess xs[k - 1].path xs[k].path
    · have hf : stepOk xs k xs[k] = false := by rw [stepOk_pos xs xs[k] k hkp hk1, hle]; simp
      rw [hf] at he
      simp at he
      simp [hkp, wk, hk1, d0, hle, he]
    have hstep : stepOk xs k xs[k] = ((treeGet xs (above xs[k].path)).2 && decide ((treeGet xs (above xs[k].path)).1.kind = 2)) := by rw [stepOk_pos xs xs[k] k hkp hk1, hle, e1]; rfl
    simp [hkp, wk, hk1, d0, hle]
    refine drawS true 8 [0, 1, 2, 3, 4, 5, 6, 7] [9, 10] (by simp; rfl) (by simp; rfl) (by simp; rfl) (by kernel_rfl) ?_
    simp
    refine callK (above_impl_c xs[k].path _ hnl) ?_
    rintro _ _ ⟨⟨t2, rfl⟩, rfl⟩
    refine ⟨fun _ => Ext.push _ _, ?_⟩
    simp
    refine callK (treeGet_impl_c xs (above xs[k].path) _ F w _ _ (hx.to (by simp)) hlx) ?_
    rintro _ _ ⟨⟨t3, rfl⟩, rfl⟩
    refine ⟨fun _ => Ext.push _ _, ?_⟩
    simp [Item.v]
    cases e3 : (treeGet xs (above xs[k].path)).2
    · rw [hstep, e3] at he
      simp at he
      simp [he]
    simp
    refine asplitK_intro (fun hd => ?_) (fun hd => ?_) <;> (have hd' := hd; simp at hd; simp [hd, hd'])
    · rw [hstep, e3] at he
      simp [hd] at he
      simp [he]
    · rw [hstep, e3] at he
      simp [hd] at he
      exact anext (k + 1, t ++ ⟨true, true, 78, [.string (S xs[k].path), .int .i64 xs[k].kind, .string (S xs[k].data), .int .i64 xs[k].time]⟩ :: (t1 ++ (t2 ++ (t3 ++ [⟨true, true, 78, [.string (S (treeGet xs (above xs[k].path)).1.path), .int .i64 (treeGet xs (above xs[k].path)).1.kind, .string (S (treeGet xs (above xs[k].path)).1.data), .int .i64 (treeGet xs (above xs[k].path)).1.time]⟩])))) ⟨hb, by simpa using he⟩ (by simp only; omega) (by simp [pickF, wrap_succ (show k < 9223372036854775807 by omega)]) (by simp [hd]) (by simp)
end
end Go.Proofs.Ytoknpbmcpaaalaa.Hz
/- A tree that is right: the reference. -/
namespace Go.Proofs.Ytoknpbmcpaaalaa.Hz
open Go.RowKit
set_option linter.unusedVariables false
set_option linter.unusedSimpArgs false
set_option maxRecDepth 20000

section
variable (xs : List Item) (a : Option Addr) (F : List Nat) (w : Bool) (h : Hp) (hx : slR w 78 itemE h xs a F) (hl : xs.length + sumL Item.nl xs ≤ 1048576)
include hx hl
set_option maxHeartbeats 4000000 in
theorem treeOk_spec_c : ACall Try.prog 16 [.agg #[.slice a xs.length xs.length]] h fun r h' => (∃ t, h' = h ++ t) ∧ r = .bool (treeOk xs) := by
  refine acall mixed Try.func16 rfl (by kernel_rfl) ?_
  simp [Try.f16]
  refine asplitK_intro (fun hb => ?_) (fun hb => ?_) <;> (have hb' := hb; simp at hb; simp [hb, hb'])
  · have : ¬ xs.length ≤ 40 := by omega
    simp [treeOk, this]
  have h40 : xs.length ≤ 40 := by omega
  have hroot : treeFrom xs xs 0 = treeOk xs := by simp [treeOk, h40]
  refine aloop mixed [1, 3] (fun (x : Nat × Hp) => [.pointer (some ⟨h.length, 0, none⟩), .int .i64 x.1]) (fun x => h ++ ⟨true, true, 29, [.slice a xs.length xs.length]⟩ :: x.2) (fun x => x.1 ≤ xs.length ∧ treeFrom xs (xs.drop x.1) x.1 = treeOk xs) (fun x => xs.length - x.1) (0, []) ⟨by simp, by simpa using hroot⟩ (by simp [pickF]) (by simp) ?_
  rintro ⟨k, t⟩ ⟨hk, he⟩
  simp only at hk he
  simp [mkF]
  refine asplitK_intro (fun hb => ?_) (fun hb => ?_) <;> simp at hb <;> simp [hb]
  rotate_left
  · obtain rfl : k = xs.length := by omega
    rw [List.drop_length] at he
    simpa [treeFrom] using he
  have hnl : xs[k].path.length ≤ 1048576 := by
    have := sumL_mem Item.nl (List.getElem_mem hb)
    have h2 : xs[k].nl = xs[k].path.length + xs[k].data.length := rfl
    omega
  obtain ⟨o, off, rfl, c0, c1, c2, c3⟩ := itemAt (hx.ext (Ext.push h (⟨true, true, 29, [.slice a xs.length xs.length]⟩ :: t))) hb
  rw [treeFrom_drop xs k hb] at he
  simp [hb, c0, c1, c2, c3]
  have hlx : xs.length ≤ 1048576 := by omega
  have bad : stepOk xs k xs[k] = false → treeOk xs = false := fun hf => by rw [hf] at he; simpa using he.symm
  have goodGet : ∀ b, (stepOk xs k xs[k] = b) → (itemOk xs[k] = true) → True := fun _ _ _ => trivial
  refine drawK false (by kernel_rfl) ?_
  simp
  refine callK0 (pathOk_spec_c xs[k].path _ hnl) ?_
  rintro _ _ ⟨⟨t1, rfl⟩, rfl⟩
  cases e1 : pathOk xs[k].path
  · have hf := bad (by simp [stepOk, itemOk, e1])
    simp [hf]
  simp
  by_cases e2 : xs[k].path = [47]
  · have hf := bad (by simp [stepOk, itemOk, e2])
    simp [e2, hf]
  have e2' : (xs[k].path == [47]) = false := by simpa using e2
  simp [e2']
  rcases Nat.eq_zero_or_pos k with hk0 | hkp
  · subst hk0
    simp
    refine callK0 (l1InR xs[0].kind 1 3 _) ?_
    rintro _ H ⟨rfl, rfl⟩
    cases e3 : inR xs[0].kind 1 3
    · have hf := bad (by simp [stepOk, itemOk, e3])
      simp [hf]
    simp
    by_cases e4 : xs[0].data.length ≤ 80
    rotate_left
    · have hf := bad (by
        have hne : ¬ xs[0].data = [] := fun h0 => e4 (by rw [h0]; simp)
        by_cases h2 : xs[0].kind = 2 <;> simp [stepOk, itemOk, e4, h2, hne])
      have e4' : (80 : Int) < xs[0].data.length := by omega
      simp [e4', hf]
    have e4' : ¬ (80 : Int) < xs[0].data.length := by omega
    simp [e4']
    refine callK0 (l1InR xs[0].time 0 100000 _) ?_
    rintro _ H ⟨rfl, rfl⟩
    cases e5 : inR xs[0].time 0 100000
    · have hf := bad (by
        have hne : ¬ xs[0].time = 0 := fun h0 => by rw [h0] at e5; revert e5; decide
        by_cases h2 : xs[0].kind = 2 <;> simp [stepOk, itemOk, e5, h2, hne])
      simp [hf]
    simp
    have get : itemOk xs[0] = true → stepOk xs 0 xs[0] = ((treeGet xs (above xs[0].path)).2 && decide ((treeGet xs (above xs[0].path)).1.kind = 2)) := fun hi => by rw [stepOk_zero, hi]; rfl
    have fin : ∀ {t' : Hp}, itemOk xs[0] = true → True := fun _ => trivial
    by_cases h2 : xs[0].kind = 2
    · by_cases h3 : xs[0].data = []
      rotate_left
      · have hf := bad (by simp [stepOk, itemOk, h2, h3])
        have h3' : (xs[0].data == []) = false := by simpa using h3
        simp [h2, h3', hf]
      by_cases h4 : xs[0].time = 0
      rotate_left
      · have hf := bad (by simp [stepOk, itemOk, h2, h4])
        have h4' : (xs[0].time != 0) = true := by simpa using h4
        simp [h2, h3, h4', hf]
      have hi : itemOk xs[0] = true := by simp [itemOk, e1, e2, e3, h2, h3, h4]; decide
      simp [h2, h3, h4]
      refine drawS true 8 [0, 1, 2, 3, 4, 5, 6, 7] [9, 10] (by simp; rfl) (by simp; rfl) (by simp; rfl) (by kernel_rfl) ?_
      simp
      refine callK (above_spec_c xs[0].path _ hnl) ?_
      rintro _ _ ⟨⟨t2, rfl⟩, rfl⟩
      refine ⟨fun _ => Ext.push _ _, ?_⟩
      simp
      refine callK (treeGet_spec_c xs (above xs[0].path) _ F w _ _ (hx.to (by simp)) hlx) ?_
      rintro _ _ ⟨⟨t3, rfl⟩, rfl⟩
      refine ⟨fun _ => Ext.push _ _, ?_⟩
      simp [Item.v]
      cases g3 : (treeGet xs (above xs[0].path)).2
      · have hf := bad (by rw [get hi, g3]; rfl)
        simp [hf]
      simp
      by_cases g4 : (treeGet xs (above xs[0].path)).1.kind = 2
      · have g4' : ((treeGet xs (above xs[0].path)).1.kind != 2) = false := by simpa using g4
        rw [get hi, g3] at he
        simp [g4] at he
        simp [g4]
        exact anext (0 + 1, t ++ ⟨true, true, 78, [.string (S xs[0].path), .int .i64 xs[0].kind, .string (S xs[0].data), .int .i64 xs[0].time]⟩ :: (t1 ++ (t2 ++ (t3 ++ [⟨true, true, 78, [.string (S (treeGet xs (above xs[0].path)).1.path), .int .i64 (treeGet xs (above xs[0].path)).1.kind, .string (S (treeGet xs (above xs[0].path)).1.data), .int .i64 (treeGet xs (above xs[0].path)).1.time]⟩])))) ⟨hb, by simpa using he⟩ (by simp only; omega) (by simp [pickF, (by decide : IntKind.i64.wrap 1 = 1)]) (by simp [h2, h3, h4, g4]) (by simp)
      · have g4' : ((treeGet xs (above xs[0].path)).1.kind != 2) = true := by simpa using g4
        have hf := bad (by rw [get hi, g3]; simp [g4])
        simp [g4', hf]
    · have hi : itemOk xs[0] = true := by simp [itemOk, e1, e2, e3, h2, e4, e5]
      have h2' : (xs[0].kind == 2) = false := by simpa using h2
      simp [h2']
      refine drawS true 8 [0, 1, 2, 3, 4, 5, 6, 7] [9, 10] (by simp; rfl) (by simp; rfl) (by simp; rfl) (by kernel_rfl) ?_
      simp
      refine callK (above_spec_c xs[0].path _ hnl) ?_
      rintro _ _ ⟨⟨t2, rfl⟩, rfl⟩
      refine ⟨fun _ => Ext.push _ _, ?_⟩
      simp
      refine callK (treeGet_spec_c xs (above xs[0].path) _ F w _ _ (hx.to (by simp)) hlx) ?_
      rintro _ _ ⟨⟨t3, rfl⟩, rfl⟩
      refine ⟨fun _ => Ext.push _ _, ?_⟩
      simp [Item.v]
      cases g3 : (treeGet xs (above xs[0].path)).2
      · have hf := bad (by rw [get hi, g3]; rfl)
        simp [hf]
      simp
      by_cases g4 : (treeGet xs (above xs[0].path)).1.kind = 2
      · have g4' : ((treeGet xs (above xs[0].path)).1.kind != 2) = false := by simpa using g4
        rw [get hi, g3] at he
        simp [g4] at he
        simp [g4]
        exact anext (0 + 1, t ++ ⟨true, true, 78, [.string (S xs[0].path), .int .i64 xs[0].kind, .string (S xs[0].data), .int .i64 xs[0].time]⟩ :: (t1 ++ (t2 ++ (t3 ++ [⟨true, true, 78, [.string (S (treeGet xs (above xs[0].path)).1.path), .int .i64 (treeGet xs (above xs[0].path)).1.kind, .string (S (treeGet xs (above xs[0].path)).1.data), .int .i64 (treeGet xs (above xs[0].path)).1.time]⟩])))) ⟨hb, by simpa using he⟩ (by simp only; omega) (by simp [pickF, (by decide : IntKind.i64.wrap 1 = 1)]) (by simp [g4]) (by simp)
      · have g4' : ((treeGet xs (above xs[0].path)).1.kind != 2) = true := by simpa using g4
        have hf := bad (by rw [get hi, g3]; simp [g4])
        simp [g4', hf]
  · have hk1 : k - 1 < xs.length := by omega
    have wk : IntKind.i64.wrap ((k : Int) - 1) = ((k - 1 : Nat) : Int) := by rw [wrap_in (by omega) (by omega)]; omega
    obtain ⟨o', off', ea, d0, -⟩ := itemAt (hx.ext (Ext.push h (⟨true, true, 29, [.slice (some ⟨o, off, none⟩) xs.length xs.length]⟩ :: (t ++ ⟨true, true, 78, [.string (S xs[k].path), .int .i64 xs[k].kind, .string (S xs[k].data), .int .i64 xs[k].time]⟩ :: t1)))) hk1
    cases ea
    have hlt : (Op.bytesLess xs[k].path xs[k - 1].path || xs[k].path == xs[k - 1].path) = !Op.bytesLess xs[k - 1].path xs[k].path := (less_total xs[k - 1].path xs[k].path).symm
    cases hle : Op.bytesLess xs[k - 1].path xs[k].path
    · have hf := bad (by rw [stepOk_pos xs xs[k] k hkp hk1, hle]; simp)
      rw [hle] at hlt
      simp [hkp, wk, hk1, d0, hlt, hf]
    rw [hle] at hlt
    simp [hkp, wk, hk1, d0, hlt]
    refine callK0 (l1InR xs[k].kind 1 3 _) ?_
    rintro _ H ⟨rfl, rfl⟩
    cases e3 : inR xs[k].kind 1 3
    · have hf := bad (by simp [stepOk, itemOk, e3])
      simp [hf]
    simp
    by_cases e4 : xs[k].data.length ≤ 80
    rotate_left
    · have hf := bad (by
        have hne : ¬ xs[k].data = [] := fun h0 => e4 (by rw [h0]; simp)
        by_cases h2 : xs[k].kind = 2 <;> simp [stepOk, itemOk, e4, h2, hne])
      have e4' : (80 : Int) < xs[k].data.length := by omega
      simp [e4', hf]
    have e4' : ¬ (80 : Int) < xs[k].data.length := by omega
    simp [e4']
    refine callK0 (l1InR xs[k].time 0 100000 _) ?_
    rintro _ H ⟨rfl, rfl⟩
    cases e5 : inR xs[k].time 0 100000
    · have hf := bad (by
        have hne : ¬ xs[k].time = 0 := fun h0 => by rw [h0] at e5; revert e5; decide
        by_cases h2 : xs[k].kind = 2 <;> simp [stepOk, itemOk, e5, h2, hne])
      simp [hf]
    simp
    have get : itemOk xs[k] = true → stepOk xs k xs[k] = ((treeGet xs (above xs[k].path)).2 && decide ((treeGet xs (above xs[k].path)).1.kind = 2)) := fun hi => by rw [stepOk_pos xs xs[k] k hkp hk1, hle, hi]; rfl
    have fin : ∀ {t' : Hp}, itemOk xs[k] = true → True := fun _ => trivial
    by_cases h2 : xs[k].kind = 2
    · by_cases h3 : xs[k].data = []
      rotate_left
      · have hf := bad (by simp [stepOk, itemOk, h2, h3])
        have h3' : (xs[k].data == []) = false := by simpa using h3
        simp [h2, h3', hf]
      by_cases h4 : xs[k].time = 0
      rotate_left
      · have hf := bad (by simp [stepOk, itemOk, h2, h4])
        have h4' : (xs[k].time != 0) = true := by simpa using h4
        simp [h2, h3, h4', hf]
      have hi : itemOk xs[k] = true := by simp [itemOk, e1, e2, e3, h2, h3, h4]; decide
      simp [h2, h3, h4]
      refine drawS true 8 [0, 1, 2, 3, 4, 5, 6, 7] [9, 10] (by simp; rfl) (by simp; rfl) (by simp; rfl) (by kernel_rfl) ?_
      simp
      refine callK (above_spec_c xs[k].path _ hnl) ?_
      rintro _ _ ⟨⟨t2, rfl⟩, rfl⟩
      refine ⟨fun _ => Ext.push _ _, ?_⟩
      simp
      refine callK (treeGet_spec_c xs (above xs[k].path) _ F w _ _ (hx.to (by simp)) hlx) ?_
      rintro _ _ ⟨⟨t3, rfl⟩, rfl⟩
      refine ⟨fun _ => Ext.push _ _, ?_⟩
      simp [Item.v]
      cases g3 : (treeGet xs (above xs[k].path)).2
      · have hf := bad (by rw [get hi, g3]; rfl)
        simp [hf]
      simp
      by_cases g4 : (treeGet xs (above xs[k].path)).1.kind = 2
      · have g4' : ((treeGet xs (above xs[k].path)).1.kind != 2) = false := by simpa using g4
        rw [get hi, g3] at he
        simp [g4] at he
        simp [g4]
        exact anext (k + 1, t ++ ⟨true, true, 78, [.string (S xs[k].path), .int .i64 xs[k].kind, .string (S xs[k].data), .int .i64 xs[k].time]⟩ :: (t1 ++ (t2 ++ (t3 ++ [⟨true, true, 78, [.string (S (treeGet xs (above xs[k].path)).1.path), .int .i64 (treeGet xs (above xs[k].path)).1.kind, .string (S (treeGet xs (above xs[k].path)).1.data), .int .i64 (treeGet xs (above xs[k].path)).1.time]⟩])))) ⟨hb, by simpa using he⟩ (by simp only; omega) (by simp [pickF, wrap_succ (show k < 9223372036854775807 by omega)]) (by simp [h2, h3, h4, g4]) (by simp)
      · have g4' : ((treeGet xs (above xs[k].path)).1.kind != 2) = true := by simpa using g4
        have hf := bad (by rw [get hi, g3]; simp [g4])
        simp [g4', hf]
    · have hi : itemOk xs[k] = true := by simp [itemOk, e1, e2, e3, h2, e4, e5]
      have h2' : (xs[k].kind == 2) = false := by simpa using h2
      simp [h2']
      refine drawS true 8 [0, 1, 2, 3, 4, 5, 6, 7] [9, 10] (by simp; rfl) (by simp; rfl) (by simp; rfl) (by kernel_rfl) ?_
      simp
      refine callK (above_spec_c xs[k].path _ hnl) ?_
      rintro _ _ ⟨⟨t2, rfl⟩, rfl⟩
      refine ⟨fun _ => Ext.push _ _, ?_⟩
      simp
      refine callK (treeGet_spec_c xs (above xs[k].path) _ F w _ _ (hx.to (by simp)) hlx) ?_
      rintro _ _ ⟨⟨t3, rfl⟩, rfl⟩
      refine ⟨fun _ => Ext.push _ _, ?_⟩
      simp [Item.v]
      cases g3 : (treeGet xs (above xs[k].path)).2
      · have hf := bad (by rw [get hi, g3]; rfl)
        simp [hf]
      simp
      by_cases g4 : (treeGet xs (above xs[k].path)).1.kind = 2
      · have g4' : ((treeGet xs (above xs[k].path)).1.kind != 2) = false := by simpa using g4
        rw [get hi, g3] at he
        simp [g4] at he
        simp [g4]
        exact anext (k + 1, t ++ ⟨true, true, 78, [.string (S xs[k].path), .int .i64 xs[k].kind, .string (S xs[k].data), .int .i64 xs[k].time]⟩ :: (t1 ++ (t2 ++ (t3 ++ [⟨true, true, 78, [.string (S (treeGet xs (above xs[k].path)).1.path), .int .i64 (treeGet xs (above xs[k].path)).1.kind, .string (S (treeGet xs (above xs[k].path)).1.data), .int .i64 (treeGet xs (above xs[k].path)).1.time]⟩])))) ⟨hb, by simpa using he⟩ (by simp only; omega) (by simp [pickF, wrap_succ (show k < 9223372036854775807 by omega)]) (by simp [g4]) (by simp)
      · have g4' : ((treeGet xs (above xs[k].path)).1.kind != 2) = true := by simpa using g4
        have hf := bad (by rw [get hi, g3]; simp [g4])
        simp [g4', hf]
end
end Go.Proofs.Ytoknpbmcpaaalaa.Hz
