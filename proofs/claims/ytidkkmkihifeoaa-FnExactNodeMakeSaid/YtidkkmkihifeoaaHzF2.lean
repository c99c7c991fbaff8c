/- Nodes and branches' images: the copies that the laws make. -/
import Derived.Test.YtidkkmkihifeoaaHzF1
namespace Go.Proofs.Ytidkkmkihifeoaa.Hz
open Go.RowKit
set_option linter.unusedVariables false
set_option linter.unusedSimpArgs false
set_option maxRecDepth 20000

theorem toNode_c (x : Node) (a1 : Option Addr) (F1 : List Nat) (w : Bool)  (h : Hp) (k1 : slR w 3 intE h x.blocks a1 F1) (hl : x.lim) :
    ACall Try.prog 167 [.agg #[.int .i64 x.kind, .int .i64 x.gen, .int .i64 x.time, .int .i64 x.size, .slice a1 x.blocks.length x.blocks.length]] h fun r h' => ∃ b1 G1, r = .agg #[.int .i64 x.kind, .int .i64 x.gen, .int .i64 x.time, .int .i64 x.size, .slice b1 x.blocks.length x.blocks.length] ∧ OwnE h (nodeE true) h' x [.int .i64 x.kind, .int .i64 x.gen, .int .i64 x.time, .int .i64 x.size, .slice b1 x.blocks.length x.blocks.length] (G1) := by
  refine acall mixed Try.func167 rfl (by kernel_rfl) ?_
  simp [Try.f167]
  refine callK0 (toIntS_c x.blocks a1 F1 w _ _ (k1.ext (Ext.push h _)) hl) ?_
  rintro _ _ ⟨b1, G1, rfl, o1⟩
  obtain ⟨u1, rfl⟩ := o1.ext.pre
  simp
  have s1 := o1.sl
  have n1 : ∀ q ∈ G1, h.length + 3 ≤ q := fun q hq => by have := o1.new q hq; simp at this; omega
  simp at s1
  exact ⟨G1, Ext.push _ _, ⟨b1, G1, rfl, rfl, slR.late0 (l := [_, _, _]) (l' := [_, _, _]) s1 n1 rfl⟩, o1.nd, fun q hq => by have := n1 q hq; omega⟩

theorem toNodeS_c (es : List Node) (a : Option Addr) (F : List Nat) (w : Bool) (t : TypeId) (h : Hp) (hr : slR w t (nodeE w) h es a F) (hl : es.length ≤ 1048576) (hlim : ∀ e ∈ es, e.lim) :
    ACall Try.prog 113 [.slice a es.length es.length] h fun r h' => ∃ a' F', r = .slice a' es.length es.length ∧ Own h 151 (nodeE true) h' es a' F' := by
  refine acall mixed Try.func113 rfl (by kernel_rfl) ?_
  have hb1 : (es.length : Int) * 56 ≤ (big : Int) := by unfold big; omega
  have hb2 : es.length ≤ big := by unfold big; omega
  simp [Try.f113, hb1, hb2]
  have own0 := Own.rep (A := (nodeE true)) h 151 es.length (z := ⟨0, 0, 0, 0, []⟩) (zs := [.int .i64 0, .int .i64 0, .int .i64 0, .int .i64 0, .slice none 0 0]) ⟨none, [], rfl, rfl, ⟨rfl, rfl⟩⟩
  refine aloop mixed [0, 3, 4] (fun (x : Nat × Hp) => [.slice a es.length es.length, .slice (some ⟨h.length, 0, none⟩) es.length es.length, .int .i64 x.1]) (fun x => x.2)
    (fun x => x.1 ≤ es.length ∧ ∃ F', Own h 151 (nodeE true) x.2 (es.take x.1 ++ List.replicate (es.length - x.1) ⟨0, 0, 0, 0, []⟩) (some ⟨h.length, 0, none⟩) F') (fun x => es.length - x.1) (0, _) ⟨by simp, _, by simpa using own0⟩ (by simp [pickF]) rfl ?_
  rintro ⟨k, H⟩ ⟨hk, F', own⟩
  simp only at hk own
  simp [mkF]
  refine asplitK_intro (fun hb => ?_) (fun hb => ?_) <;> simp at hb <;> simp [hb]
  · obtain ⟨o, off, b1, B1, rfl, c0, c1, c2, c3, c4, k1, -⟩ := nodeAt (hr.ext own.ext) hb
    simp [hb, c0, c1, c2, c3, c4]
    refine callK0 (toNode_c es[k] b1 B1 w _ k1 (hlim _ (List.getElem_mem hb))) ?_
    rintro _ _ ⟨d1, D1, rfl, oe⟩
    obtain ⟨hcan, F2, own2⟩ := own.putE (i := k) (by simp; omega) oe
    rw [fill_set _ k hb] at own2
    have hn : (nodeE true).n = 5 := rfl
    simp only [hn, Nat.zero_add] at hcan own2
    simp [hb, hcan]
    exact anext (k + 1, _) ⟨hb, F2, own2⟩ (by simp only; omega) (by simp [pickF, wrap_succ (show k < 9223372036854775807 by omega)]) rfl (by simp)
  · obtain rfl : k = es.length := by omega
    simp at own
    exact ⟨_, own⟩

theorem toFs_c (x : Fs) (a1 a2 : Option Addr) (F1 F2 : List Nat) (w : Bool) (tNode : TypeId) (h : Hp) (k1 : slR w tNode (nodeE w) h x.nodes a1 F1) (k2 : slR w 9 strE h x.data a2 F2) (hl : x.lim) :
    ACall Try.prog 43 [.agg #[.slice a1 x.nodes.length x.nodes.length, .slice a2 x.data.length x.data.length]] h fun r h' => ∃ b1 G1 b2 G2, r = .agg #[.slice b1 x.nodes.length x.nodes.length, .slice b2 x.data.length x.data.length] ∧ OwnE h (fsE true 151) h' x [.slice b1 x.nodes.length x.nodes.length, .slice b2 x.data.length x.data.length] (G1 ++ G2) := by
  refine acall mixed Try.func43 rfl (by kernel_rfl) ?_
  simp [Try.f43]
  refine callK0 (toNodeS_c x.nodes a1 F1 w _ _ (k1.ext (Ext.push h _)) hl.1 hl.2.1) ?_
  rintro _ _ ⟨b1, G1, rfl, o1⟩
  obtain ⟨u1, rfl⟩ := o1.ext.pre
  simp
  refine callK0 (toStringS_c x.data a2 F2 w _ _ (k2.ext (Ext.push h _)) hl.2.2) ?_
  rintro _ _ ⟨b2, G2, rfl, o2⟩
  obtain ⟨u2, rfl⟩ := o2.ext.pre
  simp
  have s1 := o1.sl
  have s2 := o2.sl
  have n1 : ∀ q ∈ G1, h.length + 3 ≤ q ∧ q < h.length + 3 + u1.length := fun q hq => by
    have := o1.new q hq
    have := s1.lt q hq
    simp at *
    omega
  have n2 : ∀ q ∈ G2, h.length + 3 + u1.length ≤ q := fun q hq => by have := o2.new q hq; simp at this; omega
  simp at s1 s2
  refine ⟨b1, G1, b2, ⟨rfl, rfl⟩, G2, Ext.push _ _, ⟨b1, G1, b2, G2, rfl, rfl, slR.late (l := [_, _, _]) (l' := [_, _, _]) s1 (fun q hq => (n1 q hq).1) rfl, slR.late0 (l := [_, _, _]) (l' := [_, _, _]) (u := u1 ++ u2) s2 (fun q hq => by have := n2 q hq; simp; omega) rfl⟩, List.nodup_append.2 ⟨o1.nd, o2.nd, fun p hp q hq e => by have := n1 p hp; have := n2 q hq; omega⟩, fun q hq => ?_⟩
  rcases List.mem_append.1 hq with hq | hq
  · have := n1 q hq; omega
  · have := n2 q hq; omega
end Go.Proofs.Ytidkkmkihifeoaa.Hz
