/- The draws of images, further. -/
import Derived.Test.YtgfilbekfkhjjaaHyDI
namespace Go.Proofs.Ytgfilbekfkhjjaa.Hz
open Go.RowKit
set_option linter.unusedVariables false
set_option linter.unusedSimpArgs false
set_option maxRecDepth 20000

def paths10 : List Str := [[47, 97], [47, 98], [47, 97, 47, 120], [47, 97, 47, 121], [47, 98, 47, 120], [47, 99], [47, 97, 47, 120, 47, 122], [47, 100], [47, 97, 47, 98], [47, 101, 47, 102]]
theorem flat_strs : ∀ xs : List Str, (xs.map fun x => [Value.string (S x)]).flatten = xs.map fun x => .string (S x)
  | [] => rfl
  | x :: xs => by simp [flat_strs xs]
theorem l2Paths_c (h : Hp) : ACall Try.prog 106 [] h fun r h' => ∃ a F, r = .slice a paths10.length paths10.length ∧ Own h 9 strE h' paths10 a F := by
  refine acall mixed Try.func106 rfl (by kernel_rfl) ?_
  have o := Own.lit (h0 := h) (h := h) (e := 9) (A := strE) (xs := paths10) (css := paths10.map fun x => [.string (S x)]) (Fs := List.replicate paths10.length []) (Ext.refl h) (rowsR.mkFlat paths10) (by rw [flat_rep]; exact List.nodup_nil) (by rw [flat_rep]; simp)
  rw [flat_strs, flat_rep] at o
  simp [Try.f106]
  exact ⟨_, ⟨rfl, rfl⟩, _, o⟩
/-- An image in a local box, drawn since h1. -/
structure LR (h1 : Hp) (c bi : Nat) (H : Hp) (f : Fs) (b1 b2 : Option Addr) (G1 G2 : List Nat) : Prop where
  k : DFs h1 c H f b1 b2 G1 G2
  box : H[bi]? = some ⟨true, true, 27, [.slice b1 f.nodes.length f.nodes.length, .slice b2 f.data.length f.data.length]⟩
  m1 : bi ∉ G1
  m2 : bi ∉ G2
  hb : h1.length ≤ bi
section
variable {h1 H H2 : Hp} {c bi : Nat} {f g : Fs} {b1 b2 : Option Addr} {G1 G2 : List Nat}
theorem LR.step (l : LR h1 c bi H f b1 b2 G1 G2) (hc : c < h1.length) (x : Dr c H H2) (d : Draw H2 c) : LR h1 c bi H2 f b1 b2 G1 G2 :=
  ⟨l.k.step hc x d, by rw [x.2 bi (get_lt l.box) (by have := l.hb; omega)]; exact l.box, l.m1, l.m2, l.hb⟩
theorem LR.cells (l : LR h1 c bi H f b1 b2 G1 G2) : cellAt H bi 0 = some (.slice b1 f.nodes.length f.nodes.length) ∧ cellAt H bi 1 = some (.slice b2 f.data.length f.data.length) := by
  constructor <;> simp [cellAt, l.box]
/-- The box is set to what a call gave. -/
theorem LR.store (l : LR h1 c bi H f b1 b2 G1 G2) (hc : c < h1.length) {c1 c2 : Option Addr} (r : FsRes g H H2 (.agg #[.slice c1 g.nodes.length g.nodes.length, .slice c2 g.data.length g.data.length])) :
    canSet H2 bi 0 2 = true ∧ ∃ K1 K2, LR h1 c bi (setsAt H2 bi 0 [.slice c1 g.nodes.length g.nodes.length, .slice c2 g.data.length g.data.length]) g c1 c2 K1 K2 := by
  obtain ⟨d1, d2, K1, K2, e, k⟩ := DFs.res l.k.dr l.k.d r
  simp only [Value.agg.injEq, Array.mk.injEq, List.cons.injEq, Value.slice.injEq, and_true, true_and] at e
  obtain ⟨rfl, rfl⟩ := e
  obtain ⟨e1, L1, e2, L2, ee, o1, o2, dj⟩ := r
  simp only [Value.agg.injEq, Array.mk.injEq, List.cons.injEq, Value.slice.injEq, and_true, true_and] at ee
  obtain ⟨rfl, rfl⟩ := ee
  have hbl := get_lt l.box
  have hb2 : H2[bi]? = some ⟨true, true, 27, [.slice b1 f.nodes.length f.nodes.length, .slice b2 f.data.length f.data.length]⟩ := by rw [o1.ext.2 bi hbl]; exact l.box
  have hne : ∀ q, q ≠ bi → (setsAt H2 bi 0 [.slice c1 g.nodes.length g.nodes.length, .slice c2 g.data.length g.data.length])[q]? = H2[q]? := fun q hq => by rw [setsAt_get, if_neg (fun e => hq e.symm)]
  have n1 : bi ∉ L1 := fun hm => by have := o1.new _ hm; omega
  have n2 : bi ∉ L2 := fun hm => by have := o2.new _ hm; omega
  have hlb := l.hb
  have dr2 : Dr c H2 (setsAt H2 bi 0 [.slice c1 g.nodes.length g.nodes.length, .slice c2 g.data.length g.data.length]) → True := fun _ => trivial
  refine ⟨by simp [canSet, hb2], L1, L2, ⟨⟨?_, fun q hq hn => ?_⟩, ?_, o1.sl.frame fun q hq => hne q (fun e => n1 (e ▸ hq)), o2.sl.frame fun q hq => hne q (fun e => n2 (e ▸ hq)), o1.nd, o2.nd, fun q hq => Nat.le_trans l.k.dr.1 (o1.new q hq), fun q hq => Nat.le_trans l.k.dr.1 (o2.new q hq), dj⟩, ?_, n1, n2, hlb⟩
  · rw [setsAt_len]; exact Nat.le_trans l.k.dr.1 o1.ext.1
  · rw [hne q (by omega), o1.ext.2 q (by have := l.k.dr.1; omega)]; exact l.k.dr.2 q hq hn
  · exact (l.k.d.ext o1.ext).frame fun q hq => hne q (by omega)
  · rw [setsAt_get, if_pos rfl, hb2]; rfl
end
/-- Some image lies in the box. -/
def LX (h1 : Hp) (c bi : Nat) (f0 : Fs) (H : Hp) : Prop := ∃ f b1 b2 G1 G2, LR h1 c bi H f b1 b2 G1 G2 ∧ f.nl ≤ 1000 ∧ SL f0 f
set_option maxHeartbeats 4000000 in
theorem l11Right_c (c : Nat) (h : Hp) (d : Draw h c) :
    ACall Try.prog 79 [.pointer (some ⟨c, 0, none⟩)] h fun r h' => ∃ f b1 b2 G1 G2, r = .agg #[.slice b1 f.nodes.length f.nodes.length, .slice b2 f.data.length f.data.length] ∧ DFs h c h' f b1 b2 G1 G2 ∧ f.nl ≤ 1000 ∧ 2 ≤ f.nodes.length ∧ f.nodes.length ≤ 10 ∧ 1 ≤ f.data.length ∧ f.data.length ≤ 36 := by
  refine acall mixed Try.func79 rfl (by kernel_rfl) ?_
  have hc := d.lt
  simp [Try.f79]
  obtain ⟨h1, hh1⟩ : ∃ h1 : Hp, h1 = h ++ [⟨true, true, 27, [.slice none 0 0, .slice none 0 0]⟩] := ⟨_, rfl⟩
  have d1 : Draw h1 c := by rw [hh1]; exact d.ext (Ext.push _ _)
  have hl1 : h1.length = h.length + 1 := by rw [hh1]; simp
  have hc1 : c < h1.length := by omega
  have res1 : h1[h.length]? = some ⟨true, true, 27, [.slice none 0 0, .slice none 0 0]⟩ := by rw [hh1]; simp
  have x1 : Ext h h1 := by rw [hh1]; exact Ext.push _ _
  have hp := pick_c [4, 7, 10] c h1 d1 (by decide) (by decide)
  simp only [List.map_cons, List.map_nil, List.length_cons, List.length_nil, Nat.zero_add, Nat.reduceAdd, hl1] at hp
  rw [hh1] at hp
  simp only [List.append_assoc, List.cons_append, List.nil_append] at hp
  refine callK0 hp ?_
  rintro _ H1 ⟨dr1, d1', n, hn, rfl⟩
  rw [← hh1] at dr1
  have hn' : 4 ≤ n ∧ n ≤ 10 := by simp at hn; omega
  obtain ⟨n, rfl⟩ : ∃ m : Nat, n = m := ⟨n.toNat, by omega⟩
  simp
  have hp := pick_c [6, 14, 30] c H1 d1' (by decide) (by decide)
  simp only [List.map_cons, List.map_nil, List.length_cons, List.length_nil, Nat.zero_add, Nat.reduceAdd] at hp
  refine callK0 hp ?_
  rintro _ H2 ⟨dr2, d2, m, hm, rfl⟩
  have hm' : 6 ≤ m ∧ m ≤ 30 := by simp at hm; omega
  obtain ⟨m, rfl⟩ : ∃ k : Nat, m = k := ⟨m.toNat, by omega⟩
  simp
  refine callK0 (fsNew_spec_c n m H2 (by omega) (by omega)) ?_
  rintro _ H3 ⟨v, rfl, r3⟩
  obtain ⟨b1, b2, G1, G2, rfl, k3⟩ := DFs.res (dr1.trans dr2) d2 r3
  obtain ⟨e1, L1, e2, L2, ee, o1, o2, dj⟩ := r3
  simp only [Value.agg.injEq, Array.mk.injEq, List.cons.injEq, Value.slice.injEq, and_true, true_and] at ee
  obtain ⟨rfl, rfl⟩ := ee
  have hnl := freshFs_nl n m (by omega)
  have len1 : (freshFs n m).nodes.length = n := by simp [freshFs]
  have len2 : (freshFs n m).data.length = m := by simp [freshFs]
  have hlH : h1.length ≤ H3.length := k3.dr.1
  simp
  have L : LR h1 c H3.length (H3 ++ [⟨true, true, 27, [.slice b1 (freshFs n m).nodes.length (freshFs n m).nodes.length, .slice b2 (freshFs n m).data.length (freshFs n m).data.length]⟩]) (freshFs n m) b1 b2 G1 G2 :=
    ⟨k3.step hc1 (Dr.of_ext (Ext.push _ _)) (k3.d.ext (Ext.push _ _)), by simp, fun hm => by have := k3.s1.lt _ hm; omega, fun hm => by have := k3.s2.lt _ hm; omega, hlH⟩
  refine callK0 (l1Below_c 9 c _ L.k.d) ?_
  rintro _ H4 ⟨dr4, d4, z, rfl, hz0, hz1, -⟩
  have hz1 := hz1 (by omega)
  obtain ⟨N, rfl⟩ : ∃ k : Nat, z = k := ⟨z.toNat, by omega⟩
  have L4 := L.step hc1 dr4 d4
  generalize hF0 : freshFs n m = f0 at *
  clear L k3 dr1 dr2 dr4 d4 o1 o2
  have nl0 : f0.nl ≤ 1000 := by omega
  have ln0 : 2 ≤ f0.nodes.length ∧ f0.nodes.length ≤ 10 ∧ 1 ≤ f0.data.length ∧ f0.data.length ≤ 36 := by omega
  clear hnl len1 len2 hn' hm' hm hn hF0
  simp
  obtain ⟨bi, hbi⟩ : ∃ bi, bi = H3.length := ⟨_, rfl⟩
  rw [← hbi] at L4 ⊢
  clear hbi hlH
  refine aloop mixed [0, 2, 3, 5, 6] (fun (y : Nat × Hp) => [.pointer (some ⟨c, 0, none⟩), .pointer (some ⟨h.length, 0, none⟩), .pointer (some ⟨bi, 0, none⟩), .int .i64 N, .int .i64 y.1]) (fun y => y.2)
    (fun y => y.1 ≤ N ∧ y.2[h.length]? = some ⟨true, true, 27, [.slice none 0 0, .slice none 0 0]⟩ ∧ LX h1 c bi f0 y.2) (fun y => N - y.1) (0, H4) ⟨by simp, by rw [L4.k.dr.2 _ (by omega) (by omega)]; exact res1, f0, b1, b2, G1, G2, L4, nl0, SL.refl _⟩ rfl rfl ?_
  clear L4
  rintro ⟨i, H⟩ ⟨hi, hres, f, b1, b2, G1, G2, L, nl, sl⟩
  simp only at hi hres L
  have xcl : ∀ {H' : Hp}, Dr c H H' → H'[h.length]? = some ⟨true, true, 27, [.slice none 0 0, .slice none 0 0]⟩ := fun {H'} x => by rw [x.2 _ (get_lt hres) (by omega)]; exact hres
  simp [mkF]
  refine asplitK_intro (fun hb => ?_) (fun hb => ?_) <;> simp at hb <;> simp [hb]
  · refine callK0 (l2Paths_c H) ?_
    rintro _ H5 ⟨ap, Fp, rfl, op⟩
    have L5 := L.step hc1 (Dr.of_ext op.ext) (L.k.d.ext op.ext)
    have hcH : c < H.length := by have := L.k.dr.1; omega
    simp
    refine callK0 (l1Pick_c c H5 ap Fp true _ paths10 op.sl (fun hm => by have := op.new _ hm; omega) (by decide) (by decide) L5.k.d) ?_
    rintro _ H6 ⟨dr6, d6, p, hp, rfl⟩
    have L6 := L5.step hc1 dr6 d6
    have hpl : p.length ≤ 1048576 := by
      have : ∀ s ∈ paths10, s.length ≤ 6 := by decide
      have := this p hp
      omega
    simp
    refine callK0 (l1Below_c 6 c H6 L6.k.d) ?_
    rintro _ H7 ⟨dr7, d7, z, rfl, hz0, hz1, -⟩
    have L7 := L6.step hc1 dr7 d7
    have drA : Dr c H H7 := ((Dr.of_ext op.ext).trans dr6).trans dr7
    have hresA := xcl drA
    clear L5 L6 dr6 d6 dr7 d7 op
    obtain ⟨q0, q1⟩ := L7.cells
    simp
    -- the round's end
    have fin : ∀ (g : Fs) (c1 c2 : Option Addr) (HA HB : Hp) (LA : LR h1 c bi HA f b1 b2 G1 G2) (hrA : HA[h.length]? = some ⟨true, true, 27, [.slice none 0 0, .slice none 0 0]⟩) (r : FsRes g HA HB (.agg #[.slice c1 g.nodes.length g.nodes.length, .slice c2 g.data.length g.data.length])) (hg : g.nl ≤ 1000) (hs : SL f g),
        canSet HB bi 0 2 = true ∧ (setsAt HB bi 0 [.slice c1 g.nodes.length g.nodes.length, .slice c2 g.data.length g.data.length])[h.length]? = some ⟨true, true, 27, [.slice none 0 0, .slice none 0 0]⟩ ∧ LX h1 c bi f0 (setsAt HB bi 0 [.slice c1 g.nodes.length g.nodes.length, .slice c2 g.data.length g.data.length]) := by
      intro g c1 c2 HA HB LA hrA r hg hs
      obtain ⟨h2, K1, K2, LB⟩ := LA.store hc1 r
      obtain ⟨_, _, _, _, _, o1, _, _⟩ := r
      have hlb := LA.hb
      refine ⟨h2, ?_, g, c1, c2, K1, K2, LB, hg, sl.trans hs⟩
      rw [setsAt_get, if_neg (by omega), o1.ext.2 _ (get_lt hrA)]
      exact hrA
    refine asplitK_intro (fun hA => ?_) (fun hA => ?_) <;> simp at hA <;> simp [hA]
    · simp [q0, q1]
      refine callK0 (fsMake_spec_c f b1 b2 G1 G2 true _ H7 L7.k.s1 L7.k.s2 (by omega) p 2 [] 0 0 hpl (by simp)) ?_
      rintro _ HB ⟨v, rfl, r⟩
      obtain ⟨c1, K1, c2, K2, rfl, o1, o2, dj⟩ := id r
      obtain ⟨g1, g2, g3⟩ := fin _ c1 c2 H7 HB L7 hresA r (fsMake_nlN (Nat.le_refl _) _ _ _ _ _ _ nl) (fsMake_sl _ _ _ _ _ _)
      simp [g1]
      exact anext (i + 1, _) ⟨hb, g2, g3⟩ (by simp only; omega) (by simp [pickF, wrap_succ (show i < 9223372036854775807 by omega)]) rfl (by simp)
    refine asplitK_intro (fun hB => ?_) (fun hB => ?_) <;> simp at hB <;> simp [hB]
    · refine drawLA false [1, 2, 3, 4, 5] [0] [6, 7, 8, 9, 10] (by simp; rfl) (by simp; rfl) (by simp; rfl) (by kernel_rfl) rfl ?_
      simp [q0, q1]
      refine callK0 (l1Below_c 9 c H7 L7.k.d) ?_
      rintro _ H8 ⟨dr8, d8, z8, rfl, hz80, hz81, -⟩
      have L8 := L7.step hc1 dr8 d8
      obtain ⟨u0, u1⟩ := L8.cells
      simp [u0, u1]
      refine callK0 (l1Below_c 5 c H8 L8.k.d) ?_
      rintro _ H9 ⟨dr9, d9, z9, rfl, hz90, hz91, -⟩
      have L9 := L8.step hc1 dr9 d9
      obtain ⟨v0, v1⟩ := L9.cells
      simp [v0, v1]
      refine callK0 (fsMake_spec_c f b1 b2 G1 G2 true _ H9 L9.k.s1 L9.k.s2 (by omega) p 3 [47, 113] z8 z9 hpl (by simp)) ?_
      rintro _ HB ⟨v, rfl, r⟩
      obtain ⟨c1, K1, c2, K2, rfl, o1, o2, dj⟩ := id r
      obtain ⟨g1, g2, g3⟩ := fin _ c1 c2 H9 HB L9 (xcl (drA.trans (dr8.trans dr9))) r (fsMake_nlN (Nat.le_refl _) _ _ _ _ _ _ nl) (fsMake_sl _ _ _ _ _ _)
      simp [g1]
      exact anext (i + 1, _) ⟨hb, g2, g3⟩ (by simp only; omega) (by simp [pickF, wrap_succ (show i < 9223372036854775807 by omega)]) rfl (by simp)
    refine asplitK_intro (fun hC => ?_) (fun hC => ?_) <;> simp at hC <;> simp [hC]
    · refine drawLA false [1, 2, 3, 4, 5, 6, 7] [0] [8, 9, 10, 11, 12] (by simp; rfl) (by simp; rfl) (by simp; rfl) (by kernel_rfl) rfl ?_
      simp [q0, q1]
      refine callK0 (l7Text_c c H7 L7.k.d) ?_
      rintro _ H7' ⟨dr7', d7', dt, rfl, hdt⟩
      have L7' := L7.step hc1 dr7' d7'
      obtain ⟨t0, t1⟩ := L7'.cells
      simp [t0, t1]
      refine callK0 (l1Below_c 9 c H7' L7'.k.d) ?_
      rintro _ H8 ⟨dr8, d8, z8, rfl, hz80, hz81, -⟩
      have L8 := L7'.step hc1 dr8 d8
      obtain ⟨u0, u1⟩ := L8.cells
      simp [u0, u1]
      refine callK0 (l1Below_c 5 c H8 L8.k.d) ?_
      rintro _ H9 ⟨dr9, d9, z9, rfl, hz90, hz91, -⟩
      have L9 := L8.step hc1 dr9 d9
      obtain ⟨v0, v1⟩ := L9.cells
      simp [v0, v1]
      refine callK0 (fsSet_spec_c f b1 b2 G1 G2 true _ H9 L9.k.s1 L9.k.s2 (by omega) p dt z8 z9 hpl (by omega)) ?_
      rintro _ HB ⟨v, rfl, r⟩
      obtain ⟨c1, K1, c2, K2, rfl, o1, o2, dj⟩ := id r
      obtain ⟨g1, g2, g3⟩ := fin _ c1 c2 H9 HB L9 (xcl (drA.trans (dr7'.trans (dr8.trans dr9)))) r (fsSet_nlN (Nat.le_refl _) _ _ _ _ _ nl) (fsSet_sl _ _ _ _ _)
      simp [g1]
      exact anext (i + 1, _) ⟨hb, g2, g3⟩ (by simp only; omega) (by simp [pickF, wrap_succ (show i < 9223372036854775807 by omega)]) rfl (by simp)
    refine asplitK_intro (fun hD => ?_) (fun hD => ?_) <;> simp at hD <;> simp [hD]
    · simp [q0, q1]
      refine callK0 (fsDrop_spec_c f b1 b2 G1 G2 true _ H7 L7.k.s1 L7.k.s2 (by omega) p hpl) ?_
      rintro _ HB ⟨v, rfl, r⟩
      obtain ⟨c1, K1, c2, K2, rfl, o1, o2, dj⟩ := id r
      obtain ⟨g1, g2, g3⟩ := fin _ c1 c2 H7 HB L7 hresA r (fsDrop_nlN (Nat.le_refl _) _ _ nl) (fsDrop_sl _ _)
      simp [g1]
      exact anext (i + 1, _) ⟨hb, g2, g3⟩ (by simp only; omega) (by simp [pickF, wrap_succ (show i < 9223372036854775807 by omega)]) rfl (by simp)
    · refine drawLA false [1, 2, 3, 4, 5, 6, 7] [0] [8, 9, 10, 11, 12] (by simp; rfl) (by simp; rfl) (by simp; rfl) (by kernel_rfl) rfl ?_
      simp [q0, q1]
      refine callK0 (l7Text_c c H7 L7.k.d) ?_
      rintro _ H7' ⟨dr7', d7', dt, rfl, hdt⟩
      have L7' := L7.step hc1 dr7' d7'
      obtain ⟨t0, t1⟩ := L7'.cells
      simp [t0, t1]
      refine callK0 (l1Below_c 9 c H7' L7'.k.d) ?_
      rintro _ H8 ⟨dr8, d8, z8, rfl, hz80, hz81, -⟩
      have L8 := L7'.step hc1 dr8 d8
      obtain ⟨u0, u1⟩ := L8.cells
      simp [u0, u1]
      refine callK0 (l1Below_c 5 c H8 L8.k.d) ?_
      rintro _ H9 ⟨dr9, d9, z9, rfl, hz90, hz91, -⟩
      have L9 := L8.step hc1 dr9 d9
      obtain ⟨v0, v1⟩ := L9.cells
      simp [v0, v1]
      refine callK0 (fsMake_spec_c f b1 b2 G1 G2 true _ H9 L9.k.s1 L9.k.s2 (by omega) p 1 dt z8 z9 hpl (by omega)) ?_
      rintro _ HB ⟨v, rfl, r⟩
      obtain ⟨c1, K1, c2, K2, rfl, o1, o2, dj⟩ := id r
      obtain ⟨g1, g2, g3⟩ := fin _ c1 c2 H9 HB L9 (xcl (drA.trans (dr7'.trans (dr8.trans dr9)))) r (fsMake_nlN (Nat.le_refl _) _ _ _ _ _ _ nl) (fsMake_sl _ _ _ _ _ _)
      simp [g1]
      exact anext (i + 1, _) ⟨hb, g2, g3⟩ (by simp only; omega) (by simp [pickF, wrap_succ (show i < 9223372036854775807 by omega)]) rfl (by simp)
  · -- the end
    refine callK0 (l1Once_c 12 c H L.k.d) ?_
    rintro _ H5 ⟨dr5, d5, b, rfl⟩
    have L5 := L.step hc1 dr5 d5
    have res5 := xcl dr5
    obtain ⟨q0, q1⟩ := L5.cells
    -- the box is given back
    have out : ∀ (HA : Hp) (f : Fs) (b1 b2 : Option Addr) (G1 G2 : List Nat), LR h1 c bi HA f b1 b2 G1 G2 → HA[h.length]? = some ⟨true, true, 27, [.slice none 0 0, .slice none 0 0]⟩ → SL f0 f → f.nl ≤ 1000 →
        canSet HA h.length 0 2 = true ∧ cellAt (setsAt HA h.length 0 [.slice b1 f.nodes.length f.nodes.length, .slice b2 f.data.length f.data.length]) h.length 0 = some (.slice b1 f.nodes.length f.nodes.length) ∧ cellAt (setsAt HA h.length 0 [.slice b1 f.nodes.length f.nodes.length, .slice b2 f.data.length f.data.length]) h.length 1 = some (.slice b2 f.data.length f.data.length) ∧
        DFs h c (setsAt HA h.length 0 [.slice b1 f.nodes.length f.nodes.length, .slice b2 f.data.length f.data.length]) f b1 b2 G1 G2 ∧ 2 ≤ f.nodes.length ∧ f.nodes.length ≤ 10 ∧ 1 ≤ f.data.length ∧ f.data.length ≤ 36 := by
      intro HA f b1 b2 G1 G2 LA hr hs hn
      have hne : ∀ q, q ≠ h.length → (setsAt HA h.length 0 [.slice b1 f.nodes.length f.nodes.length, .slice b2 f.data.length f.data.length])[q]? = HA[q]? := fun q hq => by rw [setsAt_get, if_neg (fun e => hq e.symm)]
      have hself : (setsAt HA h.length 0 [.slice b1 f.nodes.length f.nodes.length, .slice b2 f.data.length f.data.length])[h.length]? = some ⟨true, true, 27, [.slice b1 f.nodes.length f.nodes.length, .slice b2 f.data.length f.data.length]⟩ := by rw [setsAt_get, if_pos rfl, hr]; rfl
      have k := LA.k
      refine ⟨by simp [canSet, hr], by simp [cellAt, hself], by simp [cellAt, hself], ⟨⟨by rw [setsAt_len]; have := k.dr.1; omega, fun q hq hn => by rw [hne q (by omega), k.dr.2 q (by omega) hn]; exact x1.2 q hq⟩, k.d.frame fun q hq => hne q (by omega), k.s1.frame fun q hq => hne q (by have := k.w1 q hq; omega), k.s2.frame fun q hq => hne q (by have := k.w2 q hq; omega), k.n1, k.n2, fun q hq => by have := k.w1 q hq; omega, fun q hq => by have := k.w2 q hq; omega, k.dj⟩, by have := hs.1; omega, by have := hs.1; omega, by have := hs.2; omega, by have := hs.2; omega⟩
    cases b
    · simp [q0, q1]
      obtain ⟨o1, o2, o3, o4, o5, o6, o7, o8⟩ := out H5 f b1 b2 G1 G2 L5 res5 sl nl
      simp [o1, o2, o3]
      exact ⟨f, b1, b2, ⟨⟨rfl, rfl⟩, rfl, rfl⟩, ⟨G1, G2, o4⟩, nl, o5, o6, o7, o8⟩
    · simp
      refine drawLA false [1, 2] [0] [3, 4, 5, 6, 7] (by simp; rfl) (by simp; rfl) (by simp; rfl) (by kernel_rfl) rfl ?_
      simp [q0, q1]
      refine callK0 (l7Text_c c H5 L5.k.d) ?_
      rintro _ H6 ⟨dr6, d6, dt, rfl, hdt⟩
      have L6 := L5.step hc1 dr6 d6
      obtain ⟨t0, t1⟩ := L6.cells
      simp [t0, t1]
      refine callK0 (fsHide_spec_c f b1 b2 G1 G2 true _ H6 L6.k.s1 L6.k.s2 (by omega) dt (by omega)) ?_
      rintro _ HB ⟨v, rfl, r⟩
      obtain ⟨c1, K1, c2, K2, rfl, o1, o2, dj⟩ := id r
      obtain ⟨g1, M1, M2, LB⟩ := L6.store hc1 r
      have hlb := L6.hb
      have resB : (setsAt HB bi 0 [.slice c1 (fsHide f dt).1.nodes.length (fsHide f dt).1.nodes.length, .slice c2 (fsHide f dt).1.data.length (fsHide f dt).1.data.length])[h.length]? = some ⟨true, true, 27, [.slice none 0 0, .slice none 0 0]⟩ := by
        have r6 := xcl (dr5.trans dr6)
        rw [setsAt_get, if_neg (by omega), o1.ext.2 _ (get_lt r6)]
        exact r6
      obtain ⟨p1, p2⟩ := LB.cells
      simp [g1, p1, p2]
      obtain ⟨y1, y2, y3, y4, y5, y6, y7, y8⟩ := out _ (fsHide f dt).1 c1 c2 M1 M2 LB resB (sl.trans (fsHide_sl _ _)) (fsHide_nlN (Nat.le_refl _) _ _ nl)
      simp [y1, y2, y3]
      exact ⟨(fsHide f dt).1, c1, c2, ⟨⟨rfl, rfl⟩, rfl, rfl⟩, ⟨M1, M2, y4⟩, fsHide_nlN (Nat.le_refl _) _ _ nl, y5, y6, y7, y8⟩
end Go.Proofs.Ytgfilbekfkhjjaa.Hz
