/- The draws of images, right or bent. -/
import Derived.Test.YtgfilbekfkhjjaaHyDN
import Derived.Test.YtgfilbekfkhjjaaHyGF
import Derived.Test.YtgfilbekfkhjjaaHyGH
import Derived.Test.YtgfilbekfkhjjaaHyGK
namespace Go.Proofs.Ytgfilbekfkhjjaa.Hz
open Go.RowKit
set_option linter.unusedVariables false
set_option linter.unusedSimpArgs false
set_option maxRecDepth 20000

/-- An image drawn since h, to be read. -/
structure DRd (h : Hp) (c : Nat) (H : Hp) (f : Fs) (b1 b2 : Option Addr) (G1 G2 : List Nat) : Prop where
  dr : Dr c h H
  d : Draw H c
  s1 : slR true 39 (nodeE true) H f.nodes b1 G1
  s2 : slR true 9 strE H f.data b2 G2
  w1 : ∀ q ∈ G1, h.length ≤ q
  w2 : ∀ q ∈ G2, h.length ≤ q
section
variable {h H H2 : Hp} {c : Nat} {f g : Fs} {b1 b2 : Option Addr} {G1 G2 : List Nat}
theorem DRd.step (k : DRd h c H f b1 b2 G1 G2) (hc : c < h.length) (x : Dr c H H2) (d : Draw H2 c) : DRd h c H2 f b1 b2 G1 G2 :=
  ⟨k.dr.trans x, d, x.sl k.s1 (fun hm => by have := k.w1 _ hm; omega), x.sl k.s2 (fun hm => by have := k.w2 _ hm; omega), k.w1, k.w2⟩
theorem DFs.rd (k : DFs h c H f b1 b2 G1 G2) : DRd h c H f b1 b2 G1 G2 := ⟨k.dr, k.d, k.s1, k.s2, k.w1, k.w2⟩
end
/-- What a draw of an image gives. -/
def FD (h : Hp) (c : Nat) (h' : Hp) (f : Fs) (r : Value) : Prop := ∃ b1 b2 G1 G2, r = .agg #[.slice b1 f.nodes.length f.nodes.length, .slice b2 f.data.length f.data.length] ∧ DRd h c h' f b1 b2 G1 G2
section
variable {h1 H : Hp} {c bi : Nat} {f : Fs} {b2 : Option Addr} {G1 G2 : List Nat} {o off : Nat}
/-- The image after a change in its nodes' own blocks. -/
theorem LR.done (l : LR h1 c bi H f (some ⟨o, off, none⟩) b2 G1 G2) (hc : c < h1.length) {oo p : Nat} {vs : List Value} {ns : List Node} {F' : List Nat} (ho : oo ∈ G1) (s : slR true 39 (nodeE true) (setsAt H oo p vs) ns (some ⟨o, off, none⟩) F') (hF : ∀ q ∈ F', h1.length ≤ q) :
    DRd h1 c (setsAt H oo p vs) ⟨ns, f.data⟩ (some ⟨o, off, none⟩) b2 F' G2 ∧ (setsAt H oo p vs)[bi]? = some ⟨true, true, 27, [.slice (some ⟨o, off, none⟩) f.nodes.length f.nodes.length, .slice b2 f.data.length f.data.length]⟩ := by
  have h2 := l.k.w1 oo ho
  have hne : ∀ q, q ≠ oo → (setsAt H oo p vs)[q]? = H[q]? := fun q hq => by rw [setsAt_get, if_neg (fun e => hq e.symm)]
  refine ⟨⟨⟨by rw [setsAt_len]; exact l.k.dr.1, fun q hq hn => by rw [hne q (by omega)]; exact l.k.dr.2 q hq hn⟩, l.k.d.frame fun q hq => hne q (by omega), s, l.k.s2.frame fun q hq => hne q (fun e => l.k.dj oo ho (e ▸ hq)), hF, l.k.w2⟩, ?_⟩
  rw [hne bi (fun e => l.m1 (e ▸ ho))]
  exact l.box
end
theorem relV_fs {φ : Inj} {a1 a2 : Option Addr} {n c m : Nat} {v : Value} (hc : n ≤ c) (r : RelV φ (.agg #[.slice a1 n c, .slice a2 m m]) v) : RelV φ (.agg #[.slice a1 n n, .slice a2 m m]) v := by
  obtain ⟨cs, e, k⟩ := r
  refine ⟨cs, e, ?_⟩
  obtain ⟨u1, l, e1, r1, k⟩ := All2.cons_iff.1 k
  rw [e1]
  exact ⟨relV_cap hc r1, k⟩
theorem nl_set (f : Fs) (i : Nat) (hi : i < f.nodes.length) (x : Node) : (⟨f.nodes.set i x, f.data⟩ : Fs).nl + f.nodes[i].nl = f.nl + x.nl := by
  have := sumL_set Node.nl f.nodes i hi x
  simp only [Fs.nl, List.length_set]
  omega
set_option maxHeartbeats 8000000 in
theorem l6DrawC_c (c : Nat) (h : Hp) (d : Draw h c) :
    ACall Try.prog 39 [.pointer (some ⟨c, 0, none⟩)] h fun r h' => ∃ (f : Fs) (b1 b2 : Option Addr) (G1 G2 : List Nat) (cp : Nat), r = .agg #[.slice b1 f.nodes.length cp, .slice b2 f.data.length f.data.length] ∧ f.nodes.length ≤ cp ∧ DRd h c h' f b1 b2 G1 G2 ∧ f.nl ≤ 2000 ∧ 1 ≤ f.nodes.length ∧ f.nodes.length ≤ 10 ∧ 1 ≤ f.data.length ∧ f.data.length ≤ 36 := by
  refine acall mixed Try.func39 rfl (by kernel_rfl) ?_
  have hc := d.lt
  simp [Try.f39]
  obtain ⟨h1, hh1⟩ : ∃ h1 : Hp, h1 = h ++ [⟨true, true, 27, [.slice none 0 0, .slice none 0 0]⟩] := ⟨_, rfl⟩
  have d1 : Draw h1 c := by rw [hh1]; exact d.ext (Ext.push _ _)
  have hl1 : h1.length = h.length + 1 := by rw [hh1]; simp
  have hc1 : c < h1.length := by omega
  have res1 : h1[h.length]? = some ⟨true, true, 27, [.slice none 0 0, .slice none 0 0]⟩ := by rw [hh1]; simp
  have x1 : Ext h h1 := by rw [hh1]; exact Ext.push _ _
  rw [← hh1]
  refine callK0 (l11Right_c c h1 d1) ?_
  rintro _ H1 ⟨f, b1, b2, G1, G2, rfl, k1, nl, n2, n10, m1, m36⟩
  have hH1 := k1.dr.1
  simp
  have L : LR h1 c H1.length (H1 ++ [⟨true, true, 27, [.slice b1 f.nodes.length f.nodes.length, .slice b2 f.data.length f.data.length]⟩]) f b1 b2 G1 G2 :=
    ⟨k1.step hc1 (Dr.of_ext (Ext.push _ _)) (k1.d.ext (Ext.push _ _)), by simp, fun hm => by have := k1.s1.lt _ hm; omega, fun hm => by have := k1.s2.lt _ hm; omega, hH1⟩
  obtain ⟨bi, hbi⟩ : ∃ bi, bi = H1.length := ⟨_, rfl⟩
  generalize hHb : H1 ++ [(⟨true, true, 27, [.slice b1 f.nodes.length f.nodes.length, .slice b2 f.data.length f.data.length]⟩ : Ob)] = Hb at L ⊢
  rw [← hbi] at L ⊢
  clear hHb k1
  obtain ⟨p0, p1⟩ := L.cells
  refine callK0 (l1Below_c f.nodes.length c Hb L.k.d) ?_
  rintro _ H2 ⟨dr2, d2, z, rfl, hz0, hz1, -⟩
  have hz1 := hz1 (by omega)
  obtain ⟨i, rfl⟩ : ∃ i : Nat, z = i := ⟨z.toNat, by omega⟩
  have hi : i < f.nodes.length := by omega
  have L2 := L.step hc1 dr2 d2
  try simp
  refine callK0 (l1Below_c 16 c H2 L2.k.d) ?_
  rintro _ H3 ⟨dr3, d3, k, rfl, -, -, -⟩
  have L3 := L2.step hc1 dr3 d3
  clear L L2 dr2 d2 dr3 d3 p0 p1 hz0 hz1
  obtain ⟨q0, q1⟩ := L3.cells
  have hlb := L3.hb
  have lt3 := L3.k.s1.lt
  have l13 := L3.k.dr.1
  -- the box is given back
  have out : ∀ (HA : Hp) (g : Fs) (c1 c2 : Option Addr) (K1 K2 : List Nat) (cp : Nat), DRd h1 c HA g c1 c2 K1 K2 → HA[bi]? = some ⟨true, true, 27, [.slice c1 g.nodes.length cp, .slice c2 g.data.length g.data.length]⟩ → g.nodes.length ≤ cp → g.nl ≤ 2000 → 1 ≤ g.nodes.length ∧ g.nodes.length ≤ 10 ∧ 1 ≤ g.data.length ∧ g.data.length ≤ 36 →
      (∀ j, cellAt HA bi j = ([Value.slice c1 g.nodes.length cp, .slice c2 g.data.length g.data.length])[j]?) ∧ canSet HA h.length 0 2 = true ∧ (∀ j, cellAt (setsAt HA h.length 0 [.slice c1 g.nodes.length cp, .slice c2 g.data.length g.data.length]) h.length j = ([Value.slice c1 g.nodes.length cp, .slice c2 g.data.length g.data.length])[j]?) ∧
      ∃ (f : Fs) (b1 b2 : Option Addr) (G1 G2 : List Nat) (cp' : Nat), Value.agg #[.slice c1 g.nodes.length cp, .slice c2 g.data.length g.data.length] = .agg #[.slice b1 f.nodes.length cp', .slice b2 f.data.length f.data.length] ∧ f.nodes.length ≤ cp' ∧ DRd h c (setsAt HA h.length 0 [.slice c1 g.nodes.length cp, .slice c2 g.data.length g.data.length]) f b1 b2 G1 G2 ∧ f.nl ≤ 2000 ∧ 1 ≤ f.nodes.length ∧ f.nodes.length ≤ 10 ∧ 1 ≤ f.data.length ∧ f.data.length ≤ 36 := by
    intro HA g c1 c2 K1 K2 cp kA bx hcp gnl gl
    have hr : HA[h.length]? = some ⟨true, true, 27, [.slice none 0 0, .slice none 0 0]⟩ := by rw [kA.dr.2 _ (by omega) (by omega)]; exact res1
    have hne : ∀ q, q ≠ h.length → (setsAt HA h.length 0 [.slice c1 g.nodes.length cp, .slice c2 g.data.length g.data.length])[q]? = HA[q]? := fun q hq => by rw [setsAt_get, if_neg (fun e => hq e.symm)]
    have hself : (setsAt HA h.length 0 [.slice c1 g.nodes.length cp, .slice c2 g.data.length g.data.length])[h.length]? = some ⟨true, true, 27, [.slice c1 g.nodes.length cp, .slice c2 g.data.length g.data.length]⟩ := by rw [setsAt_get, if_pos rfl, hr]; rfl
    exact ⟨fun j => by simp [cellAt, bx], by simp [canSet, hr], fun j => by simp [cellAt, hself], g, c1, c2, K1, K2, cp, rfl, hcp, ⟨⟨by rw [setsAt_len]; have := kA.dr.1; omega, fun q hq hn => by rw [hne q (by omega), kA.dr.2 q (by omega) hn]; exact x1.2 q hq⟩, kA.d.frame fun q hq => hne q (by omega), kA.s1.frame fun q hq => hne q (by have := kA.w1 q hq; omega), kA.s2.frame fun q hq => hne q (by have := kA.w2 q hq; omega), fun q hq => by have := kA.w1 q hq; omega, fun q hq => by have := kA.w2 q hq; omega⟩, gnl, gl⟩
  simp
  refine asplitK_intro (fun h0 => ?_) (fun h0 => ?_) <;> simp at h0 <;> simp [h0]
  · refine drawLA false [2, 3, 4] [0, 1] [5, 6] (by simp; rfl) (by simp; rfl) (by simp; rfl) (by kernel_rfl) rfl ?_
    simp [q0]
    refine callK0 (l5Draw_c c H3 L3.k.d) ?_
    rintro _ H4 ⟨x, ⟨bx, Gx, rfl, dr4, d4, sx, ndx, wx⟩, hxl⟩
    have L4 := L3.step hc1 dr4 d4
    have hH4 := dr4.1
    clear L3 q0 q1 dr4
    obtain ⟨r0, r1⟩ := L4.cells
    obtain ⟨o, off, bb, Gb, rfl, -⟩ := nodeAt L4.k.s1 hi
    have hlo : o ∈ G1 := slR_some_mem L4.k.s1
    have hlH4 := L4.k.s1.lt
    obtain ⟨cc, Fi, hR, hFi, -, hput⟩ := (Own.any L4.k.s1 L4.k.n1).put (List.getElem?_eq_getElem hi)
    have hcl := (nodeE true).len hR
    have hlt3 : ∀ q ∈ G1, q < H3.length := lt3
    obtain ⟨g1, F', ow, -, g4⟩ := hput 0 [.int .i64 x.kind, .int .i64 x.gen, .int .i64 x.time, .int .i64 x.size, .slice bx x.blocks.length x.blocks.length] x Gx (by show 0 + 5 ≤ 5; omega) (by
      have : setL cc 0 [.int .i64 x.kind, .int .i64 x.gen, .int .i64 x.time, .int .i64 x.size, .slice bx x.blocks.length x.blocks.length] = [.int .i64 x.kind, .int .i64 x.gen, .int .i64 x.time, .int .i64 x.size, .slice bx x.blocks.length x.blocks.length] := setL_all _ _ (by rw [hcl]; rfl)
      rw [this]
      exact ⟨bx, Gx, rfl, rfl, sx⟩) (fun hm => by have h2 := hlt3 o hlo; have := wx _ hm; omega) ndx (fun q hq => ⟨Nat.zero_le _, fun hq1 => by have h2 := hlt3 q hq1; have := wx _ hq; omega⟩)
    have hn5 : (nodeE true).n = 5 := rfl
    simp only [hn5, Nat.add_zero, List.length_cons, List.length_nil] at g1 ow
    obtain ⟨kA, bA⟩ := L4.done hc1 hlo ow.sl (fun q hq => (g4 q hq).elim (L4.k.w1 q) (fun h2 => by have := wx q h2; have := L4.k.dr.1; omega))
    have hnl2 := nl_set f i hi x
    simp [r0, hi, g1]
    obtain ⟨z1, z2, z3, z4⟩ := out _ ⟨f.nodes.set i x, f.data⟩ _ _ _ _ f.nodes.length kA (by rw [bA]; simp) (by simp) (by have e5 : x.nl = x.blocks.length := rfl; omega) (by simp; omega)
    simp at z1 z2 z3 z4
    simp [z1, z2, z3]
    exact z4
  refine asplitK_intro (fun h0 => ?_) (fun h0 => ?_) <;> simp at h0 <;> simp [h0]
  · refine drawLA false [2, 3, 4, 5, 6] [0, 1] [7, 8] (by simp; rfl) (by simp; rfl) (by simp; rfl) (by kernel_rfl) rfl ?_
    simp [q1]
    refine callK0 (l1Below_c f.data.length c H3 L3.k.d) ?_
    rintro _ H4 ⟨dr4, d4, z, rfl, hz0, hz1, -⟩
    have hz1 := hz1 (by omega)
    obtain ⟨m, rfl⟩ : ∃ m : Nat, z = m := ⟨z.toNat, by omega⟩
    have hm : m < f.data.length := by omega
    have L4 := L3.step hc1 dr4 d4
    obtain ⟨r0, r1⟩ := L4.cells
    obtain ⟨o, off, rfl, -⟩ := strEAt L4.k.s2 hm
    have od := Own.any L4.k.s2 L4.k.n2
    have hG2 : G2 = [o] := od.flatF
    obtain ⟨g1, F', ow⟩ := od.putFlat hm [120] 0 [.string (S [120])] (by show 0 + 1 ≤ 1; omega) (by simp [setL])
    have hF' : F' = [o] := ow.flatF
    simp only [Nat.add_zero, Nat.mul_one, List.length_cons, List.length_nil] at g1 ow
    have ho2 : o ∈ G2 := by rw [hG2]; simp
    have h2 := L4.k.w2 o ho2
    have hne : ∀ q, q ≠ o → (setsAt H4 o (off + m) [.string (S [120])])[q]? = H4[q]? := fun q hq => by rw [setsAt_get, if_neg (fun e => hq e.symm)]
    have kA : DRd h1 c (setsAt H4 o (off + m) [.string (S [120])]) ⟨f.nodes, f.data.set m [120]⟩ b1 (some ⟨o, off, none⟩) G1 F' :=
      ⟨⟨by rw [setsAt_len]; exact L4.k.dr.1, fun q hq hn => by rw [hne q (by omega)]; exact L4.k.dr.2 q hq hn⟩, L4.k.d.frame fun q hq => hne q (by omega), L4.k.s1.frame fun q hq => hne q (fun e => L4.k.dj o (e ▸ hq) ho2), ow.sl, L4.k.w1, fun q hq => by rw [hF'] at hq; simp at hq; omega⟩
    have bA : (setsAt H4 o (off + m) [.string (S [120])])[bi]? = some ⟨true, true, 27, [.slice b1 f.nodes.length f.nodes.length, .slice (some ⟨o, off, none⟩) f.data.length f.data.length]⟩ := by
      rw [hne bi (fun e => L4.m2 (e ▸ ho2))]; exact L4.box
    have hsum := sumL_set List.length f.data m hm [120]
    have e5 : f.nl = f.nodes.length + sumL Node.nl f.nodes + f.data.length + sumL List.length f.data := rfl
    have e6 : (⟨f.nodes, f.data.set m [120]⟩ : Fs).nl = f.nodes.length + sumL Node.nl f.nodes + (f.data.set m [120]).length + sumL List.length (f.data.set m [120]) := rfl
    simp [r1, hm, g1]
    obtain ⟨z1, z2, z3, z4⟩ := out _ ⟨f.nodes, f.data.set m [120]⟩ _ _ _ _ f.nodes.length kA (by rw [bA]; simp) (by simp) (by rw [e6]; simp at hsum ⊢; omega) (by simp; omega)
    simp at z1 z2 z3 z4
    simp [z1, z2, z3]
    exact z4
  refine asplitK_intro (fun h0 => ?_) (fun h0 => ?_) <;> simp at h0 <;> simp [h0]
  · have hn0 : 0 < f.nodes.length := by omega
    obtain ⟨o, off, bb, Gb, rfl, -⟩ := nodeAt L3.k.s1 hn0
    have hel : elAt H3 o = some 39 := by
      obtain ⟨_, ob, css, Fs, pre, post, e1, e2, e3, e4, -⟩ := L3.k.s1
      simp only at e1
      simp [elAt, e1, e2, e4]
    obtain ⟨F', sp, hF'⟩ := L3.k.s1.part 0 1 (by omega) (by omega)
    simp only [Nat.zero_mul, Nat.add_zero, List.drop_zero] at sp
    have hne : ∀ q, q ≠ bi → (setsAt H3 bi 0 [.slice (some ⟨o, off, none⟩) 1 f.nodes.length])[q]? = H3[q]? := fun q hq => by rw [setsAt_get, if_neg (fun e => hq e.symm)]
    have kA : DRd h1 c (setsAt H3 bi 0 [.slice (some ⟨o, off, none⟩) 1 f.nodes.length]) ⟨f.nodes.take 1, f.data⟩ (some ⟨o, off, none⟩) b2 F' G2 :=
      ⟨⟨by rw [setsAt_len]; exact L3.k.dr.1, fun q hq hn => by rw [hne q (by omega)]; exact L3.k.dr.2 q hq hn⟩, L3.k.d.frame fun q hq => hne q (by omega), sp.frame fun q hq => hne q (fun e => L3.m1 (e ▸ hF' q hq)), L3.k.s2.frame fun q hq => hne q (fun e => L3.m2 (e ▸ hq)), fun q hq => L3.k.w1 q (hF' q hq), L3.k.w2⟩
    have bA : (setsAt H3 bi 0 [.slice (some ⟨o, off, none⟩) 1 f.nodes.length])[bi]? = some ⟨true, true, 27, [.slice (some ⟨o, off, none⟩) 1 f.nodes.length, .slice b2 f.data.length f.data.length]⟩ := by
      rw [setsAt_get, if_pos rfl, L3.box]; rfl
    have hcs : canSet H3 bi 0 1 = true := by simp [canSet, L3.box]
    have hs := sumL_take_le Node.nl f.nodes 1
    have e5 : f.nl = f.nodes.length + sumL Node.nl f.nodes + f.data.length + sumL List.length f.data := rfl
    have e6 : (⟨f.nodes.take 1, f.data⟩ : Fs).nl = (f.nodes.take 1).length + sumL Node.nl (f.nodes.take 1) + f.data.length + sumL List.length f.data := rfl
    have hl1 : (f.nodes.take 1).length = 1 := by simp; omega
    have hmx : max f.nodes.length f.nodes.length = f.nodes.length := Nat.max_self _
    simp [q0, asl2_j, hel, hn0, hcs]
    obtain ⟨z1, z2, z3, z4⟩ := out _ ⟨f.nodes.take 1, f.data⟩ _ _ _ _ f.nodes.length kA (by rw [bA]; simp only [hl1]) (by simp only [hl1]; omega) (by omega) (by simp only [hl1]; omega)
    simp only [hl1] at z1 z2 z3 z4
    simp at z1 z2 z3 z4
    simp [z1, z2, z3]
    exact ⟨by omega, z4⟩
  refine asplitK_intro (fun h0 => ?_) (fun h0 => ?_) <;> simp at h0 <;> simp [h0]
  · refine drawLA false [2, 3, 4] [0, 1] [5, 6, 7] (by simp; rfl) (by simp; rfl) (by simp; rfl) (by kernel_rfl) rfl ?_
    simp [q0]
    refine callK0 (l1Below_c 4 c H3 L3.k.d) ?_
    rintro _ H4 ⟨dr4, d4, z, rfl, hz0, hz1, -⟩
    have L4 := L3.step hc1 dr4 d4
    obtain ⟨r0, r1⟩ := L4.cells
    obtain ⟨o, off, bb, Gb, rfl, -⟩ := nodeAt L4.k.s1 hi
    obtain ⟨g1, ow⟩ := (Own.any L4.k.s1 L4.k.n1).nodeField' (List.getElem?_eq_getElem hi) 0 z ⟨z, f.nodes[i].gen, f.nodes[i].time, f.nodes[i].size, f.nodes[i].blocks⟩ (by omega) rfl (fun sl => rfl)
    obtain ⟨kA, bA⟩ := L4.done hc1 (slR_some_mem L4.k.s1) ow.sl L4.k.w1
    have hnl2 := nl_set f i hi ⟨z, f.nodes[i].gen, f.nodes[i].time, f.nodes[i].size, f.nodes[i].blocks⟩
    have e5 : Node.nl ⟨z, f.nodes[i].gen, f.nodes[i].time, f.nodes[i].size, f.nodes[i].blocks⟩ = f.nodes[i].nl := rfl
    simp only [Nat.add_zero] at g1 kA bA
    simp [r0, hi, g1]
    obtain ⟨z1, z2, z3, z4⟩ := out _ ⟨f.nodes.set i ⟨z, f.nodes[i].gen, f.nodes[i].time, f.nodes[i].size, f.nodes[i].blocks⟩, f.data⟩ _ _ _ _ f.nodes.length kA (by rw [bA]; simp) (by simp) (by omega) (by simp; omega)
    simp at z1 z2 z3 z4
    simp [z1, z2, z3]
    exact z4
  refine asplitK_intro (fun h0 => ?_) (fun h0 => ?_) <;> simp at h0 <;> simp [h0]
  · obtain ⟨o, off, bb, Gb, rfl, n0, n1, n2', n3, n4, -⟩ := nodeAt L3.k.s1 hi
    simp [q0, hi, n4]
    refine asplitK_intro (fun hb => ?_) (fun hb => ?_) <;> simp at hb <;> simp [hb]
    · refine drawLA false [6, 7, 8, 9, 10, 11] [0, 1, 2, 3, 4, 5] [12, 13] (by simp; rfl) (by simp; rfl) (by simp; rfl) (by kernel_rfl) rfl ?_
      have wd : IntKind.i64.wrap ((f.data.length : Int) + 1) = ((f.data.length + 1 : Nat) : Int) := wrap_succ (by omega)
      simp [q0, hi, n4, q1, wd]
      have hbe := l1Below_c (f.data.length + 1) c H3 L3.k.d
      simp at hbe
      refine callK0 hbe ?_
      rintro _ H4 ⟨dr4, d4, z, rfl, hz0', hz1', -⟩
      have L4 := L3.step hc1 dr4 d4
      obtain ⟨r0, r1⟩ := L4.cells
      have ho1 : o ∈ G1 := slR_some_mem L4.k.s1
      obtain ⟨cc, Fi, ⟨bb', Gb', rfl, rfl, sb⟩, hFn, hFs, hcell, hin, -⟩ := (Own.any L4.k.s1 L4.k.n1).row (List.getElem?_eq_getElem hi)
      have hn5 : (nodeE true).n = 5 := rfl
      have hc4 := hcell 4 (by show 4 < 5; omega)
      simp only [hn5] at hc4
      have hsame : cellAt H4 o (off + i * 5 + 4) = some (.slice bb f.nodes[i].blocks.length f.nodes[i].blocks.length) := by
        rw [cellAt_get (dr4.2 o (lt3 o ho1) (by have := L3.k.w1 o ho1; omega))]
        exact n4
      rw [hsame] at hc4
      simp at hc4
      subst hc4
      obtain ⟨ob, offb, rfl, -⟩ := intEAt sb hb
      have owb := Own.any sb hFn
      have hFi : Fi = [ob] := owb.flatF
      obtain ⟨g1, F'', ow⟩ := owb.putFlat hb z 0 [.int .i64 z] (by show 0 + 1 ≤ 1; omega) (by simp [setL])
      have hF'' : F'' = [ob] := ow.flatF
      simp only [Nat.add_zero, Nat.mul_one, Nat.zero_mul, List.length_cons, List.length_nil, Nat.zero_add] at g1 ow
      have hob : ob ∈ G1 := (hFs ob (by rw [hFi]; simp)).1
      have hne : ∀ q, q ≠ ob → (setsAt H4 ob offb [.int .i64 z])[q]? = H4[q]? := fun q hq => by rw [setsAt_get, if_neg (fun e => hq e.symm)]
      have oN := hin (setsAt H4 ob offb [.int .i64 z]) ⟨f.nodes[i].kind, f.nodes[i].gen, f.nodes[i].time, f.nodes[i].size, f.nodes[i].blocks.set 0 z⟩ ⟨Nat.zero_le _, fun _ hq => by simp at hq⟩ (fun q hq hn => hne q (fun e => hn (by rw [e, hFi]; simp))) ⟨some ⟨ob, offb, none⟩, [ob], by simp, by rw [hFi], by rw [← hF'']; exact ow.sl⟩
      obtain ⟨kA, bA⟩ := L4.done hc1 hob oN.sl L4.k.w1
      have hnl2 := nl_set f i hi ⟨f.nodes[i].kind, f.nodes[i].gen, f.nodes[i].time, f.nodes[i].size, f.nodes[i].blocks.set 0 z⟩
      have e5 : Node.nl ⟨f.nodes[i].kind, f.nodes[i].gen, f.nodes[i].time, f.nodes[i].size, f.nodes[i].blocks.set 0 z⟩ = f.nodes[i].nl := by show (f.nodes[i].blocks.set 0 z).length = f.nodes[i].blocks.length; simp
      simp [r0, hi, hsame, hb, g1]
      obtain ⟨z1, z2, z3, z4⟩ := out _ ⟨f.nodes.set i ⟨f.nodes[i].kind, f.nodes[i].gen, f.nodes[i].time, f.nodes[i].size, f.nodes[i].blocks.set 0 z⟩, f.data⟩ _ _ _ _ f.nodes.length kA (by rw [bA]; simp) (by simp) (by omega) (by simp; omega)
      simp at z1 z2 z3 z4
      simp [z1, z2, z3]
      exact z4
    · obtain ⟨z1, z2, z3, z4⟩ := out _ f _ _ _ _ f.nodes.length L3.k.rd L3.box (Nat.le_refl _) (by omega) (by omega)
      simp at z1 z2 z3 z4
      simp [z1, z2, z3]
      exact z4
  refine asplitK_intro (fun h0 => ?_) (fun h0 => ?_) <;> simp at h0 <;> simp [h0]
  · obtain ⟨o, off, bb, Gb, rfl, n0, n1, n2', n3, n4, -⟩ := nodeAt L3.k.s1 hi
    refine drawK true (by kernel_rfl) ?_
    obtain ⟨g1, ow⟩ := (Own.any L3.k.s1 L3.k.n1).nodeField' (List.getElem?_eq_getElem hi) 3 (IntKind.i64.wrap (f.nodes[i].size + 1)) ⟨f.nodes[i].kind, f.nodes[i].gen, f.nodes[i].time, IntKind.i64.wrap (f.nodes[i].size + 1), f.nodes[i].blocks⟩ (by omega) rfl (fun sl => rfl)
    obtain ⟨kA, bA⟩ := L3.done hc1 (slR_some_mem L3.k.s1) ow.sl L3.k.w1
    have hnl2 := nl_set f i hi ⟨f.nodes[i].kind, f.nodes[i].gen, f.nodes[i].time, IntKind.i64.wrap (f.nodes[i].size + 1), f.nodes[i].blocks⟩
    have e5 : Node.nl ⟨f.nodes[i].kind, f.nodes[i].gen, f.nodes[i].time, IntKind.i64.wrap (f.nodes[i].size + 1), f.nodes[i].blocks⟩ = f.nodes[i].nl := rfl
    simp [q0, hi, n3, g1]
    obtain ⟨z1, z2, z3, z4⟩ := out _ ⟨f.nodes.set i ⟨f.nodes[i].kind, f.nodes[i].gen, f.nodes[i].time, IntKind.i64.wrap (f.nodes[i].size + 1), f.nodes[i].blocks⟩, f.data⟩ _ _ _ _ f.nodes.length kA (by rw [bA]; simp) (by simp) (by omega) (by simp; omega)
    simp at z1 z2 z3 z4
    simp [z1, z2, z3]
    exact z4
  · obtain ⟨z1, z2, z3, z4⟩ := out _ f _ _ _ _ f.nodes.length L3.k.rd L3.box (Nat.le_refl _) (by omega) (by omega)
    simp at z1 z2 z3 z4
    simp [z1, z2, z3]
    exact z4
theorem l6Draw_c (c : Nat) (h : Hp) (d : Draw h c) :
    ACall Try.prog 39 [.pointer (some ⟨c, 0, none⟩)] h fun r h' => ∃ f : Fs, FD h c h' f r ∧ f.nl ≤ 2000 ∧ 1 ≤ f.nodes.length ∧ f.nodes.length ≤ 10 ∧ 1 ≤ f.data.length ∧ f.data.length ≤ 36 := by
  refine (l6DrawC_c c h d).weakRes ?_
  rintro _ h' ⟨f, b1, b2, G1, G2, cp, rfl, hcp, k, hl⟩
  exact ⟨_, fun φ u r => relV_fs hcp r, f, ⟨b1, b2, G1, G2, rfl, k⟩, hl⟩
end Go.Proofs.Ytgfilbekfkhjjaa.Hz
