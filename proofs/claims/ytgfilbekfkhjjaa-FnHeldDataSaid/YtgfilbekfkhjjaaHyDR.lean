/- The draws of arguments with an image. -/
import Derived.Test.YtgfilbekfkhjjaaHyDP
namespace Go.Proofs.Ytgfilbekfkhjjaa.Hz
open Go.RowKit
set_option linter.unusedVariables false
set_option linter.unusedSimpArgs false
set_option maxRecDepth 20000

/-- An image to be read, small. -/
structure FsIn (h : Hp) (f : Fs) (b1 b2 : Option Addr) (G1 G2 : List Nat) : Prop where
  s1 : slR true 39 (nodeE true) h f.nodes b1 G1
  s2 : slR true 9 strE h f.data b2 G2
  nl : f.nl ≤ 2000
  n1 : 1 ≤ f.nodes.length
  n10 : f.nodes.length ≤ 10
  d1 : 1 ≤ f.data.length
  d36 : f.data.length ≤ 36
theorem FsIn.ext {h h' : Hp} {f : Fs} {b1 b2 : Option Addr} {G1 G2 : List Nat} (k : FsIn h f b1 b2 G1 G2) (x : Ext h h') : FsIn h' f b1 b2 G1 G2 := ⟨k.s1.ext x, k.s2.ext x, k.nl, k.n1, k.n10, k.d1, k.d36⟩
set_option maxHeartbeats 2000000 in
theorem drawNodeMake_c (code : Str) (a : Option Addr) (F : List Nat) (w : Bool) (t : TypeId) (h : Hp) (k : slR w t byteE h code a F) (hn : code.length ≤ 1048576) :
    ACall Try.prog 17 [.slice a code.length code.length] h fun r h' => ∃ (f : Fs) (kind : Int) (b1 b2 : Option Addr) (G1 G2 : List Nat), r = .tuple #[.agg #[.slice b1 f.nodes.length f.nodes.length, .slice b2 f.data.length f.data.length], .int .i64 kind] ∧ FsIn h' f b1 b2 G1 G2 := by
  refine acall mixed Try.func17 rfl (by kernel_rfl) ?_
  simp [Try.f17]
  obtain ⟨h0, hh0⟩ : ∃ h0 : Hp, h0 = h ++ [⟨true, true, 27, [.slice none 0 0, .slice none 0 0]⟩] := ⟨_, rfl⟩
  have l0 : h0.length = h.length + 1 := by rw [hh0]; simp
  have q0 : h0[h.length]? = some ⟨true, true, 27, [.slice none 0 0, .slice none 0 0]⟩ := by rw [hh0]; simp
  have k0 : slR w t byteE h0 code a F := by rw [hh0]; exact k.ext (Ext.push _ _)
  rw [← hh0]
  refine callK0 (l1New_c code a F w t h0 k0 hn) ?_
  rintro _ H1 ⟨rfl, x1, d1⟩
  simp
  have hc := d1.lt
  have hx1 := x1.1
  have q1 : H1[h.length]? = some ⟨true, true, 27, [.slice none 0 0, .slice none 0 0]⟩ := by rw [x1.2 _ (by omega)]; exact q0
  refine callK0 (l6Draw_c h0.length H1 d1) ?_
  rintro _ H2 ⟨f, ⟨b1, b2, G1, G2, rfl, kf⟩, nl, n1, n10, m1, m36⟩
  simp
  have kb := kf.step hc (Dr.of_ext (Ext.push H2 [⟨true, true, 27, [.slice b1 f.nodes.length f.nodes.length, .slice b2 f.data.length f.data.length]⟩])) (kf.d.ext (Ext.push _ _))
  have hl2 := kf.dr.1
  have q2 : H2[h.length]? = some ⟨true, true, 27, [.slice none 0 0, .slice none 0 0]⟩ := by rw [kf.dr.2 _ (by omega) (by omega)]; exact q1
  have bx : (H2 ++ [(⟨true, true, 27, [.slice b1 f.nodes.length f.nodes.length, .slice b2 f.data.length f.data.length]⟩ : Ob)])[H2.length]? = some ⟨true, true, 27, [.slice b1 f.nodes.length f.nodes.length, .slice b2 f.data.length f.data.length]⟩ := by simp
  refine drawLA false [1, 2] [0] [4, 3, 5] (by simp; rfl) (by simp; rfl) (by simp; rfl) (by kernel_rfl) rfl ?_
  simp
  refine callK0 (l1Below_c 6 h0.length _ kb.d) ?_
  rintro _ H3 ⟨dr3, d3, z, rfl, hz0, hz1, -⟩
  have k3 := kb.step hc dr3 d3
  have hl3 := dr3.1
  simp only [List.length_append, List.length_cons, List.length_nil] at hl3
  have b3 : H3[H2.length]? = some ⟨true, true, 27, [.slice b1 f.nodes.length f.nodes.length, .slice b2 f.data.length f.data.length]⟩ := by rw [dr3.2 _ (by simp) (by omega)]; exact bx
  have q3 : H3[h.length]? = some ⟨true, true, 27, [.slice none 0 0, .slice none 0 0]⟩ := by
    rw [dr3.2 _ (by simp; omega) (by omega), List.getElem?_append_left (by omega)]
    exact q2
  have c0 : ∀ j, cellAt H3 H2.length j = ([Value.slice b1 f.nodes.length f.nodes.length, .slice b2 f.data.length f.data.length])[j]? := fun j => by simp [cellAt, b3]
  have hcs : canSet H3 h.length 0 2 = true := by simp [canSet, q3]
  have hne : ∀ q, q ≠ h.length → (setsAt H3 h.length 0 [.slice b1 f.nodes.length f.nodes.length, .slice b2 f.data.length f.data.length])[q]? = H3[q]? := fun q hq => by rw [setsAt_get, if_neg (fun e => hq e.symm)]
  have hself : (setsAt H3 h.length 0 [.slice b1 f.nodes.length f.nodes.length, .slice b2 f.data.length f.data.length])[h.length]? = some ⟨true, true, 27, [.slice b1 f.nodes.length f.nodes.length, .slice b2 f.data.length f.data.length]⟩ := by rw [setsAt_get, if_pos rfl, q3]; rfl
  have r0 : ∀ j, cellAt (setsAt H3 h.length 0 [.slice b1 f.nodes.length f.nodes.length, .slice b2 f.data.length f.data.length]) h.length j = ([Value.slice b1 f.nodes.length f.nodes.length, .slice b2 f.data.length f.data.length])[j]? := fun j => by simp [cellAt, hself]
  have fin : FsIn (setsAt H3 h.length 0 [.slice b1 f.nodes.length f.nodes.length, .slice b2 f.data.length f.data.length]) f b1 b2 G1 G2 := ⟨k3.s1.frame fun q hq => hne q (by have := k3.w1 q hq; omega), k3.s2.frame fun q hq => hne q (by have := k3.w2 q hq; omega), nl, n1, n10, m1, m36⟩
  simp [c0, hcs, r0]
  exact ⟨f, _, _, _, ⟨⟨⟨rfl, rfl⟩, rfl, rfl⟩, rfl⟩, _, _, fin⟩
set_option maxHeartbeats 2000000 in
theorem drawNodeWrite_c (code : Str) (a : Option Addr) (F : List Nat) (w : Bool) (t : TypeId) (h : Hp) (k : slR w t byteE h code a F) (hn : code.length ≤ 1048576) :
    ACall Try.prog 8 [.slice a code.length code.length] h fun r h' => ∃ (f : Fs) (i : Int) (s : Str) (b1 b2 : Option Addr) (G1 G2 : List Nat), r = .tuple #[.agg #[.slice b1 f.nodes.length f.nodes.length, .slice b2 f.data.length f.data.length], .int .i64 i, .string (S s)] ∧ s.length ≤ 81 ∧ FsIn h' f b1 b2 G1 G2 := by
  refine acall mixed Try.func8 rfl (by kernel_rfl) ?_
  simp [Try.f8]
  obtain ⟨h0, hh0⟩ : ∃ h0 : Hp, h0 = h ++ [⟨true, true, 27, [.slice none 0 0, .slice none 0 0]⟩] := ⟨_, rfl⟩
  have l0 : h0.length = h.length + 1 := by rw [hh0]; simp
  have q0 : h0[h.length]? = some ⟨true, true, 27, [.slice none 0 0, .slice none 0 0]⟩ := by rw [hh0]; simp
  have k0 : slR w t byteE h0 code a F := by rw [hh0]; exact k.ext (Ext.push _ _)
  rw [← hh0]
  refine callK0 (l1New_c code a F w t h0 k0 hn) ?_
  rintro _ H1 ⟨rfl, x1, d1⟩
  simp
  have hc := d1.lt
  have hx1 := x1.1
  have q1 : H1[h.length]? = some ⟨true, true, 27, [.slice none 0 0, .slice none 0 0]⟩ := by rw [x1.2 _ (by omega)]; exact q0
  refine callK0 (l6Draw_c h0.length H1 d1) ?_
  rintro _ H2 ⟨f, ⟨b1, b2, G1, G2, rfl, kf⟩, nl, n1, n10, m1, m36⟩
  simp
  have kb := kf.step hc (Dr.of_ext (Ext.push H2 [⟨true, true, 27, [.slice b1 f.nodes.length f.nodes.length, .slice b2 f.data.length f.data.length]⟩])) (kf.d.ext (Ext.push _ _))
  have hl2 := kf.dr.1
  have q2 : H2[h.length]? = some ⟨true, true, 27, [.slice none 0 0, .slice none 0 0]⟩ := by rw [kf.dr.2 _ (by omega) (by omega)]; exact q1
  have bx : (H2 ++ [(⟨true, true, 27, [.slice b1 f.nodes.length f.nodes.length, .slice b2 f.data.length f.data.length]⟩ : Ob)])[H2.length]? = some ⟨true, true, 27, [.slice b1 f.nodes.length f.nodes.length, .slice b2 f.data.length f.data.length]⟩ := by simp
  have w2 : IntKind.i64.wrap ((f.nodes.length : Int) + 2) = ((f.nodes.length + 2 : Nat) : Int) := by rw [wrap_in (by omega) (by omega)]; omega
  simp [w2]
  have hbe := l1Below_c ((f.nodes.length + 2 : Nat) : Int) h0.length _ kb.d
  simp at hbe
  refine callK0 hbe ?_
  rintro _ HB ⟨drB, dB, z, rfl, hz0, hz1, -⟩
  have kB := kb.step hc drB dB
  have bB : HB[H2.length]? = some ⟨true, true, 27, [.slice b1 f.nodes.length f.nodes.length, .slice b2 f.data.length f.data.length]⟩ := by rw [drB.2 _ (by simp) (by omega)]; exact bx
  have hlB := drB.1
  simp only [List.length_append, List.length_cons, List.length_nil] at hlB
  have qB : HB[h.length]? = some ⟨true, true, 27, [.slice none 0 0, .slice none 0 0]⟩ := by
    rw [drB.2 _ (by simp; omega) (by omega), List.getElem?_append_left (by omega)]
    exact q2
  have cB : ∀ j, cellAt HB H2.length j = ([Value.slice b1 f.nodes.length f.nodes.length, .slice b2 f.data.length f.data.length])[j]? := fun j => by simp [cellAt, bB]
  simp
  refine drawLA false [2, 3] [0] [4, 1, 5, 6] (by simp; rfl) (by simp; rfl) (by simp; rfl) (by kernel_rfl) rfl ?_
  simp [cB]
  refine callK0 (l7Text_c h0.length HB kB.d) ?_
  rintro _ H3 ⟨dr3, d3, s, rfl, hsl⟩
  have k3 := kB.step hc dr3 d3
  have hl3 := dr3.1
  have b3 : H3[H2.length]? = some ⟨true, true, 27, [.slice b1 f.nodes.length f.nodes.length, .slice b2 f.data.length f.data.length]⟩ := by rw [dr3.2 _ (by omega) (by omega)]; exact bB
  have q3 : H3[h.length]? = some ⟨true, true, 27, [.slice none 0 0, .slice none 0 0]⟩ := by
    rw [dr3.2 _ (by omega) (by omega)]
    exact qB
  have c0 : ∀ j, cellAt H3 H2.length j = ([Value.slice b1 f.nodes.length f.nodes.length, .slice b2 f.data.length f.data.length])[j]? := fun j => by simp [cellAt, b3]
  have hcs : canSet H3 h.length 0 2 = true := by simp [canSet, q3]
  have hne : ∀ q, q ≠ h.length → (setsAt H3 h.length 0 [.slice b1 f.nodes.length f.nodes.length, .slice b2 f.data.length f.data.length])[q]? = H3[q]? := fun q hq => by rw [setsAt_get, if_neg (fun e => hq e.symm)]
  have hself : (setsAt H3 h.length 0 [.slice b1 f.nodes.length f.nodes.length, .slice b2 f.data.length f.data.length])[h.length]? = some ⟨true, true, 27, [.slice b1 f.nodes.length f.nodes.length, .slice b2 f.data.length f.data.length]⟩ := by rw [setsAt_get, if_pos rfl, q3]; rfl
  have r0 : ∀ j, cellAt (setsAt H3 h.length 0 [.slice b1 f.nodes.length f.nodes.length, .slice b2 f.data.length f.data.length]) h.length j = ([Value.slice b1 f.nodes.length f.nodes.length, .slice b2 f.data.length f.data.length])[j]? := fun j => by simp [cellAt, hself]
  have fin : FsIn (setsAt H3 h.length 0 [.slice b1 f.nodes.length f.nodes.length, .slice b2 f.data.length f.data.length]) f b1 b2 G1 G2 := ⟨k3.s1.frame fun q hq => hne q (by have := k3.w1 q hq; omega), k3.s2.frame fun q hq => hne q (by have := k3.w2 q hq; omega), nl, n1, n10, m1, m36⟩
  simp [c0, hcs, r0]
  exact ⟨f, _, s, _, _, ⟨⟨⟨rfl, rfl⟩, rfl, rfl⟩, rfl, rfl⟩, hsl, _, _, fin⟩
end Go.Proofs.Ytgfilbekfkhjjaa.Hz
