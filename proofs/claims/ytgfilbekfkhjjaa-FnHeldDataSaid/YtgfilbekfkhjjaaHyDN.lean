/- The draws of nodes. -/
import Derived.Test.YtgfilbekfkhjjaaHyDJ
import Derived.Test.YtgfilbekfkhjjaaHyGX
import Derived.Test.YtgfilbekfkhjjaaHyGE
namespace Go.Proofs.Ytgfilbekfkhjjaa.Hz
open Go.RowKit
set_option linter.unusedVariables false
set_option linter.unusedSimpArgs false
set_option maxRecDepth 20000

/-- A node in a local box, drawn since h1. -/
structure NB (h1 : Hp) (c ni : Nat) (H : Hp) (x : Node) (b : Option Addr) (G : List Nat) : Prop where
  dr : Dr c h1 H
  d : Draw H c
  box : H[ni]? = some ⟨true, true, 39, [.int .i64 x.kind, .int .i64 x.gen, .int .i64 x.time, .int .i64 x.size, .slice b x.blocks.length x.blocks.length]⟩
  s : slR true 3 intE H x.blocks b G
  nd : G.Nodup
  w : ∀ q ∈ G, h1.length ≤ q
  m : ni ∉ G
  hb : h1.length ≤ ni
section
variable {h1 H H2 : Hp} {c ni : Nat} {x : Node} {b : Option Addr} {G : List Nat}
theorem NB.step (l : NB h1 c ni H x b G) (hc : c < h1.length) (y : Dr c H H2) (d : Draw H2 c) : NB h1 c ni H2 x b G :=
  ⟨l.dr.trans y, d, by rw [y.2 ni (get_lt l.box) (by have := l.hb; omega)]; exact l.box, y.sl l.s (fun hm => by have := l.w _ hm; omega), l.nd, l.w, l.m, l.hb⟩
theorem NB.cells (l : NB h1 c ni H x b G) : cellAt H ni 0 = some (.int .i64 x.kind) ∧ cellAt H ni 1 = some (.int .i64 x.gen) ∧ cellAt H ni 2 = some (.int .i64 x.time) ∧ cellAt H ni 3 = some (.int .i64 x.size) ∧ cellAt H ni 4 = some (.slice b x.blocks.length x.blocks.length) := by
  refine ⟨?_, ?_, ?_, ?_, ?_⟩ <;> simp [cellAt, l.box]
/-- A number in the box is turned. -/
theorem NB.set (l : NB h1 c ni H x b G) (hc : c < h1.length) (j : Nat) (v : Int) (x' : Node) (hj : j < 4) (hx : x'.blocks = x.blocks)
    (hv : ∀ sl : Value, [.int .i64 x.kind, .int .i64 x.gen, .int .i64 x.time, .int .i64 x.size, sl].set j (.int .i64 v) = [.int .i64 x'.kind, .int .i64 x'.gen, .int .i64 x'.time, .int .i64 x'.size, sl]) :
    canSet H ni j 1 = true ∧ NB h1 c ni (setsAt H ni j [.int .i64 v]) x' b G := by
  have hne : ∀ q, q ≠ ni → (setsAt H ni j [.int .i64 v])[q]? = H[q]? := fun q hq => by rw [setsAt_get, if_neg (fun e => hq e.symm)]
  have hb := l.hb
  refine ⟨by simp [canSet, l.box]; omega, ⟨by rw [setsAt_len]; exact l.dr.1, fun q hq hn => by rw [hne q (by omega)]; exact l.dr.2 q hq hn⟩, l.d.frame fun q hq => hne q (by omega), ?_, by rw [hx]; exact l.s.frame fun q hq => hne q (fun e => l.m (e ▸ hq)), l.nd, l.w, l.m, hb⟩
  rw [setsAt_get, if_pos rfl, l.box]
  simp only [Option.map_some, setL]
  rw [hv, hx]
/-- One block more. -/
theorem NB.app (l : NB h1 c ni H x b G) (hc : c < h1.length) (y : Int) (hl : x.blocks.length ≤ 1000) :
    ∃ b' H' G', aappend Try.prog (H ++ [⟨true, true, 3, [.int .i64 y]⟩]) 37 37 (.slice b x.blocks.length x.blocks.length) (.slice (some ⟨H.length, 0, none⟩) 1 1) = some (.slice b' (x.blocks.length + 1) (x.blocks.length + 1), H') ∧
      canSet H' ni 4 1 = true ∧ NB h1 c ni (setsAt H' ni 4 [.slice b' (x.blocks.length + 1) (x.blocks.length + 1)]) { x with blocks := x.blocks ++ [y] } b' G' := by
  obtain ⟨b', H', G', e1, e2, e3, e4, e5⟩ := (Own.any l.s l.nd).append1D (P := Try.prog) y (cs := [.int .i64 y]) rfl (st := 37) (xt := 37) (bt := 8) (z := [.int .i64 0]) (by simp) (by simp) (by unfold big; omega) (by unfold big; omega)
  have hlb := l.hb
  have hlt := get_lt l.box
  have hd := l.dr.1
  have hbox : H'[ni]? = some ⟨true, true, 39, [.int .i64 x.kind, .int .i64 x.gen, .int .i64 x.time, .int .i64 x.size, .slice b x.blocks.length x.blocks.length]⟩ := by rw [e3 ni hlt l.m]; exact l.box
  have hm : ni ∉ G' := fun hq => (e4 ni hq).elim l.m (fun h => by omega)
  have hne : ∀ q, q ≠ ni → (setsAt H' ni 4 [.slice b' (x.blocks.length + 1) (x.blocks.length + 1)])[q]? = H'[q]? := fun q hq => by rw [setsAt_get, if_neg (fun e => hq e.symm)]
  refine ⟨b', H', G', e1, by simp [canSet, hbox], ⟨by rw [setsAt_len]; omega, fun q hq hn => ?_⟩, ?_, ?_, ?_, e2.nd, fun q hq => (e4 q hq).elim (l.w q) (fun h => by omega), hm, hlb⟩
  · rw [hne q (by omega), e3 q (by omega) (fun h => by have := l.w q h; omega)]
    exact l.dr.2 q hq hn
  · refine l.d.frame fun q hq => ?_
    rw [hne q (by omega), e3 q (by omega) (fun h => by have := l.w q h; omega)]
  · rw [setsAt_get, if_pos rfl, hbox]
    simp [setL]
  · exact e2.sl.frame fun q hq => hne q (fun e => hm (e ▸ hq))
end
/-- What a draw of a node gives. -/
def NRes (h : Hp) (c : Nat) (h' : Hp) (x : Node) (v : Value) : Prop := ∃ b G, v = .agg #[.int .i64 x.kind, .int .i64 x.gen, .int .i64 x.time, .int .i64 x.size, .slice b x.blocks.length x.blocks.length] ∧ Dr c h h' ∧ Draw h' c ∧ slR true 3 intE h' x.blocks b G ∧ G.Nodup ∧ ∀ q ∈ G, h.length ≤ q
/-- The box is given back. -/
theorem NB.out {h HA : Hp} {c ni : Nat} {x : Node} {b : Option Addr} {G : List Nat} {cs : List Value} (l : NB (h ++ [⟨true, true, 39, cs⟩]) c ni HA x b G) (hc : c < h.length) (hcs : cs.length = 5) (hr : HA[h.length]? = some ⟨true, true, 39, cs⟩) :
    ∃ k0 k1 k2 k3 k4, cs = [k0, k1, k2, k3, k4] ∧ canSet HA h.length 0 5 = true ∧ (setsAt HA h.length 0 [.int .i64 x.kind, .int .i64 x.gen, .int .i64 x.time, .int .i64 x.size, .slice b x.blocks.length x.blocks.length])[h.length]? = some ⟨true, true, 39, [.int .i64 x.kind, .int .i64 x.gen, .int .i64 x.time, .int .i64 x.size, .slice b x.blocks.length x.blocks.length]⟩ ∧
      NRes h c (setsAt HA h.length 0 [.int .i64 x.kind, .int .i64 x.gen, .int .i64 x.time, .int .i64 x.size, .slice b x.blocks.length x.blocks.length]) x (.agg #[.int .i64 x.kind, .int .i64 x.gen, .int .i64 x.time, .int .i64 x.size, .slice b x.blocks.length x.blocks.length]) := by
  obtain ⟨k0, k1, k2, k3, k4, rfl⟩ : ∃ k0 k1 k2 k3 k4, cs = [k0, k1, k2, k3, k4] := by
    match cs, hcs with
    | [k0, k1, k2, k3, k4], _ => exact ⟨_, _, _, _, _, rfl⟩
  have hne : ∀ q, q ≠ h.length → (setsAt HA h.length 0 [.int .i64 x.kind, .int .i64 x.gen, .int .i64 x.time, .int .i64 x.size, .slice b x.blocks.length x.blocks.length])[q]? = HA[q]? := fun q hq => by rw [setsAt_get, if_neg (fun e => hq e.symm)]
  have l1 := l.dr.1
  have hw := l.w
  simp only [List.length_append, List.length_cons, List.length_nil] at l1 hw
  refine ⟨k0, k1, k2, k3, k4, rfl, by simp [canSet, hr], by rw [setsAt_get, if_pos rfl, hr]; rfl, b, G, rfl, ⟨by rw [setsAt_len]; omega, fun q hq hn => ?_⟩, l.d.frame fun q hq => hne q (by omega), l.s.frame fun q hq => hne q (by have := hw q hq; omega), l.nd, fun q hq => by have := hw q hq; omega⟩
  rw [hne q (by omega), l.dr.2 q (by simp; omega) hn, List.getElem?_append_left hq]
def NL (h1 : Hp) (c ni : Nat) (H : Hp) (k ge ti sz : Int) (i : Nat) : Prop := ∃ bs b G, NB h1 c ni H ⟨k, ge, ti, sz, bs⟩ b G ∧ bs.length = i
set_option maxHeartbeats 4000000 in
theorem l5Right_c (c : Nat) (h : Hp) (d : Draw h c) :
    ACall Try.prog 111 [.pointer (some ⟨c, 0, none⟩)] h fun r h' => ∃ x : Node, NRes h c h' x r ∧ x.blocks.length ≤ 5 := by
  refine acall mixed Try.func111 rfl (by kernel_rfl) ?_
  have hc := d.lt
  simp [Try.f111]
  have z0 : [Value.int .i64 0, .int .i64 0, .int .i64 0, .int .i64 0, .slice none 0 0].length = 5 := rfl
  obtain ⟨h1, hh1⟩ : ∃ h1 : Hp, h1 = h ++ [⟨true, true, 39, [.int .i64 0, .int .i64 0, .int .i64 0, .int .i64 0, .slice none 0 0]⟩] := ⟨_, rfl⟩
  have d1 : Draw h1 c := by rw [hh1]; exact d.ext (Ext.push _ _)
  have hl1 : h1.length = h.length + 1 := by rw [hh1]; simp
  have hc1 : c < h1.length := by omega
  have res1 : h1[h.length]? = some ⟨true, true, 39, [.int .i64 0, .int .i64 0, .int .i64 0, .int .i64 0, .slice none 0 0]⟩ := by rw [hh1]; simp
  rw [← hh1]
  refine callK0 (l1Below_c 4 c h1 d1) ?_
  rintro _ H1 ⟨dr1, d1', k, rfl, hk0, hk1, -⟩
  have resK : ∀ {H' : Hp}, Dr c h1 H' → H'[h.length]? = some ⟨true, true, 39, [.int .i64 0, .int .i64 0, .int .i64 0, .int .i64 0, .slice none 0 0]⟩ := fun {H'} x => by rw [x.2 _ (by omega) (by omega)]; exact res1
  have hH1 := dr1.1
  have L : NB h1 c H1.length (H1 ++ [⟨true, true, 39, [.int .i64 k, .int .i64 0, .int .i64 0, .int .i64 0, .slice none 0 0]⟩]) ⟨k, 0, 0, 0, []⟩ none [] :=
    ⟨dr1.trans (Dr.of_ext (Ext.push _ _)), d1'.ext (Ext.push _ _), by simp, ⟨rfl, rfl⟩, List.nodup_nil, by simp, by simp, hH1⟩
  simp
  obtain ⟨ni, hni⟩ : ∃ ni, ni = H1.length := ⟨_, rfl⟩
  generalize hHb : H1 ++ [(⟨true, true, 39, [.int .i64 k, .int .i64 0, .int .i64 0, .int .i64 0, .slice none 0 0]⟩ : Ob)] = Hb at L ⊢
  rw [← hni] at L ⊢
  clear hHb
  refine asplitK_intro (fun h0 => ?_) (fun h0 => ?_) <;> simp at h0 <;> simp [h0]
  · subst h0
    obtain ⟨q0, q1, q2, q3, q4⟩ := L.cells
    simp only at q0 q1 q2 q3 q4
    rw [hh1] at L
    obtain ⟨_, _, _, _, _, _, o1, o2, o3⟩ := L.out hc rfl (resK (by rw [hh1]; exact L.dr))
    simp only [List.length_nil] at o2 o3 q4
    have o4 : ∀ j, cellAt (setsAt Hb h.length 0 [.int .i64 0, .int .i64 0, .int .i64 0, .int .i64 0, .slice none 0 0]) h.length j = ([Value.int .i64 0, .int .i64 0, .int .i64 0, .int .i64 0, .slice none 0 0])[j]? := fun j => by simp [cellAt, o2]
    simp [q0, q1, q2, q3, q4, o1, o4]
    exact ⟨_, o3, by simp⟩
  refine callK0 (l1Below_c 81 c Hb L.d) ?_
  rintro _ H2 ⟨dr2, d2, z, rfl, hz0, hz1, -⟩
  have hz1 := hz1 (by omega)
  have L2 := L.step hc1 dr2 d2
  have hp := pick_c [0, 1, 16, 17, 80, z] c H2 d2 (by simp) (by simp)
  simp only [List.map_cons, List.map_nil, List.length_cons, List.length_nil, Nat.zero_add, Nat.reduceAdd] at hp
  simp
  refine callK0 hp ?_
  rintro _ H3 ⟨dr3, d3, sz, hsz, rfl⟩
  have hsz' : 0 ≤ sz ∧ sz ≤ 80 := by simp at hsz; omega
  have L3 := L2.step hc1 dr3 d3
  obtain ⟨g4, L4⟩ := L3.set hc1 3 sz ⟨k, 0, 0, sz, []⟩ (by omega) rfl (fun _ => rfl)
  obtain ⟨q0, -, -, -, -⟩ := L4.cells
  simp only at q0
  simp [g4, q0]
  generalize setsAt H3 ni 3 [Value.int IntKind.i64 sz] = H4 at L4 ⊢
  clear L L2 L3 dr1 dr2 dr3 d1' d2 d3 hp q0 g4
  have hbf : 0 ≤ blocksFor sz ∧ blocksFor sz ≤ 5 := by
    unfold blocksFor
    split
    · omega
    · split <;> omega
  refine asplitK_intro (fun h2 => ?_) (fun h2 => ?_) <;> simp at h2 <;> simp [h2]
  · have hp := pick_c [0, 1, 5, 1000000] c H4 L4.d (by simp) (by simp)
    simp only [List.map_cons, List.map_nil, List.length_cons, List.length_nil, Nat.zero_add, Nat.reduceAdd] at hp
    refine callK0 hp ?_
    rintro _ H5 ⟨dr5, d5, ge, -, rfl⟩
    have L5 := L4.step hc1 dr5 d5
    obtain ⟨g5, L5⟩ := L5.set hc1 1 ge ⟨k, ge, 0, sz, []⟩ (by omega) rfl (fun _ => rfl)
    simp [g5]
    generalize setsAt H5 ni 1 [Value.int IntKind.i64 ge] = H5' at L5 ⊢
    have hp := pick_c [0, 7, 100000] c H5' L5.d (by simp) (by simp)
    simp only [List.map_cons, List.map_nil, List.length_cons, List.length_nil, Nat.zero_add, Nat.reduceAdd] at hp
    refine callK0 hp ?_
    rintro _ H6 ⟨dr6, d6, ti, -, rfl⟩
    have L6 := L5.step hc1 dr6 d6
    obtain ⟨g6, L6⟩ := L6.set hc1 2 ti ⟨k, ge, ti, sz, []⟩ (by omega) rfl (fun _ => rfl)
    simp [g6]
    generalize setsAt H6 ni 2 [Value.int IntKind.i64 ti] = H6' at L6 ⊢
    clear L4 L5 dr5 dr6 d5 d6 hp g5 g6
    refine callK0 (l1Below_c 30 c H6' L6.d) ?_
    rintro _ H7 ⟨dr7, d7, fr, rfl, hf0, hf1, -⟩
    have hf1 := hf1 (by omega)
    have L7 := L6.step hc1 dr7 d7
    simp
    refine aloop mixed [0, 2, 3, 4, 5] (fun (y : Nat × Hp) => [.pointer (some ⟨c, 0, none⟩), .pointer (some ⟨h.length, 0, none⟩), .pointer (some ⟨ni, 0, none⟩), .int .i64 fr, .int .i64 y.1]) (fun y => y.2)
      (fun y => (y.1 : Int) ≤ blocksFor sz ∧ NL h1 c ni y.2 k ge ti sz y.1) (fun y => (blocksFor sz - y.1).toNat) (0, H7) ⟨hbf.1, [], none, [], L7, rfl⟩ rfl rfl ?_
    rintro ⟨i, H⟩ ⟨hi, bs, b, G, LH, hbl⟩
    simp only at hi LH hbl
    obtain ⟨q0, q1, q2, q3, q4⟩ := LH.cells
    simp only at q0 q1 q2 q3 q4
    simp [mkF, q3]
    refine callK0 (blocksFor_spec_c sz _) ?_
    rintro _ H ⟨rfl, rfl⟩
    simp
    refine asplitK_intro (fun hb => ?_) (fun hb => ?_) <;> simp at hb <;> simp [hb]
    · obtain ⟨b', H', G', e1, e2, e3⟩ := LH.app hc1 (IntKind.i64.wrap (fr + i)) (by simp only; omega)
      simp only at e1 e2 e3
      simp [q4, e1, e2]
      exact anext (i + 1, _) ⟨by simp only; omega, _, b', G', e3, by simp [hbl]⟩ (by simp only; omega) (by simp [pickF, wrap_succ (show i < 9223372036854775807 by omega)]) rfl (by simp)
    · rw [hh1] at LH
      obtain ⟨_, _, _, _, _, _, o1, o2, o3⟩ := LH.out hc rfl (resK (by rw [hh1]; exact LH.dr))
      simp only at o1 o2 o3
      have o4 : ∀ j, cellAt (setsAt H h.length 0 [.int .i64 k, .int .i64 ge, .int .i64 ti, .int .i64 sz, .slice b bs.length bs.length]) h.length j = ([Value.int .i64 k, .int .i64 ge, .int .i64 ti, .int .i64 sz, .slice b bs.length bs.length])[j]? := fun j => by simp [cellAt, o2]
      simp [q0, q1, q2, q3, q4, o1, o4]
      exact ⟨_, o3, by simp only; omega⟩
  · refine callK0 (l1Below_c 30 c H4 L4.d) ?_
    rintro _ H7 ⟨dr7, d7, fr, rfl, hf0, hf1, -⟩
    have hf1 := hf1 (by omega)
    have L7 := L4.step hc1 dr7 d7
    simp
    refine aloop mixed [0, 2, 3, 4, 5] (fun (y : Nat × Hp) => [.pointer (some ⟨c, 0, none⟩), .pointer (some ⟨h.length, 0, none⟩), .pointer (some ⟨ni, 0, none⟩), .int .i64 fr, .int .i64 y.1]) (fun y => y.2)
      (fun y => (y.1 : Int) ≤ blocksFor sz ∧ NL h1 c ni y.2 k 0 0 sz y.1) (fun y => (blocksFor sz - y.1).toNat) (0, H7) ⟨hbf.1, [], none, [], L7, rfl⟩ rfl rfl ?_
    rintro ⟨i, H⟩ ⟨hi, bs, b, G, LH, hbl⟩
    simp only at hi LH hbl
    obtain ⟨q0, q1, q2, q3, q4⟩ := LH.cells
    simp only at q0 q1 q2 q3 q4
    simp [mkF, q3]
    refine callK0 (blocksFor_spec_c sz _) ?_
    rintro _ H ⟨rfl, rfl⟩
    simp
    refine asplitK_intro (fun hb => ?_) (fun hb => ?_) <;> simp at hb <;> simp [hb]
    · obtain ⟨b', H', G', e1, e2, e3⟩ := LH.app hc1 (IntKind.i64.wrap (fr + i)) (by simp only; omega)
      simp only at e1 e2 e3
      simp [q4, e1, e2]
      exact anext (i + 1, _) ⟨by simp only; omega, _, b', G', e3, by simp [hbl]⟩ (by simp only; omega) (by simp [pickF, wrap_succ (show i < 9223372036854775807 by omega)]) rfl (by simp)
    · rw [hh1] at LH
      obtain ⟨_, _, _, _, _, _, o1, o2, o3⟩ := LH.out hc rfl (resK (by rw [hh1]; exact LH.dr))
      simp only at o1 o2 o3
      have o4 : ∀ j, cellAt (setsAt H h.length 0 [.int .i64 k, .int .i64 0, .int .i64 0, .int .i64 sz, .slice b bs.length bs.length]) h.length j = ([Value.int .i64 k, .int .i64 0, .int .i64 0, .int .i64 sz, .slice b bs.length bs.length])[j]? := fun j => by simp [cellAt, o2]
      simp [q0, q1, q2, q3, q4, o1, o4]
      exact ⟨_, o3, by simp only; omega⟩
set_option maxHeartbeats 4000000 in
theorem l5Draw_c (c : Nat) (h : Hp) (d : Draw h c) :
    ACall Try.prog 82 [.pointer (some ⟨c, 0, none⟩)] h fun r h' => ∃ x : Node, NRes h c h' x r ∧ x.blocks.length ≤ 6 := by
  refine acall mixed Try.func82 rfl (by kernel_rfl) ?_
  have hc := d.lt
  simp [Try.f82]
  obtain ⟨h1, hh1⟩ : ∃ h1 : Hp, h1 = h ++ [⟨true, true, 39, [.int .i64 0, .int .i64 0, .int .i64 0, .int .i64 0, .slice none 0 0]⟩] := ⟨_, rfl⟩
  have d1 : Draw h1 c := by rw [hh1]; exact d.ext (Ext.push _ _)
  have hl1 : h1.length = h.length + 1 := by rw [hh1]; simp
  have hc1 : c < h1.length := by omega
  have res1 : h1[h.length]? = some ⟨true, true, 39, [.int .i64 0, .int .i64 0, .int .i64 0, .int .i64 0, .slice none 0 0]⟩ := by rw [hh1]; simp
  rw [← hh1]
  have resK : ∀ {H' : Hp}, Dr c h1 H' → H'[h.length]? = some ⟨true, true, 39, [.int .i64 0, .int .i64 0, .int .i64 0, .int .i64 0, .slice none 0 0]⟩ := fun {H'} x => by rw [x.2 _ (by omega) (by omega)]; exact res1
  refine callK0 (l5Right_c c h1 d1) ?_
  rintro _ H1 ⟨x, ⟨b, G, rfl, dr1, d1', s, nd, w⟩, hbl⟩
  have hH1 := dr1.1
  simp
  have L : NB h1 c H1.length (H1 ++ [⟨true, true, 39, [.int .i64 x.kind, .int .i64 x.gen, .int .i64 x.time, .int .i64 x.size, .slice b x.blocks.length x.blocks.length]⟩]) x b G :=
    ⟨dr1.trans (Dr.of_ext (Ext.push _ _)), d1'.ext (Ext.push _ _), by simp, s.ext (Ext.push _ _), nd, w, fun hm => by have := s.lt _ hm; omega, hH1⟩
  obtain ⟨ni, hni⟩ : ∃ ni, ni = H1.length := ⟨_, rfl⟩
  generalize hHb : H1 ++ [(⟨true, true, 39, [.int .i64 x.kind, .int .i64 x.gen, .int .i64 x.time, .int .i64 x.size, .slice b x.blocks.length x.blocks.length]⟩ : Ob)] = Hb at L ⊢
  rw [← hni] at L ⊢
  clear hHb
  refine callK0 (l1Below_c 14 c Hb L.d) ?_
  rintro _ H2 ⟨dr2, d2, z, rfl, hz0, hz1, -⟩
  have L2 := L.step hc1 dr2 d2
  clear L dr2 d2 dr1 d1' s nd w
  obtain ⟨q0, q1, q2, q3, q4⟩ := L2.cells
  -- the end
  have fin0 : ∀ (HA : Hp) (y : Node) (b : Option Addr) (G : List Nat), NB h1 c ni HA y b G → y.blocks.length ≤ 6 →
      canSet HA h.length 0 5 = true ∧ (∀ j, cellAt HA ni j = ([Value.int .i64 y.kind, .int .i64 y.gen, .int .i64 y.time, .int .i64 y.size, .slice b y.blocks.length y.blocks.length])[j]?) ∧
      (∀ j, cellAt (setsAt HA h.length 0 [.int .i64 y.kind, .int .i64 y.gen, .int .i64 y.time, .int .i64 y.size, .slice b y.blocks.length y.blocks.length]) h.length j = ([Value.int .i64 y.kind, .int .i64 y.gen, .int .i64 y.time, .int .i64 y.size, .slice b y.blocks.length y.blocks.length])[j]?) ∧
      ∃ x, NRes h c (setsAt HA h.length 0 [.int .i64 y.kind, .int .i64 y.gen, .int .i64 y.time, .int .i64 y.size, .slice b y.blocks.length y.blocks.length]) x (.agg #[.int .i64 y.kind, .int .i64 y.gen, .int .i64 y.time, .int .i64 y.size, .slice b y.blocks.length y.blocks.length]) ∧ x.blocks.length ≤ 6 := by
    intro HA y b G LA hy
    have hr := resK LA.dr
    have hbx := LA.box
    rw [hh1] at LA
    obtain ⟨_, _, _, _, _, _, o1, o2, o3⟩ := LA.out hc rfl hr
    exact ⟨o1, fun j => by simp [cellAt, hbx], fun j => by simp [cellAt, o2], y, o3, hy⟩
  simp
  refine asplitK_intro (fun h0 => ?_) (fun h0 => ?_) <;> simp at h0 <;> simp [h0]
  · have hp := pick_c [-1, 4, 2] c H2 L2.d (by simp) (by simp)
    simp only [List.map_cons, List.map_nil, List.length_cons, List.length_nil, Nat.zero_add, Nat.reduceAdd] at hp
    refine callK0 hp ?_
    rintro _ H3 ⟨dr3, d3, v, -, rfl⟩
    have L3 := L2.step hc1 dr3 d3
    obtain ⟨g4, L4⟩ := L3.set hc1 0 v ⟨v, x.gen, x.time, x.size, x.blocks⟩ (by omega) rfl (fun _ => rfl)
    obtain ⟨o1, o2, o3, o4⟩ := fin0 _ _ _ _ L4 (by simp only; omega)
    simp only at o1 o2 o3 o4
    simp [g4, o1, o2, o3]
    exact o4
  refine asplitK_intro (fun h1' => ?_) (fun h1' => ?_) <;> simp at h1' <;> simp [h1']
  · have hp := pick_c [-1, 1000001, 3] c H2 L2.d (by simp) (by simp)
    simp only [List.map_cons, List.map_nil, List.length_cons, List.length_nil, Nat.zero_add, Nat.reduceAdd] at hp
    refine callK0 hp ?_
    rintro _ H3 ⟨dr3, d3, v, -, rfl⟩
    have L3 := L2.step hc1 dr3 d3
    obtain ⟨g4, L4⟩ := L3.set hc1 1 v ⟨x.kind, v, x.time, x.size, x.blocks⟩ (by omega) rfl (fun _ => rfl)
    obtain ⟨o1, o2, o3, o4⟩ := fin0 _ _ _ _ L4 (by simp only; omega)
    simp only at o1 o2 o3 o4
    simp [g4, o1, o2, o3]
    exact o4
  refine asplitK_intro (fun h2' => ?_) (fun h2' => ?_) <;> simp at h2' <;> simp [h2']
  · have hp := pick_c [-1, 100001] c H2 L2.d (by simp) (by simp)
    simp only [List.map_cons, List.map_nil, List.length_cons, List.length_nil, Nat.zero_add, Nat.reduceAdd] at hp
    refine callK0 hp ?_
    rintro _ H3 ⟨dr3, d3, v, -, rfl⟩
    have L3 := L2.step hc1 dr3 d3
    obtain ⟨g4, L4⟩ := L3.set hc1 2 v ⟨x.kind, x.gen, v, x.size, x.blocks⟩ (by omega) rfl (fun _ => rfl)
    obtain ⟨o1, o2, o3, o4⟩ := fin0 _ _ _ _ L4 (by simp only; omega)
    simp only at o1 o2 o3 o4
    simp [g4, o1, o2, o3]
    exact o4
  refine asplitK_intro (fun h3' => ?_) (fun h3' => ?_) <;> simp at h3' <;> simp [h3']
  · simp [q3]
    have hp := pick_c [-1, 81, IntKind.i64.wrap (x.size + 16)] c H2 L2.d (by simp) (by simp)
    simp only [List.map_cons, List.map_nil, List.length_cons, List.length_nil, Nat.zero_add, Nat.reduceAdd] at hp
    refine callK0 hp ?_
    rintro _ H3 ⟨dr3, d3, v, -, rfl⟩
    have L3 := L2.step hc1 dr3 d3
    obtain ⟨g4, L4⟩ := L3.set hc1 3 v ⟨x.kind, x.gen, x.time, v, x.blocks⟩ (by omega) rfl (fun _ => rfl)
    obtain ⟨o1, o2, o3, o4⟩ := fin0 _ _ _ _ L4 (by simp only; omega)
    simp only at o1 o2 o3 o4
    simp [g4, o1, o2, o3]
    exact o4
  refine asplitK_intro (fun h4' => ?_) (fun h4' => ?_) <;> simp at h4' <;> simp [h4']
  · refine drawLA false [2, 3, 4, 5] [0, 1] [6, 7, 8] (by simp; rfl) (by simp; rfl) (by simp; rfl) (by kernel_rfl) rfl ?_
    have qq4 : ∀ l, cellAt (H2 ++ l) ni 4 = some (.slice b x.blocks.length x.blocks.length) := fun l => cell_up (Ext.push H2 l) q4
    simp [q4, qq4]
    have hp := pick_c [0, 36, -1] c H2 L2.d (by simp) (by simp)
    simp only [List.map_cons, List.map_nil, List.length_cons, List.length_nil, Nat.zero_add, Nat.reduceAdd] at hp
    refine callK0 hp ?_
    rintro _ H3 ⟨dr3, d3, v, -, rfl⟩
    have L3 := L2.step hc1 dr3 d3
    obtain ⟨-, -, -, -, r4⟩ := L3.cells
    have rr4 : ∀ l, cellAt (H3 ++ l) ni 4 = some (.slice b x.blocks.length x.blocks.length) := fun l => cell_up (Ext.push H3 l) r4
    obtain ⟨b', H', G', e1, e2, e3⟩ := L3.app hc1 v (by omega)
    obtain ⟨o1, o2, o3, o4⟩ := fin0 _ _ _ _ e3 (by simp; omega)
    simp only [List.length_append, List.length_cons, List.length_nil, Nat.zero_add] at o1 o2 o3 o4
    simp [r4, rr4, e1, e2, o1, o2, o3]
    exact o4
  refine asplitK_intro (fun h5' => ?_) (fun h5' => ?_) <;> simp at h5' <;> simp [h5']
  · simp [q4]
    refine asplitK_intro (fun h6 => ?_) (fun h6 => ?_) <;> simp at h6 <;> simp [h6]
    · have h6' : 1 < x.blocks.length := by omega
      obtain ⟨o, off, rfl, cu⟩ := intEAt L2.s h6'
      have hpos : 0 < x.blocks.length := by omega
      obtain ⟨hcan, F2, o2⟩ := (Own.any L2.s L2.nd).putFlat (i := 0) hpos x.blocks[1] 0 [.int .i64 x.blocks[1]] (by simp) (by simp)
      have eF := (Own.any L2.s L2.nd).flatF
      have eF2 := o2.flatF
      subst eF
      subst eF2
      simp at hcan o2 cu
      refine drawK true (by kernel_rfl) ?_
      simp [q4, h6', hpos, cu, hcan]
      have hno := L2.w o (by simp)
      have hm := L2.m
      simp at hm
      have hfr : ∀ q, q ≠ o → (setsAt H2 o off [.int .i64 x.blocks[1]])[q]? = H2[q]? := fun q hq => by rw [setsAt_get, if_neg (fun e => hq e.symm)]
      have L4 : NB h1 c ni (setsAt H2 o off [.int .i64 x.blocks[1]]) ⟨x.kind, x.gen, x.time, x.size, x.blocks.set 0 x.blocks[1]⟩ (some ⟨o, off, none⟩) [o] :=
        ⟨⟨by rw [setsAt_len]; exact L2.dr.1, fun q hq hn => by rw [hfr q (by omega)]; exact L2.dr.2 q hq hn⟩, L2.d.frame fun q hq => hfr q (by omega), by rw [hfr ni hm]; simpa using L2.box, o2.sl, o2.nd, L2.w, L2.m, L2.hb⟩
      obtain ⟨o1, o2, o3, o4⟩ := fin0 _ _ _ _ L4 (by simp; omega)
      simp only [List.length_set] at o1 o2 o3 o4
      simp [o1, o2, o3]
      exact ⟨by omega, o4⟩
    · obtain ⟨o1, o2, o3, o4⟩ := fin0 _ _ _ _ L2 (by omega)
      simp [o1, o2, o3]
      exact o4
  · obtain ⟨o1, o2, o3, o4⟩ := fin0 _ _ _ _ L2 (by omega)
    simp [o1, o2, o3]
    exact o4
end Go.Proofs.Ytgfilbekfkhjjaa.Hz
