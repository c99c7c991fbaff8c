/- The draws of images. -/
import Derived.Test.YtgfilbekfkhjjaaHyGX
import Derived.Test.YtgfilbekfkhjjaaHyHL
import Derived.Test.YtgfilbekfkhjjaaHyGT
import Derived.Test.YtgfilbekfkhjjaaHyGO
import Derived.Test.YtgfilbekfkhjjaaHyGN
namespace Go.Proofs.Ytgfilbekfkhjjaa.Hz
open Go.RowKit
set_option linter.unusedVariables false
set_option linter.unusedSimpArgs false
set_option maxRecDepth 20000

theorem l1Once_c (n : Int) (c : Nat) (h : Hp) (d : Draw h c) :
    ACall Try.prog 76 [.pointer (some ⟨c, 0, none⟩), .int .i64 n] h fun r h' => Dr c h h' ∧ Draw h' c ∧ ∃ b : Bool, r = .bool b := by
  refine acall mixed Try.func76 rfl (by kernel_rfl) ?_
  simp [Try.f76]
  refine callK0 (l1Below_c n c h d) ?_
  rintro _ H ⟨dr, d1, z, rfl, _, _, _⟩
  simp
  exact ⟨dr, d1, by omega⟩
theorem flat_ints : ∀ xs : List Int, (xs.map fun x => [Value.int IntKind.i64 x]).flatten = xs.map fun x => .int .i64 x
  | [] => rfl
  | x :: xs => by simp [flat_ints xs]
/-- A draw out of a literal row of numbers. -/
theorem pick_c (xs : List Int) (c : Nat) (h : Hp) (d : Draw h c) (h1 : 1 ≤ xs.length) (h2 : xs.length ≤ 256) :
    ACall Try.prog 84 [.pointer (some ⟨c, 0, none⟩), .slice (some ⟨h.length, 0, none⟩) xs.length xs.length] (h ++ [⟨true, true, 3, xs.map fun x => .int .i64 x⟩]) fun r h' => Dr c h h' ∧ Draw h' c ∧ ∃ x ∈ xs, r = .int .i64 x := by
  have o := Own.lit (h0 := h) (h := h) (e := 3) (A := intE) (xs := xs) (css := xs.map fun x => [.int .i64 x]) (Fs := List.replicate xs.length []) (Ext.refl h) (rowsR.mkFlat xs) (by rw [flat_rep]; exact List.nodup_nil) (by rw [flat_rep]; simp)
  rw [flat_ints, flat_rep] at o
  have hc := d.lt
  refine (l1PickInt_c c _ (some ⟨h.length, 0, none⟩) [h.length] true _ xs o.sl (by simp; omega) h1 h2 (d.ext o.ext)).mono ?_
  rintro r h' ⟨dr, d2, hx⟩
  exact ⟨(Dr.of_ext o.ext).trans dr, d2, hx⟩
set_option maxHeartbeats 1000000 in
theorem l7Text_c (c : Nat) (h : Hp) (d : Draw h c) :
    ACall Try.prog 41 [.pointer (some ⟨c, 0, none⟩)] h fun r h' => Dr c h h' ∧ Draw h' c ∧ ∃ s : Str, r = .string (S s) ∧ s.length ≤ 81 := by
  refine acall mixed Try.func41 rfl (by kernel_rfl) ?_
  have hc := d.lt
  simp [Try.f41]
  have hp := pick_c [0, 1, 5, 15, 16, 17, 33, 64, 80, 81] c h d (by decide) (by decide)
  simp only [List.map_cons, List.map_nil, List.length_cons, List.length_nil, Nat.zero_add, Nat.reduceAdd] at hp
  refine callK0 hp ?_
  rintro _ H1 ⟨dr1, d1, n, hn, rfl⟩
  have hn81 : 0 ≤ n ∧ n ≤ 81 := by simp at hn; omega
  obtain ⟨m, rfl⟩ : ∃ m : Nat, n = m := ⟨n.toNat, by omega⟩
  simp
  refine aloop mixed [0, 3, 4, 5] (fun (y : Nat × Str × Hp) => [.pointer (some ⟨c, 0, none⟩), .string (S y.2.1), .int .i64 m, .int .i64 y.1]) (fun y => y.2.2) (fun y => y.1 ≤ m ∧ y.2.1.length ≤ y.1 ∧ Dr c h y.2.2 ∧ Draw y.2.2 c) (fun y => m - y.1) (0, [], H1) ⟨by simp, by simp, dr1, d1⟩ rfl rfl ?_
  rintro ⟨i, s, H⟩ ⟨hi, hs, dr, dH⟩
  simp only at hi hs dr dH
  simp [mkF]
  refine asplitK_intro (fun hb => ?_) (fun hb => ?_) <;> simp at hb <;> simp [hb]
  · refine callK0 (l1Below_c 2 c H dH) ?_
    rintro _ H2 ⟨dr2, d2, z, rfl, hz0, hz1, -⟩
    have hz1 := hz1 (by omega)
    have w1 : IntKind.i64.wrap ((i : Int) + z) = i + z := wrap_in (by omega) (by omega)
    have e1 : ((i : Int) + z).tmod 26 = ((i : Int) + z) % 26 := Int.tmod_eq_emod_of_nonneg (by omega)
    have w2 : IntKind.i64.wrap (97 + ((i : Int) + z) % 26) = 97 + ((i : Int) + z) % 26 := wrap_in (by omega) (by omega)
    have w3 : IntKind.u8.wrap (97 + ((i : Int) + z) % 26) = 97 + ((i : Int) + z) % 26 := wrap_u8 (by omega) (by omega)
    obtain ⟨u, hu⟩ : ∃ u : UInt8, (u.toNat : Int) = 97 + ((i : Int) + z) % 26 := ⟨UInt8.ofNat (97 + ((i : Int) + z) % 26).toNat, by rw [u8_ofNat (by omega)]; omega⟩
    have o := Own.lit (h0 := H2) (h := H2) (e := 5) (A := byteE) (xs := [u]) (css := [[.int .u8 u.toNat]]) (Fs := [[]]) (Ext.refl H2) ⟨⟨rfl, rfl⟩, trivial⟩ (by simp) (by simp)
    simp at o
    have hl : s.length + 1 ≤ 9223372036854775807 := by omega
    rw [← hu] at w2 w3
    simp [w1, e1, ← hu, w2, w3, lev_cvBS o.sl, hl]
    exact anext (i + 1, s ++ [u], _) ⟨hb, by simp; omega, (dr.trans dr2).trans (Dr.of_ext (Ext.push _ _)), d2.ext (Ext.push _ _)⟩ (by simp only; omega) (by simp [pickF, wrap_succ (show i < 9223372036854775807 by omega)]) rfl (by simp)
  · exact ⟨dr, dH, by omega⟩
/-- An image drawn since h. -/
structure DFs (h : Hp) (c : Nat) (H : Hp) (f : Fs) (b1 b2 : Option Addr) (G1 G2 : List Nat) : Prop where
  dr : Dr c h H
  d : Draw H c
  s1 : slR true 39 (nodeE true) H f.nodes b1 G1
  s2 : slR true 9 strE H f.data b2 G2
  n1 : G1.Nodup
  n2 : G2.Nodup
  w1 : ∀ q ∈ G1, h.length ≤ q
  w2 : ∀ q ∈ G2, h.length ≤ q
  dj : ∀ q ∈ G1, q ∉ G2
section
variable {h H H2 : Hp} {c : Nat} {f g : Fs} {b1 b2 : Option Addr} {G1 G2 : List Nat}
theorem DFs.step (k : DFs h c H f b1 b2 G1 G2) (hc : c < h.length) (x : Dr c H H2) (d : Draw H2 c) : DFs h c H2 f b1 b2 G1 G2 :=
  ⟨k.dr.trans x, d, x.sl k.s1 (fun hm => by have := k.w1 _ hm; omega), x.sl k.s2 (fun hm => by have := k.w2 _ hm; omega), k.n1, k.n2, k.w1, k.w2, k.dj⟩
theorem DFs.res {v : Value} {B : Hp} (dr : Dr c h B) (d : Draw B c) (r : FsRes g B H2 v) : ∃ b1 b2 G1 G2, v = .agg #[.slice b1 g.nodes.length g.nodes.length, .slice b2 g.data.length g.data.length] ∧ DFs h c H2 g b1 b2 G1 G2 := by
  obtain ⟨b1, G1, b2, G2, rfl, o1, o2, dj⟩ := r
  exact ⟨b1, b2, G1, G2, rfl, dr.trans (Dr.of_ext o1.ext), d.ext o1.ext, o1.sl, o2.sl, o1.nd, o2.nd, fun q hq => Nat.le_trans dr.1 (o1.new q hq), fun q hq => Nat.le_trans dr.1 (o2.new q hq), dj⟩
end
def freshFs (n d : Nat) : Fs := ⟨(List.replicate n ⟨0, 0, 0, 0, []⟩).set 0 ⟨2, 0, 0, 0, []⟩, List.replicate d []⟩
theorem sumL_rep {α : Type} (g : α → Nat) (x : α) (hx : g x = 0) : ∀ n : Nat, sumL g (List.replicate n x) = 0
  | 0 => rfl
  | n + 1 => by
    have := sumL_rep g x hx n
    simp [List.replicate_succ, sumL, hx, this]
theorem freshFs_nl (n d : Nat) (hn : 1 ≤ n) : (freshFs n d).nl = n + d := by
  obtain ⟨m, rfl⟩ : ∃ m, n = m + 1 := ⟨n - 1, by omega⟩
  have h1 := sumL_rep Node.nl ⟨0, 0, 0, 0, []⟩ rfl m
  have h2 := sumL_rep List.length ([] : Str) rfl d
  simp [freshFs, Fs.nl, List.replicate_succ, sumL, h1, h2, Node.nl]
theorem l1In_c' : True := trivial
theorem fresh_res {n d i1 i2 : Nat} {h H : Hp} (hn : 1 ≤ n) (e : Ext h H) (l1 : h.length ≤ i1) (l2 : h.length ≤ i2) (ne : i1 ≠ i2) (g1 : H[i1]? = some ⟨true, true, 39, (rep n [.int .i64 0, .int .i64 0, .int .i64 0, .int .i64 0, .slice none 0 0]).set 0 (.int .i64 2)⟩) (g2 : H[i2]? = some ⟨true, true, 9, rep d [.string (S [])]⟩) :
    FsRes (freshFs n d) h H (.agg #[.slice (some ⟨i1, 0, none⟩) n n, .slice (some ⟨i2, 0, none⟩) d d]) := by
  obtain ⟨m, rfl⟩ : ∃ m, n = m + 1 := ⟨n - 1, by omega⟩
  have r0 : rowsR (nodeE true) H (List.replicate m ⟨0, 0, 0, 0, []⟩) (List.replicate m [.int .i64 0, .int .i64 0, .int .i64 0, .int .i64 0, .slice none 0 0]) (List.replicate m []) := rowsR_rep (A := nodeE true) (z := ⟨0, 0, 0, 0, []⟩) ⟨none, [], rfl, rfl, ⟨rfl, rfl⟩⟩ m
  have r1 : rowsR (nodeE true) H (freshFs (m + 1) d).nodes ([.int .i64 2, .int .i64 0, .int .i64 0, .int .i64 0, .slice none 0 0] :: List.replicate m [.int .i64 0, .int .i64 0, .int .i64 0, .int .i64 0, .slice none 0 0]) ([] :: List.replicate m []) := ⟨⟨none, [], rfl, rfl, ⟨rfl, rfl⟩⟩, r0⟩
  have r2 : rowsR strE H (List.replicate d []) (List.replicate d [.string (S [])]) (List.replicate d []) := rowsR_rep (A := strE) (z := []) ⟨rfl, rfl⟩ d
  have f1 : ([] :: List.replicate m ([] : List Nat)).flatten = [] := by rw [List.flatten_cons, flat_rep]; rfl
  have f2 : (List.replicate d ([] : List Nat)).flatten = [] := flat_rep d
  have len1 : (freshFs (m + 1) d).nodes.length = m + 1 := by simp [freshFs]
  have len2 : (freshFs (m + 1) d).data.length = d := by simp [freshFs]
  refine ⟨some ⟨i1, 0, none⟩, [i1], some ⟨i2, 0, none⟩, [i2], by rw [len1, len2], ⟨e, ⟨rfl, _, _, _, [], [], g1, rfl, fun _ => rfl, rfl, ?_, r1, ?_, rfl⟩, by simp, by simpa using l1⟩, ⟨e, ⟨rfl, _, _, _, [], [], g2, rfl, fun _ => rfl, rfl, ?_, r2, ?_, rfl⟩, by simp, by simpa using l2⟩, by simpa using ne⟩
  · rw [f1]
  · simp [rep, List.replicate_succ]
  · rw [f2]
  · simp [rep]
set_option maxHeartbeats 4000000 in
theorem fsNew_spec_c (n d : Nat) (h : Hp) (hn : 2 ≤ n ∧ n ≤ 10) (hd : 1 ≤ d ∧ d ≤ 36) :
    ACall Try.prog 107 [.int .i64 n, .int .i64 d] h fun r h' => ∃ v, r = .tuple #[v, .bool true] ∧ FsRes (freshFs n d) h h' v := by
  refine acall mixed Try.func107 rfl (by kernel_rfl) ?_
  simp [Try.f107]
  refine callK0 (l1InR n 2 10 _) ?_
  rintro _ _ ⟨rfl, rfl⟩
  have hn' : 1 ≤ n := by omega
  have e1 : inR (n : Int) 2 10 = true := inR_iff.2 ⟨by omega, by omega⟩
  simp [e1]
  refine callK0 (l1InR d 1 36 _) ?_
  rintro _ _ ⟨rfl, rfl⟩
  have e2 : inR (d : Int) 1 36 = true := inR_iff.2 ⟨by omega, by omega⟩
  have hb1 : (n : Int) * 56 ≤ (big : Int) := by unfold big; omega
  have hb2 : n ≤ big := by unfold big; omega
  have hb3 : (d : Int) * 16 ≤ (big : Int) := by unfold big; omega
  have hb4 : d ≤ big := by unfold big; omega
  simp [e2]
  refine drawF false [] [0, 2, 1, 3, 5] [[0, 2, 1, 5, 3], [0, 2, 3, 1, 5], [0, 2, 3, 5, 1], [0, 2, 5, 1, 3], [0, 2, 5, 3, 1]] [4, 6] (by simp; rfl) (by simp; rfl) (by simp; rfl) (by kernel_rfl) ?_
  simp [hb1, hb2, hb3, hb4]
  have hpos : 0 < n := by omega
  have hrl : 1 ≤ (rep n [Value.int .i64 0, .int .i64 0, .int .i64 0, .int .i64 0, .slice none 0 0]).length := by rw [rep_length]; simp; omega
  refine ⟨⟨hpos, hrl, ?_⟩, ⟨hpos, hrl, ?_⟩, ⟨hpos, hrl, ?_⟩, ⟨hpos, hrl, ?_⟩, ⟨hpos, hrl, ?_⟩, hpos, hrl, ?_⟩ <;> exact fresh_res hn' (Ext.push h _) (by omega) (by omega) (by omega) (by simp) (by simp)
end Go.Proofs.Ytgfilbekfkhjjaa.Hz
