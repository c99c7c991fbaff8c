/- What the parameters of the laws open to; facts on the program as a whole. -/
import Derived.Test.YtidkkmkihifeoaaHzP
import Derived.Test.YtidkkmkihifeoaaHzI2
import Derived.Test.YtidkkmkihifeoaaHzO
namespace Go.Proofs.Ytidkkmkihifeoaa.Hz
open Go.RowKit Go.ChangeShapes Go.WideShapes Go.ChangeAt
set_option linter.unusedVariables false
set_option linter.unusedSimpArgs false

theorem ownKnob_none : ownKnob Try.prog.godebug = none := by kernel_rfl
theorem laid : laidOutB Try.prog = true := by kernel_rfl
theorem u_str : Try.prog.underlying 9 = some .string := by kernel_rfl
theorem u_int : Try.prog.underlying 3 = some (.int .i64) := by kernel_rfl
theorem u_bool : Try.prog.underlying 4 = some .bool := by kernel_rfl

theorem u_ents : Try.prog.underlying 22 = some (.slice 96) := by kernel_rfl
theorem c_ent : Try.prog.cellsOf 96 = 2 := by kernel_rfl
theorem s_ent : szOf Try.prog 96 = some 2 := by kernel_rfl
theorem c_str : Try.prog.cellsOf 9 = 1 := by kernel_rfl
theorem c_int : Try.prog.cellsOf 3 = 1 := by kernel_rfl
theorem two_of {cs : List Value} {u v : Value} (hl : cs.length = 2) (h0 : (cs.drop 0).take 1 = [u]) (h1 : (cs.drop 1).take 1 = [v]) : cs = [u, v] := by
  match cs, hl with
  | [a, b], _ => simp at h0 h1; simp [h0, h1]
theorem opn_ent : Opn Try.prog 96 entE fun e => e.name.length ≤ maxLen := by
  intro H enc W φ h fuel cs x R hx
  obtain ⟨hl, n, hf⟩ := trod_fields (l := [(9, 0), (3, 1)]) (by kernel_rfl) hx
  obtain ⟨y0, h0⟩ := hf 0 _ rfl
  obtain ⟨y1, h1⟩ := hf 1 _ rfl
  simp only [c_str, c_int] at h0 h1
  obtain ⟨s, hs, -, hw⟩ := DataW.trod_string u_str h0
  obtain ⟨m, hm, -, -⟩ := DataW.trod_int u_int h1
  have hc : Try.prog.cellsOf 96 = 2 := by kernel_rfl
  obtain rfl := two_of (hl.trans hc) hs hm
  refine ⟨φ, h, Ent.cs ⟨s.data.toList, m⟩, ⟨s.data.toList, m⟩, [], List.prefix_rfl, List.prefix_rfl, R, ⟨?_, rfl, trivial⟩, ⟨rfl, rfl⟩, ?_⟩
  · show Value.string s = Value.string (S s.data.toList)
    rw [← S_of]
  · show s.data.toList.length ≤ maxLen
    rw [Array.length_toList]; exact hw
theorem opnV_ents : OpnV Try.prog 22 (V1 (slE false 96 entE) fun xs => xs.length ≤ maxLen ∧ ∀ x ∈ xs, x.name.length ≤ maxLen) := opn1 (opn_slice opn_ent u_ents c_ent s_ent (by decide)) (one_slice u_ents)
theorem opnV_str : OpnV Try.prog 9 (V1 strE fun s => s.length ≤ maxLen) := opn1 (opn_str u_str) (one_str u_str)

theorem opn_struct1 {P : Program} {α : Type} {t ft : TypeId} {A : Enc α} {ok : α → Prop} (hf : fsOf P t = some [(ft, 0)]) (h1 : P.cellsOf t = 1) (h2 : P.cellsOf ft = 1) (hA : Opn P ft A ok) : Opn P t A ok := by
  intro H enc W φ h fuel cs x R hx
  obtain ⟨hl, n, hf⟩ := trod_fields hf hx
  obtain ⟨y0, h0⟩ := hf 0 _ rfl
  simp only [h2, List.drop_zero] at h0
  rw [List.take_of_length_le (by omega)] at h0
  exact hA R h0
theorem four_of {cs : List Value} {u v x y : Value} (hl : cs.length = 4) (h0 : (cs.drop 0).take 1 = [u]) (h1 : (cs.drop 1).take 1 = [v]) (h2 : (cs.drop 2).take 1 = [x]) (h3 : (cs.drop 3).take 1 = [y]) : cs = [u, v, x, y] := by
  match cs, hl with
  | [a, b, c, d], _ => simp at h0 h1 h2 h3; simp [h0, h1, h2, h3]
theorem u_items : Try.prog.underlying 35 = some (.slice 163) := by kernel_rfl
theorem c_items : Try.prog.cellsOf 35 = 1 := by kernel_rfl
theorem c_item : Try.prog.cellsOf 163 = 4 := by kernel_rfl
theorem s_item : szOf Try.prog 163 = some 4 := by kernel_rfl
theorem c_tree : Try.prog.cellsOf 37 = 1 := by kernel_rfl
theorem u_tree : ∃ fs, Try.prog.underlying 37 = some (.struct fs) := by
  obtain ⟨fs, h, _⟩ := fsOf_some (P := Try.prog) (t := 37) (l := [(35, 0)]) (by kernel_rfl)
  exact ⟨fs, h⟩
theorem opn_item : Opn Try.prog 163 itemE fun e => e.path.length ≤ maxLen ∧ e.data.length ≤ maxLen := by
  intro H enc W φ h fuel cs x R hx
  obtain ⟨hl, n, hf⟩ := trod_fields (l := [(9, 0), (3, 1), (9, 2), (3, 3)]) (by kernel_rfl) hx
  obtain ⟨y0, h0⟩ := hf 0 _ rfl
  obtain ⟨y1, h1⟩ := hf 1 _ rfl
  obtain ⟨y2, h2⟩ := hf 2 _ rfl
  obtain ⟨y3, h3⟩ := hf 3 _ rfl
  simp only [c_str, c_int] at h0 h1 h2 h3
  obtain ⟨s, hs, -, hw⟩ := DataW.trod_string u_str h0
  obtain ⟨m, hm, -, -⟩ := DataW.trod_int u_int h1
  obtain ⟨s2, hs2, -, hw2⟩ := DataW.trod_string u_str h2
  obtain ⟨m2, hm2, -, -⟩ := DataW.trod_int u_int h3
  obtain rfl := four_of (hl.trans c_item) hs hm hs2 hm2
  refine ⟨φ, h, Item.cs ⟨s.data.toList, m, s2.data.toList, m2⟩, ⟨s.data.toList, m, s2.data.toList, m2⟩, [], List.prefix_rfl, List.prefix_rfl, R, ⟨?_, rfl, ?_, rfl, trivial⟩, ⟨rfl, rfl⟩, ?_, ?_⟩
  · show Value.string s = Value.string (S s.data.toList)
    rw [← S_of]
  · show Value.string s2 = Value.string (S s2.data.toList)
    rw [← S_of]
  · show s.data.toList.length ≤ maxLen
    rw [Array.length_toList]; exact hw
  · show s2.data.toList.length ≤ maxLen
    rw [Array.length_toList]; exact hw2
theorem opnV_tree : OpnV Try.prog 37 (VS (slE false 163 itemE) fun xs => xs.length ≤ maxLen ∧ ∀ x ∈ xs, x.path.length ≤ maxLen ∧ x.data.length ≤ maxLen) := by
  obtain ⟨fs, h⟩ := u_tree
  exact opnS (opn_struct1 (by kernel_rfl) c_tree c_items (opn_slice opn_item u_items c_item s_item (by decide))) h
theorem opnV_int : OpnV Try.prog 3 (V1 intE fun n => (Lit.int .i64 n).wf = true) := opn1 (opn_int u_int) (one_int u_int)
end Go.Proofs.Ytidkkmkihifeoaa.Hz
