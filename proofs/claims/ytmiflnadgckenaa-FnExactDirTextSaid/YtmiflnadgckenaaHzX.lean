/- What the parameters of the laws open to; facts on the program as a whole. -/
import Derived.Test.YtmiflnadgckenaaHzP
import Derived.Test.YtmiflnadgckenaaHzO
namespace Go.Proofs.Ytmiflnadgckenaa.Hz
open Go.RowKit Go.ChangeShapes Go.WideShapes Go.ChangeAt

theorem ownKnob_none : ownKnob Try.prog.godebug = none := by kernel_rfl
theorem laid : laidOutB Try.prog = true := by kernel_rfl
theorem u_str : Try.prog.underlying 9 = some .string := by kernel_rfl
theorem u_int : Try.prog.underlying 3 = some (.int .i64) := by kernel_rfl
theorem u_bool : Try.prog.underlying 4 = some .bool := by kernel_rfl

theorem u_ents : Try.prog.underlying 24 = some (.slice 77) := by kernel_rfl
theorem c_ent : Try.prog.cellsOf 77 = 2 := by kernel_rfl
theorem s_ent : szOf Try.prog 77 = some 2 := by kernel_rfl
theorem c_str : Try.prog.cellsOf 9 = 1 := by kernel_rfl
theorem c_int : Try.prog.cellsOf 3 = 1 := by kernel_rfl
theorem two_of {cs : List Value} {u v : Value} (hl : cs.length = 2) (h0 : (cs.drop 0).take 1 = [u]) (h1 : (cs.drop 1).take 1 = [v]) : cs = [u, v] := by
  match cs, hl with
  | [a, b], _ => simp at h0 h1; simp [h0, h1]
theorem opn_ent : Opn Try.prog 77 entE fun e => e.name.length ≤ maxLen := by
  intro H enc W φ h fuel cs x R hx
  obtain ⟨hl, n, hf⟩ := trod_fields (l := [(9, 0), (3, 1)]) (by kernel_rfl) hx
  obtain ⟨y0, h0⟩ := hf 0 _ rfl
  obtain ⟨y1, h1⟩ := hf 1 _ rfl
  simp only [c_str, c_int] at h0 h1
  obtain ⟨s, hs, -, hw⟩ := DataW.trod_string u_str h0
  obtain ⟨m, hm, -, -⟩ := DataW.trod_int u_int h1
  have hc : Try.prog.cellsOf 77 = 2 := by kernel_rfl
  obtain rfl := two_of (hl.trans hc) hs hm
  refine ⟨φ, h, Ent.cs ⟨s.data.toList, m⟩, ⟨s.data.toList, m⟩, [], List.prefix_rfl, List.prefix_rfl, R, ⟨?_, rfl, trivial⟩, ⟨rfl, rfl⟩, ?_⟩
  · show Value.string s = Value.string (S s.data.toList)
    rw [← S_of]
  · show s.data.toList.length ≤ maxLen
    rw [Array.length_toList]; exact hw
theorem opnV_ents : OpnV Try.prog 24 (V1 (slE false 77 entE) fun xs => xs.length ≤ maxLen ∧ ∀ x ∈ xs, x.name.length ≤ maxLen) := opn1 (opn_slice opn_ent u_ents c_ent s_ent (by decide)) (one_slice u_ents)
theorem opnV_str : OpnV Try.prog 9 (V1 strE fun s => s.length ≤ maxLen) := opn1 (opn_str u_str) (one_str u_str)
end Go.Proofs.Ytmiflnadgckenaa.Hz
