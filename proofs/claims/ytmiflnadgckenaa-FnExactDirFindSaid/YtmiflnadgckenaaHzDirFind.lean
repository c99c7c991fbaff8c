/- FnExactDirFind holds: for every directory and every name the program's DirFind and the reference's give the same number, and the arguments read as they did; no condition. -/
import Derived.Test.YtmiflnadgckenaaHzU
import Derived.Test.YtmiflnadgckenaaHzO
import Derived.Test.YtmiflnadgckenaaRows
import Derived.Test.YtmiflnadgckenaaChecked
namespace Go.Proofs.Ytmiflnadgckenaa.Hz
open Go.RowKit Go.ChangeShapes Go.WideShapes Go.ChangeAt

theorem ownKnob_none : ownKnob Try.prog.godebug = none := by kernel_rfl
theorem laid : laidOutB Try.prog = true := by kernel_rfl
theorem u_str : Try.prog.underlying 9 = some .string := by kernel_rfl
theorem u_int : Try.prog.underlying 3 = some (.int .i64) := by kernel_rfl
theorem u_bool : Try.prog.underlying 4 = some .bool := by kernel_rfl

theorem u_ents : Try.prog.underlying 24 = some (.slice 77) := by kernel_rfl
theorem c_ent : Try.prog.cellsOf 77 = 2 := by kernel_rfl
theorem s_ent : szOf Try.prog 77 = some 2 := by kernel_rfl
theorem c_str : Try.prog.cellsOf 9 = 1 := by kernel_rfl
theorem c_int : Try.prog.cellsOf 3 = 1 := by kernel_rfl
theorem two_of {cs : List Value} {u v : Value} (hl : cs.length = 2) (h0 : (cs.drop 0).take 1 = [u]) (h1 : (cs.drop 1).take 1 = [v]) : cs = [u, v] := by
  match cs, hl with
  | [a, b], _ => simp at h0 h1; simp [h0, h1]
theorem opn_ent : Opn Try.prog 77 entE fun e => e.name.length ≤ maxLen := by
  intro H enc W φ h fuel cs x R hx
  obtain ⟨hl, n, hf⟩ := trod_fields (l := [(9, 0), (3, 1)]) (by kernel_rfl) hx
  obtain ⟨y0, h0⟩ := hf 0 _ rfl
  obtain ⟨y1, h1⟩ := hf 1 _ rfl
  simp only [c_str, c_int] at h0 h1
  obtain ⟨s, hs, -, hw⟩ := DataW.trod_string u_str h0
  obtain ⟨m, hm, -, -⟩ := DataW.trod_int u_int h1
  have hc : Try.prog.cellsOf 77 = 2 := by kernel_rfl
  obtain rfl := two_of (hl.trans hc) hs hm
  refine ⟨φ, h, Ent.cs ⟨s.data.toList, m⟩, ⟨s.data.toList, m⟩, [], List.prefix_rfl, List.prefix_rfl, R, ⟨?_, rfl, trivial⟩, ⟨rfl, rfl⟩, ?_⟩
  · show Value.string s = Value.string (S s.data.toList)
    rw [← S_of]
  · show s.data.toList.length ≤ maxLen
    rw [Array.length_toList]; exact hw
theorem opnV_ents : OpnV Try.prog 24 (V1 (slE false 77 entE) fun xs => xs.length ≤ maxLen ∧ ∀ x ∈ xs, x.name.length ≤ maxLen) := opn1 (opn_slice opn_ent u_ents c_ent s_ent (by decide)) (one_slice u_ents)
theorem opnV_str : OpnV Try.prog 9 (V1 strE fun s => s.length ≤ maxLen) := opn1 (opn_str u_str) (one_str u_str)
end Go.Proofs.Ytmiflnadgckenaa.Hz

namespace Go.Proofs.Ytmiflnadgckenaa.fnExactDirFind
open Go.RowKit Go.ChangeShapes Go.WideShapes Go.ChangeAt Go.Proofs.Ytmiflnadgckenaa.Hz

set_option maxRecDepth 100000 in
theorem lifted (os : Os) (started : os.Started) (H : Type) (enc : TypeId × Value → H) :
    ReturnsInHanded {} Try.checked os 4 .any (Rows.fnExactDirFindSpec.pre6 enc Try.prog Try.f4 Rows.fnExactDirFindRow.domain false) (Rows.fnExactDirFindSpec.post enc Try.prog Try.f4 false true false false) := by
  refine returnsInHanded_of_change_sized (C := Try.checked) ownKnob_none started (by kernel_rfl) Try.func4
    (ChangeSpec.witness6 (enc := enc) (C := Try.checked) false ⟨#[], #[.slice none 0 0, .string ⟨#[]⟩], []⟩ 8 (by kernel_rfl) (by kernel_rfl) (by kernel_rfl) (by kernel_rfl)) ?_
  intro W base args ds gs before hval0 hW0 _ _ _
  have hval : ∀ (j : Nat) t v, Try.f4.params[j]? = some t → args[j]? = some v → Value.okWide Try.prog W .any base t v := hval0
  have hW : DataW.Whole enc Try.prog Try.f4.params.toList Rows.fnExactDirFindSpec.vars false W args.toList ds gs before := hW0
  show Calls Try.prog _ _ _ _
  refine law_calls (Vs := [V1 (slE false 77 entE) fun xs => xs.length ≤ maxLen ∧ ∀ x ∈ xs, x.name.length ≤ maxLen, V1 strE fun s => s.length ≤ maxLen])
    Try.func4 rfl (by kernel_rfl) laid ?_ (by kernel_rfl) rfl rfl u_bool ?_ ?_ hval hW
  · rw [show Try.f4.params.toList = [24, 9] from rfl]
    exact ⟨opnV_ents, opnV_str, trivial⟩
  · intro H ds hl
    match ds, hl with
    | [d1, d2], _ => rfl
  · intro h avs hv
    match avs, hv with
    | [av, bv], ⟨⟨xs, F, ⟨a, ea, hr⟩, hl, hx⟩, ⟨nm, F', ⟨eb, _⟩, hn⟩, _⟩ =>
      obtain rfl : av = _ := List.cons.inj ea |>.1
      obtain rfl : bv = _ := List.cons.inj eb |>.1
      exact FnExactDirFind_c xs nm a F false _ h hr hl hn hx
theorem over : Rows.fnExactDirFindRow.holds Try.pinned (OpenSpec.ofChange Rows.fnExactDirFindSpec) :=
  OpenClaim.holds_of_wide 4 Try.f4 rfl rfl rfl rfl rfl rfl rfl ⟨rfl, rfl, rfl, rfl, rfl⟩ rfl rfl rfl rfl rfl (by kernel_rfl) Try.func4 (by kernel_rfl)
    (of_decide_eq_true (by kernel_rfl)) (by unfold Func.isWrapper; first | (rw [if_pos (by decide +kernel)]; kernel_rfl) | (rw [if_neg (by decide +kernel)]; exact ⟨rfl, rfl⟩))
    (fun os started H enc _ => lifted os started H enc)
end Go.Proofs.Ytmiflnadgckenaa.fnExactDirFind
namespace Go.Proofs.Ytmiflnadgckenaa
/-- The row. -/
theorem fnExactDirFind_holds : Rows.FnExactDirFindSaid := fnExactDirFind.over
end Go.Proofs.Ytmiflnadgckenaa
