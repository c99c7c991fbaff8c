/- Entries that are in order: both programs. -/
import Derived.Test.YtidkkmkihifeoaaHzDT
import Derived.Test.YtidkkmkihifeoaaHzNM
namespace Go.Proofs.Ytidkkmkihifeoaa.Hz
open Go.RowKit
set_option linter.unusedVariables false
set_option linter.unusedSimpArgs false
set_option maxRecDepth 20000

theorem less_total : ∀ (a b : Str), (!Op.bytesLess a b) = (Op.bytesLess b a || b == a)
  | [], [] => by simp [Op.bytesLess]
  | [], y :: ys => by simp [Op.bytesLess]
  | x :: xs, [] => by simp [Op.bytesLess]
  | x :: xs, y :: ys => by
    have ih := less_total xs ys
    simp only [Op.bytesLess]
    by_cases h1 : x < y
    · have h2 : ¬ y < x := fun h => by simp only [UInt8.lt_iff_toNat_lt] at *; omega
      have h3 : y ≠ x := fun h => by subst h; exact h2 h1
      simp [h1, h2, h3]
    · by_cases h2 : y < x
      · have h3 : x ≠ y := fun h => by subst h; exact h1 h2
        simp [h1, h2, h3]
      · have h3 : x = y := by
          apply UInt8.toNat_inj.1
          simp only [UInt8.lt_iff_toNat_lt] at *; omega
        subst h3
        simp [h1]
        simpa using ih

def nameH (s : Str) : Bool := s == [126] || nameOk s
def okAt (es : List Ent) (i : Nat) (e : Ent) : Bool :=
  nameH e.name && decide (1 ≤ e.node ∧ e.node ≤ 9) && (match i with | 0 => true | j + 1 => match es[j]? with | some x => Op.bytesLess x.name e.name | none => true) && (es.take i).all (fun x => !(x.node == e.node))
theorem okAt_zero (es : List Ent) (e : Ent) (k : Nat) (hk : k = 0) : okAt es k e = (nameH e.name && decide (1 ≤ e.node ∧ e.node ≤ 9) && (es.take k).all (fun x => !(x.node == e.node))) := by subst hk; simp [okAt]
theorem okAt_pos (es : List Ent) (e : Ent) (k : Nat) (h0 : 0 < k) (hk : k - 1 < es.length) : okAt es k e = (nameH e.name && decide (1 ≤ e.node ∧ e.node ≤ 9) && Op.bytesLess es[k - 1].name e.name && (es.take k).all (fun x => !(x.node == e.node))) := by
  cases k with
  | zero => omega
  | succ j =>
    have hj : j < es.length := by omega
    simp only [okAt, Nat.add_sub_cancel]
    rw [List.getElem?_eq_getElem hj]
def okFrom (es : List Ent) : List Ent → Nat → Bool
  | [], _ => true
  | e :: l, i => okAt es i e && okFrom es l (i + 1)
def entriesOk (es : List Ent) : Bool := okFrom es es 0 && decide ((dirText es).length ≤ 80)
theorem okFrom_drop (es : List Ent) (k : Nat) (hk : k < es.length) : okFrom es (es.drop k) k = (okAt es k es[k] && okFrom es (es.drop (k + 1)) (k + 1)) := by
  rw [List.drop_eq_getElem_cons hk]; rfl

theorem nameH_spec_c (s : Str) (h : Hp) (hs : s.length ≤ 9223372036854775806) : ACall Try.prog 140 [.string (S s)] h fun r h' => h' = h ∧ r = .bool (nameH s) := by
  refine acall mixed Try.func140 rfl (by kernel_rfl) ?_
  simp [Try.f140]
  cases hd : s == [126] with
  | true => simp [hd, nameH]
  | false =>
    simp [hd, nameH]
    refine callK0 (nameOk_spec_c s h hs) ?_
    rintro _ h ⟨rfl, rfl⟩
    simp [hd]

section
variable (es : List Ent) (a : Option Addr) (F : List Nat) (w : Bool) (t : TypeId) (h : Hp) (hr : slR w t entE h es a F) (hl : es.length ≤ 1048576) (hn : sumL Ent.nl es ≤ 1048576)
include hr hl hn
theorem entriesOk_spec_c : ACall Try.prog 72 [.slice a es.length es.length] h fun r h' => (∃ t, h' = h ++ t) ∧ r = .bool (entriesOk es) := by
  refine acall mixed Try.func72 rfl (by kernel_rfl) ?_
  simp [Try.f72]
  refine aloop mixed [0, 3] (fun (k : Nat) => [.slice a es.length es.length, .int .i64 k]) (fun _ => h) (fun k => k ≤ es.length ∧ okFrom es (es.drop k) k = okFrom es es 0) (fun k => es.length - k) 0 ⟨by omega, by simp⟩ rfl rfl ?_
  rintro k ⟨hk, he⟩
  simp [mkF]
  refine asplitK_intro (fun hb => ?_) (fun hb => ?_) <;> simp at hb <;> simp [hb]
  · have hnl : es[k].name.length ≤ 1048576 := by
      have := sumL_mem Ent.nl (List.getElem_mem hb)
      have h2 : es[k].nl = es[k].name.length := rfl
      omega
    obtain ⟨o, off, rfl, c0, c1⟩ := entAt hr hb
    rw [okFrom_drop es k hb] at he
    refine drawK false (by kernel_rfl) ?_
    simp [hb, c0]
    refine callK0 (nameH_spec_c es[k].name h (by omega)) ?_
    rintro _ h ⟨rfl, rfl⟩
    simp
    cases h1 : nameH es[k].name with
    | false =>
      have : okFrom es es 0 = false := by rw [← he]; simp [okAt, h1]
      simp [entriesOk, this]
    | true =>
      simp [hb, c1]
      refine callK0 (within_spec_c es[k].node 1 9 h) ?_
      rintro _ h ⟨rfl, rfl⟩
      by_cases h2 : 1 ≤ es[k].node ∧ es[k].node ≤ 9
      · have h3 := h2.1
        have h4 := h2.2
        by_cases hk0 : k = 0
        · have hneg : ¬ 0 < k := by omega
          have hokp := okAt_zero es es[k] k hk0
          simp [h3, h4, hneg]
          refine aloop mixed [0, 3, 4] (fun (j : Nat) => [.slice (some ⟨o, off, none⟩) es.length es.length, .int .i64 k, .int .i64 j]) (fun _ => h) (fun j => j ≤ k ∧ (es.take j).all (fun x => !(x.node == es[k].node)) = true) (fun j => k - j) 0 ⟨by omega, by simp⟩ (by simp [pickF]) rfl ?_
          rintro j ⟨hj, hje⟩
          simp [mkF]
          refine asplitK_intro (fun hc => ?_) (fun hc => ?_) <;> simp at hc <;> simp [hc]
          · have hjl : j < es.length := by omega
            obtain ⟨o', off', ea2, e0, e1⟩ := entAt hr hjl
            obtain ⟨rfl, rfl⟩ : o = o' ∧ off = off' := by simpa using ea2
            refine drawK false (by kernel_rfl) ?_
            simp [hjl, hb, e1, c1]
            refine asplitK_intro (fun hq => ?_) (fun hq => ?_) <;> simp at hq <;> simp
            · have hall : (es.take k).all (fun x => !(x.node == es[k].node)) = false := by
                rw [Bool.eq_false_iff]
                intro hh
                rw [List.all_eq_true] at hh
                have := hh es[j] (List.mem_take_iff_getElem.2 ⟨j, by omega, rfl⟩)
                simp [hq] at this
              have : okFrom es es 0 = false := by rw [← he, hokp, hall]; simp
              simp [entriesOk, this]
            · have hnx : (es.take (j + 1)).all (fun x => !(x.node == es[k].node)) = true := by
                rw [List.take_succ_eq_append_getElem hjl, List.all_append, hje]; simp [hq]
              exact anext (j + 1) ⟨hc, by simpa using hnx⟩ (by omega) (by simp [pickF, wrap_succ (show j < 9223372036854775807 by omega)]) rfl (by simp)
          · obtain rfl : j = k := by omega
            have hA : okAt es j es[j] = true := by rw [hokp, hje]; simp [h1, h3, h4]
            rw [hA, Bool.true_and] at he
            exact anext (j + 1) ⟨hb, he⟩ (by omega) (by simp [pickF, wrap_succ (show j < 9223372036854775807 by omega)]) rfl (by simp)
        · have hk1 : k - 1 < es.length := by omega
          have wk : IntKind.i64.wrap ((k : Int) - 1) = ((k - 1 : Nat) : Int) := by rw [wrap_in (by omega) (by omega)]; omega
          have hpos : (0 : Int) < k := by omega
          obtain ⟨o', off', ea, d0, d1⟩ := entAt hr hk1
          obtain ⟨rfl, rfl⟩ : o = o' ∧ off = off' := by simpa using ea
          have hokp := okAt_pos es es[k] k (by omega) hk1
          have hls := less_total es[k - 1].name es[k].name
          cases hle : Op.bytesLess es[k - 1].name es[k].name with
          | false =>
            rw [hle] at hls
            have hls2 : (Op.bytesLess es[k].name es[k - 1].name || es[k].name == es[k - 1].name) = true := hls.symm
            have : okFrom es es 0 = false := by rw [← he, hokp, hle]; simp
            simp [h3, h4, hpos, Nat.pos_of_ne_zero hk0, hb, c0, wk, hk1, d0, hls2, entriesOk, this]
          | true =>
          rw [hle] at hls
          have hls2 : (Op.bytesLess es[k].name es[k - 1].name || es[k].name == es[k - 1].name) = false := hls.symm
          simp [h3, h4, hpos, Nat.pos_of_ne_zero hk0, hb, c0, wk, hk1, d0, hls2]
          refine aloop mixed [0, 3, 4] (fun (j : Nat) => [.slice (some ⟨o, off, none⟩) es.length es.length, .int .i64 k, .int .i64 j]) (fun _ => h) (fun j => j ≤ k ∧ (es.take j).all (fun x => !(x.node == es[k].node)) = true) (fun j => k - j) 0 ⟨by omega, by simp⟩ (by simp [pickF]) rfl ?_
          rintro j ⟨hj, hje⟩
          simp [mkF]
          refine asplitK_intro (fun hc => ?_) (fun hc => ?_) <;> simp at hc <;> simp [hc]
          · have hjl : j < es.length := by omega
            obtain ⟨o', off', ea2, e0, e1⟩ := entAt hr hjl
            obtain ⟨rfl, rfl⟩ : o = o' ∧ off = off' := by simpa using ea2
            refine drawK false (by kernel_rfl) ?_
            simp [hjl, hb, e1, c1]
            refine asplitK_intro (fun hq => ?_) (fun hq => ?_) <;> simp at hq <;> simp
            · have hall : (es.take k).all (fun x => !(x.node == es[k].node)) = false := by
                rw [Bool.eq_false_iff]
                intro hh
                rw [List.all_eq_true] at hh
                have := hh es[j] (List.mem_take_iff_getElem.2 ⟨j, by omega, rfl⟩)
                simp [hq] at this
              have : okFrom es es 0 = false := by rw [← he, hokp, hall]; simp
              simp [entriesOk, this]
            · have hnx : (es.take (j + 1)).all (fun x => !(x.node == es[k].node)) = true := by
                rw [List.take_succ_eq_append_getElem hjl, List.all_append, hje]; simp [hq]
              exact anext (j + 1) ⟨hc, by simpa using hnx⟩ (by omega) (by simp [pickF, wrap_succ (show j < 9223372036854775807 by omega)]) rfl (by simp)
          · obtain rfl : j = k := by omega
            have hA : okAt es j es[j] = true := by rw [hokp, hje]; simp [h1, h3, h4, hle]
            rw [hA, Bool.true_and] at he
            exact anext (j + 1) ⟨hb, he⟩ (by omega) (by simp [pickF, wrap_succ (show j < 9223372036854775807 by omega)]) rfl (by simp)
      · have h3 : (decide (1 ≤ es[k].node) && decide (es[k].node ≤ 9)) = false := by simpa using h2
        have h4 : (!decide (1 ≤ es[k].node) || !decide (es[k].node ≤ 9)) = true := by simp; omega
        have : okFrom es es 0 = false := by
          rw [← he]
          have h5 : okAt es k es[k] = false := by unfold okAt; simp [h2]
          simp [h5]
        simp [h3, h4, entriesOk, this]
  · obtain rfl : k = es.length := by omega
    have h0 : okFrom es es 0 = true := by rw [← he]; simp [okFrom]
    refine callK0 (dirText_spec_c es a F w t h hr hl hn) ?_
    rintro _ _ ⟨⟨t1, rfl⟩, rfl⟩
    simp [entriesOk, h0]
    omega
end

end Go.Proofs.Ytidkkmkihifeoaa.Hz
