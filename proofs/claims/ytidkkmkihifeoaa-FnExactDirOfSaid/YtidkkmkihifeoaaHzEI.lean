/- Entries that are in order: the program, and the law. -/
import Derived.Test.YtidkkmkihifeoaaHzEO
import Derived.Test.YtidkkmkihifeoaaHzPS
namespace Go.Proofs.Ytidkkmkihifeoaa.Hz
open Go.RowKit
set_option linter.unusedVariables false
set_option linter.unusedSimpArgs false
set_option maxRecDepth 20000

theorem containsFuncEnt_c (es : List Ent) (a : Option Addr) (F : List Nat) (w : Bool) (t : TypeId) (h : Hp) (hr : slR w t entE h es a F) (hl : es.length ≤ 1048576) (p : Ent → Bool) (g : FuncId) (cap : Array Value)
    (hg : ∀ e ∈ es, ∀ t, ACall Try.prog g (e.v :: cap.toList) (h ++ t) fun r h' => (∃ t', h' = h ++ t ++ t') ∧ r = .bool (p e)) :
    ACall Try.prog 105 [.slice a es.length es.length, .func (.func g) #[] cap] h fun r h' => (∃ t, h' = h ++ t) ∧ r = .bool (es.any p) := by
  refine acall mixed Try.func105 rfl (by kernel_rfl) ?_
  simp [Try.f105]
  refine callK0 (indexFuncEnt_c es a F w t h hr hl p g cap hg) ?_
  rintro _ _ ⟨⟨t1, rfl⟩, rfl⟩
  rcases findI_spec p es 0 with ⟨h1, h2⟩ | ⟨j, hj, h1, h2, _⟩
  · have : es.any p = false := by rw [List.any_eq_false]; intro x hx; simp [h2 x hx]
    simp [h1, this]
  · have : es.any p = true := List.any_eq_true.2 ⟨es[j], List.getElem_mem hj, h2⟩
    have h3 : (0 : Int) ≤ ((0 + j : Nat) : Int) := by omega
    rw [h1]
    simp [this]

theorem entriesOk1_c (x e : Ent) (o : Nat) (h : Hp) (ho : o < h.length) (hc : cellAt h o 1 = some (.int .i64 e.node)) :
    ACall Try.prog 106 [x.v, .pointer (some ⟨o, 0, none⟩)] h fun r h' => (∃ t', h' = h ++ t') ∧ r = .bool (x.node == e.node) := by
  refine acall mixed Try.func106 rfl (by kernel_rfl) ?_
  have hc2 : ∀ l, cellAt (h ++ l) o 1 = some (.int .i64 e.node) := fun l => by rw [cellAt_ext (Ext.push h l) ho]; exact hc
  simp [Try.f106, Ent.v, hc2]

section
variable (es : List Ent) (a : Option Addr) (F : List Nat) (w : Bool) (h : Hp) (hr : slR w 66 entE h es a F) (hl : es.length ≤ 1048576) (hn : sumL Ent.nl es ≤ 1048576)
include hr hl hn
theorem entriesOk_impl_c : ACall Try.prog 39 [.slice a es.length es.length] h fun r h' => (∃ t, h' = h ++ t) ∧ r = .bool (entriesOk es) := by
  refine acall mixed Try.func39 rfl (by kernel_rfl) ?_
  simp [Try.f39]
  refine aloop mixed [0, 5, 6, 7] (fun (x : Nat × Hp) => [.slice a es.length es.length, .slice a es.length es.length, .int .i64 es.length, .int .i64 x.1]) (fun x => h ++ x.2) (fun x => x.1 ≤ es.length ∧ okFrom es (es.drop x.1) x.1 = okFrom es es 0) (fun x => es.length - x.1) (0, []) ⟨by simp, by simp⟩ rfl (by simp) ?_
  rintro ⟨k, t⟩ ⟨hk, he⟩
  simp only at hk he
  simp [mkF]
  refine asplitK_intro (fun hb => ?_) (fun hb => ?_) <;> simp at hb <;> simp [hb]
  · have hnl : es[k].name.length ≤ 1048576 := by
      have := sumL_mem Ent.nl (List.getElem_mem hb)
      have h2 : es[k].nl = es[k].name.length := rfl
      omega
    obtain ⟨o, off, rfl, c0, c1⟩ := entAt (hr.ext (Ext.push h t)) hb
    rw [okFrom_drop es k hb] at he
    simp [hb, c0, c1]
    refine drawK false (by kernel_rfl) ?_
    simp
    refine callK0 (nameOk_c es[k].name _ (by omega)) ?_
    rintro _ _ ⟨rfl, rfl⟩
    have hr' := hr.ext (Ext.push h (t ++ [⟨true, true, 66, [.string (S es[k].name), .int .i64 es[k].node]⟩]))
    have hel := hr'.el
    have hcase : nameH es[k].name = false ∨ (nameH es[k].name = true ∧ nameOk es[k].name = true) ∨ (nameH es[k].name = true ∧ nameOk es[k].name = false ∧ (es[k].name == [126]) = true) := by
      unfold nameH
      cases nameOk es[k].name <;> cases es[k].name == [126] <;> simp
    rcases hcase with hN | ⟨hN, hN1⟩ | ⟨hN, hN1, hN2⟩
    · have hf : okFrom es es 0 = false := by
        rw [← he]
        have h5 : okAt es k es[k] = false := by unfold okAt; simp [hN]
        simp [h5]
      have hN1 : nameOk es[k].name = false := by unfold nameH at hN; simp at hN; exact hN.2
      have hN2 : (es[k].name == [126]) = false := by unfold nameH at hN; simp at hN; simpa using hN.1
      simp [hN1, hN2, entriesOk, hf]
    · simp [hN1]
      refine callK0 (within_c es[k].node 1 9 _) ?_
      rintro _ _ ⟨rfl, rfl⟩
      by_cases h2 : 1 ≤ es[k].node ∧ es[k].node ≤ 9
      · have h3 := h2.1
        have h4 := h2.2
        obtain ⟨G, hp, _⟩ := hr'.part 0 k (by omega) (by omega)
        simp only [List.drop_zero, Nat.zero_mul, Nat.add_zero] at hp
        have hlen : (es.take k).length = k := by simp; omega
        have hcf := containsFuncEnt_c (es.take k) _ G w _ _ hp (by omega) (fun x => x.node == es[k].node) 106 #[.pointer (some ⟨h.length + t.length, 0, none⟩)] (fun e he t' => by
          refine (entriesOk1_c e es[k] (h.length + t.length) _ (by simp) (by simp)).mono ?_
          simp)
        rw [hlen] at hcf
        simp at hcf
        have hany : (es.take k).any (fun x => x.node == es[k].node) = !(es.take k).all (fun x => !(x.node == es[k].node)) := List.any_eq_not_all_not ..
        by_cases hk0 : k = 0
        · have hneg : ¬ 0 < k := by omega
          have hokp := okAt_zero es es[k] k hk0
          simp [h3, h4, hneg, asl2_j, hel, Nat.le_of_lt hb]
          refine callK0 (hcf.cap (Nat.le_of_lt hb)) ?_
          rintro _ _ ⟨⟨t1, rfl⟩, rfl⟩
          cases hA : (es.take k).all (fun x => !(x.node == es[k].node)) with
          | false =>
            rw [hA] at hany
            have hf : okFrom es es 0 = false := by rw [← he, hokp, hA]; simp
            simp only [hany]
            simp [entriesOk, hf]
          | true =>
            rw [hA] at hany
            have hA2 : okAt es k es[k] = true := by rw [hokp, hA]; simp [hN, h3, h4]
            rw [hA2, Bool.true_and] at he
            simp only [hany]
            simp
            exact anext (k + 1, t ++ ⟨true, true, 66, [.string (S es[k].name), .int .i64 es[k].node]⟩ :: t1) ⟨hb, he⟩ (by simp only; omega) (by simp [pickF, wrap_succ (show k < 9223372036854775807 by omega)]) (by simp) (by simp)
        · have hk1 : k - 1 < es.length := by omega
          have wk : IntKind.i64.wrap ((k : Int) - 1) = ((k - 1 : Nat) : Int) := by rw [wrap_in (by omega) (by omega)]; omega
          obtain ⟨o', off', ea, d0, d1⟩ := entAt hr' hk1
          obtain ⟨rfl, rfl⟩ : o = o' ∧ off = off' := by simpa using ea
          have hokp := okAt_pos es es[k] k (by omega) hk1
          cases hle : Op.bytesLess es[k - 1].name es[k].name with
          | false =>
            have hf : okFrom es es 0 = false := by rw [← he, hokp, hle]; simp
            simp [h3, h4, Nat.pos_of_ne_zero hk0, wk, hk1, d0, hle, entriesOk, hf]
          | true =>
          simp [h3, h4, Nat.pos_of_ne_zero hk0, wk, hk1, d0, hle, asl2_j, hel, Nat.le_of_lt hb]
          refine callK0 (hcf.cap (Nat.le_of_lt hb)) ?_
          rintro _ _ ⟨⟨t1, rfl⟩, rfl⟩
          cases hA : (es.take k).all (fun x => !(x.node == es[k].node)) with
          | false =>
            rw [hA] at hany
            have hf : okFrom es es 0 = false := by rw [← he, hokp, hA]; simp
            simp only [hany]
            simp [entriesOk, hf]
          | true =>
            rw [hA] at hany
            have hA2 : okAt es k es[k] = true := by rw [hokp, hA]; simp [hN, h3, h4, hle]
            rw [hA2, Bool.true_and] at he
            simp only [hany]
            simp
            exact anext (k + 1, t ++ ⟨true, true, 66, [.string (S es[k].name), .int .i64 es[k].node]⟩ :: t1) ⟨hb, he⟩ (by simp only; omega) (by simp [pickF, wrap_succ (show k < 9223372036854775807 by omega)]) (by simp) (by simp)
      · have h3 : (decide (1 ≤ es[k].node) && decide (es[k].node ≤ 9)) = false := by simpa using h2
        have h4 : (!decide (1 ≤ es[k].node) || !decide (es[k].node ≤ 9)) = true := by simp; omega
        have hf : okFrom es es 0 = false := by
          rw [← he]
          have h5 : okAt es k es[k] = false := by unfold okAt; simp [h2]
          simp [h5]
        simp [h3, h4, entriesOk, hf]
    · simp [hN1, hN2]
      refine callK0 (within_c es[k].node 1 9 _) ?_
      rintro _ _ ⟨rfl, rfl⟩
      by_cases h2 : 1 ≤ es[k].node ∧ es[k].node ≤ 9
      · have h3 := h2.1
        have h4 := h2.2
        obtain ⟨G, hp, _⟩ := hr'.part 0 k (by omega) (by omega)
        simp only [List.drop_zero, Nat.zero_mul, Nat.add_zero] at hp
        have hlen : (es.take k).length = k := by simp; omega
        have hcf := containsFuncEnt_c (es.take k) _ G w _ _ hp (by omega) (fun x => x.node == es[k].node) 106 #[.pointer (some ⟨h.length + t.length, 0, none⟩)] (fun e he t' => by
          refine (entriesOk1_c e es[k] (h.length + t.length) _ (by simp) (by simp)).mono ?_
          simp)
        rw [hlen] at hcf
        simp at hcf
        have hany : (es.take k).any (fun x => x.node == es[k].node) = !(es.take k).all (fun x => !(x.node == es[k].node)) := List.any_eq_not_all_not ..
        by_cases hk0 : k = 0
        · have hneg : ¬ 0 < k := by omega
          have hokp := okAt_zero es es[k] k hk0
          simp [h3, h4, hneg, asl2_j, hel, Nat.le_of_lt hb]
          refine callK0 (hcf.cap (Nat.le_of_lt hb)) ?_
          rintro _ _ ⟨⟨t1, rfl⟩, rfl⟩
          cases hA : (es.take k).all (fun x => !(x.node == es[k].node)) with
          | false =>
            rw [hA] at hany
            have hf : okFrom es es 0 = false := by rw [← he, hokp, hA]; simp
            simp only [hany]
            simp [entriesOk, hf]
          | true =>
            rw [hA] at hany
            have hA2 : okAt es k es[k] = true := by rw [hokp, hA]; simp [hN, h3, h4]
            rw [hA2, Bool.true_and] at he
            simp only [hany]
            simp
            exact anext (k + 1, t ++ ⟨true, true, 66, [.string (S es[k].name), .int .i64 es[k].node]⟩ :: t1) ⟨hb, he⟩ (by simp only; omega) (by simp [pickF, wrap_succ (show k < 9223372036854775807 by omega)]) (by simp) (by simp)
        · have hk1 : k - 1 < es.length := by omega
          have wk : IntKind.i64.wrap ((k : Int) - 1) = ((k - 1 : Nat) : Int) := by rw [wrap_in (by omega) (by omega)]; omega
          obtain ⟨o', off', ea, d0, d1⟩ := entAt hr' hk1
          obtain ⟨rfl, rfl⟩ : o = o' ∧ off = off' := by simpa using ea
          have hokp := okAt_pos es es[k] k (by omega) hk1
          cases hle : Op.bytesLess es[k - 1].name es[k].name with
          | false =>
            have hf : okFrom es es 0 = false := by rw [← he, hokp, hle]; simp
            simp [h3, h4, Nat.pos_of_ne_zero hk0, wk, hk1, d0, hle, entriesOk, hf]
          | true =>
          simp [h3, h4, Nat.pos_of_ne_zero hk0, wk, hk1, d0, hle, asl2_j, hel, Nat.le_of_lt hb]
          refine callK0 (hcf.cap (Nat.le_of_lt hb)) ?_
          rintro _ _ ⟨⟨t1, rfl⟩, rfl⟩
          cases hA : (es.take k).all (fun x => !(x.node == es[k].node)) with
          | false =>
            rw [hA] at hany
            have hf : okFrom es es 0 = false := by rw [← he, hokp, hA]; simp
            simp only [hany]
            simp [entriesOk, hf]
          | true =>
            rw [hA] at hany
            have hA2 : okAt es k es[k] = true := by rw [hokp, hA]; simp [hN, h3, h4, hle]
            rw [hA2, Bool.true_and] at he
            simp only [hany]
            simp
            exact anext (k + 1, t ++ ⟨true, true, 66, [.string (S es[k].name), .int .i64 es[k].node]⟩ :: t1) ⟨hb, he⟩ (by simp only; omega) (by simp [pickF, wrap_succ (show k < 9223372036854775807 by omega)]) (by simp) (by simp)
      · have h3 : (decide (1 ≤ es[k].node) && decide (es[k].node ≤ 9)) = false := by simpa using h2
        have h4 : (!decide (1 ≤ es[k].node) || !decide (es[k].node ≤ 9)) = true := by simp; omega
        have hf : okFrom es es 0 = false := by
          rw [← he]
          have h5 : okAt es k es[k] = false := by unfold okAt; simp [h2]
          simp [h5]
        simp [h3, h4, entriesOk, hf]
  · obtain rfl : k = es.length := by omega
    have h0 : okFrom es es 0 = true := by rw [← he]; simp [okFrom]
    refine callK0 (dirText_impl_c es a F w _ _ (hr.ext (Ext.push h t)) hl hn) ?_
    rintro _ _ ⟨⟨t1, rfl⟩, rfl⟩
    simp [entriesOk, h0]
    omega
end
end Go.Proofs.Ytidkkmkihifeoaa.Hz
