/- The text of a directory: both programs. -/
import Derived.Test.YtidkkmkihifeoaaHzU
import Derived.Test.YtidkkmkihifeoaaHzW
namespace Go.Proofs.Ytidkkmkihifeoaa.Hz
open Go.RowKit
set_option linter.unusedVariables false
set_option linter.unusedSimpArgs false
set_option maxRecDepth 20000

def catL {α : Type} (f : α → Str) (xs : List α) : Str := (xs.map f).flatten
theorem catL_nil {α : Type} (f : α → Str) : catL f [] = [] := rfl
theorem catL_take {α : Type} (f : α → Str) (xs : List α) (k : Nat) (hk : k < xs.length) : catL f (xs.take (k + 1)) = catL f (xs.take k) ++ f xs[k] := by
  unfold catL
  rw [List.take_succ_eq_append_getElem hk]
  simp only [List.map_append, List.flatten_append, List.map_cons, List.map_nil, List.flatten_cons, List.flatten_nil, List.append_nil]
theorem catL_len {α : Type} {f : α → Str} {g : α → Nat} (hg : ∀ x, (f x).length ≤ g x) : ∀ (xs : List α), (catL f xs).length ≤ sumL g xs
  | [] => Nat.le_refl _
  | x :: xs => by
    have := catL_len hg xs
    have h2 := hg x
    unfold catL at *
    simp only [List.map_cons, List.flatten_cons, List.length_append, sumL]
    omega
theorem sumL_take_le {α : Type} (g : α → Nat) : ∀ (xs : List α) (k : Nat), sumL g (xs.take k) ≤ sumL g xs
  | [], k => by simp
  | x :: xs, 0 => by simp [sumL]
  | x :: xs, k + 1 => by
    have := sumL_take_le g xs k
    simp only [List.take_succ_cons, sumL]; omega
theorem sumL_add {α : Type} (c : Nat) (g : α → Nat) : ∀ (xs : List α), sumL (fun x => c + g x) xs = c * xs.length + sumL g xs
  | [] => rfl
  | x :: xs => by
    have := sumL_add c g xs
    simp only [sumL, List.length_cons, Nat.mul_add]; omega

def entTxt (e : Ent) : Str := putText e.name ++ putNum e.node
def dirText (es : List Ent) : Str := catL entTxt es
theorem putText_len (s : Str) : (putText s).length ≤ 5 + s.length := by
  have := putNum_len s.length
  simp only [putText, List.length_append]; omega
theorem entTxt_len (e : Ent) : (entTxt e).length ≤ 10 + e.nl := by
  have h1 := putText_len e.name
  have h2 := putNum_len e.node
  simp only [entTxt, List.length_append, Ent.nl]; omega
theorem dirText_len (es : List Ent) (k : Nat) : (dirText (es.take k)).length ≤ 10 * es.length + sumL Ent.nl es := by
  have h1 := catL_len entTxt_len (es.take k)
  have h2 := sumL_take_le (fun e => 10 + Ent.nl e) es k
  have h3 := sumL_add 10 Ent.nl es
  unfold dirText
  omega

section
variable (es : List Ent) (a : Option Addr) (F : List Nat) (w : Bool) (t : TypeId) (h : Hp) (hr : slR w t entE h es a F) (hl : es.length ≤ 1048576) (hn : sumL Ent.nl es ≤ 1048576)
include hr hl hn
theorem dirText_spec_c : ACall Try.prog 141 [.slice a es.length es.length] h fun r h' => (∃ t, h' = h ++ t) ∧ r = .string (S (dirText es)) := by
  refine acall mixed Try.func141 rfl (by kernel_rfl) ?_
  simp [Try.f141]
  have own0 := empty1 byteE h 5
  refine aloop mixed [0, 3, 4] (fun (x : Nat × Option Addr × Hp) => [.slice a es.length es.length, .slice x.2.1 (dirText (es.take x.1)).length (dirText (es.take x.1)).length, .int .i64 x.1]) (fun x => x.2.2)
    (fun x => x.1 ≤ es.length ∧ ∃ F, Own h 5 byteE x.2.2 (dirText (es.take x.1)) x.2.1 F) (fun x => es.length - x.1) (0, some ⟨h.length, 0, none⟩, _) ⟨by simp, _, own0⟩ rfl rfl ?_
  rintro ⟨k, b, H⟩ ⟨hk, G, own⟩
  simp only at hk own
  simp [mkF]
  refine asplitK_intro (fun hb => ?_) (fun hb => ?_) <;> simp at hb <;> simp [hb]
  · have hnl : es[k].name.length ≤ 1048576 := by
      have := sumL_mem Ent.nl (List.getElem_mem hb)
      have h2 : es[k].nl = es[k].name.length := rfl
      omega
    obtain ⟨o, off, rfl, c0, c1⟩ := entAt (hr.ext own.ext) hb
    simp [hb, c0]
    refine callK0 (putText_spec_c es[k].name H (by omega)) ?_
    rintro _ H1 ⟨b1, G1, rfl, o1⟩
    have hd := dirText_len es k
    have hd1 := putText_len es[k].name
    obtain ⟨b2, H2, G2, eq, own2, _⟩ := (own.grow o1.ext).appendSl (P := Try.prog) o1.sl (st := 59) (xt := 59) (bt := 1) (z := [.int .u8 0]) (by simp) (by simp) (by unfold big; omega) (by unfold big; omega)
    obtain ⟨o', off', ea, d0, d1⟩ := entAt (hr.ext own2.ext) hb
    obtain ⟨rfl, rfl⟩ : o = o' ∧ off = off' := by simpa using ea
    simp [eq, hb, d1]
    refine callK0 (putNum_spec_c es[k].node H2) ?_
    rintro _ H3 ⟨b3, G3, rfl, o3⟩
    have hd2 := putNum_len es[k].node
    obtain ⟨b4, H4, G4, eq4, own4, _⟩ := (own2.grow o3.ext).appendSl (P := Try.prog) o3.sl (st := 59) (xt := 59) (bt := 1) (z := [.int .u8 0]) (by simp) (by simp) (by simp only [List.length_append]; unfold big; omega) (by simp only [List.length_append]; unfold big; omega)
    simp only [List.length_append] at eq4
    simp [eq4]
    have hcat : dirText (es.take (k + 1)) = dirText (es.take k) ++ putText es[k].name ++ putNum es[k].node := by
      unfold dirText; rw [catL_take _ _ _ hb, List.append_assoc]; rfl
    refine anext (k + 1, b4, H4) ⟨hb, G4, by simp only; rw [hcat]; exact own4⟩ (by simp only; omega) (by simp [pickF, hcat, Nat.add_assoc, wrap_succ (show k < 9223372036854775807 by omega)]) rfl (by simp)
  · obtain rfl : k = es.length := by omega
    rw [List.take_length] at *
    simp [lev_cvBS own.sl]
    exact own.ext.pre
theorem dirText_impl_c : ACall Try.prog 40 [.slice a es.length es.length] h fun r h' => (∃ t, h' = h ++ t) ∧ r = .string (S (dirText es)) := by
  refine acall mixed Try.func40 rfl (by kernel_rfl) ?_
  simp [Try.f40]
  have own0 := empty1 byteE h 5
  refine aloop mixed [3, 7, 8, 9] (fun (x : Nat × Option Addr × Hp) => [.slice x.2.1 (dirText (es.take x.1)).length (dirText (es.take x.1)).length, .slice a es.length es.length, .int .i64 es.length, .int .i64 x.1]) (fun x => x.2.2)
    (fun x => x.1 ≤ es.length ∧ ∃ F, Own h 5 byteE x.2.2 (dirText (es.take x.1)) x.2.1 F) (fun x => es.length - x.1) (0, some ⟨h.length, 0, none⟩, _) ⟨by simp, _, own0⟩ rfl rfl ?_
  rintro ⟨k, b, H⟩ ⟨hk, G, own⟩
  simp only at hk own
  simp [mkF]
  refine asplitK_intro (fun hb => ?_) (fun hb => ?_) <;> simp at hb <;> simp [hb]
  · have hnl : es[k].name.length ≤ 1048576 := by
      have := sumL_mem Ent.nl (List.getElem_mem hb)
      have h2 : es[k].nl = es[k].name.length := rfl
      omega
    obtain ⟨o, off, rfl, c0, c1⟩ := entAt (hr.ext own.ext) hb
    simp [hb, c0, c1]
    refine callK0 (putText_impl_c es[k].name _ (by omega)) ?_
    rintro _ H1 ⟨b1, G1, rfl, o1⟩
    have hd := dirText_len es k
    have hd1 := putText_len es[k].name
    obtain ⟨b2, H2, G2, eq, own2, keep, _⟩ := ((own.grow (Ext.push H _)).grow o1.ext).appendSl (P := Try.prog) o1.sl (st := 59) (xt := 59) (bt := 1) (z := [.int .u8 0]) (by simp) (by simp) (by unfold big; omega) (by unfold big; omega)
    have e1 : cellAt H2 H.length 1 = some (.int .i64 es[k].node) := cell_kept own o1.ext keep 1 rfl
    simp [eq, e1]
    refine callK0 (putNum_impl_c es[k].node H2) ?_
    rintro _ H3 ⟨b3, G3, rfl, o3⟩
    have hd2 := putNum_len es[k].node
    obtain ⟨b4, H4, G4, eq4, own4, _⟩ := (own2.grow o3.ext).appendSl (P := Try.prog) o3.sl (st := 59) (xt := 59) (bt := 1) (z := [.int .u8 0]) (by simp) (by simp) (by simp only [List.length_append]; unfold big; omega) (by simp only [List.length_append]; unfold big; omega)
    simp only [List.length_append] at eq4
    simp [eq4]
    have hcat : dirText (es.take (k + 1)) = dirText (es.take k) ++ putText es[k].name ++ putNum es[k].node := by
      unfold dirText; rw [catL_take _ _ _ hb, List.append_assoc]; rfl
    refine anext (k + 1, b4, H4) ⟨hb, G4, by simp only; rw [hcat]; exact own4⟩ (by simp only; omega) (by simp [pickF, hcat, Nat.add_assoc, wrap_succ (show k < 9223372036854775807 by omega)]) rfl (by simp)
  · obtain rfl : k = es.length := by omega
    rw [List.take_length] at *
    simp [lev_cvBS own.sl]
    exact own.ext.pre
end

/-! ### The law -/
end Go.Proofs.Ytidkkmkihifeoaa.Hz
