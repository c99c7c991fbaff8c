/- Texts of the calculus and of the program's functions, merged: DD0. -/
import Derived.Test.YtcndiilogcembaaHyGC
import Derived.Test.YtcndiilogcembaaHyGD
/- Dropping an entry: slices.Clone, slices.Delete, and both programs. -/
namespace Go.Proofs.Ytcndiilogcembaa.Hz
open Go.RowKit
set_option linter.unusedVariables false
set_option linter.unusedSimpArgs false
set_option maxRecDepth 20000

theorem cloneEnt_c (es : List Ent) (a : Option Addr) (F : List Nat) (w : Bool) (t : TypeId) (h : Hp) (hr : slR w t entE h es a F) (hl : es.length ≤ 1048576) :
    ACall Try.prog 48 [.slice a es.length es.length] h fun r h' => ∃ a' F', r = .slice a' es.length es.length ∧ Own h 38 entE h' es a' F' := by
  refine acall mixed Try.func48 rfl (by kernel_rfl) ?_
  cases a with
  | none =>
    obtain ⟨rfl, rfl⟩ := hr
    simp [Try.f48]
    exact ⟨_, Own.nil (Ext.refl h)⟩
  | some ad =>
    obtain ⟨a', h', F', eq, own', _⟩ := (empty1 entE h 38).appendSl (P := Try.prog) (hr.ext (Ext.push h _)) (st := 24) (xt := 24) (bt := 24) (z := [.string (S []), .int .i64 0]) (by simp) (by simp) (by unfold big; simp; omega) (by unfold big; simp; omega)
    simp at eq own'
    simp [Try.f48, eq]
    exact ⟨_, own'⟩
theorem l8Copy_c (es : List Ent) (a : Option Addr) (F : List Nat) (w : Bool) (t : TypeId) (h : Hp) (hr : slR w t entE h es a F) (hl : es.length ≤ 1048576) :
    ACall Try.prog 42 [.slice a es.length es.length] h fun r h' => ∃ a' F', r = .slice a' es.length es.length ∧ Own h 38 entE h' es a' F' := by
  refine acall mixed Try.func42 rfl (by kernel_rfl) ?_
  obtain ⟨a', h', F', eq, own', _⟩ := (empty1 entE h 38).appendSl (P := Try.prog) (hr.ext (Ext.push h _)) (st := 24) (xt := 24) (bt := 24) (z := [.string (S []), .int .i64 0]) (by simp) (by simp) (by unfold big; simp; omega) (by unfold big; simp; omega)
  simp at eq own'
  simp [Try.f42, eq]
  exact ⟨_, own'⟩

/-- What is left of an own slice when one element is taken out. -/
theorem append_del {h0 h : Hp} {es : List Ent} {F : List Nat} {o off : Nat} (k : Own h0 38 entE h es (some ⟨o, off, none⟩) F) {i : Nat} (hi : i < es.length) :
    aappend Try.prog h 24 24 (.slice (some ⟨o, off, none⟩) i es.length) (.slice (some ⟨o, off + (i + 1) * 2, none⟩) (es.length - (i + 1)) (es.length - (i + 1))) =
      some (.slice (some ⟨o, off, none⟩) (es.length - 1) es.length, setsAt h o (off + i * 2) ((es.drop (i + 1)).map Ent.cs).flatten) := by
  have hc := k.sl.cellsPart (i + 1) (by omega)
  have hl : (es.drop (i + 1)).length = es.length - (i + 1) := by simp
  have hcan := (k.blit (ys := es.drop (i + 1)) (i := i) (by rw [hl]; omega)).1
  rw [hl] at hcan
  have hel := k.sl.el
  by_cases hm : es.length - (i + 1) = 0
  · have hd : es.drop (i + 1) = [] := List.drop_eq_nil_of_le (by omega)
    have e : i = es.length - 1 := by omega
    simp [aappend, srcOf, hm, hd, setsAt]
    exact e
  · have h3 : i + (es.length - (i + 1)) = es.length - 1 := by omega
    have h4 : es.length - 1 ≤ es.length := by omega
    simp [aappend, srcOf, hc, hm, hel, h3, h4, hcan]
theorem deleteEnt_c (es : List Ent) (a : Option Addr) (F : List Nat) (h0 h : Hp) (k : Own h0 38 entE h es a F) (hl : es.length ≤ 1048576) (i : Nat) (hi : i < es.length) :
    ACall Try.prog 61 [.slice a es.length es.length, .int .i64 i, .int .i64 ((i + 1 : Nat) : Int)] h fun r h' => r = .slice a (es.take i ++ es.drop (i + 1)).length (es.take i ++ es.drop (i + 1)).length ∧ Own h0 38 entE h' (es.take i ++ es.drop (i + 1)) a F := by
  refine ACall.weakRes (R := fun r h' => r = .slice a (es.length - 1) es.length ∧ Own h0 38 entE h' (es.take i ++ es.drop (i + 1)) a F) ?_ ?_
  rotate_left
  · rintro v h' ⟨rfl, own⟩
    have e : (es.take i ++ es.drop (i + 1)).length = es.length - 1 := by simp; omega
    rw [e]
    exact ⟨_, fun φ u r => relV_cap (by omega) r, rfl, own⟩
  obtain ⟨o, off, rfl, -, -⟩ := entAt k.sl hi
  refine acall mixed Try.func61 rfl (by kernel_rfl) ?_
  obtain ⟨M, hM⟩ : ∃ M, es.length = M + 1 := ⟨es.length - 1, by omega⟩
  have hiM : i ≤ M := by omega
  have hel := k.sl.el
  have hi1 : ((i + 1 : Nat) : Int) = (i : Int) + 1 := by omega
  have hne : ¬ ((i : Int) = (i : Int) + 1) := by omega
  have hne2 : ((i : Int) == (i : Int) + 1) = false := by simpa using hne
  have hle : (i : Int) ≤ (i : Int) + 1 := by omega
  have hle2 : (i : Int) + 1 ≤ (M : Int) + 1 := by omega
  have hle3 : (i : Int) ≤ (M : Int) + 1 := by omega
  have hto : ((i : Int) + 1).toNat = i + 1 := by omega
  have hge : (0 : Int) ≤ (i : Int) + 1 := by omega
  have happ := append_del k hi
  have b1 := (k.blit (ys := es.drop (i + 1)) (i := i) (by simp; omega)).2
  generalize hH : setsAt h o (off + i * 2) ((es.drop (i + 1)).map Ent.cs).flatten = H at happ
  have hH' : setsAt h o (off + i * 2) ((es.drop (i + 1)).map Ent.cs).flatten = H := hH
  have b1 : Own h0 38 entE H (es.take i ++ es.drop (i + 1) ++ es.drop (i + (es.drop (i + 1)).length)) (some ⟨o, off, none⟩) F := by rw [← hH']; exact b1
  have hl1 : (es.take i ++ es.drop (i + 1) ++ es.drop (i + (es.drop (i + 1)).length)).length = M + 1 := by simp; omega
  obtain ⟨hcan, b2⟩ := b1.blit (ys := [⟨[], 0⟩]) (i := M) (by rw [hl1]; simp)
  have b3 := b2.part M (by simp; omega)
  have hel2 := b1.sl.el
  have he : ((es.take i ++ es.drop (i + 1) ++ es.drop (i + (es.drop (i + 1)).length)).take M ++ [(⟨[], 0⟩ : Ent)] ++ (es.take i ++ es.drop (i + 1) ++ es.drop (i + (es.drop (i + 1)).length)).drop (M + [(⟨[], 0⟩ : Ent)].length)).take M = es.take i ++ es.drop (i + 1) := by
    have hl2 : (es.take i ++ es.drop (i + 1)).length = M := by simp; omega
    have hl3 : ((es.take i ++ es.drop (i + 1) ++ es.drop (i + (es.drop (i + 1)).length)).take M).length = M := by simp; omega
    rw [List.append_assoc, List.take_append_of_le_length (by rw [hl3]; exact Nat.le_refl _), List.take_of_length_le (by rw [hl3]; exact Nat.le_refl _), List.take_append_of_le_length (by rw [hl2]; exact Nat.le_refl _), List.take_of_length_le (by rw [hl2]; exact Nat.le_refl _)]
  rw [he] at b3
  rw [hM] at happ
  simp at happ hcan b3
  simp [Try.f61, asl2_ijm, hel, hM, hi1, hne2, hle, hle2, hge]
  refine drawK false (by kernel_rfl) ?_
  have hto2 : ((M : Int) + 1).toNat = M + 1 := by omega
  have hmx : max M (M + 1) = M + 1 := by omega
  have hs1 : M + 1 - M = 1 := by omega
  have hMM : (M : Int) ≤ (M : Int) + 1 := by omega
  have hclear : ∀ c, aclear Try.prog H 24 (.slice (some ⟨o, off + M * 2, none⟩) 1 c) = some (undef, setsAt H o (off + M * 2) (Ent.cs ⟨[], 0⟩)) := fun c => by
    simp [aclear, hel2, hcan]
    rfl
  simp [asl2_i, asl2_j, hel, hle3, hge, hle2, hto, happ]
  simp [asl2_ij, hel2, hMM, hto2, hmx, hs1, hclear]
  exact b3
def dropAt (es : List Ent) (i : Int) : List Ent := if i < 0 then es else es.take i.toNat ++ es.drop (i.toNat + 1)
/-- An entry dropped. -/
def dirDrop (es : List Ent) (name : Str) : List Ent × Bool :=
  (dropAt es (findI (fun e => e.name == name) es 0), decide (0 ≤ findI (fun e => e.name == name) es 0))
theorem dirDrop_len (es : List Ent) (name : Str) : (dirDrop es name).1.length ≤ es.length := by
  simp only [dirDrop, dropAt]
  split
  · exact Nat.le_refl _
  · simp; omega
theorem dirDrop_impl_c (es : List Ent) (name : Str) (a : Option Addr) (F : List Nat) (w : Bool) (t : TypeId) (h : Hp) (hr : slR w t entE h es a F) (hl : es.length ≤ 1048576) :
    ACall Try.prog 19 [.slice a es.length es.length, .string (S name)] h fun r h' => ∃ a' F', r = .tuple #[.slice a' (dirDrop es name).1.length (dirDrop es name).1.length, .bool (dirDrop es name).2] ∧ Own h 38 entE h' (dirDrop es name).1 a' F' := by
  refine acall mixed Try.func19 rfl (by kernel_rfl) ?_
  simp [Try.f19]
  refine callK0 (cloneEnt_c es a F w t h hr hl) ?_
  rintro _ H ⟨b, G, rfl, own⟩
  simp
  refine callK0 (placeOf_c es name a F w t H (hr.ext own.ext) hl) ?_
  rintro _ _ ⟨⟨t1, rfl⟩, rfl⟩
  have own1 := own.grow (Ext.push H t1)
  rcases findI_spec (fun e => e.name == name) es 0 with ⟨h1, h2⟩ | ⟨j, hj, h1, h2, h3⟩
  · have hd : dirDrop es name = (es, false) := by simp [dirDrop, h1, dropAt]
    rw [hd, h1]
    simp
    exact ⟨_, own1⟩
  · have hn : ¬ (((0 + j : Nat) : Int) < 0) := by omega
    have hz : 0 + j = j := by omega
    rw [hz] at h1
    have hd : dirDrop es name = (es.take j ++ es.drop (j + 1), true) := by
      have h0 : (0 : Int) ≤ (j : Int) := by omega
      have hnl : ¬ ((j : Int) < 0) := by omega
      simp [dirDrop, h1, dropAt, hnl]
    have w1 : IntKind.i64.wrap ((j : Int) + 1) = ((j + 1 : Nat) : Int) := wrap_succ (by omega)
    have hnl : ¬ ((j : Int) < 0) := by omega
    have hc := deleteEnt_c es b G h _ own1 hl j hj
    simp at hc
    rw [hd, h1]
    simp [hnl, w1]
    refine callK0 hc ?_
    rintro _ H2 ⟨rfl, own2⟩
    simp
    exact ⟨_, own2⟩
end Go.Proofs.Ytcndiilogcembaa.Hz
