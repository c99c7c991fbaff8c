/- Values that hold slices: what is made new, and how it is stored. -/
import Derived.Test.YtidkkmkihifeoaaHzPS
namespace Go.Proofs.Ytidkkmkihifeoaa.Hz
open Go.RowKit
set_option linter.unusedVariables false
set_option linter.unusedSimpArgs false

/-- A value made since h0. -/
structure OwnE {α : Type} (h0 : Hp) (A : Enc α) (h : Hp) (x : α) (cs : List Value) (F : List Nat) : Prop where
  ext : Ext h0 h
  r : A.R h x cs F
  nd : F.Nodup
  new : ∀ q ∈ F, h0.length ≤ q

section
variable {α : Type} {A : Enc α} {h0 h h' : Hp} {e : TypeId} {x : α} {xs : List α} {cs : List Value} {a : Option Addr} {F F' : List Nat}
theorem OwnE.grow (k : OwnE h0 A h x cs F) (hx : Ext h h') : OwnE h0 A h' x cs F := ⟨k.ext.trans hx, A.frame k.r fun o ho => hx.2 o (A.lt k.r o ho), k.nd, k.new⟩
theorem OwnE.of_new (e0 : Ext h0 h) (k : OwnE h A h' x cs F) : OwnE h0 A h' x cs F := ⟨e0.trans k.ext, k.r, k.nd, fun q hq => Nat.le_trans e0.1 (k.new q hq)⟩
theorem Own.asE (k : Own h0 e A h xs a F) : OwnE h0 (slE true e A) h xs [.slice a xs.length xs.length] F := ⟨k.ext, ⟨a, rfl, k.sl⟩, k.nd, k.new⟩
theorem OwnE.own (k : OwnE h0 (slE true e A) h xs cs F) : ∃ a, cs = [.slice a xs.length xs.length] ∧ Own h0 e A h xs a F := by
  obtain ⟨a, rfl, r⟩ := k.r
  exact ⟨a, rfl, k.ext, r, k.nd, k.new⟩
theorem OwnE.flat {n : Nat} {f : α → List Value} {hn : ∀ x, (f x).length = n} {hok : ∀ x, (f x).all okCell = true} (hx : Ext h0 h) : OwnE h0 (flatE n f hn hok) h x (f x) [] := ⟨hx, ⟨rfl, rfl⟩, List.nodup_nil, fun q hq => by cases hq⟩
/-- A store of a new value into an element. -/
theorem Own.putE {o off : Nat} (k : Own h0 e A h xs (some ⟨o, off, none⟩) F) {i : Nat} (hi : i < xs.length) (c : OwnE h A h' x cs F') :
    canSet h' o (off + i * A.n) A.n = true ∧ ∃ F'', Own h0 e A (setsAt h' o (off + i * A.n) cs) (xs.set i x) (some ⟨o, off, none⟩) F'' := by
  have k' := k.grow c.ext
  have hl := A.len c.r
  obtain ⟨c0, Fi, hR, hFi, _, hput⟩ := k'.put (List.getElem?_eq_getElem hi)
  have hn : ∀ q ∈ F', h.length ≤ q := c.new
  have h00 := k.ext.1
  have hoF : o ∈ F := by
    obtain ⟨_, ob, css, Fs, pre, post, g1, g2, g3, g4, rfl, _⟩ := k.sl
    exact List.mem_cons_self
  have hol := k.sl.lt o hoF
  have hset : setL c0 0 cs = cs := setL_all cs c0 (by rw [hl, A.len hR])
  obtain ⟨g1, F'', g2, g3, g4⟩ := hput 0 cs x F' (by omega) (by rw [hset]; exact c.r) (fun hm => by have := hn _ hm; omega) c.nd (fun q hq => ⟨by have := hn q hq; omega, fun hF => by have := hn q hq; have := k.sl.lt q hF; omega⟩)
  simp only [Nat.add_zero, hl] at g1 g2
  exact ⟨g1, F'', g2⟩
theorem OwnE.locals {l t : Hp} (k : OwnE (h ++ l) A (h ++ l ++ t) x cs F) (l' : Hp) (hl : l'.length = l.length) : OwnE h A (h ++ (l' ++ t)) x cs F where
  ext := Ext.push _ _
  r := A.frame k.r fun q hq => by
    have := k.new q hq
    simp only [List.length_append] at this
    rw [← List.append_assoc, List.getElem?_append_right (by simp; omega), List.getElem?_append_right (by simp; omega)]
    simp [hl]
  nd := k.nd
  new q hq := by have := k.new q hq; simp only [List.length_append] at this; omega
theorem slR.pre {w : Bool} (k : slR w e A h xs a F) (q : h <+: h') : slR w e A h' xs a F := k.frame fun o ho => by
  obtain ⟨t, rfl⟩ := q
  exact List.getElem?_append_left (k.lt o ho)
theorem slR.to {w : Bool} (k : slR w e A h xs a F) (q : ∃ l, h' = h ++ l) : slR w e A h' xs a F := by
  obtain ⟨l, rfl⟩ := q
  exact k.ext (Ext.push _ l)
theorem Enc.to (k : A.R h x cs F) (q : ∃ l, h' = h ++ l) : A.R h' x cs F := by
  obtain ⟨l, rfl⟩ := q
  exact A.frame k fun o ho => List.getElem?_append_left (A.lt k o ho)
theorem cell_more {t : Hp} {o i : Nat} {v : Value} (k : cellAt (h ++ t) o i = some v) (l : Hp) : cellAt (h ++ (t ++ l)) o i = some v := by
  have hlt : o < (h ++ t).length := by
    obtain ⟨ob, ho, _⟩ := cellAt_some k
    exact (List.getElem?_eq_some_iff.1 ho).1
  rw [← List.append_assoc, cellAt_ext (Ext.push (h ++ t) l) hlt]
  exact k
theorem slR.more {w : Bool} {t : Hp} (k : slR w e A (h ++ t) xs a F) (l : Hp) : slR w e A (h ++ (t ++ l)) xs a F := by
  rw [← List.append_assoc]
  exact k.ext (Ext.push _ l)
theorem get_late {l l' u t : Hp} {q : Nat} (h1 : h.length + l.length ≤ q) (h2 : q < (h ++ (l ++ u)).length) (hl : l'.length = l.length) : (h ++ (l' ++ (u ++ t)))[q]? = (h ++ (l ++ u))[q]? := by
  simp only [List.length_append] at h2
  have e1 : (h ++ (l' ++ (u ++ t)))[q]? = (u ++ t)[q - h.length - l'.length]? := by rw [List.getElem?_append_right (show h.length ≤ q by omega), List.getElem?_append_right (show l'.length ≤ q - h.length by omega)]
  have e2 : (h ++ (l ++ u))[q]? = u[q - h.length - l.length]? := by rw [List.getElem?_append_right (show h.length ≤ q by omega), List.getElem?_append_right (show l.length ≤ q - h.length by omega)]
  rw [e1, e2, hl, List.getElem?_append_left (by omega)]
/-- A slice that was made after the locals l, which have turned to l'. -/
theorem slR.late {w : Bool} {l l' u t : Hp} (k : slR w e A (h ++ (l ++ u)) xs a F) (hn : ∀ q ∈ F, h.length + l.length ≤ q) (hl : l'.length = l.length) : slR w e A (h ++ (l' ++ (u ++ t))) xs a F :=
  k.frame fun q hq => get_late (hn q hq) (k.lt q hq) hl
theorem slR.late0 {w : Bool} {l l' u : Hp} (k : slR w e A (h ++ (l ++ u)) xs a F) (hn : ∀ q ∈ F, h.length + l.length ≤ q) (hl : l'.length = l.length) : slR w e A (h ++ (l' ++ u)) xs a F := by
  have := k.late (t := []) hn hl
  simpa using this
end
end Go.Proofs.Ytidkkmkihifeoaa.Hz
