/- Finding an entry: the program's way. -/
import Derived.Test.YtidkkmkihifeoaaHzP
namespace Go.Proofs.Ytidkkmkihifeoaa.Hz
open Go.RowKit
set_option linter.unusedVariables false
set_option linter.unusedSimpArgs false
set_option maxRecDepth 20000

/-- The first place, or -1. -/
def findI {α : Type} (p : α → Bool) : List α → Nat → Int
  | [], _ => -1
  | x :: xs, i => if p x then i else findI p xs (i + 1)
theorem findI_drop {α : Type} (p : α → Bool) (xs : List α) (k : Nat) (hk : k < xs.length) : findI p (xs.drop k) k = if p xs[k] then (k : Int) else findI p (xs.drop (k + 1)) (k + 1) := by
  rw [List.drop_eq_getElem_cons hk]; rfl
theorem findI_spec {α : Type} (p : α → Bool) : ∀ (xs : List α) (i : Nat), (findI p xs i = -1 ∧ ∀ x ∈ xs, p x = false) ∨ ∃ j, ∃ hj : j < xs.length, findI p xs i = ((i + j : Nat) : Int) ∧ p xs[j] = true ∧ ∀ j', ∀ hj' : j' < xs.length, j' < j → p xs[j'] = false
  | [], i => .inl ⟨rfl, by simp⟩
  | x :: xs, i => by
    cases hp : p x with
    | true => exact .inr ⟨0, by simp, by simp [findI, hp], by simpa using hp, by omega⟩
    | false =>
      rcases findI_spec p xs (i + 1) with ⟨h1, h2⟩ | ⟨j, hj, h1, h2, h3⟩
      · refine .inl ⟨by simp [findI, hp, h1], fun y hy => ?_⟩
        rcases List.mem_cons.1 hy with rfl | hy
        · exact hp
        · exact h2 y hy
      · refine .inr ⟨j + 1, by simpa using hj, ?_, by simpa using h2, fun j' hj' hlt => ?_⟩
        · simp only [findI, hp, h1]
          simp
          omega
        · cases j' with
          | zero => simpa using hp
          | succ j' => simpa using h3 j' (by simpa using hj') (by omega)

theorem indexFuncEnt_c (es : List Ent) (a : Option Addr) (F : List Nat) (w : Bool) (t : TypeId) (h : Hp) (hr : slR w t entE h es a F) (hl : es.length ≤ 1048576) (p : Ent → Bool) (g : FuncId) (cap : Array Value)
    (hg : ∀ e ∈ es, ∀ t, ACall Try.prog g (e.v :: cap.toList) (h ++ t) fun r h' => (∃ t', h' = h ++ t ++ t') ∧ r = .bool (p e)) :
    ACall Try.prog 75 [.slice a es.length es.length, .func (.func g) #[] cap] h fun r h' => (∃ t, h' = h ++ t) ∧ r = .int .i64 (findI p es 0) := by
  refine acall mixed Try.func75 rfl (by kernel_rfl) ?_
  simp [Try.f75]
  refine aloop mixed [0, 1, 7, 8] (fun (x : Nat × Hp) => [.slice a es.length es.length, .func (.func g) #[] cap, .int .i64 es.length, .int .i64 x.1]) (fun x => h ++ x.2) (fun x => x.1 ≤ es.length ∧ findI p (es.drop x.1) x.1 = findI p es 0) (fun x => es.length - x.1) (0, []) ⟨by simp, by simp⟩ (by simp [pickF]) (by simp) ?_
  rintro ⟨k, t'⟩ ⟨hk, he⟩
  simp only at hk he
  simp [mkF]
  refine asplitK_intro (fun hb => ?_) (fun hb => ?_) <;> simp at hb <;> simp [hb]
  · obtain ⟨o, off, rfl, c0, c1⟩ := entAt (hr.ext (Ext.push h t')) hb
    rw [findI_drop p es k hb] at he
    simp [hb, c0, c1]
    refine callK0 (hg es[k] (List.getElem_mem hb) t') ?_
    rintro _ _ ⟨⟨t2, rfl⟩, rfl⟩
    simp
    refine asplitK_intro (fun hc => ?_) (fun hc => ?_) <;> simp [hc] at he <;> simp [he]
    exact anext (k + 1, t' ++ t2) ⟨hb, he⟩ (by simp only; omega) (by simp [pickF, wrap_succ (show k < 9223372036854775807 by omega)]) (by simp) (by simp)
  · obtain rfl : k = es.length := by omega
    simpa [findI] using he

theorem placeOf1_c (e : Ent) (name : Str) (o : Nat) (h : Hp) (ho : o < h.length) (hc : cellAt h o 0 = some (.string (S name))) :
    ACall Try.prog 139 [e.v, .pointer (some ⟨o, 0, none⟩)] h fun r h' => (∃ t', h' = h ++ t') ∧ r = .bool (e.name == name) := by
  refine acall mixed Try.func139 rfl (by kernel_rfl) ?_
  have hc2 : ∀ l, cellAt (h ++ l) o 0 = some (.string (S name)) := fun l => by rw [cellAt_ext (Ext.push h l) ho]; exact hc
  simp [Try.f139, Ent.v, hc2]

theorem placeOf_c (es : List Ent) (name : Str) (a : Option Addr) (F : List Nat) (w : Bool) (t : TypeId) (h : Hp) (hr : slR w t entE h es a F) (hl : es.length ≤ 1048576) :
    ACall Try.prog 66 [.slice a es.length es.length, .string (S name)] h fun r h' => (∃ t', h' = h ++ t') ∧ r = .int .i64 (findI (fun e => e.name == name) es 0) := by
  refine acall mixed Try.func66 rfl (by kernel_rfl) ?_
  simp [Try.f66]
  refine callK0 (indexFuncEnt_c es a F w t _ (hr.ext (Ext.push _ _)) hl (fun e => e.name == name) _ _ fun e he t => ?_) ?_
  · refine (placeOf1_c e name h.length _ (by simp) (by simp)).mono ?_
    simp
  · rintro _ _ ⟨⟨t2, rfl⟩, rfl⟩
    simp

theorem dirFind_findI (es : List Ent) (name : Str) : (findI (fun e => e.name == name) es 0 = -1 ∧ dirFind es name = -1) ∨ ∃ j, ∃ hj : j < es.length, findI (fun e => e.name == name) es 0 = (j : Int) ∧ dirFind es name = es[j].node := by
  have key : ∀ (es : List Ent) (i : Nat), (findI (fun e => e.name == name) es i = -1 ∧ dirFind es name = -1) ∨ ∃ j, ∃ hj : j < es.length, findI (fun e => e.name == name) es i = ((i + j : Nat) : Int) ∧ dirFind es name = es[j].node := by
    intro es
    induction es with
    | nil => intro i; exact .inl ⟨rfl, rfl⟩
    | cons e es ih =>
      intro i
      by_cases hn : e.name = name
      · exact .inr ⟨0, by simp, by simp [findI, hn], by simp [dirFind, hn]⟩
      · rcases ih (i + 1) with ⟨h1, h2⟩ | ⟨j, hj, h1, h2⟩
        · exact .inl ⟨by simp [findI, hn, h1], by simp [dirFind, hn, h2]⟩
        · exact .inr ⟨j + 1, by simpa using hj, by simp [findI, hn, h1]; omega, by simp [dirFind, hn, h2]⟩
  simpa using key es 0

theorem dirFind_impl_c (es : List Ent) (name : Str) (a : Option Addr) (F : List Nat) (w : Bool) (t : TypeId) (h : Hp) (hr : slR w t entE h es a F) (hl : es.length ≤ 1048576) :
    ACall Try.prog 38 [.slice a es.length es.length, .string (S name)] h fun r h' => (∃ t', h' = h ++ t') ∧ r = .int .i64 (dirFind es name) := by
  refine acall mixed Try.func38 rfl (by kernel_rfl) ?_
  simp [Try.f38]
  refine callK0 (placeOf_c es name a F w t h hr hl) ?_
  rintro _ _ ⟨⟨t2, rfl⟩, rfl⟩
  rcases dirFind_findI es name with ⟨h1, h2⟩ | ⟨j, hj, h1, h2⟩
  · simp [h1, h2]
  · obtain ⟨o, off, rfl, c0, c1⟩ := entAt (hr.ext (Ext.push h t2)) hj
    have : ¬ (j : Int) < 0 := by omega
    simp [h1, h2, this, hj, c1]

/-! ### The law -/
end Go.Proofs.Ytidkkmkihifeoaa.Hz
