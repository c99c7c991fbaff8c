/- Own slices on the plain heap: making, storing, appending; what a call may have touched. -/
import Derived.Test.YtidkkmkihifeoaaHzN
namespace Go.Proofs.Ytidkkmkihifeoaa.Hz
open Go.RowKit
set_option linter.unusedVariables false
set_option linter.unusedSimpArgs false

theorem setL_append_left : ∀ (vs : List Value) (c d : List Value) (j : Nat), j + vs.length ≤ c.length → setL (c ++ d) j vs = setL c j vs ++ d
  | [], _, _, _, _ => rfl
  | v :: vs, c, d, j, h => by
    simp only [List.length_cons] at h
    simp only [setL]
    rw [List.set_append_left _ _ (by omega)]
    exact setL_append_left vs _ d _ (by simp; omega)
theorem setL_append_right : ∀ (vs : List Value) (c d : List Value) (j : Nat), setL (c ++ d) (c.length + j) vs = c ++ setL d j vs
  | [], _, _, _ => rfl
  | v :: vs, c, d, j => by
    simp only [setL]
    rw [List.set_append_right _ _ (by omega), show c.length + j - c.length = j by omega, show c.length + j + 1 = c.length + (j + 1) by omega]
    exact setL_append_right vs c _ _
theorem setL_length : ∀ (vs : List Value) (c : List Value) (j : Nat), (setL c j vs).length = c.length
  | [], _, _ => rfl
  | v :: vs, c, j => by simp only [setL, setL_length vs, List.length_set]
theorem setL_all : ∀ (vs c : List Value), vs.length = c.length → setL c 0 vs = vs := by
  have key : ∀ (vs pre c : List Value), vs.length = c.length → setL (pre ++ c) pre.length vs = pre ++ vs := by
    intro vs
    induction vs with
    | nil => intro pre c h; obtain rfl := List.eq_nil_of_length_eq_zero h.symm; rfl
    | cons v vs ih =>
      intro pre c h
      cases c with
      | nil => simp at h
      | cons d c =>
        simp only [setL]
        rw [List.set_append_right _ _ (Nat.le_refl _)]
        simp only [Nat.sub_self, List.set_cons_zero]
        have := ih (pre ++ [v]) c (by simpa using h)
        simpa using this
  intro vs c h
  simpa using key vs [] c h
theorem setAt_get (h : Hp) (o i : Nat) (v : Value) (q : Nat) : (setAt h o i v)[q]? = if o = q then (h[q]?).map (fun ob => { ob with cells := ob.cells.set i v }) else h[q]? := getElem?_modify' _ _ _ _
theorem setsAt_get (o : Nat) : ∀ (vs : List Value) (h : Hp) (i q : Nat), (setsAt h o i vs)[q]? = if o = q then (h[q]?).map (fun ob => { ob with cells := setL ob.cells i vs }) else h[q]?
  | [], h, i, q => by simp [setsAt, setL]
  | v :: vs, h, i, q => by
    simp only [setsAt]
    rw [setsAt_get o vs, setAt_get]
    split
    · cases h[q]? <;> simp [setL]
    · rfl
theorem setsAt_len (o : Nat) : ∀ (vs : List Value) (h : Hp) (i : Nat), (setsAt h o i vs).length = h.length
  | [], _, _ => rfl
  | v :: vs, h, i => by simp only [setsAt]; rw [setsAt_len o vs]; simp [setAt]
theorem kill_get (h : Hp) (o q : Nat) : (kill h o)[q]? = if o = q then (h[q]?).map (fun ob => { ob with live := false }) else h[q]? := getElem?_modify' _ _ _ _
theorem kill_len (h : Hp) (o : Nat) : (kill h o).length = h.length := by simp [kill]

/-- Below h0 nothing has turned. -/
theorem Ext.set {h0 h : Hp} (e : Ext h0 h) {o : Nat} (ho : h0.length ≤ o) (i : Nat) (vs : List Value) : Ext h0 (setsAt h o i vs) :=
  ⟨by rw [setsAt_len]; exact e.1, fun q hq => by rw [setsAt_get, if_neg (by omega)]; exact e.2 q hq⟩
theorem Ext.kill {h0 h : Hp} (e : Ext h0 h) {o : Nat} (ho : h0.length ≤ o) : Ext h0 (kill h o) :=
  ⟨by rw [kill_len]; exact e.1, fun q hq => by rw [kill_get, if_neg (by omega)]; exact e.2 q hq⟩
theorem Ext.app {h0 h : Hp} (e : Ext h0 h) (t : Hp) : Ext h0 (h ++ t) := e.trans (Ext.push _ _)

def slE {α : Type} (w : Bool) (e : TypeId) (A : Enc α) : Enc (List α) where
  n := 1
  R h xs cs F := ∃ a, cs = [.slice a xs.length xs.length] ∧ slR w e A h xs a F
  len := by rintro h x cs F ⟨a, rfl, _⟩; rfl
  ok := by rintro h x cs F ⟨a, rfl, _⟩; rfl
  frame := by rintro h h' x cs F ⟨a, rfl, k⟩ hf; exact ⟨a, rfl, k.frame hf⟩
  lt := by rintro h x cs F ⟨a, rfl, k⟩; exact k.lt
/-- AN OWN SLICE, made since h0. -/
structure Own {α : Type} (h0 : Hp) (e : TypeId) (A : Enc α) (h : Hp) (xs : List α) (a : Option Addr) (F : List Nat) : Prop where
  ext : Ext h0 h
  sl : slR true e A h xs a F
  nd : F.Nodup
  new : ∀ q ∈ F, h0.length ≤ q

section
variable {α : Type} {A : Enc α} {h0 h h' : Hp} {e : TypeId} {xs ys : List α} {a : Option Addr} {F : List Nat}
theorem Own.nil (e0 : Ext h0 h) : Own h0 e A h [] none [] := ⟨e0, ⟨rfl, rfl⟩, List.nodup_nil, fun q hq => by cases hq⟩
theorem Own.grow (k : Own h0 e A h xs a F) (hx : Ext h h') : Own h0 e A h' xs a F := ⟨k.ext.trans hx, k.sl.ext hx, k.nd, k.new⟩
theorem Own.of_new (e0 : Ext h0 h) (k : Own h e A h' xs a F) : Own h0 e A h' xs a F := ⟨e0.trans k.ext, k.sl, k.nd, fun q hq => Nat.le_trans e0.1 (k.new q hq)⟩
/-- A new object. -/
theorem Own.lit {css : List (List Value)} {Fs : List (List Nat)} (e0 : Ext h0 h) (r : rowsR A h xs css Fs) (hn : Fs.flatten.Nodup) (hq : ∀ q ∈ Fs.flatten, h0.length ≤ q) : Own h0 e A (h ++ [⟨true, true, e, css.flatten⟩]) xs (some ⟨h.length, 0, none⟩) (h.length :: Fs.flatten) where
  ext := e0.app _
  sl := ⟨rfl, _, css, Fs, [], [], List.getElem?_concat_length, rfl, fun _ => rfl, rfl, rfl, r.frame fun o ho => (Ext.push h _).2 o (r.lt o ho), by simp, rfl⟩
  nd := List.nodup_cons.2 ⟨fun hm => Nat.lt_irrefl _ (r.lt _ hm), hn⟩
  new q hq' := by
    rcases List.mem_cons.1 hq' with rfl | hq'
    · exact e0.1
    · exact hq q hq'

theorem rowsR.split : ∀ {xs : List α} {css : List (List Value)} {Fs : List (List Nat)} (_ : rowsR A h xs css Fs) (i : Nat) (x : α), xs[i]? = some x →
    ∃ c1 c c2 F1 Fi F2, css = c1 ++ c :: c2 ∧ Fs = F1 ++ Fi :: F2 ∧ c1.flatten.length = i * A.n ∧ rowsR A h (xs.take i) c1 F1 ∧ A.R h x c Fi ∧ rowsR A h (xs.drop (i + 1)) c2 F2
  | x :: xs, c :: cs, F :: Fs, k, 0, y, e => by
    simp at e; subst e
    exact ⟨[], c, cs, [], F, Fs, rfl, rfl, by simp, trivial, k.1, k.2⟩
  | x :: xs, c :: cs, F :: Fs, k, i + 1, y, e => by
    obtain ⟨c1, c', c2, F1, Fi, F2, rfl, rfl, h1, h2, h3, h4⟩ := rowsR.split k.2 i y (by simpa using e)
    refine ⟨c :: c1, c', c2, F :: F1, Fi, F2, rfl, rfl, ?_, ⟨k.1, h2⟩, h3, h4⟩
    simp only [List.flatten_cons, List.length_append, h1, A.len k.1, Nat.add_mul]
    omega
  | [], [], [], _, _, _, e => by simp at e
  | [], [], _ :: _, k, _, _, _ => k.elim
  | [], _ :: _, _, k, _, _, _ => k.elim
  | _ :: _, [], _, k, _, _, _ => k.elim
  | _ :: _, _ :: _, [], k, _, _, _ => k.elim

/-- A STORE into an element. -/
theorem Own.put {o off : Nat} (k : Own h0 e A h xs (some ⟨o, off, none⟩) F) {i : Nat} {x : α} (hx : xs[i]? = some x) :
    ∃ c Fi, A.R h x c Fi ∧ (∀ q ∈ Fi, q ∈ F ∧ q ≠ o) ∧ (∀ j, j < A.n → cellAt h o (off + i * A.n + j) = c[j]?) ∧
      ∀ (j : Nat) (vs : List Value) (x' : α) (Fi' : List Nat), j + vs.length ≤ A.n → A.R h x' (setL c j vs) Fi' → o ∉ Fi' → Fi'.Nodup → (∀ q ∈ Fi', h0.length ≤ q ∧ (q ∈ F → q ∈ Fi)) →
        canSet h o (off + i * A.n + j) vs.length = true ∧ ∃ F', Own h0 e A (setsAt h o (off + i * A.n + j) vs) (xs.set i x') (some ⟨o, off, none⟩) F' ∧ o ∈ F' ∧ ∀ q ∈ F', q ∈ F ∨ q ∈ Fi' := by
  obtain ⟨e0, ⟨_, ob, css, Fs, pre, post, g1, g2, g3, g4, rfl, g5, g6, g7⟩, nd, new⟩ := k
  simp only at g1 g7
  obtain ⟨c1, c, c2, F1, Fi, F2, rfl, rfl, s1, s2, s3, s4⟩ := g5.split i x hx
  rw [List.nodup_cons] at nd
  have hlen := A.len s3
  have hfl : (F1 ++ Fi :: F2).flatten = F1.flatten ++ (Fi ++ F2.flatten) := by simp
  have cellof : ∀ j, j < A.n → cellAt h o (off + i * A.n + j) = c[j]? := by
    intro j hj
    unfold cellAt
    rw [g1]
    simp only [g2, if_true]
    rw [g6]
    simp only [List.flatten_append, List.flatten_cons, List.append_assoc]
    rw [List.getElem?_append_right (by omega), List.getElem?_append_right (by omega), List.getElem?_append_left (by omega)]
    congr 1
    omega
  refine ⟨c, Fi, s3, fun q hq => ⟨?_, fun hh => nd.1 ?_⟩, cellof, fun j vs x' Fi' hj hR ho hn' hq => ⟨?_, o :: (F1 ++ Fi' :: F2).flatten, ?_, List.mem_cons_self, ?_⟩⟩
  · rw [hfl]; simp [hq]
  · rw [hfl, ← hh]; simp [hq]
  · have hl2 : ob.cells.length = pre.length + (c1.flatten.length + (c.length + c2.flatten.length)) + post.length := by
      rw [g6]; simp only [List.flatten_append, List.flatten_cons, List.length_append]
    have : off + i * A.n + j + vs.length ≤ ob.cells.length := by omega
    simp [canSet, g1, g2, g3, this]
  · have other : ∀ q, q ≠ o → (setsAt h o (off + i * A.n + j) vs)[q]? = h[q]? := fun q hq => by rw [setsAt_get, if_neg (by omega)]
    have nr : ∀ q, q ∈ F1.flatten ∨ q ∈ F2.flatten → q ≠ o := by
      intro q hq hh
      apply nd.1
      rw [hfl, ← hh]
      rcases hq with hq | hq <;> simp [hq]
    have hxs : xs.set i x' = xs.take i ++ x' :: xs.drop (i + 1) := by
      have hi := (List.getElem?_eq_some_iff.1 hx).1
      rw [List.set_eq_take_append_cons_drop, if_pos hi]
    refine ⟨e0.set (new o List.mem_cons_self) _ _, ⟨rfl, { ob with cells := setL ob.cells (off + i * A.n + j) vs }, c1 ++ setL c j vs :: c2, F1 ++ Fi' :: F2, pre, post, ?_, g2, g3, g4, rfl, ?_, ?_, g7⟩, ?_, ?_⟩
    · show (setsAt h o (off + i * A.n + j) vs)[o]? = _
      rw [setsAt_get, if_pos rfl, g1]
      rfl
    · rw [hxs]
      refine rowsR.append (s2.frame fun q hq => other q (nr q (.inl hq))) ⟨A.frame hR fun q hq => other q fun hh => ho (hh ▸ hq), s4.frame fun q hq => other q (nr q (.inr hq))⟩
    · show setL ob.cells (off + i * A.n + j) vs = _
      rw [g6]
      simp only [List.flatten_append, List.flatten_cons, List.append_assoc]
      rw [show off + i * A.n + j = pre.length + (c1.flatten.length + j) by omega, setL_append_right, setL_append_right, setL_append_left _ _ _ _ (by omega)]
    · rw [List.nodup_cons]
      have hfl' : (F1 ++ Fi' :: F2).flatten = F1.flatten ++ (Fi' ++ F2.flatten) := by simp
      rw [hfl'] at *
      rw [hfl] at nd hq
      refine ⟨?_, ?_⟩
      · simp only [List.mem_append, not_or]
        exact ⟨fun hh => nr o (.inl hh) rfl, ho, fun hh => nr o (.inr hh) rfl⟩
      · have n1 := nd.2
        rw [List.nodup_append] at n1 ⊢
        obtain ⟨m1, m2, m3⟩ := n1
        rw [List.nodup_append] at m2
        obtain ⟨l1, l2, l3⟩ := m2
        refine ⟨m1, ?_, ?_⟩
        · rw [List.nodup_append]
          refine ⟨hn', l2, fun x hx y hy => ?_⟩
          rintro rfl
          have : x ∈ Fi := (hq x hx).2 (by simp [hy])
          exact l3 x this x hy rfl
        · intro x hx y hy
          rintro rfl
          rcases List.mem_append.1 hy with hy | hy
          · have : x ∈ Fi := (hq x hy).2 (by simp [hx])
            exact m3 x hx x (by simp [this]) rfl
          · exact m3 x hx x (by simp [hy]) rfl
    · intro q hq'
      rcases List.mem_cons.1 hq' with rfl | hq'
      · exact new q List.mem_cons_self
      · simp only [List.flatten_append, List.flatten_cons, List.mem_append] at hq'
        rcases hq' with hq' | hq' | hq'
        · exact new q (List.mem_cons_of_mem _ (by rw [hfl]; simp [hq']))
        · exact (hq q hq').1
        · exact new q (List.mem_cons_of_mem _ (by rw [hfl]; simp [hq']))
  · intro q hq'
    rcases List.mem_cons.1 hq' with rfl | hq'
    · exact .inl List.mem_cons_self
    · simp only [List.flatten_append, List.flatten_cons, List.mem_append] at hq'
      rcases hq' with hq' | hq' | hq'
      · exact .inl (List.mem_cons_of_mem _ (by rw [hfl]; simp [hq']))
      · exact .inr hq'
      · exact .inl (List.mem_cons_of_mem _ (by rw [hfl]; simp [hq']))
end
end Go.Proofs.Ytidkkmkihifeoaa.Hz
