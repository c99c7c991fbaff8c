/- Appending on the plain heap; bytes. -/
import Derived.Test.YtidkkmkihifeoaaHzR
namespace Go.Proofs.Ytidkkmkihifeoaa.Hz
open Go.RowKit
set_option linter.unusedVariables false
set_option linter.unusedSimpArgs false

theorem Own.locals {α : Type} {A : Enc α} {h l t : Hp} {e : TypeId} {xs : List α} {a : Option Addr} {F : List Nat} (k : Own (h ++ l) e A (h ++ l ++ t) xs a F) (l' : Hp) (hl : l'.length = l.length) : Own h e A (h ++ (l' ++ t)) xs a F where
  ext := Ext.push _ _
  sl := k.sl.frame fun q hq => by
    have := k.new q hq
    simp only [List.length_append] at this
    rw [← List.append_assoc, List.getElem?_append_right (by simp; omega), List.getElem?_append_right (by simp; omega)]
    simp [hl]
  nd := k.nd
  new q hq := by have := k.new q hq; simp only [List.length_append] at this; omega
theorem cellAt_get {h h' : Hp} {o : Nat} (e : h'[o]? = h[o]?) (i : Nat) : cellAt h' o i = cellAt h o i := by
  unfold cellAt; rw [e]
/-- An object that an append to another has not touched. -/
theorem cell_kept {h0 h h1 h2 : Hp} {ob : Ob} {e : TypeId} {α : Type} {A : Enc α} {xs : List α} {a : Option Addr} {F : List Nat} (own : Own h0 e A h xs a F) (x1 : Ext (h ++ [ob]) h1) (keep : ∀ q, q < h1.length → q ∉ F → h2[q]? = h1[q]?) (i : Nat) (hl : ob.live = true) : cellAt h2 h.length i = ob.cells[i]? := by
  have hlt : h.length < (h ++ [ob]).length := by simp
  rw [cellAt_get (keep h.length (Nat.lt_of_lt_of_le hlt x1.1) fun hh => Nat.lt_irrefl _ (own.sl.lt _ hh)), cellAt_ext x1 hlt, cellAt_app0]
  simp [cellAt, hl]
theorem ares_pair (P : Program) (r s : ResultVar) (tm : List Value) (h : Hp) : aresults P [r, s] tm h = (aresult P tm h r).bind fun u => (aresult P tm h s).bind fun v => if (notTuple u && notTuple v) = true then some (.tuple #[u, v]) else none := by
  unfold aresults
  simp only [List.mapM_cons, List.mapM_nil, Option.pure_def, Option.bind_eq_bind]
  cases aresult P tm h r with
  | none => rfl
  | some u =>
    cases aresult P tm h s with
    | none => rfl
    | some v => simp
theorem ares_triple (P : Program) (r s q : ResultVar) (tm : List Value) (h : Hp) : aresults P [r, s, q] tm h = (aresult P tm h r).bind fun u => (aresult P tm h s).bind fun v => (aresult P tm h q).bind fun x => if (notTuple u && (notTuple v && notTuple x)) = true then some (.tuple #[u, v, x]) else none := by
  unfold aresults
  simp only [List.mapM_cons, List.mapM_nil, Option.pure_def, Option.bind_eq_bind]
  cases aresult P tm h r with
  | none => rfl
  | some u =>
    cases aresult P tm h s with
    | none => rfl
    | some v =>
      cases aresult P tm h q with
      | none => rfl
      | some x => simp
theorem ares_t (P : Program) (t : Tmp) (tm : List Value) (h : Hp) : aresult P tm h (.tmp t) = some ((tm[t]?).getD undef) := rfl
theorem ares_c (P : Program) (a : Tmp) (t : TypeId) (tm : List Value) (h : Hp) : aresult P tm h (.cell a t) = lev P h (ev tm) (.load t (.tmp a)) := rfl
attribute [simp] ares_pair ares_triple ares_t ares_c
theorem rep_zero (zs : List Value) : Hz.rep 0 zs = [] := rfl
theorem rep_succ (n : Nat) (zs : List Value) : Hz.rep (n + 1) zs = zs ++ Hz.rep n zs := rfl
attribute [simp] rep_zero rep_succ
section
variable {P : Program} {α : Type} {h0 h : Hp} {e : TypeId} {A : Enc α} {xs ys : List α} {a : Option Addr} {F : List Nat}
theorem rowsR.mono {h h' : Hp} (hx : Ext h h') {xs : List α} {css : List (List Value)} {Fs : List (List Nat)} (r : rowsR A h xs css Fs) : rowsR A h' xs css Fs := r.frame fun o ho => hx.2 o (r.lt o ho)
/-- AN APPEND to an own slice: to a new object; the old one is dead. -/
theorem Own.append (k : Own h0 e A h xs a F) {st xt : TypeId} {x : Value} {css : List (List Value)} {Fs : List (List Nat)} {bt : Nat} {z : List Value} (hsrc : srcOf P h A.n xt x = some (css.flatten, ys.length)) (rows : rowsR A h ys css Fs)
    (hel : elOf P st = some (e, A.n, bt, z)) (hs1 : xs.length + ys.length ≤ big) (hs2 : (xs.length + ys.length) * bt ≤ big) (hn : Fs.flatten.Nodup) (hnew : ∀ q ∈ Fs.flatten, h0.length ≤ q ∧ q ∉ F) :
    ∃ a' h' F', aappend P h st xt (.slice a xs.length xs.length) x = some (.slice a' (xs.length + ys.length) (xs.length + ys.length), h') ∧ Own h0 e A h' (xs ++ ys) a' F' ∧ (∀ q, q < h.length → q ∉ F → h'[q]? = h[q]?) ∧ h.length ≤ h'.length ∧
      (∀ q ∈ F', q ∈ F ∨ q ∈ Fs.flatten ∨ h.length ≤ q) ∧ (ys = [] → a' = a ∧ h' = h) := by
  by_cases hy : ys = []
  · subst hy
    refine ⟨a, h, F, ?_, by simpa using k, fun _ _ _ => rfl, Nat.le_refl _, fun q hq => .inl hq, fun _ => ⟨rfl, rfl⟩⟩
    cases a with
    | none => obtain ⟨rfl, _⟩ := k.sl; simp [aappend, hel, hsrc]
    | some a => simp [aappend, hel, hsrc]
  have hm : ys.length ≠ 0 := fun hh => hy (List.eq_nil_of_length_eq_zero hh)
  cases a with
  | none =>
    obtain ⟨rfl, rfl⟩ := k.sl
    simp only [List.length_nil, Nat.zero_add] at hs1 hs2
    refine ⟨some ⟨h.length, 0, none⟩, h ++ [⟨true, true, e, css.flatten⟩], h.length :: Fs.flatten, ?_, ?_, fun q hq _ => List.getElem?_append_left hq, by simp, ?_, fun hh => absurd hh hy⟩
    · simp [aappend, hel, hsrc, hm, hs1, hs2]
    · exact Own.lit k.ext rows hn fun q hq => (hnew q hq).1
    · intro q hq
      rcases List.mem_cons.1 hq with rfl | hq
      · exact .inr (.inr (Nat.le_refl _))
      · exact .inr (.inl hq)
  | some ad =>
    have kk := k
    obtain ⟨e0, ⟨hsp, ob, cs0, F0, pre, post, g1, g2, g3, g4, rfl, g5, g6, g7⟩, nd, new⟩ := k
    have hrw := g3 rfl
    obtain ⟨o, off, sp⟩ := ad
    simp only at hsp g1 g7
    subst hsp
    have hlen := g5.len.2.2
    obtain ⟨cs1, hc1, hc2, css1, Fs1, rfl, hc4, hc5⟩ := kk.sl.cells
    have hkl : (kill h o).length = h.length := kill_len h o
    have hkill : ∀ q, q ≠ o → (kill h o)[q]? = h[q]? := fun q hq => by rw [kill_get, if_neg (by omega)]
    have hoF : ∀ {l : List (List Nat)}, (o :: l.flatten).Nodup → ∀ q ∈ l.flatten, q ≠ o := fun hn q hq hh => (List.nodup_cons.1 hn).1 (hh ▸ hq)
    have nd1 := nd
    simp only at hc5
    rw [hc5] at nd1
    have hflat : Fs1.flatten = F0.flatten := by simpa using hc5.symm
    have r1 : rowsR A (kill h o) xs css1 Fs1 := hc4.frame fun q hq => hkill q (hoF nd1 q hq)
    have r2 : rowsR A (kill h o) ys css Fs := rows.frame fun q hq => hkill q fun hh => (hnew q hq).2 (by simp [hh])
    have hext : Ext h0 (kill h o) := e0.kill (new o (by simp))
    refine ⟨some ⟨h.length, 0, none⟩, kill h o ++ [⟨true, true, e, css1.flatten ++ css.flatten⟩], h.length :: (Fs1 ++ Fs).flatten, ?_, ?_, ?_, by simp [hkl], ?_, fun hh => absurd hh hy⟩
    · have hcan : canSet h o off 0 = true := by
        have : off ≤ ob.cells.length := by rw [g6, ← g7]; simp
        simp [canSet, g1, g2, hrw, this]
      have hel2 : elAt h o = some e := by simp [elAt, g1, g4]
      have hnot : ¬ (xs.length + ys.length ≤ xs.length) := by omega
      have : (if ys.length = 0 then some (Value.slice (some ⟨o, off, none⟩) xs.length xs.length, h) else if elAt h o ≠ some e then none else if xs.length + ys.length ≤ xs.length then (if canSet h o (off + xs.length * A.n) (ys.length * A.n) then some (Value.slice (some ⟨o, off, none⟩) (xs.length + ys.length) xs.length, setsAt h o (off + xs.length * A.n) css.flatten) else none) else if xs.length + ys.length ≤ big ∧ (xs.length + ys.length) * bt ≤ big ∧ canSet h o off 0 then (cellsAt h o off (xs.length * A.n)).map fun old => (Value.slice (some ⟨h.length, 0, none⟩) (xs.length + ys.length) (xs.length + ys.length), kill h o ++ [⟨true, true, e, old ++ css.flatten⟩]) else none) = some (Value.slice (some ⟨h.length, 0, none⟩) (xs.length + ys.length) (xs.length + ys.length), kill h o ++ [⟨true, true, e, css1.flatten ++ css.flatten⟩]) := by
        rw [if_neg hm, if_neg (by simp [hel2]), if_neg hnot, if_pos ⟨hs1, hs2, hcan⟩, hc1]
        rfl
      simp only [aappend, hel, hsrc, Option.bind_some]
      exact this
    · have := Own.lit (e := e) hext (rowsR.append r1 r2) (by
        rw [List.flatten_append, List.nodup_append]
        refine ⟨(List.nodup_cons.1 nd1).2, hn, fun x hx y hy => ?_⟩
        rintro rfl
        exact (hnew x hy).2 (by rw [hflat] at hx; simp only [List.mem_cons]; exact .inr hx)) (fun q hq => by
        rw [List.flatten_append] at hq
        rcases List.mem_append.1 hq with hq | hq
        · exact new q (by rw [hflat] at hq; simp only [List.mem_cons]; exact .inr hq)
        · exact (hnew q hq).1)
      rw [hkl] at this
      rw [← List.flatten_append]
      exact this
    · intro q hq hqF
      rw [List.getElem?_append_left (by omega)]
      exact hkill q fun hh => hqF (by simp [hh])
    · intro q hq
      rcases List.mem_cons.1 hq with rfl | hq
      · exact .inr (.inr (Nat.le_refl _))
      · rw [List.flatten_append] at hq
        rcases List.mem_append.1 hq with hq | hq
        · exact .inl (by rw [hflat] at hq; simp only [List.mem_cons]; exact .inr hq)
        · exact .inr (.inl hq)

theorem flat_nil : ∀ {Fs : List (List Nat)}, (∀ F ∈ Fs, F = []) → Fs.flatten = []
  | [], _ => rfl
  | F :: Fs, k => by rw [List.flatten_cons, k F (by simp), flat_nil fun G hG => k G (by simp [hG])]; rfl
theorem rowsR.flat {n : Nat} {f : α → List Value} {hn : ∀ x, (f x).length = n} {hok : ∀ x, (f x).all okCell = true} : ∀ {xs : List α} {css : List (List Value)} {Fs : List (List Nat)}, rowsR (flatE n f hn hok) h xs css Fs → css = xs.map f ∧ ∀ F ∈ Fs, F = []
  | [], [], [], _ => ⟨rfl, by simp⟩
  | x :: xs, c :: cs, F :: Fs, k => by
    obtain ⟨h1, h2⟩ := rowsR.flat k.2
    obtain ⟨rfl, rfl⟩ := k.1
    exact ⟨by rw [h1]; rfl, fun G hG => by
      rcases List.mem_cons.1 hG with rfl | hG
      · rfl
      · exact h2 G hG⟩
  | [], [], _ :: _, k => k.elim
  | [], _ :: _, _, k => k.elim
  | _ :: _, [], _, k => k.elim
  | _ :: _, _ :: _, [], k => k.elim
theorem rowsR.mkFlat {n : Nat} {f : α → List Value} {hn : ∀ x, (f x).length = n} {hok : ∀ x, (f x).all okCell = true} : ∀ (xs : List α), rowsR (flatE n f hn hok) h xs (xs.map f) (List.replicate xs.length [])
  | [] => trivial
  | _ :: xs => ⟨⟨rfl, rfl⟩, rowsR.mkFlat xs⟩
end

section
variable {P : Program} {α : Type} {h0 h : Hp} {e e' : TypeId} {xs ys : List α} {a b : Option Addr} {F G : List Nat} {n : Nat} {f : α → List Value} {hn : ∀ x, (f x).length = n} {hok : ∀ x, (f x).all okCell = true}
/-- Elements without addresses: the footprint is the object alone. -/
theorem Own.appendSl (k : Own h0 e (flatE n f hn hok) h xs a F) {w : Bool} (hy : slR w e' (flatE n f hn hok) h ys b G) {st xt : TypeId} {bt : Nat} {z : List Value} (hx : isSlice P xt = true) (hel : elOf P st = some (e, n, bt, z)) (hs1 : xs.length + ys.length ≤ big) (hs2 : (xs.length + ys.length) * bt ≤ big) :
    ∃ a' h' F', aappend P h st xt (.slice a xs.length xs.length) (.slice b ys.length ys.length) = some (.slice a' (xs.length + ys.length) (xs.length + ys.length), h') ∧ Own h0 e (flatE n f hn hok) h' (xs ++ ys) a' F' ∧ (∀ q, q < h.length → q ∉ F → h'[q]? = h[q]?) ∧ h.length ≤ h'.length := by
  cases b with
  | none =>
    obtain ⟨rfl, rfl⟩ := hy
    obtain ⟨a', h', F', h1, h2, h3, h4, _⟩ := k.append (P := P) (st := st) (xt := xt) (x := .slice none 0 0) (css := []) (Fs := []) (ys := []) (by simp [srcOf, hx]) trivial hel hs1 hs2 (by simp) (by simp)
    exact ⟨a', h', F', h1, h2, h3, h4⟩
  | some b =>
    obtain ⟨o, off, sp⟩ := b
    obtain rfl : sp = none := hy.1
    obtain ⟨cs, h1, h2, css, Fs, rfl, h4, _⟩ := hy.cells
    have hF := flat_nil h4.flat.2
    obtain ⟨a', h', F', h1, h2, h3, h4, _⟩ := k.append (P := P) (st := st) (xt := xt) (x := .slice (some ⟨o, off, none⟩) ys.length ys.length) (css := css) (Fs := Fs) (ys := ys) (by
      have h1' : cellsAt h o off (ys.length * n) = some css.flatten := h1
      show srcOf P h n xt _ = _
      simp [srcOf, hx, h1']) h4 hel hs1 hs2 (by rw [hF]; simp) (by rw [hF]; simp)
    exact ⟨a', h', F', h1, h2, h3, h4⟩
end
section
variable {P : Program} {h0 h : Hp} {e : TypeId} {xs ys : Str} {a : Option Addr} {F : List Nat}
theorem bytes_flat : ∀ (ys : Str), (ys.map fun b => [Value.int .u8 b.toNat]).flatten = ys.map fun b => Value.int .u8 b.toNat
  | [] => rfl
  | b :: bs => by rw [List.map_cons, List.flatten_cons, bytes_flat bs]; rfl
theorem Own.appendStr (k : Own h0 e byteE h xs a F) {st xt : TypeId} {bt : Nat} {z : List Value} (hx : strOf P xt = true) (hel : elOf P st = some (e, 1, bt, z)) (hs1 : xs.length + ys.length ≤ big) (hs2 : (xs.length + ys.length) * bt ≤ big) :
    ∃ a' h' F', aappend P h st xt (.slice a xs.length xs.length) (.string (S ys)) = some (.slice a' (xs.length + ys.length) (xs.length + ys.length), h') ∧ Own h0 e byteE h' (xs ++ ys) a' F' ∧ (∀ q, q < h.length → q ∉ F → h'[q]? = h[q]?) ∧ h.length ≤ h'.length := by
  have hfl : bytesL (S ys) = (ys.map fun b => [Value.int .u8 b.toNat]).flatten := by rw [bytes_flat, bytesL_S]
  have hrow : rowsR byteE h ys (ys.map fun b => [Value.int .u8 b.toNat]) (List.replicate ys.length []) := rowsR.mkFlat ys
  obtain ⟨a', h', F', h1, h2, h3, h4, _⟩ := k.append (P := P) (st := st) (xt := xt) (x := .string (S ys)) (css := ys.map fun b => [Value.int .u8 b.toNat]) (Fs := List.replicate ys.length []) (ys := ys) (by
    show srcOf P h 1 xt _ = _
    rw [← hfl]
    simp [srcOf, hx]) hrow hel hs1 hs2 (by rw [flat_rep]; simp) (by rw [flat_rep]; simp)
  exact ⟨a', h', F', h1, h2, h3, h4⟩
/-- All bytes of a slice, as a string. -/
theorem lev_cvBS {w : Bool} (k : slR w e byteE h xs a F) (ρ : Operand → Value) (s d : TypeId) (x : Operand) (hx : ρ x = .slice a xs.length xs.length) (h1 : strOf P d = true) (h2 : (elemOf P s).bind (intOf' P) = some .u8) : lev P h ρ (.convert s d x) = some (.string (S xs)) := by
  cases a with
  | none =>
    obtain ⟨rfl, _⟩ := k
    simp only [lev, hx, h1, h2]
    rfl
  | some ad =>
    obtain ⟨o, off, sp⟩ := ad
    obtain rfl : sp = none := k.1
    obtain ⟨cs, g1, g2, css, Fs, rfl, g4, _⟩ := k.cells
    obtain ⟨rfl, _⟩ := g4.flat
    have hfl := bytes_flat xs
    have g1' : cellsAt h o off xs.length = some (xs.map fun b => Value.int .u8 b.toNat) := by
      rw [← hfl]
      have : byteE.n = 1 := rfl
      rw [this, Nat.mul_one] at g1
      exact g1
    simp only [lev, hx, h1, h2, g1']
    simp [strL_map]
end
section
variable {P : Program} {α : Type} {h0 h : Hp} {e : TypeId} {xs : List α} {a : Option Addr} {F : List Nat} {n : Nat} {f : α → List Value} {hn : ∀ x, (f x).length = n} {hok : ∀ x, (f x).all okCell = true}
/-- One element more, out of a literal. -/
theorem Own.append1 (k : Own h0 e (flatE n f hn hok) h xs a F) (x : α) {cs : List Value} (hx : cs = f x) {st xt : TypeId} {bt : Nat} {z : List Value} (hsl : isSlice P xt = true) (hel : elOf P st = some (e, n, bt, z)) (hs1 : xs.length + 1 ≤ big) (hs2 : (xs.length + 1) * bt ≤ big) :
    ∃ a' h' F', aappend P (h ++ [⟨true, true, e, cs⟩]) st xt (.slice a xs.length xs.length) (.slice (some ⟨h.length, 0, none⟩) 1 1) = some (.slice a' (xs.length + 1) (xs.length + 1), h') ∧ Own h0 e (flatE n f hn hok) h' (xs ++ [x]) a' F' := by
  subst hx
  have hl : slR true e (flatE n f hn hok) (h ++ [⟨true, true, e, f x⟩]) [x] (some ⟨h.length, 0, none⟩) [h.length] := by
    have := (Own.lit (h0 := h) (h := h) (e := e) (A := flatE n f hn hok) (xs := [x]) (css := [f x]) (Fs := [[]]) (Ext.refl h) ⟨⟨rfl, rfl⟩, trivial⟩ (by simp) (by simp)).sl
    simpa using this
  obtain ⟨a', h', F', h1, h2, _, _⟩ := (k.grow (Ext.push h _)).appendSl hl hsl hel hs1 hs2
  exact ⟨a', h', F', h1, h2⟩
end
end Go.Proofs.Ytidkkmkihifeoaa.Hz
