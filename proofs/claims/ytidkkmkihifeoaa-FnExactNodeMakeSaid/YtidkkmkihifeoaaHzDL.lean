/- Own slices of plain elements: storing many elements at once; a result with more room than it shows. -/
import Derived.Test.YtidkkmkihifeoaaHzY
namespace Go.Proofs.Ytidkkmkihifeoaa.Hz
open Go.RowKit
set_option linter.unusedVariables false
set_option linter.unusedSimpArgs false
set_option maxRecDepth 20000

/-- A result may be told with less room than it has. -/
theorem ACall.weakRes {P : Program} {f : FuncId} {avs : List Value} {h : Hp} {R R2 : Value → Hp → Prop} (k : ACall P f avs h R) (hw : ∀ v h', R v h' → ∃ v2, (∀ φ u, RelV φ v u → RelV φ v2 u) ∧ R2 v2 h') : ACall P f avs h R2 := by
  intro B w0 φ w args r ha
  have := k B w0 φ w args r ha
  unfold CallsV at this ⊢
  split at this
  · rename_i g bs w1 _
    refine this.mono ?_
    rintro e w2 ⟨v, rfl, φ', v1, h', p1, p2, p3, p4⟩
    obtain ⟨v2, q1, q2⟩ := hw _ _ p4
    exact ⟨v, rfl, φ', v2, h', p1, p2, q1 _ _ p3, q2⟩
  · obtain ⟨φ', v1, h', p1, p2, p3, p4⟩ := this
    obtain ⟨v2, q1, q2⟩ := hw _ _ p4
    exact ⟨φ', v2, h', p1, p2, q1 _ _ p3, q2⟩
  · exact this.elim
section
variable {α : Type} {n : Nat} {f : α → List Value} {hn : ∀ x, (f x).length = n} {hok : ∀ x, (f x).all okCell = true} {h0 h : Hp} {e : TypeId} {xs ys : List α} {F : List Nat} {o off : Nat}
theorem flatL_len (hn : ∀ x, (f x).length = n) : ∀ (xs : List α), (xs.map f).flatten.length = xs.length * n
  | [] => by simp
  | x :: xs => by
    rw [List.map_cons, List.flatten_cons, List.length_append, flatL_len hn xs, hn, List.length_cons, Nat.add_mul]
    omega
theorem Own.flatF (k : Own h0 e (flatE n f hn hok) h xs (some ⟨o, off, none⟩) F) : F = [o] := by
  obtain ⟨_, ob, css, Fs, pre, post, g1, g2, g3, g4, rfl, g5, g6, g7⟩ := k.sl
  rw [flat_nil g5.flat.2]
theorem Own.to {β : Type} {A : Enc β} {zs : List β} {a : Option Addr} {h' : Hp} (k : Own h0 e A h zs a F) (q : ∃ l, h' = h ++ l) : Own h0 e A h' zs a F := by
  obtain ⟨l, rfl⟩ := q
  exact k.grow (Ext.push _ l)
theorem Own.any {β : Type} {A : Enc β} {zs : List β} {a : Option Addr} (sl : slR true e A h zs a F) (nd : F.Nodup) : Own [] e A h zs a F :=
  ⟨⟨Nat.zero_le _, fun _ hq => by simp at hq⟩, sl, nd, fun _ _ => Nat.zero_le _⟩
/-- Many elements stored at once. -/
theorem Own.blit (k : Own h0 e (flatE n f hn hok) h xs (some ⟨o, off, none⟩) F) {i : Nat} (hi : i + ys.length ≤ xs.length) :
    canSet h o (off + i * n) (ys.length * n) = true ∧ Own h0 e (flatE n f hn hok) (setsAt h o (off + i * n) (ys.map f).flatten) (xs.take i ++ ys ++ xs.drop (i + ys.length)) (some ⟨o, off, none⟩) F := by
  obtain ⟨e0, ⟨_, ob, css, Fs, pre, post, g1, g2, g3, g4, rfl, g5, g6, g7⟩, nd, new⟩ := k
  simp only at g1 g7
  obtain ⟨rfl, hF⟩ := g5.flat
  have hx : xs = xs.take i ++ ((xs.drop i).take ys.length ++ xs.drop (i + ys.length)) := by
    rw [← List.drop_drop, List.take_append_drop, List.take_append_drop]
  have l1 : ((xs.take i).map f).flatten.length = i * n := by rw [flatL_len hn]; simp; rw [Nat.min_eq_left (by omega)]
  have l2 : (((xs.drop i).take ys.length).map f).flatten.length = ys.length * n := by rw [flatL_len hn]; simp; rw [Nat.min_eq_left (by omega)]
  have l3 : (ys.map f).flatten.length = ys.length * n := flatL_len hn ys
  have hc : ob.cells = pre ++ (((xs.take i).map f).flatten ++ ((((xs.drop i).take ys.length).map f).flatten ++ (((xs.drop (i + ys.length)).map f).flatten ++ post))) := by
    rw [g6]
    conv => lhs; rw [hx]
    simp only [List.map_append, List.flatten_append, List.append_assoc]
  have hset : setL ob.cells (off + i * n) (ys.map f).flatten = pre ++ ((xs.take i ++ ys ++ xs.drop (i + ys.length)).map f).flatten ++ post := by
    rw [hc, show off + i * n = pre.length + (i * n) by omega, setL_append_right]
    have e1 : i * n = ((xs.take i).map f).flatten.length + 0 := by omega
    conv => lhs; arg 2; arg 2; rw [e1]
    rw [setL_append_right, setL_append_left _ _ _ _ (by omega), setL_all _ _ (by omega)]
    simp only [List.map_append, List.flatten_append, List.append_assoc]
  refine ⟨?_, e0.set (new o List.mem_cons_self) _ _, ⟨rfl, { ob with cells := setL ob.cells (off + i * n) (ys.map f).flatten }, _, List.replicate (xs.take i ++ ys ++ xs.drop (i + ys.length)).length [], pre, post, ?_, g2, g3, g4, ?_, rowsR.mkFlat _, hset, g7⟩, nd, new⟩
  · have : off + i * n + ys.length * n ≤ ob.cells.length := by
      rw [hc]; simp only [List.length_append, l1, l2]; omega
    simp [canSet, g1, g2, g3 rfl, this]
  · show (setsAt h o (off + i * n) (ys.map f).flatten)[o]? = _
    rw [setsAt_get, if_pos rfl, g1]; rfl
  · rw [flat_nil hF, flat_rep]
/-- The cells of a part. -/
theorem slR.cellsPart {w : Bool} (k : slR w e (flatE n f hn hok) h xs (some ⟨o, off, none⟩) F) (i : Nat) (hi : i ≤ xs.length) : cellsAt h o (off + i * n) ((xs.length - i) * n) = some ((xs.drop i).map f).flatten := by
  obtain ⟨F', hp, _⟩ := k.part i xs.length hi (Nat.le_refl _)
  rw [List.take_length] at hp
  obtain ⟨cs, h1, h2, css, Fs, rfl, h4, _⟩ := hp.cells
  obtain ⟨rfl, _⟩ := h4.flat
  simp only [List.length_drop] at h1
  exact h1
theorem Own.part (k : Own h0 e (flatE n f hn hok) h xs (some ⟨o, off, none⟩) F) (j : Nat) (hj : j ≤ xs.length) : Own h0 e (flatE n f hn hok) h (xs.take j) (some ⟨o, off, none⟩) F := by
  have hF := k.flatF
  obtain ⟨F', hp, hq⟩ := k.sl.part 0 j (by omega) hj
  simp only [List.drop_zero, Nat.zero_mul, Nat.add_zero] at hp
  have k2 : Own h0 e (flatE n f hn hok) h (xs.take j) (some ⟨o, off, none⟩) [o] := by
    obtain ⟨g0, ob, css, Fs, pre, post, g1, g2, g3, g4, g5, g6, g7, g8⟩ := hp
    refine ⟨k.ext, ⟨g0, ob, css, Fs, pre, post, g1, g2, g3, g4, ?_, g6, g7, g8⟩, by simp, fun q hq => k.new q (by rw [hF]; exact hq)⟩
    rw [flat_nil g6.flat.2]
  rw [hF]
  exact k2
end
end Go.Proofs.Ytidkkmkihifeoaa.Hz
