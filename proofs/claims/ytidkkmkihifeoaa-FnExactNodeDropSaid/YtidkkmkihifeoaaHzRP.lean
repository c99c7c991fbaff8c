/- slices.Repeat of one integer. -/
import Derived.Test.YtidkkmkihifeoaaHzMU
namespace Go.Proofs.Ytidkkmkihifeoaa.Hz
open Go.RowKit
set_option linter.unusedVariables false
set_option linter.unusedSimpArgs false
set_option maxRecDepth 20000

theorem wrap_u64 {n : Int} (h1 : 0 ≤ n) (h2 : n ≤ 9223372036854775807) : IntKind.u64.wrap n = n := by
  simp only [IntKind.wrap, IntKind.bits, IntKind.signed]
  simp
  omega
theorem setL_rep (n m k : Nat) (v z : Value) (hk : k ≤ m) : setL (List.replicate n v ++ List.replicate m z) n (List.replicate k v) = List.replicate (n + k) v ++ List.replicate (m - k) z := by
  have e1 : n = (List.replicate n v).length + 0 := by simp
  conv => lhs; arg 2; rw [e1]
  rw [setL_append_right]
  have e2 : List.replicate m z = List.replicate k z ++ List.replicate (m - k) z := by rw [List.replicate_append_replicate]; congr 1; omega
  rw [e2, setL_append_left _ _ _ _ (by simp), setL_all _ _ (by simp), ← List.append_assoc, List.replicate_append_replicate]
theorem setsAt_one (i : Nat) (ob : Ob) : ∀ (vs : List Value), setsAt [ob] 0 i vs = [⟨ob.live, ob.rw, ob.elem, setL ob.cells i vs⟩] := by
  have key : ∀ (vs : List Value) (i : Nat) (ob : Ob), setsAt [ob] 0 i vs = [⟨ob.live, ob.rw, ob.elem, setL ob.cells i vs⟩] := by
    intro vs
    induction vs with
    | nil => intro i ob; rfl
    | cons v vs ih => intro i ob; rw [setsAt_hd, ih]; rfl
  exact fun vs => key vs i ob
theorem cellsAt_rep (h : Hp) (e : TypeId) (n m k : Nat) (v z : Value) (hk : k ≤ n) : cellsAt (h ++ [⟨true, true, e, List.replicate n v ++ List.replicate m z⟩]) h.length 0 k = some (List.replicate k v) := by
  have := cellsAt_of (h := h ++ [⟨true, true, e, List.replicate n v ++ List.replicate m z⟩]) (o := h.length) (cs := List.replicate k v) (i := 0) (fun j hj => by
    simp only [List.length_replicate] at hj
    rw [cellAt_app0]
    show (List.replicate n v ++ List.replicate m z)[0 + j]? = _
    rw [Nat.zero_add, List.getElem?_append_left (by simp; omega), List.getElem?_replicate, List.getElem?_replicate, if_pos (by omega), if_pos hj])
  simpa using this
/-- One round of doubling. -/
theorem acopy_rep {t : TypeId} {e bt : Nat} {z0 : List Value} (hel : elOf Try.prog t = some (e, 1, bt, z0)) (h : Hp) (n m : Nat) (v z : Value) (hn : 0 < n) (hm : 0 < m) :
    acopy Try.prog (h ++ [⟨true, true, e, List.replicate n v ++ List.replicate m z⟩]) t (.slice (some ⟨h.length, n, none⟩) m m) (.slice (some ⟨h.length, 0, none⟩) n (n + m)) =
      some (.int .i64 (min n m : Nat), h ++ [⟨true, true, e, List.replicate (n + min n m) v ++ List.replicate (m - min n m) z⟩]) := by
  have h0 : ¬ (min n m = 0) := by omega
  have hcan : canSet (h ++ [⟨true, true, e, List.replicate n v ++ List.replicate m z⟩]) h.length n (min n m) = true := by
    rw [canSet_app0]
    simp [canSet_hd]
    exact Nat.min_le_right n m
  have hc := cellsAt_rep h e n m (min n m) v z (by omega)
  simp only [acopy, hel, Option.bind_some, h0, if_false, Nat.mul_one, hcan, if_true, hc, Option.map_some]
  rw [setsAt_app0, setsAt_one, setL_rep _ _ _ _ _ (Nat.min_le_right n m)]
theorem acopy_first {t : TypeId} {e bt : Nat} {z0 : List Value} (hel : elOf Try.prog t = some (e, 1, bt, z0)) (h : Hp) (m : Nat) (v z : Value) (o off : Nat) (ho : cellAt h o off = some v) (hm : 0 < m) :
    acopy Try.prog (h ++ [⟨true, true, e, List.replicate m z⟩]) t (.slice (some ⟨h.length, 0, none⟩) m m) (.slice (some ⟨o, off, none⟩) 1 1) =
      some (.int .i64 1, h ++ [⟨true, true, e, List.replicate 1 v ++ List.replicate (m - 1) z⟩]) := by
  have h1 : min 1 m = 1 := by omega
  have hlt : o < h.length := by
    obtain ⟨ob, ho, _⟩ := cellAt_some ho
    exact (List.getElem?_eq_some_iff.1 ho).1
  have hcan : canSet (h ++ [⟨true, true, e, List.replicate m z⟩]) h.length 0 1 = true := by
    rw [canSet_app0]
    simp [canSet_hd]
    omega
  have hc : cellsAt (h ++ [⟨true, true, e, List.replicate m z⟩]) o off 1 = some [v] := by
    have : cellAt (h ++ [⟨true, true, e, List.replicate m z⟩]) o off = some v := by rw [cellAt_ext (Ext.push h _) hlt]; exact ho
    simp [this]
  simp only [acopy, hel, Option.bind_some, h1, Nat.mul_one, hcan, if_true, hc, Option.map_some]
  rw [setsAt_app0, setsAt_one]
  have := setL_rep 0 m 1 v z (by omega)
  simp only [List.replicate_zero, List.nil_append, Nat.zero_add] at this
  have e1 : ([v] : List Value) = List.replicate 1 v := rfl
  rw [e1, this]
  simp
theorem rep_one (n : Nat) (v : Value) : Hz.rep n [v] = List.replicate n v := by
  induction n with
  | zero => rfl
  | succ n ih => rw [rep_succ, ih, List.replicate_succ]; rfl
theorem repeat_c (N : Nat) (h1 : 1 ≤ N) (hN : N ≤ 1048576) (a : Option Addr) (F : List Nat) (w : Bool) (t : TypeId) (h : Hp) (hr : slR w t intE h [-1] a F) :
    ACall Try.prog 174 [.slice a 1 1, .int .i64 N] h fun r h' => ∃ a' F', r = .slice a' N N ∧ Own h 3 intE h' (List.replicate N (-1)) a' F' := by
  refine acall mixed Try.func174 rfl (by kernel_rfl) ?_
  have hN' : (N : Int) ≤ 1048576 := by omega
  have w1 : IntKind.u64.wrap (N : Int) = N := wrap_u64 (by omega) (by omega)
  have w2 : IntKind.u64.wrap 1 = 1 := wrap_u64 (by omega) (by omega)
  have w3 : IntKind.i64.wrap (N : Int) = N := wrap_in (by omega) (by omega)
  have hneg : ¬ ((N : Int) < 0) := by omega
  have hbig : ¬ (9223372036854775807 < (N : Int)) := by omega
  have hb1 : (N : Int) * 8 ≤ (big : Int) := by unfold big; omega
  have hb2 : N ≤ big := by unfold big; omega
  simp [Try.f174, w1, w2, hneg]
  refine callK0 (mul_c N hN _) ?_
  rintro _ h ⟨rfl, rfl⟩
  obtain ⟨o, off, rfl, c0⟩ := intEAt hr (i := 0) (by simp)
  simp only [Nat.add_zero, List.getElem_cons_zero] at c0
  have hcp := acopy_first (t := 135) (e := 3) (bt := 8) (z0 := [.int .i64 0]) (by simp) h N (.int .i64 (-1)) (.int .i64 0) o off c0 h1
  simp [hbig, w3, hb1, hb2, rep_one, hcp]
  refine aloop mixed [7, 8] (fun (n : Nat) => [.slice (some ⟨h.length, 0, none⟩) N N, .int .i64 n]) (fun n => h ++ [⟨true, true, 3, List.replicate n (.int .i64 (-1)) ++ List.replicate (N - n) (.int .i64 0)⟩]) (fun n => 1 ≤ n ∧ n ≤ N) (fun n => N - n) 1 ⟨Nat.le_refl _, h1⟩ rfl (by simp) ?_
  rintro n ⟨hn1, hn2⟩
  simp [mkF]
  refine asplitK_intro (fun hb => ?_) (fun hb => ?_) <;> simp at hb <;> simp [hb]
  · have hcp2 := acopy_rep (t := 135) (e := 3) (bt := 8) (z0 := [.int .i64 0]) (by simp) h n (N - n) (.int .i64 (-1)) (.int .i64 0) (by omega) (by omega)
    have hs : n + (N - n) = N := by omega
    rw [hs] at hcp2
    have wk : IntKind.i64.wrap ((n : Int) + (min n (N - n) : Nat)) = ((n + min n (N - n) : Nat) : Int) := by rw [wrap_in (by omega) (by omega)]; omega
    refine drawK false (by kernel_rfl) ?_
    simp [asl2_i, asl2_j, hn2, hcp2]
    exact anext (n + min n (N - n)) ⟨by omega, by omega⟩ (by omega) (by simp [pickF, wk]) (by simp [Nat.sub_sub]) (by simp)
  · obtain rfl : n = N := by omega
    have := Own.rep (A := intE) h 3 n (z := -1) (zs := [.int .i64 (-1)]) ⟨rfl, rfl⟩
    rw [rep_one] at this
    simpa using ⟨_, this⟩
end Go.Proofs.Ytidkkmkihifeoaa.Hz
