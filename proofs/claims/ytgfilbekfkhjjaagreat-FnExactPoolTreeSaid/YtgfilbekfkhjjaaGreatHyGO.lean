/- Texts of the calculus and of the program's functions, merged: LS PQ DQ DX. -/
import Derived.Test.YtgfilbekfkhjjaaGreatHyGF
import Derived.Test.YtgfilbekfkhjjaaGreatHyGK
import Derived.Test.YtgfilbekfkhjjaaGreatHyGM
import Derived.Test.YtgfilbekfkhjjaaGreatHyGI
import Derived.Test.YtgfilbekfkhjjaaGreatHyGN
/- Last: both programs. -/
namespace Go.Proofs.YtgfilbekfkhjjaaGreat.Hz
open Go.RowKit
set_option linter.unusedVariables false
set_option linter.unusedSimpArgs false
set_option maxRecDepth 20000

def last (p : Str) : Str := (names p).getLastD []
theorem last_at (p : Str) (h : 0 < (names p).length) : last p = (names p)[(names p).length - 1] := by
  unfold last
  rw [List.getLastD_eq_getLast?, List.getLast?_eq_getElem?, List.getElem?_eq_getElem (by omega)]
  rfl
end Go.Proofs.YtgfilbekfkhjjaaGreat.Hz
/- Paths and their names. No program in sight. -/
namespace Go.Proofs.YtgfilbekfkhjjaaGreat.Hz
open Go.RowKit
set_option linter.unusedVariables false
set_option linter.unusedSimpArgs false
set_option maxRecDepth 20000

theorem pathOf_names {l : List Str} (hl : l.length ≤ 4) (ha : l.all nameOk = true) : pathOk (pathOf l) = true ∧ names (pathOf l) = l := by
  cases l with
  | nil => exact ⟨rfl, rfl⟩
  | cons x xs =>
    have hp := parts_raw_cons x xs
    have hf := flat_ok _ ha
    rw [hf] at hp
    have hpg : pathGood (rawP (x :: xs)) = true := by
      simp only [pathGood, hp, List.head?_cons, List.length_cons, List.drop_succ_cons, List.drop_zero, ha, Bool.and_true]
      have : inR ((xs.length + 1 + 1 : Nat) : Int) 2 5 = true := inR_iff.2 (by simp at hl; omega)
      rw [this]; rfl
    have hx : nameOk x = true := by simp at ha; exact ha.1
    have hx1 := (nameOk_len hx).1
    have hne : rawP (x :: xs) ≠ [47] := by
      cases x with
      | nil => simp at hx1
      | cons c cs => simp [rawP]
    have hok : pathOk (rawP (x :: xs)) = true := by simp [pathOk, hpg]
    have hn : names (rawP (x :: xs)) = x :: xs := by rw [names, if_neg hne, if_pos hpg, hp]; rfl
    have hany : ((x :: xs).any fun s => !nameOk s) = false := by
      rw [List.any_eq_false]
      intro y hy
      rw [List.all_eq_true] at ha
      simp [ha y hy]
    have hl' : decide (4 < (x :: xs).length) = false := decide_eq_false (by omega)
    have he : pathOf (x :: xs) = rawP (x :: xs) := by
      rw [pathOf, hany, hl', ← raw_join]
      rfl
    rw [he]
    exact ⟨hok, hn⟩
theorem above_ok {p : Str} (h : pathOk p = true) : pathOk (above p) = true ∧ names (above p) = (names p).take ((names p).length - 1) := by
  unfold above
  rw [if_pos h]
  refine pathOf_names ?_ ?_
  · have := names_len p
    simp
    omega
  · rw [List.all_eq_true]
    intro q hq
    exact names_mem (List.mem_of_mem_take hq)
theorem rawP_len : ∀ l : List Str, (rawP l).length = l.length + sumL List.length l
  | [] => rfl
  | x :: xs => by
    have := rawP_len xs
    simp only [rawP, sumL, List.length_cons, List.length_append, this]
    omega
theorem above_len (p : Str) : (above p).length ≤ 100 := by
  unfold above
  split
  · rw [pathOf_eq, pathOfN]
    split
    · simp
    · unfold outOf
      split
      · simp
      · have h1 := names_len p
        have h2 := sumL_all List.length 6 ((names p).take ((names p).length - 1)) (fun x hx => (nameOk_len (names_mem (List.mem_of_mem_take hx))).2)
        have h3 : ((names p).take ((names p).length - 1)).length ≤ 4 := by simp; omega
        rw [rawP_len]
        omega
  · simp
theorem names_pos {p : Str} (h : pathOk p = true) (hr : p ≠ [47]) : 0 < (names p).length := by
  have hg : pathGood p = true := by simpa [pathOk, hr] using h
  rw [names, if_neg hr, if_pos hg]
  simp only [pathGood, Bool.and_eq_true] at hg
  have := inR_iff.1 hg.1.2
  simp
  omega
end Go.Proofs.YtgfilbekfkhjjaaGreat.Hz
/- FsDrop: what it gives. No program in sight. -/
namespace Go.Proofs.YtgfilbekfkhjjaaGreat.Hz
open Go.RowKit
set_option linter.unusedVariables false
set_option linter.unusedSimpArgs false
set_option maxRecDepth 20000

theorem follow_snoc {f : Fs} : ∀ (ns : List Str) (n : Str) (i : Int), Okd f i → 0 ≤ follow f (ns ++ [n]) i → Okd f (follow f ns i) ∧ (nodeAtI f (follow f ns i)).kind = 2
  | [], n, i, o, h => by
    simp only [List.nil_append, follow] at h
    refine ⟨o, ?_⟩
    simp only [follow]
    by_cases hk : (nodeAtI f i).kind = 2
    · exact hk
    · rw [if_neg hk] at h; omega
  | m :: ns, n, i, o, h => by
    simp only [List.cons_append, follow] at h ⊢
    by_cases hk : (nodeAtI f i).kind = 2
    · rw [if_pos hk] at h ⊢
      by_cases hd : dirFind (dirI f i).1 m < 0
      · rw [if_pos hd] at h; omega
      · rw [if_neg hd] at h ⊢
        rcases o.find hk m with h1 | h1
        · rw [h1] at hd; exact absurd (by decide) hd
        · exact follow_snoc ns n _ h1 h
    · rw [if_neg hk] at h; omega
theorem dir_ok {f : Fs} {p : Str} (e1 : fsOk f = true) (h : pathOk p = true) (hr : p ≠ [47]) (hi : 0 ≤ walk f p) :
    walk f (above p) = follow f ((names p).take ((names p).length - 1)) 0 ∧ Okd f (walk f (above p)) ∧ (nodeAtI f (walk f (above p))).kind = 2 := by
  obtain ⟨a1, a2⟩ := above_ok h
  have hw : walk f (above p) = follow f ((names p).take ((names p).length - 1)) 0 := by simp [walk, e1, a1, a2]
  have hp := names_pos h hr
  have hs : names p = (names p).take ((names p).length - 1) ++ [(names p)[(names p).length - 1]] := by
    have h1 := List.take_succ_eq_append_getElem (l := names p) (i := (names p).length - 1) (by omega)
    rw [← h1, show (names p).length - 1 + 1 = (names p).length by omega, List.take_length]
  have hwp : walk f p = follow f (names p) 0 := by simp [walk, e1, h]
  rw [hwp, hs] at hi
  have := follow_snoc _ _ 0 (okd_root e1) hi
  rw [hw]
  exact ⟨rfl, this⟩
noncomputable def fsDrop (f : Fs) (p : Str) : Fs × Int :=
  if fsOk f = false then (f, 10) else if pathOk p = false ∨ p = [47] then (f, 1) else if walk f p < 0 then (f, 2)
  else if (nodeAtI f (walk f p)).kind = 2 ∧ 0 < (nodeAtI f (walk f p)).size then (f, 8)
  else ((unlinkS (nodeDrop f (walk f p)).1 (walk f (above p)) (last p)).1, 0)
theorem fsDrop_nl (f : Fs) (p : Str) (h : f.nl ≤ 1048576) : (fsDrop f p).1.nl ≤ 1048576 := by
  unfold fsDrop
  repeat' split
  all_goals first | exact h | exact nodeWrite_nl _ _ _ (Nat.le_trans (nodeDrop_nl _ _) h)
theorem drop_kind {f : Fs} {i : Int} {d : Nat} (hd : d < f.nodes.length) (hk : (nodeAtI f (d : Int)).kind = 2) : (nodeAtI (nodeDrop f i).1 (d : Int)).kind = 2 ∨ (nodeAtI (nodeDrop f i).1 (d : Int)).kind = 0 := by
  by_cases h : i = d
  · subst h
    unfold nodeDrop
    split
    · right
      simp [nodeAtI, hd]
    · exact .inl hk
  · left
    rw [nodeDrop_kind hd h]
    exact hk
end Go.Proofs.YtgfilbekfkhjjaaGreat.Hz
/- FsDrop: both programs. -/
namespace Go.Proofs.YtgfilbekfkhjjaaGreat.Hz
open Go.RowKit
set_option linter.unusedVariables false
set_option linter.unusedSimpArgs false
set_option maxRecDepth 20000

theorem ACall.cap2 {P : Program} {f : FuncId} {a : Option Addr} {n c : Nat} {v0 : Value} {avs : List Value} {h : Hp} {R : Value → Hp → Prop} (k : ACall P f (v0 :: .slice a n n :: avs) h R) (hc : n ≤ c) : ACall P f (v0 :: .slice a n c :: avs) h R :=
  k.conv fun _ _ r => by
    obtain ⟨v, vs, rfl, h1, h2⟩ := All2.cons_iff.1 r
    obtain ⟨v', vs', rfl, h3, h4⟩ := All2.cons_iff.1 h2
    exact ⟨h1, relV_cap hc h3, h4⟩
noncomputable def leaveS (f : Fs) (d : Int) (name : Str) : Fs × Bool := nodeWrite f d (dirText (dirDrop (dirK f d).1 name).1)
theorem dirK_small {f : Fs} (s : ShapeOk f) (i : Int) : (dirK f i).1.length ≤ 80 := by
  unfold dirK
  split
  · exact dirI_small s i
  · simp
theorem dirK_names (f : Fs) (i : Int) : ∀ e ∈ (dirK f i).1, e.name.length ≤ 6 := by
  unfold dirK
  split
  · exact dirI_names f i
  · simp
theorem leaveS_eq {f : Fs} {d : Int} (name : Str) (h : (nodeAtI f d).kind = 2 ∨ (nodeAtI f d).kind = 0) : leaveS f d name = unlinkS f d name := by
  rcases h with h | h
  · simp [leaveS, unlinkS, dirK, h]
  · have hu : usable f d = false := by simp [usable, h]
    simp [leaveS, unlinkS, nodeWrite, hu]
section
variable (f : Fs) (a1 a2 : Option Addr) (F1 F2 : List Nat) (w : Bool) (tNode : TypeId) (h : Hp) (k1 : slR w tNode (nodeE w) h f.nodes a1 F1) (k2 : slR w 9 strE h f.data a2 F2) (hl : f.nl ≤ 1048576) (s : ShapeOk f) (d : Nat) (hd : d < f.nodes.length) (name : Str)
include k1 k2 hl s hd
end
section
variable (f : Fs) (a1 a2 : Option Addr) (F1 F2 : List Nat) (w : Bool) (tNode : TypeId) (h : Hp) (k1 : slR w tNode (nodeE w) h f.nodes a1 F1) (k2 : slR w 9 strE h f.data a2 F2) (hl : f.nl ≤ 1048576) (p : Str) (hp : p.length ≤ 1048576)
include k1 k2 hl hp
end
end Go.Proofs.YtgfilbekfkhjjaaGreat.Hz
