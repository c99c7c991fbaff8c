/- Texts of the calculus and of the program's functions, merged: QA QB QC QD QE. -/
import Derived.Test.YtkphpalagceobaaGreatHyHA
import Derived.Test.YtkphpalagceobaaGreatHyGH
import Derived.Test.YtkphpalagceobaaGreatHyGJ
import Derived.Test.YtkphpalagceobaaGreatHyGF
/- Trees and pools. No program in sight. -/
namespace Go.Proofs.YtkphpalagceobaaGreat.Hz
open Go.RowKit
set_option linter.unusedVariables false
set_option linter.unusedSimpArgs false

/-! ### Trees -/
theorem tree_sorted (f : Fs) : SortedP (treeItems f) := by
  unfold treeItems
  split
  · rename_i e1
    exact (foldPut_sorted (itemsOf f 4 0 []) [] (by simp [SortedP]) (by simpa using itemsOf_distinct 4 0 [] (vis_root e1) (by simp) (by simp))).1
  · simp [SortedP]
theorem tree_mem {f : Fs} (e1 : fsOk f = true) (x : Item) : x ∈ treeItems f ↔ x ∈ itemsOf f 4 0 [] := by
  unfold treeItems
  rw [if_pos e1]
  have := (foldPut_sorted (itemsOf f 4 0 []) [] (by simp [SortedP]) (by simpa using itemsOf_distinct 4 0 [] (vis_root e1) (by simp) (by simp))).2
  simpa using this.mem_iff
theorem tree_distinct (f : Fs) : (treeItems f).Pairwise fun a b => a.path ≠ b.path := by
  refine (tree_sorted f).imp fun {a b} h e => ?_
  rw [e, less_irr] at h
  cases h
theorem tree_path {f : Fs} {x : Item} (hx : x ∈ treeItems f) : ∃ ms : List Str, x.path = pathOf ms ∧ 1 ≤ ms.length ∧ ms.length ≤ 4 ∧ ms.all nameOk = true := by
  cases e1 : fsOk f
  · simp [treeItems, e1] at hx
  obtain ⟨ms, p1, p2, p3, p4, _⟩ := itemsOf_path 4 0 [] (vis_root e1) (by simp) (by simp) x ((tree_mem e1 x).1 hx)
  exact ⟨ms, by simpa using p1, p2, p3, p4⟩
theorem tree_pathOk {f : Fs} {x : Item} (hx : x ∈ treeItems f) : pathOk x.path = true ∧ x.path ≠ [47] := by
  obtain ⟨ms, p1, p2, p3, p4⟩ := tree_path hx
  obtain ⟨h1, h2⟩ := pathOf_names p3 p4
  rw [p1]
  refine ⟨h1, fun e => ?_⟩
  rw [e] at h2
  have : names [47] = [] := by simp [names]
  rw [this] at h2
  rw [← h2] at p2
  simp at p2
theorem find_none {xs : List Item} {p : Str} : (treeFind xs p).2 = false → ∀ x ∈ xs, x.path ≠ p := by
  induction xs with
  | nil => intro _ x hx; simp at hx
  | cons y xs ih =>
    intro h x hx
    unfold treeFind at h
    split at h
    · cases h
    · rename_i hy
      rcases List.mem_cons.1 hx with rfl | hx
      · exact hy
      · exact ih h x hx
theorem find_some {xs : List Item} {p : Str} : (treeFind xs p).2 = true → (treeFind xs p).1 ∈ xs ∧ (treeFind xs p).1.path = p := by
  induction xs with
  | nil => intro h; simp [treeFind] at h
  | cons y xs ih =>
    intro h
    unfold treeFind at h ⊢
    split at h
    · rename_i hy
      rw [if_pos hy]
      exact ⟨by simp, hy⟩
    · rename_i hy
      rw [if_neg hy]
      obtain ⟨h1, h2⟩ := ih h
      exact ⟨by simp [h1], h2⟩
theorem find_has {xs : List Item} {p : Str} {x : Item} (hx : x ∈ xs) (hp : x.path = p) : (treeFind xs p).2 = true := by
  cases h : (treeFind xs p).2
  · exact absurd hp (find_none h x hx)
  · rfl
theorem find_only {xs : List Item} (hd : xs.Pairwise fun a b => a.path ≠ b.path) {x : Item} (hx : x ∈ xs) : treeFind xs x.path = (x, true) := by
  have h1 := find_has hx rfl
  obtain ⟨h2, h3⟩ := find_some h1
  have : (treeFind xs x.path).1 = x := by
    by_cases e : (treeFind xs x.path).1 = x
    · exact e
    · exfalso
      have hd2 : xs.Pairwise fun a b => a.path ≠ b.path := hd
      rcases List.mem_iff_getElem.1 h2 with ⟨i, hi, ei⟩
      rcases List.mem_iff_getElem.1 hx with ⟨j, hj, ej⟩
      have hij : i ≠ j := fun h => e (by subst h; rw [← ei, ej])
      rcases Nat.lt_or_gt_of_ne hij with h | h
      · exact (List.pairwise_iff_getElem.1 hd2 i j hi hj h) (by rw [ei, ej, h3])
      · exact (List.pairwise_iff_getElem.1 hd2 j i hj hi h) (by rw [ei, ej, h3])
  exact Prod.ext this h1
theorem treeGet_find {xs : List Item} {p : Str} (h : p ≠ [47]) : treeGet xs p = treeFind xs p := by unfold treeGet; rw [if_neg h]

/-! ### Do trees agree? -/
def agr (x y : Item) : Prop := x.path = y.path → x.kind = y.kind
/-! ### Pools -/
def moveOk (p : Pool) : Bool :=
  if p.move.on then inR p.move.src 0 (p.branches.length - 1) && inR p.move.dst 0 (p.branches.length - 1) && p.move.src != p.move.dst && pathOk p.move.path && p.move.path != [47] && inR p.move.gen 0 1000000 && inR p.move.done 0 80
  else decide (p.move = ⟨false, false, 0, 0, [], 0, 0⟩)
noncomputable def brOk (b : Branch) : Bool := inR b.mode 0 2 && fsOk b.fs
noncomputable def trees (bs : List Branch) : List (List Item) := bs.map fun b => treeItems b.fs
noncomputable def headOk (p : Pool) : Bool := inR p.policy 0 5 && inR p.minFree 0 36 && inR p.branches.length 1 4 && moveOk p
open Classical in
noncomputable def poolOk (p : Pool) : Bool := headOk p && p.branches.all brOk && decide ((trees p.branches).flatten.Pairwise agr)
end Go.Proofs.YtkphpalagceobaaGreat.Hz
/- A pool's move: both programs. -/
namespace Go.Proofs.YtkphpalagceobaaGreat.Hz
open Go.RowKit
set_option linter.unusedVariables false
set_option linter.unusedSimpArgs false
set_option maxRecDepth 20000

end Go.Proofs.YtkphpalagceobaaGreat.Hz
/- Do two trees agree? The reference. -/
namespace Go.Proofs.YtkphpalagceobaaGreat.Hz
open Go.RowKit
set_option linter.unusedVariables false
set_option linter.unusedSimpArgs false
set_option maxRecDepth 20000

end Go.Proofs.YtkphpalagceobaaGreat.Hz
/- PoolOk: the reference. -/
namespace Go.Proofs.YtkphpalagceobaaGreat.Hz
open Go.RowKit
set_option linter.unusedVariables false
set_option linter.unusedSimpArgs false
set_option maxRecDepth 20000

section
variable (x : Pool) (b : Option Addr) (F : List Nat) (w : Bool) (tBranch tNode : TypeId) (h : Hp) (k1 : slR w tBranch (branchE w tNode) h x.branches b F) (hl : x.nl ≤ 1048576)
include k1 hl
end
end Go.Proofs.YtkphpalagceobaaGreat.Hz
/- PoolOk: the program. -/
namespace Go.Proofs.YtkphpalagceobaaGreat.Hz
open Go.RowKit
set_option linter.unusedVariables false
set_option linter.unusedSimpArgs false
set_option maxRecDepth 20000

/-- All the items so far, in the program's box. -/
structure AI (h H : Hp) (B : Nat) (acc : List Item) (a : Option Addr) (G : List Nat) : Prop where
  ext : Ext h H
  lo : h.length ≤ B
  len : B < H.length
  ab : H[B]? = some ⟨true, true, 31, [.slice a acc.length acc.length]⟩
  sl : slR true 37 itemE H acc a G
  nd : G.Nodup
  nw : ∀ q ∈ G, B < q
section
variable {h H H2 : Hp} {B : Nat} {acc : List Item} {a : Option Addr} {G : List Nat}
theorem AI.grow (k : AI h H B acc a G) (x : Ext H H2) : AI h H2 B acc a G :=
  have hl := k.len
  ⟨k.ext.trans x, k.lo, by have := x.1; omega, by rw [x.2 _ (by omega)]; exact k.ab, k.sl.ext x, k.nd, k.nw⟩
theorem AI.to (k : AI h H B acc a G) (q : ∃ l, H2 = H ++ l) : AI h H2 B acc a G := by
  obtain ⟨l, rfl⟩ := q
  exact k.grow (Ext.push _ _)
theorem AI.cell (k : AI h H B acc a G) (l : Hp) : cellAt (H ++ l) B 0 = some (.slice a acc.length acc.length) := by
  rw [cellAt_ext (Ext.push H l) (by have := k.len; omega)]
  simp [cellAt, k.ab]
/-- One item more. -/
theorem AI.app (k : AI h H B acc a G) (x : Item) (hl : acc.length ≤ 100000000) {w : Bool} {t : TypeId} {ys : List Item} {b : Option Addr} {K : List Nat} (sy : slR w t itemE H ys b K) (hd : ∀ q ∈ K, q ∉ G) (hk : ∀ q ∈ K, B < q) :
    ∃ a' H' G', aappend Tryz.prog (H ++ [⟨true, true, 37, [.string (S x.path), .int .i64 x.kind, .string (S x.data), .int .i64 x.time]⟩]) 29 29 (.slice a acc.length acc.length) (.slice (some ⟨H.length, 0, none⟩) 1 1) = some (.slice a' (acc.length + 1) (acc.length + 1), H') ∧
      canSet H' B 0 1 = true ∧ AI h (setsAt H' B 0 [.slice a' (acc.length + 1) (acc.length + 1)]) B (acc ++ [x]) a' G' ∧ slR w t itemE (setsAt H' B 0 [.slice a' (acc.length + 1) (acc.length + 1)]) ys b K ∧ (∀ q ∈ K, q ∉ G') := by
  obtain ⟨a', H', G', e1, p⟩ := PutR.app k.sl k.nd x hl
  have hln := k.len
  have hlo := k.lo
  have g2 : H'[B]? = some ⟨true, true, 31, [.slice a acc.length acc.length]⟩ := by
    rw [p.kp.2 _ (by omega) (fun hm => by have := k.nw _ hm; omega)]; exact k.ab
  have hne : ∀ q, q ≠ B → (setsAt H' B 0 [.slice a' (acc.length + 1) (acc.length + 1)])[q]? = H'[q]? := fun q hq => by rw [setsAt_get, if_neg (fun e => hq e.symm)]
  have hG : ∀ q ∈ G', B < q := fun q hq => (p.sub q hq).elim (fun h1 => k.nw q h1) (fun h1 => by omega)
  refine ⟨a', H', G', e1, by simp [canSet, g2], ⟨⟨by rw [setsAt_len]; have := p.kp.1; have := k.ext.1; omega, fun q hq => ?_⟩, k.lo, by rw [setsAt_len]; have := p.kp.1; omega, ?_, p.sl.frame fun q hq => hne q (by have := hG q hq; omega), p.nd, hG⟩, (p.kp.sl sy hd).frame fun q hq => hne q (by have := hk q hq; omega), fun q hq hm => (p.sub q hm).elim (hd q hq) (fun h1 => by have := sy.lt q hq; omega)⟩
  · rw [hne q (by omega), p.kp.2 q (by have := k.ext.1; omega) (fun hm => by have := k.nw _ hm; omega)]
    exact k.ext.2 q hq
  · rw [setsAt_get, if_pos rfl, g2]
    simp [setL]
end
theorem Ext.out {h H : Hp} (x : Ext h H) (l : Hp) : ∃ t, H ++ l = h ++ t := by
  obtain ⟨u, rfl⟩ := x.pre
  exact ⟨u ++ l, by simp⟩
section
variable (x : Pool) (b : Option Addr) (F : List Nat) (w : Bool) (tBranch tNode : TypeId) (h : Hp) (k1 : slR w tBranch (branchE w tNode) h x.branches b F) (hl : x.nl ≤ 1048576)
include k1 hl
end
end Go.Proofs.YtkphpalagceobaaGreat.Hz
