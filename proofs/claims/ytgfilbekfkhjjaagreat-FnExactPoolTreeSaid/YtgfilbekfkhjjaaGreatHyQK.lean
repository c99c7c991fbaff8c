/- The tree of a pool: the program's items are the reference's. No program in sight. -/
import Derived.Test.YtgfilbekfkhjjaaGreatHyQJ
import Derived.Test.YtgfilbekfkhjjaaGreatHyHA
namespace Go.Proofs.YtgfilbekfkhjjaaGreat.Hz
open Go.RowKit
set_option linter.unusedVariables false
set_option linter.unusedSimpArgs false

noncomputable def tre (bs : List Branch) (i : Nat) : List Item := match bs[i]? with | some b => treeItems b.fs | none => []
theorem tre_get {bs : List Branch} {i : Nat} (hi : i < bs.length) : tre bs i = treeItems bs[i].fs := by simp [tre, hi]
def tagged (i : Nat) (t : List Item) : List (Nat × Item) := t.map fun x => (i, x)
noncomputable def allQ (bs : List Branch) (k : Nat) : List (Nat × Item) := ((List.range k).map fun i => tagged i (tre bs i)).flatten
theorem allQ_succ (bs : List Branch) (k : Nat) : allQ bs (k + 1) = allQ bs k ++ tagged k (tre bs k) := by
  unfold allQ
  rw [List.range_succ, List.map_append, List.flatten_append]
  simp
theorem allQ_mem {bs : List Branch} {k : Nat} {z : Nat × Item} : z ∈ allQ bs k ↔ z.1 < k ∧ z.2 ∈ tre bs z.1 := by
  obtain ⟨i, x⟩ := z
  unfold allQ tagged
  simp only [List.mem_flatten, List.mem_map, List.mem_range]
  constructor
  · rintro ⟨l, ⟨m, hm, rfl⟩, hx⟩
    simp only [List.mem_map, Prod.mk.injEq] at hx
    obtain ⟨y, hy, rfl, rfl⟩ := hx
    exact ⟨hm, hy⟩
  · rintro ⟨h1, h2⟩
    exact ⟨_, ⟨i, h1, rfl⟩, List.mem_map.2 ⟨x, h2, rfl⟩⟩
noncomputable def gath (bs : List Branch) (P : List (Nat × Item)) : List (Nat × Item) := P.foldl (fun L z => insQ bs z L) []
theorem gath_app (bs : List Branch) (P Q : List (Nat × Item)) : gath bs (P ++ Q) = Q.foldl (fun L z => insQ bs z L) (gath bs P) := by simp [gath]
def OrdQ (P : List (Nat × Item)) : Prop := P.Pairwise fun a b => a.1 ≤ b.1 ∧ (a.1 = b.1 → a.2.path ≠ b.2.path)
theorem inv_fold (bs : List Branch) : ∀ (Q P L : List (Nat × Item)), InvQ bs P L → OrdQ (P ++ Q) → InvQ bs (P ++ Q) (Q.foldl (fun L z => insQ bs z L) L)
  | [], P, L, k, _ => by simpa using k
  | z :: Q, P, L, k, o => by
    have e : P ++ z :: Q = (P ++ [z]) ++ Q := by simp
    rw [e] at o ⊢
    exact inv_fold bs Q (P ++ [z]) (insQ bs z L) (k.step z fun y hy => (List.pairwise_append.1 (List.pairwise_append.1 o).1).2.2 y hy z (by simp)) o
theorem tre_dis (bs : List Branch) (i : Nat) : (tre bs i).Pairwise fun a b => a.path ≠ b.path := by
  unfold tre
  split
  · exact tree_distinct _
  · exact List.Pairwise.nil
theorem allQ_ord (bs : List Branch) : ∀ k, OrdQ (allQ bs k)
  | 0 => by simp [allQ, OrdQ]
  | k + 1 => by
    rw [allQ_succ]
    unfold OrdQ
    rw [List.pairwise_append]
    refine ⟨allQ_ord bs k, ?_, fun a ha b hb => ?_⟩
    · unfold tagged
      rw [List.pairwise_map]
      exact (tre_dis bs k).imp fun h => ⟨Nat.le_refl _, fun _ => h⟩
    · have h1 := (allQ_mem.1 ha).1
      unfold tagged at hb
      obtain ⟨y, _, rfl⟩ := List.mem_map.1 hb
      exact ⟨by simp only; omega, fun e => by simp only at e; omega⟩
theorem gath_inv (bs : List Branch) (k : Nat) : InvQ bs (allQ bs k) (gath bs (allQ bs k)) := by
  have := inv_fold bs (allQ bs k) [] [] ⟨List.Pairwise.nil, by simp, by simp⟩ (by simpa using allQ_ord bs k)
  simpa [gath] using this
/-! ### The reference's -/
noncomputable def kept (bs : List Branch) (i : Nat) (t : List Item) : List Item := t.filter fun x => decide (win bs x.path = i)
noncomputable def specTo (bs : List Branch) (k : Nat) : List Item := ((List.range k).map fun i => kept bs i (tre bs i)).flatten
theorem specTo_succ (bs : List Branch) (k : Nat) : specTo bs (k + 1) = specTo bs k ++ kept bs k (tre bs k) := by
  unfold specTo
  rw [List.range_succ, List.map_append, List.flatten_append]
  simp
theorem specTo_mem {bs : List Branch} {k : Nat} {x : Item} : x ∈ specTo bs k ↔ ∃ i, i < k ∧ x ∈ tre bs i ∧ win bs x.path = i := by
  unfold specTo kept
  simp only [List.mem_flatten, List.mem_map, List.mem_range]
  constructor
  · rintro ⟨l, ⟨i, hi, rfl⟩, hx⟩
    simp only [List.mem_filter, decide_eq_true_eq] at hx
    exact ⟨i, hi, hx.1, hx.2⟩
  · rintro ⟨i, hi, h1, h2⟩
    exact ⟨_, ⟨i, hi, rfl⟩, by simp [h1, h2]⟩
theorem specTo_dis (bs : List Branch) : ∀ k, (specTo bs k).Pairwise fun a b => a.path ≠ b.path
  | 0 => by simp [specTo]
  | k + 1 => by
    rw [specTo_succ, List.pairwise_append]
    refine ⟨specTo_dis bs k, List.Pairwise.filter _ (tre_dis bs k), fun a ha b hb e => ?_⟩
    obtain ⟨i, hi, _, h1⟩ := specTo_mem.1 ha
    unfold kept at hb
    simp only [List.mem_filter, decide_eq_true_eq] at hb
    rw [e, hb.2] at h1
    omega
/-! ### Both are one -/
theorem gath_wins {bs : List Branch} {y : Nat × Item} (hy : y ∈ gath bs (allQ bs bs.length)) : win bs y.2.path = y.1 := by
  have k := gath_inv bs bs.length
  rw [win_iff]
  obtain ⟨h1, h2⟩ := allQ_mem.1 (k.sub y hy)
  rw [tre_get h1] at h2
  refine ⟨holdTo_iff.2 ⟨h1, by rw [walkI_get h1]; exact (tree_walk h2).1⟩, fun m hm => ?_⟩
  obtain ⟨m1, m2⟩ := holdTo_iff.1 hm
  rw [walkI_get m1] at m2
  obtain ⟨ms, p1, p2, p3, p4⟩ := tree_path h2
  rw [p1] at m2
  have hz := walk_tree p2 p3 p4 m2
  rw [← p1] at hz
  obtain ⟨y', hy', e1, e2⟩ := k.cov (m, itemN bs[m].fs y.2.path (walk bs[m].fs y.2.path)) (allQ_mem.2 ⟨m1, by rw [tre_get m1]; exact hz⟩)
  have : y' = y := dis_eq k.dis hy' hy e1
  subst this
  exact e2
theorem gath_spec (bs : List Branch) : ((gath bs (allQ bs bs.length)).map Prod.snd).Perm (specTo bs bs.length) := by
  have k := gath_inv bs bs.length
  have d1 : ((gath bs (allQ bs bs.length)).map Prod.snd).Pairwise fun a b => a.path ≠ b.path := by
    rw [List.pairwise_map]; exact k.dis
  have d2 := specTo_dis bs bs.length
  have n1 : ((gath bs (allQ bs bs.length)).map Prod.snd).Nodup := d1.imp fun h e => h (by rw [e])
  have n2 : (specTo bs bs.length).Nodup := d2.imp fun h e => h (by rw [e])
  rw [List.perm_ext_iff_of_nodup n1 n2]
  intro x
  rw [specTo_mem, List.mem_map]
  constructor
  · rintro ⟨y, hy, rfl⟩
    obtain ⟨h1, h2⟩ := allQ_mem.1 (k.sub y hy)
    exact ⟨y.1, h1, h2, gath_wins hy⟩
  · rintro ⟨i, hi, h1, h2⟩
    obtain ⟨y, hy, e1, -⟩ := k.cov (i, x) (allQ_mem.2 ⟨hi, h1⟩)
    have hw := gath_wins hy
    simp only at e1
    rw [e1, h2] at hw
    have e : y.1 = i := by omega
    have h3 := (allQ_mem.1 (k.sub y hy)).2
    rw [e] at h3
    rw [tre_get hi] at h1 h3
    have f1 := find_only (tree_distinct bs[i].fs) h1
    have f2 := find_only (tree_distinct bs[i].fs) h3
    rw [e1, f1] at f2
    exact ⟨y, hy, (congrArg Prod.fst f2).symm⟩
theorem ord_sorted {ys : List Item} (ho : ys.Pairwise fun a b => Op.bytesLess b.path a.path = false) (hd : ys.Pairwise fun a b => a.path ≠ b.path) : SortedP ys := by
  refine List.Pairwise.imp₂ ?_ ho hd
  intro a b h1 h2
  have ht := less_total a.path b.path
  rw [h1] at ht
  cases hl : Op.bytesLess a.path b.path
  · rw [hl] at ht
    simp at ht
    exact absurd ht.symm h2
  · rfl
noncomputable def poolTree (x : Pool) : List Item := if poolOk x then (specTo x.branches x.branches.length).foldl putIt [] else []
theorem poolTree_of {x : Pool} (ok : poolOk x = true) {ys : List Item} (hp : ys.Perm ((gath x.branches (allQ x.branches x.branches.length)).map Prod.snd)) (ho : ys.Pairwise fun a b => Op.bytesLess b.path a.path = false) : ys = poolTree x := by
  have d2 := specTo_dis x.branches x.branches.length
  have hp2 := hp.trans (gath_spec x.branches)
  unfold poolTree
  rw [if_pos ok]
  obtain ⟨f1, f2⟩ := foldPut_sorted (specTo x.branches x.branches.length) [] List.Pairwise.nil (by simpa using d2)
  have d3 : ys.Pairwise fun a b => a.path ≠ b.path := by
    have := (hp2.pairwise_iff (R := fun a b : Item => a.path ≠ b.path) (fun {a b} h e => h e.symm)).2 d2
    exact this
  refine sorted_eq ?_ f1 (hp2.trans (by simpa using f2.symm))
  exact ord_sorted ho d3
theorem poolTree_len {x : Pool} (hn : x.branches.length ≤ 4) : (poolTree x).length ≤ 29520 := by
  unfold poolTree
  split
  · have h1 := foldPut_len (specTo x.branches x.branches.length) []
    have h2 : ∀ k, (specTo x.branches k).length ≤ 7380 * k := fun k => by
      induction k with
      | zero => simp [specTo]
      | succ k ih =>
        rw [specTo_succ, List.length_append]
        have h3 : (kept x.branches k (tre x.branches k)).length ≤ (tre x.branches k).length := List.length_filter_le _ _
        have h4 : (tre x.branches k).length ≤ 7380 := by
          unfold tre
          split
          · exact treeItems_le _
          · simp
        omega
    have := h2 x.branches.length
    simp only [List.length_nil] at h1
    omega
  · simp
end Go.Proofs.YtgfilbekfkhjjaaGreat.Hz
