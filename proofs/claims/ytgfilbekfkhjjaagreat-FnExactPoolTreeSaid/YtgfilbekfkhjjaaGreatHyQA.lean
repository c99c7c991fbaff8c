/- Trees and pools. No program in sight. -/
import Derived.Test.YtgfilbekfkhjjaaGreatHyHA
import Derived.Test.YtgfilbekfkhjjaaGreatHyGH
import Derived.Test.YtgfilbekfkhjjaaGreatHyGJ
namespace Go.Proofs.YtgfilbekfkhjjaaGreat.Hz
open Go.RowKit
set_option linter.unusedVariables false
set_option linter.unusedSimpArgs false

/-! ### Trees -/
theorem tree_sorted (f : Fs) : SortedP (treeItems f) := by
  unfold treeItems
  split
  · rename_i e1
    exact (foldPut_sorted (itemsOf f 4 0 []) [] (by simp [SortedP]) (by simpa using itemsOf_distinct 4 0 [] (vis_root e1) (by simp) (by simp))).1
  · simp [SortedP]
theorem tree_mem {f : Fs} (e1 : fsOk f = true) (x : Item) : x ∈ treeItems f ↔ x ∈ itemsOf f 4 0 [] := by
  unfold treeItems
  rw [if_pos e1]
  have := (foldPut_sorted (itemsOf f 4 0 []) [] (by simp [SortedP]) (by simpa using itemsOf_distinct 4 0 [] (vis_root e1) (by simp) (by simp))).2
  simpa using this.mem_iff
theorem tree_distinct (f : Fs) : (treeItems f).Pairwise fun a b => a.path ≠ b.path := by
  refine (tree_sorted f).imp fun {a b} h e => ?_
  rw [e, less_irr] at h
  cases h
theorem tree_path {f : Fs} {x : Item} (hx : x ∈ treeItems f) : ∃ ms : List Str, x.path = pathOf ms ∧ 1 ≤ ms.length ∧ ms.length ≤ 4 ∧ ms.all nameOk = true := by
  cases e1 : fsOk f
  · simp [treeItems, e1] at hx
  obtain ⟨ms, p1, p2, p3, p4, _⟩ := itemsOf_path 4 0 [] (vis_root e1) (by simp) (by simp) x ((tree_mem e1 x).1 hx)
  exact ⟨ms, by simpa using p1, p2, p3, p4⟩
theorem tree_pathOk {f : Fs} {x : Item} (hx : x ∈ treeItems f) : pathOk x.path = true ∧ x.path ≠ [47] := by
  obtain ⟨ms, p1, p2, p3, p4⟩ := tree_path hx
  obtain ⟨h1, h2⟩ := pathOf_names p3 p4
  rw [p1]
  refine ⟨h1, fun e => ?_⟩
  rw [e] at h2
  have : names [47] = [] := by simp [names]
  rw [this] at h2
  rw [← h2] at p2
  simp at p2
theorem find_none {xs : List Item} {p : Str} : (treeFind xs p).2 = false → ∀ x ∈ xs, x.path ≠ p := by
  induction xs with
  | nil => intro _ x hx; simp at hx
  | cons y xs ih =>
    intro h x hx
    unfold treeFind at h
    split at h
    · cases h
    · rename_i hy
      rcases List.mem_cons.1 hx with rfl | hx
      · exact hy
      · exact ih h x hx
theorem find_some {xs : List Item} {p : Str} : (treeFind xs p).2 = true → (treeFind xs p).1 ∈ xs ∧ (treeFind xs p).1.path = p := by
  induction xs with
  | nil => intro h; simp [treeFind] at h
  | cons y xs ih =>
    intro h
    unfold treeFind at h ⊢
    split at h
    · rename_i hy
      rw [if_pos hy]
      exact ⟨by simp, hy⟩
    · rename_i hy
      rw [if_neg hy]
      obtain ⟨h1, h2⟩ := ih h
      exact ⟨by simp [h1], h2⟩
theorem find_has {xs : List Item} {p : Str} {x : Item} (hx : x ∈ xs) (hp : x.path = p) : (treeFind xs p).2 = true := by
  cases h : (treeFind xs p).2
  · exact absurd hp (find_none h x hx)
  · rfl
theorem find_only {xs : List Item} (hd : xs.Pairwise fun a b => a.path ≠ b.path) {x : Item} (hx : x ∈ xs) : treeFind xs x.path = (x, true) := by
  have h1 := find_has hx rfl
  obtain ⟨h2, h3⟩ := find_some h1
  have : (treeFind xs x.path).1 = x := by
    by_cases e : (treeFind xs x.path).1 = x
    · exact e
    · exfalso
      have hd2 : xs.Pairwise fun a b => a.path ≠ b.path := hd
      rcases List.mem_iff_getElem.1 h2 with ⟨i, hi, ei⟩
      rcases List.mem_iff_getElem.1 hx with ⟨j, hj, ej⟩
      have hij : i ≠ j := fun h => e (by subst h; rw [← ei, ej])
      rcases Nat.lt_or_gt_of_ne hij with h | h
      · exact (List.pairwise_iff_getElem.1 hd2 i j hi hj h) (by rw [ei, ej, h3])
      · exact (List.pairwise_iff_getElem.1 hd2 j i hj hi h) (by rw [ei, ej, h3])
  exact Prod.ext this h1
theorem treeGet_find {xs : List Item} {p : Str} (h : p ≠ [47]) : treeGet xs p = treeFind xs p := by unfold treeGet; rw [if_neg h]

/-! ### Do trees agree? -/
def agr (x y : Item) : Prop := x.path = y.path → x.kind = y.kind
def clash (xs : List Item) (x : Item) : Bool := (treeGet xs x.path).2 && (treeGet xs x.path).1.kind != x.kind
def scanOk : List Item → List Item → Bool
  | _, [] => true
  | acc, x :: xs => !clash acc x && scanOk (acc ++ [x]) xs
theorem clash_not {acc : List Item} {x : Item} (hx : x.path ≠ [47]) (ha : acc.Pairwise agr) : clash acc x = false ↔ ∀ y ∈ acc, agr y x := by
  unfold clash
  rw [treeGet_find hx]
  cases h : (treeFind acc x.path).2
  · simp only [Bool.false_and, true_iff]
    exact fun y hy e => absurd e (find_none h y hy)
  · obtain ⟨h1, h2⟩ := find_some h
    simp only [Bool.true_and, bne_eq_false_iff_eq]
    constructor
    · intro hk y hy e
      have : (treeFind acc x.path).1.kind = y.kind := by
        rcases List.mem_iff_getElem.1 h1 with ⟨i, hi, ei⟩
        rcases List.mem_iff_getElem.1 hy with ⟨j, hj, ej⟩
        rcases Nat.lt_trichotomy i j with h | h | h
        · have := List.pairwise_iff_getElem.1 ha i j hi hj h
          rw [ei, ej] at this
          exact this (by rw [h2, e])
        · subst h; rw [← ei, ej]
        · have := List.pairwise_iff_getElem.1 ha j i hj hi h
          rw [ei, ej] at this
          exact (this (by rw [h2, e])).symm
      rw [← this, hk]
    · intro hk
      exact hk _ h1 h2
theorem scan_iff : ∀ (xs acc : List Item), (∀ x ∈ xs, x.path ≠ [47]) → acc.Pairwise agr → (scanOk acc xs = true ↔ (acc ++ xs).Pairwise agr)
  | [], acc, _, ha => by simp [scanOk, ha]
  | x :: xs, acc, hr, ha => by
    have hx := hr x (by simp)
    have hc := clash_not hx ha
    unfold scanOk
    cases hcl : clash acc x
    · have h1 := hc.1 hcl
      have ha' : (acc ++ [x]).Pairwise agr := List.pairwise_append.2 ⟨ha, by simp, fun y hy z hz => by
        rw [List.mem_singleton.1 hz]; exact h1 y hy⟩
      have ih := scan_iff xs (acc ++ [x]) (fun y hy => hr y (by simp [hy])) ha'
      simp only [Bool.not_false, Bool.true_and, ih, List.append_assoc, List.singleton_append]
    · simp only [Bool.not_true, Bool.false_and, Bool.false_eq_true, false_iff]
      intro hp
      have : clash acc x = false := hc.2 fun y hy => (List.pairwise_append.1 hp).2.2 y hy x (by simp)
      rw [hcl] at this
      cases this
/-! ### Pools -/
def moveOk (p : Pool) : Bool :=
  if p.move.on then inR p.move.src 0 (p.branches.length - 1) && inR p.move.dst 0 (p.branches.length - 1) && p.move.src != p.move.dst && pathOk p.move.path && p.move.path != [47] && inR p.move.gen 0 1000000 && inR p.move.done 0 80
  else decide (p.move = ⟨false, false, 0, 0, [], 0, 0⟩)
noncomputable def brOk (b : Branch) : Bool := inR b.mode 0 2 && fsOk b.fs
noncomputable def trees (bs : List Branch) : List (List Item) := bs.map fun b => treeItems b.fs
noncomputable def headOk (p : Pool) : Bool := inR p.policy 0 5 && inR p.minFree 0 36 && inR p.branches.length 1 4 && moveOk p
open Classical in
noncomputable def poolOk (p : Pool) : Bool := headOk p && p.branches.all brOk && decide ((trees p.branches).flatten.Pairwise agr)
noncomputable def brScan : List Item → List Branch → Bool
  | _, [] => true
  | acc, b :: bs => brOk b && scanOk acc (treeItems b.fs) && brScan (acc ++ treeItems b.fs) bs
theorem tree_agr (f : Fs) : (treeItems f).Pairwise agr := (tree_distinct f).imp fun h e => absurd e h
theorem brScan_iff : ∀ (bs : List Branch) (acc : List Item), acc.Pairwise agr → (brScan acc bs = true ↔ bs.all brOk = true ∧ (acc ++ (trees bs).flatten).Pairwise agr)
  | [], acc, ha => by simp [brScan, trees, ha]
  | b :: bs, acc, ha => by
    have h1 := scan_iff (treeItems b.fs) acc (fun x hx => (tree_pathOk hx).2) ha
    unfold brScan
    simp only [Bool.and_eq_true, List.all_cons, trees, List.map_cons, List.flatten_cons]
    rw [← List.append_assoc]
    constructor
    · rintro ⟨⟨h2, h3⟩, h4⟩
      obtain ⟨g1, g2⟩ := (brScan_iff bs _ (h1.1 h3)).1 h4
      exact ⟨⟨h2, g1⟩, g2⟩
    · rintro ⟨⟨h2, g1⟩, g2⟩
      have ha2 := (List.pairwise_append.1 g2).1
      exact ⟨⟨h2, h1.2 ha2⟩, (brScan_iff bs _ ha2).2 ⟨g1, g2⟩⟩
theorem poolOk_scan (p : Pool) : poolOk p = (headOk p && brScan [] p.branches) := by
  have h := brScan_iff p.branches [] List.Pairwise.nil
  unfold poolOk
  rw [Bool.and_assoc]
  congr 1
  rw [Bool.eq_iff_iff, h]
  simp
/-- Do the items of a tree agree with another's? -/
def agreeB (a b : List Item) : Bool := a.all fun x => !clash b x
theorem agree_iff {a b : List Item} (ha : ∀ x ∈ a, x.path ≠ [47]) (hb : b.Pairwise agr) : agreeB a b = true ↔ ∀ y ∈ b, ∀ x ∈ a, agr y x := by
  unfold agreeB
  rw [List.all_eq_true]
  constructor
  · intro h y hy x hx
    have := h x hx
    simp only [Bool.not_eq_true'] at this
    exact (clash_not (ha x hx) hb).1 this y hy
  · intro h x hx
    simp only [Bool.not_eq_true']
    exact (clash_not (ha x hx) hb).2 fun y hy => h y hy x hx
theorem pairs_agree (bs : List Branch) : (trees bs).flatten.Pairwise agr ↔ ∀ (k i : Nat) (hk : k < i) (hi : i < bs.length), agreeB (treeItems bs[i].fs) (treeItems bs[k].fs) = true := by
  rw [List.pairwise_flatten]
  have h1 : ∀ l ∈ trees bs, l.Pairwise agr := fun l hl => by
    obtain ⟨b, _, rfl⟩ := List.mem_map.1 hl
    exact tree_agr b.fs
  simp only [and_iff_right h1]
  unfold trees
  rw [List.pairwise_map, List.pairwise_iff_getElem]
  constructor
  · intro h k i hk hi
    exact (agree_iff (fun x hx => (tree_pathOk hx).2) (tree_agr _)).2 (h k i (by omega) hi hk)
  · intro h k i hk hi hki
    exact (agree_iff (fun x hx => (tree_pathOk hx).2) (tree_agr _)).1 (h k i hki hi)
end Go.Proofs.YtgfilbekfkhjjaaGreat.Hz
