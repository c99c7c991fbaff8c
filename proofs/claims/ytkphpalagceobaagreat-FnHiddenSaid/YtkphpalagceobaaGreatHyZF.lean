/- A leaf dropped, and a node set: what the trees are afterwards. No program in sight. -/
import Derived.Test.YtkphpalagceobaaGreatHyHC
import Derived.Test.YtkphpalagceobaaGreatHyGY
import Derived.Test.YtkphpalagceobaaGreatHyGO
import Derived.Test.YtkphpalagceobaaGreatHyGN
namespace Go.Proofs.YtkphpalagceobaaGreat.Hz
open Go.RowKit
set_option linter.unusedVariables false
set_option linter.unusedSimpArgs false
set_option maxRecDepth 20000
theorem dirDrop_iff {es : List Ent} (hn : es.Pairwise fun a b => a.name ≠ b.name) (nm : Str) (e : Ent) : e ∈ (dirDrop es nm).1 ↔ e ∈ es ∧ e.name ≠ nm := by
  rcases findI_spec (fun e => e.name == nm) es 0 with ⟨h1, h2⟩ | ⟨j, hj, h1, h2, -⟩
  · have hd : (dirDrop es nm).1 = es := by simp [dirDrop, h1, dropAt]
    rw [hd]
    exact ⟨fun h => ⟨h, by simpa using h2 e h⟩, fun h => h.1⟩
  · have hz : 0 + j = j := by omega
    rw [hz] at h1
    have hd : (dirDrop es nm).1 = es.take j ++ es.drop (j + 1) := by
      have : ¬ ((j : Int) < 0) := by omega
      simp [dirDrop, h1, dropAt, this]
    have hs : es = es.take j ++ es[j] :: es.drop (j + 1) := by
      rw [← List.drop_eq_getElem_cons hj, List.take_append_drop]
    have hjn : es[j].name = nm := by simpa using h2
    have hp := hn
    rw [hs, List.pairwise_append, List.pairwise_cons] at hp
    obtain ⟨-, ⟨p2, -⟩, p3⟩ := hp
    have hm : e ∈ es ↔ e ∈ es.take j ∨ e = es[j] ∨ e ∈ es.drop (j + 1) := by
      have : e ∈ es ↔ e ∈ es.take j ++ es[j] :: es.drop (j + 1) := by rw [← hs]
      rw [this, List.mem_append, List.mem_cons]
    rw [hd, List.mem_append, hm]
    constructor
    · rintro (h | h)
      · exact ⟨.inl h, fun e0 => p3 e h es[j] (List.mem_cons_self) (by rw [e0, hjn])⟩
      · exact ⟨.inr (.inr h), fun e0 => p2 e h (by rw [e0, hjn])⟩
    · rintro ⟨h | rfl | h, h4⟩
      · exact .inl h
      · exact absurd hjn h4
      · exact .inr h
theorem drop_leaf {f : Fs} {dep : Int → Nat} (C : Cert f dep) {d i : Nat} {e : Ent} (he : Edge f (d : Int) e) (hei : e.node = (i : Int)) (hk : (nodeAtI f (i : Int)).kind ≠ 2) :
    (unlinkS (nodeDrop f (i : Int)).1 (d : Int) e.name).2 = true ∧ Cert (unlinkS (nodeDrop f (i : Int)).1 (d : Int) e.name).1 dep ∧
      (∀ ns, follow (unlinkS (nodeDrop f (i : Int)).1 (d : Int) e.name).1 ns 0 = if follow f ns 0 = (i : Int) then -1 else follow f ns 0) ∧
      (∀ j : Int, 0 ≤ j → j ≠ i → ∀ p, itemN (unlinkS (nodeDrop f (i : Int)).1 (d : Int) e.name).1 p j = itemN f p j) ∧
      ∃ data, data = dirText (dirDrop (dirI f (d : Int)).1 e.name).1 ∧ data.length ≤ (contentI f (d : Int)).length ∧ Wrote (nodeDrop f (i : Int)).1 d data ∧ (unlinkS (nodeDrop f (i : Int)).1 (d : Int) e.name).1 = written (nodeDrop f (i : Int)).1 (d : Int) data := by
  have hlo := lost_lt (C.lo _ _ he)
  have hno := mem_node he.2.2.2
  have hi : i < f.nodes.length := by omega
  have hi0 : i ≠ 0 := by omega
  have hd : d < f.nodes.length := by have := he.2.1; omega
  have hik : (nodeAtI f (i : Int)).kind ≠ 0 := by rw [← hei]; exact hlo.2
  have hdi : (d : Int) ≠ i := fun h => by rw [← h] at hk; exact hk he.2.2.1
  obtain ⟨-, U⟩ := upd_drop C.sh hi hi0 hik
  have hv := U.eq (d : Int) (by omega)
  rw [if_neg hdi] at hv
  have hdir := dirI_view hv
  have hkd : (nodeAtI (nodeDrop f (i : Int)).1 (d : Int)).kind = 2 := by rw [kind_view hv]; exact he.2.2.1
  have hrd : (dirI (nodeDrop f (i : Int)).1 (d : Int)).2 = true := by rw [hdir]; exact mem_read he.2.2.2
  obtain ⟨data, W, hdata, hu⟩ := unlink_wrote U.sh (by rw [U.len]; exact hd) hkd hrd e.name
  rw [hdir] at hdata
  have hok := drop_ok (mem_ok he.2.2.2) e.name
  have U2 := upd_written U.sh W
  rw [hu]
  simp only
  have hlen : (written (nodeDrop f (i : Int)).1 (d : Int) data).nodes.length = f.nodes.length := by rw [U2.len, U.len]
  have hview : ∀ j : Int, 0 ≤ j → view (written (nodeDrop f (i : Int)).1 (d : Int) data) j = if j = (d : Int) then ⟨(nodeAtI f (d : Int)).kind, (nodeAtI f (d : Int)).gen, (nodeAtI f (d : Int)).time, data⟩ else if j = (i : Int) then ⟨0, 0, 0, []⟩ else view f j := fun j hj => by
    rw [U2.eq j hj]
    split
    · simp only [view, Nd.mk.injEq] at hv
      rw [hv.1, hv.2.1, hv.2.2.1]
    · exact U.eq j hj
  generalize hg : written (nodeDrop f (i : Int)).1 (d : Int) data = g at *
  have hkg : ∀ j : Int, 0 ≤ j → (nodeAtI g j).kind = if j = (i : Int) then 0 else (nodeAtI f j).kind := fun j hj => by
    have h := hview j hj
    by_cases hjd : j = (d : Int)
    · rw [if_pos hjd] at h
      subst hjd
      rw [if_neg hdi]
      simp only [view, Nd.mk.injEq] at h
      exact h.1
    · rw [if_neg hjd] at h
      by_cases hji : j = (i : Int)
      · rw [if_pos hji] at h
        rw [if_pos hji]
        simp only [view, Nd.mk.injEq] at h
        exact h.1
      · rw [if_neg hji] at h
        rw [if_neg hji]
        exact kind_view h
  have hdd : dirI g (d : Int) = ((dirDrop (dirI f (d : Int)).1 e.name).1, true) := by
    have h := hview (d : Int) (by omega)
    rw [if_pos rfl] at h
    simp only [view, Nd.mk.injEq] at h
    unfold dirI
    rw [h.2.2.2, hdata, dirOf_text hok.1]
    rfl
  have hdo : ∀ j : Int, 0 ≤ j → j ≠ d → j ≠ i → dirI g j = dirI f j := fun j hj h1 h2 => by
    have h := hview j hj
    rw [if_neg h1, if_neg h2] at h
    exact dirI_view h
  have hE : ∀ j e', Edge g j e' ↔ Edge f j e' ∧ e'.node ≠ (i : Int) := fun j e' => by
    by_cases h1 : j = d
    · subst h1
      have hnn := ok_ord (mem_ok he.2.2.2)
      have key : e' ∈ (dirI f (d : Int)).1 → (e'.name ≠ e.name ↔ e'.node ≠ (i : Int)) := fun hm => by
        constructor
        · intro h1 h2
          obtain ⟨e1, e2⟩ : e'.node = e.node ∧ True := ⟨by rw [h2, hei], trivial⟩
          have : e' = e := pw_inj (g := Ent.node) (hnn.imp fun h => h.2) hm he.2.2.2 e1
          exact h1 (by rw [this])
        · intro h1 h2
          have h5 := dirFind_name (mem_names he.2.2.2) e' hm
          have h6 := dirFind_name (mem_names he.2.2.2) e he.2.2.2
          rw [h2, h6, hei] at h5
          exact h1 h5.symm
      unfold Edge
      rw [hlen, hkg _ (by omega), if_neg hdi, hdd]
      simp only [dirDrop_iff (mem_names he.2.2.2)]
      constructor
      · rintro ⟨a, b, c, x, y⟩
        exact ⟨⟨a, b, c, x⟩, (key x).1 y⟩
      · rintro ⟨⟨a, b, c, x⟩, y⟩
        exact ⟨a, b, c, x, (key x).2 y⟩
    · by_cases h2 : j = i
      · subst h2
        constructor
        · rintro ⟨a, -, c, -⟩
          rw [hkg _ a, if_pos rfl] at c; cases c
        · rintro ⟨⟨-, -, c, -⟩, -⟩
          exact absurd c hk
      · unfold Edge
        rw [hlen]
        constructor
        · rintro ⟨a, b, c, x⟩
          rw [hkg j a, if_neg h2] at c
          rw [hdo j a h1 h2] at x
          exact ⟨⟨a, b, c, x⟩, fun h => h1 (C.uni j d e' e ⟨a, b, c, x⟩ he (by rw [h, hei]))⟩
        · rintro ⟨⟨a, b, c, x⟩, -⟩
          exact ⟨a, b, by rw [hkg j a, if_neg h2]; exact c, by rw [hdo j a h1 h2]; exact x⟩
  obtain ⟨D, hf⟩ := cert_leaf C (i := (i : Int)) (by omega) U2.sh hlen hkg (fun j hj hji _ hr => by
    by_cases h1 : j = d
    · rw [h1, hdd]
    · rw [hdo j hj h1 hji]; exact hr) hE
  refine ⟨trivial, D, hf, fun j hj hji p => ?_, data, hdata, ?_, W, hg.symm⟩
  · have h := hview j hj
    by_cases hjd : j = (d : Int)
    · rw [if_pos hjd] at h
      subst hjd
      simp only [view, Nd.mk.injEq] at h
      unfold itemN
      rw [h.1, he.2.2.1]
      rfl
    · rw [if_neg hjd, if_neg hji] at h
      exact itemN_view h p
  · rw [hdata]
    have := (dirI_two (mem_read he.2.2.2)).2
    exact Nat.le_trans hok.2 this
theorem tree_nodup (f : Fs) : (treeItems f).Nodup := (tree_distinct f).imp fun h e => h (by rw [e])
theorem perm_of_iff {α : Type} {a b : List α} (h1 : a.Nodup) (h2 : b.Nodup) (h : ∀ x, x ∈ a ↔ x ∈ b) : a.Perm b := (List.perm_ext_iff_of_nodup h1 h2).2 h
theorem tree_eq {f g : Fs} (h : ∀ x, x ∈ treeItems f ↔ x ∈ treeItems g) : treeItems f = treeItems g := sorted_eq (tree_sorted f) (tree_sorted g) (perm_of_iff (tree_nodup f) (tree_nodup g) h)
end Go.Proofs.YtkphpalagceobaaGreat.Hz
