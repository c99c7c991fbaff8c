/- A leaf dropped, and a node set: what the trees are afterwards. No program in sight. -/
import Derived.Test.YtkphpalagceobaaGreatHyHC
import Derived.Test.YtkphpalagceobaaGreatHyGY
import Derived.Test.YtkphpalagceobaaGreatHyGO
import Derived.Test.YtkphpalagceobaaGreatHyGN
namespace Go.Proofs.YtkphpalagceobaaGreat.Hz
open Go.RowKit
set_option linter.unusedVariables false
set_option linter.unusedSimpArgs false
set_option maxRecDepth 20000

theorem dirDrop_iff {es : List Ent} (hn : es.Pairwise fun a b => a.name ≠ b.name) (nm : Str) (e : Ent) : e ∈ (dirDrop es nm).1 ↔ e ∈ es ∧ e.name ≠ nm := by
  rcases findI_spec (fun e => e.name == nm) es 0 with ⟨h1, h2⟩ | ⟨j, hj, h1, h2, -⟩
  · have hd : (dirDrop es nm).1 = es := by simp [dirDrop, h1, dropAt]
    rw [hd]
    exact ⟨fun h => ⟨h, by simpa using h2 e h⟩, fun h => h.1⟩
  · have hz : 0 + j = j := by omega
    rw [hz] at h1
    have hd : (dirDrop es nm).1 = es.take j ++ es.drop (j + 1) := by
      have : ¬ ((j : Int) < 0) := by omega
      simp [dirDrop, h1, dropAt, this]
    have hs : es = es.take j ++ es[j] :: es.drop (j + 1) := by
      rw [← List.drop_eq_getElem_cons hj, List.take_append_drop]
    have hjn : es[j].name = nm := by simpa using h2
    have hp := hn
    rw [hs, List.pairwise_append, List.pairwise_cons] at hp
    obtain ⟨-, ⟨p2, -⟩, p3⟩ := hp
    have hm : e ∈ es ↔ e ∈ es.take j ∨ e = es[j] ∨ e ∈ es.drop (j + 1) := by
      have : e ∈ es ↔ e ∈ es.take j ++ es[j] :: es.drop (j + 1) := by rw [← hs]
      rw [this, List.mem_append, List.mem_cons]
    rw [hd, List.mem_append, hm]
    constructor
    · rintro (h | h)
      · exact ⟨.inl h, fun e0 => p3 e h es[j] (List.mem_cons_self) (by rw [e0, hjn])⟩
      · exact ⟨.inr (.inr h), fun e0 => p2 e h (by rw [e0, hjn])⟩
    · rintro ⟨h | rfl | h, h4⟩
      · exact .inl h
      · exact absurd hjn h4
      · exact .inr h
/-- A node that is no directory is taken out of its directory. -/
theorem drop_leaf {f : Fs} {dep : Int → Nat} (C : Cert f dep) {d i : Nat} {e : Ent} (he : Edge f (d : Int) e) (hei : e.node = (i : Int)) (hk : (nodeAtI f (i : Int)).kind ≠ 2) :
    (unlinkS (nodeDrop f (i : Int)).1 (d : Int) e.name).2 = true ∧ Cert (unlinkS (nodeDrop f (i : Int)).1 (d : Int) e.name).1 dep ∧
      (∀ ns, follow (unlinkS (nodeDrop f (i : Int)).1 (d : Int) e.name).1 ns 0 = if follow f ns 0 = (i : Int) then -1 else follow f ns 0) ∧
      (∀ j : Int, 0 ≤ j → j ≠ i → ∀ p, itemN (unlinkS (nodeDrop f (i : Int)).1 (d : Int) e.name).1 p j = itemN f p j) ∧
      ∃ data, data.length ≤ (contentI f (d : Int)).length ∧ Wrote (nodeDrop f (i : Int)).1 d data ∧ (unlinkS (nodeDrop f (i : Int)).1 (d : Int) e.name).1 = written (nodeDrop f (i : Int)).1 (d : Int) data := by
  have hlo := lost_lt (C.lo _ _ he)
  have hno := mem_node he.2.2.2
  have hi : i < f.nodes.length := by omega
  have hi0 : i ≠ 0 := by omega
  have hd : d < f.nodes.length := by have := he.2.1; omega
  have hik : (nodeAtI f (i : Int)).kind ≠ 0 := by rw [← hei]; exact hlo.2
  have hdi : (d : Int) ≠ i := fun h => by rw [← h] at hk; exact hk he.2.2.1
  obtain ⟨-, U⟩ := upd_drop C.sh hi hi0 hik
  have hv := U.eq (d : Int) (by omega)
  rw [if_neg hdi] at hv
  have hdir := dirI_view hv
  have hkd : (nodeAtI (nodeDrop f (i : Int)).1 (d : Int)).kind = 2 := by rw [kind_view hv]; exact he.2.2.1
  have hrd : (dirI (nodeDrop f (i : Int)).1 (d : Int)).2 = true := by rw [hdir]; exact mem_read he.2.2.2
  obtain ⟨data, W, hdata, hu⟩ := unlink_wrote U.sh (by rw [U.len]; exact hd) hkd hrd e.name
  rw [hdir] at hdata
  have hok := drop_ok (mem_ok he.2.2.2) e.name
  have U2 := upd_written U.sh W
  rw [hu]
  simp only
  have hlen : (written (nodeDrop f (i : Int)).1 (d : Int) data).nodes.length = f.nodes.length := by rw [U2.len, U.len]
  have hview : ∀ j : Int, 0 ≤ j → view (written (nodeDrop f (i : Int)).1 (d : Int) data) j = if j = (d : Int) then ⟨(nodeAtI f (d : Int)).kind, (nodeAtI f (d : Int)).gen, (nodeAtI f (d : Int)).time, data⟩ else if j = (i : Int) then ⟨0, 0, 0, []⟩ else view f j := fun j hj => by
    rw [U2.eq j hj]
    split
    · simp only [view, Nd.mk.injEq] at hv
      rw [hv.1, hv.2.1, hv.2.2.1]
    · exact U.eq j hj
  generalize hg : written (nodeDrop f (i : Int)).1 (d : Int) data = g at *
  have hkg : ∀ j : Int, 0 ≤ j → (nodeAtI g j).kind = if j = (i : Int) then 0 else (nodeAtI f j).kind := fun j hj => by
    have h := hview j hj
    by_cases hjd : j = (d : Int)
    · rw [if_pos hjd] at h
      subst hjd
      rw [if_neg hdi]
      simp only [view, Nd.mk.injEq] at h
      exact h.1
    · rw [if_neg hjd] at h
      by_cases hji : j = (i : Int)
      · rw [if_pos hji] at h
        rw [if_pos hji]
        simp only [view, Nd.mk.injEq] at h
        exact h.1
      · rw [if_neg hji] at h
        rw [if_neg hji]
        exact kind_view h
  have hdd : dirI g (d : Int) = ((dirDrop (dirI f (d : Int)).1 e.name).1, true) := by
    have h := hview (d : Int) (by omega)
    rw [if_pos rfl] at h
    simp only [view, Nd.mk.injEq] at h
    unfold dirI
    rw [h.2.2.2, hdata, dirOf_text hok.1]
    rfl
  have hdo : ∀ j : Int, 0 ≤ j → j ≠ d → j ≠ i → dirI g j = dirI f j := fun j hj h1 h2 => by
    have h := hview j hj
    rw [if_neg h1, if_neg h2] at h
    exact dirI_view h
  have hE : ∀ j e', Edge g j e' ↔ Edge f j e' ∧ e'.node ≠ (i : Int) := fun j e' => by
    by_cases h1 : j = d
    · subst h1
      have hnn := ok_ord (mem_ok he.2.2.2)
      have key : e' ∈ (dirI f (d : Int)).1 → (e'.name ≠ e.name ↔ e'.node ≠ (i : Int)) := fun hm => by
        constructor
        · intro h1 h2
          obtain ⟨e1, e2⟩ : e'.node = e.node ∧ True := ⟨by rw [h2, hei], trivial⟩
          have : e' = e := pw_inj (g := Ent.node) (hnn.imp fun h => h.2) hm he.2.2.2 e1
          exact h1 (by rw [this])
        · intro h1 h2
          have h5 := dirFind_name (mem_names he.2.2.2) e' hm
          have h6 := dirFind_name (mem_names he.2.2.2) e he.2.2.2
          rw [h2, h6, hei] at h5
          exact h1 h5.symm
      unfold Edge
      rw [hlen, hkg _ (by omega), if_neg hdi, hdd]
      simp only [dirDrop_iff (mem_names he.2.2.2)]
      constructor
      · rintro ⟨a, b, c, x, y⟩
        exact ⟨⟨a, b, c, x⟩, (key x).1 y⟩
      · rintro ⟨⟨a, b, c, x⟩, y⟩
        exact ⟨a, b, c, x, (key x).2 y⟩
    · by_cases h2 : j = i
      · subst h2
        constructor
        · rintro ⟨a, -, c, -⟩
          rw [hkg _ a, if_pos rfl] at c; cases c
        · rintro ⟨⟨-, -, c, -⟩, -⟩
          exact absurd c hk
      · unfold Edge
        rw [hlen]
        constructor
        · rintro ⟨a, b, c, x⟩
          rw [hkg j a, if_neg h2] at c
          rw [hdo j a h1 h2] at x
          exact ⟨⟨a, b, c, x⟩, fun h => h1 (C.uni j d e' e ⟨a, b, c, x⟩ he (by rw [h, hei]))⟩
        · rintro ⟨⟨a, b, c, x⟩, -⟩
          exact ⟨a, b, by rw [hkg j a, if_neg h2]; exact c, by rw [hdo j a h1 h2]; exact x⟩
  obtain ⟨D, hf⟩ := cert_leaf C (i := (i : Int)) (by omega) U2.sh hlen hkg (fun j hj hji _ hr => by
    by_cases h1 : j = d
    · rw [h1, hdd]
    · rw [hdo j hj h1 hji]; exact hr) hE
  refine ⟨trivial, D, hf, fun j hj hji p => ?_, data, ?_, W, hg.symm⟩
  · have h := hview j hj
    by_cases hjd : j = (d : Int)
    · rw [if_pos hjd] at h
      subst hjd
      simp only [view, Nd.mk.injEq] at h
      unfold itemN
      rw [h.1, he.2.2.1]
      rfl
    · rw [if_neg hjd, if_neg hji] at h
      exact itemN_view h p
  · rw [hdata]
    have := (dirI_two (mem_read he.2.2.2)).2
    exact Nat.le_trans hok.2 this
/-- Where a path leads, and from which entry. -/
theorem path_edge {f : Fs} {dep : Int → Nat} (C : Cert f dep) {p : Str} (hp : pathOk p = true) (hr : p ≠ [47]) (hw : 0 ≤ walk f p) :
    ∃ (d i : Nat) (e : Ent), walk f (above p) = d ∧ walk f p = i ∧ Edge f (d : Int) e ∧ e.name = last p ∧ e.node = (i : Int) ∧ follow f (names p) 0 = i ∧ follow f ((names p).take ((names p).length - 1)) 0 = d := by
  have ok := cert_fsOk C
  have hw2 : walk f p = follow f (names p) 0 := by simp [walk, ok, hp]
  have hab := above_ok hp
  have hwa : walk f (above p) = follow f ((names p).take ((names p).length - 1)) 0 := by simp [walk, ok, hab.1, hab.2]
  have hpos := names_pos hp hr
  rw [hw2] at hw
  have hsp : names p = (names p).take ((names p).length - 1) ++ [last p] := by
    rw [last_at p hpos]
    have h1 : (names p).length - 1 < (names p).length := by omega
    have h2 := List.take_succ_eq_append_getElem h1
    rw [← h2, List.take_of_length_le (by omega)]
  have hw3 := hw
  rw [hsp] at hw3
  obtain ⟨e, h1, h2, h3, h4⟩ := at_snoc C hw3
  rw [← hsp] at h4
  obtain ⟨i, hi⟩ := Int.eq_ofNat_of_zero_le hw
  obtain ⟨d, hd⟩ := Int.eq_ofNat_of_zero_le h1
  rw [hd] at h2
  exact ⟨d, i, e, by rw [hwa, hd], by rw [hw2, hi], h2, h3, by rw [← h4, hi], hi, hd⟩
theorem tree_nodup (f : Fs) : (treeItems f).Nodup := (tree_distinct f).imp fun h e => h (by rw [e])
theorem perm_of_iff {α : Type} {a b : List α} (h1 : a.Nodup) (h2 : b.Nodup) (h : ∀ x, x ∈ a ↔ x ∈ b) : a.Perm b := (List.perm_ext_iff_of_nodup h1 h2).2 h
/-- A path and its names. -/
theorem path_of_eq {ns : List Str} {p : Str} (h1 : ns.length ≤ 4) (h2 : ns.all nameOk = true) (h : pathOf ns = p) : names p = ns := by
  rw [← h]; exact (pathOf_names h1 h2).2
/-- An item that is set. -/
def setI (p data : Str) (t : Int) (x : Item) : Item := if x.path = p then ⟨x.path, x.kind, data, t⟩ else x
theorem setI_path (p data : Str) (t : Int) (x : Item) : (setI p data t x).path = x.path := by
  unfold setI
  split <;> rfl
theorem fsSet_ok {f : Fs} {p data : Str} {t g : Int} (h : (fsSet f p data t g).2 = 0) : fsOk f = true ∧ (0 ≤ t ∧ t ≤ 100000) ∧ (0 ≤ g ∧ g ≤ 1000000) ∧ pathOk p = true ∧ 0 ≤ walk f p ∧ (nodeAtI f (walk f p)).kind ≠ 2 ∧ (nodeWrite f (walk f p) data).2 = true ∧ (fsSet f p data t g).1 = stamped (nodeWrite f (walk f p) data).1 (walk f p).toNat t g := by
  unfold fsSet at h ⊢
  split at h
  · cases h
  rename_i c1
  rw [if_neg c1]
  simp only [Bool.and_eq_false_iff, not_or, Bool.not_eq_false] at c1
  split at h
  · cases h
  rename_i c2
  rw [if_neg c2]
  split at h
  · cases h
  rename_i c3
  rw [if_neg c3]
  split at h
  · cases h
  rename_i c4
  rw [if_neg c4]
  split at h
  · cases h
  rename_i c5
  rw [if_neg c5]
  split at h
  · rename_i c6
    rw [if_pos c6]
    exact ⟨c1.1.1, inR_iff.1 c1.1.2, inR_iff.1 c1.2, by simpa using c2, by omega, c4, c6, rfl⟩
  · cases h
theorem fsSet_no {f : Fs} {p data : Str} {t g : Int} (h : (fsSet f p data t g).2 ≠ 0) : (fsSet f p data t g).1 = f := by
  unfold fsSet at h ⊢
  repeat' split
  all_goals first | rfl | skip
  rename_i c1 c2 c3 c4 c5 c6
  rw [if_neg c1, if_neg c2, if_neg c3, if_neg c4, if_neg c5, if_pos c6] at h
  exact absurd rfl h
/-- What is set. -/
theorem fsSet_cert {f : Fs} {p data : Str} {t g : Int} (h : (fsSet f p data t g).2 = 0) : ∃ dep, Cert f dep ∧ Cert (fsSet f p data t g).1 dep ∧ (∀ ns, follow (fsSet f p data t g).1 ns 0 = follow f ns 0) ∧ pathOk p = true ∧ p ≠ [47] ∧ 0 ≤ walk f p ∧ (nodeAtI f (walk f p)).kind ≠ 2 ∧
    (∀ j : Int, 0 ≤ j → view (fsSet f p data t g).1 j = if j = walk f p then ⟨(nodeAtI f (walk f p)).kind, g, t, data⟩ else view f j) := by
  obtain ⟨ok, ht, hg, hp, hw, hk, hwr, hres⟩ := fsSet_ok h
  obtain ⟨dep, C⟩ := fsOk_cert ok
  rw [hres]
  have hr : p ≠ [47] := by
    rintro rfl
    have : walk f [47] = 0 := by
      have hp47 : pathOk [47] = true := by simp [pathOk]
      simp [walk, ok, hp47, names_root, follow]
    rw [this] at hk
    exact hk (root_kind ok)
  obtain ⟨i, hi⟩ := Int.eq_ofNat_of_zero_le hw
  rw [hi] at hk hwr ⊢
  have hw' : walk f p = follow f (names p) 0 := by simp [walk, ok, hp]
  have hrange := at_range C (names p) (by rw [← hw', hi]; omega)
  have hk0 := at_kind C (ns := names p) (by rw [← hw', hi]; omega)
  rw [← hw', hi] at hrange hk0
  have hil : i < f.nodes.length := by omega
  obtain ⟨W, e1, U⟩ := upd_write C.sh hwr
  have hx := U.eq (i : Int) (by omega)
  rw [if_pos rfl] at hx
  simp only [view, Nd.mk.injEq] at hx
  have U2 := upd_stamp U.sh (t := t) (g := g) (by rw [U.len]; exact hil) (by rw [hx.1]; exact hk0) (fun h => by rw [hx.1] at h; exact absurd h hk) ht hg
  have hview : ∀ j : Int, 0 ≤ j → view (stamped (nodeWrite f (i : Int) data).1 i t g) j = if j = (i : Int) then ⟨(nodeAtI f (i : Int)).kind, g, t, data⟩ else view f j := fun j hj => by
    rw [U2.eq j hj]
    split
    · rw [hx.1, hx.2.2.2]
    · rename_i hji
      rw [U.eq j hj, if_neg hji]
  have hto : (((i : Nat) : Int)).toNat = i := by omega
  rw [hto]
  refine ⟨dep, C, ?_⟩
  have hsame := cert_same C U2.sh (by rw [U2.len, U.len]) (fun j hj => by
    have h := hview j hj
    split at h
    · rename_i hji
      subst hji
      simp only [view, Nd.mk.injEq] at h
      exact h.1
    · exact kind_view h) (fun j hj hk2 => by
    have h := hview j hj
    rw [if_neg (fun e : j = (i : Int) => hk (by rw [← e]; exact hk2))] at h
    exact dirI_view h)
  exact ⟨hsame.1, hsame.2, hp, hr, by omega, hk, hview⟩
theorem fsSet_tree {f : Fs} {p data : Str} {t g : Int} (h : (fsSet f p data t g).2 = 0) : treeItems (fsSet f p data t g).1 = (treeItems f).map (setI p data t) := by
  obtain ⟨dep, C, D, hf, hp, hr, hw, hk, hview⟩ := fsSet_cert h
  generalize (fsSet f p data t g).1 = G at *
  have ok := cert_fsOk C
  have hw' : walk f p = follow f (names p) 0 := by simp [walk, ok, hp]
  have hitem : ∀ ns : List Str, ns.all nameOk = true → 0 ≤ follow f ns 0 → ns ≠ [] → itemN G (pathOf ns) (follow f ns 0) = setI p data t (itemN f (pathOf ns) (follow f ns 0)) := fun ns ha h0 hne => by
    have hv := hview _ h0
    have hpth : (itemN f (pathOf ns) (follow f ns 0)).path = pathOf ns := rfl
    unfold setI
    rw [hpth]
    split at hv
    · rename_i hji
      have hns : ns = names p := at_uniq C _ ns (names p) rfl h0 (by rw [hji, hw'])
      have hpp : pathOf ns = p := by rw [hns]; exact pathOf_of_names hp hr
      rw [if_pos hpp]
      simp only [view, Nd.mk.injEq] at hv
      unfold itemN
      rw [hji] at hv ⊢
      rw [hv.1, hv.2.2.1, hv.2.2.2, if_neg hk, if_neg hk]
    · rename_i hji
      have hpp : pathOf ns ≠ p := fun e => hji (by rw [hw', path_of_eq (at_len C h0) ha e])
      rw [if_neg hpp]
      exact itemN_view hv _
  refine sorted_eq (tree_sorted G) ?_ (perm_of_iff (tree_nodup G) ?_ fun x => ?_)
  · refine List.pairwise_map.2 ((tree_sorted f).imp fun {a b} h => ?_)
    rw [setI_path, setI_path]; exact h
  · refine List.pairwise_map.2 ((tree_distinct f).imp fun {a b} h e => h ?_)
    rw [← setI_path p data t a, ← setI_path p data t b, e]
  · rw [tree_iff D, List.mem_map]
    constructor
    · rintro ⟨ns, h1, h2, h3, rfl⟩
      rw [hf] at h3 ⊢
      exact ⟨_, (tree_iff C _).2 ⟨ns, h1, h2, h3, rfl⟩, (hitem ns h2 h3 h1).symm⟩
    · rintro ⟨y, hy, rfl⟩
      obtain ⟨ns, h1, h2, h3, rfl⟩ := (tree_iff C _).1 hy
      exact ⟨ns, h1, h2, by rw [hf]; exact h3, by rw [hf]; exact (hitem ns h2 h3 h1).symm⟩
/-- A path that is no directory's is dropped. -/
theorem fsDrop_leaf {f : Fs} {dep : Int → Nat} (C : Cert f dep) {p : Str} (hp : pathOk p = true) (hr : p ≠ [47]) (hw : 0 ≤ walk f p) (hk : (nodeAtI f (walk f p)).kind ≠ 2) :
    (fsDrop f p).2 = 0 ∧ Cert (fsDrop f p).1 dep ∧ ∀ x, x ∈ treeItems (fsDrop f p).1 ↔ x ∈ treeItems f ∧ x.path ≠ p := by
  have ok := cert_fsOk C
  obtain ⟨d, i, e, ha, hi, he, hn, hei, hfi, -⟩ := path_edge C hp hr hw
  have hd : fsDrop f p = ((unlinkS (nodeDrop f (i : Int)).1 (d : Int) e.name).1, 0) := by
    unfold fsDrop
    rw [if_neg (by rw [ok]; decide), if_neg (fun h => h.elim (fun h => by rw [hp] at h; cases h) hr), if_neg (by omega), if_neg (fun h => hk h.1), ha, hi, hn]
  rw [hi] at hk
  obtain ⟨-, D, hf, hit, -⟩ := drop_leaf C he hei hk
  rw [hd]
  simp only
  generalize (unlinkS (nodeDrop f (i : Int)).1 (d : Int) e.name).1 = g at *
  refine ⟨trivial, D, fun x => ?_⟩
  rw [tree_iff D, tree_iff C]
  constructor
  · rintro ⟨ns, h1, h2, h3, rfl⟩
    have h4 := hf ns
    split at h4
    · omega
    · rename_i hne
      rw [h4] at h3 ⊢
      rw [hit _ h3 hne]
      refine ⟨⟨ns, h1, h2, h3, rfl⟩, fun e0 => hne ?_⟩
      have : names p = ns := path_of_eq (at_len C h3) h2 e0
      rw [← this, hfi]
  · rintro ⟨⟨ns, h1, h2, h3, rfl⟩, hne⟩
    have hpth : (itemN f (pathOf ns) (follow f ns 0)).path = pathOf ns := rfl
    rw [hpth] at hne
    have hni : follow f ns 0 ≠ i := fun e0 => hne (by
      have : ns = names p := at_uniq C _ ns (names p) rfl h3 (by rw [e0, hfi])
      rw [this]
      exact pathOf_of_names hp hr)
    have h4 := hf ns
    rw [if_neg hni] at h4
    exact ⟨ns, h1, h2, by rw [h4]; exact h3, by rw [h4, hit _ h3 hni]⟩
end Go.Proofs.YtkphpalagceobaaGreat.Hz
