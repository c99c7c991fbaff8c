/- What is hidden, and shown away again. No program in sight. -/
import Derived.Test.YtkphpalagceobaaGreatHyZF
import Derived.Test.YtkphpalagceobaaGreatHyGS
import Derived.Test.YtkphpalagceobaaGreatHyEP
namespace Go.Proofs.YtkphpalagceobaaGreat.Hz
open Go.RowKit
set_option linter.unusedVariables false
set_option linter.unusedSimpArgs false
set_option maxRecDepth 20000
theorem wr_bl {f : Fs} {i : Nat} {data : Str} (W : Wrote f i data) : ((nodeAtI (written f (i : Int) data) (i : Int)).blocks.length : Int) = blocksFor data.length := by
  have hi := W.hi
  have e : (nodeAtI (written f (i : Int) data) (i : Int)).blocks = writeBlocks f (i : Int) data := by simp [written, nodeAtI, hi]
  rw [e, W.len, (needOf_le data W.le).2.1]
theorem wr_free {f : Fs} (s : ShapeOk f) {i : Nat} {data : Str} (W : Wrote f i data) : freeOf (written f (i : Int) data) + blocksFor data.length = freeOf f + ((nodeAtI f (i : Int)).blocks.length : Int) := by
  rw [W.node]
  exact written_free s W
theorem drop_free {f : Fs} (s : ShapeOk f) {i : Nat} (hi : i < f.nodes.length) (h0 : i ≠ 0) (hk : (nodeAtI f (i : Int)).kind ≠ 0) : freeOf (nodeDrop f (i : Int)).1 = freeOf f + ((nodeAtI f (i : Int)).blocks.length : Int) := by
  obtain ⟨-, U⟩ := upd_drop s hi h0 hk
  have hu : usable f (i : Int) = true := by
    simp only [usable, shapeOk_t s, Bool.true_and, Bool.and_eq_true, bne_iff_ne]
    exact ⟨inR_iff.2 ⟨by omega, by omega⟩, hk⟩
  have e : (nodeDrop f (i : Int)).1 = ⟨f.nodes.set i ⟨0, 0, 0, 0, []⟩, dropData f.data (nodeAtI f i).blocks⟩ := by
    unfold nodeDrop
    have : decide ((i : Int) ≠ 0) = true := by simp; omega
    rw [hu, this]
    simp
  have hs := U.sh
  rw [e] at hs ⊢
  have hh := held_len_set hi ⟨0, 0, 0, 0, []⟩
  simp only [List.length_nil, Nat.add_zero] at hh
  have e0 := nodeAtI_get hi
  unfold freeOf
  rw [if_pos (shapeOk_t hs), if_pos (shapeOk_t s)]
  simp only [dropData_len]
  rw [e0]
  omega
theorem make_free {f : Fs} (s : ShapeOk f) {m : Nat} (hm : m < f.nodes.length) (hn : f.nodes[m] = ⟨0, 0, 0, 0, []⟩) {kind : Int} (hk : 1 ≤ kind ∧ kind ≤ 3) : freeOf ⟨f.nodes.set m ⟨kind, 0, 0, 0, []⟩, f.data⟩ = freeOf f := by
  have hs := made_shape s hm hn hk
  have hh := held_len_set hm ⟨kind, 0, 0, 0, []⟩
  rw [hn] at hh
  simp only [List.length_nil, Nat.add_zero] at hh
  unfold freeOf
  rw [if_pos (shapeOk_t hs), if_pos (shapeOk_t s)]
  simp only
  omega
theorem blocks_le {n b : Nat} (h : n ≤ 16 * b) (hb : b ≤ 5) : blocksFor (n : Int) ≤ (b : Int) := by
  unfold blocksFor
  split
  · omega
  · split <;> omega
theorem bl_content {f : Fs} (s : ShapeOk f) {i : Nat} (hi : i < f.nodes.length) {n : Nat} (hn : n ≤ (contentI f (i : Int)).length) : blocksFor (n : Int) ≤ ((nodeAtI f (i : Int)).blocks.length : Int) := by
  have h1 := contentOf_le s (nodeAtI f (i : Int)).blocks
  have h2 : (nodeAtI f (i : Int)).blocks.length ≤ 5 := by
    rw [nodeAtI_get hi]
    exact blocks_small (s.ok _ (List.getElem_mem hi))
  refine blocks_le ?_ h2
  have : contentI f (i : Int) = contentOf f (nodeAtI f (i : Int)).blocks := rfl
  rw [this] at hn
  omega
theorem growS_free {f : Fs} (s : ShapeOk f) {d : Nat} (hd : d < f.nodes.length) (hk : (nodeAtI f (d : Int)).kind ≠ 0) {nm : Str} {kind : Int} {m : Nat} (h : (growS f (d : Int) nm kind).2.2 = true) (hm : (growS f (d : Int) nm kind).2.1 = m) :
    (nodeAtI (growS f (d : Int) nm kind).1 (m : Int)).blocks = [] ∧ ((nodeAtI (growS f (d : Int) nm kind).1 (d : Int)).blocks.length : Int) = blocksFor ((dirText (insE (dirI f (d : Int)).1 nm (m : Int))).length : Int) ∧
      freeOf (growS f (d : Int) nm kind).1 + blocksFor ((dirText (insE (dirI f (d : Int)).1 nm (m : Int))).length : Int) = freeOf f + ((nodeAtI f (d : Int)).blocks.length : Int) ∧
      ∀ q : Nat, q ≠ d → q ≠ m → nodeAtI (growS f (d : Int) nm kind).1 (q : Int) = nodeAtI f (q : Int) := by
  unfold growS at h hm ⊢
  split at h
  · rename_i hmk
    rw [if_pos hmk] at hm ⊢
    rcases nodeMake_cases f kind s with e | ⟨m', hm', hkd, hn, e⟩
    · rw [e] at hmk; cases hmk
    · rw [e] at h hm ⊢
      simp only at h hm ⊢
      obtain rfl : m' = m := by omega
      have hne : d ≠ m' := by
        rintro rfl
        rw [nodeAtI_get hd, hn] at hk
        exact hk rfl
      have u1 := upd_make s hm' hn hkd
      have ms := u1.sh
      have hv := u1.eq (d : Int) (by omega)
      rw [if_neg (by omega)] at hv
      have hdir := dirI_view hv
      rcases linkS_cases _ ms (d : Int) nm (m' : Int) with ⟨e2, _⟩ | ⟨d', hd', _, ok, W, e2⟩
      · rw [e2] at h; cases h
      · obtain rfl : d = d' := by omega
        rw [hdir] at ok W e2
        rw [e2]
        simp only
        have f1 := make_free s hm' hn hkd
        have f2 := wr_free ms W
        have nd : nodeAtI ⟨f.nodes.set m' ⟨kind, 0, 0, 0, []⟩, f.data⟩ (d : Int) = nodeAtI f (d : Int) := by
          have hne' : m' ≠ d := fun e => hne e.symm
          unfold nodeAtI
          simp [List.getElem?_set, hne']
        refine ⟨?_, wr_bl W, ?_, fun q h1 h2 => ?_⟩
        · rw [(written_other ms W hne).1]
          simp [nodeAtI, hm']
        · rw [f2, f1, nd]
        · rw [(written_other ms W (fun e => h1 e.symm)).1]
          have hne' : m' ≠ q := fun e => h2 e.symm
          unfold nodeAtI
          simp [List.getElem?_set, hne']
  · cases h
theorem hidden_follow {f : Fs} {dep : Int → Nat} (C : Cert f dep) : (hiddenNode f < 0 ↔ follow f [[126]] 0 < 0) ∧ (0 ≤ hiddenNode f → follow f [[126]] 0 = hiddenNode f ∧ ∃ e, Edge f 0 e ∧ e.name = [126] ∧ e.node = hiddenNode f ∧ (nodeAtI f (hiddenNode f)).kind = 1) := by
  have ok := cert_fsOk C
  have hh : hiddenNode f = dirFind (dirI f 0).1 [126] := by simp [hiddenNode, ok]
  have hk := (shape_root C.sh).1
  have hf : follow f [[126]] 0 = if dirFind (dirI f 0).1 [126] < 0 then -1 else dirFind (dirI f 0).1 [126] := by
    rw [follow_cons, if_pos hk]
    rfl
  rw [hf, hh]
  constructor
  · split <;> omega
  · intro h
    rw [if_neg (by omega)]
    have hlen := (shape_root C.sh).2
    obtain ⟨e, he, h3, h4⟩ := dirFind_pos h
    have hE : Edge f 0 e := ⟨Int.le_refl _, by omega, hk, he⟩
    refine ⟨rfl, e, hE, h3, h4.symm, ?_⟩
    rw [h4]
    rcases edge_name C hE with h5 | h5
    · exact absurd h3 (not_tilde h5)
    · exact h5.2.2
theorem tree_same {f g : Fs} {df dg : Int → Nat} (C : Cert f df) (D : Cert g dg) (h1 : ∀ ns : List Str, ns.all nameOk = true → 0 ≤ follow f ns 0 → follow g ns 0 = follow f ns 0) (h2 : ∀ ns : List Str, ns.all nameOk = true → 0 ≤ follow g ns 0 → follow f ns 0 = follow g ns 0)
    (h3 : ∀ ns : List Str, ns.all nameOk = true → 0 ≤ follow f ns 0 → ∀ p, itemN g p (follow f ns 0) = itemN f p (follow f ns 0)) : treeItems g = treeItems f := by
  refine tree_eq fun x => ?_
  rw [tree_iff C, tree_iff D]
  constructor
  · rintro ⟨ns, a, b, c, rfl⟩
    have e := h2 ns b c
    exact ⟨ns, a, b, by omega, by rw [← e, h3 ns b (by omega)]⟩
  · rintro ⟨ns, a, b, c, rfl⟩
    have e := h1 ns b c
    exact ⟨ns, a, b, by omega, by rw [e, h3 ns b c]⟩
theorem fsHide_no {f : Fs} {data : Str} (h : (fsHide f data).2 ≠ 0) : (fsHide f data).1 = f := by
  unfold fsHide at h ⊢
  repeat' split
  all_goals first | rfl | skip
  · rename_i c1 c2 c3 c4 c5
    rw [if_neg c1, if_neg c2, if_pos c3, if_pos c4, if_pos c5] at h
    exact absurd rfl h
  · rename_i c1 c2 c3 c4
    rw [if_neg c1, if_neg c2, if_neg c3, if_pos c4] at h
    exact absurd rfl h
structure Hid (f G : Fs) (data : Str) (dep : Int → Nat) (i : Nat) (e : Ent) : Prop where
  cert : Cert G dep
  edge : Edge G ((0 : Nat) : Int) e
  name : e.name = [126]
  node : e.node = (i : Int)
  cont : contentI G (i : Int) = data
  kind : (nodeAtI G (i : Int)).kind = 1
  tree : treeItems G = treeItems f
  room : freeOf f + ((nodeAtI f (0 : Int)).blocks.length : Int) ≤ freeOf G + ((nodeAtI G (i : Int)).blocks.length : Int) + ((nodeAtI G (0 : Int)).blocks.length : Int)
  text : (dirText (dirDrop (dirI G 0).1 [126]).1).length ≤ (contentI f 0).length
theorem hid_write {f : Fs} {dep : Int → Nat} (C : Cert f dep) {data : Str} (h0 : 0 ≤ hiddenNode f) (h : (nodeWrite f (hiddenNode f) data).2 = true) : ∃ i e, Hid f (nodeWrite f (hiddenNode f) data).1 data dep i e := by
  obtain ⟨hneg, hpos⟩ := hidden_follow C
  obtain ⟨hf, e, hE, hen, hei, hki⟩ := hpos h0
  obtain ⟨i, hi⟩ := Int.eq_ofNat_of_zero_le h0
  rw [hi] at hf hei hki h ⊢
  obtain ⟨W, e1, U⟩ := upd_write C.sh h
  have hn := mem_node hE.2.2.2
  obtain ⟨D, hfo⟩ := cert_same C U.sh U.len (fun j hj => by
    have hv := U.eq j hj
    by_cases hji : j = (i : Int)
    · rw [if_pos hji] at hv
      subst hji
      simp only [view, Nd.mk.injEq] at hv
      exact hv.1
    · rw [if_neg hji] at hv
      exact kind_view hv) (fun j hj hk2 => by
    have hv := U.eq j hj
    rw [if_neg (fun e : j = (i : Int) => by rw [e, hki] at hk2; cases hk2)] at hv
    exact dirI_view hv)
  have h0i : (0 : Int) ≠ i := by omega
  have v0 := U.eq 0 (Int.le_refl _)
  rw [if_neg h0i] at v0
  have vi := U.eq (i : Int) (by omega)
  rw [if_pos rfl] at vi
  simp only [view, Nd.mk.injEq] at vi
  have fr := wr_free C.sh W
  have bl := wr_bl W
  have n0 := (written_other C.sh W (q := 0) (by omega)).1
  have d0 := dirI_view v0
  rw [e1] at D hfo v0 vi d0 ⊢
  have E' : Edge (written f (i : Int) data) ((0 : Nat) : Int) e := ⟨Int.le_refl _, by have := (shape_root D.sh).2; omega, (shape_root D.sh).1, by rw [show (((0 : Nat) : Int)) = 0 from rfl, d0]; exact hE.2.2.2⟩
  refine ⟨i, e, D, E', hen, hei, vi.2.2.2, by rw [vi.1]; exact hki, ?_, ?_, ?_⟩
  · refine tree_same C D (fun ns _ h => hfo ns) (fun ns _ h => (hfo ns).symm) (fun ns ha h p => itemN_view ?_ p)
    have hne : follow f ns 0 ≠ (i : Int) := fun e0 => not_hid ha (at_uniq C _ ns [[126]] rfl h (by rw [e0, hf]))
    have hv := U.eq _ h
    rw [if_neg hne, e1] at hv
    exact hv
  · have n0' : nodeAtI (written f (i : Int) data) 0 = nodeAtI f 0 := n0
    rw [n0']
    omega
  · rw [d0]
    have hr := C.read 0 (Int.le_refl _) (by have := (shape_root C.sh).2; omega) (shape_root C.sh).1
    have h1 := dirI_two hr
    exact Nat.le_trans (drop_ok h1.1 [126]).2 h1.2
theorem hid_make {f : Fs} {dep : Int → Nat} (C : Cert f dep) {data : Str} (h0 : hiddenNode f < 0) (h1 : (growS f ((0 : Nat) : Int) [126] 1).2.2 = true) (h : (nodeWrite (growS f ((0 : Nat) : Int) [126] 1).1 (growS f ((0 : Nat) : Int) [126] 1).2.1 data).2 = true) :
    ∃ dep' i e, Hid f (nodeWrite (growS f ((0 : Nat) : Int) [126] 1).1 (growS f ((0 : Nat) : Int) [126] 1).2.1 data).1 data dep' i e := by
  obtain ⟨hk0, hlen⟩ := shape_root C.sh
  have hk0' : (nodeAtI f ((0 : Nat) : Int)).kind = 2 := hk0
  obtain ⟨m, hm, V⟩ := growS_view C.sh hlen (by rw [hk0']; decide) h1
  obtain ⟨fb1, fb2, fb3, fb4⟩ := growS_free C.sh hlen (by rw [hk0']; decide) h1 hm
  obtain ⟨C1, g1, g2⟩ := V.cert C hlen hk0' (by rw [show (((0 : Nat) : Int)) = 0 from rfl, C.d0]; decide) (fun _ => ⟨rfl, rfl⟩)
  have hdir := V.dir
  have hitem := fun {j : Int} (hj : 0 ≤ j) (hjm : j ≠ m) (p : Str) => V.item hk0' hj hjm p
  rw [hm] at h ⊢
  have hm0 := V.m0
  have hmf := V.mf
  have hmn := V.mn
  have hlen1 := V.len
  have hok := V.ok
  have hvm := V.eq (m : Int) (by omega)
  rw [if_neg (by omega), if_pos rfl] at hvm
  simp only [view, Nd.mk.injEq] at hvm
  generalize (growS f ((0 : Nat) : Int) [126] 1).1 = G1 at *
  obtain ⟨W, e1, U⟩ := upd_write C1.sh h
  obtain ⟨D, hfo⟩ := cert_same C1 U.sh U.len (fun j hj => by
    have hv := U.eq j hj
    by_cases hji : j = (m : Int)
    · rw [if_pos hji] at hv
      subst hji
      simp only [view, Nd.mk.injEq] at hv
      exact hv.1
    · rw [if_neg hji] at hv
      exact kind_view hv) (fun j hj hk2 => by
    have hv := U.eq j hj
    rw [if_neg (fun e : j = (m : Int) => by rw [e, hvm.1] at hk2; cases hk2)] at hv
    exact dirI_view hv)
  have h0m : (0 : Int) ≠ m := by omega
  have v0 := U.eq 0 (Int.le_refl _)
  rw [if_neg h0m] at v0
  have vi := U.eq (m : Int) (by omega)
  rw [if_pos rfl] at vi
  simp only [view, Nd.mk.injEq] at vi
  have fr := wr_free C1.sh W
  have bl := wr_bl W
  have n0 := (written_other C1.sh W (q := 0) (by omega)).1
  have d0 := dirI_view v0
  rw [e1] at D hfo v0 vi d0 ⊢
  have hdir0 : dirI G1 0 = (insE (dirI f 0).1 [126] (m : Int), true) := hdir
  have E' : Edge (written G1 (m : Int) data) ((0 : Nat) : Int) ⟨[126], (m : Int)⟩ := ⟨Int.le_refl _, by have := (shape_root D.sh).2; omega, (shape_root D.sh).1, by rw [show (((0 : Nat) : Int)) = 0 from rfl, d0, hdir0]; exact insE_mem.2 (.inr rfl)⟩
  have hno : ∀ ns : List Str, ns.all nameOk = true → 0 ≤ follow G1 ns 0 → follow f ns 0 = follow G1 ns 0 := fun ns ha hn => by
    rcases g2 ns hn with h2 | ⟨-, ps, -, rfl⟩
    · exact h2
    · simp only [List.all_append, Bool.and_eq_true, List.all_cons] at ha
      exact absurd rfl (not_tilde ha.2.1)
  refine ⟨_, m, ⟨[126], (m : Int)⟩, D, E', rfl, rfl, vi.2.2.2, by rw [vi.1, hvm.1], ?_, ?_, ?_⟩
  · refine tree_same C D (fun ns ha h => by rw [hfo, g1 ns h]) (fun ns ha h => by rw [hfo] at h ⊢; exact hno ns ha h) (fun ns ha h p => ?_)
    have hne : follow f ns 0 ≠ (m : Int) := fun e0 => at_kind C h (by rw [e0]; exact hmf)
    rw [← hitem h hne p]
    have hv := U.eq _ h
    rw [if_neg hne, e1] at hv
    exact itemN_view hv p
  · have n0' : nodeAtI (written G1 (m : Int) data) 0 = nodeAtI G1 0 := n0
    have fb2' : ((nodeAtI G1 (0 : Int)).blocks.length : Int) = blocksFor ((dirText (insE (dirI f 0).1 [126] (m : Int))).length : Int) := fb2
    have fb3' : freeOf G1 + blocksFor ((dirText (insE (dirI f 0).1 [126] (m : Int))).length : Int) = freeOf f + ((nodeAtI f (0 : Int)).blocks.length : Int) := fb3
    rw [fb1] at fr
    rw [n0', fb2', bl]
    simp only [List.length_nil] at fr
    omega
  · rw [d0, hdir0]
    have hr := C.read 0 (Int.le_refl _) (by omega) hk0
    have h1 := dirI_two hr
    have hadd : dirAdd (dirI f 0).1 [126] (m : Int) = (insE (dirI f 0).1 [126] (m : Int), true) := by
      unfold dirAdd
      have hok' : entriesOk (insE (dirI f 0).1 [126] (m : Int)) = true := hok
      rw [h1.1, hok']
      rfl
    have had := (added (es := (dirI f 0).1) (nm := [126]) (nd := (m : Int)) (by rw [hadd])).2.2.2.2.1
    rw [hadd] at had
    simp only at had
    rw [had]
    exact h1.2
theorem fsHide_hid {f : Fs} {data : Str} (h : (fsHide f data).2 = 0) : ∃ dep0 dep i e, Cert f dep0 ∧ Hid f (fsHide f data).1 data dep i e := by
  have ok : fsOk f = true := by
    cases e : fsOk f
    · simp [fsHide, e] at h
    · rfl
  obtain ⟨dep, C⟩ := fsOk_cert ok
  unfold fsHide at h ⊢
  rw [if_neg (by rw [ok]; decide)] at h ⊢
  split at h
  · cases h
  rename_i c2
  rw [if_neg c2]
  split at h
  · rename_i c3
    rw [if_pos c3]
    split at h
    · rename_i c4
      rw [if_pos c4]
      split at h
      · rename_i c5
        rw [if_pos c5]
        obtain ⟨d, i, e, H⟩ := hid_make C c3 c4 c5
        exact ⟨dep, d, i, e, C, H⟩
      · cases h
    · cases h
  · rename_i c3
    rw [if_neg c3]
    split at h
    · rename_i c4
      rw [if_pos c4]
      obtain ⟨i, e, H⟩ := hid_write C (by omega) c4
      exact ⟨dep, dep, i, e, C, H⟩
    · cases h
theorem hidden_law {f : Fs} {data : Str} (h : (fsHide f data).2 = 0) :
    hiddenOf (fsHide f data).1 = (data, true) ∧ hiddenOf (fsShow (fsHide f data).1) = ([], false) ∧ treeItems (fsHide f data).1 = treeItems f ∧ treeItems (fsShow (fsHide f data).1) = treeItems f ∧ freeOf f ≤ freeOf (fsShow (fsHide f data).1) ∧ ShapeOk f ∧ ShapeOk (fsShow (fsHide f data).1) := by
  obtain ⟨dep0, dep, i, e, C, K⟩ := fsHide_hid h
  generalize (fsHide f data).1 = G at *
  have D := K.cert
  obtain ⟨-, hneg, hpos⟩ := And.intro True.intro (hidden_follow D)
  have hat : follow G [[126]] 0 = (i : Int) := by
    have := at_ext (f := G) (ns := []) (e := e) K.edge
    rw [K.name, K.node] at this
    exact this
  have hhn : hiddenNode G = (i : Int) := by
    have hge : 0 ≤ hiddenNode G := by
      by_cases hc : hiddenNode G < 0
      · have := hneg.1 hc; omega
      · omega
    rw [← (hpos hge).1, hat]
  have hsh : fsShow G = (unlinkS (nodeDrop G (i : Int)).1 ((0 : Nat) : Int) e.name).1 := by
    unfold fsShow
    rw [if_neg (by omega), hhn, K.name]
    rfl
  obtain ⟨-, D2, hf2, hit, text, ht, hle, W, hw⟩ := drop_leaf D K.edge K.node (by rw [K.kind]; decide)
  rw [← hsh] at D2 hf2 hit hw
  have hni : i ≠ 0 := by have := mem_node K.edge.2.2.2; have := K.node; omega
  have hil : i < G.nodes.length := by have := (lost_lt (D.lo _ _ K.edge)).1; have := K.node; omega
  refine ⟨?_, ?_, K.tree, ?_, ?_, C.sh, D2.sh⟩
  · unfold hiddenOf
    rw [if_neg (by omega), hhn, K.cont]
  · have h1 := hf2 [[126]]
    rw [if_pos hat] at h1
    have h2 := (hidden_follow D2).1
    unfold hiddenOf
    rw [if_pos (h2.2 (by omega))]
  · rw [← K.tree]
    have hne : ∀ ns : List Str, ns.all nameOk = true → follow G ns 0 ≠ (i : Int) := fun ns ha e0 => not_hid ha (at_uniq D _ ns [[126]] rfl (by omega) (by rw [e0, hat]))
    refine tree_same D D2 (fun ns ha h => by rw [hf2, if_neg (hne ns ha)]) (fun ns ha h => ?_) (fun ns ha h p => hit _ h (hne ns ha) p)
    rw [hf2, if_neg (hne ns ha)]
  · have f1 := drop_free D.sh hil hni (by rw [K.kind]; decide)
    obtain ⟨-, U⟩ := upd_drop D.sh hil hni (by rw [K.kind]; decide)
    have f2 := wr_free U.sh W
    rw [hw]
    have hr := K.room
    have ht2 := K.text
    rw [K.name] at ht
    have ht' : text = dirText (dirDrop (dirI G 0).1 [126]).1 := ht
    rw [← ht'] at ht2
    have hb := bl_content C.sh (i := 0) (shape_root C.sh).2 ht2
    have hb' : blocksFor (text.length : Int) ≤ ((nodeAtI f (0 : Int)).blocks.length : Int) := hb
    have n0 : nodeAtI (nodeDrop G (i : Int)).1 (0 : Int) = nodeAtI G 0 := by
      unfold nodeDrop
      split
      · have : ¬ (i = 0) := hni
        unfold nodeAtI
        simp [List.getElem?_set, hni]
      · rfl
    have f2' : freeOf (written (nodeDrop G (i : Int)).1 ((0 : Nat) : Int) text) + blocksFor (text.length : Int) = freeOf (nodeDrop G (i : Int)).1 + ((nodeAtI (nodeDrop G (i : Int)).1 (0 : Int)).blocks.length : Int) := f2
    rw [n0] at f2'
    omega
end Go.Proofs.YtkphpalagceobaaGreat.Hz
