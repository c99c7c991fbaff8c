/- PoolTree: the reference. -/
import Derived.Test.YtgfilbekfkhjjaaGreatHyQK
namespace Go.Proofs.YtgfilbekfkhjjaaGreat.Hz
open Go.RowKit
set_option linter.unusedVariables false
set_option linter.unusedSimpArgs false
set_option maxRecDepth 20000

/-- The box gets another slice. -/
theorem AI.set {h H H' : Hp} {B : Nat} {acc acc' : List Item} {a a' : Option Addr} {G G' : List Nat} (k : AI h H B acc a G) (x : Ext H H') (s : slR true 72 itemE H' acc' a' G') (nd : G'.Nodup) (nw : ∀ q ∈ G', H.length ≤ q) :
    canSet H' B 0 1 = true ∧ AI h (setsAt H' B 0 [.slice a' acc'.length acc'.length]) B acc' a' G' ∧ ∀ q, q ≠ B → q < H.length → (setsAt H' B 0 [.slice a' acc'.length acc'.length])[q]? = H[q]? := by
  have hln := k.len
  have hlo := k.lo
  have g2 : H'[B]? = some ⟨true, true, 29, [.slice a acc.length acc.length]⟩ := by
    rw [x.2 _ hln]; exact k.ab
  have hne : ∀ q, q ≠ B → (setsAt H' B 0 [.slice a' acc'.length acc'.length])[q]? = H'[q]? := fun q hq => by rw [setsAt_get, if_neg (fun e => hq e.symm)]
  refine ⟨by simp [canSet, g2], ⟨⟨by rw [setsAt_len]; have := x.1; have := k.ext.1; omega, fun q hq => ?_⟩, k.lo, by rw [setsAt_len]; have := x.1; omega, ?_, s.frame fun q hq => hne q (by have := nw q hq; omega), nd, fun q hq => by have := nw q hq; omega⟩, fun q h1 h2 => by rw [hne q h1]; exact x.2 q h2⟩
  · rw [hne q (by omega), x.2 q (by have := k.ext.1; omega)]
    exact k.ext.2 q hq
  · rw [setsAt_get, if_pos rfl, g2]
    simp [setL]
/-- A block of another type is none of an item slice's. -/
theorem item_ne {H : Hp} {w : Bool} {xs : List Item} {a : Option Addr} {F : List Nat} (s : slR w 72 itemE H xs a F) {B : Nat} {ob : Ob} (e : H[B]? = some ob) (ne : ob.elem ≠ 72) : B ∉ F := by
  intro hm
  cases a with
  | none => obtain ⟨_, rfl⟩ := s; cases hm
  | some b0 =>
    obtain ⟨o, off, sp⟩ := b0
    obtain ⟨_, ob', css, Fs, pre, post, g1, g2, g3, g4, rfl, g5, g6, g7⟩ := s
    rw [flat_nil g5.flat.2] at hm
    simp at hm
    subst hm
    simp only at g1
    rw [e] at g1
    simp only [Option.some.injEq] at g1
    subst g1
    exact ne g4
theorem tree_plen {f : Fs} {x : Item} (hx : x ∈ treeItems f) : x.path.length ≤ 100 := by
  obtain ⟨ms, p1, -⟩ := tree_path hx
  rw [p1]
  exact pathOf_len ms
theorem kept_take (bs : List Branch) (i : Nat) (t : List Item) (k : Nat) (hk : k < t.length) : kept bs i (t.take (k + 1)) = kept bs i (t.take k) ++ (if win bs t[k].path = i then [t[k]] else []) := by
  unfold kept
  rw [List.take_succ_eq_append_getElem hk, List.filter_append]
  by_cases h : win bs t[k].path = i <;> simp [h]
theorem kept_len (bs : List Branch) (i : Nat) (t : List Item) : (kept bs i t).length ≤ t.length := List.length_filter_le _ _
theorem specTo_len (bs : List Branch) : ∀ k, (specTo bs k).length ≤ 7380 * k
  | 0 => by simp [specTo]
  | k + 1 => by
    rw [specTo_succ, List.length_append]
    have h3 := kept_len bs k (tre bs k)
    have h4 : (tre bs k).length ≤ 7380 := by
      unfold tre
      split
      · exact treeItems_le _
      · simp
    have := specTo_len bs k
    omega
/-- The tree so far. -/
noncomputable def outP (bs : List Branch) (i : Nat) (ti : List Item) (j : Nat) : List Item := (specTo bs i ++ kept bs i (ti.take j)).foldl putIt []
noncomputable def specF (bs : List Branch) (i : Nat) : List Item := (specTo bs i).foldl putIt []
theorem outP_zero (bs : List Branch) (i : Nat) (ti : List Item) : outP bs i ti 0 = specF bs i := by simp [outP, specF, kept]
theorem outP_all {bs : List Branch} {i : Nat} : outP bs i (tre bs i) (tre bs i).length = specF bs (i + 1) := by
  unfold outP specF
  rw [List.take_length, specTo_succ]
theorem outP_yes {bs : List Branch} {i : Nat} {ti : List Item} {j : Nat} (hj : j < ti.length) (h : win bs ti[j].path = i) : outP bs i ti (j + 1) = putIt (outP bs i ti j) ti[j] := by
  unfold outP
  rw [kept_take bs i ti j hj, if_pos h, ← List.append_assoc, List.foldl_append]
  rfl
theorem outP_no {bs : List Branch} {i : Nat} {ti : List Item} {j : Nat} (hj : j < ti.length) (h : ¬ win bs ti[j].path = i) : outP bs i ti (j + 1) = outP bs i ti j := by
  unfold outP
  rw [kept_take bs i ti j hj, if_neg h, List.append_nil]
theorem outP_len (bs : List Branch) (i : Nat) (ti : List Item) (j : Nat) : (outP bs i ti j).length ≤ 7380 * i + ti.length := by
  have h1 := foldPut_len (specTo bs i ++ kept bs i (ti.take j)) []
  have h2 := specTo_len bs i
  have h3 := kept_len bs i (ti.take j)
  have h4 : (ti.take j).length ≤ ti.length := by simp; omega
  rw [List.length_append] at h1
  simp only [List.length_nil] at h1
  unfold outP
  omega
theorem specF_len (bs : List Branch) (i : Nat) : (specF bs i).length ≤ 7380 * i := by
  have h1 := foldPut_len (specTo bs i) []
  have h2 := specTo_len bs i
  simp only [List.length_nil] at h1
  unfold specF
  omega
/-- The inner loop's state. -/
structure TQI (h0 H : Hp) (B C : Nat) (acc ti : List Item) (a bt : Option Addr) (Gt : List Nat) : Prop where
  ai : ∃ G', AI h0 H B acc a G'
  bx : H[C]? = some (⟨true, true, 29, [.slice bt ti.length ti.length]⟩ : Ob)
  st : slR true 72 itemE H ti bt Gt
section
variable (x : Pool) (b : Option Addr) (F : List Nat) (w : Bool) (tBranch tNode : TypeId) (h : Hp) (k1 : slR w tBranch (branchE w tNode) h x.branches b F) (hl : x.nl ≤ 1048576)
include k1 hl
set_option maxHeartbeats 8000000 in
theorem l12Tree_c (hn4 : x.branches.length ≤ 4) :
    ACall Tryz.prog 72 [.agg #[.int .i64 x.policy, .int .i64 x.minFree, .slice b x.branches.length x.branches.length, .bool x.move.on, .bool x.move.clean, .int .i64 x.move.src, .int .i64 x.move.dst, .string (S x.move.path), .int .i64 x.move.gen, .int .i64 x.move.done]] h fun r h' => ∃ a G, r = .agg #[.slice a (specF x.branches x.branches.length).length (specF x.branches x.branches.length).length] ∧ Own h 72 itemE h' (specF x.branches x.branches.length) a G := by
  refine acall mixed Tryz.func72 rfl (by kernel_rfl) ?_
  obtain ⟨hn, hp, hf⟩ := pool_nl hl
  simp [Tryz.f72]
  obtain ⟨h0, hh0⟩ : ∃ h0 : Hp, h0 = h ++ [⟨true, true, 50, poolV x b⟩, ⟨true, true, 29, [.slice none 0 0]⟩] := ⟨_, rfl⟩
  have x0 : Ext h h0 := by rw [hh0]; exact Ext.push _ _
  have l0 : h0.length = h.length + 2 := by rw [hh0]; simp
  have q0 : h0[h.length]? = some ⟨true, true, 50, poolV x b⟩ := by rw [hh0]; simp
  have q1 : h0[h.length + 1]? = some ⟨true, true, 29, [.slice none 0 0]⟩ := by rw [hh0]; simp
  have kb := k1.ext x0
  have k0 : AI h0 (h0 ++ [⟨true, true, 29, [.slice none 0 0]⟩]) (h.length + 2) [] none [] :=
    ⟨Ext.push _ _, by omega, by simp; omega, by rw [← l0]; simp, ⟨rfl, rfl⟩, List.nodup_nil, fun q hq => by cases hq⟩
  refine aloop mixed [1, 2, 3, 4] (fun (y : Nat × Option Addr × Hp) => [.pointer (some ⟨h.length, 0, none⟩), .pointer (some ⟨h.length + 1, 0, none⟩), .pointer (some ⟨h.length + 2, 0, none⟩), .int .i64 y.1]) (fun y => y.2.2) (fun y => y.1 ≤ x.branches.length ∧ ∃ G, AI h0 y.2.2 (h.length + 2) (specF x.branches y.1) y.2.1 G) (fun y => x.branches.length - y.1) (0, none, _) ⟨by simp, _, by simpa [specF, specTo] using k0⟩ rfl (by simp [hh0, poolV]) ?_
  clear k0
  rintro ⟨i, a, H⟩ ⟨hi, G, k⟩
  simp only at hi k
  have pb : ∀ l j, cellAt (H ++ l) h.length j = (poolV x b)[j]? := fun l j => by
    rw [cellAt_ext (k.ext.trans (Ext.push H l)) (by omega)]
    simp [cellAt, q0]
  have pb0 : ∀ j, cellAt H h.length j = (poolV x b)[j]? := fun j => by simpa using pb [] j
  simp only [poolV] at pb pb0
  simp [mkF, pb0]
  refine asplitK_intro (fun hc => ?_) (fun hc => ?_) <;> simp at hc <;> simp [hc]
  · obtain ⟨o, off, b1, G1, b2, G2, rfl, c0, c1, c2, kn, kd⟩ := branchAtX (kb.ext k.ext) hc
    have c1' := c1 []
    have c2' := c2 []
    simp only [List.append_nil] at c1' c2'
    simp [hc, c1', c2', pb0]
    refine callK0 (treeOf_spec_c x.branches[i].fs b1 b2 G1 G2 w tNode _ kn kd (hf i hc)) ?_
    rintro _ H1 ⟨bt, Gt, rfl, st, xt⟩
    simp
    have lt := treeItems_le x.branches[i].fs
    have htre := tre_get hc
    have hpl : ∀ y ∈ treeItems x.branches[i].fs, y.path.length ≤ 100 := fun y hy => tree_plen hy
    have hsucc := outP_all (bs := x.branches) (i := i)
    rw [htre] at hsucc
    generalize treeItems x.branches[i].fs = ti at st lt hpl hsucc ⊢
    have kC : AI h0 (H1 ++ [⟨true, true, 29, [.slice bt ti.length ti.length]⟩]) (h.length + 2) (specF x.branches i) a G := (k.grow xt).to ⟨_, rfl⟩
    have hBt : h.length + 2 ∉ Gt := item_ne st (k.grow xt).ab (show (29 : TypeId) ≠ 72 by decide)
    have hHC : H.length ≤ H1.length := xt.1
    have hlk := k.len
    have stC : slR true 72 itemE (H1 ++ [⟨true, true, 29, [.slice bt ti.length ti.length]⟩]) ti bt Gt := st.to ⟨_, rfl⟩
    have bxC : (H1 ++ [⟨true, true, 29, [.slice bt ti.length ti.length]⟩])[H1.length]? = some (⟨true, true, 29, [.slice bt ti.length ti.length]⟩ : Ob) := by simp
    generalize H1 ++ [(⟨true, true, 29, [.slice bt ti.length ti.length]⟩ : Ob)] = HC at kC stC bxC ⊢
    obtain ⟨C, hC⟩ : ∃ C, C = H1.length := ⟨_, rfl⟩
    rw [← hC] at bxC ⊢
    have hCB : C ≠ h.length + 2 := by omega
    clear st hC xt
    refine aloop mixed [1, 2, 3, 4, 5, 6] (fun (y : Nat × Option Addr × Hp) => [.pointer (some ⟨h.length, 0, none⟩), .pointer (some ⟨h.length + 1, 0, none⟩), .pointer (some ⟨h.length + 2, 0, none⟩), .int .i64 i, .pointer (some ⟨C, 0, none⟩), .int .i64 y.1]) (fun y => y.2.2)
      (fun y => y.1 ≤ ti.length ∧ TQI h0 y.2.2 (h.length + 2) C (outP x.branches i ti y.1) ti y.2.1 bt Gt) (fun y => ti.length - y.1) (0, a, HC) ⟨by simp, ⟨⟨G, by rw [outP_zero]; exact kC⟩, bxC, stC⟩⟩ rfl rfl ?_
    clear k kC bxC stC pb pb0 c0 c1 c2 c1' c2' kn kd
    rintro ⟨j, a2, H2⟩ ⟨hj, ⟨⟨G2', k⟩, bx, st⟩⟩
    simp only at hj k bx st
    have pb : ∀ l m, cellAt (H2 ++ l) h.length m = (poolV x (some ⟨o, off, none⟩))[m]? := fun l m => by
      rw [cellAt_ext (k.ext.trans (Ext.push H2 l)) (by omega)]
      simp [cellAt, q0]
    have pb0 : ∀ m, cellAt H2 h.length m = (poolV x (some ⟨o, off, none⟩))[m]? := fun m => by simpa using pb [] m
    have hCl : C < H2.length := (List.getElem?_eq_some_iff.1 bx).1
    have cC0 : cellAt H2 C 0 = some (.slice bt ti.length ti.length) := by simp [cellAt, bx]
    have cC : ∀ l, cellAt (H2 ++ l) C 0 = some (.slice bt ti.length ti.length) := fun l => by rw [cellAt_ext (Ext.push H2 l) hCl]; exact cC0
    simp only [poolV] at pb pb0
    simp [mkF, cC0]
    refine asplitK_intro (fun hc2 => ?_) (fun hc2 => ?_) <;> simp at hc2 <;> simp [hc2]
    · obtain ⟨oi, offi, rfl, d0, d1, d2, d3⟩ := itemAt st hc2
      refine drawK true (by kernel_rfl) ?_
      simp [cC0, pb0, hc2, d0]
      have hpj := hpl _ (List.getElem_mem hc2)
      refine callK (l12Winner_c x (some ⟨o, off, none⟩) F w tBranch tNode _ (kb.ext k.ext) hl ti[j].path (by omega)) ?_
      rintro _ _ ⟨⟨v, rfl⟩, rfl⟩
      refine ⟨fun _ => Ext.push _ _, ?_⟩
      have hwin : pickW x.branches ti[j].path (holdTo x.branches ti[j].path x.branches.length) (-1) = win x.branches ti[j].path := rfl
      rw [hwin]
      simp
      refine asplitK_intro (fun hd => ?_) (fun hd => ?_) <;> have hd' := hd <;> simp at hd <;> simp [hd']
      · have hkt := outP_yes hc2 hd
        have hle := outP_len x.branches i ti j
        have kv : AI h0 (H2 ++ v) (h.length + 2) (outP x.branches i ti j) a2 G2' := k.to ⟨_, rfl⟩
        have ccB := k.cell v
        obtain ⟨oi', offi', ei, f0, f1, f2, f3⟩ := itemAt (st.to (h' := H2 ++ v) ⟨_, rfl⟩) hc2
        simp at ei
        obtain ⟨rfl, rfl⟩ := ei
        refine drawK true (by kernel_rfl) ?_
        simp [ccB, cC, hc2, f0, f1, f2, f3]
        refine callK (l10Put_c (outP x.branches i ti j) ti[j] a2 G2' true _ kv.sl (by omega)) ?_
        rintro _ H3 ⟨a3, G3, rfl, o3⟩
        refine ⟨fun _ => o3.ext, ?_⟩
        obtain ⟨s1, s2, s3⟩ := kv.set o3.ext o3.sl o3.nd o3.new
        rw [← hkt] at s2 s3 ⊢
        simp [s1]
        refine anext (j + 1, a3, setsAt H3 (h.length + 2) 0 [.slice a3 (outP x.branches i ti (j + 1)).length (outP x.branches i ti (j + 1)).length]) ⟨hc2, ⟨⟨G3, s2⟩, ?_, ?_⟩⟩ (by simp only; omega) (by simp [pickF, wrap_succ (show j < 9223372036854775807 by omega)]) rfl (by simp)
        · simp only
          rw [s3 C hCB (by simp; omega), List.getElem?_append_left hCl]
          exact bx
        · exact st.frame fun q hq => by
            have h1 := st.lt q hq
            simp only
            rw [s3 q (fun e => hBt (e ▸ hq)) (by simp; omega), List.getElem?_append_left h1]
      · have hkt := outP_no hc2 hd
        exact anext (j + 1, a2, H2 ++ v) ⟨hc2, ⟨⟨G2', by simp only; rw [hkt]; exact k.to ⟨_, rfl⟩⟩, by rw [List.getElem?_append_left hCl]; exact bx, st.to ⟨_, rfl⟩⟩⟩ (by simp only; omega) (by simp [pickF, wrap_succ (show j < 9223372036854775807 by omega)]) rfl (by simp)
    · obtain rfl : j = ti.length := by omega
      rw [hsucc] at k
      exact anext (i + 1, a2, H2) ⟨hc, G2', k⟩ (by simp only; omega) (by simp [pickF, wrap_succ (show i < 9223372036854775807 by omega)]) rfl (by simp)
  · obtain rfl : i = x.branches.length := by omega
    have cB := k.cell []
    simp only [List.append_nil] at cB
    have hlk := k.len
    have y1 : H[h.length + 1]? = some ⟨true, true, 29, [.slice none 0 0]⟩ := by rw [k.ext.2 _ (by omega)]; exact q1
    have hc1 : canSet H (h.length + 1) 0 1 = true := by simp [canSet, y1]
    have hr1 : cellAt (setsAt H (h.length + 1) 0 [.slice a (specF x.branches x.branches.length).length (specF x.branches x.branches.length).length]) (h.length + 1) 0 = some (.slice a (specF x.branches x.branches.length).length (specF x.branches x.branches.length).length) := cell_after hc1
    simp [cB, hc1, hr1]
    have hne : ∀ q, q ≠ h.length + 1 → (setsAt H (h.length + 1) 0 [.slice a (specF x.branches x.branches.length).length (specF x.branches x.branches.length).length])[q]? = H[q]? := fun q hq => by rw [setsAt_get, if_neg (fun e => hq e.symm)]
    refine ⟨G, ⟨by rw [setsAt_len]; have := k.ext.1; omega, fun q hq => ?_⟩, k.sl.frame fun q hq => hne q (by have := k.nw q hq; omega), k.nd, fun q hq => by have := k.nw q hq; omega⟩
    rw [hne q (by omega)]
    exact (x0.trans k.ext).2 q hq
end
end Go.Proofs.YtgfilbekfkhjjaaGreat.Hz
