/- PoolOk: the program. -/
import Derived.Test.YtgfilbekfkhjjaaGreatHyQD
import Derived.Test.YtgfilbekfkhjjaaGreatHyHA
namespace Go.Proofs.YtgfilbekfkhjjaaGreat.Hz
open Go.RowKit
set_option linter.unusedVariables false
set_option linter.unusedSimpArgs false
set_option maxRecDepth 20000

/-- All the items so far, in the program's box. -/
structure AI (h H : Hp) (B : Nat) (acc : List Item) (a : Option Addr) (G : List Nat) : Prop where
  ext : Ext h H
  lo : h.length ≤ B
  len : B < H.length
  ab : H[B]? = some ⟨true, true, 29, [.slice a acc.length acc.length]⟩
  sl : slR true 72 itemE H acc a G
  nd : G.Nodup
  nw : ∀ q ∈ G, B < q
section
variable {h H H2 : Hp} {B : Nat} {acc : List Item} {a : Option Addr} {G : List Nat}
theorem AI.grow (k : AI h H B acc a G) (x : Ext H H2) : AI h H2 B acc a G :=
  have hl := k.len
  ⟨k.ext.trans x, k.lo, by have := x.1; omega, by rw [x.2 _ (by omega)]; exact k.ab, k.sl.ext x, k.nd, k.nw⟩
theorem AI.to (k : AI h H B acc a G) (q : ∃ l, H2 = H ++ l) : AI h H2 B acc a G := by
  obtain ⟨l, rfl⟩ := q
  exact k.grow (Ext.push _ _)
theorem AI.cell (k : AI h H B acc a G) (l : Hp) : cellAt (H ++ l) B 0 = some (.slice a acc.length acc.length) := by
  rw [cellAt_ext (Ext.push H l) (by have := k.len; omega)]
  simp [cellAt, k.ab]
/-- One item more. -/
theorem AI.app (k : AI h H B acc a G) (x : Item) (hl : acc.length ≤ 100000000) {w : Bool} {t : TypeId} {ys : List Item} {b : Option Addr} {K : List Nat} (sy : slR w t itemE H ys b K) (hd : ∀ q ∈ K, q ∉ G) (hk : ∀ q ∈ K, B < q) :
    ∃ a' H' G', aappend Tryz.prog (H ++ [⟨true, true, 72, [.string (S x.path), .int .i64 x.kind, .string (S x.data), .int .i64 x.time]⟩]) 27 27 (.slice a acc.length acc.length) (.slice (some ⟨H.length, 0, none⟩) 1 1) = some (.slice a' (acc.length + 1) (acc.length + 1), H') ∧
      canSet H' B 0 1 = true ∧ AI h (setsAt H' B 0 [.slice a' (acc.length + 1) (acc.length + 1)]) B (acc ++ [x]) a' G' ∧ slR w t itemE (setsAt H' B 0 [.slice a' (acc.length + 1) (acc.length + 1)]) ys b K ∧ (∀ q ∈ K, q ∉ G') := by
  obtain ⟨a', H', G', e1, p⟩ := PutR.app k.sl k.nd x hl
  have hln := k.len
  have hlo := k.lo
  have g2 : H'[B]? = some ⟨true, true, 29, [.slice a acc.length acc.length]⟩ := by
    rw [p.kp.2 _ (by omega) (fun hm => by have := k.nw _ hm; omega)]; exact k.ab
  have hne : ∀ q, q ≠ B → (setsAt H' B 0 [.slice a' (acc.length + 1) (acc.length + 1)])[q]? = H'[q]? := fun q hq => by rw [setsAt_get, if_neg (fun e => hq e.symm)]
  have hG : ∀ q ∈ G', B < q := fun q hq => (p.sub q hq).elim (fun h1 => k.nw q h1) (fun h1 => by omega)
  refine ⟨a', H', G', e1, by simp [canSet, g2], ⟨⟨by rw [setsAt_len]; have := p.kp.1; have := k.ext.1; omega, fun q hq => ?_⟩, k.lo, by rw [setsAt_len]; have := p.kp.1; omega, ?_, p.sl.frame fun q hq => hne q (by have := hG q hq; omega), p.nd, hG⟩, (p.kp.sl sy hd).frame fun q hq => hne q (by have := hk q hq; omega), fun q hq hm => (p.sub q hm).elim (hd q hq) (fun h1 => by have := sy.lt q hq; omega)⟩
  · rw [hne q (by omega), p.kp.2 q (by have := k.ext.1; omega) (fun hm => by have := k.nw _ hm; omega)]
    exact k.ext.2 q hq
  · rw [setsAt_get, if_pos rfl, g2]
    simp [setL]
end
theorem Ext.out {h H : Hp} (x : Ext h H) (l : Hp) : ∃ t, H ++ l = h ++ t := by
  obtain ⟨u, rfl⟩ := x.pre
  exact ⟨u ++ l, by simp⟩
theorem brScan_drop (acc : List Item) (bs : List Branch) (i : Nat) (hi : i < bs.length) : brScan acc (bs.drop i) = (brOk bs[i] && scanOk acc (treeItems bs[i].fs) && brScan (acc ++ treeItems bs[i].fs) (bs.drop (i + 1))) := by
  rw [List.drop_eq_getElem_cons hi]; rfl
theorem scanOk_drop (acc xs : List Item) (i : Nat) (hi : i < xs.length) : scanOk acc (xs.drop i) = (!clash acc xs[i] && scanOk (acc ++ [xs[i]]) (xs.drop (i + 1))) := by
  rw [List.drop_eq_getElem_cons hi]; rfl
section
variable (x : Pool) (b : Option Addr) (F : List Nat) (w : Bool) (tBranch tNode : TypeId) (h : Hp) (k1 : slR w tBranch (branchE w tNode) h x.branches b F) (hl : x.nl ≤ 1048576)
include k1 hl
set_option maxHeartbeats 8000000 in
theorem poolOk_impl_c :
    ACall Tryz.prog 21 [.agg #[.int .i64 x.policy, .int .i64 x.minFree, .slice b x.branches.length x.branches.length, .bool x.move.on, .bool x.move.clean, .int .i64 x.move.src, .int .i64 x.move.dst, .string (S x.move.path), .int .i64 x.move.gen, .int .i64 x.move.done]] h fun r h' => (∃ t, h' = h ++ t) ∧ r = .bool (poolOk x) := by
  refine acall mixed Tryz.func21 rfl (by kernel_rfl) ?_
  obtain ⟨hn, hp, hf⟩ := pool_nl hl
  simp [Tryz.f21]
  refine callK0 (withinR _ _ _ _) ?_
  rintro _ _ ⟨rfl, rfl⟩
  cases e1 : inR x.policy 0 5
  · simp [poolOk_head, headOk, e1]
  simp
  refine callK0 (withinR _ _ _ _) ?_
  rintro _ _ ⟨rfl, rfl⟩
  cases e2 : inR x.minFree 0 36
  · simp [poolOk_head, headOk, e1, e2]
  simp
  refine callK0 (withinR _ _ _ _) ?_
  rintro _ _ ⟨rfl, rfl⟩
  cases e3 : inR (x.branches.length : Int) 1 4
  · simp [poolOk_head, headOk, e1, e2, e3]
  simp
  refine callK0 (moveOk_impl_c x b x.move x.branches.length _ hn hp rfl rfl) ?_
  rintro _ _ ⟨⟨t1, rfl⟩, rfl⟩
  cases e4 : moveOk x
  · simp [poolOk_head, headOk, e1, e2, e3, e4]
  have e0 : headOk x = true := by simp [headOk, e1, e2, e3, e4]
  have hn4 : x.branches.length ≤ 4 := by
    have := (inR_iff.1 e3).2
    omega
  rw [poolOk_scan, e0, Bool.true_and]
  simp
  obtain ⟨B, hB⟩ : ∃ B, B = h.length + (t1.length + 1) := ⟨_, rfl⟩
  have k0 : AI h (h ++ ⟨true, true, 50, poolV x b⟩ :: (t1 ++ [⟨true, true, 29, [.slice none 0 0]⟩])) B [] none [] :=
    ⟨Ext.push _ _, by omega, by rw [hB]; simp, by rw [hB]; simp, ⟨rfl, rfl⟩, List.nodup_nil, fun q hq => by cases hq⟩
  rw [← hB]
  refine aloop mixed [3, 34, 35, 36] (fun (y : Nat × List Item × Option Addr × Hp) => [.pointer (some ⟨B, 0, none⟩), .slice b x.branches.length x.branches.length, .int .i64 x.branches.length, .int .i64 y.1]) (fun y => y.2.2.2) (fun y => y.1 ≤ x.branches.length ∧ y.2.1.length ≤ 7380 * y.1 ∧ brScan y.2.1 (x.branches.drop y.1) = brScan [] x.branches ∧ ∃ G, AI h y.2.2.2 B y.2.1 y.2.2.1 G) (fun y => x.branches.length - y.1) (0, [], none, _) ⟨by simp, by simp, by simp, _, k0⟩ rfl (by simp [poolV]) ?_
  clear k0
  rintro ⟨i, acc, a, H⟩ ⟨hi, hla, hs, G, k⟩
  simp only at hi hla hs k
  simp [mkF]
  refine asplitK_intro (fun hc => ?_) (fun hc => ?_) <;> simp at hc <;> simp [hc]
  · obtain ⟨o, off, b1, G1, b2, G2, rfl, c0, c1, c2, kn, kd⟩ := branchAtX (k1.ext k.ext) hc
    have c0' := c0 []
    have c1' := c1 []
    have c2' := c2 []
    simp only [List.append_nil] at c0' c1' c2'
    rw [brScan_drop _ _ _ hc] at hs
    simp [hc, c0', c1', c2']
    refine callK0 (isMode_c _ _) ?_
    rintro _ _ ⟨rfl, rfl⟩
    cases g1 : inR x.branches[i].mode 0 2
    · simp [← hs, brOk, g1]
      exact k.ext.out _
    simp
    refine callK0 (fsOk_impl_c x.branches[i].fs b1 b2 G1 G2 w tNode _ (kn.to (by simp)) (kd.to (by simp)) (hf i hc)) ?_
    rintro _ _ ⟨⟨t2, rfl⟩, rfl⟩
    cases g2 : fsOk x.branches[i].fs
    · simp [← hs, brOk, g1, g2]
      exact k.ext.out _
    simp
    refine callK0 (treeOf_impl_c x.branches[i].fs b1 b2 G1 G2 w tNode _ (kn.to (by simp)) (kd.to (by simp)) (hf i hc)) ?_
    rintro _ _ ⟨bt, Gt, rfl, ot⟩
    obtain ⟨u, rfl⟩ := ot.ext.pre
    simp at ot
    simp
    have hbr : brOk x.branches[i] = true := by simp [brOk, g1, g2]
    rw [hbr, Bool.true_and] at hs
    have lt := treeItems_le x.branches[i].fs
    generalize treeItems x.branches[i].fs = ti at hs ot lt ⊢
    have kE : AI h (H ++ ⟨true, true, 84, [.int .i64 x.branches[i].mode, .slice b1 x.branches[i].fs.nodes.length x.branches[i].fs.nodes.length, .slice b2 x.branches[i].fs.data.length x.branches[i].fs.data.length]⟩ :: (t2 ++ u)) B acc a G := k.to ⟨_, rfl⟩
    have st := ot.sl
    have hN : ∀ q ∈ Gt, q ∉ G ∧ B < q := fun q hq => by
      have h1 := ot.new q hq
      simp at h1
      have h2 := k.len
      exact ⟨fun hm => by have := k.sl.lt q hm; omega, by omega⟩
    try simp at st
    refine aloop mixed [3, 34, 35, 36, 53, 54, 55] (fun (y : Nat × List Item × Option Addr × Hp) => [.pointer (some ⟨B, 0, none⟩), .slice (some ⟨o, off, none⟩) x.branches.length x.branches.length, .int .i64 x.branches.length, .int .i64 i, .slice bt ti.length ti.length, .int .i64 ti.length, .int .i64 y.1]) (fun y => y.2.2.2)
      (fun y => y.1 ≤ ti.length ∧ y.2.1 = acc ++ ti.take y.1 ∧ (scanOk y.2.1 (ti.drop y.1) && brScan (acc ++ ti) (x.branches.drop (i + 1))) = brScan [] x.branches ∧ ∃ G', AI h y.2.2.2 B y.2.1 y.2.2.1 G' ∧ slR true 72 itemE y.2.2.2 ti bt Gt ∧ ∀ q ∈ Gt, q ∉ G') (fun y => ti.length - y.1) (0, acc, a, _) ⟨by simp, by simp, by simpa using hs, G, kE, st, fun q hq => (hN q hq).1⟩ rfl rfl ?_
    clear st kE hs ot k c0 c1 c2 c0' c1' c2' kn kd
    rintro ⟨j, acc2, a2, H2⟩ ⟨hj, ha2, hs, G2', k, st, hG⟩
    simp only at hj ha2 hs k st
    simp [mkF]
    refine asplitK_intro (fun hc2 => ?_) (fun hc2 => ?_) <;> simp at hc2 <;> simp [hc2]
    · have hla2 : acc2.length ≤ 7380 * i + j := by rw [ha2]; simp; omega
      obtain ⟨oi, offi, rfl, d0, d1, d2, d3⟩ := itemAt st hc2
      simp [hc2, d0, d1, d2, d3]
      have kE : AI h (H2 ++ [⟨true, true, 72, [.string (S ti[j].path), .int .i64 ti[j].kind, .string (S ti[j].data), .int .i64 ti[j].time]⟩]) B acc2 a2 G2' := k.to ⟨_, rfl⟩
      have cc := k.cell
      simp [cc]
      refine callK0 (treeGet_impl_c acc2 ti[j].path a2 G2' true _ _ (kE.sl.to (by simp)) (by omega)) ?_
      rintro _ _ ⟨⟨v, rfl⟩, rfl⟩
      simp [Item.v]
      rw [scanOk_drop _ _ _ hc2] at hs
      have hcl : clash acc2 ti[j] = ((treeGet acc2 ti[j].path).2 && (treeGet acc2 ti[j].path).1.kind != ti[j].kind) := rfl
      have kF : AI h (H2 ++ ⟨true, true, 72, [.string (S ti[j].path), .int .i64 ti[j].kind, .string (S ti[j].data), .int .i64 ti[j].time]⟩ :: (v ++ [⟨true, true, 72, [.string (S (treeGet acc2 ti[j].path).1.path), .int .i64 (treeGet acc2 ti[j].path).1.kind, .string (S (treeGet acc2 ti[j].path).1.data), .int .i64 (treeGet acc2 ti[j].path).1.time]⟩])) B acc2 a2 G2' := k.to ⟨_, rfl⟩
      obtain ⟨a3, H3, G3, eq3, cs3, k3, st3, hG3⟩ := kF.app ti[j] (by omega) (st.to ⟨_, rfl⟩) hG (fun q hq => (hN q hq).2)
      have hl3 : (acc2 ++ [ti[j]]).length = acc2.length + 1 := by simp
      have ht3 : acc2 ++ [ti[j]] = acc ++ ti.take (j + 1) := by rw [List.take_succ_eq_append_getElem hc2, ha2]; simp
      simp at eq3
      refine asplitK_intro (fun hd => ?_) (fun hd => ?_)
      · simp [hd]
        refine asplitK_intro (fun hg => ?_) (fun hg => ?_) <;> have hg' := hg <;> simp [hg']
        · rw [hcl, hd, hg'] at hs
          simp at hs
          rw [← hs]
          exact ⟨k.ext.out _, rfl⟩
        · rw [hcl, hd, hg'] at hs
          simp at hs
          simp [cc, eq3, cs3]
          exact anext (j + 1, acc2 ++ [ti[j]], a3, _) ⟨hc2, ht3, by simpa using hs, G3, k3, st3, hG3⟩ (by simp only; omega) (by simp [pickF, wrap_succ (show j < 9223372036854775807 by omega)]) rfl (by simp)
      · rw [hcl, hd] at hs
        simp at hs
        simp [hd, cc, eq3, cs3]
        exact anext (j + 1, acc2 ++ [ti[j]], a3, _) ⟨hc2, ht3, by simpa using hs, G3, k3, st3, hG3⟩ (by simp only; omega) (by simp [pickF, wrap_succ (show j < 9223372036854775807 by omega)]) rfl (by simp)
    · obtain rfl : j = ti.length := by omega
      simp [scanOk] at hs ha2
      subst ha2
      exact anext (i + 1, acc ++ ti, a2, H2) ⟨hc, by simp; omega, hs, G2', k⟩ (by simp only; omega) (by simp [pickF, wrap_succ (show i < 9223372036854775807 by omega)]) rfl (by simp)
  · obtain rfl : i = x.branches.length := by omega
    simp [brScan] at hs
    simp [← hs]
    have := k.ext.out []
    simpa using this
end
end Go.Proofs.YtgfilbekfkhjjaaGreat.Hz
