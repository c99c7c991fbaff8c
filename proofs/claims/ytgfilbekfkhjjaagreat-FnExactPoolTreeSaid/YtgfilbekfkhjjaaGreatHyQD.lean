/- PoolOk: the reference. -/
import Derived.Test.YtgfilbekfkhjjaaGreatHyQB
import Derived.Test.YtgfilbekfkhjjaaGreatHyQC
namespace Go.Proofs.YtgfilbekfkhjjaaGreat.Hz
open Go.RowKit
set_option linter.unusedVariables false
set_option linter.unusedSimpArgs false
set_option maxRecDepth 20000

theorem branchAtX {h : Hp} {w : Bool} {t tNode : TypeId} {es : List Branch} {a : Option Addr} {F : List Nat} (k : slR w t (branchE w tNode) h es a F) {i : Nat} (hi : i < es.length) : ∃ o off b1 G1 b2 G2, a = some ⟨o, off, none⟩ ∧ (∀ l, cellAt (h ++ l) o (off + i * 3) = some (.int .i64 es[i].mode)) ∧ (∀ l, cellAt (h ++ l) o (off + i * 3 + 1) = some (.slice b1 es[i].fs.nodes.length es[i].fs.nodes.length)) ∧ (∀ l, cellAt (h ++ l) o (off + i * 3 + 2) = some (.slice b2 es[i].fs.data.length es[i].fs.data.length)) ∧ slR w tNode (nodeE w) h es[i].fs.nodes b1 G1 ∧ slR w 9 strE h es[i].fs.data b2 G2 := by
  obtain ⟨o, off, b1, G1, b2, G2, rfl, c0, c1, c2, k1, k2, -, -⟩ := branchAt k hi
  have ho : o < h.length := by
    obtain ⟨ob, e, -⟩ := cellAt_some c0
    exact (List.getElem?_eq_some_iff.1 e).1
  refine ⟨o, off, b1, G1, b2, G2, rfl, fun l => ?_, fun l => ?_, fun l => ?_, k1, k2⟩ <;> rw [cellAt_ext (Ext.push h l) ho] <;> assumption
theorem pool_nl {x : Pool} (hl : x.nl ≤ 1048576) : x.branches.length ≤ 1048576 ∧ x.move.path.length ≤ 1048576 ∧ ∀ i (hi : i < x.branches.length), x.branches[i].fs.nl ≤ 1048576 := by
  simp only [Pool.nl, Move.nl] at hl
  refine ⟨by omega, by omega, fun i hi => ?_⟩
  have := sumL_mem Branch.nl (List.getElem_mem hi)
  simp only [Branch.nl] at this
  have h2 : sumL (fun x => x.fs.nl) x.branches = sumL Branch.nl x.branches := rfl
  omega
theorem poolOk_head {x : Pool} (h : headOk x = false) : poolOk x = false := by simp [poolOk, h]
theorem poolOk_br {x : Pool} {i : Nat} (hi : i < x.branches.length) (h : brOk x.branches[i] = false) : poolOk x = false := by
  have : x.branches.all brOk = false := List.all_eq_false.2 ⟨_, List.getElem_mem hi, by simp [h]⟩
  simp [poolOk, this]
theorem poolOk_pair {x : Pool} {k i : Nat} (hk : k < i) (hi : i < x.branches.length) (h : agreeB (treeItems x.branches[i].fs) (treeItems x.branches[k].fs) = false) : poolOk x = false := by
  have : ¬ (trees x.branches).flatten.Pairwise agr := fun hp => by
    have := (pairs_agree _).1 hp k i hk hi
    rw [h] at this
    cases this
  simp [poolOk, this]
theorem poolOk_all {x : Pool} (h1 : headOk x = true) (h2 : ∀ i (hi : i < x.branches.length), brOk x.branches[i] = true) (h3 : ∀ (k i : Nat) (hk : k < i) (hi : i < x.branches.length), agreeB (treeItems x.branches[i].fs) (treeItems x.branches[k].fs) = true) : poolOk x = true := by
  have e2 : x.branches.all brOk = true := List.all_eq_true.2 fun b hb => by
    obtain ⟨i, hi, rfl⟩ := List.mem_iff_getElem.1 hb
    exact h2 i hi
  simp [poolOk, h1, e2, (pairs_agree _).2 h3]
def poolV (x : Pool) (b : Option Addr) : List Value := [.int .i64 x.policy, .int .i64 x.minFree, .slice b x.branches.length x.branches.length, .bool x.move.on, .bool x.move.clean, .int .i64 x.move.src, .int .i64 x.move.dst, .string (S x.move.path), .int .i64 x.move.gen, .int .i64 x.move.done]
section
variable (x : Pool) (b : Option Addr) (F : List Nat) (w : Bool) (tBranch tNode : TypeId) (h : Hp) (k1 : slR w tBranch (branchE w tNode) h x.branches b F) (hl : x.nl ≤ 1048576)
include k1 hl
set_option maxHeartbeats 4000000 in
theorem poolOk_spec_c :
    ACall Tryz.prog 19 [.agg #[.int .i64 x.policy, .int .i64 x.minFree, .slice b x.branches.length x.branches.length, .bool x.move.on, .bool x.move.clean, .int .i64 x.move.src, .int .i64 x.move.dst, .string (S x.move.path), .int .i64 x.move.gen, .int .i64 x.move.done]] h fun r h' => (∃ t, h' = h ++ t) ∧ r = .bool (poolOk x) := by
  refine acall mixed Tryz.func19 rfl (by kernel_rfl) ?_
  obtain ⟨hn, hp, hf⟩ := pool_nl hl
  simp [Tryz.f19]
  refine callK0 (l1InR _ _ _ _) ?_
  rintro _ _ ⟨rfl, rfl⟩
  cases e1 : inR x.policy 0 5
  · simp [poolOk_head, headOk, e1]
  simp
  refine callK0 (l1InR _ _ _ _) ?_
  rintro _ _ ⟨rfl, rfl⟩
  cases e2 : inR x.minFree 0 36
  · simp [poolOk_head, headOk, e1, e2]
  simp
  refine callK0 (l1InR _ _ _ _) ?_
  rintro _ _ ⟨rfl, rfl⟩
  cases e3 : inR (x.branches.length : Int) 1 4
  · simp [poolOk_head, headOk, e1, e2, e3]
  simp
  refine callK0 (moveOk_spec_c x.move x.branches.length _ hn hp x rfl rfl) ?_
  rintro _ _ ⟨⟨t1, rfl⟩, rfl⟩
  cases e4 : moveOk x
  · simp [poolOk_head, headOk, e1, e2, e3, e4]
  have e0 : headOk x = true := by simp [headOk, e1, e2, e3, e4]
  simp
  refine aloop mixed [1, 3, 4] (fun (y : Nat × Hp) => [.pointer (some ⟨h.length, 0, none⟩), .int .i64 x.branches.length, .int .i64 y.1]) (fun y => h ++ ⟨true, true, 50, poolV x b⟩ :: y.2) (fun y => y.1 ≤ x.branches.length ∧ ∀ i (hi : i < x.branches.length), i < y.1 → brOk x.branches[i] = true) (fun y => x.branches.length - y.1) (0, t1) ⟨by simp, by simp⟩ rfl (by simp [poolV]) ?_
  rintro ⟨i, u⟩ ⟨hi, hB⟩
  simp at hi hB
  simp [mkF, poolV]
  refine asplitK_intro (fun hc => ?_) (fun hc => ?_) <;> simp at hc <;> simp [hc]
  · obtain ⟨o, off, b1, G1, b2, G2, rfl, c0, c1, c2, kn, kd⟩ := branchAtX k1 hc
    simp [hc, c0]
    refine callK0 (l1InR _ _ _ _) ?_
    rintro _ _ ⟨rfl, rfl⟩
    cases g1 : inR x.branches[i].mode 0 2
    · simp [poolOk_br hc (by simp [brOk, g1])]
    simp [hc, c1, c2]
    refine callK0 (fsOk_spec_c x.branches[i].fs b1 b2 G1 G2 w tNode _ (kn.to (by simp)) (kd.to (by simp)) (hf i hc)) ?_
    rintro _ _ ⟨⟨t2, rfl⟩, rfl⟩
    cases g2 : fsOk x.branches[i].fs
    · simp [poolOk_br hc (by simp [brOk, g1, g2])]
    simp
    refine anext (i + 1, _) ⟨hc, fun j hj hlt => ?_⟩ (by simp only; omega) (by simp [pickF, wrap_succ (show i < 9223372036854775807 by omega)]) rfl (by simp [poolV])
    rcases Nat.lt_or_ge j i with hji | hji
    · exact hB j hj hji
    · simp only at hlt
      obtain rfl : j = i := by omega
      simp [brOk, g1, g2]
  · obtain rfl : i = x.branches.length := by omega
    simp
    have h1n : 1 ≤ x.branches.length := by
      have := (inR_iff.1 e3).1
      omega
    refine aloop mixed [1, 3, 5] (fun (y : Nat × Hp) => [.pointer (some ⟨h.length, 0, none⟩), .int .i64 x.branches.length, .int .i64 y.1]) (fun y => h ++ ⟨true, true, 50, poolV x b⟩ :: y.2) (fun y => y.1 ≤ x.branches.length ∧ ∀ (k i : Nat) (hk : k < i) (hi : i < x.branches.length), i < y.1 → agreeB (treeItems x.branches[i].fs) (treeItems x.branches[k].fs) = true) (fun y => x.branches.length - y.1) (1, u) ⟨by simp; omega, by intro k i hk hi h1; simp at h1; omega⟩ rfl (by simp [poolV]) ?_
    rintro ⟨i, u2⟩ ⟨hi2, hP⟩
    simp at hi2 hP
    simp [mkF, poolV]
    refine asplitK_intro (fun hc2 => ?_) (fun hc2 => ?_) <;> simp at hc2 <;> simp [hc2]
    · refine aloop mixed [1, 3, 5, 6] (fun (y : Nat × Hp) => [.pointer (some ⟨h.length, 0, none⟩), .int .i64 x.branches.length, .int .i64 i, .int .i64 y.1]) (fun y => h ++ ⟨true, true, 50, poolV x b⟩ :: y.2) (fun y => y.1 ≤ i ∧ ∀ (k : Nat) (hk : k < x.branches.length), k < y.1 → agreeB (treeItems x.branches[i].fs) (treeItems x.branches[k].fs) = true) (fun y => i - y.1) (0, u2) ⟨by simp, by intro k hk h1; simp at h1⟩ rfl (by simp [poolV]) ?_
      rintro ⟨k, u3⟩ ⟨hk3, hQ⟩
      simp at hk3 hQ
      simp [mkF, poolV]
      refine asplitK_intro (fun hc3 => ?_) (fun hc3 => ?_) <;> simp at hc3 <;> simp [hc3]
      · have hck : k < x.branches.length := by omega
        obtain ⟨o, off, b1, G1, b2, G2, rfl, c0, c1, c2, kn, kd⟩ := branchAtX k1 hc2
        obtain ⟨o', off', b3, G3, b4, G4, eo, d0, d1, d2, kn2, kd2⟩ := branchAtX k1 hck
        simp at eo
        obtain ⟨rfl, rfl⟩ := eo
        refine drawK true (by kernel_rfl) ?_
        simp [hc2, hck, c1, c2, d1, d2]
        refine callK (treeOf_spec_c x.branches[i].fs b1 b2 G1 G2 w tNode _ (kn.to (by simp)) (kd.to (by simp)) (hf i hc2)) ?_
        rintro _ _ ⟨bt, Gt, rfl, st, xt⟩
        refine ⟨fun _ => xt, ?_⟩
        obtain ⟨v1, rfl⟩ := xt.pre
        simp at st
        simp [hc2, hck, c1, c2, d1, d2]
        refine callK (treeOf_spec_c x.branches[k].fs b3 b4 G3 G4 w tNode _ (kn2.to (by simp)) (kd2.to (by simp)) (hf k hck)) ?_
        rintro _ _ ⟨bs, Gs, rfl, ss, xs⟩
        refine ⟨fun _ => xs, ?_⟩
        obtain ⟨v2, rfl⟩ := xs.pre
        simp at ss
        simp
        have l1 := treeItems_le x.branches[i].fs
        have l2 := treeItems_le x.branches[k].fs
        refine callK (agree_c _ _ bt bs Gt Gs true true _ _ _ (st.to (by simp)) (ss.to (by simp)) (by omega) (by omega)) ?_
        rintro _ _ ⟨⟨v3, rfl⟩, rfl⟩
        refine ⟨fun _ => Ext.push _ _, ?_⟩
        cases g : agreeB (treeItems x.branches[i].fs) (treeItems x.branches[k].fs)
        · simp [poolOk_pair hc3 hc2 g]
        simp
        refine anext (k + 1, _) ⟨hc3, fun j hj hlt => ?_⟩ (by simp only; omega) (by simp [pickF, wrap_succ (show k < 9223372036854775807 by omega)]) rfl (by simp [poolV])
        rcases Nat.lt_or_ge j k with hjk | hjk
        · exact hQ j hj hjk
        · simp only at hlt
          obtain rfl : j = k := by omega
          exact g
      · obtain rfl : k = i := by omega
        refine anext (k + 1, _) ⟨hc2, fun p q hpq hq hlt => ?_⟩ (by simp only; omega) (by simp [pickF, wrap_succ (show k < 9223372036854775807 by omega)]) rfl (by simp [poolV])
        rcases Nat.lt_or_ge q k with hjk | hjk
        · exact hP p q hpq hq hjk
        · simp only at hlt
          obtain rfl : q = k := by omega
          exact hQ p (by omega) hpq
    · obtain rfl : i = x.branches.length := by omega
      exact poolOk_all e0 (fun j hj => hB j hj hj) (fun k j hk hj => hP k j hk hj hj)
end
end Go.Proofs.YtgfilbekfkhjjaaGreat.Hz
