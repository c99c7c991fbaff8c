/- Winner: both programs; Holders of the reference. -/
import Derived.Test.YtgfilbekfkhjjaaGreatHyQG
namespace Go.Proofs.YtgfilbekfkhjjaaGreat.Hz
open Go.RowKit
set_option linter.unusedVariables false
set_option linter.unusedSimpArgs false
set_option maxRecDepth 20000

noncomputable def pickW (bs : List Branch) (p : Str) : List Nat → Int → Int
  | [], b => b
  | k :: ks, b => pickW bs p ks (if b < 0 ∨ genI bs p b.toNat < genI bs p k then (k : Int) else b)
noncomputable def winner (x : Pool) (p : Str) : Int := if poolOk x then pickW x.branches p (holdTo x.branches p x.branches.length) (-1) else -1
theorem pickW_drop (bs : List Branch) (p : Str) (ks : List Nat) (k : Nat) (hk : k < ks.length) (b : Int) : pickW bs p (ks.drop k) b = pickW bs p (ks.drop (k + 1)) (if b < 0 ∨ genI bs p b.toNat < genI bs p ks[k] then (ks[k] : Int) else b) := by
  rw [List.drop_eq_getElem_cons hk]; rfl
theorem genAt_pos {f : Fs} {p : Str} (hw : 0 ≤ walk f p) : 0 ≤ genAt f p := by
  rcases walk_okd f p with h1 | ⟨hf, -, h0, h1, -⟩
  · omega
  have sh := fsOk_shape hf
  obtain ⟨m, hm⟩ := Int.eq_ofNat_of_zero_le h0
  have hlt : m < f.nodes.length := by omega
  have hkn : nodeAtI f (m : Int) = f.nodes[m] := nodeAtI_get hlt
  have hn := sh.ok _ (List.getElem_mem hlt)
  unfold genAt
  rw [if_neg (by omega), hm]
  show 0 ≤ (nodeAtI f (m : Int)).gen
  rw [hkn]
  unfold nodeOk at hn
  split at hn
  · simp at hn
    omega
  · simp only [Bool.and_eq_true] at hn
    exact (inR_iff.1 hn.1.1.1.1.1.2).1
theorem asInts_get (ks : List Nat) (k : Nat) (hk : k < ks.length) : (asInts ks)[k]'(by rw [asInts_len]; exact hk) = (ks[k] : Int) := by simp [asInts]
section
variable (x : Pool) (b : Option Addr) (F : List Nat) (w : Bool) (tBranch tNode : TypeId) (h : Hp) (k1 : slR w tBranch (branchE w tNode) h x.branches b F) (hl : x.nl ≤ 1048576) (p : Str) (hps : p.length ≤ 1048576)
include k1 hl hps
set_option maxHeartbeats 4000000 in
theorem holders_spec_c :
    ACall Tryz.prog 27 [.agg #[.int .i64 x.policy, .int .i64 x.minFree, .slice b x.branches.length x.branches.length, .bool x.move.on, .bool x.move.clean, .int .i64 x.move.src, .int .i64 x.move.dst, .string (S x.move.path), .int .i64 x.move.gen, .int .i64 x.move.done], .string (S p)] h fun r h' => ∃ a G, r = .slice a (holders x p).length (holders x p).length ∧ Own h 3 intE h' (holders x p) a G := by
  refine acall mixed Tryz.func27 rfl (by kernel_rfl) ?_
  simp [Tryz.f27]
  refine callK0 (poolOk_spec_c x b F w tBranch tNode _ (k1.to (by simp)) hl) ?_
  rintro _ _ ⟨⟨t1, rfl⟩, rfl⟩
  cases e1 : poolOk x
  · simp [holders, e1]
    have o0 := empty1 intE (h ++ ⟨true, true, 50, poolV x b⟩ :: t1) 3
    have o1 := Own.of_new (Ext.push h _) o0
    simp [poolV] at o1
    exact ⟨_, o1⟩
  simp
  refine callK0 (l12Holders_c x b F w tBranch tNode _ (k1.to (by simp)) hl p hps) ?_
  rintro _ _ ⟨a, G, rfl, own⟩
  simp [holders, e1]
  exact ⟨G, Own.of_new (Ext.push h _) own⟩
set_option maxHeartbeats 8000000 in
theorem l12Winner_c :
    ACall Tryz.prog 67 [.agg #[.int .i64 x.policy, .int .i64 x.minFree, .slice b x.branches.length x.branches.length, .bool x.move.on, .bool x.move.clean, .int .i64 x.move.src, .int .i64 x.move.dst, .string (S x.move.path), .int .i64 x.move.gen, .int .i64 x.move.done], .string (S p)] h fun r h' => (∃ t, h' = h ++ t) ∧ r = .int .i64 (pickW x.branches p (holdTo x.branches p x.branches.length) (-1)) := by
  refine acall mixed Tryz.func67 rfl (by kernel_rfl) ?_
  obtain ⟨hn, hp, hf⟩ := pool_nl hl
  simp [Tryz.f67]
  refine callK0 (l12Holders_c x b F w tBranch tNode _ (k1.to (by simp)) hl p hps) ?_
  rintro _ _ ⟨a, G, rfl, own⟩
  obtain ⟨t, rfl⟩ := own.ext.pre
  have sl0 := own.sl
  simp at sl0
  have hlen := holdTo_len x.branches p x.branches.length
  have hin : ∀ i ∈ holdTo x.branches p x.branches.length, i < x.branches.length := fun i hi => (holdTo_mem hi).1
  generalize holdTo x.branches p x.branches.length = ks at sl0 own hlen hin ⊢
  have hal := asInts_len ks
  simp
  refine aloop mixed [1, 2, 5, 6, 7] (fun (y : Nat × Int × Hp) => [.string (S p), .pointer (some ⟨h.length, 0, none⟩), .int .i64 y.2.1, .slice a (asInts ks).length (asInts ks).length, .int .i64 y.1]) (fun y => h ++ ⟨true, true, 50, poolV x b⟩ :: y.2.2) (fun y => y.1 ≤ ks.length ∧ (y.2.1 = -1 ∨ ∃ m : Nat, m < x.branches.length ∧ y.2.1 = m) ∧ pickW x.branches p (ks.drop y.1) y.2.1 = pickW x.branches p ks (-1) ∧ slR true 3 intE (h ++ ⟨true, true, 50, poolV x b⟩ :: y.2.2) (asInts ks) a G) (fun y => ks.length - y.1) (0, -1, t) ⟨by simp, .inl rfl, by simp, by simpa [poolV] using sl0⟩ rfl (by simp [poolV]) ?_
  clear sl0 own
  rintro ⟨i, bst, u⟩ ⟨hi, hb, hs, sl⟩
  simp only at hi hb hs sl
  simp [mkF, poolV]
  refine asplitK_intro (fun hc => ?_) (fun hc => ?_) <;> simp at hc <;> simp [hc]
  · have hci : i < ks.length := by omega
    have hci' : i < (asInts ks).length := by omega
    obtain ⟨oi, offi, rfl, ci⟩ := intEAt sl hci'
    rw [asInts_get ks i hci] at ci
    have hki := hin _ (List.getElem_mem hci)
    rw [pickW_drop _ _ _ _ hci] at hs
    simp only [poolV] at ci
    rcases hb with rfl | ⟨m, hm, rfl⟩
    · refine drawK true (by kernel_rfl) ?_
      simp [hci', ci]
      rw [if_pos (.inl (by omega))] at hs
      exact anext (i + 1, _, u) ⟨hci, .inr ⟨_, hki, rfl⟩, hs, sl⟩ (by simp only; omega) (by simp [pickF, wrap_succ (show i < 9223372036854775807 by omega)]) rfl (by simp [poolV])
    · obtain ⟨o, off, b1, G1, b2, G2, rfl, c0, c1, c2, kn, kd⟩ := branchAtX k1 hki
      obtain ⟨o', off', b3, G3, b4, G4, eo, d0, d1, d2, kn2, kd2⟩ := branchAtX k1 hm
      simp at eo
      obtain ⟨rfl, rfl⟩ := eo
      have hm0 : ¬ ((m : Int) < 0) := by omega
      refine drawK true (by kernel_rfl) ?_
      simp [hm0, hci', ci, hki, c1, c2, hm, d1, d2]
      refine callK (genAt_spec_c x.branches[ks[i]].fs b1 b2 G1 G2 w tNode _ (kn.to (by simp)) (kd.to (by simp)) (hf _ hki) p hps) ?_
      rintro _ _ ⟨⟨t2, rfl⟩, rfl⟩
      refine ⟨fun _ => Ext.push _ _, ?_⟩
      simp [hm0, hm, d1, d2]
      refine callK (genAt_spec_c x.branches[m].fs b3 b4 G3 G4 w tNode _ (kn2.to (by simp)) (kd2.to (by simp)) (hf _ hm) p hps) ?_
      rintro _ _ ⟨⟨t3, rfl⟩, rfl⟩
      refine ⟨fun _ => Ext.push _ _, ?_⟩
      have e1 := genI_get (p := p) hki
      have e2 := genI_get (p := p) hm
      simp only [Int.toNat_natCast, e1, e2] at hs
      have sl2 : slR true 3 intE (h ++ ⟨true, true, 50, poolV x (some ⟨o, off, none⟩)⟩ :: (u ++ (t2 ++ t3))) (asInts ks) (some ⟨oi, offi, none⟩) G := sl.to ⟨t2 ++ t3, by simp⟩
      have ci2 : cellAt (h ++ ⟨true, true, 50, poolV x (some ⟨o, off, none⟩)⟩ :: (u ++ (t2 ++ t3))) oi (offi + i) = some (.int .i64 ks[i]) := by
        obtain ⟨oj, offj, ej, cj⟩ := intEAt sl2 hci'
        simp at ej
        obtain ⟨rfl, rfl⟩ := ej
        rw [cj, asInts_get ks i hci]
      simp only [poolV] at ci2
      simp
      refine asplitK_intro (fun hd => ?_) (fun hd => ?_) <;> have hd' := hd <;> simp at hd <;> simp [hd', hci', ci2]
      · rw [if_pos (.inr hd)] at hs
        exact anext (i + 1, _, u ++ (t2 ++ t3)) ⟨hci, .inr ⟨_, hki, rfl⟩, hs, sl2⟩ (by simp only; omega) (by simp [pickF, wrap_succ (show i < 9223372036854775807 by omega)]) rfl (by simp [poolV])
      · rw [if_neg (by rintro (h1 | h1) <;> omega)] at hs
        exact anext (i + 1, _, u ++ (t2 ++ t3)) ⟨hci, .inr ⟨_, hm, rfl⟩, hs, sl2⟩ (by simp only; omega) (by simp [pickF, wrap_succ (show i < 9223372036854775807 by omega)]) rfl (by simp [poolV])
  · obtain rfl : i = ks.length := by omega
    simpa [pickW] using hs
theorem winner_spec_c :
    ACall Tryz.prog 25 [.agg #[.int .i64 x.policy, .int .i64 x.minFree, .slice b x.branches.length x.branches.length, .bool x.move.on, .bool x.move.clean, .int .i64 x.move.src, .int .i64 x.move.dst, .string (S x.move.path), .int .i64 x.move.gen, .int .i64 x.move.done], .string (S p)] h fun r h' => (∃ t, h' = h ++ t) ∧ r = .int .i64 (winner x p) := by
  refine acall mixed Tryz.func25 rfl (by kernel_rfl) ?_
  simp [Tryz.f25]
  refine callK0 (poolOk_spec_c x b F w tBranch tNode _ (k1.to (by simp)) hl) ?_
  rintro _ _ ⟨⟨t1, rfl⟩, rfl⟩
  cases e1 : poolOk x
  · simp [winner, e1]
  simp
  refine callK0 (l12Winner_c x b F w tBranch tNode _ (k1.to (by simp)) hl p hps) ?_
  rintro _ _ ⟨⟨t2, rfl⟩, rfl⟩
  simp [winner, e1]
set_option maxHeartbeats 8000000 in
theorem winner_impl_c :
    ACall Tryz.prog 26 [.agg #[.int .i64 x.policy, .int .i64 x.minFree, .slice b x.branches.length x.branches.length, .bool x.move.on, .bool x.move.clean, .int .i64 x.move.src, .int .i64 x.move.dst, .string (S x.move.path), .int .i64 x.move.gen, .int .i64 x.move.done], .string (S p)] h fun r h' => (∃ t, h' = h ++ t) ∧ r = .int .i64 (winner x p) := by
  refine acall mixed Tryz.func26 rfl (by kernel_rfl) ?_
  obtain ⟨hn, hp, hf⟩ := pool_nl hl
  simp [Tryz.f26]
  refine callK0 (holders_impl_c x b F w tBranch tNode _ (k1.to (by simp)) hl p hps) ?_
  rintro _ _ ⟨a, G, rfl, own⟩
  obtain ⟨t, rfl⟩ := own.ext.pre
  have sl0 := own.sl
  simp at sl0
  obtain ⟨ks, hks, hlen, hin, hwin⟩ : ∃ ks : List Nat, holders x p = asInts ks ∧ ks.length ≤ x.branches.length ∧ (∀ i ∈ ks, i < x.branches.length ∧ 0 ≤ walkI x.branches p i) ∧ winner x p = pickW x.branches p ks (-1) := by
    cases e1 : poolOk x
    · exact ⟨[], by simp [holders, e1, asInts], by simp, by simp, by simp [winner, e1, pickW]⟩
    · exact ⟨holdTo x.branches p x.branches.length, by simp [holders, e1], holdTo_len _ _ _, fun i hi => holdTo_mem hi, by simp [winner, e1]⟩
  rw [hwin]
  rw [hks] at own sl0 ⊢
  clear hwin hks
  have hal := asInts_len ks
  simp
  refine aloop mixed [1, 2, 5, 6, 12, 13, 14] (fun (y : Nat × Int × Hp) => [.string (S p), .pointer (some ⟨h.length, 0, none⟩), .int .i64 y.2.1, .int .i64 (if y.2.1 < 0 then -1 else genI x.branches p y.2.1.toNat), .slice a (asInts ks).length (asInts ks).length, .int .i64 (asInts ks).length, .int .i64 y.1]) (fun y => h ++ ⟨true, true, 50, poolV x b⟩ :: y.2.2) (fun y => y.1 ≤ ks.length ∧ (y.2.1 = -1 ∨ ∃ m : Nat, m < x.branches.length ∧ y.2.1 = m) ∧ pickW x.branches p (ks.drop y.1) y.2.1 = pickW x.branches p ks (-1) ∧ slR true 3 intE (h ++ ⟨true, true, 50, poolV x b⟩ :: y.2.2) (asInts ks) a G) (fun y => ks.length - y.1) (0, -1, t) ⟨by simp, .inl rfl, by simp, by simpa [poolV] using sl0⟩ (by simp [pickF]) (by simp [poolV]) ?_
  clear sl0 own
  rintro ⟨i, bst, u⟩ ⟨hi, hb, hs, sl⟩
  simp only at hi hb hs sl
  simp [mkF, poolV]
  refine asplitK_intro (fun hc => ?_) (fun hc => ?_) <;> simp at hc <;> simp [hc]
  · have hci : i < ks.length := by omega
    have hci' : i < (asInts ks).length := by omega
    obtain ⟨oi, offi, rfl, ci⟩ := intEAt sl hci'
    rw [asInts_get ks i hci] at ci
    have hki := (hin _ (List.getElem_mem hci)).1
    have hwi := (hin _ (List.getElem_mem hci)).2
    rw [walkI_get hki] at hwi
    have hg0 := genAt_pos hwi
    rw [pickW_drop _ _ _ _ hci] at hs
    simp only [poolV] at ci
    obtain ⟨o, off, b1, G1, b2, G2, rfl, c0, c1, c2, kn, kd⟩ := branchAtX k1 hki
    simp [hci', ci, hki, c1, c2]
    refine callK0 (genAt_impl_c x.branches[ks[i]].fs b1 b2 G1 G2 w tNode _ (kn.to (by simp)) (kd.to (by simp)) (hf _ hki) p hps) ?_
    rintro _ _ ⟨⟨t2, rfl⟩, rfl⟩
    have e1 := genI_get (p := p) hki
    have sl2 : slR true 3 intE (h ++ ⟨true, true, 50, poolV x (some ⟨o, off, none⟩)⟩ :: (u ++ t2)) (asInts ks) (some ⟨oi, offi, none⟩) G := sl.to ⟨t2, by simp⟩
    have hk0 : ¬ ((ks[i] : Int) < 0) := by omega
    have hcond : (bst < 0 ∨ genI x.branches p bst.toNat < genI x.branches p ks[i]) ↔ (if bst < 0 then -1 else genI x.branches p bst.toNat) < genAt x.branches[ks[i]].fs p := by
      rw [e1]
      split
      · rename_i h1
        simp only [h1, true_or, true_iff]
        omega
      · rename_i h1
        simp [h1]
    generalize hmost : (if bst < 0 then -1 else genI x.branches p bst.toNat) = most at hcond ⊢
    simp
    refine asplitK_intro (fun hd => ?_) (fun hd => ?_) <;> have hd' := hd <;> simp at hd <;> simp [hd']
    · rw [if_pos (hcond.2 hd)] at hs
      exact anext (i + 1, _, u ++ t2) ⟨hci, .inr ⟨_, hki, rfl⟩, hs, sl2⟩ (by simp only; omega) (by simp [pickF, hk0, e1, wrap_succ (show i < 9223372036854775807 by omega)]) rfl (by simp [poolV])
    · rw [if_neg (fun h1 => by have := hcond.1 h1; omega)] at hs
      exact anext (i + 1, _, u ++ t2) ⟨hci, hb, hs, sl2⟩ (by simp only; omega) (by simp [pickF, hmost, wrap_succ (show i < 9223372036854775807 by omega)]) rfl (by simp [poolV])
  · obtain rfl : i = ks.length := by omega
    simpa [pickW] using hs
end
end Go.Proofs.YtgfilbekfkhjjaaGreat.Hz
