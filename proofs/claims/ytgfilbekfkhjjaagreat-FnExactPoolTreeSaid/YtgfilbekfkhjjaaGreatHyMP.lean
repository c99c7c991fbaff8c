/- The laws' marks on branches and pools. -/
import Derived.Test.YtgfilbekfkhjjaaGreatHyGJ
import Derived.Test.YtgfilbekfkhjjaaGreatHyGH
namespace Go.Proofs.YtgfilbekfkhjjaaGreat.Hz
open Go.RowKit
set_option linter.unusedVariables false
set_option linter.unusedSimpArgs false
set_option maxRecDepth 20000

theorem set_mid {α : Type} (M : List α) (x y : α) (es : List α) (j : Nat) (hM : M.length = j) (e : es[j]? = some y) : (M ++ es.drop j).set j x = (M ++ [x]) ++ es.drop (j + 1) := by
  obtain ⟨hj, -⟩ := List.getElem?_eq_some_iff.1 e
  rw [List.set_append_right _ _ (by omega), hM, Nat.sub_self, List.drop_eq_getElem_cons hj, List.set_cons_zero, List.append_assoc]
  rfl
theorem sumL_app {α : Type} (f : α → Nat) : ∀ (ys zs : List α), sumL f (ys ++ zs) = sumL f ys + sumL f zs
  | [], zs => by simp [sumL]
  | y :: ys, zs => by
    have := sumL_app f ys zs
    simp only [List.cons_append, sumL, this]
    omega
set_option maxHeartbeats 4000000 in
theorem markBranchS_c (es : List Branch) (k : Nat) (a : Option Addr) (F : List Nat) (h : Hp) (own : Own [] 84 (branchE true 101) h es a F) (hk : k + es.length + 6 * sumL Branch.nl es ≤ 1073741824) :
    ACall Tryz.prog 71 [.slice a es.length es.length, .int .i64 k] h fun r h' => ∃ n : Nat, r = .int .i64 n ∧ (∀ q, q < h.length → q ∉ F → h'[q]? = h[q]?) ∧ h.length ≤ h'.length := by
  refine acall mixed Tryz.func71 rfl (by kernel_rfl) ?_
  simp [Tryz.f71]
  refine aloop mixed [0, 1, 5] (fun (x : Nat × Nat × Hp) => [.slice a es.length es.length, .int .i64 x.2.1, .int .i64 x.1]) (fun x => x.2.2) (fun x => x.1 ≤ es.length ∧ x.2.1 ≤ k + x.1 + 6 * sumL Branch.nl (es.take x.1) ∧ (∃ M, M.length = x.1 ∧ Own [] 84 (branchE true 101) x.2.2 (M ++ es.drop x.1) a F) ∧ (∀ q, q < h.length → q ∉ F → x.2.2[q]? = h[q]?) ∧ h.length ≤ x.2.2.length) (fun x => es.length - x.1) (0, k, h) ⟨by simp, by simp [sumL], ⟨[], rfl, by simpa using own⟩, fun q _ _ => rfl, Nat.le_refl _⟩ (by simp [pickF]) rfl ?_
  rintro ⟨j, K, H⟩ ⟨hj, hK, ⟨M, hM, oj⟩, keep, hlen⟩
  simp only at hj hK hM oj keep hlen
  simp [mkF]
  refine asplitK_intro (fun hb => ?_) (fun hb => ?_) <;> simp at hb <;> simp [hb]
  · have hLj : (M ++ es.drop j)[j]? = some es[j] := by
      rw [List.getElem?_append_right (by omega), List.getElem?_drop]
      simp [hM, hb]
    have hjl : j < (M ++ es.drop j).length := (List.getElem?_eq_some_iff.1 hLj).1
    obtain ⟨o, off, -, -, -, -, rfl, -⟩ := branchAt oj.sl hjl
    have hsum := sumL_take Branch.nl es j hb
    have hle : sumL Branch.nl (es.take (j + 1)) ≤ sumL Branch.nl es := by
      have e : sumL Branch.nl es = sumL Branch.nl (es.take (j + 1)) + sumL Branch.nl (es.drop (j + 1)) := by
        conv => lhs; rw [← List.take_append_drop (j + 1) es]
        exact sumL_app _ _ _
      omega
    have hnl : es[j].fs.nl = es[j].fs.nodes.length + sumL Node.nl es[j].fs.nodes + es[j].fs.data.length + sumL List.length es[j].fs.data := rfl
    have hbn : es[j].nl = es[j].fs.nl := rfl
    obtain ⟨c, Fi, ⟨b1, G1, b2, G2, rfl, rfl, s1, s2⟩, -, -, -, -, hput⟩ := oj.row hLj
    obtain ⟨hc1, o1⟩ := hput 0 [.int .i64 K] ⟨(K : Int), es[j].fs⟩ (by show 0 + 1 ≤ 3; omega) ⟨b1, G1, b2, G2, rfl, rfl, s1, s2⟩
    have hm1 : ∀ (x : Branch), ((M ++ es.drop j).set j x)[j]? = some x := fun x => by rw [List.getElem?_set_self hjl]
    clear s1 s2 hput
    obtain ⟨c, Fi, ⟨b1, G1, b2, G2, rfl, rfl, s1, s2⟩, hFn, hFs, hcell, hin, -⟩ := o1.row (hm1 _)
    have hn3 : (branchE true 101).n = 3 := rfl
    have hcs1 := hcell 1 (by show 1 < 3; omega)
    have hcs2 := hcell 2 (by show 2 < 3; omega)
    simp only [hn3, Nat.add_zero, List.length_cons, List.length_nil] at hcs1 hcs2 hc1 hin s1 s2 o1
    simp at hcs1 hcs2 hc1
    have w1 : IntKind.i64.wrap ((K : Int) + 1) = ((K + 1 : Nat) : Int) := wrap_succ (by omega)
    have hkeep1 : ∀ q, q < h.length → q ∉ F → (setsAt H o (off + j * 3) [.int .i64 K])[q]? = h[q]? := fun q hq hm => by
      rw [setsAt_get, if_neg (fun e : o = q => hm (e ▸ oj.memF))]
      exact keep q hq hm
    have hlen1 : (setsAt H o (off + j * 3) [.int .i64 K]).length = H.length := setsAt_len _ _ _ _
    have hoF := o1.memF
    simp [hb, hc1, w1, hcs1]
    generalize setsAt H o (off + j * 3) [.int .i64 K] = H1 at o1 s1 s2 hcs1 hcs2 hin hkeep1 hlen1 ⊢
    have hnd := List.nodup_append.1 hFn
    have hkl := kAt_le es[j].fs.nodes (K + 1) es[j].fs.nodes.length
    have hmn := markNodeS_c es[j].fs.nodes (K + 1) b1 G1 H1 (Own.any s1 hnd.1) (by omega)
    simp only [Int.natCast_add, Int.cast_ofNat_Int] at hmn
    refine callK0 hmn ?_
    rintro _ H2 ⟨rfl, om1, keep2, len2⟩
    have hoG : o ∉ G1 ∧ o ∉ G2 := ⟨fun hm => (hFs o (by simp [hm])).2 rfl, fun hm => (hFs o (by simp [hm])).2 rfl⟩
    have hoH : o < H1.length := o1.sl.lt o hoF
    have hcs2' : cellAt H2 o (off + j * 3 + 2) = some (.slice b2 es[j].fs.data.length es[j].fs.data.length) := by
      rw [cellAt_get (keep2 o hoH hoG.1)]
      exact hcs2
    have s2' : slR true 9 strE H2 es[j].fs.data b2 G2 := s2.frame fun q hq => keep2 q (s2.lt q hq) (fun hm => hnd.2.2 q hm q hq rfl)
    simp [hb, hcs2']
    have hms := markStringS_c es[j].fs.data (kAt es[j].fs.nodes (K + 1) es[j].fs.nodes.length) b2 G2 H2 (Own.any s2' hnd.2.1) (by omega)
    refine callK0 hms ?_
    rintro _ H3 ⟨rfl, om2, keep3, len3⟩
    have o5 := hin H3 ⟨(K : Int), ⟨mkNodes es[j].fs.nodes (K + 1), mkStrs es[j].fs.data.length (kAt es[j].fs.nodes (K + 1) es[j].fs.nodes.length)⟩⟩ ⟨Nat.zero_le _, fun _ hq => by simp at hq⟩ (fun q hq hn => by
      have hq1 := o1.sl.lt q hq
      rw [keep3 q (by omega) (fun hm => hn (by simp [hm])), keep2 q hq1 (fun hm => hn (by simp [hm]))]) ⟨b1, G1, b2, G2, by simp [mkNodes_len, mkStrs_len], rfl, om1.sl.frame fun q hq => keep3 q (om1.sl.lt q hq) (fun hm => hnd.2.2 q hq q hm rfl), om2.sl⟩
    rw [List.set_set, set_mid M _ es[j] es j hM (by simp [hb])] at o5
    simp
    refine anext (j + 1, kAt es[j].fs.nodes (K + 1) es[j].fs.nodes.length + es[j].fs.data.length, H3) ⟨hb, by simp only; omega, ⟨_, by simp [hM], o5⟩, fun q hq hm => ?_, by simp only; omega⟩ (by simp only; omega) (by simp [pickF, wrap_succ (show j < 9223372036854775807 by omega)]) rfl (by simp)
    rw [keep3 q (by omega) (fun h2 => hm (hFs q (by simp [h2])).1), keep2 q (by omega) (fun h2 => hm (hFs q (by simp [h2])).1)]
    exact hkeep1 q hq hm
  · exact ⟨⟨K, rfl⟩, keep, hlen⟩
theorem markPool_c (x : Pool) (b : Option Addr) (F : List Nat) (h : Hp) (own : Own [] 84 (branchE true 101) h x.branches b F) (hl : x.nl ≤ 1048576) :
    ACall Tryz.prog 30 [.agg #[.int .i64 x.policy, .int .i64 x.minFree, .slice b x.branches.length x.branches.length, .bool x.move.on, .bool x.move.clean, .int .i64 x.move.src, .int .i64 x.move.dst, .string (S x.move.path), .int .i64 x.move.gen, .int .i64 x.move.done], .int .i64 1] h fun r h' => ∃ n : Nat, r = .int .i64 n ∧ (∀ q, q < h.length → q ∉ F → h'[q]? = h[q]?) ∧ h.length ≤ h'.length := by
  refine acall mixed Tryz.func30 rfl (by kernel_rfl) ?_
  have e : x.nl = x.branches.length + sumL Branch.nl x.branches + x.move.nl := rfl
  simp [Tryz.f30]
  refine callK0 (markBranchS_c x.branches 1 b F _ (own.to ⟨_, rfl⟩) (by omega)) ?_
  rintro _ H1 ⟨n, rfl, keep, hlen⟩
  simp
  simp at hlen
  exact ⟨⟨n, rfl⟩, fun q hq hm => by rw [keep q (by simp; omega) hm, List.getElem?_append_left hq], by omega⟩
end Go.Proofs.YtgfilbekfkhjjaaGreat.Hz
