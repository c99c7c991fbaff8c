/- Holders and Winner: both programs. -/
import Derived.Test.YtgfilbekfkhjjaaGreatHyQE
import Derived.Test.YtgfilbekfkhjjaaGreatHyGI
namespace Go.Proofs.YtgfilbekfkhjjaaGreat.Hz
open Go.RowKit
set_option linter.unusedVariables false
set_option linter.unusedSimpArgs false
set_option maxRecDepth 20000

noncomputable def walkI (bs : List Branch) (p : Str) (i : Nat) : Int := match bs[i]? with | some b => walk b.fs p | none => -1
noncomputable def genI (bs : List Branch) (p : Str) (i : Nat) : Int := match bs[i]? with | some b => genAt b.fs p | none => -1
theorem walkI_get {bs : List Branch} {p : Str} {i : Nat} (hi : i < bs.length) : walkI bs p i = walk bs[i].fs p := by simp [walkI, hi]
theorem genI_get {bs : List Branch} {p : Str} {i : Nat} (hi : i < bs.length) : genI bs p i = genAt bs[i].fs p := by simp [genI, hi]
/-- The branches below k that hold the path. -/
noncomputable def holdTo (bs : List Branch) (p : Str) (k : Nat) : List Nat := (List.range k).filter fun i => decide (0 ≤ walkI bs p i)
def asInts (ks : List Nat) : List Int := ks.map fun k : Nat => (k : Int)
theorem asInts_len (ks : List Nat) : (asInts ks).length = ks.length := by simp [asInts]
theorem holdTo_succ (bs : List Branch) (p : Str) (k : Nat) : holdTo bs p (k + 1) = holdTo bs p k ++ (if 0 ≤ walkI bs p k then [k] else []) := by
  unfold holdTo
  rw [List.range_succ, List.filter_append]
  by_cases h : 0 ≤ walkI bs p k <;> simp [h]
theorem holdTo_yes {bs : List Branch} {p : Str} {k : Nat} (h : 0 ≤ walkI bs p k) : asInts (holdTo bs p (k + 1)) = asInts (holdTo bs p k) ++ [(k : Int)] := by
  rw [holdTo_succ, if_pos h]; simp [asInts]
theorem holdTo_no {bs : List Branch} {p : Str} {k : Nat} (h : ¬ 0 ≤ walkI bs p k) : asInts (holdTo bs p (k + 1)) = asInts (holdTo bs p k) := by
  rw [holdTo_succ, if_neg h]; simp
theorem holdTo_len (bs : List Branch) (p : Str) (k : Nat) : (holdTo bs p k).length ≤ k := by
  have := List.length_filter_le (fun i => decide (0 ≤ walkI bs p i)) (List.range k)
  simpa [holdTo] using this
theorem holdTo_mem {bs : List Branch} {p : Str} {k i : Nat} (h : i ∈ holdTo bs p k) : i < k ∧ 0 ≤ walkI bs p i := by
  simpa [holdTo] using h
noncomputable def holders (x : Pool) (p : Str) : List Int := if poolOk x then asInts (holdTo x.branches p x.branches.length) else []
section
variable (x : Pool) (b : Option Addr) (F : List Nat) (w : Bool) (tBranch tNode : TypeId) (h : Hp) (k1 : slR w tBranch (branchE w tNode) h x.branches b F) (hl : x.nl ≤ 1048576) (p : Str) (hps : p.length ≤ 1048576)
include k1 hl hps
set_option maxHeartbeats 4000000 in
theorem holders_impl_c :
    ACall Tryz.prog 28 [.agg #[.int .i64 x.policy, .int .i64 x.minFree, .slice b x.branches.length x.branches.length, .bool x.move.on, .bool x.move.clean, .int .i64 x.move.src, .int .i64 x.move.dst, .string (S x.move.path), .int .i64 x.move.gen, .int .i64 x.move.done], .string (S p)] h fun r h' => ∃ a G, r = .slice a (holders x p).length (holders x p).length ∧ Own h 3 intE h' (holders x p) a G := by
  refine acall mixed Tryz.func28 rfl (by kernel_rfl) ?_
  obtain ⟨hn, hp, hf⟩ := pool_nl hl
  simp [Tryz.f28]
  refine callK0 (poolOk_impl_c x b F w tBranch tNode _ (k1.to (by simp)) hl) ?_
  rintro _ _ ⟨⟨t1, rfl⟩, rfl⟩
  cases e1 : poolOk x
  · simp [holders, e1]
    exact ⟨_, Own.nil (Ext.push _ _)⟩
  have hn4 : x.branches.length ≤ 1048576 := hn
  simp [holders, e1]
  have o0 := empty1 intE (h ++ ⟨true, true, 50, poolV x b⟩ :: t1) 3
  simp at o0
  generalize hB : (h ++ ⟨true, true, 50, poolV x b⟩ :: t1 : Hp) = B at o0
  have xB : Ext h B := by rw [← hB]; exact Ext.push _ _
  refine aloop mixed [1, 5, 13, 14, 15] (fun (y : Nat × Option Addr × Hp) => [.string (S p), .slice y.2.1 (asInts (holdTo x.branches p y.1)).length (asInts (holdTo x.branches p y.1)).length, .slice b x.branches.length x.branches.length, .int .i64 x.branches.length, .int .i64 y.1]) (fun y => y.2.2) (fun y => y.1 ≤ x.branches.length ∧ ∃ G, Own B 3 intE y.2.2 (asInts (holdTo x.branches p y.1)) y.2.1 G) (fun y => x.branches.length - y.1) (0, some ⟨h.length + (t1.length + 1), 0, none⟩, _) ⟨by simp, _, by simpa [holdTo, asInts] using o0⟩ (by simp [pickF, holdTo, asInts]) (by simp [poolV]) ?_
  clear o0
  rintro ⟨i, a, H⟩ ⟨hi, G, own⟩
  simp only at hi own
  simp [mkF]
  have hlen := holdTo_len x.branches p i
  have hal := asInts_len (holdTo x.branches p i)
  refine asplitK_intro (fun hc => ?_) (fun hc => ?_) <;> simp at hc <;> simp [hc]
  · obtain ⟨o, off, b1, G1, b2, G2, rfl, c0, c1, c2, kn, kd⟩ := branchAtX (k1.ext (xB.trans own.ext)) hc
    have c0' := c0 []
    have c1' := c1 []
    have c2' := c2 []
    simp only [List.append_nil] at c0' c1' c2'
    simp [hc, c0', c1', c2']
    refine callK0 (walk_impl_c x.branches[i].fs b1 b2 G1 G2 w tNode _ (kn.to (by simp)) (kd.to (by simp)) (hf i hc) p hps) ?_
    rintro _ _ ⟨⟨t2, rfl⟩, rfl⟩
    have hwi := walkI_get (p := p) hc
    simp
    refine asplitK_intro (fun hd => ?_) (fun hd => ?_) <;> have hd' := hd <;> simp at hd <;> simp [hd']
    · have hy := holdTo_yes (by rw [hwi]; exact hd)
      obtain ⟨a', H', F', eq, own'⟩ := (own.to (h' := H ++ ⟨true, true, 84, [.int .i64 x.branches[i].mode, .slice b1 x.branches[i].fs.nodes.length x.branches[i].fs.nodes.length, .slice b2 x.branches[i].fs.data.length x.branches[i].fs.data.length]⟩ :: t2) ⟨_, rfl⟩).append1 (P := Tryz.prog) (i : Int) (cs := [.int .i64 i]) rfl (st := 57) (xt := 57) (bt := 8) (z := [.int .i64 0]) (by simp) (by simp) (by unfold big; omega) (by unfold big; omega)
      simp at eq
      simp [eq]
      exact anext (i + 1, a', H') ⟨hc, F', by rw [hy]; exact own'⟩ (by simp only; omega) (by simp [pickF, hy, wrap_succ (show i < 9223372036854775807 by omega)]) rfl (by simp)
    · have hy := holdTo_no (by rw [hwi]; omega)
      exact anext (i + 1, a, _) ⟨hc, G, by rw [hy]; exact own.grow (Ext.push _ _)⟩ (by simp only; omega) (by simp [pickF, hy, wrap_succ (show i < 9223372036854775807 by omega)]) rfl (by simp)
  · obtain rfl : i = x.branches.length := by omega
    exact ⟨_, ⟨rfl, rfl⟩, _, Own.of_new xB own⟩
set_option maxHeartbeats 4000000 in
theorem l12Holders_c :
    ACall Tryz.prog 69 [.agg #[.int .i64 x.policy, .int .i64 x.minFree, .slice b x.branches.length x.branches.length, .bool x.move.on, .bool x.move.clean, .int .i64 x.move.src, .int .i64 x.move.dst, .string (S x.move.path), .int .i64 x.move.gen, .int .i64 x.move.done], .string (S p)] h fun r h' => ∃ a G, r = .slice a (asInts (holdTo x.branches p x.branches.length)).length (asInts (holdTo x.branches p x.branches.length)).length ∧ Own h 3 intE h' (asInts (holdTo x.branches p x.branches.length)) a G := by
  refine acall mixed Tryz.func69 rfl (by kernel_rfl) ?_
  obtain ⟨hn, hp, hf⟩ := pool_nl hl
  simp [Tryz.f69]
  have o0 := empty1 intE (h ++ [⟨true, true, 50, poolV x b⟩]) 3
  simp at o0
  generalize hB : (h ++ [⟨true, true, 50, poolV x b⟩] : Hp) = B at o0
  have xB : Ext h B := by rw [← hB]; exact Ext.push _ _
  have pb : ∀ i, cellAt B h.length i = (poolV x b)[i]? := fun i => by rw [← hB]; simp [cellAt]
  refine aloop mixed [1, 2, 5, 6] (fun (y : Nat × Option Addr × Hp) => [.string (S p), .pointer (some ⟨h.length, 0, none⟩), .slice y.2.1 (asInts (holdTo x.branches p y.1)).length (asInts (holdTo x.branches p y.1)).length, .int .i64 y.1]) (fun y => y.2.2) (fun y => y.1 ≤ x.branches.length ∧ ∃ G, Own B 3 intE y.2.2 (asInts (holdTo x.branches p y.1)) y.2.1 G) (fun y => x.branches.length - y.1) (0, some ⟨h.length + 1, 0, none⟩, _) ⟨by simp, _, by simpa [holdTo, asInts] using o0⟩ (by simp [pickF, holdTo, asInts]) (by simp [poolV]) ?_
  clear o0
  rintro ⟨i, a, H⟩ ⟨hi, G, own⟩
  simp only at hi own
  have hlB : h.length < B.length := by rw [← hB]; simp
  have p2 : cellAt H h.length 2 = some (.slice b x.branches.length x.branches.length) := by rw [cellAt_ext own.ext hlB, pb]; simp [poolV]
  simp [mkF, p2]
  have hlen := holdTo_len x.branches p i
  have hal := asInts_len (holdTo x.branches p i)
  refine asplitK_intro (fun hc => ?_) (fun hc => ?_) <;> simp at hc <;> simp [hc]
  · obtain ⟨o, off, b1, G1, b2, G2, rfl, c0, c1, c2, kn, kd⟩ := branchAtX (k1.ext (xB.trans own.ext)) hc
    have c0' := c0 []
    have c1' := c1 []
    have c2' := c2 []
    simp only [List.append_nil] at c0' c1' c2'
    simp [hc, c0', c1', c2', p2]
    refine callK0 (walk_spec_c x.branches[i].fs b1 b2 G1 G2 w tNode _ (kn.to (by simp)) (kd.to (by simp)) (hf i hc) p hps) ?_
    rintro _ _ ⟨⟨t2, rfl⟩, rfl⟩
    have hwi := walkI_get (p := p) hc
    simp
    refine asplitK_intro (fun hd => ?_) (fun hd => ?_) <;> have hd' := hd <;> simp at hd <;> simp [hd']
    · have hy := holdTo_yes (by rw [hwi]; exact hd)
      obtain ⟨a', H', F', eq, own'⟩ := (own.to (h' := H ++ t2) ⟨_, rfl⟩).append1 (P := Tryz.prog) (i : Int) (cs := [.int .i64 i]) rfl (st := 57) (xt := 57) (bt := 8) (z := [.int .i64 0]) (by simp) (by simp) (by unfold big; omega) (by unfold big; omega)
      simp at eq
      simp [eq]
      exact anext (i + 1, a', H') ⟨hc, F', by rw [hy]; exact own'⟩ (by simp only; omega) (by simp [pickF, hy, wrap_succ (show i < 9223372036854775807 by omega)]) rfl (by simp)
    · have hy := holdTo_no (by rw [hwi]; omega)
      exact anext (i + 1, a, _) ⟨hc, G, by rw [hy]; exact own.grow (Ext.push _ _)⟩ (by simp only; omega) (by simp [pickF, hy, wrap_succ (show i < 9223372036854775807 by omega)]) rfl (by simp)
  · obtain rfl : i = x.branches.length := by omega
    exact ⟨_, ⟨rfl, rfl⟩, _, Own.of_new xB own⟩
end
end Go.Proofs.YtgfilbekfkhjjaaGreat.Hz
