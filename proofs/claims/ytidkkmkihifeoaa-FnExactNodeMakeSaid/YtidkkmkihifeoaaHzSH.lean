/- The shape of a file system's image: what both programs ask, and the program's walk. -/
import Derived.Test.YtidkkmkihifeoaaHzUS
import Derived.Test.YtidkkmkihifeoaaHzU
namespace Go.Proofs.Ytidkkmkihifeoaa.Hz
open Go.RowKit
set_option linter.unusedVariables false
set_option linter.unusedSimpArgs false
set_option maxRecDepth 20000

theorem indexFuncNode_c (es : List Node) (a : Option Addr) (F : List Nat) (w : Bool) (t : TypeId) (h : Hp) (hr : slR w t (nodeE w) h es a F) (hl : es.length ≤ 1048576) (p : Node → Bool) (g : FuncId) (cap : Array Value)
    (hg : ∀ (k : Nat) (hk : k < es.length) (b1 : Option Addr) (G1 : List Nat) (t : Hp), slR w 3 intE (h ++ t) es[k].blocks b1 G1 → ACall Try.prog g (.agg #[.int .i64 es[k].kind, .int .i64 es[k].gen, .int .i64 es[k].time, .int .i64 es[k].size, .slice b1 es[k].blocks.length es[k].blocks.length] :: cap.toList) (h ++ t) fun r h' => (∃ t', h' = h ++ t ++ t') ∧ r = .bool (p es[k])) :
    ACall Try.prog 133 [.slice a es.length es.length, .func (.func g) #[] cap] h fun r h' => (∃ t, h' = h ++ t) ∧ r = .int .i64 (findI p es 0) := by
  refine acall mixed Try.func133 rfl (by kernel_rfl) ?_
  simp [Try.f133]
  refine aloop mixed [0, 1, 7, 8] (fun (x : Nat × Hp) => [.slice a es.length es.length, .func (.func g) #[] cap, .int .i64 es.length, .int .i64 x.1]) (fun x => h ++ x.2) (fun x => x.1 ≤ es.length ∧ findI p (es.drop x.1) x.1 = findI p es 0) (fun x => es.length - x.1) (0, []) ⟨by simp, by simp⟩ (by simp [pickF]) (by simp) ?_
  rintro ⟨k, t'⟩ ⟨hk, he⟩
  simp only at hk he
  simp [mkF]
  refine asplitK_intro (fun hb => ?_) (fun hb => ?_) <;> simp at hb <;> simp [hb]
  · obtain ⟨o, off, b1, G1, rfl, c0, c1, c2, c3, c4, kb, -⟩ := nodeAt (hr.ext (Ext.push h t')) hb
    rw [findI_drop p es k hb] at he
    simp [hb, c0, c1, c2, c3, c4]
    refine callK0 (hg k hb b1 G1 t' kb) ?_
    rintro _ _ ⟨⟨t2, rfl⟩, rfl⟩
    simp
    refine asplitK_intro (fun hc => ?_) (fun hc => ?_) <;> simp [hc] at he <;> simp [he]
    exact anext (k + 1, t' ++ t2) ⟨hb, he⟩ (by simp only; omega) (by simp [pickF, wrap_succ (show k < 9223372036854775807 by omega)]) (by simp) (by simp)
  · obtain rfl : k = es.length := by omega
    simpa [findI] using he
theorem findI_any {α : Type} (p : α → Bool) (xs : List α) : decide (0 ≤ findI p xs 0) = xs.any p := by
  rcases findI_spec p xs 0 with ⟨h1, h2⟩ | ⟨j, hj, h1, h2, _⟩
  · have : xs.any p = false := by rw [List.any_eq_false]; intro x hx; simp [h2 x hx]
    simp [h1, this]
  · have : xs.any p = true := List.any_eq_true.2 ⟨xs[j], List.getElem_mem hj, h2⟩
    have h3 : (0 : Int) ≤ ((0 + j : Nat) : Int) := by omega
    rw [h1, this]
    simp
theorem containsFuncNode_c (es : List Node) (a : Option Addr) (F : List Nat) (w : Bool) (t : TypeId) (h : Hp) (hr : slR w t (nodeE w) h es a F) (hl : es.length ≤ 1048576) (p : Node → Bool) (g : FuncId) (cap : Array Value)
    (hg : ∀ (k : Nat) (hk : k < es.length) (b1 : Option Addr) (G1 : List Nat) (t : Hp), slR w 3 intE (h ++ t) es[k].blocks b1 G1 → ACall Try.prog g (.agg #[.int .i64 es[k].kind, .int .i64 es[k].gen, .int .i64 es[k].time, .int .i64 es[k].size, .slice b1 es[k].blocks.length es[k].blocks.length] :: cap.toList) (h ++ t) fun r h' => (∃ t', h' = h ++ t ++ t') ∧ r = .bool (p es[k])) :
    ACall Try.prog 171 [.slice a es.length es.length, .func (.func g) #[] cap] h fun r h' => (∃ t, h' = h ++ t) ∧ r = .bool (es.any p) := by
  refine acall mixed Try.func171 rfl (by kernel_rfl) ?_
  simp [Try.f171]
  refine callK0 (indexFuncNode_c es a F w t h hr hl p g cap hg) ?_
  rintro _ _ ⟨⟨t1, rfl⟩, rfl⟩
  have := findI_any p es
  simp [this]
theorem shapeOk1_c (x : Node) (a1 : Option Addr) (F1 : List Nat) (w : Bool) (h : Hp) (k1 : slR w 3 intE h x.blocks a1 F1) (hl : x.lim) :
    ACall Try.prog 172 [.agg #[.int .i64 x.kind, .int .i64 x.gen, .int .i64 x.time, .int .i64 x.size, .slice a1 x.blocks.length x.blocks.length]] h fun r h' => (∃ t', h' = h ++ t') ∧ r = .bool !(nodeOk x) := by
  refine acall mixed Try.func172 rfl (by kernel_rfl) ?_
  simp [Try.f172]
  refine callK0 (nodeOk_impl_c x a1 F1 w _ (k1.to (by simp)) hl) ?_
  rintro _ _ ⟨⟨t1, rfl⟩, rfl⟩
  simp

theorem amin_ii (x y : Int) : amin .min [.int .i64 x, .int .i64 y] = some (.int .i64 (min x y)) := by
  simp only [amin, if_true]
  congr 2
  split <;> omega
/-! ### What both programs ask -/
def dlen (f : Fs) (b : Int) : Int := ((f.data[b.toNat]?).getD []).length
def NodeLens (f : Fs) (n : Node) : Prop := ∀ (j : Nat) (hj : j < n.blocks.length), dlen f n.blocks[j] = min (n.size - 16 * j) 16
def DataOk (f : Fs) : Prop := ∀ (k : Nat) (hk : k < f.data.length), f.data[k].length ≤ 16 ∧ ((k : Int) ∈ held f.nodes ∨ f.data[k] = [])
structure ShapeOk (f : Fs) : Prop where
  nodes : inR f.nodes.length 2 10 = true
  data : inR f.data.length 1 36 = true
  root : ∀ hk : 0 < f.nodes.length, f.nodes[0].kind = 2
  ok : ∀ n ∈ f.nodes, nodeOk n = true
  own : OwnOk f
  blocks : DataOk f
  lens : ∀ n ∈ f.nodes, NodeLens f n
open Classical in
noncomputable def shapeOk (f : Fs) : Bool := decide (ShapeOk f)
theorem shapeOk_t {f : Fs} (h : ShapeOk f) : shapeOk f = true := by simp [shapeOk, h]
theorem shapeOk_f {f : Fs} (h : ¬ ShapeOk f) : shapeOk f = false := by simp [shapeOk, h]
theorem shapeOk_iff {f : Fs} : shapeOk f = true ↔ ShapeOk f := by simp [shapeOk]

theorem blkOk_mem : ∀ (bs seen : List Int), blkOk seen bs = true → ∀ b ∈ bs, 0 ≤ b ∧ b ≤ 35
  | [], _, _, b, hb => by cases hb
  | c :: bs, seen, h, b, hb => by
    simp only [blkOk, Bool.and_eq_true] at h
    rcases List.mem_cons.1 hb with rfl | hb
    · exact inR_iff.1 h.1.1
    · exact blkOk_mem bs _ h.2 b hb
theorem nodeOk_blocks {n : Node} (h : nodeOk n = true) : ∀ b ∈ n.blocks, 0 ≤ b ∧ b ≤ 35 := by
  intro b hb
  unfold nodeOk at h
  split at h
  · have : n.blocks.length = 0 := by
      simp only [Bool.and_eq_true, beq_iff_eq] at h
      omega
    rw [List.eq_nil_of_length_eq_zero this] at hb
    cases hb
  · simp only [Bool.and_eq_true] at h
    exact blkOk_mem _ _ h.2 b hb
theorem held_pos {f : Fs} (h : ∀ n ∈ f.nodes, nodeOk n = true) : ∀ b ∈ held f.nodes, 0 ≤ b := by
  intro b hb
  obtain ⟨n, hn, hb⟩ := List.mem_flatMap.1 hb
  exact (nodeOk_blocks (h n hn) b hb).1
theorem nodeOk_size {n : Node} (h : nodeOk n = true) : 0 ≤ n.size ∧ n.size ≤ 80 ∧ n.blocks.length ≤ 5 := by
  unfold nodeOk at h
  split at h
  · simp only [Bool.and_eq_true, beq_iff_eq] at h
    omega
  · simp only [Bool.and_eq_true, Bool.not_eq_true'] at h
    have h1 := inR_iff.1 h.1.1.1.2
    have h2 := h.1.2
    simp only [badLen, bne_eq_false_iff_eq] at h2
    unfold blocksFor at h2
    refine ⟨h1.1, h1.2, ?_⟩
    split at h2
    · omega
    · split at h2 <;> omega

set_option maxHeartbeats 4000000 in
theorem shapeOk_impl_c (f : Fs) (a1 a2 : Option Addr) (F1 F2 : List Nat) (w : Bool) (tNode : TypeId) (h : Hp) (k1 : slR w tNode (nodeE w) h f.nodes a1 F1) (k2 : slR w 9 strE h f.data a2 F2) (hl : f.nl ≤ 1048576) :
    ACall Try.prog 126 [.agg #[.slice a1 f.nodes.length f.nodes.length, .slice a2 f.data.length f.data.length]] h fun r h' => (∃ t, h' = h ++ t) ∧ r = .bool (shapeOk f) := by
  refine acall mixed Try.func126 rfl (by kernel_rfl) ?_
  have hlim := Fs.lim_of f hl
  have hN : f.data.length ≤ 1048576 := hlim.2.2
  have hM : f.nodes.length ≤ 1048576 := hlim.1
  simp [Try.f126]
  refine callK0 (withinR f.nodes.length 2 10 _) ?_
  rintro _ _ ⟨rfl, rfl⟩
  cases e1 : inR f.nodes.length 2 10
  · simp [shapeOk_f (fun s => by rw [s.nodes] at e1; cases e1)]
  simp
  refine callK0 (withinR f.data.length 1 36 _) ?_
  rintro _ _ ⟨rfl, rfl⟩
  cases e2 : inR f.data.length 1 36
  · simp [shapeOk_f (fun s => by rw [s.data] at e2; cases e2)]
  have hn0 : 0 < f.nodes.length := by have := inR_iff.1 e1; omega
  have hd1 : 1 ≤ f.data.length := by have := inR_iff.1 e2; omega
  obtain ⟨o, off, b1, G1, ea1, c0, -, -, -, -, -, -⟩ := nodeAt (k1.ext (Ext.push h [⟨true, true, 77, [.slice a1 f.nodes.length f.nodes.length, .slice a2 f.data.length f.data.length]⟩])) hn0
  have c0' := c0
  simp only [Nat.zero_mul, Nat.add_zero] at c0'
  subst ea1
  simp [hn0, c0']
  refine asplitK_intro (fun h3 => ?_) (fun h3 => ?_) <;> (have h3' := h3; simp at h3; simp [h3, h3'])
  · exact (shapeOk_f (fun s => h3 (s.root hn0)))
  refine callK0 (containsFuncNode_c f.nodes _ F1 w _ _ (k1.to (by simp)) hM (fun n => !(nodeOk n)) 172 #[] (fun k hk b1 G1 t hb => by
    refine (shapeOk1_c f.nodes[k] b1 G1 w _ hb (hlim.2.1 _ (List.getElem_mem hk))).mono ?_
    simp)) ?_
  rintro _ _ ⟨⟨t1, rfl⟩, rfl⟩
  simp
  cases e4 : (f.nodes.any fun n => !(nodeOk n))
  rotate_left
  · obtain ⟨n, hn, hb⟩ := List.any_eq_true.1 e4
    simp
    refine shapeOk_f (fun s => ?_)
    rw [s.ok n hn] at hb
    cases hb
  have hok : ∀ n ∈ f.nodes, nodeOk n = true := fun n hn => by
    have := List.any_eq_false.1 e4 n hn
    simpa using this
  have hpos := held_pos hok
  simp
  refine callK0 (owners_c f _ a2 F1 F2 w tNode _ (k1.to (by simp)) (k2.to (by simp)) hl hd1 hpos) ?_
  rintro _ _ ⟨⟨t2, rfl⟩, ho⟩
  rcases ho with ⟨hown, os, ao, Fo, rfl, inv, sl⟩ | ⟨hown, rfl⟩
  rotate_left
  · simp
    exact shapeOk_f (fun s => hown s.own)
  obtain ⟨il, ib, ind, iv⟩ := inv
  simp
  refine aloop mixed [1, 3, 43, 44, 45] (fun (k : Nat) => [.pointer (some ⟨h.length, 0, none⟩), .slice ao f.data.length f.data.length, .slice a2 f.data.length f.data.length, .int .i64 f.data.length, .int .i64 k]) (fun _ => _) (fun k => k ≤ f.data.length ∧ ∀ (q : Nat) (hq : q < f.data.length), q < k → f.data[q].length ≤ 16 ∧ ((q : Int) ∈ held f.nodes ∨ f.data[q] = [])) (fun k => f.data.length - k) 0 ⟨by omega, by omega⟩ rfl rfl ?_
  rintro k ⟨hk, hdo⟩
  simp [mkF]
  refine asplitK_intro (fun hb => ?_) (fun hb => ?_) <;> simp at hb <;> simp [hb]
  · obtain ⟨od, offd, ed, cd⟩ := strEAt (k2.to (h' := h ++ (⟨true, true, 77, [.slice (some ⟨o, off, none⟩) f.nodes.length f.nodes.length, .slice a2 f.data.length f.data.length]⟩ :: (t1 ++ t2))) (by simp)) hb
    have hko : k < os.length := by omega
    obtain ⟨oo, offo, eo, co⟩ := intEAt sl hko
    have ivk := iv k hko
    subst ed
    subst eo
    simp at co
    simp [hb, cd, co]
    refine asplitK_intro (fun h5 => ?_) (fun h5 => ?_) <;> (have h5' := h5; simp at h5; simp [h5, h5', hb, co])
    · exact shapeOk_f (fun s => by have := (s.blocks k hb).1; omega)
    have more : ((k : Int) ∈ held f.nodes ∨ f.data[k] = []) → ∀ (q : Nat) (hq : q < f.data.length), q < k + 1 → f.data[q].length ≤ 16 ∧ ((q : Int) ∈ held f.nodes ∨ f.data[q] = []) := fun hh q hq hlt => by
      by_cases e : q < k
      · exact hdo q hq e
      · obtain rfl : q = k := by omega
        exact ⟨by omega, hh⟩
    refine asplitK_intro (fun h6 => ?_) (fun h6 => ?_) <;> (have h6' := h6; simp at h6; simp [h6, h6', hb, cd])
    · have hni : (k : Int) ∉ held f.nodes := by
        intro hm
        have h7 : decide ((k : Int) ∈ held f.nodes) = true := by simpa using hm
        rw [h7] at ivk
        have := of_decide_eq_true ivk
        omega
      refine asplitK_intro (fun h7 => ?_) (fun h7 => ?_) <;> (have h7' := h7; simp at h7; simp [h7, h7'])
      · exact anext (k + 1) ⟨hb, more (.inr h7)⟩ (by omega) (by simp [pickF, wrap_succ (show k < 9223372036854775807 by omega)]) rfl (by simp)
      · exact shapeOk_f (fun s => by rcases (s.blocks k hb).2 with h8 | h8
                                     · exact hni h8
                                     · exact h7 h8)
    · have hi : (k : Int) ∈ held f.nodes := by
        have h7 : decide (0 ≤ os[k]) = true := by simpa using h6
        rw [h7] at ivk
        exact of_decide_eq_true ivk.symm
      exact anext (k + 1) ⟨hb, more (.inl hi)⟩ (by omega) (by simp [pickF, wrap_succ (show k < 9223372036854775807 by omega)]) rfl (by simp)
  obtain rfl : k = f.data.length := by omega
  have hblocks : DataOk f := fun q hq => hdo q hq hq
  have all : (∀ n ∈ f.nodes, NodeLens f n) → shapeOk f = true := fun hh => shapeOk_t ⟨e1, e2, fun _ => h3, hok, hown, hblocks, hh⟩
  refine aloop mixed [1, 66, 67, 68] (fun (x : Nat × Hp) => [.pointer (some ⟨h.length, 0, none⟩), .slice (some ⟨o, off, none⟩) f.nodes.length f.nodes.length, .int .i64 f.nodes.length, .int .i64 x.1]) (fun x => h ++ (⟨true, true, 77, [.slice (some ⟨o, off, none⟩) f.nodes.length f.nodes.length, .slice a2 f.data.length f.data.length]⟩ :: x.2)) (fun x => x.1 ≤ f.nodes.length ∧ ∀ (q : Nat) (hq : q < f.nodes.length), q < x.1 → NodeLens f f.nodes[q]) (fun x => f.nodes.length - x.1) (0, t1 ++ t2) ⟨by simp, by simp only; omega⟩ (by simp [pickF]) rfl ?_
  rintro ⟨i, T⟩ ⟨hi, hle⟩
  simp only at hi hle
  simp [mkF]
  refine asplitK_intro (fun hb => ?_) (fun hb => ?_) <;> simp at hb <;> simp [hb]
  · obtain ⟨o', off', b1, G1, e1', c0, c1, c2, c3, c4, kb, -⟩ := nodeAt (k1.to (h' := h ++ (⟨true, true, 77, [.slice (some ⟨o, off, none⟩) f.nodes.length f.nodes.length, .slice a2 f.data.length f.data.length]⟩ :: T)) (by simp)) hb
    obtain ⟨rfl, rfl⟩ : o = o' ∧ off = off' := by simpa using e1'
    simp [hb, c0, c1, c2, c3, c4]
    have hnk := hok _ (List.getElem_mem hb)
    obtain ⟨hs0, hs1, hs2⟩ := nodeOk_size hnk
    refine aloop mixed [1, 9, 66, 67, 68, 75, 76, 77] (fun (j : Nat) => [.pointer (some ⟨h.length, 0, none⟩), .int .i64 (f.nodes[i].size - 16 * j), .slice (some ⟨o, off, none⟩) f.nodes.length f.nodes.length, .int .i64 f.nodes.length, .int .i64 i, .slice b1 f.nodes[i].blocks.length f.nodes[i].blocks.length, .int .i64 f.nodes[i].blocks.length, .int .i64 j]) (fun _ => h ++ (⟨true, true, 77, [.slice (some ⟨o, off, none⟩) f.nodes.length f.nodes.length, .slice a2 f.data.length f.data.length]⟩ :: (T ++ [(⟨true, true, 151, [.int .i64 f.nodes[i].kind, .int .i64 f.nodes[i].gen, .int .i64 f.nodes[i].time, .int .i64 f.nodes[i].size, .slice b1 f.nodes[i].blocks.length f.nodes[i].blocks.length]⟩ : Ob)]))) (fun j => j ≤ f.nodes[i].blocks.length ∧ ∀ (q : Nat) (hq : q < f.nodes[i].blocks.length), q < j → dlen f f.nodes[i].blocks[q] = min (f.nodes[i].size - 16 * q) 16) (fun j => f.nodes[i].blocks.length - j) 0 ⟨by omega, by omega⟩ (by simp [pickF]) (by simp) ?_
    rintro j ⟨hj, hjl⟩
    simp [mkF]
    refine asplitK_intro (fun hc => ?_) (fun hc => ?_) <;> simp at hc <;> simp [hc]
    · obtain ⟨ob, offb, eb, cb⟩ := intEAt (kb.to (h' := h ++ (⟨true, true, 77, [.slice (some ⟨o, off, none⟩) f.nodes.length f.nodes.length, .slice a2 f.data.length f.data.length]⟩ :: (T ++ [(⟨true, true, 151, [.int .i64 f.nodes[i].kind, .int .i64 f.nodes[i].gen, .int .i64 f.nodes[i].time, .int .i64 f.nodes[i].size, .slice b1 f.nodes[i].blocks.length f.nodes[i].blocks.length]⟩ : Ob)]))) (by simp)) hc
      have hbm := hown.1 _ (mem_held hb hc)
      have hq : f.nodes[i].blocks[j].toNat < f.data.length := by omega
      obtain ⟨od, offd, ed, cd⟩ := strEAt (k2.to (h' := h ++ (⟨true, true, 77, [.slice (some ⟨o, off, none⟩) f.nodes.length f.nodes.length, .slice a2 f.data.length f.data.length]⟩ :: (T ++ [(⟨true, true, 151, [.int .i64 f.nodes[i].kind, .int .i64 f.nodes[i].gen, .int .i64 f.nodes[i].time, .int .i64 f.nodes[i].size, .slice b1 f.nodes[i].blocks.length f.nodes[i].blocks.length]⟩ : Ob)]))) (by simp)) hq
      have hdl : dlen f f.nodes[i].blocks[j] = f.data[f.nodes[i].blocks[j].toNat].length := by simp [dlen, hq]
      subst eb
      subst ed
      have w16 : IntKind.i64.wrap (f.nodes[i].size - 16 * j - 16) = f.nodes[i].size - 16 * ((j + 1 : Nat) : Int) := by rw [wrap_in (by omega) (by omega)]; omega
      simp [hc, cb, hbm.1, hbm.2, cd, amin_ii]
      refine asplitK_intro (fun h8 => ?_) (fun h8 => ?_) <;> (have h8' := h8; simp at h8; simp [h8, h8'])
      · refine shapeOk_f (fun s => h8 ?_)
        have := s.lens _ (List.getElem_mem hb) j hc
        rw [hdl] at this
        exact this
      · refine anext (j + 1) ⟨hc, fun q hq hlt => ?_⟩ (by omega) (by simp [pickF, wrap_succ (show j < 9223372036854775807 by omega), w16]) rfl (by simp)
        by_cases e : q < j
        · exact hjl q hq e
        · obtain rfl : q = j := by omega
          rw [hdl]; exact h8
    · obtain rfl : j = f.nodes[i].blocks.length := by omega
      refine anext (i + 1, _) ⟨hb, fun q hq hlt => ?_⟩ (by simp only; omega) (by simp [pickF, wrap_succ (show i < 9223372036854775807 by omega)]) rfl (by simp)
      by_cases e : q < i
      · exact hle q hq e
      · obtain rfl : q = i := by simp only at hlt; omega
        exact fun q' hq' => hjl q' hq' hq'
  · obtain rfl : i = f.nodes.length := by omega
    exact all fun n hn => by
      obtain ⟨q, hq, rfl⟩ := List.mem_iff_getElem.1 hn
      exact hle q hq hq
end Go.Proofs.Ytidkkmkihifeoaa.Hz
