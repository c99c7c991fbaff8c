/- The shape of a file system's image: the reference's walk. -/
import Derived.Test.YtidkkmkihifeoaaHzSH
namespace Go.Proofs.Ytidkkmkihifeoaa.Hz
open Go.RowKit
set_option linter.unusedVariables false
set_option linter.unusedSimpArgs false
set_option maxRecDepth 20000

theorem l1Min_c (x y : Int) (h : Hp) : ACall Try.prog 180 [.int .i64 x, .int .i64 y] h fun r h' => r = .int .i64 (min x y) ∧ h' = h := by
  refine acall mixed Try.func180 rfl (by kernel_rfl) ?_
  simp [Try.f180]
  refine asplitK_intro (fun hb => ?_) (fun hb => ?_) <;> simp at hb <;> simp [hb] <;> omega
theorem l6Long_c (size k : Int) (h : Hp) (h1 : 0 ≤ k) (h2 : k ≤ 1048576) (h3 : 0 ≤ size) (h4 : size ≤ 1048576) : ACall Try.prog 137 [.int .i64 size, .int .i64 k] h fun r h' => r = .int .i64 (min (size - 16 * k) 16) ∧ h' = h := by
  refine acall mixed Try.func137 rfl (by kernel_rfl) ?_
  have w1 : IntKind.i64.wrap (k * 16) = k * 16 := wrap_in (by omega) (by omega)
  have w2 : IntKind.i64.wrap (size - k * 16) = size - 16 * k := by rw [wrap_in (by omega) (by omega)]; omega
  simp [Try.f137, w1, w2]
  refine callK0 (l1Min_c 16 (size - 16 * k) _) ?_
  rintro _ _ ⟨rfl, rfl⟩
  simp
  omega
set_option maxHeartbeats 4000000 in
theorem shapeOk_spec_c (f : Fs) (a1 a2 : Option Addr) (F1 F2 : List Nat) (w : Bool) (tNode : TypeId) (h : Hp) (k1 : slR w tNode (nodeE w) h f.nodes a1 F1) (k2 : slR w 9 strE h f.data a2 F2) (hl : f.nl ≤ 1048576) :
    ACall Try.prog 121 [.agg #[.slice a1 f.nodes.length f.nodes.length, .slice a2 f.data.length f.data.length]] h fun r h' => (∃ t, h' = h ++ t) ∧ r = .bool (shapeOk f) := by
  refine acall mixed Try.func121 rfl (by kernel_rfl) ?_
  have hlim := Fs.lim_of f hl
  have hN : f.data.length ≤ 1048576 := hlim.2.2
  have hM : f.nodes.length ≤ 1048576 := hlim.1
  simp [Try.f121]
  refine callK0 (l1InR f.nodes.length 2 10 _) ?_
  rintro _ _ ⟨rfl, rfl⟩
  cases e1 : inR f.nodes.length 2 10
  · simp [shapeOk_f (fun s => by rw [s.nodes] at e1; cases e1)]
  simp
  refine callK0 (l1InR f.data.length 1 36 _) ?_
  rintro _ _ ⟨rfl, rfl⟩
  cases e2 : inR f.data.length 1 36
  · simp [shapeOk_f (fun s => by rw [s.data] at e2; cases e2)]
  have hn0 : 0 < f.nodes.length := by have := inR_iff.1 e1; omega
  have hd1 : 1 ≤ f.data.length := by have := inR_iff.1 e2; omega
  obtain ⟨o, off, b1, G1, ea1, c0, -, -, -, -, -, -⟩ := nodeAt (k1.ext (Ext.push h [⟨true, true, 77, [.slice a1 f.nodes.length f.nodes.length, .slice a2 f.data.length f.data.length]⟩])) hn0
  have c0' := c0
  simp only [Nat.zero_mul, Nat.add_zero] at c0'
  subst ea1
  simp [hn0, c0']
  refine asplitK_intro (fun h3 => ?_) (fun h3 => ?_) <;> (have h3' := h3; simp at h3; simp [h3, h3'])
  · exact (shapeOk_f (fun s => h3 (s.root hn0)))
  refine aloop mixed [1, 3] (fun (x : Nat × Hp) => [.pointer (some ⟨h.length, 0, none⟩), .int .i64 x.1]) (fun x => h ++ (⟨true, true, 77, [.slice (some ⟨o, off, none⟩) f.nodes.length f.nodes.length, .slice a2 f.data.length f.data.length]⟩ :: x.2)) (fun x => x.1 ≤ f.nodes.length ∧ ∀ (q : Nat) (hq : q < f.nodes.length), q < x.1 → nodeOk f.nodes[q] = true) (fun x => f.nodes.length - x.1) (0, []) ⟨by simp, by simp only; omega⟩ (by simp [pickF]) rfl ?_
  rintro ⟨i, T⟩ ⟨hi, hle⟩
  simp only at hi hle
  simp [mkF]
  refine asplitK_intro (fun hb => ?_) (fun hb => ?_) <;> simp at hb <;> simp [hb]
  · obtain ⟨o', off', b1, G1, e1', c0, c1, c2, c3, c4, kb, -⟩ := nodeAt (k1.to (h' := h ++ (⟨true, true, 77, [.slice (some ⟨o, off, none⟩) f.nodes.length f.nodes.length, .slice a2 f.data.length f.data.length]⟩ :: T)) (by simp)) hb
    obtain ⟨rfl, rfl⟩ : o = o' ∧ off = off' := by simpa using e1'
    simp [hb, c0, c1, c2, c3, c4]
    refine callK0 (nodeOk_spec_c f.nodes[i] b1 G1 w _ kb (hlim.2.1 _ (List.getElem_mem hb))) ?_
    rintro _ _ ⟨⟨t3, rfl⟩, rfl⟩
    simp
    refine asplitK_intro (fun h5 => ?_) (fun h5 => ?_) <;> simp [h5]
    · refine anext (i + 1, T ++ t3) ⟨hb, fun q hq hlt => ?_⟩ (by simp only; omega) (by simp [pickF, wrap_succ (show i < 9223372036854775807 by omega)]) (by simp) (by simp)
      by_cases e : q < i
      · exact hle q hq e
      · obtain rfl : q = i := by simp only at hlt; omega
        exact h5
    · exact shapeOk_f (fun s => by rw [s.ok _ (List.getElem_mem hb)] at h5; cases h5)
  obtain rfl : i = f.nodes.length := by omega
  have hok : ∀ n ∈ f.nodes, nodeOk n = true := fun n hn => by
    obtain ⟨q, hq, rfl⟩ := List.mem_iff_getElem.1 hn
    exact hle q hq hq
  have hpos := held_pos hok
  refine callK0 (l6Used_c f _ a2 F1 F2 w tNode _ (k1.to (by simp)) (k2.to (by simp)) hl) ?_
  rintro _ _ ⟨us, au, Fu, rfl, inv, own⟩
  obtain ⟨t2, rfl⟩ := own.ext.pre
  have sl := own.sl
  have il := inv.1
  have hlt : f.data.length < us.length := by omega
  have hdone := inv.done hpos hlt
  obtain ⟨ou, offu, eu, cu⟩ := intEAt sl hlt
  subst eu
  simp at cu sl
  simp [hlt, cu]
  have cnt : ∀ (q : Nat) (hq : q < f.data.length), us[q]'(by omega) = (held f.nodes).count (q : Int) := fun q hq => inv.2.1 q hq (by omega)
  have hu0 := (inv.le hlt).1
  refine asplitK_intro (fun h6 => ?_) (fun h6 => ?_) <;> (have h6' := h6; simp at h6; simp [h6, h6'])
  · exact shapeOk_f (fun s => by have := (hdone.1 s.own).1; omega)
  refine aloop mixed [1, 4, 5] (fun (k : Nat) => [.pointer (some ⟨h.length, 0, none⟩), .slice (some ⟨ou, offu, none⟩) us.length us.length, .int .i64 k]) (fun _ => h ++ (⟨true, true, 77, [.slice (some ⟨o, off, none⟩) f.nodes.length f.nodes.length, .slice a2 f.data.length f.data.length]⟩ :: (T ++ t2))) (fun k => k ≤ f.data.length ∧ ∀ (q : Nat) (hq : q < f.data.length), q < k → (held f.nodes).count (q : Int) ≤ 1 ∧ f.data[q].length ≤ 16 ∧ ((q : Int) ∈ held f.nodes ∨ f.data[q] = [])) (fun k => f.data.length - k) 0 ⟨by omega, by omega⟩ (by simp [pickF]) (by simp) ?_
  rintro k ⟨hk, hdo⟩
  simp [mkF]
  refine asplitK_intro (fun hb => ?_) (fun hb => ?_) <;> simp at hb <;> simp [hb]
  · obtain ⟨od, offd, ed, cd⟩ := strEAt (k2.to (h' := h ++ (⟨true, true, 77, [.slice (some ⟨o, off, none⟩) f.nodes.length f.nodes.length, .slice a2 f.data.length f.data.length]⟩ :: (T ++ t2))) (by simp)) hb
    have hku : k < us.length := by omega
    obtain ⟨oo, offo, eo, co⟩ := intEAt sl hku
    obtain ⟨rfl, rfl⟩ : ou = oo ∧ offu = offo := by simpa using eo
    have ck := cnt k hb
    subst ed
    simp [hb, hku, cd, co]
    refine asplitK_intro (fun h7 => ?_) (fun h7 => ?_) <;> (have h7' := h7; simp at h7; simp [h7, h7', hku, co])
    · exact shapeOk_f (fun s => by have := (hdone.1 s.own).2 k hb hku; omega)
    have more : f.data[k].length ≤ 16 → ((k : Int) ∈ held f.nodes ∨ f.data[k] = []) → ∀ (q : Nat) (hq : q < f.data.length), q < k + 1 → (held f.nodes).count (q : Int) ≤ 1 ∧ f.data[q].length ≤ 16 ∧ ((q : Int) ∈ held f.nodes ∨ f.data[q] = []) := fun hh1 hh q hq hlt => by
      by_cases e : q < k
      · exact hdo q hq e
      · obtain rfl : q = k := by omega
        exact ⟨by omega, hh1, hh⟩
    refine asplitK_intro (fun h8 => ?_) (fun h8 => ?_) <;> (have h8' := h8; simp at h8; simp [h8, h8', hb, cd])
    · have hni : (k : Int) ∉ held f.nodes := List.count_eq_zero.1 (by omega)
      refine asplitK_intro (fun h9 => ?_) (fun h9 => ?_) <;> (have h9' := h9; simp at h9; simp [h9, h9', hb, cd])
      · exact anext (k + 1) ⟨hb, more (by simp [h9]) (.inr h9)⟩ (by omega) (by simp [pickF, wrap_succ (show k < 9223372036854775807 by omega)]) rfl (by simp)
      · exact shapeOk_f (fun s => by rcases (s.blocks k hb).2 with h8 | h8
                                     · exact hni h8
                                     · exact h9 h8)
    · have hi : (k : Int) ∈ held f.nodes := by
        refine List.count_pos_iff.1 ?_
        omega
      refine asplitK_intro (fun h10 => ?_) (fun h10 => ?_) <;> (have h10' := h10; simp at h10; simp [h10, h10'])
      · exact shapeOk_f (fun s => by have := (s.blocks k hb).1; omega)
      · exact anext (k + 1) ⟨hb, more (by omega) (.inl hi)⟩ (by omega) (by simp [pickF, wrap_succ (show k < 9223372036854775807 by omega)]) rfl (by simp)
  obtain rfl : k = f.data.length := by omega
  have hblocks : DataOk f := fun q hq => (hdo q hq hq).2
  have hown : OwnOk f := hdone.2 ⟨by omega, fun q hq hu => by rw [inv.2.1 q hq hu]; have := (hdo q hq hq).1; omega⟩
  have all : (∀ n ∈ f.nodes, NodeLens f n) → shapeOk f = true := fun hh => shapeOk_t ⟨e1, e2, fun _ => h3, hok, hown, hblocks, hh⟩
  refine aloop mixed [1, 6] (fun (x : Nat × Hp) => [.pointer (some ⟨h.length, 0, none⟩), .int .i64 x.1]) (fun x => h ++ (⟨true, true, 77, [.slice (some ⟨o, off, none⟩) f.nodes.length f.nodes.length, .slice a2 f.data.length f.data.length]⟩ :: x.2)) (fun x => x.1 ≤ f.nodes.length ∧ ∀ (q : Nat) (hq : q < f.nodes.length), q < x.1 → NodeLens f f.nodes[q]) (fun x => f.nodes.length - x.1) (0, T ++ t2) ⟨by simp, by simp only; omega⟩ (by simp [pickF]) rfl ?_
  rintro ⟨i, T⟩ ⟨hi, hle⟩
  simp only at hi hle
  simp [mkF]
  refine asplitK_intro (fun hb => ?_) (fun hb => ?_) <;> simp at hb <;> simp [hb]
  · obtain ⟨o', off', b1, G1, e1', c0, c1, c2, c3, c4, kb, -⟩ := nodeAt (k1.to (h' := h ++ (⟨true, true, 77, [.slice (some ⟨o, off, none⟩) f.nodes.length f.nodes.length, .slice a2 f.data.length f.data.length]⟩ :: T)) (by simp)) hb
    obtain ⟨rfl, rfl⟩ : o = o' ∧ off = off' := by simpa using e1'
    simp [hb, c0, c1, c2, c3, c4]
    have hnk := hok _ (List.getElem_mem hb)
    obtain ⟨hs0, hs1, hs2⟩ := nodeOk_size hnk
    refine aloop mixed [1, 6, 7, 8] (fun (j : Nat) => [.pointer (some ⟨h.length, 0, none⟩), .int .i64 i, .pointer (some ⟨h.length + (T.length + 1), 0, none⟩), .int .i64 j]) (fun _ => h ++ (⟨true, true, 77, [.slice (some ⟨o, off, none⟩) f.nodes.length f.nodes.length, .slice a2 f.data.length f.data.length]⟩ :: (T ++ [(⟨true, true, 151, [.int .i64 f.nodes[i].kind, .int .i64 f.nodes[i].gen, .int .i64 f.nodes[i].time, .int .i64 f.nodes[i].size, .slice b1 f.nodes[i].blocks.length f.nodes[i].blocks.length]⟩ : Ob)]))) (fun j => j ≤ f.nodes[i].blocks.length ∧ ∀ (q : Nat) (hq : q < f.nodes[i].blocks.length), q < j → dlen f f.nodes[i].blocks[q] = min (f.nodes[i].size - 16 * q) 16) (fun j => f.nodes[i].blocks.length - j) 0 ⟨by omega, by omega⟩ (by simp [pickF]) (by simp) ?_
    rintro j ⟨hj, hjl⟩
    simp [mkF]
    refine asplitK_intro (fun hc => ?_) (fun hc => ?_) <;> simp at hc <;> simp [hc]
    · obtain ⟨ob, offb, eb, cb⟩ := intEAt (kb.to (h' := h ++ (⟨true, true, 77, [.slice (some ⟨o, off, none⟩) f.nodes.length f.nodes.length, .slice a2 f.data.length f.data.length]⟩ :: (T ++ [(⟨true, true, 151, [.int .i64 f.nodes[i].kind, .int .i64 f.nodes[i].gen, .int .i64 f.nodes[i].time, .int .i64 f.nodes[i].size, .slice b1 f.nodes[i].blocks.length f.nodes[i].blocks.length]⟩ : Ob)]))) (by simp)) hc
      have hbm := hown.1 _ (mem_held hb hc)
      have hq : f.nodes[i].blocks[j].toNat < f.data.length := by omega
      obtain ⟨od, offd, ed, cd⟩ := strEAt (k2.to (h' := h ++ (⟨true, true, 77, [.slice (some ⟨o, off, none⟩) f.nodes.length f.nodes.length, .slice a2 f.data.length f.data.length]⟩ :: (T ++ [(⟨true, true, 151, [.int .i64 f.nodes[i].kind, .int .i64 f.nodes[i].gen, .int .i64 f.nodes[i].time, .int .i64 f.nodes[i].size, .slice b1 f.nodes[i].blocks.length f.nodes[i].blocks.length]⟩ : Ob)]))) (by simp)) hq
      have hdl : dlen f f.nodes[i].blocks[j] = f.data[f.nodes[i].blocks[j].toNat].length := by simp [dlen, hq]
      subst eb
      subst ed
      refine drawK true (by kernel_rfl) ?_
      simp [hc, cb, hbm.1, hbm.2, cd]
      refine callK (l6Long_c f.nodes[i].size j _ (by omega) (by omega) (by omega) (by omega)) ?_
      rintro _ _ ⟨rfl, rfl⟩
      refine ⟨fun _ => Ext.refl _, ?_⟩
      simp
      refine asplitK_intro (fun h8 => ?_) (fun h8 => ?_) <;> (have h8' := h8; simp at h8; simp [h8, h8'])
      · refine shapeOk_f (fun s => h8 ?_)
        have := s.lens _ (List.getElem_mem hb) j hc
        rw [hdl] at this
        exact this
      · refine anext (j + 1) ⟨hc, fun q hq hlt => ?_⟩ (by omega) (by simp [pickF, wrap_succ (show j < 9223372036854775807 by omega)]) rfl (by simp)
        by_cases e : q < j
        · exact hjl q hq e
        · obtain rfl : q = j := by omega
          rw [hdl]; exact h8
    · obtain rfl : j = f.nodes[i].blocks.length := by omega
      refine anext (i + 1, _) ⟨hb, fun q hq hlt => ?_⟩ (by simp only; omega) (by simp [pickF, wrap_succ (show i < 9223372036854775807 by omega)]) rfl (by simp)
      by_cases e : q < i
      · exact hle q hq e
      · obtain rfl : q = i := by simp only at hlt; omega
        exact fun q' hq' => hjl q' hq' hq'
  · obtain rfl : i = f.nodes.length := by omega
    exact all fun n hn => by
      obtain ⟨q, hq, rfl⟩ := List.mem_iff_getElem.1 hn
      exact hle q hq hq
end Go.Proofs.Ytidkkmkihifeoaa.Hz
