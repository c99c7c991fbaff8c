/- A copy of a file system's image: both programs. -/
import Derived.Test.YtidkkmkihifeoaaHzCF
namespace Go.Proofs.Ytidkkmkihifeoaa.Hz
open Go.RowKit
set_option linter.unusedVariables false
set_option linter.unusedSimpArgs false
set_option maxRecDepth 20000

theorem CloneI.cells {f : Fs} {a1 a2 : Option Addr} {h : Hp} {oi : Nat} {ad : Option Addr} {Fd : List Nat} {i : Nat} {an : Option Addr} {H : Hp} (k : CloneI f a1 a2 h oi ad Fd i an H) :
    (∀ l, cellAt (H ++ l) oi 0 = some (.slice an i i)) ∧ (∀ l, cellAt (H ++ l) oi 1 = some (.slice ad f.data.length f.data.length)) ∧ (∀ l, cellAt (H ++ l) h.length 0 = some (.slice a1 f.nodes.length f.nodes.length)) := by
  refine ⟨fun l => ?_, fun l => ?_, fun l => ?_⟩
  · rw [cellAt_ext (Ext.push H l) (get_lt k.out), cellAt_of_get k.out rfl]; rfl
  · rw [cellAt_ext (Ext.push H l) (get_lt k.out), cellAt_of_get k.out rfl]; rfl
  · rw [cellAt_ext (Ext.push H l) (get_lt k.box), cellAt_of_get k.box rfl]; rfl
theorem CloneI.start {f : Fs} {a1 a2 : Option Addr} {h : Hp} {ad : Option Addr} {Fd : List Nat} {u : Hp} {e : TypeId}
    (od : Own (h ++ [⟨true, true, 77, [.slice a1 f.nodes.length f.nodes.length, .slice a2 f.data.length f.data.length]⟩, ⟨true, true, 77, [.slice none 0 0, .slice none 0 0]⟩]) 9 strE (h ++ ⟨true, true, 77, [.slice a1 f.nodes.length f.nodes.length, .slice a2 f.data.length f.data.length]⟩ :: ⟨true, true, 77, [.slice none 0 0, .slice none 0 0]⟩ :: u) f.data ad Fd) :
    CloneI f a1 a2 h (h.length + (u.length + 1 + 1)) ad Fd 0 none (h ++ ⟨true, true, 77, [.slice a1 f.nodes.length f.nodes.length, .slice a2 f.data.length f.data.length]⟩ :: ⟨true, true, 77, [.slice none 0 0, .slice none 0 0]⟩ :: (u ++ [⟨true, true, 77, [.slice none 0 0, .slice ad f.data.length f.data.length]⟩])) where
  ext := Ext.push _ _
  box := by simp
  res := by simp
  out := by
    rw [List.getElem?_append_right (by omega)]
    simp
  oi2 := by omega
  dat := by
    have e0 : Ext h (h ++ [⟨true, true, 77, [.slice a1 f.nodes.length f.nodes.length, .slice a2 f.data.length f.data.length]⟩, ⟨true, true, 77, [.slice none 0 0, .slice none 0 0]⟩]) := Ext.push _ _
    have := (Own.of_new e0 od).grow (Ext.push _ [⟨true, true, 77, [.slice none 0 0, .slice ad f.data.length f.data.length]⟩])
    simpa using this
  dd q hq := by
    have h1 := od.new q hq
    have h2 := od.sl.lt q hq
    simp at h1 h2
    omega
  nod := ⟨[], Own.nil (Ext.push _ _), fun q hq => by cases hq⟩
/-- The end: the copy is stored as the result. -/
theorem CloneI.done {f : Fs} {a1 a2 : Option Addr} {h : Hp} {oi : Nat} {ad : Option Addr} {Fd : List Nat} {an : Option Addr} {H : Hp} (k : CloneI f a1 a2 h oi ad Fd f.nodes.length an H) (vs : List Value) (hvs : vs.length = 2) :
    canSet H (h.length + 1) 0 2 = true ∧ cellAt (setsAt H (h.length + 1) 0 vs) (h.length + 1) 0 = vs[0]? ∧ cellAt (setsAt H (h.length + 1) 0 vs) (h.length + 1) 1 = vs[1]? ∧
      ∃ G1 G2, Own h 151 (nodeE true) (setsAt H (h.length + 1) 0 vs) f.nodes an G1 ∧ Own h 9 strE (setsAt H (h.length + 1) 0 vs) f.data ad G2 ∧ ∀ q ∈ G1, q ∉ G2 := by
  obtain ⟨ext, box, res, out, oi2, dat, dd, Fn, own, dn⟩ := k
  rw [List.take_length] at own
  have hg : (setsAt H (h.length + 1) 0 vs)[h.length + 1]? = some ⟨true, true, 77, vs⟩ := by
    rw [setsAt_get, if_pos rfl, res]
    simp only [Option.map_some]
    rw [setL_all _ _ (by simpa using hvs)]
  have hne : ∀ q, h.length + 2 ≤ q → (setsAt H (h.length + 1) 0 vs)[q]? = H[q]? := fun q hq => by rw [setsAt_get, if_neg (by omega)]
  refine ⟨by simp [canSet, res], by rw [cellAt_of_get hg rfl], by rw [cellAt_of_get hg rfl], Fn, Fd, ⟨own.ext.set (by omega) 0 _, own.sl.frame fun q hq => hne q (dn q hq).1, own.nd, own.new⟩, ⟨dat.ext.set (by omega) 0 _, dat.sl.frame fun q hq => hne q (dd q hq).1, dat.nd, dat.new⟩, fun q hq => (dn q hq).2.2⟩

set_option maxHeartbeats 2000000 in
theorem cloneFs_c (f : Fs) (a1 a2 : Option Addr) (F1 F2 : List Nat) (w1 w2 w : Bool) (t1 t2 : TypeId) (h : Hp) (r1 : slR w t1 (nodeE w) h f.nodes a1 F1) (r2 : slR w2 t2 strE h f.data a2 F2) (hl1 : f.nodes.length ≤ 1048576) (hl2 : f.data.length ≤ 1048576) (hlb : ∀ x ∈ f.nodes, x.blocks.length ≤ 1048576) :
    ACall Try.prog 131 [.agg #[.slice a1 f.nodes.length f.nodes.length, .slice a2 f.data.length f.data.length]] h fun r h' => ∃ b1 G1 b2 G2, r = .agg #[.slice b1 f.nodes.length f.nodes.length, .slice b2 f.data.length f.data.length] ∧ Own h 151 (nodeE true) h' f.nodes b1 G1 ∧ Own h 9 strE h' f.data b2 G2 ∧ ∀ q ∈ G1, q ∉ G2 := by
  refine acall mixed Try.func131 rfl (by kernel_rfl) ?_
  simp [Try.f131]
  refine callK0 (cloneStr_c f.data a2 F2 w2 t2 _ (r2.to (by simp)) hl2) ?_
  rintro _ _ ⟨ad, Fd, rfl, od⟩
  obtain ⟨u, rfl⟩ := od.ext.pre
  simp at od
  simp
  refine aloop mixed [1, 2, 3, 11, 12, 13] (fun (x : Nat × Option Addr × Hp) => [.pointer (some ⟨h.length, 0, none⟩), .pointer (some ⟨h.length + 1, 0, none⟩), .pointer (some ⟨h.length + (u.length + 1 + 1), 0, none⟩), .slice a1 f.nodes.length f.nodes.length, .int .i64 f.nodes.length, .int .i64 x.1]) (fun x => x.2.2)
    (fun x => x.1 ≤ f.nodes.length ∧ CloneI f a1 a2 h (h.length + (u.length + 1 + 1)) ad Fd x.1 x.2.1 x.2.2) (fun x => f.nodes.length - x.1) (0, none, _) ⟨by simp, CloneI.start (e := 0) od⟩ (by simp [pickF]) rfl ?_
  rintro ⟨i, an, H⟩ ⟨hi, k⟩
  simp only at hi k
  generalize h.length + (u.length + 1 + 1) = oi at k ⊢
  simp [mkF]
  refine asplitK_intro (fun hb => ?_) (fun hb => ?_) <;> simp at hb <;> simp [hb]
  · obtain ⟨o, off, bb, GB, rfl, c0, c1, c2, c3, c4, kb, -⟩ := nodeAt (r1.ext k.ext) hb
    simp [hb, c0, c1, c2, c3, c4]
    refine callK0 (cloneInt_c f.nodes[i].blocks bb GB w _ _ (kb.to (by simp)) (hlb _ (List.getElem_mem hb))) ?_
    rintro _ _ ⟨bc, Fc, rfl, oc⟩
    obtain ⟨t, rfl⟩ := oc.ext.pre
    have cc := k.cells
    obtain ⟨a', H'', eq, hc, k'⟩ := k.step (nb := _) (nb' := ⟨true, true, 151, [.int .i64 f.nodes[i].kind, .int .i64 f.nodes[i].gen, .int .i64 f.nodes[i].time, .int .i64 f.nodes[i].size, .slice bc f.nodes[i].blocks.length f.nodes[i].blocks.length]⟩) (t := t) hb hl1 oc
    simp [cc.1, eq, hc]
    exact anext (i + 1, a', _) ⟨hb, k'⟩ (by simp only; omega) (by simp [pickF, wrap_succ (show i < 9223372036854775807 by omega)]) rfl (by simp)
  · obtain rfl : i = f.nodes.length := by omega
    obtain ⟨h1, h2, h3, G1, G2, o1, o2, dis⟩ := k.done [.slice an f.nodes.length f.nodes.length, .slice ad f.data.length f.data.length] rfl
    have cc := k.cells
    have c1 := cc.1 []
    have c2 := cc.2.1 []
    simp at c1 c2
    simp [c1, c2, h1, h2, h3]
    exact ⟨an, G1, ad, ⟨rfl, rfl⟩, o1, G2, o2, dis⟩
set_option maxHeartbeats 2000000 in
theorem l6Copy_c (f : Fs) (a1 a2 : Option Addr) (F1 F2 : List Nat) (w1 w2 w : Bool) (t1 t2 : TypeId) (h : Hp) (r1 : slR w t1 (nodeE w) h f.nodes a1 F1) (r2 : slR w2 t2 strE h f.data a2 F2) (hl1 : f.nodes.length ≤ 1048576) (hl2 : f.data.length ≤ 1048576) (hlb : ∀ x ∈ f.nodes, x.blocks.length ≤ 1048576) :
    ACall Try.prog 130 [.agg #[.slice a1 f.nodes.length f.nodes.length, .slice a2 f.data.length f.data.length]] h fun r h' => ∃ b1 G1 b2 G2, r = .agg #[.slice b1 f.nodes.length f.nodes.length, .slice b2 f.data.length f.data.length] ∧ Own h 151 (nodeE true) h' f.nodes b1 G1 ∧ Own h 9 strE h' f.data b2 G2 ∧ ∀ q ∈ G1, q ∉ G2 := by
  refine acall mixed Try.func130 rfl (by kernel_rfl) ?_
  simp [Try.f130]
  refine callK0 (l1Copy_c f.data a2 F2 w2 t2 _ (r2.to (by simp)) hl2) ?_
  rintro _ _ ⟨ad, Fd, rfl, od⟩
  obtain ⟨u, rfl⟩ := od.ext.pre
  simp at od
  simp
  refine aloop mixed [1, 2, 3, 4] (fun (x : Nat × Option Addr × Hp) => [.pointer (some ⟨h.length, 0, none⟩), .pointer (some ⟨h.length + 1, 0, none⟩), .pointer (some ⟨h.length + (u.length + 1 + 1), 0, none⟩), .int .i64 x.1]) (fun x => x.2.2)
    (fun x => x.1 ≤ f.nodes.length ∧ CloneI f a1 a2 h (h.length + (u.length + 1 + 1)) ad Fd x.1 x.2.1 x.2.2) (fun x => f.nodes.length - x.1) (0, none, _) ⟨by simp, CloneI.start (e := 0) od⟩ (by simp [pickF]) rfl ?_
  rintro ⟨i, an, H⟩ ⟨hi, k⟩
  simp only at hi k
  generalize h.length + (u.length + 1 + 1) = oi at k ⊢
  have cc := k.cells
  have cb := cc.2.2 []
  simp at cb
  simp [mkF, cb]
  refine asplitK_intro (fun hb => ?_) (fun hb => ?_) <;> simp at hb <;> simp [hb]
  · obtain ⟨o, off, bb, GB, rfl, c0, c1, c2, c3, c4, kb, -⟩ := nodeAt (r1.ext k.ext) hb
    have c4' : ∀ l, cellAt (H ++ l) o (off + i * 5 + 4) = some (.slice bb f.nodes[i].blocks.length f.nodes[i].blocks.length) := fun l => by
      rw [cellAt_ext (Ext.push H l) (by obtain ⟨ob, ho, _⟩ := cellAt_some c4; exact get_lt ho), c4]
    have hbl := hlb _ (List.getElem_mem hb)
    obtain ⟨bc, h2, Fc, eqc, oc, _⟩ := (empty1 intE (H ++ [⟨true, true, 151, [.int .i64 f.nodes[i].kind, .int .i64 f.nodes[i].gen, .int .i64 f.nodes[i].time, .int .i64 f.nodes[i].size, .slice bb f.nodes[i].blocks.length f.nodes[i].blocks.length]⟩]) 3).appendSl (P := Try.prog) (kb.to (by simp)) (st := 135) (xt := 135) (bt := 8) (z := [.int .i64 0]) (by simp) (by simp) (by unfold big; simp; omega) (by unfold big; simp; omega)
    obtain ⟨t, rfl⟩ := oc.ext.pre
    simp at eqc
    simp only [List.nil_append] at oc
    obtain ⟨a', H'', eq, hc, k'⟩ := k.step (nb := _) (nb' := ⟨true, true, 151, [.int .i64 f.nodes[i].kind, .int .i64 f.nodes[i].gen, .int .i64 f.nodes[i].time, .int .i64 f.nodes[i].size, .slice bc f.nodes[i].blocks.length f.nodes[i].blocks.length]⟩) (t := t) hb hl1 oc
    simp [hb, cb, c0, c1, c2, c3, c4, c4', cc.2.2, eqc, cc.1]
    simp [eq, hc]
    exact anext (i + 1, a', _) ⟨hb, k'⟩ (by simp only; omega) (by simp [pickF, wrap_succ (show i < 9223372036854775807 by omega)]) rfl (by simp)
  · obtain rfl : i = f.nodes.length := by omega
    obtain ⟨h1, h2, h3, G1, G2, o1, o2, dis⟩ := k.done [.slice an f.nodes.length f.nodes.length, .slice ad f.data.length f.data.length] rfl
    have c1 := cc.1 []
    have c2 := cc.2.1 []
    simp at c1 c2
    simp [c1, c2, h1, h2, h3]
    exact ⟨an, G1, ad, ⟨rfl, rfl⟩, o1, G2, o2, dis⟩
end Go.Proofs.Ytidkkmkihifeoaa.Hz
