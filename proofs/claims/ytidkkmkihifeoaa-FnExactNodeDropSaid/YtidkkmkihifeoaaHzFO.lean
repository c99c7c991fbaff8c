/- A file system's image that is copied, turned and given back. -/
import Derived.Test.YtidkkmkihifeoaaHzCG
import Derived.Test.YtidkkmkihifeoaaHzMG
import Derived.Test.YtidkkmkihifeoaaHzRD
namespace Go.Proofs.Ytidkkmkihifeoaa.Hz
open Go.RowKit
set_option linter.unusedVariables false
set_option linter.unusedSimpArgs false
set_option maxRecDepth 20000

structure FsOut (f0 : Fs) (a1 a2 : Option Addr) (h : Hp) (oi : Nat) (f : Fs) (an ad : Option Addr) (H : Hp) : Prop where
  ext : Ext h H
  box : H[h.length]? = some ⟨true, true, 77, [.slice a1 f0.nodes.length f0.nodes.length, .slice a2 f0.data.length f0.data.length]⟩
  res : ∃ x y, H[h.length + 1]? = some ⟨true, true, 77, [x, y]⟩
  out : H[oi]? = some ⟨true, true, 77, [.slice an f.nodes.length f.nodes.length, .slice ad f.data.length f.data.length]⟩
  oi2 : h.length + 2 ≤ oi
  own : ∃ Fn Fd, Own h 151 (nodeE true) H f.nodes an Fn ∧ Own h 9 strE H f.data ad Fd ∧ (∀ q ∈ Fn, h.length + 2 ≤ q ∧ q ≠ oi ∧ q ∉ Fd) ∧ ∀ q ∈ Fd, h.length + 2 ≤ q ∧ q ≠ oi

section
variable {f0 f : Fs} {a1 a2 an ad : Option Addr} {h H : Hp} {oi : Nat}
theorem FsOut.cells (k : FsOut f0 a1 a2 h oi f an ad H) :
    cellAt H oi 0 = some (.slice an f.nodes.length f.nodes.length) ∧ cellAt H oi 1 = some (.slice ad f.data.length f.data.length) ∧ cellAt H h.length 0 = some (.slice a1 f0.nodes.length f0.nodes.length) ∧ cellAt H h.length 1 = some (.slice a2 f0.data.length f0.data.length) := by
  refine ⟨?_, ?_, ?_, ?_⟩
  · rw [cellAt_of_get k.out rfl]; rfl
  · rw [cellAt_of_get k.out rfl]; rfl
  · rw [cellAt_of_get k.box rfl]; rfl
  · rw [cellAt_of_get k.box rfl]; rfl
theorem FsOut.grow (k : FsOut f0 a1 a2 h oi f an ad H) (t : Hp) : FsOut f0 a1 a2 h oi f an ad (H ++ t) := by
  obtain ⟨ext, box, res, out, oi2, Fn, Fd, own, dat, dn, dd⟩ := k
  have xx := Ext.push H t
  refine ⟨ext.trans xx, ?_, ?_, ?_, oi2, Fn, Fd, own.grow xx, dat.grow xx, dn, dd⟩
  · rw [xx.2 _ (get_lt box)]; exact box
  · obtain ⟨x, y, res⟩ := res; exact ⟨x, y, by rw [xx.2 _ (get_lt res)]; exact res⟩
  · rw [xx.2 _ (get_lt out)]; exact out
theorem FsOut.start {u : Hp} {F1 F2 : List Nat}
    (o1 : Own (h ++ [⟨true, true, 77, [.slice a1 f0.nodes.length f0.nodes.length, .slice a2 f0.data.length f0.data.length]⟩, ⟨true, true, 77, [.slice none 0 0, .slice none 0 0]⟩]) 151 (nodeE true) (h ++ ⟨true, true, 77, [.slice a1 f0.nodes.length f0.nodes.length, .slice a2 f0.data.length f0.data.length]⟩ :: ⟨true, true, 77, [.slice none 0 0, .slice none 0 0]⟩ :: u) f0.nodes an F1)
    (o2 : Own (h ++ [⟨true, true, 77, [.slice a1 f0.nodes.length f0.nodes.length, .slice a2 f0.data.length f0.data.length]⟩, ⟨true, true, 77, [.slice none 0 0, .slice none 0 0]⟩]) 9 strE (h ++ ⟨true, true, 77, [.slice a1 f0.nodes.length f0.nodes.length, .slice a2 f0.data.length f0.data.length]⟩ :: ⟨true, true, 77, [.slice none 0 0, .slice none 0 0]⟩ :: u) f0.data ad F2)
    (dis : ∀ q ∈ F1, q ∉ F2) :
    FsOut f0 a1 a2 h (h.length + (u.length + 1 + 1)) f0 an ad (h ++ ⟨true, true, 77, [.slice a1 f0.nodes.length f0.nodes.length, .slice a2 f0.data.length f0.data.length]⟩ :: ⟨true, true, 77, [.slice none 0 0, .slice none 0 0]⟩ :: (u ++ [⟨true, true, 77, [.slice an f0.nodes.length f0.nodes.length, .slice ad f0.data.length f0.data.length]⟩])) where
  ext := Ext.push _ _
  box := by simp
  res := ⟨.slice none 0 0, .slice none 0 0, by simp⟩
  out := by
    rw [List.getElem?_append_right (by omega)]
    simp
  oi2 := by omega
  own := by
    have e0 : Ext h (h ++ [⟨true, true, 77, [.slice a1 f0.nodes.length f0.nodes.length, .slice a2 f0.data.length f0.data.length]⟩, ⟨true, true, 77, [.slice none 0 0, .slice none 0 0]⟩]) := Ext.push _ _
    have p1 := (Own.of_new e0 o1).grow (Ext.push _ [⟨true, true, 77, [.slice an f0.nodes.length f0.nodes.length, .slice ad f0.data.length f0.data.length]⟩])
    have p2 := (Own.of_new e0 o2).grow (Ext.push _ [⟨true, true, 77, [.slice an f0.nodes.length f0.nodes.length, .slice ad f0.data.length f0.data.length]⟩])
    refine ⟨F1, F2, by simpa using p1, by simpa using p2, fun q hq => ?_, fun q hq => ?_⟩
    · have h1 := o1.new q hq
      have h2 := o1.sl.lt q hq
      simp at h1 h2
      exact ⟨by omega, by omega, dis q hq⟩
    · have h1 := o2.new q hq
      have h2 := o2.sl.lt q hq
      simp at h1 h2
      exact ⟨by omega, by omega⟩
theorem FsOut.done (k : FsOut f0 a1 a2 h oi f an ad H) (vs : List Value) (hvs : vs.length = 2) :
    canSet H (h.length + 1) 0 2 = true ∧ cellAt (setsAt H (h.length + 1) 0 vs) (h.length + 1) 0 = vs[0]? ∧ cellAt (setsAt H (h.length + 1) 0 vs) (h.length + 1) 1 = vs[1]? ∧
      ∃ G1 G2, Own h 151 (nodeE true) (setsAt H (h.length + 1) 0 vs) f.nodes an G1 ∧ Own h 9 strE (setsAt H (h.length + 1) 0 vs) f.data ad G2 ∧ ∀ q ∈ G1, q ∉ G2 := by
  obtain ⟨ext, box, ⟨x, y, res⟩, out, oi2, Fn, Fd, own, dat, dn, dd⟩ := k
  have hg : (setsAt H (h.length + 1) 0 vs)[h.length + 1]? = some ⟨true, true, 77, vs⟩ := by
    rw [setsAt_get, if_pos rfl, res]
    simp only [Option.map_some]
    rw [setL_all _ _ (by simpa using hvs)]
  have hne : ∀ q, h.length + 2 ≤ q → (setsAt H (h.length + 1) 0 vs)[q]? = H[q]? := fun q hq => by rw [setsAt_get, if_neg (by omega)]
  refine ⟨by simp [canSet, res], by rw [cellAt_of_get hg rfl], by rw [cellAt_of_get hg rfl], Fn, Fd, ⟨own.ext.set (by omega) 0 _, own.sl.frame fun q hq => hne q (dn q hq).1, own.nd, own.new⟩, ⟨dat.ext.set (by omega) 0 _, dat.sl.frame fun q hq => hne q (dd q hq).1, dat.nd, dat.new⟩, fun q hq => (dn q hq).2.2⟩
/-- A field of a node is turned. -/
theorem FsOut.field {o off : Nat} (k : FsOut f0 a1 a2 h oi f (some ⟨o, off, none⟩) ad H) {i : Nat} {x : Node} (hx : f.nodes[i]? = some x) (j : Nat) (v : Int) (x' : Node) (hj : j < 4) (hb : x'.blocks = x.blocks)
    (hs : ∀ sl : Value, setL [.int .i64 x.kind, .int .i64 x.gen, .int .i64 x.time, .int .i64 x.size, sl] j [.int .i64 v] = [.int .i64 x'.kind, .int .i64 x'.gen, .int .i64 x'.time, .int .i64 x'.size, sl]) :
    canSet H o (off + i * 5 + j) 1 = true ∧ FsOut f0 a1 a2 h oi ⟨f.nodes.set i x', f.data⟩ (some ⟨o, off, none⟩) ad (setsAt H o (off + i * 5 + j) [.int .i64 v]) := by
  obtain ⟨ext, box, ⟨y, z, res⟩, out, oi2, Fn, Fd, own, dat, dn, dd⟩ := k
  obtain ⟨hc, own'⟩ := own.nodeField' hx j v x' hj hb hs
  have ho := dn o own.memF
  have hne : ∀ q, q ≠ o → (setsAt H o (off + i * 5 + j) [.int .i64 v])[q]? = H[q]? := fun q hq => by rw [setsAt_get, if_neg (fun e => hq e.symm)]
  refine ⟨hc, ⟨own'.ext, by rw [hne _ (by omega)]; exact box, ⟨y, z, by rw [hne _ (by omega)]; exact res⟩, by rw [hne _ (Ne.symm ho.2.1), List.length_set]; exact out, oi2, Fn, Fd, own', ⟨own'.ext, dat.sl.frame fun q hq => hne q fun e => ho.2.2 (e ▸ hq), dat.nd, dat.new⟩, dn, dd⟩⟩
/-- A node is made empty. -/
theorem FsOut.clear {o off : Nat} (k : FsOut f0 a1 a2 h oi f (some ⟨o, off, none⟩) ad H) {i : Nat} (hi : i < f.nodes.length) :
    canSet H o (off + i * 5) 5 = true ∧ FsOut f0 a1 a2 h oi ⟨f.nodes.set i ⟨0, 0, 0, 0, []⟩, f.data⟩ (some ⟨o, off, none⟩) ad (setsAt H o (off + i * 5) [.int .i64 0, .int .i64 0, .int .i64 0, .int .i64 0, .slice none 0 0]) := by
  obtain ⟨ext, box, ⟨y, z, res⟩, out, oi2, Fn, Fd, own, dat, dn, dd⟩ := k
  obtain ⟨c, Fi, hR, hFi, _, hput⟩ := own.put (List.getElem?_eq_getElem hi)
  have hl : c.length = 5 := (nodeE true).len hR
  have hset : setL c 0 [.int .i64 0, .int .i64 0, .int .i64 0, .int .i64 0, .slice none 0 0] = [.int .i64 0, .int .i64 0, .int .i64 0, .int .i64 0, .slice none 0 0] := setL_all _ c (by rw [hl]; rfl)
  obtain ⟨hc, F', own', _, sub⟩ := hput 0 [.int .i64 0, .int .i64 0, .int .i64 0, .int .i64 0, .slice none 0 0] ⟨0, 0, 0, 0, []⟩ [] (by show 0 + 5 ≤ 5; omega) (by rw [hset]; exact ⟨none, [], rfl, rfl, rfl, rfl⟩) (by simp) List.nodup_nil (fun q hq => by cases hq)
  have hn5 : (nodeE true).n = 5 := rfl
  simp only [hn5, Nat.add_zero] at hc own'
  have ho := dn o own.memF
  have sub' : ∀ q ∈ F', q ∈ Fn := fun q hq => by simpa using sub q hq
  have hne : ∀ q, q ≠ o → (setsAt H o (off + i * 5) [.int .i64 0, .int .i64 0, .int .i64 0, .int .i64 0, .slice none 0 0])[q]? = H[q]? := fun q hq => by rw [setsAt_get, if_neg (fun e => hq e.symm)]
  refine ⟨hc, ⟨own'.ext, by rw [hne _ (by omega)]; exact box, ⟨y, z, by rw [hne _ (by omega)]; exact res⟩, by rw [hne _ (Ne.symm ho.2.1), List.length_set]; exact out, oi2, F', Fd, own', ⟨own'.ext, dat.sl.frame fun q hq => hne q fun e => ho.2.2 (e ▸ hq), dat.nd, dat.new⟩, fun q hq => dn q (sub' q hq), dd⟩⟩
/-- A block is turned. -/
theorem FsOut.put {o off : Nat} (k : FsOut f0 a1 a2 h oi f an (some ⟨o, off, none⟩) H) {b : Nat} (hb : b < f.data.length) (s : Str) :
    canSet H o (off + b) 1 = true ∧ FsOut f0 a1 a2 h oi ⟨f.nodes, f.data.set b s⟩ an (some ⟨o, off, none⟩) (setsAt H o (off + b) [.string (S s)]) := by
  obtain ⟨ext, box, ⟨y, z, res⟩, out, oi2, Fn, Fd, own, dat, dn, dd⟩ := k
  obtain ⟨c, Fi, ⟨rfl, rfl⟩, hFi, _, hput⟩ := dat.put (List.getElem?_eq_getElem hb)
  obtain ⟨hc, F', dat', _, sub⟩ := hput 0 [.string (S s)] s [] (by show 0 + 1 ≤ 1; omega) ⟨rfl, rfl⟩ (by simp) List.nodup_nil (fun q hq => by cases hq)
  have hn1 : (strE).n = 1 := rfl
  simp only [hn1, Nat.add_zero, Nat.mul_one] at hc dat'
  have ho : o ∈ Fd := dat.memF
  have ho2 := dd o ho
  have sub' : ∀ q ∈ F', q ∈ Fd := fun q hq => by simpa using sub q hq
  have hne : ∀ q, q ≠ o → (setsAt H o (off + b) [.string (S s)])[q]? = H[q]? := fun q hq => by rw [setsAt_get, if_neg (fun e => hq e.symm)]
  refine ⟨hc, ⟨dat'.ext, by rw [hne _ (by omega)]; exact box, ⟨y, z, by rw [hne _ (by omega)]; exact res⟩, by rw [hne _ (Ne.symm ho2.2), List.length_set]; exact out, oi2, Fn, F', ⟨dat'.ext, own.sl.frame fun q hq => hne q fun e => (dn q hq).2.2 (e ▸ ho), own.nd, own.new⟩, dat', fun q hq => ⟨(dn q hq).1, (dn q hq).2.1, fun hm => (dn q hq).2.2 (sub' q hm)⟩, fun q hq => dd q (sub' q hq)⟩⟩
end
theorem keepCell {G H : Hp} {F1 F2 : List Nat} (keep : ∀ q, q < G.length → q ∉ F1 → q ∉ F2 → H[q]? = G[q]?) {q i : Nat} {v : Value} (h1 : q ∉ F1) (h2 : q ∉ F2) (c : cellAt G q i = some v) : cellAt H q i = some v ∧ ∀ l, cellAt (H ++ l) q i = some v := by
  obtain ⟨ob, ho, _⟩ := cellAt_some c
  have hk := keep q (get_lt ho) h1 h2
  have e : cellAt H q i = some v := by rw [cellAt_get hk]; exact c
  rw [ho] at hk
  exact ⟨e, fun l => by rw [cellAt_ext (Ext.push H l) (get_lt hk)]; exact e⟩
end Go.Proofs.Ytidkkmkihifeoaa.Hz
