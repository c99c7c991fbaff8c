/- Reading a node of a file system's image: both programs. -/
import Derived.Test.YtidkkmkihifeoaaHzSS
namespace Go.Proofs.Ytidkkmkihifeoaa.Hz
open Go.RowKit
set_option linter.unusedVariables false
set_option linter.unusedSimpArgs false
set_option maxRecDepth 20000

def dat (f : Fs) (b : Int) : Str := (f.data[b.toNat]?).getD []
def contentOf (f : Fs) (bs : List Int) : Str := (bs.map (dat f)).flatten
def nodeAtI (f : Fs) (i : Int) : Node := (f.nodes[i.toNat]?).getD ⟨0, 0, 0, 0, []⟩
noncomputable def usable (f : Fs) (i : Int) : Bool := shapeOk f && (inR i 0 (f.nodes.length - 1) && (nodeAtI f i).kind != 0)
theorem contentOf_take (f : Fs) (bs : List Int) (j : Nat) (hj : j < bs.length) : contentOf f (bs.take (j + 1)) = contentOf f (bs.take j) ++ dat f bs[j] := by
  unfold contentOf
  rw [List.take_succ_eq_append_getElem hj, List.map_append, List.flatten_append]
  simp only [List.map_cons, List.map_nil, List.flatten_cons, List.flatten_nil, List.append_nil]
theorem dat_le {f : Fs} (s : ShapeOk f) (b : Int) : (dat f b).length ≤ 16 := by
  unfold dat
  by_cases hb : b.toNat < f.data.length
  · simp only [List.getElem?_eq_getElem hb, Option.getD_some]
    exact (s.blocks _ hb).1
  · simp [List.getElem?_eq_none (by omega : f.data.length ≤ b.toNat)]
theorem contentOf_le {f : Fs} (s : ShapeOk f) : ∀ (bs : List Int), (contentOf f bs).length ≤ 16 * bs.length
  | [] => by simp [contentOf]
  | b :: bs => by
    have h1 := contentOf_le s bs
    have h2 := dat_le s b
    have e : contentOf f (b :: bs) = dat f b ++ contentOf f bs := by simp [contentOf]
    rw [e, List.length_append, List.length_cons]
    omega
theorem nodeAtI_get {f : Fs} {i : Nat} (hi : i < f.nodes.length) : nodeAtI f i = f.nodes[i] := by
  simp [nodeAtI, hi]
set_option maxHeartbeats 2000000 in
theorem content_c (f : Fs) (a1 a2 : Option Addr) (F1 F2 : List Nat) (w : Bool) (tNode : TypeId) (h : Hp) (k1 : slR w tNode (nodeE w) h f.nodes a1 F1) (k2 : slR w 9 strE h f.data a2 F2) (hl : f.nl ≤ 1048576) (s : ShapeOk f) (i : Nat) (hi : i < f.nodes.length) :
    ACall Try.prog 116 [.agg #[.slice a1 f.nodes.length f.nodes.length, .slice a2 f.data.length f.data.length], .int .i64 i] h fun r h' => (∃ t, h' = h ++ t) ∧ r = .string (S (contentOf f (f.nodes[i].blocks))) := by
  refine acall mixed Try.func116 rfl (by kernel_rfl) ?_
  have hlim := Fs.lim_of f hl
  have hbl : f.nodes[i].blocks.length ≤ 1048576 := hlim.2.1 _ (List.getElem_mem hi)
  obtain ⟨o, off, b1, G1, ea, c0, c1, c2, c3, c4, kb, -⟩ := nodeAt (k1.ext (Ext.push h [⟨true, true, 77, [.slice a1 f.nodes.length f.nodes.length, .slice a2 f.data.length f.data.length]⟩])) hi
  subst ea
  simp [Try.f116, hi, c4]
  refine aloop mixed [2, 5, 13, 14, 15] (fun (j : Nat) => [.pointer (some ⟨h.length, 0, none⟩), .string (S (contentOf f (f.nodes[i].blocks.take j))), .slice b1 f.nodes[i].blocks.length f.nodes[i].blocks.length, .int .i64 f.nodes[i].blocks.length, .int .i64 j]) (fun _ => h ++ [⟨true, true, 77, [.slice (some ⟨o, off, none⟩) f.nodes.length f.nodes.length, .slice a2 f.data.length f.data.length]⟩]) (fun j => j ≤ f.nodes[i].blocks.length) (fun j => f.nodes[i].blocks.length - j) 0 (by omega) (by simp [pickF, contentOf]) (by simp) ?_
  rintro j hj
  simp [mkF]
  refine asplitK_intro (fun hb => ?_) (fun hb => ?_) <;> simp at hb <;> simp [hb]
  · obtain ⟨ob, offb, eb, cb⟩ := intEAt kb hb
    subst eb
    have hbm := s.own.1 _ (mem_held hi hb)
    have hq : f.nodes[i].blocks[j].toNat < f.data.length := by omega
    obtain ⟨od, offd, ed, cd⟩ := strEAt (k2.ext (Ext.push h [⟨true, true, 77, [.slice (some ⟨o, off, none⟩) f.nodes.length f.nodes.length, .slice a2 f.data.length f.data.length]⟩])) hq
    subst ed
    have hd : f.data[f.nodes[i].blocks[j].toNat] = dat f f.nodes[i].blocks[j] := by simp [dat, hq]
    rw [hd] at cd
    have h1 := contentOf_le s (f.nodes[i].blocks.take j)
    have h2 := dat_le s f.nodes[i].blocks[j]
    have h3 : (f.nodes[i].blocks.take j).length ≤ 1048576 := by simp; omega
    have h4 : (contentOf f (f.nodes[i].blocks.take j)).length + (dat f f.nodes[i].blocks[j]).length ≤ 9223372036854775807 := by omega
    simp [hb, cb, hbm.1, hbm.2, cd, h4]
    exact anext (j + 1) hb (by omega) (by simp [pickF, wrap_succ (show j < 9223372036854775807 by omega), contentOf_take f _ _ hb]) rfl (by simp)
  · obtain rfl : j = f.nodes[i].blocks.length := by omega
    simp
set_option maxHeartbeats 2000000 in
theorem l7Read_c (f : Fs) (a1 a2 : Option Addr) (F1 F2 : List Nat) (w : Bool) (tNode : TypeId) (h : Hp) (k1 : slR w tNode (nodeE w) h f.nodes a1 F1) (k2 : slR w 9 strE h f.data a2 F2) (hl : f.nl ≤ 1048576) (s : ShapeOk f) (i : Nat) (hi : i < f.nodes.length) :
    ACall Try.prog 112 [.agg #[.slice a1 f.nodes.length f.nodes.length, .slice a2 f.data.length f.data.length], .int .i64 i] h fun r h' => (∃ t, h' = h ++ t) ∧ r = .string (S (contentOf f (f.nodes[i].blocks))) := by
  refine acall mixed Try.func112 rfl (by kernel_rfl) ?_
  have hlim := Fs.lim_of f hl
  have hbl : f.nodes[i].blocks.length ≤ 1048576 := hlim.2.1 _ (List.getElem_mem hi)
  obtain ⟨o, off, b1, G1, ea, c0, c1, c2, c3, c4, kb, -⟩ := nodeAt (k1.ext (Ext.push h [⟨true, true, 77, [.slice a1 f.nodes.length f.nodes.length, .slice a2 f.data.length f.data.length]⟩])) hi
  subst ea
  simp [Try.f112]
  refine aloop mixed [1, 2, 5, 6] (fun (j : Nat) => [.int .i64 i, .pointer (some ⟨h.length, 0, none⟩), .string (S (contentOf f (f.nodes[i].blocks.take j))), .int .i64 j]) (fun _ => h ++ [⟨true, true, 77, [.slice (some ⟨o, off, none⟩) f.nodes.length f.nodes.length, .slice a2 f.data.length f.data.length]⟩]) (fun j => j ≤ f.nodes[i].blocks.length) (fun j => f.nodes[i].blocks.length - j) 0 (by omega) (by simp [pickF, contentOf]) (by simp) ?_
  rintro j hj
  simp [mkF, hi, c4]
  refine asplitK_intro (fun hb => ?_) (fun hb => ?_) <;> simp at hb <;> simp [hb]
  · obtain ⟨ob, offb, eb, cb⟩ := intEAt kb hb
    subst eb
    have hbm := s.own.1 _ (mem_held hi hb)
    have hq : f.nodes[i].blocks[j].toNat < f.data.length := by omega
    obtain ⟨od, offd, ed, cd⟩ := strEAt (k2.ext (Ext.push h [⟨true, true, 77, [.slice (some ⟨o, off, none⟩) f.nodes.length f.nodes.length, .slice a2 f.data.length f.data.length]⟩])) hq
    subst ed
    have hd : f.data[f.nodes[i].blocks[j].toNat] = dat f f.nodes[i].blocks[j] := by simp [dat, hq]
    rw [hd] at cd
    have h1 := contentOf_le s (f.nodes[i].blocks.take j)
    have h2 := dat_le s f.nodes[i].blocks[j]
    have h3 : (f.nodes[i].blocks.take j).length ≤ 1048576 := by simp; omega
    have h4 : (contentOf f (f.nodes[i].blocks.take j)).length + (dat f f.nodes[i].blocks[j]).length ≤ 9223372036854775807 := by omega
    refine drawK false (by kernel_rfl) ?_
    simp [hb, hi, c4, cb, hbm.1, hbm.2, cd, h4]
    exact anext (j + 1) hb (by omega) (by simp [pickF, wrap_succ (show j < 9223372036854775807 by omega), contentOf_take f _ _ hb]) rfl (by simp)
  · obtain rfl : j = f.nodes[i].blocks.length := by omega
    simp
theorem usable_impl_c (f : Fs) (a1 a2 : Option Addr) (F1 F2 : List Nat) (w : Bool) (tNode : TypeId) (h : Hp) (k1 : slR w tNode (nodeE w) h f.nodes a1 F1) (k2 : slR w 9 strE h f.data a2 F2) (hl : f.nl ≤ 1048576) (i : Int) :
    ACall Try.prog 115 [.agg #[.slice a1 f.nodes.length f.nodes.length, .slice a2 f.data.length f.data.length], .int .i64 i] h fun r h' => (∃ t, h' = h ++ t) ∧ r = .bool (usable f i) := by
  refine acall mixed Try.func115 rfl (by kernel_rfl) ?_
  have hlim := Fs.lim_of f hl
  have hM : f.nodes.length ≤ 1048576 := hlim.1
  have w1 : IntKind.i64.wrap ((f.nodes.length : Int) - 1) = (f.nodes.length : Int) - 1 := wrap_in (by omega) (by omega)
  simp [Try.f115]
  refine callK0 (shapeOk_impl_c f a1 a2 F1 F2 w tNode _ (k1.to (by simp)) (k2.to (by simp)) hl) ?_
  rintro _ _ ⟨⟨t1, rfl⟩, rfl⟩
  cases e1 : shapeOk f
  · simp [usable, e1]
  simp [w1]
  refine callK0 (withinR i 0 (f.nodes.length - 1) _) ?_
  rintro _ _ ⟨rfl, rfl⟩
  cases e2 : inR i 0 (f.nodes.length - 1)
  · simp [usable, e1, e2]
  have e2' := inR_iff.1 e2
  have hi : i.toNat < f.nodes.length := by omega
  obtain ⟨m, rfl⟩ := Int.eq_ofNat_of_zero_le e2'.1
  have hi : m < f.nodes.length := by omega
  obtain ⟨o, off, b1, G1, ea, c0, -, -, -, -, -, -⟩ := nodeAt (k1.ext (Ext.push h (⟨true, true, 77, [.slice a1 f.nodes.length f.nodes.length, .slice a2 f.data.length f.data.length]⟩ :: t1))) hi
  subst ea
  simp [hi, c0, usable, e1, e2, nodeAtI_get hi]
theorem usable_spec_c (f : Fs) (a1 a2 : Option Addr) (F1 F2 : List Nat) (w : Bool) (tNode : TypeId) (h : Hp) (k1 : slR w tNode (nodeE w) h f.nodes a1 F1) (k2 : slR w 9 strE h f.data a2 F2) (hl : f.nl ≤ 1048576) (i : Int) :
    ACall Try.prog 111 [.agg #[.slice a1 f.nodes.length f.nodes.length, .slice a2 f.data.length f.data.length], .int .i64 i] h fun r h' => (∃ t, h' = h ++ t) ∧ r = .bool (usable f i) := by
  refine acall mixed Try.func111 rfl (by kernel_rfl) ?_
  have hlim := Fs.lim_of f hl
  have hM : f.nodes.length ≤ 1048576 := hlim.1
  have w1 : IntKind.i64.wrap ((f.nodes.length : Int) - 1) = (f.nodes.length : Int) - 1 := wrap_in (by omega) (by omega)
  simp [Try.f111]
  refine callK0 (shapeOk_spec_c f a1 a2 F1 F2 w tNode _ (k1.to (by simp)) (k2.to (by simp)) hl) ?_
  rintro _ _ ⟨⟨t1, rfl⟩, rfl⟩
  cases e1 : shapeOk f
  · simp [usable, e1]
  simp [w1]
  refine callK0 (l1InR i 0 (f.nodes.length - 1) _) ?_
  rintro _ _ ⟨rfl, rfl⟩
  cases e2 : inR i 0 (f.nodes.length - 1)
  · simp [usable, e1, e2]
  have e2' := inR_iff.1 e2
  have hi : i.toNat < f.nodes.length := by omega
  obtain ⟨m, rfl⟩ := Int.eq_ofNat_of_zero_le e2'.1
  have hi : m < f.nodes.length := by omega
  obtain ⟨o, off, b1, G1, ea, c0, -, -, -, -, -, -⟩ := nodeAt (k1.ext (Ext.push h (⟨true, true, 77, [.slice a1 f.nodes.length f.nodes.length, .slice a2 f.data.length f.data.length]⟩ :: t1))) hi
  subst ea
  simp [hi, c0, usable, e1, e2, nodeAtI_get hi]
theorem nodeRead_impl_c (f : Fs) (a1 a2 : Option Addr) (F1 F2 : List Nat) (w : Bool) (tNode : TypeId) (h : Hp) (k1 : slR w tNode (nodeE w) h f.nodes a1 F1) (k2 : slR w 9 strE h f.data a2 F2) (hl : f.nl ≤ 1048576) (i : Int) :
    ACall Try.prog 44 [.agg #[.slice a1 f.nodes.length f.nodes.length, .slice a2 f.data.length f.data.length], .int .i64 i] h fun r h' => (∃ t, h' = h ++ t) ∧ r = .tuple #[.string (S (if usable f i then contentOf f (nodeAtI f i).blocks else [])), .bool (usable f i)] := by
  refine acall mixed Try.func44 rfl (by kernel_rfl) ?_
  simp [Try.f44]
  refine callK0 (usable_impl_c f a1 a2 F1 F2 w tNode _ (k1.to (by simp)) (k2.to (by simp)) hl i) ?_
  rintro _ _ ⟨⟨t1, rfl⟩, rfl⟩
  cases e1 : usable f i
  · simp
  have e2 := e1
  simp only [usable, Bool.and_eq_true] at e2
  have s := shapeOk_iff.1 e2.1
  have e3 := inR_iff.1 e2.2.1
  obtain ⟨m, rfl⟩ := Int.eq_ofNat_of_zero_le e3.1
  have hi : m < f.nodes.length := by omega
  simp
  refine callK0 (content_c f a1 a2 F1 F2 w tNode _ (k1.to (by simp)) (k2.to (by simp)) hl s m hi) ?_
  rintro _ _ ⟨⟨t2, rfl⟩, rfl⟩
  simp [nodeAtI_get hi]
theorem nodeRead_spec_c (f : Fs) (a1 a2 : Option Addr) (F1 F2 : List Nat) (w : Bool) (tNode : TypeId) (h : Hp) (k1 : slR w tNode (nodeE w) h f.nodes a1 F1) (k2 : slR w 9 strE h f.data a2 F2) (hl : f.nl ≤ 1048576) (i : Int) :
    ACall Try.prog 42 [.agg #[.slice a1 f.nodes.length f.nodes.length, .slice a2 f.data.length f.data.length], .int .i64 i] h fun r h' => (∃ t, h' = h ++ t) ∧ r = .tuple #[.string (S (if usable f i then contentOf f (nodeAtI f i).blocks else [])), .bool (usable f i)] := by
  refine acall mixed Try.func42 rfl (by kernel_rfl) ?_
  simp [Try.f42]
  refine callK0 (usable_spec_c f a1 a2 F1 F2 w tNode _ (k1.to (by simp)) (k2.to (by simp)) hl i) ?_
  rintro _ _ ⟨⟨t1, rfl⟩, rfl⟩
  cases e1 : usable f i
  · simp
  have e2 := e1
  simp only [usable, Bool.and_eq_true] at e2
  have s := shapeOk_iff.1 e2.1
  have e3 := inR_iff.1 e2.2.1
  obtain ⟨m, rfl⟩ := Int.eq_ofNat_of_zero_le e3.1
  have hi : m < f.nodes.length := by omega
  simp
  refine callK0 (l7Read_c f a1 a2 F1 F2 w tNode _ (k1.to (by simp)) (k2.to (by simp)) hl s m hi) ?_
  rintro _ _ ⟨⟨t2, rfl⟩, rfl⟩
  simp [nodeAtI_get hi]
end Go.Proofs.Ytidkkmkihifeoaa.Hz
