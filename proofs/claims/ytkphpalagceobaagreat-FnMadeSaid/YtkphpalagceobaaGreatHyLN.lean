/- The law of what is made. -/
import Derived.Test.YtkphpalagceobaaGreatHyHE
import Derived.Test.YtkphpalagceobaaGreatHyZH
import Derived.Test.YtkphpalagceobaaGreatHyGH
import Derived.Test.YtkphpalagceobaaGreatHySM
import Derived.Test.YtkphpalagceobaaGreatHyGI
import Derived.Test.YtkphpalagceobaaGreatHyGT
import Derived.Test.YtkphpalagceobaaGreatHyGY
import Derived.Test.YtkphpalagceobaaGreatHyLD
namespace Go.Proofs.YtkphpalagceobaaGreat.Hz
open Go.RowKit
set_option linter.unusedVariables false
set_option linter.unusedSimpArgs false
set_option maxRecDepth 20000
theorem path_small {f : Fs} {x : Item} (hx : x ∈ treeItems f) : x.path.length ≤ 100 := by
  obtain ⟨ms, h, h1, h2, h3⟩ := tree_path hx
  have hne : ms ≠ [] := fun e => by rw [e] at h1; simp at h1
  rw [h, pathOf_raw hne h2 h3, rawP_len]
  have := sum_names ms (fun x hx => List.all_eq_true.1 h3 x hx)
  omega
set_option maxHeartbeats 8000000 in
theorem FnMade_c (code : Str) (a : Option Addr) (F : List Nat) (w : Bool) (t : TypeId) (h : Hp) (k : slR w t byteE h code a F) :
    ACall Tryz.prog 10 [.slice a code.length code.length] h fun r _ => r = .bool true := by
  refine acall mixed Tryz.func10 rfl (by kernel_rfl) ?_
  simp -implicitDefEqProofs [Tryz.f10]
  refine callK0 (big_c code a h) ?_
  rintro _ h ⟨rfl, rfl⟩
  simp -implicitDefEqProofs
  refine asplitK_intro (fun hb => ?_) (fun hb => ?_) <;> simp at hb <;> simp -implicitDefEqProofs
  refine callK0 (drawFsMake_c code a F w t h k (by omega)) ?_
  rintro _ H1 ⟨f, p, kind, s, ti, ge, b1, b2, G1, G2, rfl, hp, hs, kf⟩
  have hnl := kf.nl
  simp -implicitDefEqProofs
  have A := FB.of kf
  obtain ⟨bA, hbA⟩ : ∃ bA, bA = H1.length := ⟨_, rfl⟩
  rw [← hbA] at A ⊢
  generalize H1 ++ [(⟨true, true, 27, [.slice b1 f.nodes.length f.nodes.length, .slice b2 f.data.length f.data.length]⟩ : Ob)] = H at A ⊢
  clear kf hbA
  have gnl := fsMake_nl f p kind s ti ge (by omega)
  obtain ⟨⟨g, how⟩, hq⟩ : ∃ q : Fs × Int, fsMake f p kind s ti ge = q := ⟨_, rfl⟩
  rw [hq] at gnl
  simp only at gnl
  have cA := A.cells
  have ci := fsMake_impl_c f b1 b2 G1 G2 true _ H A.s1 A.s2 (by omega) p kind s ti ge (by omega) (by omega)
  rw [hq] at ci
  try dsimp only at ci
  refine callK0 ci ?_
  rintro _ H2 ⟨_, rfl, uB, KB, vB, LB, rfl, o1, o2, -⟩
  have B := FB.res o1 o2
  have x0 := o1.ext.trans (Ext.push _ [⟨true, true, 27, [.slice uB g.nodes.length g.nodes.length, .slice vB g.data.length g.data.length]⟩])
  replace A := A.ext x0
  clear o1 o2 x0 ci
  clear cA
  simp -implicitDefEqProofs
  obtain ⟨bB, hbB⟩ : ∃ bB, bB = H2.length := ⟨_, rfl⟩
  rw [← hbB] at B ⊢
  generalize H2 ++ [(⟨true, true, 27, [.slice uB g.nodes.length g.nodes.length, .slice vB g.data.length g.data.length]⟩ : Ob)] = H at A B ⊢
  clear hbB
  have cA := A.cells
  have cB := B.cells
  try simp -implicitDefEqProofs [cA, cB]
  have ci := fsMake_spec_c f b1 b2 G1 G2 true _ H A.s1 A.s2 (by omega) p kind s ti ge (by omega) (by omega)
  rw [hq] at ci
  try dsimp only at ci
  refine callK0 ci ?_
  rintro _ H2 ⟨_, rfl, uX, KX, vX, LX, rfl, o1, o2, -⟩
  have X := FB.res o1 o2
  have x0 := o1.ext.trans (Ext.push _ [⟨true, true, 27, [.slice uX g.nodes.length g.nodes.length, .slice vX g.data.length g.data.length]⟩])
  replace A := A.ext x0
  replace B := B.ext x0
  clear o1 o2 x0 ci
  clear cA cB
  simp -implicitDefEqProofs
  clear X
  generalize H2 ++ [(⟨true, true, 27, [.slice uX g.nodes.length g.nodes.length, .slice vX g.data.length g.data.length]⟩ : Ob)] = H at A B ⊢
  have cA := A.cells
  have cB := B.cells
  by_cases hk : how = 0
  rotate_left
  · have hno : (fsMake f p kind s ti ge).1 = f := fsMake_no (by rw [hq]; exact hk)
    rw [hq] at hno
    simp only at hno
    subst hno
    have hk' : (how != 0) = true := by simpa using hk
    simp -implicitDefEqProofs [hk', cA, cB]
    refine callK0 (fsSame_spec_c g g b1 uB G1 KB b2 vB G2 LB true true _ _ _ A.s1 B.s1 A.s2 B.s2 (Fs.lim_of g (by omega))) ?_
    rintro _ _ ⟨⟨u3, rfl⟩, rfl⟩
    simp -implicitDefEqProofs
  have hlaw := made_law (f := f) (p := p) (kind := kind) (data := s) (t := ti) (g := ge) (by rw [hq]; exact hk)
  rw [hq] at hlaw
  simp only at hlaw
  obtain ⟨l1, l2, l3, l4⟩ := hlaw
  subst hk
  clear hq
  simp -implicitDefEqProofs [cA, cB]
  have ci := treeOf_impl_c g uB vB KB LB true _ H B.s1 B.s2 gnl
  refine callK0 ci ?_
  rintro _ H2 ⟨uXa, KXa, rfl, o⟩
  have Xa := TB.res o
  have x0 := o.ext.trans (Ext.push _ [⟨true, true, 31, [.slice uXa (treeItems g).length (treeItems g).length]⟩])
  replace A := A.ext x0
  replace B := B.ext x0
  clear o x0 ci
  clear cA cB
  simp -implicitDefEqProofs
  obtain ⟨bXa, hbXa⟩ : ∃ bXa, bXa = H2.length := ⟨_, rfl⟩
  rw [← hbXa] at Xa ⊢
  generalize H2 ++ [(⟨true, true, 31, [.slice uXa (treeItems g).length (treeItems g).length]⟩ : Ob)] = H at A B Xa ⊢
  clear hbXa
  have cA := A.cells
  have cB := B.cells
  have cXa := Xa.cells
  have hlg := treeItems_le g
  have hlf := treeItems_le f
  try simp -implicitDefEqProofs [cXa]
  refine callK0 (treeGet_impl_c (treeItems g) p uXa KXa true _ H Xa.s (by omega)) ?_
  rintro _ _ ⟨⟨t0, rfl⟩, rfl⟩
  rw [l1]
  simp -implicitDefEqProofs [Item.v]
  have x0 := (Ext.push H t0).trans (Ext.push _ [⟨true, true, 37, [.string (S p), .int .i64 kind, .string (S s), .int .i64 ti]⟩])
  replace A := A.ext x0
  replace B := B.ext x0
  replace Xa := Xa.ext x0
  have cI : ∀ j, cellAt (H ++ (t0 ++ [⟨true, true, 37, [.string (S p), .int .i64 kind, .string (S s), .int .i64 ti]⟩])) (H.length + t0.length) j = ([Value.string (S p), .int .i64 kind, .string (S s), .int .i64 ti])[j]? := fun j => by
    have e : (H ++ (t0 ++ [⟨true, true, 37, [.string (S p), .int .i64 kind, .string (S s), .int .i64 ti]⟩]))[H.length + t0.length]? = some ⟨true, true, 37, [.string (S p), .int .i64 kind, .string (S s), .int .i64 ti]⟩ := by
      rw [← List.append_assoc, List.getElem?_append_right (by simp)]
      simp
    simp [cellAt, e]
  clear cA cB cXa
  simp only [List.append_assoc] at A B Xa
  generalize H ++ (t0 ++ [(⟨true, true, 37, [.string (S p), .int .i64 kind, .string (S s), .int .i64 ti]⟩ : Ob)]) = H2 at A B Xa cI ⊢
  have cA := A.cells
  have cB := B.cells
  have cXa := Xa.cells
  try simp -implicitDefEqProofs [cI, cA, cB, cXa]
  refine callK0 (fsOk_impl_c g uB vB KB LB true _ H2 B.s1 B.s2 gnl) ?_
  rintro _ _ ⟨⟨t1, rfl⟩, rfl⟩
  replace A := A.ext (Ext.push H2 t1)
  replace B := B.ext (Ext.push H2 t1)
  replace Xa := Xa.ext (Ext.push H2 t1)
  clear cA cB cXa
  clear cI
  generalize H2 ++ t1 = H at A B Xa ⊢
  have cA := A.cells
  have cB := B.cells
  have cXa := Xa.cells
  simp -implicitDefEqProofs [l2, cA, cB, cXa]
  have ci := treeOf_impl_c f b1 b2 G1 G2 true _ H A.s1 A.s2 (by omega)
  refine callK0 ci ?_
  rintro _ H2 ⟨uXb, KXb, rfl, o⟩
  have Xb := TB.res o
  have x0 := o.ext.trans (Ext.push _ [⟨true, true, 31, [.slice uXb (treeItems f).length (treeItems f).length]⟩])
  replace A := A.ext x0
  replace B := B.ext x0
  replace Xa := Xa.ext x0
  clear o x0 ci
  clear cA cB cXa
  simp -implicitDefEqProofs
  obtain ⟨bXb, hbXb⟩ : ∃ bXb, bXb = H2.length := ⟨_, rfl⟩
  rw [← hbXb] at Xb ⊢
  generalize H2 ++ [(⟨true, true, 31, [.slice uXb (treeItems f).length (treeItems f).length]⟩ : Ob)] = H at A B Xa Xb ⊢
  clear hbXb
  have cA := A.cells
  have cB := B.cells
  have cXa := Xa.cells
  have cXb := Xb.cells
  clear cA cB cXa cXb A B
  have hpf : ∀ x ∈ treeItems f, x.path.length ≤ 1048576 := fun x hx => by have := path_small hx; omega
  have hpg : ∀ x ∈ treeItems g, x.path.length ≤ 1048576 := fun x hx => by have := path_small hx; omega
  generalize treeItems f = xs at *
  generalize treeItems g = ys at *
  refine aloop mixed [4, 13, 16, 17] (fun (y : Nat × Hp) => [.string (S p), .pointer (some ⟨bXa, 0, none⟩), .pointer (some ⟨bXb, 0, none⟩), .int .i64 y.1]) (fun y => H ++ y.2) (fun y => y.1 ≤ xs.length) (fun y => xs.length - y.1) (0, []) (by simp) rfl (by simp) ?_
  rintro ⟨i, l⟩ hi
  simp only at hi
  replace Xa := Xa.ext (Ext.push H l)
  replace Xb := Xb.ext (Ext.push H l)
  have ca := Xa.cells
  have cb := Xb.cells
  have cbX := Xb.cellsX
  simp -implicitDefEqProofs [mkF, cb]
  refine asplitK_intro (fun hc => ?_) (fun hc => ?_) <;> simp at hc <;> simp -implicitDefEqProofs [hc]
  · have hxi := l3 _ (List.getElem_mem hc)
    obtain ⟨o', off', rfl, q0, q1, q2, q3⟩ := itemAt Xb.s hc
    refine drawS true 11 [0, 1, 2, 3, 4, 5, 6, 7, 8, 9, 10] [12, 13] (by simp; rfl) (by simp; rfl) (by simp; rfl) (by kernel_rfl) ?_
    simp -implicitDefEqProofs [ca, cb, hc, q0]
    refine callK (treeGet_impl_c ys xs[i].path uXa KXa true _ (H ++ l) Xa.s (by omega)) ?_
    rintro _ _ ⟨⟨v, rfl⟩, rfl⟩
    refine ⟨fun _ => Ext.push _ _, ?_⟩
    rw [hxi]
    have up := fun (m : Hp) (oo ii : Nat) (vv : Value) (cq : cellAt (H ++ l) oo ii = some vv) => cell_up (Ext.push (H ++ l) m) cq
    have s0 := fun m => up m _ _ _ q0
    have s1 := fun m => up m _ _ _ q1
    have s2 := fun m => up m _ _ _ q2
    have s3 := fun m => up m _ _ _ q3
    simp only [List.append_assoc] at s0 s1 s2 s3 cbX
    simp -implicitDefEqProofs [Item.v, cbX, hc]
    refine drawK true (by kernel_rfl) ?_
    simp -implicitDefEqProofs [cbX, hc, s0, s1, s2, s3]
    exact anext (i + 1, l ++ (v ++ [⟨true, true, 37, [.string (S xs[i].path), .int .i64 xs[i].kind, .string (S xs[i].data), .int .i64 xs[i].time]⟩])) hc (by simp only; omega) (by simp [pickF, wrap_succ (show i < 9223372036854775807 by omega)]) rfl (by simp)
  obtain rfl : i = xs.length := by omega
  clear cbX ca cb
  generalize H ++ l = H at Xa Xb ⊢
  refine aloop mixed [4, 13, 16, 20] (fun (y : Nat × Hp) => [.string (S p), .pointer (some ⟨bXa, 0, none⟩), .pointer (some ⟨bXb, 0, none⟩), .int .i64 y.1]) (fun y => H ++ y.2) (fun y => y.1 ≤ ys.length) (fun y => ys.length - y.1) (0, []) (by simp) rfl (by simp) ?_
  clear hi hc
  rintro ⟨i, l⟩ hi
  simp only at hi
  replace Xa := Xa.ext (Ext.push H l)
  replace Xb := Xb.ext (Ext.push H l)
  have ca := Xa.cells
  have cb := Xb.cells
  have caX := Xa.cellsX
  simp -implicitDefEqProofs [mkF, ca]
  refine asplitK_intro (fun hc => ?_) (fun hc => ?_) <;> simp at hc <;> simp -implicitDefEqProofs [hc]
  have hxi := l4 _ (List.getElem_mem hc)
  have hyp := hpg _ (List.getElem_mem hc)
  obtain ⟨o', off', rfl, q0, q1, q2, q3⟩ := itemAt Xa.s hc
  refine drawS true 11 [0, 1, 2, 3, 4, 5, 6, 7, 8, 9, 10] [12, 13] (by simp; rfl) (by simp; rfl) (by simp; rfl) (by kernel_rfl) ?_
  simp -implicitDefEqProofs [ca, cb, hc, q0]
  refine callK (treeGet_impl_c xs ys[i].path uXb KXb true _ (H ++ l) Xb.s (by omega)) ?_
  rintro _ _ ⟨⟨v, rfl⟩, rfl⟩
  refine ⟨fun _ => Ext.push _ _, ?_⟩
  obtain ⟨⟨z, was⟩, hz⟩ : ∃ q : Item × Bool, treeGet xs ys[i].path = q := ⟨_, rfl⟩
  rw [hz] at hxi ⊢
  simp only at hxi
  have s0 := fun m => cell_up (Ext.push (H ++ l) m) q0
  simp only [List.append_assoc] at s0 caX
  simp -implicitDefEqProofs [Item.v]
  cases was
  · have hwi : within p ys[i].path = true := hxi.resolve_left (by simp)
    simp -implicitDefEqProofs [caX, hc, s0]
    refine callK0 (withinP_impl_c p ys[i].path _ (by omega) hyp) ?_
    rintro _ _ ⟨⟨v2, rfl⟩, rfl⟩
    simp -implicitDefEqProofs [hwi]
    exact anext (i + 1, l ++ (v ++ (⟨true, true, 37, [.string (S z.path), .int .i64 z.kind, .string (S z.data), .int .i64 z.time]⟩ :: v2))) hc (by simp only; omega) (by simp [pickF, wrap_succ (show i < 9223372036854775807 by omega)]) rfl (by simp)
  · simp -implicitDefEqProofs
    exact anext (i + 1, l ++ (v ++ [⟨true, true, 37, [.string (S z.path), .int .i64 z.kind, .string (S z.data), .int .i64 z.time]⟩])) hc (by simp only; omega) (by simp [pickF, wrap_succ (show i < 9223372036854775807 by omega)]) rfl (by simp)
theorem FnMade_v (h : Hp) (avs : List Value) (hv : All2 (fun V av => V h av) [(V1 (slE false 5 byteE) fun xs => xs.length ≤ maxLen ∧ ∀ x ∈ xs, True)] avs) : ACall Tryz.prog 10 avs h fun r _ => r = .bool true := by
  obtain ⟨v0, vs0, rfl, q0, hv⟩ := All2.cons_iff.1 hv
  obtain rfl := All2.nil_iff.1 hv
  obtain ⟨xs, F, ⟨a, ea, hr⟩, hl, hx⟩ := q0
  obtain rfl : v0 = _ := List.cons.inj ea |>.1
  exact FnMade_c xs a F false _ h hr
end Go.Proofs.YtkphpalagceobaaGreat.Hz
