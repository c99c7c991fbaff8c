/- The law of what is set. -/
import Derived.Test.YtkphpalagceobaaGreatHyHE
import Derived.Test.YtkphpalagceobaaGreatHyZF
import Derived.Test.YtkphpalagceobaaGreatHyGH
import Derived.Test.YtkphpalagceobaaGreatHySM
import Derived.Test.YtkphpalagceobaaGreatHyGI
import Derived.Test.YtkphpalagceobaaGreatHyLD
import Derived.Test.YtkphpalagceobaaGreatHyHG
namespace Go.Proofs.YtkphpalagceobaaGreat.Hz
open Go.RowKit
set_option linter.unusedVariables false
set_option linter.unusedSimpArgs false
set_option maxRecDepth 20000

theorem setOnly_law {f : Fs} {p data : Str} {t g : Int} (h : (fsSet f p data t g).2 = 0) :
    (fsDrop (fsSet f p data t g).1 p).2 = 0 ∧ fsOk (fsSet f p data t g).1 = true ∧ fsOk (fsDrop (fsSet f p data t g).1 p).1 = true ∧
      treeItems (fsSet f p data t g).1 = (treeItems f).map (setI p data t) ∧ (treeItems (fsDrop (fsSet f p data t g).1 p).1).length + 1 = (treeItems f).length ∧
      ∀ x ∈ treeItems f, treeGet (treeItems (fsDrop (fsSet f p data t g).1 p).1) x.path = if x.path = p then (⟨[], 0, [], 0⟩, false) else (x, true) := by
  have htree := fsSet_tree h
  obtain ⟨dep, C, D, hf, hp, hr, hw, hk, hview⟩ := fsSet_cert h
  have okf := cert_fsOk C
  generalize (fsSet f p data t g).1 = G at *
  have okG := cert_fsOk D
  have hw0 : walk f p = follow f (names p) 0 := by simp [walk, okf, hp]
  have hwG : walk G p = walk f p := by
    rw [hw0]
    simp [walk, okG, hp, hf]
  have hv := hview _ hw
  rw [if_pos rfl] at hv
  simp only [view, Nd.mk.injEq] at hv
  obtain ⟨d1, d2, d3⟩ := fsDrop_leaf D hp hr (by rw [hwG]; exact hw) (by rw [hwG, hv.1]; exact hk)
  generalize (fsDrop G p).1 = K at *
  have okK := cert_fsOk d2
  refine ⟨d1, okG, okK, htree, ?_, ?_⟩
  · -- the item at p
    have hy : itemN G p (walk G p) ∈ treeItems G := by
      have e := pathOf_of_names hp hr
      have := walk_tree (names_pos hp hr) (names_ok p).1 (names_ok p).2 (f := G) (by rw [e, hwG]; exact hw)
      rw [e] at this
      exact this
    have hyp : (itemN G p (walk G p)).path = p := rfl
    have hper : (treeItems G).Perm (itemN G p (walk G p) :: treeItems K) := by
      refine perm_of_iff (tree_nodup G) (List.nodup_cons.2 ⟨fun hm => ((d3 _).1 hm).2 hyp, tree_nodup K⟩) fun x => ?_
      rw [List.mem_cons, d3 x]
      constructor
      · intro hx
        by_cases hxp : x.path = p
        · left
          have h1 := (tree_walk hx).2
          rw [hxp] at h1
          exact h1
        · exact .inr ⟨hx, hxp⟩
      · rintro (rfl | ⟨hx, -⟩)
        · exact hy
        · exact hx
    have := hper.length_eq
    rw [htree, List.length_map, List.length_cons] at this
    omega
  · intro x hx
    have hxr := (tree_pathOk hx).2
    rw [treeGet_find hxr]
    split
    · rename_i hxp
      rcases treeFind_findI (treeItems K) x.path with ⟨-, h⟩ | ⟨j, hj, -, h⟩
      · exact h
      · have h3 := find_some (xs := treeItems K) (p := x.path) (by rw [h])
        exact absurd (h3.2.trans hxp) ((d3 _).1 h3.1).2
    · rename_i hxp
      have hxG : x ∈ treeItems G := by
        rw [htree, List.mem_map]
        exact ⟨x, hx, by unfold setI; rw [if_neg hxp]⟩
      exact find_only (tree_distinct K) ((d3 x).2 ⟨hxG, hxp⟩)
set_option maxHeartbeats 8000000 in
theorem FnSetOnly_c (code : Str) (a : Option Addr) (F : List Nat) (w : Bool) (t : TypeId) (h : Hp) (k : slR w t byteE h code a F) :
    ACall Tryz.prog 6 [.slice a code.length code.length] h fun r _ => r = .bool true := by
  refine acall mixed Tryz.func6 rfl (by kernel_rfl) ?_
  simp -implicitDefEqProofs [Tryz.f6]
  refine callK0 (big_c code a h) ?_
  rintro _ h ⟨rfl, rfl⟩
  simp -implicitDefEqProofs
  refine asplitK_intro (fun hb => ?_) (fun hb => ?_) <;> simp at hb <;> simp -implicitDefEqProofs
  refine callK0 (drawFsSet_c code a F w t h k (by omega)) ?_
  rintro _ H1 ⟨f, p, s, ti, ge, b1, b2, G1, G2, rfl, hp, hs, kf⟩
  have hnl := kf.nl
  simp -implicitDefEqProofs
  have A := FB.of kf
  obtain ⟨bA, hbA⟩ : ∃ bA, bA = H1.length := ⟨_, rfl⟩
  rw [← hbA] at A ⊢
  generalize H1 ++ [(⟨true, true, 27, [.slice b1 f.nodes.length f.nodes.length, .slice b2 f.data.length f.data.length]⟩ : Ob)] = H at A ⊢
  clear kf hbA
  have gnl := fsSet_nl f p s ti ge (by omega)
  obtain ⟨⟨g, how⟩, hq⟩ : ∃ q : Fs × Int, fsSet f p s ti ge = q := ⟨_, rfl⟩
  rw [hq] at gnl
  simp only at gnl
  have cA := A.cells
  have ci := fsSet_impl_c f b1 b2 G1 G2 true _ H A.s1 A.s2 (by omega) p s ti ge (by omega) (by omega)
  rw [hq] at ci
  dsimp only at ci
  refine callK0 ci ?_
  rintro _ H2 ⟨_, rfl, uB, KB, vB, LB, rfl, o1, o2, -⟩
  have B := FB.res o1 o2
  have x0 := o1.ext.trans (Ext.push _ [⟨true, true, 27, [.slice uB g.nodes.length g.nodes.length, .slice vB g.data.length g.data.length]⟩])
  replace A := A.ext x0
  clear o1 o2 x0 ci
  clear cA
  simp -implicitDefEqProofs
  obtain ⟨bB, hbB⟩ : ∃ bB, bB = H2.length := ⟨_, rfl⟩
  rw [← hbB] at B ⊢
  generalize H2 ++ [(⟨true, true, 27, [.slice uB g.nodes.length g.nodes.length, .slice vB g.data.length g.data.length]⟩ : Ob)] = H at A B ⊢
  clear hbB
  have cA := A.cells
  have cB := B.cells
  simp -implicitDefEqProofs [cA, cB]
  have ci := fsSet_spec_c f b1 b2 G1 G2 true _ H A.s1 A.s2 (by omega) p s ti ge (by omega) (by omega)
  rw [hq] at ci
  dsimp only at ci
  refine callK0 ci ?_
  rintro _ H2 ⟨_, rfl, uX, KX, vX, LX, rfl, o1, o2, -⟩
  have X := FB.res o1 o2
  have x0 := o1.ext.trans (Ext.push _ [⟨true, true, 27, [.slice uX g.nodes.length g.nodes.length, .slice vX g.data.length g.data.length]⟩])
  replace A := A.ext x0
  replace B := B.ext x0
  clear o1 o2 x0 ci
  clear cA cB
  simp -implicitDefEqProofs
  clear X
  generalize H2 ++ [(⟨true, true, 27, [.slice uX g.nodes.length g.nodes.length, .slice vX g.data.length g.data.length]⟩ : Ob)] = H at A B ⊢
  have cA := A.cells
  have cB := B.cells
  by_cases hk : how = 0
  rotate_left
  · have hno : (fsSet f p s ti ge).1 = f := fsSet_no (by rw [hq]; exact hk)
    rw [hq] at hno
    simp only at hno
    subst hno
    have hk' : (how != 0) = true := by simpa using hk
    simp -implicitDefEqProofs [hk', cA, cB]
    refine callK0 (fsSame_spec_c g g b1 uB G1 KB b2 vB G2 LB true true _ _ _ A.s1 B.s1 A.s2 B.s2 (Fs.lim_of g (by omega))) ?_
    rintro _ _ ⟨⟨u3, rfl⟩, rfl⟩
    simp -implicitDefEqProofs
  have hlaw := setOnly_law (f := f) (p := p) (data := s) (t := ti) (g := ge) (by rw [hq]; exact hk)
  rw [hq] at hlaw
  simp only at hlaw
  obtain ⟨l1, l2, l3, l4, l5, l6⟩ := hlaw
  subst hk
  have dnl := fsDrop_nl g p gnl
  obtain ⟨⟨d, gone⟩, hq2⟩ : ∃ q : Fs × Int, fsDrop g p = q := ⟨_, rfl⟩
  rw [hq2] at dnl l1 l3 l5 l6
  simp only at dnl l1 l3 l5 l6
  subst l1
  simp -implicitDefEqProofs [cB]
  have ci := fsDrop_impl_c g uB vB KB LB true _ H B.s1 B.s2 gnl p (by omega)
  rw [hq2] at ci
  dsimp only at ci
  refine callK0 ci ?_
  rintro _ H2 ⟨_, rfl, uD, KD, vD, LD, rfl, o1, o2, -⟩
  have D := FB.res o1 o2
  have x0 := o1.ext.trans (Ext.push _ [⟨true, true, 27, [.slice uD d.nodes.length d.nodes.length, .slice vD d.data.length d.data.length]⟩])
  replace A := A.ext x0
  replace B := B.ext x0
  clear o1 o2 x0 ci
  clear cA cB
  simp -implicitDefEqProofs
  obtain ⟨bD, hbD⟩ : ∃ bD, bD = H2.length := ⟨_, rfl⟩
  rw [← hbD] at D ⊢
  generalize H2 ++ [(⟨true, true, 27, [.slice uD d.nodes.length d.nodes.length, .slice vD d.data.length d.data.length]⟩ : Ob)] = H at A B D ⊢
  clear hbD
  have cA := A.cells
  have cB := B.cells
  have cD := D.cells
  simp -implicitDefEqProofs [cA, cB, cD]
  have ci := treeOf_impl_c f b1 b2 G1 G2 true _ H A.s1 A.s2 (by omega)
  refine callK0 ci ?_
  rintro _ H2 ⟨uXa, KXa, rfl, o⟩
  have Xa := TB.res o
  have x0 := o.ext.trans (Ext.push _ [⟨true, true, 31, [.slice uXa (treeItems f).length (treeItems f).length]⟩])
  replace A := A.ext x0
  replace B := B.ext x0
  replace D := D.ext x0
  clear o x0 ci
  clear cA cB cD
  simp -implicitDefEqProofs
  obtain ⟨bXa, hbXa⟩ : ∃ bXa, bXa = H2.length := ⟨_, rfl⟩
  rw [← hbXa] at Xa ⊢
  generalize H2 ++ [(⟨true, true, 31, [.slice uXa (treeItems f).length (treeItems f).length]⟩ : Ob)] = H at A B D Xa ⊢
  clear hbXa
  have cA := A.cells
  have cB := B.cells
  have cD := D.cells
  have cXa := Xa.cells
  simp -implicitDefEqProofs [cA, cB, cD, cXa]
  have ci := treeOf_impl_c g uB vB KB LB true _ H B.s1 B.s2 gnl
  refine callK0 ci ?_
  rintro _ H2 ⟨uXb, KXb, rfl, o⟩
  have Xb := TB.res o
  have x0 := o.ext.trans (Ext.push _ [⟨true, true, 31, [.slice uXb (treeItems g).length (treeItems g).length]⟩])
  replace A := A.ext x0
  replace B := B.ext x0
  replace D := D.ext x0
  replace Xa := Xa.ext x0
  clear o x0 ci
  clear cA cB cD cXa
  simp -implicitDefEqProofs
  obtain ⟨bXb, hbXb⟩ : ∃ bXb, bXb = H2.length := ⟨_, rfl⟩
  rw [← hbXb] at Xb ⊢
  generalize H2 ++ [(⟨true, true, 31, [.slice uXb (treeItems g).length (treeItems g).length]⟩ : Ob)] = H at A B D Xa Xb ⊢
  clear hbXb
  have cA := A.cells
  have cB := B.cells
  have cD := D.cells
  have cXa := Xa.cells
  have cXb := Xb.cells
  simp -implicitDefEqProofs [cA, cB, cD, cXa, cXb]
  have ci := treeOf_impl_c d uD vD KD LD true _ H D.s1 D.s2 dnl
  refine callK0 ci ?_
  rintro _ H2 ⟨uXc, KXc, rfl, o⟩
  have Xc := TB.res o
  have x0 := o.ext.trans (Ext.push _ [⟨true, true, 31, [.slice uXc (treeItems d).length (treeItems d).length]⟩])
  replace A := A.ext x0
  replace B := B.ext x0
  replace D := D.ext x0
  replace Xa := Xa.ext x0
  replace Xb := Xb.ext x0
  clear o x0 ci
  clear cA cB cD cXa cXb
  simp -implicitDefEqProofs
  obtain ⟨bXc, hbXc⟩ : ∃ bXc, bXc = H2.length := ⟨_, rfl⟩
  rw [← hbXc] at Xc ⊢
  generalize H2 ++ [(⟨true, true, 31, [.slice uXc (treeItems d).length (treeItems d).length]⟩ : Ob)] = H at A B D Xa Xb Xc ⊢
  clear hbXc
  have cA := A.cells
  have cB := B.cells
  have cD := D.cells
  have cXa := Xa.cells
  have cXb := Xb.cells
  have cXc := Xc.cells
  have hlx := treeItems_le f
  have hpn : ∀ x ∈ treeItems f, x.path.length ≤ 1048576 := fun x hx => by have := tree_plen hx; omega
  rw [l4] at Xb cXb
  rw [l4, List.length_map]
  rw [List.length_map] at cXb
  generalize treeItems f = xs at *
  generalize treeItems d = ys at *
  clear cA
  simp -implicitDefEqProofs [cB, cD, cXa, cXb, cXc]
  have hyl : IntKind.i64.wrap ((xs.length : Int) - 1) = (ys.length : Int) := by rw [wrap_in (by omega) (by omega)]; omega
  simp -implicitDefEqProofs [hyl, cB, cD, cXa, cXb, cXc]
  refine callK0 (fsOk_impl_c g uB vB KB LB true _ H B.s1 B.s2 gnl) ?_
  rintro _ _ ⟨⟨t0, rfl⟩, rfl⟩
  replace B := B.ext (Ext.push H t0)
  replace D := D.ext (Ext.push H t0)
  replace Xa := Xa.ext (Ext.push H t0)
  replace Xb := Xb.ext (Ext.push H t0)
  replace Xc := Xc.ext (Ext.push H t0)
  generalize H ++ t0 = H at B D Xa Xb Xc ⊢
  clear cB cD cXa cXb cXc
  have cB := B.cells
  have cD := D.cells
  have cXa := Xa.cells
  have cXb := Xb.cells
  have cXc := Xc.cells
  simp -implicitDefEqProofs [cB, cD, cXa, cXb, cXc, l2]
  refine callK0 (fsOk_impl_c d uD vD KD LD true _ H D.s1 D.s2 dnl) ?_
  rintro _ _ ⟨⟨t0, rfl⟩, rfl⟩
  replace B := B.ext (Ext.push H t0)
  replace D := D.ext (Ext.push H t0)
  replace Xa := Xa.ext (Ext.push H t0)
  replace Xb := Xb.ext (Ext.push H t0)
  replace Xc := Xc.ext (Ext.push H t0)
  generalize H ++ t0 = H at B D Xa Xb Xc ⊢
  clear cB cD cXa cXb cXc
  have cB := B.cells
  have cD := D.cells
  have cXa := Xa.cells
  have cXb := Xb.cells
  have cXc := Xc.cells
  simp -implicitDefEqProofs [cB, cD, cXa, cXb, cXc, l3]
  clear cB cD cXa cXb cXc B D A
  have hsl : ∀ x : Item, setI p s ti x = if x.path = p then ⟨x.path, x.kind, s, ti⟩ else x := fun _ => rfl
  refine aloop mixed [4, 5, 6, 14, 15, 16, 17] (fun (y : Nat × Hp) => [.string (S p), .string (S s), .int .i64 ti, .pointer (some ⟨bXa, 0, none⟩), .pointer (some ⟨bXb, 0, none⟩), .pointer (some ⟨bXc, 0, none⟩), .int .i64 y.1]) (fun y => H ++ y.2) (fun y => y.1 ≤ xs.length) (fun y => xs.length - y.1) (0, []) (by simp) rfl (by simp) ?_
  rintro ⟨i, l⟩ hi
  simp only at hi
  replace Xa := Xa.ext (Ext.push H l)
  replace Xb := Xb.ext (Ext.push H l)
  replace Xc := Xc.ext (Ext.push H l)
  have ca := Xa.cells
  have cb := Xb.cells
  have cc := Xc.cells
  have cbX := Xb.cellsX
  have ccX := Xc.cellsX
  have caX := Xa.cellsX
  rw [List.length_map] at cb cbX
  simp -implicitDefEqProofs [mkF, cb]
  refine asplitK_intro (fun hc => ?_) (fun hc => ?_) <;> simp at hc <;> simp -implicitDefEqProofs [hc]
  have hxi := l6 _ (List.getElem_mem hc)
  obtain ⟨o, off, rfl, p0, p1, p2, p3⟩ := itemAt Xb.s (i := i) (by simpa using hc)
  simp only [List.getElem_map] at p0 p1 p2 p3
  obtain ⟨o', off', rfl, q0, q1, q2, q3⟩ := itemAt Xa.s hc
  refine drawS true 11 [0, 1, 2, 3, 4, 5, 6, 7, 8, 9, 10] [12, 13] (by simp; rfl) (by simp; rfl) (by simp; rfl) (by kernel_rfl) ?_
  simp -implicitDefEqProofs [ca, cb, cc, hc, p0, setI_path]
  refine callK (treeGet_impl_c ys xs[i].path uXc KXc true _ (H ++ l) Xc.s (by omega)) ?_
  rintro _ _ ⟨⟨v, rfl⟩, rfl⟩
  refine ⟨fun _ => Ext.push _ _, ?_⟩
  rw [hxi]
  have up := fun (m : Hp) (oo ii : Nat) (vv : Value) (cq : cellAt (H ++ l) oo ii = some vv) => cell_up (Ext.push (H ++ l) m) cq
  have r0 := fun m => up m _ _ _ p0
  have r1 := fun m => up m _ _ _ p1
  have r2 := fun m => up m _ _ _ p2
  have r3 := fun m => up m _ _ _ p3
  have s0 := fun m => up m _ _ _ q0
  have s1 := fun m => up m _ _ _ q1
  have s2 := fun m => up m _ _ _ q2
  have s3 := fun m => up m _ _ _ q3
  simp only [List.append_assoc] at r0 r1 r2 r3 s0 s1 s2 s3 cbX caX
  by_cases hpe : xs[i].path = p
  · rw [if_pos hpe]
    have hs2 : setI p s ti xs[i] = ⟨xs[i].path, xs[i].kind, s, ti⟩ := by rw [hsl, if_pos hpe]
    rw [hs2] at r0 r1 r2 r3
    simp only at r0 r1 r2 r3
    simp -implicitDefEqProofs [Item.v, cbX, hc, r0, r1, r2, r3, hpe]
    exact anext (i + 1, l ++ (v ++ [⟨true, true, 37, [.string (S []), .int .i64 0, .string (S []), .int .i64 0]⟩])) hc (by simp only; omega) (by simp [pickF, wrap_succ (show i < 9223372036854775807 by omega)]) rfl (by simp)
  · rw [if_neg hpe]
    have hs2 : setI p s ti xs[i] = xs[i] := by rw [hsl, if_neg hpe]
    rw [hs2] at r0 r1 r2 r3
    have hpe' : (xs[i].path == p) = false := by simpa using hpe
    simp -implicitDefEqProofs [Item.v, cbX, caX, hc, r0, r1, r2, r3, hpe']
    refine drawK true (by kernel_rfl) ?_
    simp -implicitDefEqProofs [cbX, caX, hc, r0, r1, r2, r3, s0, s1, s2, s3]
    exact anext (i + 1, l ++ (v ++ [⟨true, true, 37, [.string (S xs[i].path), .int .i64 xs[i].kind, .string (S xs[i].data), .int .i64 xs[i].time]⟩])) hc (by simp only; omega) (by simp [pickF, wrap_succ (show i < 9223372036854775807 by omega)]) rfl (by simp)
theorem FnSetOnly_v (h : Hp) (avs : List Value) (hv : All2 (fun V av => V h av) [(V1 (slE false 5 byteE) fun xs => xs.length ≤ maxLen ∧ ∀ x ∈ xs, True)] avs) : ACall Tryz.prog 6 avs h fun r _ => r = .bool true := by
  obtain ⟨v0, vs0, rfl, q0, hv⟩ := All2.cons_iff.1 hv
  obtain rfl := All2.nil_iff.1 hv
  obtain ⟨xs, F, ⟨a, ea, hr⟩, hl, hx⟩ := q0
  obtain rfl : v0 = _ := List.cons.inj ea |>.1
  exact FnSetOnly_c xs a F false _ h hr
end Go.Proofs.YtkphpalagceobaaGreat.Hz
