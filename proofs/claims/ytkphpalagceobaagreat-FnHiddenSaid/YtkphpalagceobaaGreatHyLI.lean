/- The law of the hidden file. -/
import Derived.Test.YtkphpalagceobaaGreatHyHE
import Derived.Test.YtkphpalagceobaaGreatHyZG
import Derived.Test.YtkphpalagceobaaGreatHyGH
import Derived.Test.YtkphpalagceobaaGreatHySM
import Derived.Test.YtkphpalagceobaaGreatHyGI
import Derived.Test.YtkphpalagceobaaGreatHyFR
import Derived.Test.YtkphpalagceobaaGreatHyLD
namespace Go.Proofs.YtkphpalagceobaaGreat.Hz
open Go.RowKit
set_option linter.unusedVariables false
set_option linter.unusedSimpArgs false
set_option maxRecDepth 20000
set_option maxHeartbeats 8000000 in
theorem FnHidden_c (code : Str) (a : Option Addr) (F : List Nat) (w : Bool) (t : TypeId) (h : Hp) (k : slR w t byteE h code a F) :
    ACall Tryz.prog 9 [.slice a code.length code.length] h fun r _ => r = .bool true := by
  refine acall mixed Tryz.func9 rfl (by kernel_rfl) ?_
  simp -implicitDefEqProofs [Tryz.f9]
  refine callK0 (big_c code a h) ?_
  rintro _ h ⟨rfl, rfl⟩
  simp -implicitDefEqProofs
  refine asplitK_intro (fun hb => ?_) (fun hb => ?_) <;> simp at hb <;> simp -implicitDefEqProofs
  refine callK0 (drawFsHide_c code a F w t h k (by omega)) ?_
  rintro _ H1 ⟨f, s, b1, b2, G1, G2, rfl, hs, kf⟩
  have hnl := kf.nl
  simp -implicitDefEqProofs
  have A := FB.of kf
  obtain ⟨bA, hbA⟩ : ∃ bA, bA = H1.length := ⟨_, rfl⟩
  rw [← hbA] at A ⊢
  generalize H1 ++ [(⟨true, true, 27, [.slice b1 f.nodes.length f.nodes.length, .slice b2 f.data.length f.data.length]⟩ : Ob)] = H at A ⊢
  clear kf hbA
  have gnl := fsHide_nl f s (by omega)
  obtain ⟨⟨g, how⟩, hq⟩ : ∃ q : Fs × Int, fsHide f s = q := ⟨_, rfl⟩
  rw [hq] at gnl
  simp only at gnl
  have cA := A.cells
  have ci := fsHide_impl_c f b1 b2 G1 G2 true _ H A.s1 A.s2 (by omega) s (by omega)
  rw [hq] at ci
  try dsimp only at ci
  refine callK0 ci ?_
  rintro _ H2 ⟨_, rfl, uB, KB, vB, LB, rfl, o1, o2, -⟩
  have B := FB.res o1 o2
  have x0 := o1.ext.trans (Ext.push _ [⟨true, true, 27, [.slice uB g.nodes.length g.nodes.length, .slice vB g.data.length g.data.length]⟩])
  replace A := A.ext x0
  clear o1 o2 x0 ci
  clear cA
  simp -implicitDefEqProofs
  obtain ⟨bB, hbB⟩ : ∃ bB, bB = H2.length := ⟨_, rfl⟩
  rw [← hbB] at B ⊢
  generalize H2 ++ [(⟨true, true, 27, [.slice uB g.nodes.length g.nodes.length, .slice vB g.data.length g.data.length]⟩ : Ob)] = H at A B ⊢
  clear hbB
  have cA := A.cells
  have cB := B.cells
  try simp -implicitDefEqProofs [cA, cB]
  have ci := fsHide_spec_c f b1 b2 G1 G2 true _ H A.s1 A.s2 (by omega) s (by omega)
  rw [hq] at ci
  try dsimp only at ci
  refine callK0 ci ?_
  rintro _ H2 ⟨_, rfl, uX, KX, vX, LX, rfl, o1, o2, -⟩
  have X := FB.res o1 o2
  have x0 := o1.ext.trans (Ext.push _ [⟨true, true, 27, [.slice uX g.nodes.length g.nodes.length, .slice vX g.data.length g.data.length]⟩])
  replace A := A.ext x0
  replace B := B.ext x0
  clear o1 o2 x0 ci
  clear cA cB
  simp -implicitDefEqProofs
  clear X
  generalize H2 ++ [(⟨true, true, 27, [.slice uX g.nodes.length g.nodes.length, .slice vX g.data.length g.data.length]⟩ : Ob)] = H at A B ⊢
  have cA := A.cells
  have cB := B.cells
  by_cases hk : how = 0
  rotate_left
  · have hno : (fsHide f s).1 = f := fsHide_no (by rw [hq]; exact hk)
    rw [hq] at hno
    simp only at hno
    subst hno
    have hk' : (how != 0) = true := by simpa using hk
    simp -implicitDefEqProofs [hk', cA, cB]
    refine callK0 (fsSame_spec_c g g b1 uB G1 KB b2 vB G2 LB true true _ _ _ A.s1 B.s1 A.s2 B.s2 (Fs.lim_of g (by omega))) ?_
    rintro _ _ ⟨⟨u3, rfl⟩, rfl⟩
    simp -implicitDefEqProofs
  have hlaw := hidden_law (f := f) (data := s) (by rw [hq]; exact hk)
  rw [hq] at hlaw
  simp only at hlaw
  obtain ⟨l1, l2, l3, l4, l5, -, l7⟩ := hlaw
  subst hk
  obtain ⟨d, hq2⟩ : ∃ q : Fs, fsShow g = q := ⟨_, rfl⟩
  rw [hq2] at l2 l4 l5 l7
  have dnl : d.nl ≤ 1048576 := by have := l7.small.nl; omega
  clear hq
  simp -implicitDefEqProofs [cA, cB]
  refine callK0 (hiddenOf_impl_c g uB vB KB LB true _ H B.s1 B.s2 gnl) ?_
  rintro _ _ ⟨⟨t0, rfl⟩, rfl⟩
  replace A := A.ext (Ext.push H t0)
  replace B := B.ext (Ext.push H t0)
  generalize H ++ t0 = H at A B ⊢
  clear cA cB
  have cA := A.cells
  have cB := B.cells
  try simp -implicitDefEqProofs [cA, cB, l1]
  have ci := fsShow_impl_c g uB vB KB LB true _ H B.s1 B.s2 gnl
  rw [hq2] at ci
  try dsimp only at ci
  refine callK0 ci ?_
  rintro _ H2 ⟨uD, KD, vD, LD, rfl, o1, o2, -⟩
  have D := FB.res o1 o2
  have x0 := o1.ext.trans (Ext.push _ [⟨true, true, 27, [.slice uD d.nodes.length d.nodes.length, .slice vD d.data.length d.data.length]⟩])
  replace A := A.ext x0
  replace B := B.ext x0
  clear o1 o2 x0 ci
  clear cA cB
  simp -implicitDefEqProofs
  obtain ⟨bD, hbD⟩ : ∃ bD, bD = H2.length := ⟨_, rfl⟩
  rw [← hbD] at D ⊢
  generalize H2 ++ [(⟨true, true, 27, [.slice uD d.nodes.length d.nodes.length, .slice vD d.data.length d.data.length]⟩ : Ob)] = H at A B D ⊢
  clear hbD
  have cA := A.cells
  have cB := B.cells
  have cD := D.cells
  try simp -implicitDefEqProofs [cA, cB, cD]
  refine callK0 (hiddenOf_impl_c d uD vD KD LD true _ H D.s1 D.s2 dnl) ?_
  rintro _ _ ⟨⟨t0, rfl⟩, rfl⟩
  replace A := A.ext (Ext.push H t0)
  replace B := B.ext (Ext.push H t0)
  replace D := D.ext (Ext.push H t0)
  generalize H ++ t0 = H at A B D ⊢
  clear cA cB cD
  have cA := A.cells
  have cB := B.cells
  have cD := D.cells
  try simp -implicitDefEqProofs [cA, cB, cD, l2]
  refine drawK true (by kernel_rfl) ?_
  simp -implicitDefEqProofs [cA, cB, cD]
  clear cA cB cD
  rw [← l3] at l4
  refine callK (treeOf_impl_c g uB vB KB LB true _ H B.s1 B.s2 gnl) ?_
  rintro _ H2 ⟨up1, Kp1, rfl, op1⟩
  have xp1 := op1.ext
  have sp1 := op1.sl
  refine ⟨fun _ => xp1, ?_⟩
  replace A := A.ext xp1
  replace B := B.ext xp1
  replace D := D.ext xp1
  have cA := A.cells
  have cB := B.cells
  have cD := D.cells
  clear op1
  simp -implicitDefEqProofs [cA, cB, cD]
  clear cA cB cD
  refine callK (treeOf_impl_c f b1 b2 G1 G2 true _ H2 A.s1 A.s2 (by omega)) ?_
  rintro _ H3 ⟨up2, Kp2, rfl, op2⟩
  have xp2 := op2.ext
  have sp2 := op2.sl
  refine ⟨fun _ => xp2, ?_⟩
  replace A := A.ext xp2
  replace B := B.ext xp2
  replace D := D.ext xp2
  have cA := A.cells
  have cB := B.cells
  have cD := D.cells
  clear op2
  replace sp1 := sp1.ext xp2
  have e0 := treeItems_le g
  rw [← l3] at sp2 ⊢
  simp -implicitDefEqProofs [cA, cB, cD]
  refine callK (treeSame_impl_c (treeItems g) (treeItems g) up1 up2 Kp1 Kp2 true true _ _ H3 sp1 sp2 (by omega)) ?_
  rintro _ _ ⟨⟨t0, rfl⟩, rfl⟩
  refine ⟨fun _ => Ext.push _ _, ?_⟩
  replace A := A.ext (Ext.push H3 t0)
  replace B := B.ext (Ext.push H3 t0)
  replace D := D.ext (Ext.push H3 t0)
  clear cA cB cD sp1 sp2 xp1 xp2
  generalize H3 ++ t0 = H at A B D ⊢
  have cA := A.cells
  have cB := B.cells
  have cD := D.cells
  simp -implicitDefEqProofs [cA, cB, cD]
  clear cA cB cD
  refine callK (treeOf_impl_c d uD vD KD LD true _ H D.s1 D.s2 dnl) ?_
  rintro _ H2 ⟨uq1, Kq1, rfl, oq1⟩
  have xq1 := oq1.ext
  have sq1 := oq1.sl
  refine ⟨fun _ => xq1, ?_⟩
  replace A := A.ext xq1
  replace B := B.ext xq1
  replace D := D.ext xq1
  have cA := A.cells
  have cB := B.cells
  have cD := D.cells
  clear oq1
  simp -implicitDefEqProofs [cA, cB, cD]
  clear cA cB cD
  refine callK (treeOf_impl_c f b1 b2 G1 G2 true _ H2 A.s1 A.s2 (by omega)) ?_
  rintro _ H3 ⟨uq2, Kq2, rfl, oq2⟩
  have xq2 := oq2.ext
  have sq2 := oq2.sl
  refine ⟨fun _ => xq2, ?_⟩
  replace A := A.ext xq2
  replace B := B.ext xq2
  replace D := D.ext xq2
  have cA := A.cells
  have cB := B.cells
  have cD := D.cells
  clear oq2
  replace sq1 := sq1.ext xq2
  rw [l4] at sq1
  rw [← l3] at sq2
  rw [l4, ← l3]
  simp -implicitDefEqProofs [cA, cB, cD]
  refine callK (treeSame_impl_c (treeItems g) (treeItems g) uq1 uq2 Kq1 Kq2 true true _ _ H3 sq1 sq2 (by omega)) ?_
  rintro _ _ ⟨⟨t0, rfl⟩, rfl⟩
  refine ⟨fun _ => Ext.push _ _, ?_⟩
  replace A := A.ext (Ext.push H3 t0)
  replace B := B.ext (Ext.push H3 t0)
  replace D := D.ext (Ext.push H3 t0)
  clear cA cB cD sq1 sq2 xq1 xq2
  generalize H3 ++ t0 = H at A B D ⊢
  have cA := A.cells
  have cB := B.cells
  have cD := D.cells
  simp -implicitDefEqProofs [cA, cB, cD]
  refine callK (freeOf_impl_c d uD vD KD LD true _ H D.s1 D.s2 dnl) ?_
  rintro _ _ ⟨⟨t0, rfl⟩, rfl⟩
  refine ⟨fun _ => Ext.push _ _, ?_⟩
  replace A := A.ext (Ext.push H t0)
  have cA2 := A.cells
  simp -implicitDefEqProofs [cA2]
  refine callK (freeOf_impl_c f b1 b2 G1 G2 true _ _ A.s1 A.s2 (by omega)) ?_
  rintro _ _ ⟨⟨t1, rfl⟩, rfl⟩
  refine ⟨fun _ => Ext.push _ _, ?_⟩
  simp -implicitDefEqProofs [l5]
theorem FnHidden_v (h : Hp) (avs : List Value) (hv : All2 (fun V av => V h av) [(V1 (slE false 5 byteE) fun xs => xs.length ≤ maxLen ∧ ∀ x ∈ xs, True)] avs) : ACall Tryz.prog 9 avs h fun r _ => r = .bool true := by
  obtain ⟨v0, vs0, rfl, q0, hv⟩ := All2.cons_iff.1 hv
  obtain rfl := All2.nil_iff.1 hv
  obtain ⟨xs, F, ⟨a, ea, hr⟩, hl, hx⟩ := q0
  obtain rfl : v0 = _ := List.cons.inj ea |>.1
  exact FnHidden_c xs a F false _ h hr
end Go.Proofs.YtkphpalagceobaaGreat.Hz
