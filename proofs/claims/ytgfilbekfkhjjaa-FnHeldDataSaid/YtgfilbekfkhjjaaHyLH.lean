/- The law of held data. -/
import Derived.Test.YtgfilbekfkhjjaaHyLD
import Derived.Test.YtgfilbekfkhjjaaHyGK
import Derived.Test.YtgfilbekfkhjjaaHyGE
namespace Go.Proofs.Ytgfilbekfkhjjaa.Hz
open Go.RowKit
set_option linter.unusedVariables false
set_option linter.unusedSimpArgs false
set_option maxRecDepth 20000

theorem nodeWrite_no {f : Fs} {i : Int} {data : Str} (h : (nodeWrite f i data).2 = false) : nodeWrite f i data = (f, false) := by
  unfold nodeWrite at h ⊢
  split at h
  · cases h
  · rename_i hk
    rw [if_neg hk]
theorem nodeWrite_yes {f : Fs} {i : Int} {data : Str} (h : (nodeWrite f i data).2 = true) : ∃ m : Nat, i = m ∧ ShapeOk f ∧ usable f i = true ∧ Wrote f m data ∧ nodeWrite f i data = (written f (m : Int) data, true) := by
  have hu : usable f i = true := by
    unfold nodeWrite at h
    split at h
    · rename_i hk
      simp only [Bool.and_eq_true] at hk
      exact hk.1.1
    · cases h
  have hs : shapeOk f = true := by
    unfold usable at hu
    simp only [Bool.and_eq_true] at hu
    exact hu.1
  rcases nodeWrite_cases f i data (shapeOk_iff.1 hs) with e | ⟨m, e, W, ew⟩
  · rw [e] at h; cases h
  · exact ⟨m, e, shapeOk_iff.1 hs, hu, W, ew⟩
noncomputable def readI (f : Fs) (i : Int) : Str := if usable f i then contentOf f (nodeAtI f i).blocks else []
theorem read_written {f : Fs} (s : ShapeOk f) {i : Nat} {data : Str} (W : Wrote f i data) (hu : usable f (i : Int) = true) : readI (written f (i : Int) data) (i : Int) = data := by
  unfold readI
  rw [written_usable s W, if_pos hu]
  exact written_content s W
theorem read_other {f : Fs} (s : ShapeOk f) {i : Nat} {data : Str} (W : Wrote f i data) {q : Nat} (hq : i ≠ q) : readI (written f (i : Int) data) (q : Int) = readI f (q : Int) := by
  unfold readI
  rw [written_usable s W]
  split
  · exact (written_other s W hq).2
  · rfl
set_option maxHeartbeats 8000000 in
theorem FnHeldData_c (code : Str) (a : Option Addr) (F : List Nat) (w : Bool) (t : TypeId) (h : Hp) (k : slR w t byteE h code a F) :
    ACall Try.prog 3 [.slice a code.length code.length] h fun r _ => r = .bool true := by
  refine acall mixed Try.func3 rfl (by kernel_rfl) ?_
  simp [Try.f3]
  refine callK0 (big_c code a h) ?_
  rintro _ h ⟨rfl, rfl⟩
  simp
  refine asplitK_intro (fun hb => ?_) (fun hb => ?_) <;> simp at hb <;> simp
  refine callK0 (drawNodeWrite_c code a F w t h k (by omega)) ?_
  rintro _ H1 ⟨f, i, s, b1, b2, G1, G2, rfl, hsl, kf⟩
  have hnl := kf.nl
  simp
  refine callK0 (nodeWrite_impl_c f b1 b2 G1 G2 true _ _ (kf.s1.to (by simp)) (kf.s2.to (by simp)) (by omega) i s (by omega)) ?_
  rintro _ _ ⟨_, rfl, c1, K1, c2, K2, rfl, o1, o2, dj⟩
  obtain ⟨u1, rfl⟩ := o1.ext.pre
  simp
  refine callK0 (nodeWrite_spec_c f b1 b2 G1 G2 true _ _ (kf.s1.to (by simp)) (kf.s2.to (by simp)) (by omega) i s (by omega)) ?_
  rintro _ _ ⟨_, rfl, c3, K3, c4, K4, rfl, o3, o4, dj2⟩
  obtain ⟨u2, rfl⟩ := o3.ext.pre
  simp
  have gnl := nodeWrite_nlN (N := 2000) (by omega) f i s hnl
  cases hk : (nodeWrite f i s).2
  · have hno := nodeWrite_no hk
    rw [hno] at o1 o2 o3 o4
    simp [hno]
    refine callK0 (fsSame_spec_c f f b1 c1 G1 K1 b2 c2 G2 K2 true true _ _ _ (kf.s1.to (by simp)) (o1.sl.to (by simp)) (kf.s2.to (by simp)) (o2.sl.to (by simp)) (Fs.lim_of f (by omega))) ?_
    rintro _ _ ⟨⟨u3, rfl⟩, rfl⟩
    simp
  obtain ⟨m, rfl, sh, hu, W, hwr⟩ := nodeWrite_yes hk
  have hrw := read_written sh W hu
  have hro := fun (q : Nat) (hq : m ≠ q) => read_other sh W hq
  have hso := fun (q : Nat) (hq : m ≠ q) => (written_other sh W hq).1
  have hshp := shapeOk_t (written_shape W sh)
  have hus := written_usable sh W (m : Int)
  rw [hu] at hus
  have hfre := written_free sh W
  have hln := written_len f (m : Int) s
  have hld : (written f (m : Int) s).data.length = f.data.length := by simp [written, putChunks_len, dropData_len]
  have hnb := needOf_le s W.le
  rw [hwr] at o1 o2 o3 o4 gnl
  simp only at o1 o2 o3 o4 gnl
  simp [hwr]
  generalize written f (m : Int) s = g at *
  refine callK0 (nodeRead_impl_c g c1 c2 K1 K2 true _ _ (o1.sl.to (by simp)) (o2.sl.to (by simp)) (by omega) (m : Int)) ?_
  rintro _ _ ⟨⟨u3, rfl⟩, rfl⟩
  have hr0 : (if usable g (m : Int) then contentOf g (nodeAtI g (m : Int)).blocks else []) = s := hrw
  rw [hr0, hus]
  simp
  refine callK0 (shapeOk_impl_c g c1 c2 K1 K2 true _ _ (o1.sl.to (by simp)) (o2.sl.to (by simp)) (by omega)) ?_
  rintro _ _ ⟨⟨u4, rfl⟩, rfl⟩
  simp [hshp, hln, hld]
  refine aloop mixed [3, 4, 5, 6, 12] (fun (y : Nat × Hp) => [.pointer (some ⟨H1.length, 0, none⟩), .int .i64 m, .string (S s), .pointer (some ⟨H1.length + (u1.length + 1), 0, none⟩), .int .i64 y.1]) (fun y => H1 ++ ⟨true, true, 27, [.slice b1 f.nodes.length f.nodes.length, .slice b2 f.data.length f.data.length]⟩ :: (u1 ++ ⟨true, true, 27, [.slice c1 f.nodes.length f.nodes.length, .slice c2 f.data.length f.data.length]⟩ :: (u2 ++ ⟨true, true, 27, [.slice c3 f.nodes.length f.nodes.length, .slice c4 f.data.length f.data.length]⟩ :: y.2))) (fun y => y.1 ≤ f.nodes.length) (fun y => f.nodes.length - y.1) (0, u3 ++ u4) (by simp) rfl (by simp [hln, hld]) ?_
  have sg1 := o1.sl
  have sg2 := o2.sl
  have sf1 := kf.s1
  have sf2 := kf.s2
  have hn10 := kf.n10
  clear o1 o2 o3 o4
  rintro ⟨q, l⟩ hq
  simp only at hq
  simp [mkF]
  refine asplitK_intro (fun hc => ?_) (fun hc => ?_) <;> simp at hc <;> simp [hc]
  · have nrf := fun (hh : Hp) (x1 : _) (x2 : _) => nodeRead_impl_c f b1 b2 G1 G2 true 39 hh x1 x2 (by omega) (q : Int)
    refine callK0 (nrf _ (sf1.to (by simp)) (sf2.to (by simp))) ?_
    rintro _ _ ⟨⟨v1, rfl⟩, rfl⟩
    have nrg := fun (hh : Hp) (x1 : _) (x2 : _) => nodeRead_impl_c g c1 c2 K1 K2 true 39 hh x1 x2 (by omega) (q : Int)
    rw [hln, hld] at nrg
    have hra : (if usable f (q : Int) then contentOf f (nodeAtI f (q : Int)).blocks else []) = readI f (q : Int) := rfl
    rw [hra]
    simp
    refine callK0 (nrg _ (sg1.to (by simp)) (sg2.to (by simp))) ?_
    rintro _ _ ⟨⟨v2, rfl⟩, rfl⟩
    have hrb : (if usable g (q : Int) then contentOf g (nodeAtI g (q : Int)).blocks else []) = readI g (q : Int) := rfl
    rw [hrb]
    simp
    refine drawK true (by kernel_rfl) ?_
    simp
    refine asplitK_intro (fun hd => ?_) (fun hd => ?_) <;> have hd' := hd <;> simp at hd <;> simp [hd']
    · have hmq : m ≠ q := fun e => hd (by rw [e])
      have hgq : q < g.nodes.length := by omega
      have e1 := hro q hmq
      have e2 : g.nodes[q] = f.nodes[q] := by
        have := hso q hmq
        rw [nodeAtI_get hgq, nodeAtI_get hc] at this
        exact this
      obtain ⟨o, off, bb, GB, rfl, n0, n1, n2, n3, n4, sb, -⟩ := nodeAt sf1 hc
      obtain ⟨o', off', bb', GB', rfl, n0', n1', n2', n3', n4', sb', -⟩ := nodeAt sg1 hgq
      have up := fun (l : Hp) (oo ii : Nat) (vv : Value) (cc : cellAt H1 oo ii = some vv) => cell_up (Ext.push H1 l) cc
      have up2 : ∀ (l : Hp) (oo ii : Nat) (vv : Value), cellAt (H1 ++ [⟨true, true, 27, [.slice (some ⟨o, off, none⟩) f.nodes.length f.nodes.length, .slice b2 f.data.length f.data.length]⟩] ++ u1) oo ii = some vv → cellAt (H1 ++ ⟨true, true, 27, [.slice (some ⟨o, off, none⟩) f.nodes.length f.nodes.length, .slice b2 f.data.length f.data.length]⟩ :: (u1 ++ l)) oo ii = some vv := fun l oo ii vv cc => by
        have := cell_up (Ext.push _ l) cc
        simpa using this
      have m0 := fun l => up l _ _ _ n0
      have m1 := fun l => up l _ _ _ n1
      have m2 := fun l => up l _ _ _ n2
      have m3 := fun l => up l _ _ _ n3
      have m4 := fun l => up l _ _ _ n4
      have p0 := fun l => up2 l _ _ _ n0'
      have p1 := fun l => up2 l _ _ _ n1'
      have p2 := fun l => up2 l _ _ _ n2'
      have p3 := fun l => up2 l _ _ _ n3'
      have p4 := fun l => up2 l _ _ _ n4'
      clear up up2 n0 n1 n2 n3 n4 n0' n1' n2' n3' n4'
      rw [e2] at p0 p1 p2 p3 p4 sb'
      simp [e1, hc, m0, m1, m2, m3, m4, p0, p1, p2, p3, p4]
      refine callK (nodeSame_spec_c f.nodes[q] f.nodes[q] bb bb' GB GB' true true _ (sb.to (by simp)) (sb'.to (by simp)) ((Fs.lim_of f (by omega)).2.1 _ (List.getElem_mem hc))) ?_
      rintro _ _ ⟨⟨v3, rfl⟩, rfl⟩
      refine ⟨fun _ => Ext.push _ _, ?_⟩
      simp
      exact anext (q + 1, l ++ (v1 ++ (v2 ++ v3))) hc (by simp only; omega) (by simp [pickF, wrap_succ (show q < 9223372036854775807 by omega)]) rfl (by simp)
    · exact anext (q + 1, l ++ (v1 ++ v2)) hc (by simp only; omega) (by simp [pickF, wrap_succ (show q < 9223372036854775807 by omega)]) rfl (by simp)
  · obtain rfl : q = f.nodes.length := by omega
    have hmn := W.hi
    obtain ⟨o, off, bb, GB, rfl, n0, n1, n2, n3, n4, sb, -⟩ := nodeAt sf1 hmn
    have m4 := fun (l : Hp) => cell_up (Ext.push H1 l) n4
    have hfg : 0 ≤ freeOf g ∧ freeOf g ≤ 1048576 := by
      rw [← freeTo_all hshp]
      have := freeTo_le g g.data.length
      have := kf.d36
      omega
    have hff : 0 ≤ freeOf f ∧ freeOf f ≤ 1048576 := by
      rw [← freeTo_all (shapeOk_t sh)]
      have := freeTo_le f f.data.length
      have := kf.d36
      omega
    have hbl : f.nodes[m].blocks.length ≤ 2000 := by
      have h1 := sumL_mem Node.nl (List.getElem_mem hmn)
      have h2 : f.nl = f.nodes.length + sumL Node.nl f.nodes + f.data.length + sumL List.length f.data := rfl
      have h3 : Node.nl f.nodes[m] = f.nodes[m].blocks.length := rfl
      omega
    have frg := fun (hh : Hp) (x1 : _) (x2 : _) => freeOf_impl_c g c1 c2 K1 K2 true 39 hh x1 x2 (by omega)
    rw [hln, hld] at frg
    refine drawK true (by kernel_rfl) ?_
    simp
    refine callK (frg _ (sg1.to (by simp)) (sg2.to (by simp))) ?_
    rintro _ _ ⟨⟨w1, rfl⟩, rfl⟩
    refine ⟨fun _ => Ext.push _ _, ?_⟩
    simp
    refine callK (blocksFor_impl_c _ _) ?_
    rintro _ _ ⟨rfl, rfl⟩
    refine ⟨fun _ => Ext.refl _, ?_⟩
    simp
    refine callK (freeOf_impl_c f _ b2 G1 G2 true _ _ (sf1.to (by simp)) (sf2.to (by simp)) (by omega)) ?_
    rintro _ _ ⟨⟨w2, rfl⟩, rfl⟩
    refine ⟨fun _ => Ext.push _ _, ?_⟩
    have wa : IntKind.i64.wrap (freeOf g + blocksFor s.length) = freeOf g + blocksFor s.length := wrap_in (by omega) (by omega)
    have wb : IntKind.i64.wrap (freeOf f + f.nodes[m].blocks.length) = freeOf f + f.nodes[m].blocks.length := wrap_in (by omega) (by omega)
    simp [hmn, m4, wa, wb, hfre]
theorem FnHeldData_v (h : Hp) (avs : List Value) (hv : All2 (fun V av => V h av) [(V1 (slE false 5 byteE) fun xs => xs.length ≤ maxLen ∧ ∀ x ∈ xs, True)] avs) : ACall Try.prog 3 avs h fun r _ => r = .bool true := by
  obtain ⟨v0, vs0, rfl, q0, hv⟩ := All2.cons_iff.1 hv
  obtain rfl := All2.nil_iff.1 hv
  obtain ⟨xs, F, ⟨a, ea, hr⟩, hl, hx⟩ := q0
  obtain rfl : v0 = _ := List.cons.inj ea |>.1
  exact FnHeldData_c xs a F false _ h hr
end Go.Proofs.Ytgfilbekfkhjjaa.Hz
