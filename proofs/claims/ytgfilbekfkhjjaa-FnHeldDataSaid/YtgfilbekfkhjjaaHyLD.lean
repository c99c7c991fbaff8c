/- The law of dropped nodes. -/
import Derived.Test.YtgfilbekfkhjjaaHyDR
import Derived.Test.YtgfilbekfkhjjaaHyHB
import Derived.Test.YtgfilbekfkhjjaaHyFR
import Derived.Test.YtgfilbekfkhjjaaHySM
import Derived.Test.YtgfilbekfkhjjaaHyGK
import Derived.Test.YtgfilbekfkhjjaaHyHL
import Derived.Test.YtgfilbekfkhjjaaHyGC
namespace Go.Proofs.Ytgfilbekfkhjjaa.Hz
open Go.RowKit
set_option linter.unusedVariables false
set_option linter.unusedSimpArgs false
set_option maxRecDepth 20000

theorem big_c (code : Str) (a : Option Addr) (h : Hp) : ACall Try.prog 7 [.slice a code.length code.length] h fun r h' => h' = h ∧ r = .bool (decide (1048576 < (code.length : Int))) := by
  refine acall mixed Try.func7 rfl (by kernel_rfl) ?_
  simp [Try.f7]
theorem nodeMake_no {f : Fs} {kind : Int} (h : (nodeMake f kind).2.2 = false) : nodeMake f kind = (f, -1, false) := by
  unfold nodeMake at h ⊢
  split at h
  · cases h
  · rename_i hk
    rw [if_neg hk]
theorem nodeMake_yes {f : Fs} {kind : Int} (h : (nodeMake f kind).2.2 = true) : ∃ (m : Nat) (hm : m < f.nodes.length), ShapeOk f ∧ (1 ≤ kind ∧ kind ≤ 3) ∧ f.nodes[m] = ⟨0, 0, 0, 0, []⟩ ∧ nodeMake f kind = (⟨f.nodes.set m ⟨kind, 0, 0, 0, []⟩, f.data⟩, (m : Int), true) := by
  unfold nodeMake at h ⊢
  split at h
  · rename_i hk
    rw [if_pos hk]
    simp only [Bool.and_eq_true, decide_eq_true_eq] at hk
    obtain ⟨⟨h1, h2⟩, h3⟩ := hk
    have s := shapeOk_iff.1 h1
    obtain ⟨m, hm, e1, e2⟩ := freeAt_spec f h3
    have hn := nodeOk_iff.1 (s.ok _ (List.getElem_mem hm))
    have hz : f.nodes[m] = ⟨0, 0, 0, 0, []⟩ := by
      rcases hn with ⟨k0, k1, k2, k3, k4⟩ | ⟨k0, _⟩
      · generalize f.nodes[m] = n at *
        obtain ⟨a, b, c, d, e⟩ := n
        simp only at *
        subst k0 k1 k2 k3 k4
        rfl
      · exact absurd e2 k0
    refine ⟨m, hm, s, inR_iff.1 h2, hz, ?_⟩
    have hg : nodeAtI f (m : Int) = f.nodes[m] := nodeAtI_get hm
    rw [e1, hg, hz]
    simp
  · cases h
theorem set_nl0 (f : Fs) (m : Nat) (hm : m < f.nodes.length) (hz : f.nodes[m] = ⟨0, 0, 0, 0, []⟩) (kind : Int) : Fs.nl ⟨f.nodes.set m ⟨kind, 0, 0, 0, []⟩, f.data⟩ ≤ f.nl := nodes_set_nl f m hm _ (by rw [hz]; rfl)
theorem needOf_some : needOf [115, 111, 109, 101, 32, 98, 121, 116, 101, 115] = 1 := by decide
set_option maxHeartbeats 8000000 in
theorem FnDropped_c (code : Str) (a : Option Addr) (F : List Nat) (w : Bool) (t : TypeId) (h : Hp) (k : slR w t byteE h code a F) :
    ACall Try.prog 4 [.slice a code.length code.length] h fun r _ => r = .bool true := by
  refine acall mixed Try.func4 rfl (by kernel_rfl) ?_
  simp [Try.f4]
  refine callK0 (big_c code a h) ?_
  rintro _ h ⟨rfl, rfl⟩
  simp
  refine asplitK_intro (fun hb => ?_) (fun hb => ?_) <;> simp at hb <;> simp
  refine callK0 (drawNodeMake_c code a F w t h k (by omega)) ?_
  rintro _ H1 ⟨f, kind, b1, b2, G1, G2, rfl, kf⟩
  have hnl := kf.nl
  simp
  refine callK0 (nodeMake_impl_c f b1 b2 G1 G2 true _ _ (kf.s1.to (by simp)) (kf.s2.to (by simp)) (by omega) kind) ?_
  rintro _ _ ⟨_, rfl, c1, K1, c2, K2, rfl, o1, o2, dj⟩
  obtain ⟨u1, rfl⟩ := o1.ext.pre
  simp
  refine callK0 (nodeMake_spec_c f b1 b2 G1 G2 true _ _ (kf.s1.to (by simp)) (kf.s2.to (by simp)) (by omega) kind) ?_
  rintro _ _ ⟨_, rfl, c3, K3, c4, K4, rfl, o3, o4, dj2⟩
  obtain ⟨u2, rfl⟩ := o3.ext.pre
  simp
  cases hk : (nodeMake f kind).2.2
  · have hno := nodeMake_no hk
    rw [hno] at o1 o2 o3 o4
    simp [hno]
    refine callK0 (fsSame_spec_c f f b1 c1 G1 K1 b2 c2 G2 K2 true true _ _ _ (kf.s1.to (by simp)) (o1.sl.to (by simp)) (kf.s2.to (by simp)) (o2.sl.to (by simp)) (Fs.lim_of f (by omega))) ?_
    rintro _ _ ⟨⟨u3, rfl⟩, rfl⟩
    simp
  obtain ⟨m, hm, s, hki, hz, hmk⟩ := nodeMake_yes hk
  obtain ⟨hd1, hd2⟩ := dropped_law s hm hki hz [115, 111, 109, 101, 32, 98, 121, 116, 101, 115] needOf_some
  have hgn := set_nl0 f m hm hz kind
  obtain ⟨g, hgd⟩ : ∃ g : Fs, g = ⟨f.nodes.set m ⟨kind, 0, 0, 0, []⟩, f.data⟩ := ⟨_, rfl⟩
  rw [← hgd] at hmk hd1 hd2 hgn
  rw [hmk] at o1 o2 o3 o4
  simp only at o1 o2 o3 o4
  have qnl := nodeWrite_nlN (N := 2000) (by omega) g (m : Int) [115, 111, 109, 101, 32, 98, 121, 116, 101, 115] (by omega)
  simp [hmk]
  refine callK0 (nodeWrite_impl_c g c1 c2 K1 K2 true _ _ (o1.sl.to (by simp)) (o2.sl.to (by simp)) (by omega) (m : Int) [115, 111, 109, 101, 32, 98, 121, 116, 101, 115] (by decide)) ?_
  rintro _ _ ⟨_, rfl, e1, L1, e2, L2, rfl, p1, p2, dj3⟩
  obtain ⟨u3, rfl⟩ := p1.ext.pre
  generalize nodeWrite g (m : Int) [115, 111, 109, 101, 32, 98, 121, 116, 101, 115] = q at *
  simp
  refine callK0 (nodeDrop_impl_c q.1 e1 e2 L1 L2 true _ _ (p1.sl.to (by simp)) (p2.sl.to (by simp)) (by omega) (m : Int)) ?_
  rw [hd1]
  rintro _ _ ⟨_, rfl, e3, L3, e4, L4, rfl, p3, p4, dj4⟩
  obtain ⟨u4, rfl⟩ := p3.ext.pre
  simp
  refine drawK true (by kernel_rfl) ?_
  simp
  refine callK (fsSame_spec_c f f e3 b1 L3 G1 e4 b2 L4 G2 true true _ _ _ (p3.sl.to (by simp)) (kf.s1.to (by simp)) (p4.sl.to (by simp)) (kf.s2.to (by simp)) (Fs.lim_of f (by omega))) ?_
  rintro _ _ ⟨⟨u5, rfl⟩, rfl⟩
  refine ⟨fun _ => Ext.push _ _, ?_⟩
  simp
  cases hq : q.2
  · simp
  · have hfr := hd2 hq
    simp
    refine callK (freeOf_impl_c q.1 e1 e2 L1 L2 true _ _ (p1.sl.to (by simp)) (p2.sl.to (by simp)) (by omega)) ?_
    rintro _ _ ⟨⟨u6, rfl⟩, rfl⟩
    refine ⟨fun _ => Ext.push _ _, ?_⟩
    simp
    refine callK (freeOf_impl_c f b1 b2 G1 G2 true _ _ (kf.s1.to (by simp)) (kf.s2.to (by simp)) (by omega)) ?_
    rintro _ _ ⟨⟨u7, rfl⟩, rfl⟩
    refine ⟨fun _ => Ext.push _ _, ?_⟩
    have hfb : 0 ≤ freeOf f ∧ freeOf f ≤ 1048576 := by
      rw [← freeTo_all (shapeOk_t s)]
      have := freeTo_le f f.data.length
      have := kf.d36
      omega
    have hwf : IntKind.i64.wrap (freeOf f - 1) = freeOf f - 1 := wrap_in (by omega) (by omega)
    simp [hwf, hfr]
theorem FnDropped_v (h : Hp) (avs : List Value) (hv : All2 (fun V av => V h av) [(V1 (slE false 5 byteE) fun xs => xs.length ≤ maxLen ∧ ∀ x ∈ xs, True)] avs) : ACall Try.prog 4 avs h fun r _ => r = .bool true := by
  obtain ⟨v0, vs0, rfl, q0, hv⟩ := All2.cons_iff.1 hv
  obtain rfl := All2.nil_iff.1 hv
  obtain ⟨xs, F, ⟨a, ea, hr⟩, hl, hx⟩ := q0
  obtain rfl : v0 = _ := List.cons.inj ea |>.1
  exact FnDropped_c xs a F false _ h hr
end Go.Proofs.Ytgfilbekfkhjjaa.Hz
