/- The law of paths. -/
import Derived.Test.YtkphpalagceobaaGreatHyHE
import Derived.Test.YtkphpalagceobaaGreatHyZI
import Derived.Test.YtkphpalagceobaaGreatHyGI
import Derived.Test.YtkphpalagceobaaGreatHyLN
import Derived.Test.YtkphpalagceobaaGreatHyLD
namespace Go.Proofs.YtkphpalagceobaaGreat.Hz
open Go.RowKit
set_option linter.unusedVariables false
set_option linter.unusedSimpArgs false
set_option maxRecDepth 20000
theorem manyTo_succ (f : Fs) (k : Nat) : manyTo f (k + 1) = manyTo f k + (if 0 < k ∧ (nodeAtI f (k : Int)).kind ≠ 0 then 1 else 0) := by
  unfold manyTo
  rw [List.range_succ, List.countP_append]
  by_cases h : 0 < k ∧ (nodeAtI f (k : Int)).kind ≠ 0
  · rw [if_pos h]
    simp [h.1, h.2]
  · rw [if_neg h]
    by_cases h1 : 0 < k
    · have h2 : (nodeAtI f (k : Int)).kind = 0 := by
        by_cases h2 : (nodeAtI f (k : Int)).kind = 0
        · exact h2
        · exact absurd ⟨h1, h2⟩ h
      simp [h2]
    · simp [h1]
theorem manyTo_le (f : Fs) (k : Nat) : manyTo f k ≤ k := by
  unfold manyTo
  exact Nat.le_trans List.countP_le_length (by simp)
theorem sum_items {c : Nat} : ∀ xs : List Item, (∀ x ∈ xs, x.nl ≤ c) → sumL Item.nl xs ≤ c * xs.length
  | [], _ => by simp [sumL]
  | x :: xs, h => by
    have h1 := sum_items xs (fun y hy => h y (by simp [hy]))
    have h2 := h x (by simp)
    simp only [sumL, List.length_cons, Nat.mul_add]
    omega
theorem item_nl {f : Fs} {x : Item} (hx : x ∈ treeItems f) : x.nl ≤ 180 := by
  have hp := path_small hx
  have hd : x.data.length ≤ 80 := by
    have ok : fsOk f = true := by
      cases e : fsOk f
      · simp [treeItems, e] at hx
      · rfl
    obtain ⟨-, h⟩ := tree_walk hx
    rw [h]
    unfold itemN
    simp only
    split
    · simp
    · exact content_small (fsOk_shape ok) _
  show x.path.length + x.data.length ≤ 180
  omega
theorem hiddenOf_two (f : Fs) : (hiddenOf f).2 = !decide (hiddenNode f < 0) := by
  unfold hiddenOf
  split
  · rename_i h; simp [h]
  · rename_i h; simp [h]
set_option maxHeartbeats 8000000 in
theorem FnPaths_c (code : Str) (a : Option Addr) (F : List Nat) (w : Bool) (t : TypeId) (h : Hp) (k : slR w t byteE h code a F) :
    ACall Tryz.prog 3 [.slice a code.length code.length] h fun r _ => r = .bool true := by
  refine acall mixed Tryz.func3 rfl (by kernel_rfl) ?_
  simp -implicitDefEqProofs [Tryz.f3]
  refine callK0 (big_c code a h) ?_
  rintro _ h ⟨rfl, rfl⟩
  simp -implicitDefEqProofs
  refine asplitK_intro (fun hb => ?_) (fun hb => ?_) <;> simp at hb <;> simp -implicitDefEqProofs
  refine callK0 (drawTreeOf_c code a F w t h k (by omega)) ?_
  rintro _ H1 ⟨f, b1, b2, G1, G2, rfl, kf⟩
  have hnl := kf.nl
  simp -implicitDefEqProofs
  have A := FB.of kf
  obtain ⟨bA, hbA⟩ : ∃ bA, bA = H1.length := ⟨_, rfl⟩
  rw [← hbA] at A ⊢
  generalize H1 ++ [(⟨true, true, 27, [.slice b1 f.nodes.length f.nodes.length, .slice b2 f.data.length f.data.length]⟩ : Ob)] = H at A ⊢
  clear kf hbA
  have cA := A.cells
  have ci := treeOf_impl_c f b1 b2 G1 G2 true _ H A.s1 A.s2 (by omega)
  refine callK0 ci ?_
  rintro _ H2 ⟨uXa, KXa, rfl, o⟩
  have Xa := TB.res o
  have x0 := o.ext.trans (Ext.push _ [⟨true, true, 31, [.slice uXa (treeItems f).length (treeItems f).length]⟩])
  replace A := A.ext x0
  clear o x0 ci
  clear cA
  simp -implicitDefEqProofs
  obtain ⟨bXa, hbXa⟩ : ∃ bXa, bXa = H2.length := ⟨_, rfl⟩
  rw [← hbXa] at Xa ⊢
  generalize H2 ++ [(⟨true, true, 31, [.slice uXa (treeItems f).length (treeItems f).length]⟩ : Ob)] = H at A Xa ⊢
  clear hbXa
  have cA := A.cells
  have cXa := Xa.cells
  try simp -implicitDefEqProofs [cA, cXa]
  refine callK0 (fsOk_spec_c f b1 b2 G1 G2 true _ H A.s1 A.s2 (by omega)) ?_
  rintro _ _ ⟨⟨t0, rfl⟩, rfl⟩
  replace A := A.ext (Ext.push H t0)
  replace Xa := Xa.ext (Ext.push H t0)
  generalize H ++ t0 = H at A Xa ⊢
  clear cA cXa
  have cA := A.cells
  have cXa := Xa.cells
  have hlt := treeItems_le f
  cases ok : fsOk f
  · have e0 : treeItems f = [] := by simp [treeItems, ok]
    rw [e0] at Xa cXa
    simp -implicitDefEqProofs [cA, cXa]
    refine callK0 (fsOk_impl_c f b1 b2 G1 G2 true _ H A.s1 A.s2 (by omega)) ?_
    rintro _ _ ⟨⟨t1, rfl⟩, rfl⟩
    simp -implicitDefEqProofs [ok]
  obtain ⟨dep, C⟩ := fsOk_cert ok
  simp -implicitDefEqProofs [cA, cXa]
  have hsm := tree_small C
  have hsum : (treeItems f).length + sumL Item.nl (treeItems f) ≤ 1048576 := by
    have := sum_items (c := 180) (treeItems f) (fun x hx => item_nl hx)
    omega
  refine callK0 (treeOk_impl_c (treeItems f) uXa KXa true H Xa.s hsum) ?_
  rintro _ _ ⟨⟨t0, rfl⟩, rfl⟩
  replace A := A.ext (Ext.push H t0)
  replace Xa := Xa.ext (Ext.push H t0)
  generalize H ++ t0 = H at A Xa ⊢
  clear cA cXa
  have cA := A.cells
  have cXa := Xa.cells
  rw [tree_ok C]
  simp -implicitDefEqProofs [cA, cXa]
  clear cA cXa
  have hin := fun x (hx : x ∈ treeItems f) => item_node C hx
  have hmt := many_tree C
  have hwr := walk_root C
  have hpf : ∀ x ∈ treeItems f, x.path.length ≤ 1048576 := fun x hx => by have := path_small hx; omega
  have hn10 := (inR_iff.1 C.sh.nodes).2
  generalize treeItems f = xs at *
  refine aloop mixed [3, 4, 5] (fun (y : Nat × Hp) => [.pointer (some ⟨bA, 0, none⟩), .pointer (some ⟨bXa, 0, none⟩), .int .i64 y.1]) (fun y => H ++ y.2) (fun y => y.1 ≤ xs.length) (fun y => xs.length - y.1) (0, []) (by simp) rfl (by simp) ?_
  rintro ⟨i, l⟩ hi
  simp only at hi
  replace Xa := Xa.ext (Ext.push H l)
  replace A := A.ext (Ext.push H l)
  have ca := A.cells
  have cb := Xa.cells
  simp -implicitDefEqProofs [mkF, cb]
  refine asplitK_intro (fun hc => ?_) (fun hc => ?_) <;> simp at hc <;> simp -implicitDefEqProofs [hc]
  · obtain ⟨m, hw, m1, m2, m3, m4, m5⟩ := hin _ (List.getElem_mem hc)
    have hpl := hpf _ (List.getElem_mem hc)
    obtain ⟨o', off', rfl, q0, q1, q2, q3⟩ := itemAt Xa.s hc
    obtain ⟨on, offn, bb, GB, rfl, n0, n1, n2, n3, n4, sb, -⟩ := nodeAt A.s1 m2
    have up := fun (mm : Hp) (oo ii : Nat) (vv : Value) (cq : cellAt (H ++ l) oo ii = some vv) => cell_up (Ext.push (H ++ l) mm) cq
    have s0 := fun m => up m _ _ _ q0
    have s1 := fun m => up m _ _ _ q1
    have s2 := fun m => up m _ _ _ q2
    have s3 := fun m => up m _ _ _ q3
    have p2 := fun m => up m _ _ _ n2
    have caX := A.cellsX
    have cbX := Xa.cellsX
    simp only [List.append_assoc] at s0 s1 s2 s3 caX cbX p2
    refine drawK true (by kernel_rfl) ?_
    simp -implicitDefEqProofs [ca, cb, hc, q0]
    refine callK (walk_impl_c f _ b2 G1 G2 true _ (H ++ l) A.s1 A.s2 (by omega) xs[i].path hpl) ?_
    rintro _ _ ⟨⟨v, rfl⟩, rfl⟩
    refine ⟨fun _ => Ext.push _ _, ?_⟩
    rw [hw]
    have hm1 : ¬ ((m : Int) < 1) := by omega
    have hm2 : ¬ ((f.nodes.length : Int) ≤ (m : Int)) := by omega
    simp -implicitDefEqProofs [caX, cbX, hc, hm1, hm2]
    refine drawK true (by kernel_rfl) ?_
    have A2 := A.ext (Ext.push _ v)
    simp only [List.append_assoc] at A2
    simp -implicitDefEqProofs [caX, cbX, hc, hm1, hm2, s0, s1]
    refine callK (kindAt_impl_c f _ b2 G1 G2 true _ (H ++ (l ++ v)) A2.s1 A2.s2 (by omega) xs[i].path hpl) ?_
    rintro _ _ ⟨⟨v2, rfl⟩, rfl⟩
    refine ⟨fun _ => Ext.push _ _, ?_⟩
    have hka : kindAt f xs[i].path = xs[i].kind := by
      unfold kindAt
      rw [hw, if_neg (by omega), m3]
    rw [hka]
    have A3 := A2.ext (Ext.push _ v2)
    simp only [List.append_assoc] at A3
    simp -implicitDefEqProofs [caX, cbX, hc, s0, s1]
    refine callK0 (nodeRead_impl_c f _ b2 G1 G2 true _ (H ++ (l ++ (v ++ v2))) A3.s1 A3.s2 (by omega) (m : Int)) ?_
    rintro _ _ ⟨⟨v3, rfl⟩, rfl⟩
    rw [m4]
    have hco : contentOf f (nodeAtI f (m : Int)).blocks = contentI f (m : Int) := rfl
    simp only [if_true, hco]
    by_cases hk2 : xs[i].kind = 2
    · have hk2' : (xs[i].kind != 2) = false := by simp [hk2]
      simp -implicitDefEqProofs
      refine drawK true (by kernel_rfl) ?_
      simp -implicitDefEqProofs [caX, cbX, hc, s1, hk2]
      exact anext (i + 1, l ++ (v ++ (v2 ++ v3))) hc (by simp only; omega) (by simp [pickF, wrap_succ (show i < 9223372036854775807 by omega)]) rfl (by simp)
    · obtain ⟨m6, m7⟩ := m5 hk2
      rw [nodeAtI_get m2] at m7
      rw [m7] at p2
      rw [m6]
      have hk2' : (xs[i].kind != 2) = true := by simpa using hk2
      simp -implicitDefEqProofs
      refine drawK true (by kernel_rfl) ?_
      simp -implicitDefEqProofs [caX, cbX, hc, s1, s2, s3, p2, m2, hk2']
      exact anext (i + 1, l ++ (v ++ (v2 ++ v3))) hc (by simp only; omega) (by simp [pickF, wrap_succ (show i < 9223372036854775807 by omega)]) rfl (by simp)
  obtain rfl : i = xs.length := by omega
  clear ca cb hi hc hin hpf
  generalize H ++ l = H at A Xa ⊢
  have cA := A.cells
  have cX := Xa.cells
  have hn2 := (inR_iff.1 C.sh.nodes).1
  refine aloop mixed [3, 4, 9, 10] (fun (y : Nat) => [.pointer (some ⟨bA, 0, none⟩), .pointer (some ⟨bXa, 0, none⟩), .int .i64 (manyTo f y), .int .i64 y]) (fun _ => H) (fun y => 1 ≤ y ∧ y ≤ f.nodes.length) (fun y => f.nodes.length - y) 1 (by omega) (by simp [pickF, manyTo]) rfl ?_
  rintro i ⟨hi1, hi⟩
  simp -implicitDefEqProofs [mkF, cA]
  refine asplitK_intro (fun hc => ?_) (fun hc => ?_) <;> simp at hc <;> simp -implicitDefEqProofs [hc]
  · obtain ⟨on, offn, bb, GB, rfl, n0, n1, n2, n3, n4, sb, -⟩ := nodeAt A.s1 hc
    have hsu := manyTo_succ f i
    have hle := manyTo_le f i
    simp -implicitDefEqProofs [cA, hc, n0]
    have e0 := nodeAtI_get hc
    refine asplitK_intro (fun hd => ?_) (fun hd => ?_) <;> simp at hd <;> simp -implicitDefEqProofs [hd]
    · rw [if_pos ⟨by omega, by rw [e0]; exact hd⟩] at hsu
      have hw1 : IntKind.i64.wrap ((manyTo f i : Int) + 1) = ((manyTo f (i + 1) : Nat) : Int) := by rw [wrap_in (by omega) (by omega), hsu]; omega
      exact anext (i + 1) ⟨by omega, hc⟩ (by omega) (by simp [pickF, wrap_succ (show i < 9223372036854775807 by omega), hw1]) rfl (by simp)
    · rw [if_neg (fun h => h.2 (by rw [e0]; exact hd)), Nat.add_zero] at hsu
      exact anext (i + 1) ⟨by omega, hc⟩ (by omega) (by simp [pickF, wrap_succ (show i < 9223372036854775807 by omega), hsu]) rfl (by simp)
  obtain rfl : i = f.nodes.length := by omega
  simp -implicitDefEqProofs [cA, cX]
  refine callK0 (hiddenOf_impl_c f b1 b2 G1 G2 true _ H A.s1 A.s2 (by omega)) ?_
  rintro _ _ ⟨⟨v, rfl⟩, rfl⟩
  rw [hiddenOf_two]
  have A2 := A.ext (Ext.push H v)
  have X2 := Xa.ext (Ext.push H v)
  have cA2 := A2.cells
  have cX2 := X2.cells
  rw [← hmt]
  by_cases hh : hiddenNode f < 0
  · simp -implicitDefEqProofs [hh, cA2, cX2]
    refine callK0 (walk_impl_c f b1 b2 G1 G2 true _ (H ++ v) A2.s1 A2.s2 (by omega) [47] (by simp)) ?_
    rintro _ _ ⟨⟨v2, rfl⟩, rfl⟩
    simp -implicitDefEqProofs [hwr]
  · have hw1 : IntKind.i64.wrap (xs.length : Int) = (xs.length : Int) := wrap_in (by omega) (by omega)
    simp -implicitDefEqProofs [hh, cA2, cX2, hw1]
    refine callK0 (walk_impl_c f b1 b2 G1 G2 true _ (H ++ v) A2.s1 A2.s2 (by omega) [47] (by simp)) ?_
    rintro _ _ ⟨⟨v2, rfl⟩, rfl⟩
    simp -implicitDefEqProofs [hwr]
theorem FnPaths_v (h : Hp) (avs : List Value) (hv : All2 (fun V av => V h av) [(V1 (slE false 5 byteE) fun xs => xs.length ≤ maxLen ∧ ∀ x ∈ xs, True)] avs) : ACall Tryz.prog 3 avs h fun r _ => r = .bool true := by
  obtain ⟨v0, vs0, rfl, q0, hv⟩ := All2.cons_iff.1 hv
  obtain rfl := All2.nil_iff.1 hv
  obtain ⟨xs, F, ⟨a, ea, hr⟩, hl, hx⟩ := q0
  obtain rfl : v0 = _ := List.cons.inj ea |>.1
  exact FnPaths_c xs a F false _ h hr
end Go.Proofs.YtkphpalagceobaaGreat.Hz
