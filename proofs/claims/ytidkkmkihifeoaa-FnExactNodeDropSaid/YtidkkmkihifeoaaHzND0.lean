/- NodeDrop: both programs. -/
import Derived.Test.YtidkkmkihifeoaaHzNW0
namespace Go.Proofs.Ytidkkmkihifeoaa.Hz
open Go.RowKit
set_option linter.unusedVariables false
set_option linter.unusedSimpArgs false
set_option maxRecDepth 20000

def dropData (d : List Str) (bs : List Int) : List Str := bs.foldl (fun d b => d.set b.toNat []) d
theorem dropData_len (bs : List Int) : ∀ d, (dropData d bs).length = d.length := by
  induction bs with
  | nil => intro d; rfl
  | cons b bs ih => intro d; show (dropData (d.set b.toNat []) bs).length = _; rw [ih]; simp
theorem dropData_take (d : List Str) (bs : List Int) (k : Nat) (hk : k < bs.length) : dropData d (bs.take (k + 1)) = (dropData d (bs.take k)).set bs[k].toNat [] := by
  rw [List.take_succ_eq_append_getElem hk, dropData, List.foldl_append]
  rfl
theorem cellE {h H : Hp} (e : Ext h H) {o i : Nat} {v : Value} (c : cellAt h o i = some v) : cellAt H o i = some v := by
  rw [cellAt_ext e (by obtain ⟨ob, ho, _⟩ := cellAt_some c; exact get_lt ho), c]
noncomputable def nodeDrop (f : Fs) (i : Int) : Fs × Bool :=
  if usable f i && decide (i ≠ 0) then (⟨f.nodes.set i.toNat ⟨0, 0, 0, 0, []⟩, dropData f.data (nodeAtI f i).blocks⟩, true) else (f, false)
theorem dropData_nl (bs : List Int) : ∀ d, sumL List.length (dropData d bs) ≤ sumL List.length d := by
  induction bs with
  | nil => intro d; exact Nat.le_refl _
  | cons b bs ih =>
    intro d
    refine Nat.le_trans (ih (d.set b.toNat [])) ?_
    by_cases hi : b.toNat < d.length
    · have := sumL_set List.length d _ hi []
      simp at this
      omega
    · rw [List.set_eq_of_length_le (by omega)]
      exact Nat.le_refl _
theorem nodeDrop_nl (f : Fs) (i : Int) : (nodeDrop f i).1.nl ≤ f.nl := by
  unfold nodeDrop
  split
  · have h1 := dropData_nl (nodeAtI f i).blocks f.data
    have h2 := dropData_len (nodeAtI f i).blocks f.data
    have h3 : sumL Node.nl (f.nodes.set i.toNat ⟨0, 0, 0, 0, []⟩) ≤ sumL Node.nl f.nodes := by
      by_cases hi : i.toNat < f.nodes.length
      · have := sumL_set Node.nl f.nodes _ hi ⟨0, 0, 0, 0, []⟩
        simp [Node.nl] at this ⊢
        omega
      · rw [List.set_eq_of_length_le (by omega)]
        exact Nat.le_refl _
    simp only [Fs.nl, List.length_set, h2]
    omega
  · exact Nat.le_refl _
set_option maxHeartbeats 2000000 in
theorem nodeDrop_impl_c (f : Fs) (a1 a2 : Option Addr) (F1 F2 : List Nat) (w : Bool) (tNode : TypeId) (h : Hp) (k1 : slR w tNode (nodeE w) h f.nodes a1 F1) (k2 : slR w 9 strE h f.data a2 F2) (hl : f.nl ≤ 1048576) (i : Int) :
    ACall Try.prog 59 [.agg #[.slice a1 f.nodes.length f.nodes.length, .slice a2 f.data.length f.data.length], .int .i64 i] h fun r h' => ∃ v, r = .tuple #[v, .bool (nodeDrop f i).2] ∧ FsRes (nodeDrop f i).1 h h' v := by
  refine acall mixed Try.func59 rfl (by kernel_rfl) ?_
  have hlim := Fs.lim_of f hl
  simp [Try.f59]
  refine callK0 (cloneFs_c f a1 a2 F1 F2 w w w tNode _ _ (k1.to (by simp)) (k2.to (by simp)) hlim.1 hlim.2.2 hlim.2.1) ?_
  rintro _ _ ⟨an, G1, ad, G2, rfl, o1, o2, dis⟩
  obtain ⟨u, rfl⟩ := o1.ext.pre
  simp at o1 o2
  have kk := FsOut.start o1 o2 dis
  clear o1 o2 dis
  simp
  generalize h.length + (u.length + 1 + 1) = oi at kk ⊢
  generalize (h ++ _ :: _ :: (u ++ _) : Hp) = H at kk ⊢
  refine callK0 (usable_impl_c f a1 a2 F1 F2 w tNode _ (k1.ext kk.ext) (k2.ext kk.ext) hl i) ?_
  rintro _ _ ⟨⟨t1, rfl⟩, rfl⟩
  replace kk := kk.grow t1
  generalize H ++ t1 = H at kk ⊢
  have cc := kk.cells
  have dn := kk.done [.slice an f.nodes.length f.nodes.length, .slice ad f.data.length f.data.length] rfl
  cases e1 : usable f i
  · have hd : nodeDrop f i = (f, false) := by simp [nodeDrop, e1]
    rw [hd]
    simp [cc, dn.1, dn.2.1, dn.2.2.1]
    exact kk.res_ _ _ rfl rfl
  have e2 := e1
  simp only [usable, Bool.and_eq_true] at e2
  have s := shapeOk_iff.1 e2.1
  have e3 := inR_iff.1 e2.2.1
  obtain ⟨m, rfl⟩ := Int.eq_ofNat_of_zero_le e3.1
  have hi : m < f.nodes.length := by omega
  simp
  refine asplitK_intro (fun hb => ?_) (fun hb => ?_) <;> simp at hb <;> simp [hb, cc]
  · obtain rfl : m = 0 := by omega
    have hd : nodeDrop f 0 = (f, false) := by simp [nodeDrop]
    rw [hd]
    simp [cc, dn.1, dn.2.1, dn.2.2.1]
    exact kk.res_ _ _ rfl rfl
  clear dn
  have hd : nodeDrop f (m : Int) = (⟨f.nodes.set m ⟨0, 0, 0, 0, []⟩, dropData f.data f.nodes[m].blocks⟩, true) := by simp [nodeDrop, e1, hb, nodeAtI_get hi]
  rw [hd]
  obtain ⟨o, off, b1, B1, ea, c0, c1, c2, c3, c4, kb, -⟩ := nodeAt k1 hi
  have hbl : f.nodes[m].blocks.length ≤ 1048576 := hlim.2.1 _ (List.getElem_mem hi)
  subst ea
  simp [hi, cellE kk.ext c4]
  refine aloop mixed [1, 2, 4, 6, 25, 26, 27] (fun (x : Nat × Hp) => [.int .i64 m, .pointer (some ⟨h.length, 0, none⟩), .pointer (some ⟨h.length + 1, 0, none⟩), .pointer (some ⟨oi, 0, none⟩), .slice b1 f.nodes[m].blocks.length f.nodes[m].blocks.length, .int .i64 f.nodes[m].blocks.length, .int .i64 x.1]) (fun x => x.2)
    (fun x => x.1 ≤ f.nodes[m].blocks.length ∧ FsOut f (some ⟨o, off, none⟩) a2 h oi ⟨f.nodes, dropData f.data (f.nodes[m].blocks.take x.1)⟩ an ad x.2) (fun x => f.nodes[m].blocks.length - x.1) (0, H) ⟨by simp, by simpa [dropData] using kk⟩ (by simp [pickF]) rfl ?_
  clear kk cc
  rintro ⟨j, H⟩ ⟨hj, kk⟩
  simp only at hj kk
  have cc := kk.cells
  simp only [dropData_len] at cc
  simp [mkF]
  refine asplitK_intro (fun hc => ?_) (fun hc => ?_) <;> simp at hc <;> simp [hc]
  · obtain ⟨ob, offb, eb, cb⟩ := intEAt (kb.ext kk.ext) hc
    subst eb
    have hbm := s.own.1 _ (mem_held hi hc)
    have hq : f.nodes[m].blocks[j].toNat < (dropData f.data (f.nodes[m].blocks.take j)).length := by rw [dropData_len]; omega
    obtain ⟨Fn, Fd, -, dat, -⟩ := kk.own
    obtain ⟨od, offd, ed, -⟩ := strEAt dat.sl hq
    subst ed
    obtain ⟨hcs, kf⟩ := kk.put hq []
    simp only at kf
    rw [← dropData_take _ _ _ hc] at kf
    simp [hc, cb, cc, hbm.1, hbm.2, hcs]
    exact anext (j + 1, _) ⟨hc, kf⟩ (by simp only; omega) (by simp [pickF, wrap_succ (show j < 9223372036854775807 by omega)]) rfl (by simp)
  · obtain rfl : j = f.nodes[m].blocks.length := by omega
    rw [List.take_length] at kk
    obtain ⟨Fn, Fd, own, -⟩ := kk.own
    obtain ⟨o2, off2, b0, G0, ea, -⟩ := nodeAt own.sl (show m < _ from hi)
    subst ea
    clear own
    obtain ⟨hcs, kf⟩ := kk.clear (show m < _ from hi)
    simp [cc, hi, hcs]
    generalize setsAt H o2 (off2 + m * 5) [Value.int IntKind.i64 0, Value.int IntKind.i64 0, Value.int IntKind.i64 0, Value.int IntKind.i64 0, Value.slice none 0 0] = H at kf ⊢
    have dn := kf.done [.slice (some ⟨o2, off2, none⟩) f.nodes.length f.nodes.length, .slice ad f.data.length f.data.length] rfl
    have cf := kf.cells
    simp [dropData_len] at cf
    simp [cf, dn.1, dn.2.1, dn.2.2.1]
    simpa [dropData_len] using kf.res_ (.slice (some ⟨o2, off2, none⟩) f.nodes.length f.nodes.length) (.slice ad f.data.length f.data.length) (by simp) (by simp [dropData_len])
set_option maxHeartbeats 2000000 in
theorem nodeDrop_spec_c (f : Fs) (a1 a2 : Option Addr) (F1 F2 : List Nat) (w : Bool) (tNode : TypeId) (h : Hp) (k1 : slR w tNode (nodeE w) h f.nodes a1 F1) (k2 : slR w 9 strE h f.data a2 F2) (hl : f.nl ≤ 1048576) (i : Int) :
    ACall Try.prog 58 [.agg #[.slice a1 f.nodes.length f.nodes.length, .slice a2 f.data.length f.data.length], .int .i64 i] h fun r h' => ∃ v, r = .tuple #[v, .bool (nodeDrop f i).2] ∧ FsRes (nodeDrop f i).1 h h' v := by
  refine acall mixed Try.func58 rfl (by kernel_rfl) ?_
  have hlim := Fs.lim_of f hl
  simp [Try.f58]
  refine callK0 (l6Copy_c f a1 a2 F1 F2 w w w tNode _ _ (k1.to (by simp)) (k2.to (by simp)) hlim.1 hlim.2.2 hlim.2.1) ?_
  rintro _ _ ⟨an, G1, ad, G2, rfl, o1, o2, dis⟩
  obtain ⟨u, rfl⟩ := o1.ext.pre
  simp at o1 o2
  have kk := FsOut.start o1 o2 dis
  clear o1 o2 dis
  simp
  generalize h.length + (u.length + 1 + 1) = oi at kk ⊢
  generalize (h ++ _ :: _ :: (u ++ _) : Hp) = H at kk ⊢
  refine callK0 (usable_spec_c f a1 a2 F1 F2 w tNode _ (k1.ext kk.ext) (k2.ext kk.ext) hl i) ?_
  rintro _ _ ⟨⟨t1, rfl⟩, rfl⟩
  replace kk := kk.grow t1
  generalize H ++ t1 = H at kk ⊢
  have cc := kk.cells
  have dn := kk.done [.slice an f.nodes.length f.nodes.length, .slice ad f.data.length f.data.length] rfl
  cases e1 : usable f i
  · have hd : nodeDrop f i = (f, false) := by simp [nodeDrop, e1]
    rw [hd]
    simp [cc, dn.1, dn.2.1, dn.2.2.1]
    exact kk.res_ _ _ rfl rfl
  have e2 := e1
  simp only [usable, Bool.and_eq_true] at e2
  have s := shapeOk_iff.1 e2.1
  have e3 := inR_iff.1 e2.2.1
  obtain ⟨m, rfl⟩ := Int.eq_ofNat_of_zero_le e3.1
  have hi : m < f.nodes.length := by omega
  simp
  refine asplitK_intro (fun hb => ?_) (fun hb => ?_) <;> simp at hb <;> simp [hb, cc]
  · obtain rfl : m = 0 := by omega
    have hd : nodeDrop f 0 = (f, false) := by simp [nodeDrop]
    rw [hd]
    simp [cc, dn.1, dn.2.1, dn.2.2.1]
    exact kk.res_ _ _ rfl rfl
  clear dn
  have hd : nodeDrop f (m : Int) = (⟨f.nodes.set m ⟨0, 0, 0, 0, []⟩, dropData f.data f.nodes[m].blocks⟩, true) := by simp [nodeDrop, e1, hb, nodeAtI_get hi]
  rw [hd]
  obtain ⟨o, off, b1, B1, ea, c0, c1, c2, c3, c4, kb, -⟩ := nodeAt k1 hi
  have hbl : f.nodes[m].blocks.length ≤ 1048576 := hlim.2.1 _ (List.getElem_mem hi)
  subst ea
  refine aloop mixed [1, 2, 4, 6, 7] (fun (x : Nat × Hp) => [.int .i64 m, .pointer (some ⟨h.length, 0, none⟩), .pointer (some ⟨h.length + 1, 0, none⟩), .pointer (some ⟨oi, 0, none⟩), .int .i64 x.1]) (fun x => x.2)
    (fun x => x.1 ≤ f.nodes[m].blocks.length ∧ FsOut f (some ⟨o, off, none⟩) a2 h oi ⟨f.nodes, dropData f.data (f.nodes[m].blocks.take x.1)⟩ an ad x.2) (fun x => f.nodes[m].blocks.length - x.1) (0, H) ⟨by simp, by simpa [dropData] using kk⟩ (by simp [pickF]) rfl ?_
  clear kk cc
  rintro ⟨j, H⟩ ⟨hj, kk⟩
  simp only at hj kk
  have cc := kk.cells
  simp only [dropData_len] at cc
  have c4H := cellE kk.ext c4
  simp [mkF, cc, hi, c4H]
  refine asplitK_intro (fun hc => ?_) (fun hc => ?_) <;> simp at hc <;> simp [hc]
  · obtain ⟨ob, offb, eb, cb⟩ := intEAt (kb.ext kk.ext) hc
    subst eb
    have hbm := s.own.1 _ (mem_held hi hc)
    have hq : f.nodes[m].blocks[j].toNat < (dropData f.data (f.nodes[m].blocks.take j)).length := by rw [dropData_len]; omega
    obtain ⟨Fn, Fd, -, dat, -⟩ := kk.own
    obtain ⟨od, offd, ed, -⟩ := strEAt dat.sl hq
    subst ed
    obtain ⟨hcs, kf⟩ := kk.put hq []
    simp only at kf
    rw [← dropData_take _ _ _ hc] at kf
    refine drawK false (by kernel_rfl) ?_
    simp [hc, hi, c4H, cb, cc, hbm.1, hbm.2, hcs]
    exact anext (j + 1, _) ⟨hc, kf⟩ (by simp only; omega) (by simp [pickF, wrap_succ (show j < 9223372036854775807 by omega)]) rfl (by simp)
  · obtain rfl : j = f.nodes[m].blocks.length := by omega
    rw [List.take_length] at kk
    obtain ⟨Fn, Fd, own, -⟩ := kk.own
    obtain ⟨o2, off2, b0, G0, ea, -⟩ := nodeAt own.sl (show m < _ from hi)
    subst ea
    clear own
    obtain ⟨hcs, kf⟩ := kk.clear (show m < _ from hi)
    simp [cc, hi, hcs]
    generalize setsAt H o2 (off2 + m * 5) [Value.int IntKind.i64 0, Value.int IntKind.i64 0, Value.int IntKind.i64 0, Value.int IntKind.i64 0, Value.slice none 0 0] = H at kf ⊢
    have dn := kf.done [.slice (some ⟨o2, off2, none⟩) f.nodes.length f.nodes.length, .slice ad f.data.length f.data.length] rfl
    have cf := kf.cells
    simp [dropData_len] at cf
    simp [cf, dn.1, dn.2.1, dn.2.2.1]
    simpa [dropData_len] using kf.res_ (.slice (some ⟨o2, off2, none⟩) f.nodes.length f.nodes.length) (.slice ad f.data.length f.data.length) (by simp) (by simp [dropData_len])
end Go.Proofs.Ytidkkmkihifeoaa.Hz
