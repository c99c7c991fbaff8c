/- Which node holds each block: the program's owners. -/
import Derived.Test.YtidkkmkihifeoaaHzOP
import Derived.Test.YtidkkmkihifeoaaHzRP
namespace Go.Proofs.Ytidkkmkihifeoaa.Hz
open Go.RowKit
set_option linter.unusedVariables false
set_option linter.unusedSimpArgs false
set_option maxRecDepth 20000

theorem cell_up {B H : Hp} (x : Ext B H) {o i : Nat} {v : Value} (c : cellAt B o i = some v) : cellAt H o i = some v := by
  obtain ⟨ob, ho, _⟩ := cellAt_some c
  rw [cellAt_ext x (List.getElem?_eq_some_iff.1 ho).1]
  exact c
theorem mem_held {ns : List Node} {i j : Nat} (hi : i < ns.length) (hj : j < ns[i].blocks.length) : ns[i].blocks[j] ∈ held ns := by
  obtain ⟨rest, e⟩ := held_split ns i j hi hj
  rw [e]; simp
set_option maxHeartbeats 2000000 in
theorem owners_c (f : Fs) (a1 a2 : Option Addr) (F1 F2 : List Nat) (w : Bool) (tNode : TypeId) (h : Hp) (k1 : slR w tNode (nodeE w) h f.nodes a1 F1) (k2 : slR w 9 strE h f.data a2 F2) (hl : f.nl ≤ 1048576) (hd1 : 1 ≤ f.data.length) (h0 : ∀ b ∈ held f.nodes, 0 ≤ b) :
    ACall Try.prog 127 [.agg #[.slice a1 f.nodes.length f.nodes.length, .slice a2 f.data.length f.data.length]] h fun r h' => (∃ t, h' = h ++ t) ∧
      ((OwnOk f ∧ ∃ os a F, r = .tuple #[.slice a f.data.length f.data.length, .bool true] ∧ OwnInv f (held f.nodes) os ∧ slR true 3 intE h' os a F) ∨ (¬ OwnOk f ∧ r = .tuple #[.slice none 0 0, .bool false])) := by
  refine acall mixed Try.func127 rfl (by kernel_rfl) ?_
  have hlim := Fs.lim_of f hl
  have hN : f.data.length ≤ 1048576 := hlim.2.2
  have hM : f.nodes.length ≤ 1048576 := hlim.1
  simp [Try.f127]
  have hlit : slR true 3 intE (h ++ [⟨true, true, 77, [.slice a1 f.nodes.length f.nodes.length, .slice a2 f.data.length f.data.length]⟩, ⟨true, true, 3, [.int .i64 (-1)]⟩]) [-1] (some ⟨h.length + 1, 0, none⟩) [h.length + 1] := by
    have := (Own.lit (h0 := h ++ [⟨true, true, 77, [.slice a1 f.nodes.length f.nodes.length, .slice a2 f.data.length f.data.length]⟩]) (e := 3) (A := intE) (xs := [-1]) (css := [[.int .i64 (-1)]]) (Fs := [[]]) (Ext.refl _) ⟨⟨rfl, rfl⟩, trivial⟩ (by simp) (by simp)).sl
    simpa using this
  refine callK0 (repeat_c f.data.length hd1 hN _ _ true _ _ hlit) ?_
  rintro _ H0 ⟨a, F0, rfl, own0⟩
  generalize hBd : (⟨true, true, 77, [.slice a1 f.nodes.length f.nodes.length, .slice a2 f.data.length f.data.length]⟩ : Ob) = box at own0
  have hx0 : Ext (h ++ [box]) H0 := by
    have := own0.ext
    refine Ext.trans ?_ this
    have e : h ++ [box, (⟨true, true, 3, [.int .i64 (-1)]⟩ : Ob)] = (h ++ [box]) ++ [(⟨true, true, 3, [.int .i64 (-1)]⟩ : Ob)] := by simp
    rw [e]; exact Ext.push _ _
  have own0' : Own (h ++ [box]) 3 intE H0 (List.replicate f.data.length (-1)) a F0 := ⟨hx0, own0.sl, own0.nd, fun q hq => by have := own0.new q hq; simp at this ⊢; omega⟩
  have hbx0 : cellAt (h ++ [box]) h.length 0 = some (.slice a1 f.nodes.length f.nodes.length) := by rw [← hBd]; simp
  have hbx1 : cellAt (h ++ [box]) h.length 1 = some (.slice a2 f.data.length f.data.length) := by rw [← hBd]; simp
  simp [cell_up hx0 hbx0]
  have fin : ∀ {H : Hp}, Ext (h ++ [box]) H → ∃ t, H = h ++ t := fun hx => by
    obtain ⟨t, rfl⟩ := hx.pre
    exact ⟨box :: t, by simp⟩
  refine aloop mixed [1, 4, 15, 16, 17] (fun (x : Nat × List Int × Hp) => [.pointer (some ⟨h.length, 0, none⟩), .slice a f.data.length f.data.length, .slice a1 f.nodes.length f.nodes.length, .int .i64 f.nodes.length, .int .i64 x.1]) (fun x => x.2.2)
    (fun x => x.1 ≤ f.nodes.length ∧ OwnInv f (held (f.nodes.take x.1)) x.2.1 ∧ ∃ F, Own (h ++ [box]) 3 intE x.2.2 x.2.1 a F) (fun x => f.nodes.length - x.1) (0, List.replicate f.data.length (-1), H0) ⟨by simp, by simpa [held] using OwnInv.start f, F0, own0'⟩ (by simp [pickF]) rfl ?_
  rintro ⟨i, os, H⟩ ⟨hi, inv, F, own⟩
  simp only at hi inv own
  simp [mkF]
  refine asplitK_intro (fun hb => ?_) (fun hb => ?_) <;> simp at hb <;> simp [hb]
  · obtain ⟨o, off, b1, G1, rfl, c0, c1, c2, c3, c4, kb, -⟩ := nodeAt (k1.ext (Ext.push h [box])) hb
    simp [hb, cell_up own.ext c0, cell_up own.ext c1, cell_up own.ext c2, cell_up own.ext c3, cell_up own.ext c4]
    have own1 := own.grow (Ext.push H [⟨true, true, 151, [.int .i64 f.nodes[i].kind, .int .i64 f.nodes[i].gen, .int .i64 f.nodes[i].time, .int .i64 f.nodes[i].size, .slice b1 f.nodes[i].blocks.length f.nodes[i].blocks.length]⟩])
    refine aloop mixed [1, 4, 5, 15, 16, 17, 23, 24, 25] (fun (x : Nat × List Int × Hp) => [.pointer (some ⟨h.length, 0, none⟩), .slice a f.data.length f.data.length, .int .i64 i, .slice (some ⟨o, off, none⟩) f.nodes.length f.nodes.length, .int .i64 f.nodes.length, .int .i64 i, .slice b1 f.nodes[i].blocks.length f.nodes[i].blocks.length, .int .i64 f.nodes[i].blocks.length, .int .i64 x.1]) (fun x => x.2.2)
      (fun x => x.1 ≤ f.nodes[i].blocks.length ∧ OwnInv f (held (f.nodes.take i) ++ f.nodes[i].blocks.take x.1) x.2.1 ∧ ∃ F, Own (h ++ [box]) 3 intE x.2.2 x.2.1 a F) (fun x => f.nodes[i].blocks.length - x.1) (0, os, _) ⟨by simp, by simpa using inv, F, own1⟩ (by simp [pickF]) rfl ?_
    rintro ⟨j, os', H'⟩ ⟨hj, inv', F', own'⟩
    simp only at hj inv' own'
    simp [mkF]
    have hbl : f.nodes[i].blocks.length ≤ 1048576 := hlim.2.1 _ (List.getElem_mem hb)
    refine asplitK_intro (fun hc => ?_) (fun hc => ?_) <;> simp at hc <;> simp [hc]
    · obtain ⟨ob, offb, rfl, cb⟩ := intEAt kb hc
      obtain ⟨rest, hsp⟩ := held_split f.nodes i j hb hc
      have hpos := h0 _ (mem_held hb hc)
      simp [hc, cell_up own'.ext cb, cell_up own'.ext hbx1]
      refine asplitK_intro (fun hd => ?_) (fun hd => ?_) <;> (have hd' := hd; simp at hd; simp [hd, hd'])
      · exact ⟨fin own'.ext, ownBad hsp (.inl (by omega))⟩
      obtain ⟨il, ib, ind, iv⟩ := inv'
      have hq : f.nodes[i].blocks[j].toNat < os'.length := by omega
      have hqe : ((f.nodes[i].blocks[j].toNat : Nat) : Int) = f.nodes[i].blocks[j] := by omega
      obtain ⟨oa, offa, rfl, ca⟩ := intEAt own'.sl hq
      have ivq := iv _ hq
      rw [hqe] at ivq
      simp [hpos, hd, ca]
      refine asplitK_intro (fun he => ?_) (fun he => ?_) <;> (have he' := he; simp at he; simp [he, he'])
      · rw [he'] at ivq
        exact ⟨fin own'.ext, ownBad hsp (.inr (by simpa using ivq.symm))⟩
      · rw [he'] at ivq
        have hni : f.nodes[i].blocks[j] ∉ held (f.nodes.take i) ++ f.nodes[i].blocks.take j := by simpa using ivq.symm
        obtain ⟨hcan, F2', own2⟩ := own'.putFlat (i := f.nodes[i].blocks[j].toNat) hq (i : Int) 0 [.int .i64 i] (by simp) (by simp)
        simp at hcan own2
        have step := OwnInv.step ⟨il, ib, ind, iv⟩ hpos hd hni (i := (i : Int)) (by omega)
        rw [List.append_assoc, ← List.take_succ_eq_append_getElem hc] at step
        simp [hpos, hd, hcan]
        exact anext (j + 1, _, _) ⟨hc, step, F2', own2⟩ (by simp only; omega) (by simp [pickF, wrap_succ (show j < 9223372036854775807 by omega)]) rfl (by simp)
    · obtain rfl : j = f.nodes[i].blocks.length := by omega
      rw [List.take_length, ← held_take _ _ hb] at inv'
      exact anext (i + 1, os', H') ⟨hb, inv', F', own'⟩ (by simp only; omega) (by simp [pickF, wrap_succ (show i < 9223372036854775807 by omega)]) rfl (by simp)
  · obtain rfl : i = f.nodes.length := by omega
    rw [List.take_length] at inv
    exact ⟨fin own.ext, inv.done, os, inv, F, own.sl⟩
end Go.Proofs.Ytidkkmkihifeoaa.Hz
