/- How many nodes hold each block: the reference's l6Used. -/
import Derived.Test.YtidkkmkihifeoaaHzOW
namespace Go.Proofs.Ytidkkmkihifeoaa.Hz
open Go.RowKit
set_option linter.unusedVariables false
set_option linter.unusedSimpArgs false
set_option maxRecDepth 20000

theorem held_len : ∀ (ns : List Node), (held ns).length ≤ sumL Node.nl ns
  | [] => by simp [held]
  | n :: ns => by
    have := held_len ns
    have e : held (n :: ns) = n.blocks ++ held ns := by simp [held]
    have e2 : sumL Node.nl (n :: ns) = n.blocks.length + sumL Node.nl ns := rfl
    rw [e, List.length_append, e2]
    omega
theorem UsedInv.le {f : Fs} {P us : List Int} (k : UsedInv f P us) {q : Nat} (hq : q < us.length) : 0 ≤ us[q] ∧ us[q] ≤ P.length := by
  obtain ⟨k1, k2, k3⟩ := k
  by_cases e : q < f.data.length
  · rw [k2 q e hq]
    have := List.count_le_length (a := (q : Int)) (l := P)
    omega
  · obtain rfl : q = f.data.length := by omega
    rw [k3 hq]
    have := List.countP_le_length (p := fun b => !(inR b 0 (f.data.length - 1))) (l := P)
    omega
set_option maxHeartbeats 2000000 in
theorem l6Used_c (f : Fs) (a1 a2 : Option Addr) (F1 F2 : List Nat) (w : Bool) (tNode : TypeId) (h : Hp) (k1 : slR w tNode (nodeE w) h f.nodes a1 F1) (k2 : slR w 9 strE h f.data a2 F2) (hl : f.nl ≤ 1048576) :
    ACall Try.prog 123 [.agg #[.slice a1 f.nodes.length f.nodes.length, .slice a2 f.data.length f.data.length]] h fun r h' => ∃ us a F, r = .slice a us.length us.length ∧ UsedInv f (held f.nodes) us ∧ Own h 3 intE h' us a F := by
  refine acall mixed Try.func123 rfl (by kernel_rfl) ?_
  have hlim := Fs.lim_of f hl
  have hN : f.data.length ≤ 1048576 := hlim.2.2
  have hM : f.nodes.length ≤ 1048576 := hlim.1
  have hH : (held f.nodes).length ≤ 1048576 := by
    have := held_len f.nodes
    have e : f.nl = f.nodes.length + sumL Node.nl f.nodes + f.data.length + sumL List.length f.data := rfl
    omega
  obtain ⟨M, hMe⟩ : ∃ M : Nat, M = f.data.length + 1 := ⟨_, rfl⟩
  have wN : IntKind.i64.wrap ((f.data.length : Int) + 1) = (M : Int) := by rw [wrap_in (by omega) (by omega)]; omega
  have hb1 : (M : Int) * 8 ≤ (big : Int) := by unfold big; omega
  have hb2 : M ≤ big := by unfold big; omega
  simp [Try.f123, wN, hb1, hb2]
  have own0 := Own.rep (A := intE) (h ++ [⟨true, true, 77, [.slice a1 f.nodes.length f.nodes.length, .slice a2 f.data.length f.data.length]⟩]) 3 M (z := 0) (zs := [.int .i64 0]) ⟨rfl, rfl⟩
  generalize hBd : (⟨true, true, 77, [.slice a1 f.nodes.length f.nodes.length, .slice a2 f.data.length f.data.length]⟩ : Ob) = box at own0
  have hlen : (h ++ [box]).length = h.length + 1 := by simp
  simp only [hlen, List.append_assoc, List.cons_append, List.nil_append] at own0
  have hbx0 : cellAt (h ++ [box]) h.length 0 = some (.slice a1 f.nodes.length f.nodes.length) := by rw [← hBd]; simp
  have hbx1 : cellAt (h ++ [box]) h.length 1 = some (.slice a2 f.data.length f.data.length) := by rw [← hBd]; simp
  have up : ∀ {H : Hp} {us : List Int} {F : List Nat}, Own (h ++ [box]) 3 intE H us (some ⟨h.length + 1, 0, none⟩) F → Own h 3 intE H us (some ⟨h.length + 1, 0, none⟩) F := fun k => ⟨(Ext.push h [box]).trans k.ext, k.sl, k.nd, fun q hq => by have := k.new q hq; simp at this; omega⟩
  refine aloop mixed [1, 3, 4] (fun (x : Nat × List Int × Hp) => [.pointer (some ⟨h.length, 0, none⟩), .slice (some ⟨h.length + 1, 0, none⟩) M M, .int .i64 x.1]) (fun x => x.2.2)
    (fun x => x.1 ≤ f.nodes.length ∧ UsedInv f (held (f.nodes.take x.1)) x.2.1 ∧ ∃ F, Own (h ++ [box]) 3 intE x.2.2 x.2.1 (some ⟨h.length + 1, 0, none⟩) F) (fun x => f.nodes.length - x.1) (0, List.replicate M 0, _) ⟨by simp, by rw [hMe]; simpa [held] using UsedInv.start f, _, own0⟩ (by simp [pickF]) rfl ?_
  rintro ⟨i, us, H⟩ ⟨hi, inv, F, own⟩
  simp only at hi inv own
  simp [mkF, cell_up own.ext hbx0]
  refine asplitK_intro (fun hb => ?_) (fun hb => ?_) <;> simp at hb <;> simp [hb]
  · obtain ⟨o, off, b1, G1, rfl, c0, c1, c2, c3, c4, kb, -⟩ := nodeAt (k1.ext (Ext.push h [box])) hb
    refine aloop mixed [1, 3, 4, 5] (fun (x : Nat × List Int × Hp) => [.pointer (some ⟨h.length, 0, none⟩), .slice (some ⟨h.length + 1, 0, none⟩) M M, .int .i64 i, .int .i64 x.1]) (fun x => x.2.2)
      (fun x => x.1 ≤ f.nodes[i].blocks.length ∧ UsedInv f (held (f.nodes.take i) ++ f.nodes[i].blocks.take x.1) x.2.1 ∧ ∃ F, Own (h ++ [box]) 3 intE x.2.2 x.2.1 (some ⟨h.length + 1, 0, none⟩) F) (fun x => f.nodes[i].blocks.length - x.1) (0, us, H) ⟨by simp, by simpa using inv, F, own⟩ (by simp [pickF]) rfl ?_
    rintro ⟨j, us', H'⟩ ⟨hj, inv', F', own'⟩
    simp only at hj inv' own'
    have hbl : f.nodes[i].blocks.length ≤ 1048576 := hlim.2.1 _ (List.getElem_mem hb)
    simp [mkF, cell_up own'.ext hbx0, hb, cell_up own'.ext c4]
    refine asplitK_intro (fun hc => ?_) (fun hc => ?_) <;> simp at hc <;> simp [hc]
    · obtain ⟨ob, offb, rfl, cb⟩ := intEAt kb hc
      obtain ⟨rest, hsp⟩ := held_split f.nodes i j hb hc
      have wl : IntKind.i64.wrap ((f.data.length : Int) - 1) = (f.data.length : Int) - 1 := wrap_in (by omega) (by omega)
      simp [cell_up own'.ext hbx0, hb, cell_up own'.ext c4, hc, cell_up own'.ext cb, cell_up own'.ext hbx1, wl]
      refine callK0 (l1InR f.nodes[i].blocks[j] 0 (f.data.length - 1) _) ?_
      rintro _ H' ⟨rfl, rfl⟩
      have hul := inv'.1
      have hle := fun {q : Nat} (hq : q < us'.length) => inv'.le hq
      have hPl : (held (f.nodes.take i) ++ f.nodes[i].blocks.take j).length ≤ 1048576 := by
        have : (held f.nodes).length = (held (f.nodes.take i) ++ f.nodes[i].blocks.take j).length + (rest.length + 1) := by rw [hsp]; simp; omega
        omega
      cases hin : inR f.nodes[i].blocks[j] 0 (f.data.length - 1)
      · have hq : f.data.length < us'.length := by omega
        have hqM : f.data.length < M := by omega
        obtain ⟨oa, offa, ea, ca⟩ := intEAt own'.sl hq
        obtain ⟨rfl, rfl⟩ : h.length + 1 = oa ∧ 0 = offa := by simpa using ea
        have hv := hle hq
        have wv : IntKind.i64.wrap (us'[f.data.length] + 1) = us'[f.data.length] + 1 := wrap_in (by omega) (by omega)
        simp only [Nat.zero_add] at ca
        obtain ⟨hcan, F2', own2⟩ := own'.putFlat (i := f.data.length) hq (us'[f.data.length] + 1) 0 [.int .i64 (us'[f.data.length] + 1)] (by simp) (by simp)
        simp at hcan own2
        have step := inv'.out hin hq
        rw [List.append_assoc, ← List.take_succ_eq_append_getElem hc] at step
        simp
        refine drawK false (by kernel_rfl) ?_
        simp [cell_up own'.ext hbx1, hqM, ca, wv, hcan]
        exact anext (j + 1, _, _) ⟨hc, step, F2', own2⟩ (by simp only; omega) (by simp [pickF, wrap_succ (show j < 9223372036854775807 by omega)]) rfl (by simp)
      · have hin' := inR_iff.1 hin
        have hq : f.nodes[i].blocks[j].toNat < us'.length := by omega
        have hqM : f.nodes[i].blocks[j] < (M : Int) := by omega
        obtain ⟨oa, offa, ea, ca⟩ := intEAt own'.sl hq
        obtain ⟨rfl, rfl⟩ : h.length + 1 = oa ∧ 0 = offa := by simpa using ea
        have hv := hle hq
        have wv : IntKind.i64.wrap (us'[f.nodes[i].blocks[j].toNat] + 1) = us'[f.nodes[i].blocks[j].toNat] + 1 := wrap_in (by omega) (by omega)
        simp only [Nat.zero_add] at ca
        obtain ⟨hcan, F2', own2⟩ := own'.putFlat (i := f.nodes[i].blocks[j].toNat) hq (us'[f.nodes[i].blocks[j].toNat] + 1) 0 [.int .i64 (us'[f.nodes[i].blocks[j].toNat] + 1)] (by simp) (by simp)
        simp at hcan own2
        have step := inv'.inn hin hq
        rw [List.append_assoc, ← List.take_succ_eq_append_getElem hc] at step
        simp [hin'.1, hqM, ca, wv, hcan]
        exact anext (j + 1, _, _) ⟨hc, step, F2', own2⟩ (by simp only; omega) (by simp [pickF, wrap_succ (show j < 9223372036854775807 by omega)]) rfl (by simp)
    · obtain rfl : j = f.nodes[i].blocks.length := by omega
      rw [List.take_length, ← held_take _ _ hb] at inv'
      exact anext (i + 1, us', H') ⟨hb, inv', F', own'⟩ (by simp only; omega) (by simp [pickF, wrap_succ (show i < 9223372036854775807 by omega)]) rfl (by simp)
  · obtain rfl : i = f.nodes.length := by omega
    rw [List.take_length] at inv
    have e : M = us.length := by have := inv.1; omega
    rw [e]
    exact ⟨us, _, ⟨rfl, rfl⟩, inv, F, up own⟩
end Go.Proofs.Ytidkkmkihifeoaa.Hz
