/- Texts of the calculus and of the program's functions, merged: HP. -/
import Derived.Test.YtgfilbekfkhjjaaHyGQ
import Derived.Test.YtgfilbekfkhjjaaHyGM
/- Free blocks, and what writing and dropping a node do to them. No program in sight. -/
namespace Go.Proofs.Ytgfilbekfkhjjaa.Hz
open Go.RowKit
set_option linter.unusedVariables false
set_option linter.unusedSimpArgs false

noncomputable def freeOf (f : Fs) : Int := if shapeOk f then (f.data.length : Int) - ((held f.nodes).length : Int) else 0
theorem countP_not {α : Type} (p : α → Bool) : ∀ l : List α, l.countP (fun x => !p x) + (l.filter p).length = l.length
  | [] => rfl
  | x :: l => by
    have := countP_not p l
    cases hp : p x <;> simp [hp] at this ⊢ <;> omega
theorem count_free {n : Nat} {bs : List Int} (nd : bs.Nodup) (hr : ∀ b ∈ bs, 0 ≤ b ∧ b < n) : (List.range n).countP (fun k : Nat => !decide ((k : Int) ∈ bs)) + bs.length = n := by
  have h1 := countP_not (fun k : Nat => decide ((k : Int) ∈ bs)) (List.range n)
  have h2 : ((List.range n).filter fun k : Nat => decide ((k : Int) ∈ bs)).Perm (bs.map Int.toNat) := by
    rw [List.perm_ext_iff_of_nodup]
    · intro k
      simp only [List.mem_filter, List.mem_range, decide_eq_true_eq, List.mem_map]
      constructor
      · rintro ⟨_, hk⟩
        exact ⟨_, hk, by simp⟩
      · rintro ⟨b, hb, rfl⟩
        have := hr b hb
        have e : ((b.toNat : Nat) : Int) = b := by omega
        exact ⟨by omega, by rw [e]; exact hb⟩
    · exact List.Pairwise.filter _ List.nodup_range
    · refine List.Pairwise.map Int.toNat ?_ (List.Pairwise.and_mem.1 nd)
      rintro a b ⟨ha, hb, hne⟩ e
      have := hr a ha
      have := hr b hb
      exact hne (by omega)
  have h3 := h2.length_eq
  rw [List.length_map] at h3
  rw [List.length_range] at h1
  omega
theorem held_len_set {ns : List Node} {i : Nat} (hi : i < ns.length) (x : Node) : (held (ns.set i x)).length + ns[i].blocks.length = (held ns).length + x.blocks.length := by
  rw [held_cut ns i hi x]
  conv => rhs; rw [held_self ns i hi]
  simp only [List.length_append]
  omega
section
variable {f : Fs} {i : Nat} {data : Str}
theorem Wrote.node (W : Wrote f i data) : nodeAtI f (i : Int) = f.nodes[i]'W.hi := nodeAtI_get W.hi
theorem written_len (f : Fs) (i : Int) (data : Str) : (written f i data).nodes.length = f.nodes.length := by simp [written]
theorem written_free (s : ShapeOk f) (W : Wrote f i data) : freeOf (written f (i : Int) data) + blocksFor data.length = freeOf f + (f.nodes[i]'W.hi).blocks.length := by
  have hs := written_shape W s
  have hb := (needOf_le data W.le).2.1
  have hl : (written f (i : Int) data).data.length = f.data.length := by simp [written, putChunks_len, dropData_len]
  have hh := held_len_set W.hi { nodeAtI f (i : Int) with size := data.length, blocks := writeBlocks f (i : Int) data }
  have hw := W.len
  have e1 : (written f (i : Int) data).nodes = f.nodes.set i { nodeAtI f (i : Int) with size := data.length, blocks := writeBlocks f (i : Int) data } := by simp [written]
  have e2 : (held (written f (i : Int) data).nodes).length + (f.nodes[i]'W.hi).blocks.length = (held f.nodes).length + needOf data := by
    rw [e1, hh]
    show _ + (writeBlocks f (i : Int) data).length = _
    rw [hw]
  unfold freeOf
  rw [if_pos (shapeOk_t hs), if_pos (shapeOk_t s), hl, hb]
  omega
theorem written_usable (s : ShapeOk f) (W : Wrote f i data) (k : Int) : usable (written f (i : Int) data) k = usable f k := by
  have hs := written_shape W s
  unfold usable
  rw [shapeOk_t hs, shapeOk_t s, written_len]
  by_cases hk : inR k 0 ((f.nodes.length : Int) - 1) = true
  · obtain ⟨m, rfl⟩ : ∃ m : Nat, k = m := ⟨k.toNat, by have := inR_iff.1 hk; omega⟩
    by_cases hm : i = m
    · subst hm
      have : nodeAtI (written f (i : Int) data) (i : Int) = { nodeAtI f (i : Int) with size := data.length, blocks := writeBlocks f (i : Int) data } := by
        have hi := W.hi
        simp [written, nodeAtI, hi]
      rw [this]
    · rw [(written_other s W hm).1]
  · simp [hk]
end
theorem dropPut (data : Str) (D : List Str) (bs : List Int) (nd : bs.Nodup) (h : ∀ b ∈ bs, 0 ≤ b ∧ b.toNat < D.length ∧ D[b.toNat]? = some []) : dropData (putChunks data bs 0 (dropData D [])) bs = D := by
  have l1 : (dropData (putChunks data bs 0 (dropData D [])) bs).length = D.length := by simp [putChunks_len, dropData_len]
  apply List.ext_getElem?
  intro k
  by_cases hk : k < D.length
  · by_cases hb : ∃ b ∈ bs, b.toNat = k
    · obtain ⟨b, hb, rfl⟩ := hb
      rw [(h b hb).2.2, List.getElem?_eq_getElem (by omega)]
      congr 1
      exact (dropData_at bs (putChunks data bs 0 (dropData D [])) b.toNat (by simp [putChunks_len, dropData_len]; exact hk) (by omega)).2 ⟨b, hb, rfl⟩
    · have hno : ∀ b ∈ bs, b.toNat ≠ k := fun b hb' e => hb ⟨b, hb', e⟩
      rw [dropData_off bs _ k hno, putChunks_off data bs 0 _ k hno]
      rfl
  · rw [List.getElem?_eq_none (by omega), List.getElem?_eq_none (by omega)]

/-- What the law of dropped nodes asks. -/
theorem dropped_law {f : Fs} (s : ShapeOk f) {kind : Int} {m : Nat} (hm : m < f.nodes.length) (hk : 1 ≤ kind ∧ kind ≤ 3) (hn : f.nodes[m] = ⟨0, 0, 0, 0, []⟩) (data : Str) (hd : needOf data = 1) :
    nodeDrop (nodeWrite ⟨f.nodes.set m ⟨kind, 0, 0, 0, []⟩, f.data⟩ (m : Int) data).1 (m : Int) = (f, true) ∧
      ((nodeWrite ⟨f.nodes.set m ⟨kind, 0, 0, 0, []⟩, f.data⟩ (m : Int) data).2 = true → freeOf (nodeWrite ⟨f.nodes.set m ⟨kind, 0, 0, 0, []⟩, f.data⟩ (m : Int) data).1 = freeOf f - 1) := by
  have hm0 : m ≠ 0 := by
    intro e
    subst e
    have := s.root hm
    rw [hn] at this
    simp at this
  have sg := made_shape s hm hn hk
  have hl := (inR_iff.1 s.nodes)
  have hgm : (⟨f.nodes.set m ⟨kind, 0, 0, 0, []⟩, f.data⟩ : Fs).nodes[m]? = some ⟨kind, 0, 0, 0, []⟩ := by simp [hm]
  have hback : f.nodes.set m ⟨0, 0, 0, 0, []⟩ = f.nodes := by
    rw [← hn]
    exact List.set_getElem_self hm
  rcases nodeWrite_cases _ (m : Int) data sg with e | ⟨m', e, W, ew⟩
  · rw [e]
    refine ⟨?_, fun h => by cases h⟩
    have hu : usable ⟨f.nodes.set m ⟨kind, 0, 0, 0, []⟩, f.data⟩ (m : Int) = true := by
      unfold usable
      rw [shapeOk_t sg]
      simp [nodeAtI, hm, inR]
      omega
    unfold nodeDrop
    rw [hu]
    simp [hm0, nodeAtI, hm, dropData, hback]
  · have e' : m = m' := by omega
    subst e'
    rw [ew]
    have hu := written_usable sg W (m : Int)
    have hu1 : usable ⟨f.nodes.set m ⟨kind, 0, 0, 0, []⟩, f.data⟩ (m : Int) = true := by
      unfold usable
      rw [shapeOk_t sg]
      simp [nodeAtI, hm, inR]
      omega
    rw [hu1] at hu
    have hfree : ∀ b ∈ writeBlocks ⟨f.nodes.set m ⟨kind, 0, 0, 0, []⟩, f.data⟩ (m : Int) data, b ∉ held f.nodes := by
      intro b hb hh
      have := W.mem b hb
      simp at this
      have hh2 := held_set_mem (x := ⟨kind, 0, 0, 0, []⟩) hm hh
      rw [hn] at hh2
      simp at hh2
      exact this hh2
    constructor
    · unfold nodeDrop
      rw [hu]
      have e1 : nodeAtI (written ⟨f.nodes.set m ⟨kind, 0, 0, 0, []⟩, f.data⟩ (m : Int) data) (m : Int) = ⟨kind, 0, 0, data.length, writeBlocks ⟨f.nodes.set m ⟨kind, 0, 0, 0, []⟩, f.data⟩ (m : Int) data⟩ := by simp [written, nodeAtI, hm]
      have e2 : (written ⟨f.nodes.set m ⟨kind, 0, 0, 0, []⟩, f.data⟩ (m : Int) data).nodes.set m ⟨0, 0, 0, 0, []⟩ = f.nodes := by simp [written, hback]
      have e3 : (written ⟨f.nodes.set m ⟨kind, 0, 0, 0, []⟩, f.data⟩ (m : Int) data).data = putChunks data (writeBlocks ⟨f.nodes.set m ⟨kind, 0, 0, 0, []⟩, f.data⟩ (m : Int) data) 0 (dropData f.data []) := by simp [written, nodeAtI, hm]
      have e4 := dropPut data f.data _ W.nodup (fun b hb => by
        have r := W.range b hb
        have hlt : b.toNat < f.data.length := by have := r.2; simp at this; omega
        refine ⟨r.1, hlt, ?_⟩
        rw [List.getElem?_eq_getElem hlt]
        rcases (s.blocks b.toNat hlt).2 with h | h
        · have e : ((b.toNat : Nat) : Int) = b := by omega
          rw [e] at h
          exact absurd h (hfree b hb)
        · rw [h])
      rw [e1, e3]
      simp only [hm0, e4]
      simp [hm0, e2]
    · intro _
      have := written_free sg W
      have hb := (needOf_le data W.le).2.1
      rw [hb, hd] at this
      have hg : freeOf ⟨f.nodes.set m ⟨kind, 0, 0, 0, []⟩, f.data⟩ = freeOf f := by
        have hh := held_len_set hm ⟨kind, 0, 0, 0, []⟩
        rw [hn] at hh
        simp at hh
        unfold freeOf
        rw [if_pos (shapeOk_t sg), if_pos (shapeOk_t s), hh]
      rw [hg] at this
      simp at this ⊢
      omega
end Go.Proofs.Ytgfilbekfkhjjaa.Hz
