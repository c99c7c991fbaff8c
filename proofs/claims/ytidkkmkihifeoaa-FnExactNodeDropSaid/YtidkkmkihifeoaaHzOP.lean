/- The shape of a file system's image, in plain words: which blocks its nodes hold. -/
import Derived.Test.YtidkkmkihifeoaaHzNK
namespace Go.Proofs.Ytidkkmkihifeoaa.Hz
open Go.RowKit
set_option linter.unusedVariables false
set_option linter.unusedSimpArgs false

theorem nodup_count : ∀ (l : List Int), l.Nodup ↔ ∀ b, l.count b ≤ 1
  | [] => by simp
  | a :: l => by
    rw [List.nodup_cons, nodup_count l]
    constructor
    · rintro ⟨h1, h2⟩ b
      rw [List.count_cons]
      by_cases e : a = b
      · subst e; rw [List.count_eq_zero.2 h1]; simp
      · have := h2 b; simp [e]; exact this
    · intro h
      refine ⟨fun hm => ?_, fun b => ?_⟩
      · have := h a
        rw [List.count_cons_self] at this
        have h0 := List.count_pos_iff.2 hm
        omega
      · have := h b
        rw [List.count_cons] at this
        omega
/-- All blocks of all nodes, in order. -/
def held (ns : List Node) : List Int := ns.flatMap (·.blocks)
/-- Every held block is there, and none is held twice. -/
def OwnOk (f : Fs) : Prop := (∀ b ∈ held f.nodes, 0 ≤ b ∧ b < f.data.length) ∧ (held f.nodes).Nodup
instance (f : Fs) : Decidable (OwnOk f) := by unfold OwnOk; exact inferInstance

theorem held_take (ns : List Node) (i : Nat) (hi : i < ns.length) : held (ns.take (i + 1)) = held (ns.take i) ++ ns[i].blocks := by
  rw [List.take_succ_eq_append_getElem hi]; unfold held; rw [List.flatMap_append]; simp
theorem held_split (ns : List Node) (i j : Nat) (hi : i < ns.length) (hj : j < ns[i].blocks.length) :
    ∃ rest, held ns = (held (ns.take i) ++ ns[i].blocks.take j) ++ ns[i].blocks[j] :: rest := by
  have e1 : ns = ns.take i ++ ns[i] :: ns.drop (i + 1) := by rw [List.getElem_cons_drop]; exact (List.take_append_drop i ns).symm
  have e2 : ns[i].blocks = ns[i].blocks.take j ++ ns[i].blocks[j] :: ns[i].blocks.drop (j + 1) := by rw [List.getElem_cons_drop]; exact (List.take_append_drop j _).symm
  refine ⟨ns[i].blocks.drop (j + 1) ++ held (ns.drop (i + 1)), ?_⟩
  have e3 : held ns = held (ns.take i) ++ (ns[i].blocks ++ held (ns.drop (i + 1))) := by
    have : held (ns.take i ++ ns[i] :: ns.drop (i + 1)) = held (ns.take i) ++ (ns[i].blocks ++ held (ns.drop (i + 1))) := by
      unfold held; rw [List.flatMap_append, List.flatMap_cons]
    rw [← this, ← e1]
  rw [e3, List.append_assoc]
  congr 1
  have : ns[i].blocks ++ held (ns.drop (i + 1)) = (ns[i].blocks.take j ++ ns[i].blocks[j] :: ns[i].blocks.drop (j + 1)) ++ held (ns.drop (i + 1)) := by rw [← e2]
  exact this.trans (by rw [List.append_assoc, List.cons_append])
theorem ownBad {f : Fs} {P rest : List Int} {b : Int} (e : held f.nodes = P ++ b :: rest) (h : ¬ (b < f.data.length) ∨ b ∈ P) : ¬ OwnOk f := by
  rintro ⟨h1, h2⟩
  rw [e] at h1 h2
  rcases h with h | h
  · exact h (h1 b (by simp)).2
  · rw [List.nodup_append] at h2
    exact h2.2.2 b h b (by simp) rfl
/-- What the slice of owners holds after the blocks P. -/
def OwnInv (f : Fs) (P : List Int) (os : List Int) : Prop :=
  os.length = f.data.length ∧ (∀ b ∈ P, 0 ≤ b ∧ b < f.data.length) ∧ P.Nodup ∧ ∀ (k : Nat) (hk : k < os.length), decide (0 ≤ os[k]) = decide ((k : Int) ∈ P)
theorem OwnInv.start (f : Fs) : OwnInv f [] (List.replicate f.data.length (-1)) := ⟨by simp, by simp, List.nodup_nil, fun k hk => by simp⟩
theorem OwnInv.step {f : Fs} {P os : List Int} (k : OwnInv f P os) {b i : Int} (h0 : 0 ≤ b) (h1 : b < f.data.length) (h2 : b ∉ P) (hi : 0 ≤ i) : OwnInv f (P ++ [b]) (os.set b.toNat i) := by
  obtain ⟨k1, k2, k3, k4⟩ := k
  refine ⟨by simp [k1], ?_, ?_, ?_⟩
  · intro c hc
    rcases List.mem_append.1 hc with hc | hc
    · exact k2 c hc
    · simp at hc; subst hc; exact ⟨h0, h1⟩
  · rw [List.nodup_append]
    refine ⟨k3, by simp, ?_⟩
    rintro c hc d hd rfl
    simp at hd; subst hd
    exact h2 hc
  · intro q hq
    simp only [List.length_set] at hq
    rw [List.getElem_set]
    by_cases e : b.toNat = q
    · have : (q : Int) = b := by omega
      simp [e, hi, this]
    · have : (q : Int) ≠ b := by omega
      simp only [e, if_false, k4 q hq]
      simp [this]
theorem OwnInv.done {f : Fs} {os : List Int} (k : OwnInv f (held f.nodes) os) : OwnOk f := ⟨k.2.1, k.2.2.1⟩

/-- What the slice of counts holds after the blocks P. -/
def UsedInv (f : Fs) (P us : List Int) : Prop :=
  us.length = f.data.length + 1 ∧ (∀ (k : Nat) (hk : k < f.data.length) (hu : k < us.length), us[k] = P.count (k : Int)) ∧ (∀ hu : f.data.length < us.length, us[f.data.length] = P.countP fun b => !(inR b 0 (f.data.length - 1)))
theorem UsedInv.start (f : Fs) : UsedInv f [] (List.replicate (f.data.length + 1) 0) := ⟨by simp, fun k hk hu => by simp, fun hu => by simp⟩
theorem UsedInv.inn {f : Fs} {P us : List Int} (k : UsedInv f P us) {b : Int} (hb : inR b 0 (f.data.length - 1) = true) (hlt : b.toNat < us.length) : UsedInv f (P ++ [b]) (us.set b.toNat (us[b.toNat] + 1)) := by
  obtain ⟨k1, k2, k3⟩ := k
  have hb' := inR_iff.1 hb
  refine ⟨by simp [k1], fun q hq hu => ?_, fun hu => ?_⟩
  · simp only [List.length_set] at hu
    rw [List.getElem_set]
    by_cases e : b.toNat = q
    · have e2 : (q : Int) = b := by omega
      subst e
      simp only [if_true, List.count_append]
      rw [k2 b.toNat hq hu, e2]
      simp
    · have e2 : ¬ (b = (q : Int)) := by omega
      simp only [e, if_false, k2 q hq hu, List.count_append]
      have : List.count (q : Int) [b] = 0 := by simp [List.count_cons, e2]
      rw [this]; simp
  · simp only [List.length_set] at hu
    rw [List.getElem_set, if_neg (by omega), k3 hu, List.countP_append]
    simp [hb]
theorem UsedInv.out {f : Fs} {P us : List Int} (k : UsedInv f P us) {b : Int} (hb : inR b 0 (f.data.length - 1) = false) (hlt : f.data.length < us.length) : UsedInv f (P ++ [b]) (us.set f.data.length (us[f.data.length] + 1)) := by
  obtain ⟨k1, k2, k3⟩ := k
  have hb' : ¬ (0 ≤ b ∧ b ≤ f.data.length - 1) := fun h => by rw [inR_iff.2 h] at hb; cases hb
  refine ⟨by simp [k1], fun q hq hu => ?_, fun hu => ?_⟩
  · simp only [List.length_set] at hu
    have e2 : ¬ (b = (q : Int)) := by omega
    rw [List.getElem_set, if_neg (by omega), k2 q hq hu, List.count_append]
    have : List.count (q : Int) [b] = 0 := by simp [List.count_cons, e2]
    rw [this]; simp
  · rw [List.getElem_set, if_pos rfl, k3 hlt, List.countP_append]
    simp [hb]
theorem UsedInv.done {f : Fs} {us : List Int} (k : UsedInv f (held f.nodes) us) (h0 : ∀ b ∈ held f.nodes, 0 ≤ b) (hlt : f.data.length < us.length) :
    OwnOk f ↔ (us[f.data.length] = 0 ∧ ∀ (q : Nat) (hq : q < f.data.length) (hu : q < us.length), us[q] ≤ 1) := by
  obtain ⟨k1, k2, k3⟩ := k
  have hall : us[f.data.length] = 0 ↔ ∀ b ∈ held f.nodes, 0 ≤ b ∧ b < f.data.length := by
    rw [k3 hlt]
    constructor
    · intro h b hb
      have : List.countP (fun b => !(inR b 0 (f.data.length - 1))) (held f.nodes) = 0 := by omega
      rw [List.countP_eq_zero] at this
      have := this b hb
      simp at this
      have := inR_iff.1 this
      omega
    · intro h
      have : List.countP (fun b => !(inR b 0 (f.data.length - 1))) (held f.nodes) = 0 := by
        rw [List.countP_eq_zero]
        intro b hb
        have := h b hb
        have : inR b 0 (f.data.length - 1) = true := inR_iff.2 ⟨by omega, by omega⟩
        simp [this]
      omega
  constructor
  · rintro ⟨h1, h2⟩
    refine ⟨hall.2 h1, fun q hq hu => ?_⟩
    rw [k2 q hq hu]
    have := (nodup_count _).1 h2 (q : Int)
    omega
  · rintro ⟨h1, h2⟩
    have h3 := hall.1 h1
    refine ⟨h3, (nodup_count _).2 fun b => ?_⟩
    by_cases hb : b ∈ held f.nodes
    · have := h3 b hb
      have hq : b.toNat < f.data.length := by omega
      have h4 := h2 b.toNat hq (by omega)
      rw [k2 b.toNat hq (by omega)] at h4
      have e : ((b.toNat : Nat) : Int) = b := by omega
      rw [e] at h4
      omega
    · rw [List.count_eq_zero.2 hb]; omega
end Go.Proofs.Ytidkkmkihifeoaa.Hz
