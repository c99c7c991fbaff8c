/- Texts of the calculus and of the program's functions, merged: QG QH QJ QK QL. -/
import Derived.Test.YtkphpalagceobaaGreatHyHF
import Derived.Test.YtkphpalagceobaaGreatHyGI
import Derived.Test.YtkphpalagceobaaGreatHyQI
import Derived.Test.YtkphpalagceobaaGreatHyHA
/- Holders and Winner: both programs. -/
namespace Go.Proofs.YtkphpalagceobaaGreat.Hz
open Go.RowKit
set_option linter.unusedVariables false
set_option linter.unusedSimpArgs false
set_option maxRecDepth 20000

noncomputable def walkI (bs : List Branch) (p : Str) (i : Nat) : Int := match bs[i]? with | some b => walk b.fs p | none => -1
noncomputable def genI (bs : List Branch) (p : Str) (i : Nat) : Int := match bs[i]? with | some b => genAt b.fs p | none => -1
/-- The branches below k that hold the path. -/
noncomputable def holdTo (bs : List Branch) (p : Str) (k : Nat) : List Nat := (List.range k).filter fun i => decide (0 ≤ walkI bs p i)
section
variable (x : Pool) (b : Option Addr) (F : List Nat) (w : Bool) (tBranch tNode : TypeId) (h : Hp) (k1 : slR w tBranch (branchE w tNode) h x.branches b F) (hl : x.nl ≤ 1048576) (p : Str) (hps : p.length ≤ 1048576)
include k1 hl hps
end
end Go.Proofs.YtkphpalagceobaaGreat.Hz
/- Winner: both programs; Holders of the reference. -/
namespace Go.Proofs.YtkphpalagceobaaGreat.Hz
open Go.RowKit
set_option linter.unusedVariables false
set_option linter.unusedSimpArgs false
set_option maxRecDepth 20000

noncomputable def pickW (bs : List Branch) (p : Str) : List Nat → Int → Int
  | [], b => b
  | k :: ks, b => pickW bs p ks (if b < 0 ∨ genI bs p b.toNat < genI bs p k then (k : Int) else b)
noncomputable def winner (x : Pool) (p : Str) : Int := if poolOk x then pickW x.branches p (holdTo x.branches p x.branches.length) (-1) else -1
section
variable (x : Pool) (b : Option Addr) (F : List Nat) (w : Bool) (tBranch tNode : TypeId) (h : Hp) (k1 : slR w tBranch (branchE w tNode) h x.branches b F) (hl : x.nl ≤ 1048576) (p : Str) (hps : p.length ≤ 1048576)
include k1 hl hps
end
end Go.Proofs.YtkphpalagceobaaGreat.Hz
/- The tree of a pool. No program in sight. -/
namespace Go.Proofs.YtkphpalagceobaaGreat.Hz
open Go.RowKit
set_option linter.unusedVariables false
set_option linter.unusedSimpArgs false

/-! ### The winner -/
def Wins (g : Nat → Int) (ks : List Nat) (j : Nat) : Prop := j ∈ ks ∧ ∀ m ∈ ks, (m < j → g m < g j) ∧ (j < m → g m ≤ g j)
theorem Wins.le {g : Nat → Int} {ks : List Nat} {j : Nat} (w : Wins g ks j) {m : Nat} (hm : m ∈ ks) : g m ≤ g j := by
  have := w.2 m hm
  rcases Nat.lt_trichotomy m j with h | h | h
  · have := this.1 h; omega
  · rw [h]; exact Int.le_refl _
  · exact this.2 h
theorem Wins.only {g : Nat → Int} {ks : List Nat} {i j : Nat} (a : Wins g ks i) (b : Wins g ks j) : i = j := by
  rcases Nat.lt_trichotomy i j with h | h | h
  · have h1 := (b.2 i a.1).1 h; have h2 := (a.2 j b.1).2 h; omega
  · exact h
  · have h1 := (a.2 j b.1).1 h; have h2 := (b.2 i a.1).2 h; omega
noncomputable def win (bs : List Branch) (p : Str) : Int := pickW bs p (holdTo bs p bs.length) (-1)
/-! ### The items of the pool, as the program gathers them -/
noncomputable def gen2 (bs : List Branch) (z : Nat × Item) : Int := genI bs z.2.path z.1
noncomputable def insQ (bs : List Branch) (z : Nat × Item) : List (Nat × Item) → List (Nat × Item)
  | [] => [z]
  | y :: r => if y.2.path = z.2.path then (if gen2 bs y < gen2 bs z then z :: r else y :: r) else y :: insQ bs z r
theorem insQ_none {bs : List Branch} {z : Nat × Item} : ∀ {L : List (Nat × Item)}, (∀ y ∈ L, y.2.path ≠ z.2.path) → insQ bs z L = L ++ [z]
  | [], _ => rfl
  | y :: r, h => by
    unfold insQ
    rw [if_neg (h y (by simp)), insQ_none fun q hq => h q (by simp [hq])]
    rfl
theorem insQ_some {bs : List Branch} {z : Nat × Item} : ∀ {L : List (Nat × Item)} {i : Nat} (hi : i < L.length), (∀ m (hm : m < i), L[m].2.path ≠ z.2.path) → L[i].2.path = z.2.path → insQ bs z L = if gen2 bs L[i] < gen2 bs z then L.set i z else L
  | [], i, hi, _, _ => by simp at hi
  | y :: r, 0, _, _, h => by
    simp only [List.getElem_cons_zero] at h
    unfold insQ
    rw [if_pos h]
    simp
  | y :: r, i + 1, hi, hn, h => by
    have h0 := hn 0 (by omega)
    simp only [List.getElem_cons_zero] at h0
    unfold insQ
    rw [if_neg h0, insQ_some (i := i) (by simpa using hi) (fun m hm => by have := hn (m + 1) (by omega); simpa using this) (by simpa using h)]
    simp only [List.getElem_cons_succ, List.set_cons_succ]
    split <;> rfl
def beats (bs : List Branch) (y z : Nat × Item) : Prop := (z.1 < y.1 → gen2 bs z < gen2 bs y) ∧ (y.1 < z.1 → gen2 bs z ≤ gen2 bs y)
structure InvQ (bs : List Branch) (P L : List (Nat × Item)) : Prop where
  dis : L.Pairwise fun a b => a.2.path ≠ b.2.path
  sub : ∀ y ∈ L, y ∈ P
  cov : ∀ z ∈ P, ∃ y ∈ L, y.2.path = z.2.path ∧ beats bs y z
theorem beats.le {bs : List Branch} {y z : Nat × Item} (b : beats bs y z) (hp : y.2.path = z.2.path) : gen2 bs z ≤ gen2 bs y := by
  rcases Nat.lt_trichotomy z.1 y.1 with h | h | h
  · have := b.1 h; omega
  · unfold gen2; rw [h, hp]; exact Int.le_refl _
  · exact b.2 h
theorem dis_eq {L : List (Nat × Item)} (h : L.Pairwise fun a b => a.2.path ≠ b.2.path) {a b : Nat × Item} (ha : a ∈ L) (hb : b ∈ L) (e : a.2.path = b.2.path) : a = b := by
  rcases List.mem_iff_getElem.1 ha with ⟨i, hi, ei⟩
  rcases List.mem_iff_getElem.1 hb with ⟨j, hj, ej⟩
  rcases Nat.lt_trichotomy i j with h1 | h1 | h1
  · exact absurd e (by rw [← ei, ← ej]; exact List.pairwise_iff_getElem.1 h i j hi hj h1)
  · subst h1; rw [← ei, ← ej]
  · exact absurd e.symm (by rw [← ei, ← ej]; exact List.pairwise_iff_getElem.1 h j i hj hi h1)
theorem InvQ.step {bs : List Branch} {P L : List (Nat × Item)} (k : InvQ bs P L) (z : Nat × Item) (hP : ∀ y ∈ P, y.1 ≤ z.1 ∧ (y.1 = z.1 → y.2.path ≠ z.2.path)) : InvQ bs (P ++ [z]) (insQ bs z L) := by
  by_cases hn : ∀ y ∈ L, y.2.path ≠ z.2.path
  · rw [insQ_none hn]
    refine ⟨?_, ?_, ?_⟩
    · rw [List.pairwise_append]
      exact ⟨k.dis, by simp, fun a ha b hb => by
        have : b = z := by simpa using hb
        rw [this]; exact hn a ha⟩
    · intro y hy
      rcases List.mem_append.1 hy with hy | hy
      · exact List.mem_append.2 (.inl (k.sub y hy))
      · exact List.mem_append.2 (.inr hy)
    · intro q hq
      rcases List.mem_append.1 hq with hq | hq
      · obtain ⟨y, hy, h1, h2⟩ := k.cov q hq
        exact ⟨y, List.mem_append.2 (.inl hy), h1, h2⟩
      · have : q = z := by simpa using hq
        subst this
        exact ⟨q, by simp, rfl, fun h => by omega, fun h => by omega⟩
  · obtain ⟨y, hy, hp⟩ : ∃ y ∈ L, y.2.path = z.2.path := by
      by_cases h : ∃ y ∈ L, y.2.path = z.2.path
      · exact h
      · exact absurd (fun y hy hp => h ⟨y, hy, hp⟩) hn
    obtain ⟨i, hi, ei⟩ := List.mem_iff_getElem.1 hy
    have hdi : ∀ m (hm : m < L.length), m ≠ i → L[m].2.path ≠ z.2.path := fun m hm hne e => by
      rw [← hp, ← ei] at e
      rcases Nat.lt_or_gt_of_ne hne with h1 | h1
      · exact List.pairwise_iff_getElem.1 k.dis m i hm hi h1 e
      · exact List.pairwise_iff_getElem.1 k.dis i m hi hm h1 e.symm
    have hyP := hP y (k.sub y hy)
    have hlt : y.1 < z.1 := by
      rcases Nat.lt_or_ge y.1 z.1 with h | h
      · exact h
      · exact absurd hp (hyP.2 (by omega))
    rw [insQ_some hi (fun m hm => hdi m (by omega) (by omega)) (by rw [ei]; exact hp), ei]
    by_cases hg : gen2 bs y < gen2 bs z
    · rw [if_pos hg]
      have hmem : ∀ q, q ∈ L.set i z → q = z ∨ (q ∈ L ∧ q.2.path ≠ z.2.path) := fun q hq => by
        obtain ⟨m, hm, em⟩ := List.mem_iff_getElem.1 hq
        rw [List.getElem_set] at em
        rw [List.length_set] at hm
        split at em
        · exact .inl em.symm
        · rename_i hne
          exact .inr ⟨em ▸ List.getElem_mem hm, em ▸ hdi m hm (fun e => hne e.symm)⟩
      refine ⟨?_, ?_, ?_⟩
      · rw [List.pairwise_iff_getElem]
        intro a b ha hb hab
        rw [List.length_set] at ha hb
        rw [List.getElem_set, List.getElem_set]
        split
        · rename_i e
          subst e
          rw [if_neg (by omega)]
          exact fun e => hdi b hb (by omega) e.symm
        · split
          · rename_i hne e
            subst e
            exact hdi a ha (by omega)
          · exact List.pairwise_iff_getElem.1 k.dis a b ha hb hab
      · intro q hq
        rcases hmem q hq with rfl | ⟨h1, _⟩
        · simp
        · exact List.mem_append.2 (.inl (k.sub q h1))
      · intro q hq
        have hz : z ∈ L.set i z := List.mem_set hi z
        by_cases hpq : q.2.path = z.2.path
        · refine ⟨z, hz, hpq.symm, fun h => ?_, fun h => ?_⟩
          · rcases List.mem_append.1 hq with hq | hq
            · obtain ⟨y', hy', h1, h2⟩ := k.cov q hq
              have : y' = y := dis_eq k.dis hy' hy (by rw [h1, hpq, hp])
              subst this
              have := h2.le h1
              omega
            · have : q = z := by simpa using hq
              subst this; omega
          · rcases List.mem_append.1 hq with hq | hq
            · have := (hP q hq).1; omega
            · have : q = z := by simpa using hq
              subst this; omega
        · rcases List.mem_append.1 hq with hq | hq
          · obtain ⟨y', hy', h1, h2⟩ := k.cov q hq
            obtain ⟨m, hm, em⟩ := List.mem_iff_getElem.1 hy'
            have hne : ¬ i = m := fun e => by
              subst e
              rw [ei] at em
              rw [← em, hp] at h1
              exact hpq h1.symm
            refine ⟨y', ?_, h1, h2⟩
            rw [List.mem_iff_getElem]
            exact ⟨m, by rw [List.length_set]; exact hm, by rw [List.getElem_set, if_neg hne]; exact em⟩
          · have : q = z := by simpa using hq
            exact absurd (by rw [this]) hpq
    · rw [if_neg hg]
      refine ⟨k.dis, fun q hq => List.mem_append.2 (.inl (k.sub q hq)), fun q hq => ?_⟩
      rcases List.mem_append.1 hq with hq | hq
      · exact k.cov q hq
      · have : q = z := by simpa using hq
        subst this
        exact ⟨y, hy, hp, fun h => by omega, fun _ => by omega⟩
end Go.Proofs.YtkphpalagceobaaGreat.Hz
/- The tree of a pool: the program's items are the reference's. No program in sight. -/
namespace Go.Proofs.YtkphpalagceobaaGreat.Hz
open Go.RowKit
set_option linter.unusedVariables false
set_option linter.unusedSimpArgs false

/-! ### The reference's -/
noncomputable def kept (bs : List Branch) (i : Nat) (t : List Item) : List Item := t.filter fun x => decide (win bs x.path = i)
/-! ### Both are one -/
end Go.Proofs.YtkphpalagceobaaGreat.Hz
/- PoolTree: the reference. -/
namespace Go.Proofs.YtkphpalagceobaaGreat.Hz
open Go.RowKit
set_option linter.unusedVariables false
set_option linter.unusedSimpArgs false
set_option maxRecDepth 20000

/-- The box gets another slice. -/
theorem AI.set {h H H' : Hp} {B : Nat} {acc acc' : List Item} {a a' : Option Addr} {G G' : List Nat} (k : AI h H B acc a G) (x : Ext H H') (s : slR true 37 itemE H' acc' a' G') (nd : G'.Nodup) (nw : ∀ q ∈ G', H.length ≤ q) :
    canSet H' B 0 1 = true ∧ AI h (setsAt H' B 0 [.slice a' acc'.length acc'.length]) B acc' a' G' ∧ ∀ q, q ≠ B → q < H.length → (setsAt H' B 0 [.slice a' acc'.length acc'.length])[q]? = H[q]? := by
  have hln := k.len
  have hlo := k.lo
  have g2 : H'[B]? = some ⟨true, true, 31, [.slice a acc.length acc.length]⟩ := by
    rw [x.2 _ hln]; exact k.ab
  have hne : ∀ q, q ≠ B → (setsAt H' B 0 [.slice a' acc'.length acc'.length])[q]? = H'[q]? := fun q hq => by rw [setsAt_get, if_neg (fun e => hq e.symm)]
  refine ⟨by simp [canSet, g2], ⟨⟨by rw [setsAt_len]; have := x.1; have := k.ext.1; omega, fun q hq => ?_⟩, k.lo, by rw [setsAt_len]; have := x.1; omega, ?_, s.frame fun q hq => hne q (by have := nw q hq; omega), nd, fun q hq => by have := nw q hq; omega⟩, fun q h1 h2 => by rw [hne q h1]; exact x.2 q h2⟩
  · rw [hne q (by omega), x.2 q (by have := k.ext.1; omega)]
    exact k.ext.2 q hq
  · rw [setsAt_get, if_pos rfl, g2]
    simp [setL]
theorem tree_plen {f : Fs} {x : Item} (hx : x ∈ treeItems f) : x.path.length ≤ 100 := by
  obtain ⟨ms, p1, -⟩ := tree_path hx
  rw [p1]
  exact pathOf_len ms
section
variable (x : Pool) (b : Option Addr) (F : List Nat) (w : Bool) (tBranch tNode : TypeId) (h : Hp) (k1 : slR w tBranch (branchE w tNode) h x.branches b F) (hl : x.nl ≤ 1048576)
include k1 hl
end
end Go.Proofs.YtkphpalagceobaaGreat.Hz
