/- What keeps the relation: memory that is left alone, stores, new objects. -/
import Derived.Test.YtidkkmkihifeoaaHzD
import Derived.Laws.BytesArg
namespace Go.Proofs.Ytidkkmkihifeoaa.Hz
open Go.RowKit
set_option linter.unusedVariables false
set_option linter.unusedSimpArgs false

section
variable {P : Program} {B : Nat} {w0 w w' : World} {φ : Inj} {h : Hp}

theorem cell_of {b : Nat} {cs : Array Value} {e : TypeId} {fr : Nat × Nat} (k : w.heap[b]? = some (.cells cs e fr)) (i : Nat) : w.cell? ⟨b, i, none⟩ = cs[i]? := by
  unfold World.cell?
  simp only [k, Option.isSome_none, Bool.false_eq_true, if_false]
theorem cell_same {b b' : Nat} (k : w'.heap[b]? = w.heap[b']?) (i : Nat) : w'.cell? ⟨b, i, none⟩ = w.cell? ⟨b', i, none⟩ := by
  unfold World.cell?
  simp only [k]
theorem setCell_same {b : Nat} {cs : Array Value} {e : TypeId} {fr : Nat × Nat} (k : w.heap[b]? = some (.cells cs e fr)) (i : Nat) (v : Value) : (w.setCell ⟨b, i, none⟩ v).heap[b]? = some (.cells (cs.setIfInBounds i v) e fr) := by
  simp [World.setCell, Array.getElem?_modify, k]
theorem frozen_no {b : Nat} {cs : Array Value} {e : TypeId} {fr : Nat × Nat} (k : w.heap[b]? = some (.cells cs e fr)) {i : Nat} (hf : ¬ (fr.1 ≤ i ∧ i < fr.2)) : w.frozen? ⟨b, i, none⟩ = false := by
  unfold World.frozen?
  simp only [k]
  simpa using hf
theorem cell_block {a : Addr} {v : Value} (k : w.cell? a = some v) : a.block < w.heap.size := World.block_lt_of_cell? w a k

theorem ObRel.step {ob : Ob} {p : Pl} (r : ObRel P B φ w ob p) (k : w'.heap[p.block]? = w.heap[p.block]?) : ObRel P B φ w' ob p where
  rw := r.rw
  ok := r.ok
  cell j v hj := by
    obtain ⟨v', h1, h2⟩ := r.cell j v hj
    exact ⟨v', by rw [cell_same k]; exact h1, h2⟩
  own ho := by
    obtain ⟨h1, h2, cs, fr, h3, h4⟩ := r.own ho
    exact ⟨h1, h2, cs, fr, by rw [k]; exact h3, h4⟩
  arg := r.arg
theorem ObRel.mono {ob : Ob} {p : Pl} {φ' : Inj} (hφ : φ <+: φ') (r : ObRel P B φ w ob p) : ObRel P B φ' w ob p where
  rw := r.rw
  ok := r.ok
  cell j v hj := by
    obtain ⟨v', h1, h2⟩ := r.cell j v hj
    exact ⟨v', h1, h2.mono hφ⟩
  own := r.own
  arg := r.arg
theorem ObRel.stepR {ob : Ob} {p : Pl} (r : ObRel P B φ w ob p) (hr : ob.rw = false) (hb : Below B w w') : ObRel P B φ w' ob p := by
  rcases r.arg hr with h | h
  · exact r.step (hb.block _ h)
  · exact ⟨r.rw, r.ok, fun j v hj => (by rw [h] at hj; simp at hj), fun ho => (by rw [hr] at ho; cases ho), r.arg⟩
theorem ObRel.block_lt {ob : Ob} {p : Pl} (r : ObRel P B φ w ob p) (ho : ob.rw = true) : p.block < w.heap.size := by
  obtain ⟨_, _, cs, fr, h3, _⟩ := r.own ho
  exact (Array.getElem?_eq_some_iff.1 h3).1

/-- Memory in which nothing that is told has turned: but for one block that no living own object has. -/
theorem Rel.world (R : Rel P B w0 φ h w) (hb : Below B w w') (b : Nat) (hk : ∀ k, k ≠ b → k < w.heap.size → w'.heap[k]? = w.heap[k]?)
    (hd : ∀ (o : Nat) (ob : Ob) (p : Pl), h[o]? = some ob → φ[o]? = some p → ob.live = true → ob.rw = true → p.block ≠ b) : Rel P B w0 φ h w' where
  below := R.below.trans hb
  base := R.base
  len := R.len
  esz := R.esz
  obj o ob p ho hp hl := by
    have r := R.obj o ob p ho hp hl
    cases hr : ob.rw with
    | true => exact r.step (hk _ (hd o ob p ho hp hl hr) (r.block_lt hr))
    | false => exact r.stepR hr hb
  apart := R.apart
theorem Rel.grow (R : Rel P B w0 φ h w) (hb : Below w.heap.size w w') : Rel P B w0 φ h w' := by
  have hB : B ≤ w.heap.size := Nat.le_trans R.base R.below.size
  refine R.world (hb.mono hB) w.heap.size (fun k _ hk => hb.block k hk) fun o ob p ho hp hl hr => ?_
  have := (R.obj o ob p ho hp hl).block_lt hr
  omega
theorem Rel.drew (R : Rel P B w0 φ h w) (n : Nat) : Rel P B w0 φ h { w with drawn := n } :=
  R.grow ⟨rfl, rfl, rfl, Nat.le_refl _, fun _ _ => rfl⟩

theorem Rel.adopt (R : Rel P B w0 φ h w) (ob : Ob) (p : Pl) (hz : szOf P ob.elem = some p.esz) (r : ObRel P B φ w ob p)
    (hd : ∀ (o : Nat) (ob' : Ob) (p' : Pl), h[o]? = some ob' → φ[o]? = some p' → ob'.live = true → ob'.rw = true → p'.block ≠ p.block) : Rel P B w0 (φ ++ [p]) (h ++ [ob]) w where
  below := R.below
  base := R.base
  len := by simp [R.len]
  esz o ob' p' ho hp := by
    by_cases hlt : o < h.length
    · rw [List.getElem?_append_left hlt] at ho
      rw [List.getElem?_append_left (by rw [R.len]; exact hlt)] at hp
      exact R.esz o ob' p' ho hp
    · have h1 : o = h.length := by
        have := (List.getElem?_eq_some_iff.1 ho).1
        simp at this; omega
      subst h1
      rw [List.getElem?_append_right (Nat.le_refl _)] at ho
      rw [List.getElem?_append_right (by rw [R.len]; exact Nat.le_refl _)] at hp
      simp [R.len] at ho hp
      subst ho; subst hp; exact hz
  obj o ob' p' ho hp hl := by
    by_cases hlt : o < h.length
    · rw [List.getElem?_append_left hlt] at ho
      rw [List.getElem?_append_left (by rw [R.len]; exact hlt)] at hp
      exact (R.obj o ob' p' ho hp hl).mono (List.prefix_append _ _)
    · have h1 : o = h.length := by
        have := (List.getElem?_eq_some_iff.1 ho).1
        simp at this; omega
      subst h1
      rw [List.getElem?_append_right (Nat.le_refl _)] at ho
      rw [List.getElem?_append_right (by rw [R.len]; exact Nat.le_refl _)] at hp
      simp [R.len] at ho hp
      subst ho; subst hp; exact r.mono (List.prefix_append _ _)
  apart o o' ob1 ob2 p1 p2 ho ho' hp hp' hl hl' hr hr' hne := by
    have key : ∀ (o : Nat) (ob' : Ob) (p' : Pl), (h ++ [ob])[o]? = some ob' → (φ ++ [p])[o]? = some p' → (o < h.length ∧ h[o]? = some ob' ∧ φ[o]? = some p') ∨ (o = h.length ∧ ob' = ob ∧ p' = p) := by
      intro o ob' p' ho hp
      by_cases hlt : o < h.length
      · rw [List.getElem?_append_left hlt] at ho
        rw [List.getElem?_append_left (by rw [R.len]; exact hlt)] at hp
        exact .inl ⟨hlt, ho, hp⟩
      · have h1 : o = h.length := by
          have := (List.getElem?_eq_some_iff.1 ho).1
          simp at this; omega
        subst h1
        rw [List.getElem?_append_right (Nat.le_refl _)] at ho
        rw [List.getElem?_append_right (by rw [R.len]; exact Nat.le_refl _)] at hp
        simp [R.len] at ho hp
        exact .inr ⟨rfl, ho.symm, hp.symm⟩
    rcases key o ob1 p1 ho hp with ⟨_, a1, b1⟩ | ⟨e1, rfl, rfl⟩ <;> rcases key o' ob2 p2 ho' hp' with ⟨_, a2, b2⟩ | ⟨e2, rfl, rfl⟩
    · exact R.apart o o' ob1 ob2 p1 p2 a1 a2 b1 b2 hl hl' hr hr' hne
    · exact hd o ob1 p1 a1 b1 hl hr
    · exact (hd o' ob2 p2 a2 b2 hl' hr').symm
    · omega

/-- A new block becomes an object. -/
theorem Rel.new (R : Rel P B w0 φ h w) {e : TypeId} {esz : Nat} {cells : List Value} {cs : Array Value} {fr : Nat × Nat} (hb : Below w.heap.size w w') (hz : szOf P e = some esz)
    (hk : w'.heap[w.heap.size]? = some (.cells cs e fr)) (hf : ∀ i, i < cs.size → ¬ (fr.1 ≤ i ∧ i < fr.2)) {rest : List Value} (hok : cells.all okCell = true) (hc : ∃ l, cs.toList = l ++ rest ∧ All2 (RelC φ) cells l) :
    Rel P B w0 (φ ++ [⟨w.heap.size, 0, cs.size, esz, true⟩]) (h ++ [⟨true, true, e, cells⟩]) w' := by
  have hB : B ≤ w.heap.size := Nat.le_trans R.base R.below.size
  obtain ⟨l, hl, ha⟩ := hc
  have hlen : cells.length ≤ cs.size := by
    have h1 := ha.length
    have h2 := congrArg List.length hl
    simp at h2; omega
  refine (R.grow hb).adopt ⟨true, true, e, cells⟩ ⟨w.heap.size, 0, cs.size, esz, true⟩ hz ⟨rfl, hok, fun j v hj => ?_, fun _ => ⟨hB, by simpa using hlen, cs, fr, hk, rfl, hf⟩, fun hh => by cases hh⟩ fun o ob p ho hp hlv hrw => ?_
  · obtain ⟨v', h1, h2⟩ := ha.get j v hj
    refine ⟨v', ?_, h2⟩
    rw [cell_of hk]
    have hj' : j < l.length := (List.getElem?_eq_some_iff.1 h1).1
    have : cs.toList[j]? = some v' := by rw [hl, List.getElem?_append_left hj']; exact h1
    simpa using this
  · have := (R.obj o ob p ho hp hlv).block_lt hrw
    show p.block ≠ w.heap.size
    omega

theorem getElem?_modify' {α : Type} (l : List α) (f : α → α) (i j : Nat) : (l.modify i f)[j]? = if i = j then (l[j]?).map f else l[j]? := by
  rw [List.getElem?_modify]
  split <;> cases l[j]? <;> simp_all

theorem Rel.kill (R : Rel P B w0 φ h w) (o : Nat) : Rel P B w0 φ (Hz.kill h o) w where
  below := R.below
  base := R.base
  len := by simp [Hz.kill, R.len]
  esz o' ob p ho hp := by
    simp only [Hz.kill, getElem?_modify'] at ho
    split at ho
    · simp only [Option.map_eq_some_iff] at ho
      obtain ⟨ob', h1, rfl⟩ := ho
      exact R.esz o' ob' p h1 hp
    · exact R.esz o' ob p ho hp
  obj o' ob p ho hp hl := by
    simp only [Hz.kill, getElem?_modify'] at ho
    split at ho
    · simp only [Option.map_eq_some_iff] at ho
      obtain ⟨ob', h1, rfl⟩ := ho
      cases hl
    · exact R.obj o' ob p ho hp hl
  apart o1 o2 ob1 ob2 p1 p2 ho1 ho2 hp1 hp2 hl1 hl2 hr1 hr2 hne := by
    simp only [Hz.kill, getElem?_modify'] at ho1 ho2
    split at ho1
    · simp only [Option.map_eq_some_iff] at ho1
      obtain ⟨ob', h1, rfl⟩ := ho1
      cases hl1
    · split at ho2
      · simp only [Option.map_eq_some_iff] at ho2
        obtain ⟨ob', h1, rfl⟩ := ho2
        cases hl2
      · exact R.apart o1 o2 ob1 ob2 p1 p2 ho1 ho2 hp1 hp2 hl1 hl2 hr1 hr2 hne

theorem canSet_some {o i n : Nat} (e : canSet h o i n = true) : ∃ ob, h[o]? = some ob ∧ ob.live = true ∧ ob.rw = true ∧ i + n ≤ ob.cells.length := by
  unfold canSet at e
  split at e
  · rename_i ob ho
    simp only [Bool.and_eq_true, decide_eq_true_eq] at e
    exact ⟨ob, ho, e.1.1, e.1.2, e.2⟩
  · cases e

theorem all_set {l : List Value} {i : Nat} {v : Value} (h : l.all okCell = true) (hv : okCell v = true) : (l.set i v).all okCell = true := by
  rw [List.all_eq_true] at h ⊢
  intro x hx
  rcases List.mem_or_eq_of_mem_set hx with hx | rfl
  · exact h x hx
  · exact hv
theorem Rel.set (R : Rel P B w0 φ h w) {o i : Nat} {p : Pl} {v v' : Value} (hp : φ[o]? = some p) (hc : canSet h o i 1 = true) (rv : RelC φ v v') (hv : okCell v = true) :
    Rel P B w0 φ (setAt h o i v) (w.setCell ⟨p.block, p.off + i, none⟩ v') := by
  obtain ⟨ob, ho, hl, hr, hi⟩ := canSet_some hc
  have r := R.obj o ob p ho hp hl
  obtain ⟨hB, hsz, cs, fr, hk, hcs, hf⟩ := r.own hr
  have hlt : p.block < w.heap.size := (Array.getElem?_eq_some_iff.1 hk).1
  have hbelow : Below B w (w.setCell ⟨p.block, p.off + i, none⟩ v') := (Below.refl B w).setCell hB v'
  have hsame : (w.setCell ⟨p.block, p.off + i, none⟩ v').heap[p.block]? = some (.cells (cs.setIfInBounds (p.off + i) v') ob.elem fr) := setCell_same hk _ _
  refine ⟨R.below.trans hbelow, R.base, by simp [setAt, R.len], fun o' ob' p' ho' hp' => ?_, fun o' ob' p' ho' hp' hl' => ?_, fun o1 o2 ob1 ob2 p1 p2 ho1 ho2 hp1 hp2 hl1 hl2 hr1 hr2 hne => ?_⟩
  · simp only [setAt, getElem?_modify'] at ho'
    split at ho'
    · simp only [Option.map_eq_some_iff] at ho'
      obtain ⟨ob2, h1, rfl⟩ := ho'
      exact R.esz o' ob2 p' h1 hp'
    · exact R.esz o' ob' p' ho' hp'
  · simp only [setAt, getElem?_modify'] at ho'
    split at ho'
    · rename_i he
      subst he
      rw [ho] at ho'
      rw [hp] at hp'
      injection hp' with hp'
      subst hp'
      injection ho' with ho'
      subst ho'
      refine ⟨r.rw, all_set r.ok hv, fun j u hj => ?_, fun _ => ⟨hB, by simpa using hsz, _, fr, hsame, by simpa using hcs, hf⟩, fun hh => by simp [hr] at hh⟩
      rw [cell_of hsame]
      by_cases hij : i = j
      · subst hij
        have : u = v := by
          rw [List.getElem?_set_self (by omega)] at hj
          injection hj with hj; exact hj.symm
        subst this
        refine ⟨v', ?_, rv⟩
        rw [Array.getElem?_setIfInBounds_self_of_lt (by omega)]
      · rw [List.getElem?_set_ne hij] at hj
        obtain ⟨u', h1, h2⟩ := r.cell j u hj
        refine ⟨u', ?_, h2⟩
        rw [Array.getElem?_setIfInBounds_ne (by omega)]
        rw [cell_of hk] at h1
        exact h1
    · rename_i hne
      have r' := R.obj o' ob' p' ho' hp' hl'
      cases hr' : ob'.rw with
      | true => exact r'.step (Below.heap_setCell w _ v' _ (R.apart o' o ob' ob p' p ho' ho hp' hp hl' hl hr' hr (Ne.symm hne)))
      | false => exact r'.stepR hr' hbelow
  · have key : ∀ (o' : Nat) (ob' : Ob), (setAt h o i v)[o']? = some ob' → ∃ ob2, h[o']? = some ob2 ∧ ob2.live = ob'.live ∧ ob2.rw = ob'.rw := by
      intro o' ob' ho'
      simp only [setAt, getElem?_modify'] at ho'
      split at ho'
      · simp only [Option.map_eq_some_iff] at ho'
        obtain ⟨ob2, h1, rfl⟩ := ho'
        exact ⟨ob2, h1, rfl, rfl⟩
      · exact ⟨ob', ho', rfl, rfl⟩
    obtain ⟨a1, b1, c1, d1⟩ := key o1 ob1 ho1
    obtain ⟨a2, b2, c2, d2⟩ := key o2 ob2 ho2
    exact R.apart o1 o2 a1 a2 p1 p2 b1 b2 hp1 hp2 (c1.trans hl1) (c2.trans hl2) (d1.trans hr1) (d2.trans hr2) hne

def wset (w : World) (b i : Nat) : List Value → World
  | [] => w
  | v :: vs => wset (w.setCell ⟨b, i, none⟩ v) b (i + 1) vs
theorem canSet_setAt {o i j n : Nat} {v : Value} (e : canSet h o j n = true) : canSet (setAt h o i v) o j n = true := by
  obtain ⟨ob, ho, hl, hr, hi⟩ := canSet_some e
  unfold canSet
  simp only [setAt, getElem?_modify', if_true, ho, Option.map_some]
  simp [hl, hr, hi]
theorem Rel.sets {p : Pl} {o : Nat} (hp : φ[o]? = some p) : ∀ (vs vs' : List Value) (i : Nat) (h : Hp) (w : World), Rel P B w0 φ h w → canSet h o i vs.length = true → All2 (RelC φ) vs vs' → vs.all okCell = true → Rel P B w0 φ (setsAt h o i vs) (wset w p.block (p.off + i) vs')
  | [], [], _, _, _, R, _, _, _ => R
  | v :: vs, v' :: vs', i, h, w, R, hc, ha, hv => by
    simp only [List.all_cons, Bool.and_eq_true] at hv
    obtain ⟨ob, ho, hl, hr, hi⟩ := canSet_some hc
    simp only [List.length_cons] at hi
    have h1 : canSet h o i 1 = true := by unfold canSet; simp [ho, hl, hr]; omega
    have h2 : canSet h o (i + 1) vs.length = true := by unfold canSet; simp [ho, hl, hr]; omega
    exact Rel.sets hp vs vs' (i + 1) _ _ (R.set hp h1 ha.1 hv.1) (canSet_setAt h2) ha.2 hv.2
  | [], _ :: _, _, _, _, _, _, ha, _ => ha.elim
  | _ :: _, [], _, _, _, _, _, ha, _ => ha.elim

theorem run_stores : ∀ {vs : List Value} (i b o : Nat) {w : World} {cs : Array Value} {e : TypeId} {fr : Nat × Nat}, w.heap[b]? = some (.cells cs e fr) → (∀ j, j < cs.size → ¬ (fr.1 ≤ j ∧ j < fr.2)) → o + i + vs.length ≤ cs.size → (∀ v ∈ vs, v.oneCell' = true) →
    (storeCells ⟨b, o, none⟩ vs i).run P w = .ok () (wset w b (o + i) vs)
  | [], _, _, _, _, _, _, _, _, _, _, _ => rfl
  | v :: vs, i, b, o, w, cs, e, fr, hk, hf, hl, hv => by
    simp only [List.length_cons] at hl
    have hc : ∃ u, w.cell? ⟨b, o + i, none⟩ = some u := by
      rw [cell_of hk]
      exact ⟨cs[o + i], Array.getElem?_eq_getElem (by omega)⟩
    obtain ⟨u, hu⟩ := hc
    have hfz := frozen_no hk (hf (o + i) (by omega))
    simp only [storeCells, Sem.run_bind, addr_add, run_store P w _ v _ (hv v (by simp)), hu, hfz, Bool.false_eq_true, if_false, Result.andThen_ok]
    exact run_stores (i + 1) b o (setCell_same hk (o + i) v) (by simpa using hf) (by simp; omega) (fun x hx => hv x (by simp [hx]))
theorem wset_heap : ∀ {vs : List Value} (i b : Nat) {w : World} {cs : Array Value} {e : TypeId} {fr : Nat × Nat}, w.heap[b]? = some (.cells cs e fr) → ∃ cs', (wset w b i vs).heap[b]? = some (.cells cs' e fr) ∧ cs'.toList = setL cs.toList i vs
  | [], _, _, _, _, _, _, hk => ⟨_, hk, rfl⟩
  | v :: vs, i, b, w, cs, e, fr, hk => by
    obtain ⟨cs', h1, h2⟩ := wset_heap (vs := vs) (i + 1) b (setCell_same hk i v)
    exact ⟨cs', h1, by rw [h2]; simp [setL]⟩
theorem wset_below {b : Nat} (hB : B ≤ b) : ∀ {vs : List Value} (i : Nat) {w : World}, Below B w (wset w b i vs)
  | [], _, _ => Below.refl _ _
  | v :: _, i, w => ((Below.refl B w).setCell (p := ⟨b, i, none⟩) hB v).trans (wset_below hB (i + 1))
theorem wset_other {b k : Nat} (hk : k ≠ b) : ∀ {vs : List Value} (i : Nat) {w : World}, (wset w b i vs).heap[k]? = w.heap[k]?
  | [], _, _ => rfl
  | v :: _, i, w => (wset_other hk (i + 1)).trans (Below.heap_setCell w ⟨b, i, none⟩ v k hk)
end
end Go.Proofs.Ytidkkmkihifeoaa.Hz
