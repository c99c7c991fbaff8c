/- How the plain heap stands to the machine's memory: a placing of objects, related values, and what keeps the relation. -/
import Derived.Test.YtidkkmkihifeoaaHzA
namespace Go.Proofs.Ytidkkmkihifeoaa.Hz
open Go.RowKit
set_option linter.unusedVariables false
set_option linter.unusedSimpArgs false

def All2 {α β : Type} (R : α → β → Prop) : List α → List β → Prop
  | [], [] => True
  | a :: as, b :: bs => R a b ∧ All2 R as bs
  | _, _ => False
namespace All2
variable {α β : Type} {R S : α → β → Prop}
theorem length : ∀ {as : List α} {bs : List β}, All2 R as bs → as.length = bs.length
  | [], [], _ => rfl
  | _ :: _, _ :: _, h => by simp [length h.2]
  | [], _ :: _, h => h.elim
  | _ :: _, [], h => h.elim
theorem mono (f : ∀ a b, R a b → S a b) : ∀ {as : List α} {bs : List β}, All2 R as bs → All2 S as bs
  | [], [], _ => trivial
  | _ :: _, _ :: _, h => ⟨f _ _ h.1, mono f h.2⟩
  | [], _ :: _, h => h.elim
  | _ :: _, [], h => h.elim
theorem get : ∀ {as : List α} {bs : List β} (_ : All2 R as bs) (i : Nat) (a : α), as[i]? = some a → ∃ b, bs[i]? = some b ∧ R a b
  | [], [], _, _, _, e => by simp at e
  | _ :: _, b :: _, h, 0, a, e => by simp at e; subst e; exact ⟨b, rfl, h.1⟩
  | _ :: as, _ :: bs, h, i + 1, a, e => by simpa using get h.2 i a (by simpa using e)
  | [], _ :: _, h, _, _, _ => h.elim
  | _ :: _, [], h, _, _, _ => h.elim
theorem set : ∀ {as : List α} {bs : List β} (_ : All2 R as bs) (i : Nat) {a : α} {b : β}, R a b → All2 R (as.set i a) (bs.set i b)
  | [], [], _, _, _, _, _ => trivial
  | _ :: _, _ :: _, h, 0, _, _, r => ⟨r, h.2⟩
  | _ :: _, _ :: _, h, i + 1, _, _, r => ⟨h.1, set h.2 i r⟩
  | [], _ :: _, h, _, _, _, _ => h.elim
  | _ :: _, [], h, _, _, _, _ => h.elim
theorem append : ∀ {as : List α} {bs : List β} {cs : List α} {ds : List β}, All2 R as bs → All2 R cs ds → All2 R (as ++ cs) (bs ++ ds)
  | [], [], _, _, _, h => h
  | _ :: _, _ :: _, _, _, h, k => ⟨h.1, append h.2 k⟩
  | [], _ :: _, _, _, h, _ => h.elim
  | _ :: _, [], _, _, h, _ => h.elim
theorem drop : ∀ {as : List α} {bs : List β} (_ : All2 R as bs) (n : Nat), All2 R (as.drop n) (bs.drop n)
  | [], [], _, n => by simp [All2]
  | _ :: _, _ :: _, h, 0 => h
  | _ :: _, _ :: _, h, n + 1 => drop h.2 n
  | [], _ :: _, h, _ => h.elim
  | _ :: _, [], h, _ => h.elim
theorem take : ∀ {as : List α} {bs : List β} (_ : All2 R as bs) (n : Nat), All2 R (as.take n) (bs.take n)
  | [], [], _, n => by simp [All2]
  | _ :: _, _ :: _, _, 0 => trivial
  | _ :: _, _ :: _, h, n + 1 => ⟨h.1, take h.2 n⟩
  | [], _ :: _, h, _ => h.elim
  | _ :: _, [], h, _ => h.elim
theorem refl {α : Type} {R : α → α → Prop} : ∀ {as : List α}, (∀ a ∈ as, R a a) → All2 R as as
  | [], _ => trivial
  | _ :: _, h => ⟨h _ (by simp), refl fun a ha => h a (by simp [ha])⟩
theorem of_map {γ δ : Type} {T : γ → δ → Prop} (f : α → γ) (g : β → δ) (k : ∀ a b, R a b → T (f a) (g b)) : ∀ {as : List α} {bs : List β}, All2 R as bs → All2 T (as.map f) (bs.map g)
  | [], [], _ => trivial
  | _ :: _, _ :: _, h => ⟨k _ _ h.1, of_map f g k h.2⟩
  | [], _ :: _, h => h.elim
  | _ :: _, [], h => h.elim
theorem map2 {γ : Type} {T : α → β → Prop} (f : γ → α) (g : γ → β) : ∀ {cs : List γ}, (∀ c ∈ cs, T (f c) (g c)) → All2 T (cs.map f) (cs.map g)
  | [], _ => trivial
  | _ :: _, h => ⟨h _ (by simp), map2 f g fun c hc => h c (by simp [hc])⟩
theorem nil_iff {bs : List β} : All2 R [] bs ↔ bs = [] := by cases bs <;> simp [All2]
theorem cons_iff {a : α} {as : List α} {bs : List β} : All2 R (a :: as) bs ↔ ∃ b bs', bs = b :: bs' ∧ R a b ∧ All2 R as bs' := by
  cases bs with
  | nil => simp [All2]
  | cons b bs =>
    constructor
    · rintro ⟨h, k⟩; exact ⟨b, bs, rfl, h, k⟩
    · rintro ⟨_, _, e, h, k⟩; injection e with e1 e2; subst e1; subst e2; exact ⟨h, k⟩
end All2

/-- Where an object lies: block, first cell, cells of the block, cells of an element, is it the call's own. -/
structure Pl where
  block : Nat
  off : Nat
  size : Nat
  esz : Nat
  rw : Bool
abbrev Inj := List Pl

def RelC0 (φ : Inj) (v v' : Value) : Prop :=
  match v with
  | .pointer (some a) => ∃ p, φ[a.block]? = some p ∧ a.spot = none ∧ v' = .pointer (some ⟨p.block, p.off + a.off, none⟩)
  | .slice (some a) n c => ∃ p c' a', φ[a.block]? = some p ∧ a.spot = none ∧ c ≤ c' ∧ n ≤ c' ∧ v' = .slice (some a') n c' ∧
      ((a' = ⟨p.block, p.off + a.off, none⟩ ∧ (p.rw = true → p.off + a.off + c' * p.esz ≤ p.size)) ∨ (n = 0 ∧ c' = 0))
  | .slice none n c => n = 0 ∧ c = 0 ∧ v' = .slice none 0 0
  | .chan _ => True
  | .agg _ | .tuple _ | .func _ _ _ | .map _ | .iface _ _ | .float _ _ | .complex _ _ _ => False
  | v => v' = v
def RelC (φ : Inj) (v v' : Value) : Prop :=
  match v with
  | .func (.func g) f cap => f = #[] ∧ ∃ cap', v' = .func (.func g) #[] cap' ∧ All2 (RelC0 φ) cap.toList cap'.toList
  | v => RelC0 φ v v'
def RelV1 (φ : Inj) (v v' : Value) : Prop :=
  match v with
  | .agg cs => ∃ cs', v' = .agg cs' ∧ All2 (RelC φ) cs.toList cs'.toList
  | v => RelC φ v v'
def RelV (φ : Inj) (v v' : Value) : Prop :=
  match v with
  | .tuple vs => ∃ vs', v' = .tuple vs' ∧ All2 (RelV1 φ) vs.toList vs'.toList
  | v => RelV1 φ v v'

theorem get_pre {φ φ' : Inj} (h : φ <+: φ') {o : Nat} {p : Pl} (e : φ[o]? = some p) : φ'[o]? = some p := by
  obtain ⟨t, rfl⟩ := h
  rw [List.getElem?_append_left (List.getElem?_eq_some_iff.1 e).1]
  exact e
theorem RelC0.mono {φ φ' : Inj} (h : φ <+: φ') {v v' : Value} (r : RelC0 φ v v') : RelC0 φ' v v' := by
  unfold RelC0 at *
  split at r
  · obtain ⟨p, e, s⟩ := r; exact ⟨p, get_pre h e, s⟩
  · obtain ⟨p, c', a', e, s⟩ := r; exact ⟨p, c', a', get_pre h e, s⟩
  all_goals first | exact r | trivial
theorem RelC.mono {φ φ' : Inj} (h : φ <+: φ') {v v' : Value} (r : RelC φ v v') : RelC φ' v v' := by
  unfold RelC at *
  split at r
  · obtain ⟨e, c, k, s⟩ := r; exact ⟨e, c, k, s.mono fun _ _ x => x.mono h⟩
  · exact RelC0.mono h r
theorem RelV1.mono {φ φ' : Inj} (h : φ <+: φ') {v v' : Value} (r : RelV1 φ v v') : RelV1 φ' v v' := by
  unfold RelV1 at *
  split at r
  · obtain ⟨c, k, s⟩ := r; exact ⟨c, k, s.mono fun _ _ x => x.mono h⟩
  · exact RelC.mono h r
theorem RelV.mono {φ φ' : Inj} (h : φ <+: φ') {v v' : Value} (r : RelV φ v v') : RelV φ' v v' := by
  unfold RelV at *
  split at r
  · obtain ⟨c, k, s⟩ := r; exact ⟨c, k, s.mono fun _ _ x => x.mono h⟩
  · exact RelV1.mono h r

theorem relC0_scal {φ : Inj} {v : Value} (h : scal v = true) : RelC0 φ v v := by
  unfold scal at h
  split at h <;> simp_all [RelC0]
theorem relC_scal {φ : Inj} {v : Value} (h : scal v = true) : RelC φ v v := by
  unfold RelC
  split
  · simp [scal] at h
  · exact relC0_scal h
theorem relV1_of {φ : Inj} {v v' : Value} (h : RelC φ v v') : RelV1 φ v v' := by
  unfold RelV1
  split
  · simp [RelC, RelC0] at h
  · exact h
theorem relV_of1 {φ : Inj} {v v' : Value} (h : RelV1 φ v v') : RelV φ v v' := by
  unfold RelV
  split
  · simp [RelV1, RelC, RelC0] at h
  · exact h
theorem relV_of {φ : Inj} {v v' : Value} (h : RelC φ v v') : RelV φ v v' := relV_of1 (relV1_of h)
theorem relV_junk (φ : Inj) (v' : Value) : RelV φ junk v' := relV_of (by simp [junk, RelC, RelC0])
theorem relV_undef (φ : Inj) : RelV φ undef undef := ⟨#[], rfl, trivial⟩
theorem relV_cst {φ : Inj} (v : Value) : RelV φ (cst v) v := by
  unfold cst
  split
  · rename_i cs
    split
    · rename_i h
      exact ⟨cs, rfl, All2.refl fun a ha => relC_scal (by simpa using (Array.all_eq_true_iff_forall_mem.1 h) a (by simpa using ha))⟩
    · exact relV_junk _ _
  · rename_i cs
    split
    · rename_i h
      obtain rfl : cs = #[] := by simpa using h
      exact relV_undef φ
    · exact relV_junk _ _
  · split
    · rename_i h
      exact relV_of (relC_scal h)
    · exact relV_junk _ _
/-- A value that may stand in a cell. -/
theorem relV_ok {φ : Inj} {v v' : Value} (h : RelV φ v v') (k : okCell v = true) : RelC φ v v' ∧ v'.cells = #[v'] ∧ v'.oneCell' = true := by
  have hv : RelC φ v v' := by
    cases v <;> first | exact h | simp [okCell] at k
  refine ⟨hv, ?_⟩
  cases v with
  | func fn f c => cases fn <;> simp [RelC, RelC0] at hv; obtain ⟨_, c', rfl, _⟩ := hv; exact ⟨rfl, rfl⟩
  | pointer a => cases a <;> simp [RelC, RelC0] at hv; (subst hv; exact ⟨rfl, rfl⟩); (obtain ⟨p, _, _, rfl⟩ := hv; exact ⟨rfl, rfl⟩)
  | slice a n c => cases a <;> simp [RelC, RelC0] at hv; (obtain ⟨_, _, rfl⟩ := hv; exact ⟨rfl, rfl⟩); (obtain ⟨p, _, _, c', _, _, a', rfl, _⟩ := hv; exact ⟨rfl, rfl⟩)
  | _ => first | (simp [okCell] at k; done) | (simp [RelC, RelC0] at hv; subst hv; exact ⟨rfl, rfl⟩)
theorem relV_cellsO {φ : Inj} {v v' : Value} {cs : List Value} (h : RelV φ v v') (k : cellsO v = some cs) : All2 (RelC φ) cs v'.cells.toList := by
  unfold cellsO at k
  split at k
  · obtain ⟨cs', rfl, r⟩ := h
    injection k with k; subst k
    exact r
  · split at k
    · rename_i ok
      injection k with k; subst k
      obtain ⟨r, e, _⟩ := relV_ok h ok
      rw [e]
      exact ⟨r, trivial⟩
    · cases k

theorem okCell_scal {v : Value} (h : scal v = true) : okCell v = true := by
  cases v <;> simp_all [scal, okCell]
theorem relC_one {φ : Inj} {v v' : Value} (h : RelC φ v v') (k : okCell v = true) : v'.oneCell' = true := (relV_ok (relV_of h) k).2.2
theorem all_one {φ : Inj} : ∀ {vs vs' : List Value}, All2 (RelC φ) vs vs' → vs.all okCell = true → ∀ v ∈ vs', v.oneCell' = true
  | [], vs', h, _, v, hv => by rw [All2.nil_iff] at h; subst h; simp at hv
  | a :: as, vs', h, k, v, hv => by
    obtain ⟨b, bs, rfl, h1, h2⟩ := All2.cons_iff.1 h
    simp only [List.all_cons, Bool.and_eq_true] at k
    rcases List.mem_cons.1 hv with rfl | hv
    · exact relC_one h1 k.1
    · exact all_one h2 k.2 v hv
/-- One object. -/
structure ObRel (P : Program) (B : Nat) (φ : Inj) (w : World) (ob : Ob) (p : Pl) : Prop where
  rw : p.rw = ob.rw
  ok : ob.cells.all okCell = true
  cell : ∀ (j : Nat) (v : Value), ob.cells[j]? = some v → ∃ v', w.cell? ⟨p.block, p.off + j, none⟩ = some v' ∧ RelC φ v v'
  own : ob.rw = true → B ≤ p.block ∧ p.off + ob.cells.length ≤ p.size ∧
    ∃ cs fr, w.heap[p.block]? = some (.cells cs ob.elem fr) ∧ cs.size = p.size ∧ (∀ i, i < p.size → ¬ (fr.1 ≤ i ∧ i < fr.2))
  arg : ob.rw = false → p.block < B ∨ ob.cells = []
structure Rel (P : Program) (B : Nat) (w0 : World) (φ : Inj) (h : Hp) (w : World) : Prop where
  below : Below B w0 w
  base : B ≤ w0.heap.size
  len : φ.length = h.length
  esz : ∀ (o : Nat) (ob : Ob) (p : Pl), h[o]? = some ob → φ[o]? = some p → szOf P ob.elem = some p.esz
  obj : ∀ (o : Nat) (ob : Ob) (p : Pl), h[o]? = some ob → φ[o]? = some p → ob.live = true → ObRel P B φ w ob p
  apart : ∀ (o o' : Nat) (ob ob' : Ob) (p p' : Pl), h[o]? = some ob → h[o']? = some ob' → φ[o]? = some p → φ[o']? = some p' → ob.live = true → ob'.live = true → ob.rw = true → ob'.rw = true → o ≠ o' → p.block ≠ p'.block

section
variable {P : Program} {B : Nat} {w0 w : World} {φ : Inj} {h : Hp}
theorem Rel.pl (R : Rel P B w0 φ h w) {o : Nat} {ob : Ob} (e : h[o]? = some ob) : ∃ p, φ[o]? = some p := by
  have := (List.getElem?_eq_some_iff.1 e).1
  exact ⟨φ[o]'(by rw [R.len]; exact this), List.getElem?_eq_getElem _⟩
theorem cellAt_some {o i : Nat} {v : Value} (e : cellAt h o i = some v) : ∃ ob, h[o]? = some ob ∧ ob.live = true ∧ ob.cells[i]? = some v := by
  unfold cellAt at e
  split at e
  · rename_i ob hob
    split at e
    · exact ⟨ob, hob, by assumption, e⟩
    · cases e
  · cases e
theorem Rel.cell (R : Rel P B w0 φ h w) {o i : Nat} {v : Value} (e : cellAt h o i = some v) {p : Pl} (hp : φ[o]? = some p) : ∃ v', w.cell? ⟨p.block, p.off + i, none⟩ = some v' ∧ RelC φ v v' := by
  obtain ⟨ob, ho, hl, hc⟩ := cellAt_some e
  exact (R.obj o ob p ho hp hl).cell i v hc

theorem addr_add (b o n : Nat) : (⟨b, o, none⟩ : Addr).add n = ⟨b, o + n, none⟩ := by
  unfold Addr.add
  split <;> simp_all

theorem run_loadFrom (b o : Nat) : ∀ (n i : Nat) (acc : Array Value) (vs : List Value), vs.length = n → (∀ j v, vs[j]? = some v → w.cell? ⟨b, o + i + j, none⟩ = some v) → (loadCellsFrom ⟨b, o, none⟩ i n acc).run P w = .ok (acc ++ vs.toArray) w
  | 0, _, acc, vs, hl, _ => by
    obtain rfl := List.eq_nil_of_length_eq_zero hl
    simp [loadCellsFrom]
  | n + 1, i, acc, [], hl, _ => by simp at hl
  | n + 1, i, acc, v :: vs, hl, hc => by
    have h0 := hc 0 v rfl
    simp only [loadCellsFrom, Sem.run_bind, run_load, addr_add]
    rw [show o + i = o + i + 0 from rfl, h0]
    simp only [Result.andThen_ok]
    rw [run_loadFrom b o n (i + 1) (acc.push v) vs (by simpa using hl) (fun j u hj => by have := hc (j + 1) u (by simpa using hj); rw [show o + (i + 1) + j = o + i + (j + 1) by omega]; exact this)]
    simp
theorem Rel.cells (R : Rel P B w0 φ h w) {o : Nat} {p : Pl} (hp : φ[o]? = some p) : ∀ (n i : Nat) (vs : List Value), cellsAt h o i n = some vs → ∃ vs', vs'.length = n ∧ (∀ j v, vs'[j]? = some v → w.cell? ⟨p.block, p.off + i + j, none⟩ = some v) ∧ All2 (RelC φ) vs vs'
  | 0, i, vs, e => by
    injection e with e; subst e
    exact ⟨[], rfl, fun j v hj => by simp at hj, trivial⟩
  | n + 1, i, vs, e => by
    simp only [cellsAt, Option.bind_eq_some_iff, Option.map_eq_some_iff] at e
    obtain ⟨v, hv, us, hus, rfl⟩ := e
    obtain ⟨v', h1, h2⟩ := R.cell hv hp
    obtain ⟨us', k1, k2, k3⟩ := R.cells hp n (i + 1) us hus
    refine ⟨v' :: us', by simp [k1], fun j u hj => ?_, h2, k3⟩
    cases j with
    | zero => simp at hj; subst hj; exact h1
    | succ j => have := k2 j u (by simpa using hj); rw [show p.off + i + (j + 1) = p.off + (i + 1) + j by omega]; exact this
theorem Rel.run_load (R : Rel P B w0 φ h w) {o : Nat} {p : Pl} (hp : φ[o]? = some p) {n i : Nat} {vs : List Value} (e : cellsAt h o i n = some vs) : ∃ vs', (loadCells ⟨p.block, p.off + i, none⟩ n).run P w = .ok vs'.toArray w ∧ All2 (RelC φ) vs vs' := by
  obtain ⟨vs', k1, k2, k3⟩ := R.cells hp n i vs e
  refine ⟨vs', ?_, k3⟩
  unfold loadCells
  rw [run_loadFrom p.block (p.off + i) n 0 #[] vs' k1 (fun j v hj => k2 j v hj)]
  simp
end
end Go.Proofs.Ytidkkmkihifeoaa.Hz
