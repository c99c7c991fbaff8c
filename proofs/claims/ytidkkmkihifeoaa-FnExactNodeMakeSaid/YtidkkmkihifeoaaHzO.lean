/- From the row's readings of the arguments to the plain heap, and from a contract back to the row. -/
import Derived.Test.YtidkkmkihifeoaaHzQ
import Derived.Carry
import Derived.ChangeArms
import Derived.ChangeShapes
import Derived.ChangeMaps5
import Derived.OpenShut
import Derived.SizedLaws
import Derived.WalkKit
import Derived.ProofKit
import Derived.ChangeOld
namespace Go.Proofs.Ytidkkmkihifeoaa.Hz
open Go.RowKit
set_option linter.unusedVariables false
set_option linter.unusedSimpArgs false

theorem cells?_get {w : World} {base : Nat} {a : Addr} {n : Nat} {cs : List Value} (h : w.cells? base a n = some cs) : cs.length = n ∧ (0 < n → a.spot = none) ∧ ∀ j, j < n → ∃ v, cs[j]? = some v ∧ w.cell? ⟨a.block, a.off + j, none⟩ = some v := by
  unfold World.cells? at h
  split at h
  · have key : ∀ (n : Nat) (cs : List Value), (List.range n).mapM (fun i => w.cell? (a.add i)) = some cs → cs.length = n ∧ ∀ j, j < n → ∃ v, cs[j]? = some v ∧ w.cell? (a.add j) = some v := by
      intro n
      induction n with
      | zero => intro cs h; simp at h; subst h; exact ⟨rfl, fun j hj => by omega⟩
      | succ n ih =>
        intro cs h
        rw [List.range_succ, List.mapM_append] at h
        simp only [Option.bind_eq_bind, Option.bind_eq_some_iff, List.mapM_cons, List.mapM_nil, Option.pure_def, Option.some.injEq] at h
        obtain ⟨us, hus, vs, ⟨v, hv, _, rfl, rfl⟩, rfl⟩ := h
        obtain ⟨h1, h2⟩ := ih us hus
        refine ⟨by simp [h1], fun j hj => ?_⟩
        by_cases hjn : j < n
        · obtain ⟨u, h3, h4⟩ := h2 j hjn
          exact ⟨u, by rw [List.getElem?_append_left (by omega)]; exact h3, h4⟩
        · obtain rfl : j = n := by omega
          exact ⟨v, by rw [List.getElem?_append_right (by omega), h1]; simp, hv⟩
    obtain ⟨h1, h2⟩ := key n cs h
    have addr : ∀ j, j < n → a.add j = ⟨a.block, a.off + j, none⟩ := by
      intro j hj
      obtain ⟨v, _, hv⟩ := h2 j hj
      have hspot : (a.add j).spot = none := by
        cases hsp : (a.add j).spot with
        | none => rfl
        | some s =>
          simp only [World.cell?] at hv
          split at hv
          · simp [hsp] at hv
          · cases hv
      unfold Addr.add at hspot ⊢
      split
      · rename_i h0
        subst h0
        rw [if_pos rfl] at hspot
        cases a
        simp_all
      · rfl
    refine ⟨h1, fun h0 => ?_, fun j hj => ?_⟩
    · have := addr 0 h0
      unfold Addr.add at this
      rw [if_pos rfl] at this
      rw [this]
    · rw [← addr j hj]; exact h2 j hj
  · cases h
theorem add_block (a : Addr) (n : Nat) : (a.add n).block = a.block ∧ (a.add n).off = a.off + n := by
  unfold Addr.add
  split
  · rename_i h; subst h; exact ⟨rfl, rfl⟩
  · exact ⟨rfl, rfl⟩

theorem ext_pre {h h' : Hp} (p : h <+: h') : ∀ o, o < h.length → h'[o]? = h[o]? := by
  obtain ⟨t, rfl⟩ := p
  intro o ho
  exact List.getElem?_append_left ho

section
variable {P : Program}
/-- WHAT A TYPE'S READING OPENS TO. -/
def Opn {α : Type} (P : Program) (t : TypeId) (A : Enc α) (ok : α → Prop) : Prop :=
  ∀ {H : Type} {enc : TypeId × Value → H} {W : World} {φ : Inj} {h : Hp} {fuel : Nat} {cs : List Value} {x : DataW H × List MemPlace},
    Rel P W.heap.size W φ h W → DataW.trod enc P W 0 (fun _ => true) true fuel t cs = some x →
    ∃ φ' h' acs d F, φ <+: φ' ∧ h <+: h' ∧ Rel P W.heap.size W φ' h' W ∧ All2 (RelC φ') acs cs ∧ A.R h' d acs F ∧ ok d

theorem opn_int {t : TypeId} (ht : P.underlying t = some (.int .i64)) : Opn P t intE fun n => (Lit.int .i64 n).wf = true := by
  intro H enc W φ h fuel cs x R hx
  obtain ⟨n, rfl, _, hw⟩ := DataW.trod_int ht hx
  exact ⟨φ, h, [.int .i64 n], n, [], List.prefix_rfl, List.prefix_rfl, R, ⟨rfl, trivial⟩, ⟨rfl, rfl⟩, hw⟩
theorem opn_byte {t : TypeId} (ht : P.underlying t = some (.int .u8)) : Opn P t byteE fun _ => True := by
  intro H enc W φ h fuel cs x R hx
  obtain ⟨n, rfl, _, hw⟩ := DataW.trod_int ht hx
  have h1 : 0 ≤ n ∧ n ≤ 255 := by
    simp only [Lit.wf, IntKind.min, IntKind.max, IntKind.signed, IntKind.bits, Bool.and_eq_true, decide_eq_true_eq] at hw
    simp at hw
    omega
  refine ⟨φ, h, [.int .u8 n], UInt8.ofNat n.toNat, [], List.prefix_rfl, List.prefix_rfl, R, ⟨rfl, trivial⟩, ⟨?_, rfl⟩, trivial⟩
  simp
  omega
theorem opn_bool {t : TypeId} (ht : P.underlying t = some .bool) : Opn P t boolE fun _ => True := by
  intro H enc W φ h fuel cs x R hx
  obtain ⟨b, rfl, _⟩ := DataW.trod_bool ht hx
  exact ⟨φ, h, [.bool b], b, [], List.prefix_rfl, List.prefix_rfl, R, ⟨rfl, trivial⟩, ⟨rfl, rfl⟩, trivial⟩
theorem opn_str {t : TypeId} (ht : P.underlying t = some .string) : Opn P t strE fun s => s.length ≤ maxLen := by
  intro H enc W φ h fuel cs x R hx
  obtain ⟨s, rfl, _, hw⟩ := DataW.trod_string ht hx
  refine ⟨φ, h, [.string s], s.data.toList, [], List.prefix_rfl, List.prefix_rfl, R, ⟨rfl, trivial⟩, ⟨?_, rfl⟩, ?_⟩
  · show [Value.string s] = [Value.string (S s.data.toList)]
    rw [← S_of]
  · show s.data.toList.length ≤ maxLen
    rw [Array.length_toList]; exact hw

/-- A struct's fields: types and places. -/
def fsOf (P : Program) (t : TypeId) : Option (List (TypeId × Nat)) :=
  match P.underlying t with
  | some (.struct fs) => some (fs.toList.map fun f => (f.type, f.offset))
  | _ => none
theorem fsOf_some {t : TypeId} {l : List (TypeId × Nat)} (h : fsOf P t = some l) : ∃ fs, P.underlying t = some (.struct fs) ∧ fs.toList.map (fun f => (f.type, f.offset)) = l := by
  unfold fsOf at h
  split at h
  · rename_i fs e
    injection h with h
    exact ⟨fs, e, h⟩
  · cases h
theorem trod_fields {H : Type} {enc : TypeId × Value → H} {W : World} {t : TypeId} {l : List (TypeId × Nat)} {fuel : Nat} {cs : List Value} {x : DataW H × List MemPlace} (h : fsOf P t = some l) (hx : DataW.trod enc P W 0 (fun _ => true) true fuel t cs = some x) :
    cs.length = P.cellsOf t ∧ ∃ n, ∀ (i : Nat) (q : TypeId × Nat), l[i]? = some q → ∃ y, DataW.trod enc P W 0 (fun _ => true) true n q.1 ((cs.drop q.2).take (P.cellsOf q.1)) = some y := by
  obtain ⟨fs, ht, rfl⟩ := fsOf_some h
  obtain ⟨xs, n, _, _, hl, hlen, hf⟩ := DataW.trod_struct ht hx
  refine ⟨hl, n, fun i q hq => ?_⟩
  rw [List.getElem?_map, Option.map_eq_some_iff] at hq
  obtain ⟨f, hf2, rfl⟩ := hq
  rw [Array.getElem?_toList] at hf2
  have := hf i f hf2
  have hi : i < xs.length := by
    have := (Array.getElem?_eq_some_iff.1 hf2).1
    omega
  exact ⟨xs[i], by rw [this]; exact List.getElem?_eq_getElem hi⟩

/-- A slice in a cell. -/
theorem opn_rows {α : Type} {e : TypeId} {A : Enc α} {ok : α → Prop} (hA : Opn P e A ok) (hc : P.cellsOf e = A.n) {H : Type} {enc : TypeId × Value → H} {W : World} {a : Addr} {fuel : Nat} {φ : Inj} {h : Hp} (R : Rel P W.heap.size W φ h W) :
    ∀ (m : Nat), (∀ i, i < m → ∃ y, (W.cells? 0 (a.add (i * P.cellsOf e)) (P.cellsOf e)).bind (DataW.trod enc P W 0 (fun _ => true) true fuel e) = some y) →
    ∃ φ' h' css Fs xs, φ <+: φ' ∧ h <+: h' ∧ Rel P W.heap.size W φ' h' W ∧ rowsR A h' xs css Fs ∧ xs.length = m ∧ (∀ x ∈ xs, ok x) ∧ ∀ (j : Nat) (v : Value), css.flatten[j]? = some v → ∃ v', W.cell? ⟨a.block, a.off + j, none⟩ = some v' ∧ RelC φ' v v'
  | 0, _ => ⟨φ, h, [], [], [], List.prefix_rfl, List.prefix_rfl, R, trivial, rfl, fun x hx => by simp at hx, fun j v hj => by simp at hj⟩
  | m + 1, hm => by
    obtain ⟨φ1, h1, css, Fs, xs, p1, p2, R1, rows, hl, hok, hcell⟩ := opn_rows hA hc R m fun i hi => hm i (by omega)
    obtain ⟨y, hy⟩ := hm m (by omega)
    rw [Option.bind_eq_some_iff] at hy
    obtain ⟨cs, hcs, hy⟩ := hy
    obtain ⟨φ2, h2, acs, d, F, q1, q2, R2, rel, rd, okd⟩ := hA R1 hy
    obtain ⟨hlen, -, hget⟩ := cells?_get hcs
    have hfl := rows.len.2.2
    refine ⟨φ2, h2, css ++ [acs], Fs ++ [F], xs ++ [d], p1.trans q1, p2.trans q2, R2, rowsR.append (rows.frame fun o ho => ext_pre q2 o (rows.lt o ho)) ⟨rd, trivial⟩, by simp [hl], ?_, ?_⟩
    · intro x hx
      rcases List.mem_append.1 hx with hx | hx
      · exact hok x hx
      · simp at hx; subst hx; exact okd
    · intro j v hj
      rw [List.flatten_append] at hj
      by_cases hjl : j < css.flatten.length
      · rw [List.getElem?_append_left hjl] at hj
        obtain ⟨v', k1, k2⟩ := hcell j v hj
        exact ⟨v', k1, k2.mono q1⟩
      · rw [List.getElem?_append_right (by omega)] at hj
        simp only [List.flatten_cons, List.flatten_nil, List.append_nil] at hj
        obtain ⟨v', k1, k2⟩ := rel.get _ _ hj
        have hlt := (List.getElem?_eq_some_iff.1 k1).1
        obtain ⟨v2, k3, k4⟩ := hget (j - css.flatten.length) (by omega)
        rw [k1] at k3
        injection k3 with k3
        subst k3
        refine ⟨v', ?_, k2⟩
        rw [(add_block a _).1, (add_block a _).2] at k4
        rw [show a.off + j = a.off + m * P.cellsOf e + (j - css.flatten.length) by rw [hc, hfl, hl]; rw [hfl, hl] at hjl; omega]
        exact k4

theorem opn_slice {α : Type} {t e : TypeId} {A : Enc α} {ok : α → Prop} (hA : Opn P e A ok) (ht : P.underlying t = some (.slice e)) (hc : P.cellsOf e = A.n) (hs : szOf P e = some A.n) (hn : 0 < A.n) : Opn P t (slE false e A) fun xs => xs.length ≤ maxLen ∧ ∀ x ∈ xs, ok x := by
  intro H enc W φ h fuel cs x R hx
  rcases DataW.trod_slice ht hx with ⟨rfl, rfl⟩ | ⟨a, len, cap, elems, rest, n, _, rfl, rfl, hb, hl, hm, hlen, hel, hsp, hns⟩
  · exact ⟨φ, h, [.slice none 0 0], [], [], List.prefix_rfl, List.prefix_rfl, R, ⟨⟨rfl, rfl, rfl⟩, trivial⟩, ⟨none, rfl, rfl, rfl⟩, by simp, by simp⟩
  obtain ⟨φ1, h1, css, Fs, xs, p1, p2, R1, rows, hxl, hok, hcell⟩ := opn_rows hA hc (a := a) (enc := enc) (fuel := n) R len fun i hi => ⟨elems[i]'(by omega), by rw [hel i hi]; exact List.getElem?_eq_getElem _⟩
  have hspot : cap = 0 ∨ a.spot = none := by
    by_cases h0 : cap = 0
    · exact .inl h0
    right
    have : ∃ y, (W.cells? 0 (a.add (0 * P.cellsOf e)) (P.cellsOf e)).bind (DataW.trod enc P W 0 (fun _ => true) true n e) = some y := by
      by_cases h1 : 0 < len
      · exact ⟨elems[0]'(by omega), by rw [hel 0 h1]; exact List.getElem?_eq_getElem _⟩
      · obtain ⟨k1, k2⟩ := hsp rfl
        have := k2 0 (by omega)
        rw [show len + 0 = 0 by omega] at this
        exact ⟨rest[0]'(by omega), by rw [this]; exact List.getElem?_eq_getElem _⟩
    obtain ⟨y, hy⟩ := this
    rw [Option.bind_eq_some_iff] at hy
    obtain ⟨cs, hcs, _⟩ := hy
    have := (cells?_get hcs).2.1 (by omega)
    rw [Nat.zero_mul] at this
    unfold Addr.add at this
    rw [if_pos rfl] at this
    exact this
  let pl : Pl := ⟨a.block, a.off, 0, A.n, false⟩
  let ob : Ob := ⟨true, false, e, css.flatten⟩
  have q1 : φ1 <+: φ1 ++ [pl] := List.prefix_append _ _
  have q2 : h1 <+: h1 ++ [ob] := List.prefix_append _ _
  have lens := R1.len
  have old : ∀ {o : Nat} {ob' : Ob} {p' : Pl}, (h1 ++ [ob])[o]? = some ob' → (φ1 ++ [pl])[o]? = some p' → (h1[o]? = some ob' ∧ φ1[o]? = some p') ∨ (ob' = ob ∧ p' = pl) := by
    intro o ob' p' ho hp
    by_cases hlt : o < h1.length
    · rw [List.getElem?_append_left hlt] at ho
      rw [List.getElem?_append_left (by omega)] at hp
      exact .inl ⟨ho, hp⟩
    · have : o = h1.length := by
        have := (List.getElem?_eq_some_iff.1 ho).1
        simp at this
        omega
      subst this
      rw [List.getElem?_append_right (by omega)] at ho
      rw [List.getElem?_append_right (by omega)] at hp
      simp at ho hp
      rw [lens] at hp
      simp at hp
      exact .inr ⟨ho.symm, hp.symm⟩
  have R2 : Rel P W.heap.size W (φ1 ++ [pl]) (h1 ++ [ob]) W := by
    refine ⟨R1.below, R1.base, by simp [lens], ?_, ?_, ?_⟩
    · intro o ob' p' ho hp
      rcases old ho hp with ⟨k1, k2⟩ | ⟨rfl, rfl⟩
      · exact R1.esz o ob' p' k1 k2
      · exact hs
    · intro o ob' p' ho hp hlv
      rcases old ho hp with ⟨k1, k2⟩ | ⟨rfl, rfl⟩
      · exact (R1.obj o ob' p' k1 k2 hlv).mono q1
      · refine ⟨rfl, rows.ok, fun j v hj => ?_, fun hh => (by cases hh), fun _ => ?_⟩
        · obtain ⟨v', k1, k2⟩ := hcell j v hj
          exact ⟨v', k1, k2.mono q1⟩
        · cases hcs : css.flatten with
          | nil => exact .inr hcs
          | cons c cs =>
            left
            obtain ⟨v', k1, k2⟩ := hcell 0 c (by rw [hcs]; rfl)
            have := cell_block k1
            exact this
    · intro o o' ob1 ob2 p1' p2' ho ho' hp hp' _ _ hr hr' hne
      rcases old ho hp with ⟨k1, k2⟩ | ⟨rfl, rfl⟩
      · rcases old ho' hp' with ⟨k3, k4⟩ | ⟨rfl, rfl⟩
        · exact R1.apart o o' ob1 ob2 p1' p2' k1 k3 k2 k4 ‹_› ‹_› hr hr' hne
        · cases hr'
      · cases hr
  refine ⟨φ1 ++ [pl], h1 ++ [ob], [.slice (some ⟨h1.length, 0, none⟩) xs.length xs.length], xs, h1.length :: Fs.flatten, p1.trans q1, p2.trans q2, R2, ⟨?_, trivial⟩, ⟨_, rfl, rfl, ?_⟩, by omega, hok⟩
  · refine ⟨pl, cap, a, ?_, rfl, by omega, by omega, by rw [hxl], ?_⟩
    · rw [← lens]; simp
    · rcases hspot with h0 | h0
      · exact .inr ⟨by omega, h0⟩
      · exact .inl ⟨by cases a; simp at h0; simp [pl, h0], fun hh => by cases hh⟩
  · refine ⟨ob, css, Fs, [], [], (by simp), rfl, (fun hh => by cases hh), rfl, rfl, rows.frame fun o ho => ext_pre q2 o (rows.lt o ho), (by simp [ob]), rfl⟩

/-- A PARAMETER: what its value is on the plain heap. -/
structure OpnV (P : Program) (t : TypeId) (V : Hp → Value → Prop) : Prop where
  mono : ∀ {h h' : Hp} {v : Value}, h <+: h' → V h v → V h' v
  open_ : ∀ {H : Type} {enc : TypeId × Value → H} {W : World} {φ : Inj} {h : Hp} {r : Reach} {b0 : Nat} {v : Value} {d : DataW H} {ps : List MemPlace},
    Rel P W.heap.size W φ h W → Value.okWide P W r b0 t v → DataW.Trod enc P W 0 (fun _ => true) true t v d ps →
    ∃ φ' h' av, φ <+: φ' ∧ h <+: h' ∧ Rel P W.heap.size W φ' h' W ∧ RelV φ' av v ∧ V h' av
def V1 {α : Type} (A : Enc α) (ok : α → Prop) (h : Hp) (av : Value) : Prop := ∃ x F, A.R h x [av] F ∧ ok x
def VS {α : Type} (A : Enc α) (ok : α → Prop) (h : Hp) (av : Value) : Prop := ∃ x acs F, av = .agg (List.toArray acs) ∧ A.R h x acs F ∧ ok x
theorem V1_mono {α : Type} {A : Enc α} {ok : α → Prop} {h h' : Hp} {v : Value} (p : h <+: h') (k : V1 A ok h v) : V1 A ok h' v := by
  obtain ⟨x, F, k1, k2⟩ := k
  exact ⟨x, F, A.frame k1 fun o ho => ext_pre p o (A.lt k1 o ho), k2⟩
theorem VS_mono {α : Type} {A : Enc α} {ok : α → Prop} {h h' : Hp} {v : Value} (p : h <+: h') (k : VS A ok h v) : VS A ok h' v := by
  obtain ⟨x, acs, F, k0, k1, k2⟩ := k
  exact ⟨x, acs, F, k0, A.frame k1 fun o ho => ext_pre p o (A.lt k1 o ho), k2⟩
theorem opn1 {α : Type} {t : TypeId} {A : Enc α} {ok : α → Prop} (hA : Opn P t A ok) (hc : ∀ {W : World} {r : Reach} {b0 : Nat} {v : Value}, Value.okWide P W r b0 t v → v.cells.toList = [v]) : OpnV P t (V1 A ok) where
  mono := V1_mono
  open_ := by
    intro H enc W φ h r b0 v d ps R hv hd
    obtain ⟨fuel, hd⟩ := hd
    obtain ⟨φ', h', acs, x, F, p1, p2, R', rel, rd, o⟩ := hA R hd
    rw [hc hv] at rel
    match acs, rel with
    | [av], rel => exact ⟨φ', h', av, p1, p2, R', relV_of rel.1, x, F, rd, o⟩
    | [], rel => exact rel.elim
    | _ :: _ :: _, rel => exact rel.2.elim
theorem opnS {α : Type} {t : TypeId} {A : Enc α} {ok : α → Prop} {fs : Array Field} (hA : Opn P t A ok) (ht : P.underlying t = some (.struct fs)) : OpnV P t (VS A ok) where
  mono := VS_mono
  open_ := by
    intro H enc W φ h r b0 v d ps R hv hd
    obtain ⟨cs, rfl, _⟩ := Go.WideShapes.okWide_struct ht hv
    obtain ⟨fuel, hd⟩ := hd
    obtain ⟨φ', h', acs, x, F, p1, p2, R', rel, rd, o⟩ := hA R hd
    exact ⟨φ', h', .agg acs.toArray, p1, p2, R', relV_of1 ⟨cs, rfl, rel⟩, x, acs, F, rfl, rd, o⟩
theorem one_int {t : TypeId} {k : IntKind} (ht : P.underlying t = some (.int k)) : ∀ {W : World} {r : Reach} {b0 : Nat} {v : Value}, Value.okWide P W r b0 t v → v.cells.toList = [v] := by
  intro W r b0 v hv
  obtain ⟨n, rfl⟩ := Go.WideShapes.okWide_int ht hv; rfl
theorem one_str {t : TypeId} (ht : P.underlying t = some .string) : ∀ {W : World} {r : Reach} {b0 : Nat} {v : Value}, Value.okWide P W r b0 t v → v.cells.toList = [v] := by
  intro W r b0 v hv
  obtain ⟨n, rfl⟩ := Go.WideShapes.okWide_string ht hv; rfl
theorem one_bool {t : TypeId} (ht : P.underlying t = some .bool) : ∀ {W : World} {r : Reach} {b0 : Nat} {v : Value}, Value.okWide P W r b0 t v → v.cells.toList = [v] := by
  intro W r b0 v hv
  obtain ⟨n, rfl⟩ := Go.WideShapes.okWide_bool ht hv; rfl
theorem one_slice {t e : TypeId} (ht : P.underlying t = some (.slice e)) : ∀ {W : World} {r : Reach} {b0 : Nat} {v : Value}, Value.okWide P W r b0 t v → v.cells.toList = [v] := by
  intro W r b0 v hv
  obtain ⟨a, n, c, rfl⟩ := Go.WideShapes.okWide_slice ht hv; rfl

theorem opn_all {H : Type} {enc : TypeId × Value → H} {W : World} : ∀ {ts : List TypeId} {Vs : List (Hp → Value → Prop)} {vs : List Value} {ds : List (DataW H)} {ps : List MemPlace} {φ : Inj} {h : Hp}, All2 (OpnV P) ts Vs →
    Rel P W.heap.size W φ h W → DataW.TrodAll enc P W 0 (fun _ => true) true ts vs ds ps → (∀ (j : Nat) t v, ts[j]? = some t → vs[j]? = some v → ∃ r b0, Value.okWide P W r b0 t v) →
    ds.length = ts.length ∧ ∃ φ' h' avs, φ <+: φ' ∧ h <+: h' ∧ Rel P W.heap.size W φ' h' W ∧ All2 (RelV φ') avs vs ∧ All2 (fun V av => V h' av) Vs avs
  | [], [], [], [], ps, φ, h, _, R, _, _ => ⟨rfl, φ, h, [], List.prefix_rfl, List.prefix_rfl, R, trivial, trivial⟩
  | t :: ts, V :: Vs, v :: vs, d :: ds, ps, φ, h, o, R, ⟨p, q, hd, hds, _⟩, hv => by
    obtain ⟨r, b0, hv0⟩ := hv 0 t v rfl rfl
    obtain ⟨φ1, h1, av, p1, p2, R1, k1, k2⟩ := o.1.open_ R hv0 hd
    obtain ⟨hl, φ2, h2, avs, q1, q2, R2, k3, k4⟩ := opn_all o.2 R1 hds fun j t v ht hv' => hv (j + 1) t v (by simpa using ht) (by simpa using hv')
    exact ⟨by simp [hl], φ2, h2, av :: avs, p1.trans q1, p2.trans q2, R2, ⟨k1.mono q1, k3⟩, o.1.mono q2 k2, k4⟩
  | [], _ :: _, _, _, _, _, _, o, _, _, _ => o.elim
  | _ :: _, [], _, _, _, _, _, o, _, _, _ => o.elim
  | [], [], _ :: _, _, _, _, _, _, _, k, _ => by simp [DataW.TrodAll] at k
  | [], [], [], _ :: _, _, _, _, _, _, k, _ => by simp [DataW.TrodAll] at k
  | _ :: _, _ :: _, [], _, _, _, _, _, _, k, _ => by simp [DataW.TrodAll] at k
  | _ :: _, _ :: _, _ :: _, [], _, _, _, _, _, k, _ => by simp [DataW.TrodAll] at k

theorem trod_kept {H : Type} {enc : TypeId × Value → H} {W W' : World} (hl : laidOutB P = true) (hb : Below W.heap.size W W') : ∀ {ts : List TypeId} {vs : List Value} {ds : List (DataW H)} {ps : List MemPlace},
    (∀ t ∈ ts, P.readableRec t = true ∧ t < P.types.size) → DataW.TrodAll enc P W 0 (fun _ => true) true ts vs ds ps → (∀ x ∈ ps, x.block < W.heap.size) →
    DataW.TrodAll enc P W' 0 (fun b => decide (b < W.heap.size)) true ts vs ds ps
  | [], [], [], _, _, k, _ => k
  | t :: ts, v :: vs, d :: ds, ps, hr, ⟨p, q, hd, hds, e⟩, hlt => by
    subst e
    exact ⟨p, q, Below.trod hl (hr t (by simp)).1 (hr t (by simp)).2 hd hb fun x hx => hlt x (by simp [hx]), trod_kept hl hb (fun t ht => hr t (by simp [ht])) hds fun x hx => hlt x (by simp [hx]), rfl⟩
  | [], [], _ :: _, _, _, k, _ => by simp [DataW.TrodAll] at k
  | [], _ :: _, _, _, _, k, _ => by simp [DataW.TrodAll] at k
  | _ :: _, [], _, _, _, k, _ => by simp [DataW.TrodAll] at k
  | _ :: _, _ :: _, [], _, _, k, _ => by simp [DataW.TrodAll] at k

theorem ACall.calls {f : FuncId} {fn : Func} {c : Code} {avs : List Value} {h : Hp} {S : Value → Hp → Prop} (k : ACall P f avs h S) (hf : P.funcs[f]? = some fn) (hb : fn.body = some c) (hn : (fn.name == "runtime.NumGoroutine") = false)
    {B : Nat} {w0 w : World} {φ : Inj} {args : Array Value} (R : Rel P B w0 φ h w) (ha : All2 (RelV φ) avs args.toList) :
    Calls P f args w fun e w' => ∃ v', e = .returned v' ∧ ∃ φ' v h', φ <+: φ' ∧ Rel P B w0 φ' h' w' ∧ RelV φ' v v' ∧ S v h' := by
  have hc := k B w0 φ w args.toList R ha
  unfold CallsV at hc
  have hen : (callFunc f args.toList.toArray).run P w = .ok (.enter f args.toList.toArray) w := by
    unfold callFunc
    simp only [Sem.run_bind, run_program, Result.andThen_ok, hf]
    simp [hn, hb]
  rw [hen] at hc
  exact hc

/-- FROM THE CONTRACT OF A LAW'S FUNCTION TO THE ROW. -/
theorem law_calls {s : ChangeSpec} {f : FuncId} {fn : Func} {c : Code} {Vs : List (Hp → Value → Prop)} {tb : TypeId} (hf : P.funcs[f]? = some fn) (hb : fn.body = some c) (hn : (fn.name == "runtime.NumGoroutine") = false)
    (hl : laidOutB P = true) (ho : All2 (OpnV P) fn.params.toList Vs) (hread : fn.params.toList.all (fun t => P.readableRec t && decide (t < P.types.size)) = true) (hvars : s.vars = []) (hres : fn.resultTypes = #[tb]) (htb : P.underlying tb = some .bool)
    (hspec : ∀ (H : Type) (ds : List (DataW H)), ds.length = fn.params.toList.length → s.fn H ds = { results := [.lit (.bool true)], args := ds })
    (contract : ∀ h avs, All2 (fun V av => V h av) Vs avs → ACall P f avs h fun r _ => r = .bool true)
    {H : Type} {enc : TypeId × Value → H} {W : World} {base : Nat} {args : Array Value} {ds gs : List (DataW H)} {before : List MemPlace}
    (hval : ∀ (j : Nat) t v, fn.params[j]? = some t → args[j]? = some v → Value.okWide P W .any base t v)
    (hW : DataW.Whole enc P fn.params.toList s.vars false W args.toList ds gs before) : Calls P f args W fun e W' => ∃ v, e = .returned v ∧ s.post enc P fn false true false false W args v W' := by
  have hW' := hW
  obtain ⟨p, q, hA, hV, rfl, hfz, hnd⟩ := hW
  rw [hvars] at hV
  obtain ⟨rfl, rfl⟩ := Go.ChangeShapes.trodVars_none hV
  have R0 : Rel P W.heap.size W [] [] W := ⟨Below.refl _ _, Nat.le_refl _, rfl, fun o ob p ho => by simp at ho, fun o ob p ho => by simp at ho, fun o o' ob ob' p p' ho => by simp at ho⟩
  obtain ⟨hlen, φ, h, avs, _, _, R, k1, k2⟩ := opn_all ho R0 hA fun j t v ht hv => ⟨.any, base, hval j t v (by simpa using ht) (by simpa using hv)⟩
  refine ((contract h avs k2).calls hf hb hn R k1).mono fun e W' he => ?_
  obtain ⟨v', rfl, φ', v, h', _, R', rv, rfl⟩ := he
  have hv' : v' = .bool true := by simpa [RelV, RelV1, RelC, RelC0] using rv
  subst hv'
  have bel : Below W.heap.size W W' := R'.below
  refine ⟨_, rfl, ds, [], p ++ [], [], p, [], hW', ?_, ?_, ?_, bel.frame _, fun hh => by cases hh⟩
  · rw [List.append_nil, hspec H ds hlen, hres]
    exact Go.ChangeShapes.trodAll_mk1 (shut_bool htb _)
  · rw [List.append_nil, hspec H ds hlen]
    exact trod_kept hl bel (fun t ht => by simpa using (List.all_eq_true.1 hread) t ht) hA fun x hx => by simpa using hW'.lt x (by simpa using hx)
  · rw [List.append_nil, hspec H ds hlen, hvars]
    rfl
end
end Go.Proofs.Ytidkkmkihifeoaa.Hz
