/- Operations that change the heap. -/
import Derived.Test.YtidkkmkihifeoaaHzF
namespace Go.Proofs.Ytidkkmkihifeoaa.Hz
open Go.RowKit
set_option linter.unusedVariables false
set_option linter.unusedSimpArgs false

section
variable {P : Program} {B : Nat} {w0 w w' : World} {φ : Inj} {h : Hp}

theorem setL_get : ∀ (vs l : List Value) (i k : Nat), i + vs.length ≤ l.length → (setL l i vs)[k]? = if i ≤ k ∧ k < i + vs.length then vs[k - i]? else l[k]?
  | [], l, i, k, _ => by
    simp only [setL, List.length_nil, Nat.add_zero]
    rw [if_neg (by omega)]
  | v :: vs, l, i, k, hl => by
    simp only [List.length_cons] at hl ⊢
    simp only [setL]
    rw [setL_get vs (l.set i v) (i + 1) k (by simp; omega)]
    by_cases h1 : k = i
    · subst h1
      rw [if_neg (by omega), if_pos (by omega), List.getElem?_set_self (by omega), Nat.sub_self]
      rfl
    · by_cases h2 : i + 1 ≤ k ∧ k < i + 1 + vs.length
      · rw [if_pos h2, if_pos (by omega), show k - i = (k - (i + 1)) + 1 by omega, List.getElem?_cons_succ]
      · rw [if_neg h2, if_neg (by omega), List.getElem?_set_ne (by omega)]

/-- What an effect comes to. -/
def Ends (P : Program) (B : Nat) (w0 : World) (φ : Inj) (w : World) (s : Sem Next) (v : Value) (h2 : Hp) : Prop :=
  ∃ φ' v' w', (s.run P w = .ok (.value v') w' ∨ (s.run P w = .ok .skip w' ∧ v' = undef)) ∧ φ <+: φ' ∧ Rel P B w0 φ' h2 w' ∧ RelV φ' v v'
def EndsV (P : Program) (B : Nat) (w0 : World) (φ : Inj) (w : World) (s : Sem Value) (v : Value) (h2 : Hp) : Prop :=
  ∃ φ' v' w', s.run P w = .ok v' w' ∧ φ <+: φ' ∧ Rel P B w0 φ' h2 w' ∧ RelV φ' v v'
theorem EndsV.next {s : Sem Value} {v : Value} {h2 : Hp} (k : EndsV P B w0 φ w s v h2) : Ends P B w0 φ w (do pure (.value (← s)) : Sem Next) v h2 := by
  obtain ⟨φ', v', w', h1, r⟩ := k
  exact ⟨φ', v', w', .inl (by simp [h1]), r⟩

theorem push_below (w : World) (o : Obj) : Below w.heap.size w { w with heap := w.heap.push o } :=
  ⟨rfl, rfl, rfl, by simp, fun k hk => by
    show (w.heap.push o)[k]? = _
    rw [Array.getElem?_push, if_neg (by omega)]⟩
theorem push_at (w : World) (o : Obj) : ({ w with heap := w.heap.push o } : World).heap[w.heap.size]? = some o := by simp

/-- A new object out of cells that are related to what the block holds. -/
theorem Rel.made (R : Rel P B w0 φ h w) {e : TypeId} {esz : Nat} {cells : List Value} {cs : Array Value} (hz : szOf P e = some esz) (hok : cells.all okCell = true) {rest l : List Value} (hl : cs.toList = l ++ rest) (ha : All2 (RelC φ) cells l) (d : Nat) :
    Rel P B w0 (φ ++ [⟨w.heap.size, 0, cs.size, esz, true⟩]) (h ++ [⟨true, true, e, cells⟩]) { w with heap := w.heap.push (.cells cs e), drawn := d } :=
  R.new (fr := (0, 0)) ⟨rfl, rfl, rfl, by simp, fun k hk => by
    show (w.heap.push _)[k]? = _
    rw [Array.getElem?_push, if_neg (by omega)]⟩ hz (by simp) (fun i _ => by simp) hok ⟨l, hl, ha⟩
theorem at_end (R : Rel P B w0 φ h w) (p : Pl) : (φ ++ [p])[h.length]? = some p := by
  rw [List.getElem?_append_right (by rw [R.len]; exact Nat.le_refl _)]
  simp [R.len]
theorem relV_new (R : Rel P B w0 φ h w) (p : Pl) : RelV (φ ++ [p]) (.pointer (some ⟨h.length, 0, none⟩)) (.pointer (some ⟨p.block, p.off, none⟩)) :=
  relV_of ⟨p, at_end R p, rfl, by simp⟩
theorem relV_row (R : Rel P B w0 φ h w) (p : Pl) {n c c' : Nat} (h1 : c ≤ c') (h2 : n ≤ c') (h3 : p.rw = true → p.off + c' * p.esz ≤ p.size) : RelV (φ ++ [p]) (.slice (some ⟨h.length, 0, none⟩) n c) (.slice (some ⟨p.block, p.off, none⟩) n c') :=
  relV_of ⟨p, c', _, at_end R p, rfl, h1, h2, rfl, .inl ⟨by simp, fun hr => by simpa using h3 hr⟩⟩

theorem elOf_spec {t e : TypeId} {sz bt : Nat} {zs : List Value} (k : elOf P t = some (e, sz, bt, zs)) : P.underlying t = some (.slice e) ∧ szOf P e = some sz ∧ byOf P e = some bt ∧ ∃ z, zeroOf P e = some z ∧ zs = z.cells.toList ∧ zs.all scal = true ∧ zs.length = sz ∧ 0 < sz := by
  simp only [elOf, Option.bind_eq_some_iff] at k
  obtain ⟨e', he, sz', hsz, bt', hbt, z, hz, k⟩ := k
  split at k
  · rename_i hc
    simp only [Option.some.injEq, Prod.mk.injEq] at k
    obtain ⟨rfl, rfl, rfl, rfl⟩ := k
    have hzl : cellsL z = z.cells.toList := by cases z <;> rfl
    exact ⟨elemR he, hsz, hbt, z, hz, hzl, hc.1, hc.2.1, hc.2.2⟩
  · cases k

theorem infoR {t : TypeId} {sz bt : Nat} {z : Value} (h1 : szOf P t = some sz) (h2 : byOf P t = some bt) (h3 : zeroOf P t = some z) : ∃ i, P.info? t = some i ∧ i.size = sz ∧ i.bytes = bt ∧ i.zero = some z := by
  simp only [szOf, byOf, zeroOf, Option.map_eq_some_iff, Option.bind_eq_some_iff] at h1 h2 h3
  obtain ⟨i, hi, a⟩ := h1
  obtain ⟨j, hj, b⟩ := h2
  obtain ⟨k, hk, c⟩ := h3
  rw [hi] at hj hk
  injection hj with hj; subst hj
  injection hk with hk; subst hk
  exact ⟨i, hi, a, b, c⟩
/-- The half of append in which a new array is made. -/
theorem append_grows {h2 : Hp} {st xt e : TypeId} {sz bt m n c' : Nat} {zs : List Value} (hel : elOf P st = some (e, sz, bt, zs))
    (R2 : Rel P B w0 φ h2 w) {x' : Value} {base : Option Addr} {old xs old' xs' : List Value} (hsrc : Src P sz xt x' m xs' w) (hxs : All2 (RelC φ) xs xs') (hok : xs.all okCell = true)
    (ho : (Builtin.firstCells sz n (.slice base n c')).run P w.drew = .ok old'.toArray w.drew) (hos : All2 (RelC φ) old old') (hook : old.all okCell = true) (hol : old.length = n * sz) (ty : TypeId)
    (hc : ¬ n + m ≤ c') (hb : n + m ≤ big) (hb2 : (n + m) * bt ≤ big) :
    EndsV P B w0 φ w (Builtin.append_ #[st, xt] ty #[.slice base n c', x']) (.slice (some ⟨h2.length, 0, none⟩) (n + m) (n + m)) (h2 ++ [⟨true, true, e, old ++ xs⟩]) := by
  have hbig : big = 70368744177664 := rfl
  obtain ⟨hu, hsz, hbt, z, hz, rfl, _, hzs, _⟩ := elOf_spec hel
  have hzc : z.cells.size = sz := by simpa using hzs
  obtain ⟨i, hi, rfl, rfl, hiz⟩ := infoR hsz hbt hz
  have hrun := run_append_grow_src (P := P) w st xt ty e i z hu hi hiz base n c' old' ho x' m xs' hsrc (by omega) (by omega) (growslice_fits (by omega) (by omega))
  have hge := grownCap_ge w (n + m) c' e
  have h1 := hos.length
  have h2l := hsrc.newsLen
  have hcs : ((old' ++ xs').toArray ++ Builtin.zeroCells z.cells (grownCap w (n + m) c' e - (n + m))).size = grownCap w (n + m) c' e * i.size := by
    have h3 : (grownCap w (n + m) c' e - (n + m)) * i.size + (n + m) * i.size = grownCap w (n + m) c' e * i.size := by rw [← Nat.add_mul]; congr 1; omega
    have h4 : (n + m) * i.size = n * i.size + m * i.size := Nat.add_mul _ _ _
    simp only [Array.size_append, List.size_toArray, size_zeroCells, hzc, List.length_append]
    omega
  have R3 := R2.made (e := e) (cells := old ++ xs) (cs := (old' ++ xs').toArray ++ Builtin.zeroCells z.cells (grownCap w (n + m) c' e - (n + m))) hsz (by simp [hook, hok]) (rest := (Builtin.zeroCells z.cells (grownCap w (n + m) c' e - (n + m))).toList) (l := old' ++ xs') (by simp) (hos.append hxs) (w.drawn + 1)
  refine ⟨_, .slice (some ⟨w.heap.size, 0, none⟩) (n + m) (grownCap w (n + m) c' e), _, hrun, List.prefix_append _ _, R3, ?_⟩
  refine relV_row R2 ⟨w.heap.size, 0, _, i.size, true⟩ hge hge fun _ => ?_
  rw [hcs]; simp

theorem wset_eq : ∀ (vs : List Value) (i b : Nat) (w : World), w.setCells b i vs = wset w b i vs
  | [], _, _, _ => rfl
  | _ :: vs, i, b, _ => wset_eq vs (i + 1) b _

theorem rep_get (l : List Value) : ∀ (n i : Nat), i < n * l.length → (rep n l)[i]? = l[i % l.length]?
  | 0, i, h => by simp at h
  | n + 1, i, h => by
    have e : rep (n + 1) l = l ++ rep n l := by simp [rep, List.replicate_succ]
    rw [e]
    by_cases hi : i < l.length
    · rw [List.getElem?_append_left hi, Nat.mod_eq_of_lt hi]
    · rw [List.getElem?_append_right (by omega), rep_get l n (i - l.length) (by rw [Nat.add_mul] at h; omega)]
      congr 1
      exact (Nat.mod_eq_sub_mod (by omega)).symm
theorem rep_length (l : List Value) (n : Nat) : (rep n l).length = n * l.length := by
  simp [rep, List.length_flatten, List.map_replicate, List.sum_replicate_nat]
theorem madeRow (n : Nat) (z : Array Value) : ((Array.range (n * z.size)).map (fun i => z[i % z.size]!)).toList = rep n z.toList := by
  apply List.ext_getElem?
  intro i
  by_cases hi : i < n * z.size
  · rw [rep_get z.toList n i (by simpa using hi)]
    have hz : 0 < z.size := by
      rcases Nat.eq_zero_or_pos z.size with h0 | h0
      · rw [h0] at hi; simp at hi
      · exact h0
    have hm : i % z.size < z.size := Nat.mod_lt _ hz
    simp [hi, hm]
  · rw [List.getElem?_eq_none (by simp; omega), List.getElem?_eq_none (by rw [rep_length]; simp; omega)]

theorem rep_scal {zs : List Value} (h : zs.all scal = true) (n : Nat) : (rep n zs).all scal = true := by
  refine List.all_eq_true.2 fun a ha => ?_
  simp only [rep, List.mem_flatten, List.mem_replicate] at ha
  obtain ⟨l, ⟨_, rfl⟩, ha⟩ := ha
  exact List.all_eq_true.1 h a ha
theorem all_ok {zs : List Value} (h : zs.all scal = true) : zs.all okCell = true := List.all_eq_true.2 fun a ha => okCell_scal (List.all_eq_true.1 h a ha)
theorem relC_scals {zs : List Value} (h : zs.all scal = true) : All2 (RelC φ) zs zs := All2.refl fun a ha => relC_scal (List.all_eq_true.1 h a ha)

/-- append. -/
theorem append_sound (R : Rel P B w0 φ h w) {st xt : TypeId} {s x s' x' v : Value} {h2 : Hp} (e : aappend P h st xt s x = some (v, h2)) (hs : RelV φ s s') (hx : RelV φ x x') (ty : TypeId) :
    EndsV P B w0 φ w (Builtin.append_ #[st, xt] ty #[s', x']) v h2 := by
  unfold aappend at e
  simp only [Option.bind_eq_some_iff, Prod.exists] at e
  obtain ⟨el, sz, bt, zs, hel, xs, m, hsrc, e⟩ := e
  obtain ⟨hok, xs', hS, hxs⟩ := src_sound R hsrc hx
  obtain ⟨hu, hsz, hbt, z, hz, rfl, hzsc, hzs, hpos⟩ := elOf_spec hel
  obtain ⟨i, hi, rfl, rfl, hiz⟩ := infoR hsz hbt hz
  have hxl : xs.length = m * i.size := by rw [hxs.length]; exact hS.newsLen
  -- an append of nothing
  have none_ : ∀ (base : Option Addr) (n c' : Nat), m = 0 → n ≤ c' → (Builtin.append_ #[st, xt] ty #[.slice base n c', x']).run P w = .ok (.slice base n c') w := by
    intro base n c' hm hn
    subst hm
    have hx0 : xs' = [] := List.eq_nil_of_length_eq_zero (by simpa using hS.newsLen)
    have hc0 := hS.cells
    rw [hx0] at hc0
    cases base with
    | some a => rcases hS.kind with ⟨e', hk⟩ | hk <;> simp [Builtin.append_, und hu, und hk, sizeOf, typeInfo, hi, hS.len, hn, hc0, storeCells]
    | none => rcases hS.kind with ⟨e', hk⟩ | hk <;> simp [Builtin.append_, und hu, und hk, sizeOf, typeInfo, hi, hS.len, hn, hc0]
  split at e
  · obtain ⟨_, _, rfl⟩ := hs
    split at e
    · rename_i hm
      injection e with e; injection e with e1 e2; subst e1; subst e2
      exact ⟨φ, _, w, none_ none 0 0 hm (Nat.le_refl _), List.prefix_refl _, R, mkV rfl⟩
    · rename_i hm
      split at e
      · rename_i hb
        injection e with e; injection e with e1 e2; subst e1; subst e2
        have := append_grows (P := P) (n := 0) (c' := 0) (base := none) (old := []) (old' := []) hel R hS hxs hok (run_firstCells_none w.drew _ 0 0 0) trivial rfl (by simp) ty (by omega) (by omega) (by simpa using hb.2)
        simpa using this
      · cases e
  · rename_i a n c
    obtain ⟨p, c', a', hp, hsp, hcc, hnc, rfl, hor⟩ := hs
    split at e
    · rename_i hm
      injection e with e; injection e with e1 e2; subst e1; subst e2
      exact ⟨φ, _, w, none_ (some a') n c' hm hnc, List.prefix_refl _, R, relV_of ⟨p, c', a', hp, hsp, hcc, hnc, rfl, hor⟩⟩
    · rename_i hm
      split at e
      · cases e
      · rename_i hea
        have hea' : elAt h a.block = some el := Decidable.of_not_not hea
        simp only [elAt, Option.map_eq_some_iff] at hea'
        obtain ⟨ob, hob, rfl⟩ := hea'
        have hze := R.esz _ ob p hob hp
        rw [hsz] at hze
        injection hze with hze
        split at e
        · rename_i hfit
          split at e
          · rename_i hcs
            injection e with e; injection e with e1 e2; subst e1; subst e2
            rcases hor with ⟨rfl, hcap⟩ | ⟨_, hc0⟩
            · obtain ⟨ob1, ho1, hl1, hr1, hi1⟩ := canSet_some hcs
              rw [hob] at ho1
              injection ho1 with ho1; subst ho1
              obtain ⟨hB, hsize, cs, fr, hk, hcsz, hf⟩ := (R.obj _ ob p hob hp hl1).own hr1
              have hnl := hS.newsLen
              have hrun := run_append_room_src (P := P) w st xt ty ob.elem i hu hi p.block (p.off + a.off) n c' x' m xs' hS (by omega)
                (fun j hj => by rw [cell_of hk]; rw [Array.getElem?_eq_getElem (by omega)]; rfl) (fun j hj => frozen_no hk (hf _ (by omega)))
              refine ⟨φ, _, _, hrun, List.prefix_refl _, ?_, relV_of ⟨p, c', _, hp, hsp, by omega, by omega, rfl, .inl ⟨rfl, hcap⟩⟩⟩
              rw [wset_eq, show p.off + a.off + n * i.size = p.off + (a.off + n * i.size) by omega]
              exact Rel.sets hp xs xs' _ h w R (by rw [hxl]; exact hcs) hxs hok
            · omega
          · cases e
        · rename_i hfit
          split at e
          · rename_i hb
            obtain ⟨hb1, hb2, hcs⟩ := hb
            obtain ⟨ob1, ho1, hl1, hr1, hi1⟩ := canSet_some hcs
            rw [hob] at ho1
            injection ho1 with ho1; subst ho1
            simp only [Option.map_eq_some_iff, Prod.mk.injEq] at e
            obtain ⟨old, hold, rfl, rfl⟩ := e
            obtain ⟨old', k1, k2, k3⟩ := R.cells hp _ _ old hold
            have hook := R.okCells hold
            have Rk := R.kill a.block
            have hkl : (kill h a.block).length = h.length := by simp [kill]
            by_cases hfit' : n + m ≤ c'
            · -- in place
              rcases hor with ⟨rfl, hcap⟩ | ⟨_, hc0⟩
              · obtain ⟨hB, hsize, cs, fr, hk, hcsz, hf⟩ := (R.obj _ ob p hob hp hl1).own hr1
                have hrw : p.rw = true := (R.obj _ ob p hob hp hl1).rw.trans hr1
                have hcap' := hcap hrw
                rw [← hze] at hcap'
                have hnl := hS.newsLen
                have hmul : (n + m) * i.size ≤ c' * i.size := Nat.mul_le_mul_right _ hfit'
                rw [Nat.add_mul] at hmul
                have hrun := run_append_room_src (P := P) w st xt ty ob.elem i hu hi p.block (p.off + a.off) n c' x' m xs' hS hfit'
                  (fun j hj => by rw [cell_of hk]; rw [Array.getElem?_eq_getElem (by omega)]; rfl) (fun j hj => frozen_no hk (hf _ (by omega)))
                rw [wset_eq] at hrun
                have hdead : ∀ (o : Nat) (ob' : Ob) (p' : Pl), (kill h a.block)[o]? = some ob' → φ[o]? = some p' → ob'.live = true → ob'.rw = true → p'.block ≠ p.block := by
                  intro o ob' p' ho' hp' hl' hr'
                  simp only [kill, getElem?_modify'] at ho'
                  split at ho'
                  · simp only [Option.map_eq_some_iff] at ho'
                    obtain ⟨ob2, _, rfl⟩ := ho'
                    cases hl'
                  · rename_i hne
                    exact R.apart o a.block ob' ob p' p ho' hob hp' hp hl' hl1 hr' hr1 (Ne.symm hne)
                have Rw := Rk.world (wset_below (vs := xs') hB (p.off + a.off + n * i.size)) p.block (fun k hk' _ => wset_other hk' _) hdead
                obtain ⟨cs2, hk2, hcl⟩ := wset_heap (vs := xs') (p.off + a.off + n * i.size) p.block hk
                have hcs2 : cs2.size = cs.size := by
                  have := congrArg List.length hcl
                  have hs : ∀ (vs l : List Value) (i : Nat), (setL l i vs).length = l.length := by
                    intro vs
                    induction vs with
                    | nil => intro l i; rfl
                    | cons v vs ih => intro l i; simp [setL, ih]
                  rw [hs] at this
                  simpa using this
                have hollen := k3.length
                have Rn := Rw.adopt ⟨true, true, ob.elem, old ++ xs⟩ ⟨p.block, p.off + a.off, p.size, i.size, true⟩ hsz ⟨rfl, by simp [hook, hok], fun j v hj => ?_, fun _ => ⟨hB, ?_, cs2, fr, hk2, hcs2.trans hcsz, hf⟩, fun hh => by cases hh⟩ hdead
                · refine ⟨_, _, _, hrun, List.prefix_append _ _, Rn, ?_⟩
                  have := relV_row Rw ⟨p.block, p.off + a.off, p.size, i.size, true⟩ (n := n + m) (c := n + m) (c' := c') hfit' hfit' (fun _ => hcap')
                  rw [hkl] at this
                  exact this
                · -- a cell of the new object
                  obtain ⟨v', hv1, hv2⟩ := (k3.append hxs).get j v hj
                  refine ⟨v', ?_, hv2⟩
                  rw [cell_of hk2]
                  have hget := setL_get xs' cs.toList (p.off + a.off + n * i.size) (p.off + a.off + j) (by simp; omega)
                  have h4 : cs2[p.off + a.off + j]? = cs2.toList[p.off + a.off + j]? := by simp
                  rw [h4, hcl, hget]
                  by_cases hj2 : j < n * i.size
                  · rw [if_neg (by omega)]
                    rw [List.getElem?_append_left (by omega)] at hv1
                    have := k2 j v' hv1
                    rw [cell_of hk] at this
                    simpa using this
                  · rw [List.getElem?_append_right (by omega)] at hv1
                    have hjl : j - old'.length < xs'.length := (List.getElem?_eq_some_iff.1 hv1).1
                    rw [if_pos (by omega), show p.off + a.off + j - (p.off + a.off + n * i.size) = j - old'.length by omega]
                    exact hv1
                · show p.off + a.off + (old ++ xs).length ≤ p.size
                  simp only [List.length_append]
                  omega
              · omega
            · -- a new array
              have hfc : (Builtin.firstCells i.size n (.slice (some a') n c')).run P w.drew = .ok old'.toArray w.drew := by
                rcases hor with ⟨rfl, _⟩ | ⟨rfl, _⟩
                · exact run_firstCells_some w.drew i.size n _ n c' old' k1 (fun j u hj => by rw [addr_add]; exact k2 j u hj)
                · have : old' = [] := List.eq_nil_of_length_eq_zero (by simpa using k1)
                  subst this
                  exact run_firstCells_some w.drew i.size 0 _ 0 c' [] (by simp) (fun j u hj => by simp at hj)
              have := append_grows (P := P) (base := some a') hel Rk hS hxs hok hfc k3 hook (cellsAt_len hold) ty hfit' hb1 hb2
              rw [hkl] at this
              exact this
          · cases e
  · cases e

/-- clear. -/
theorem clear_sound (R : Rel P B w0 φ h w) {t : TypeId} {x x' v : Value} {h2 : Hp} (e : aclear P h t x = some (v, h2)) (hx : RelV φ x x') (ty : TypeId) :
    EndsV P B w0 φ w (Builtin.clear_ #[t] ty #[x']) v h2 := by
  unfold aclear at e
  simp only [Option.bind_eq_some_iff, Prod.exists] at e
  obtain ⟨el, sz, bt, zs, hel, e⟩ := e
  obtain ⟨hu, hsz, hbt, z, hz, rfl, hzsc, hzs, hpos⟩ := elOf_spec hel
  have hzc : z.cells.size = sz := by simpa using hzs
  split at e
  · obtain ⟨_, _, rfl⟩ := hx
    injection e with e; injection e with e1 e2; subst e1; subst e2
    exact ⟨φ, undef, w, by simp [Builtin.clear_, und hu, undef], List.prefix_refl _, R, relV_undef φ⟩
  · rename_i a n c
    obtain ⟨p, c', a', hp, hsp, hcc, hnc, rfl, hor⟩ := hx
    split at e
    · rename_i hn
      subst hn
      injection e with e; injection e with e1 e2; subst e1; subst e2
      exact ⟨φ, undef, w, by simp [Builtin.clear_, und hu, undef], List.prefix_refl _, R, relV_undef φ⟩
    · rename_i hn
      split at e
      · rename_i hcond
        obtain ⟨hea, hcan⟩ := hcond
        injection e with e; injection e with e1 e2; subst e1; subst e2
        rcases hor with ⟨rfl, hcap⟩ | ⟨h0, _⟩
        · have hz2 : Builtin.zeroCells z.cells n = (Builtin.zeroCells z.cells n).toList.toArray := by simp
          have hrow : (Builtin.zeroCells z.cells n).toList = rep n z.cells.toList := madeRow n z.cells
          have hok : (rep n z.cells.toList).all okCell = true := all_ok (rep_scal hzsc n)
          have hl : (rep n z.cells.toList).length = n * sz := by rw [rep_length]; simp [hzc]
          obtain ⟨ob, ho, hlv, hr, hi⟩ := canSet_some hcan
          obtain ⟨hB, hsize, cw, fr, hk, hcsz, hf⟩ := (R.obj _ ob p ho hp hlv).own hr
          have hst := run_stores (P := P) (vs := rep n z.cells.toList) 0 p.block (p.off + a.off) hk (by simpa [hcsz] using hf) (by omega) (all_one (φ := φ) (relC_scals (rep_scal hzsc n)) hok)
          refine ⟨φ, .tuple #[], wset w p.block (p.off + a.off) (rep n z.cells.toList), ?_, List.prefix_refl _, Rel.sets hp _ _ _ _ _ R (by rw [hl]; exact hcan) (relC_scals (rep_scal hzsc n)) hok, relV_undef φ⟩
          cases n with
          | zero => exact absurd rfl hn
          | succ n =>
            simp only [Builtin.clear_, Sem.run_bind, und hu, Result.andThen_ok, zeroR hz, hrow, Option.toList]
            simp only [Nat.add_zero] at hst
            simp [hst, und hu, zeroR hz, hrow]
        · exact absurd h0 hn
      · cases e
  · cases e

/-- copy. -/
theorem copy_sound (R : Rel P B w0 φ h w) {t st : TypeId} {d s d' s' v : Value} {h2 : Hp} (e : acopy P h t d s = some (v, h2)) (hd : RelV φ d d') (hs : RelV φ s s') (ty : TypeId) :
    EndsV P B w0 φ w (Builtin.copy_ #[t, st] ty #[d', s']) v h2 := by
  unfold acopy at e
  simp only [Option.bind_eq_some_iff, Prod.exists] at e
  obtain ⟨el, sz, bt, zs, hel, e⟩ := e
  obtain ⟨hu, hsz, hbt, z, hz, rfl, hzsc, hzs, hpos⟩ := elOf_spec hel
  have len : ∀ (a : Option Addr) (n c : Nat), (Builtin.lenOf (.slice a n c)).run P w = .ok n w := fun _ _ _ => rfl
  have nothing : ∀ (b : Addr) (m c : Nat), (Builtin.firstCells sz 0 (.slice (some b) m c)).run P w = .ok #[] w := fun b m c => by
    have := run_firstCells_some (P := P) w sz 0 b m c [] (by simp) (fun j u hj => by simp at hj)
    simpa using this
  split at e
  · obtain ⟨_, _, rfl⟩ := hd
    obtain ⟨_, _, rfl⟩ := hs
    injection e with e; injection e with e1 e2; subst e1; subst e2
    exact ⟨φ, .int .i64 0, w, by simp [Builtin.copy_, und hu, len, szR hsz, run_firstCells_none]; rfl, List.prefix_refl _, R, mkV rfl⟩
  · obtain ⟨_, _, rfl⟩ := hd
    obtain ⟨p, c', a', hp, hsp, hcc, hnc, rfl, hor⟩ := hs
    injection e with e; injection e with e1 e2; subst e1; subst e2
    exact ⟨φ, .int .i64 0, w, by simp [Builtin.copy_, und hu, len, szR hsz, nothing]; rfl, List.prefix_refl _, R, mkV rfl⟩
  · obtain ⟨p, c', a', hp, hsp, hcc, hnc, rfl, hor⟩ := hd
    obtain ⟨_, _, rfl⟩ := hs
    injection e with e; injection e with e1 e2; subst e1; subst e2
    exact ⟨φ, .int .i64 0, w, by simp [Builtin.copy_, und hu, len, szR hsz, run_firstCells_none, storeCells]; rfl, List.prefix_refl _, R, mkV rfl⟩
  · rename_i a n c b m c2
    obtain ⟨p, c', a', hp, hsp, hcc, hnc, rfl, hor⟩ := hd
    obtain ⟨p2, c2', b', hp2, hsp2, hcc2, hnc2, rfl, hor2⟩ := hs
    split at e
    · rename_i h0
      injection e with e; injection e with e1 e2; subst e1; subst e2
      have h0' : Nat.min m n = 0 := h0
      exact ⟨φ, .int .i64 0, w, by simp [Builtin.copy_, und hu, len, szR hsz, h0, h0', nothing, storeCells]; rfl, List.prefix_refl _, R, mkV rfl⟩
    · rename_i h0
      split at e
      · rename_i hcan
        simp only [Option.map_eq_some_iff, Prod.mk.injEq] at e
        obtain ⟨cs, hcs, rfl, rfl⟩ := e
        have hok := R.okCells hcs
        obtain ⟨vs', k1, k2, k3⟩ := R.cells hp2 _ _ cs hcs
        rcases hor with ⟨rfl, hcap⟩ | ⟨hn0, _⟩
        rotate_left
        · omega
        rcases hor2 with ⟨rfl, _⟩ | ⟨hm0, _⟩
        rotate_left
        · omega
        have hfc := run_firstCells_some (P := P) w sz (min m n) ⟨p2.block, p2.off + b.off, none⟩ m c2' vs' k1 (fun j u hj => by rw [addr_add]; exact k2 j u hj)
        obtain ⟨ob, ho, hlv, hr, hi⟩ := canSet_some hcan
        obtain ⟨hB, hsize, cw, fr, hk, hcsz, hf⟩ := (R.obj _ ob p ho hp hlv).own hr
        have hl := cellsAt_len hcs
        have hst := run_stores (P := P) (vs := vs') 0 p.block (p.off + a.off) hk (by simpa [hcsz] using hf) (by omega) (all_one k3 hok)
        simp only [Nat.add_zero] at hst
        refine ⟨φ, .int .i64 (min m n : Nat), wset w p.block (p.off + a.off) vs', ?_, List.prefix_refl _, Rel.sets hp _ _ _ _ _ R (by rw [hl]; exact hcan) k3 hok, mkV rfl⟩
        have hfc' : (Builtin.firstCells sz (Nat.min m n) (.slice (some ⟨p2.block, p2.off + b.off, none⟩) m c2')).run P w = .ok vs'.toArray w := hfc
        simp [Builtin.copy_, und hu, len, szR hsz, hfc', hst]
        rfl
      · cases e
  · cases e

end
end Go.Proofs.Ytidkkmkihifeoaa.Hz
