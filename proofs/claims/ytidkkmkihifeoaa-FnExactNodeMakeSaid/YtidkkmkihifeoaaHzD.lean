/- The other operations that ask nothing of the heap, and those that read it. -/
import Derived.Test.YtidkkmkihifeoaaHzC
namespace Go.Proofs.Ytidkkmkihifeoaa.Hz
open Go.RowKit
set_option linter.unusedVariables false
set_option linter.unusedSimpArgs false

section
variable {P : Program} {φ : Inj}

theorem foldl_setL (off : Nat) : ∀ (l : List Value) (k : Nat) (cells : Array Value), ((l.zipIdx k).foldl (fun (cs : Array Value) (x : Value × Nat) => cs.setIfInBounds (off + x.2) x.1) cells).toList = setL cells.toList (off + k) l
  | [], k, cells => rfl
  | v :: vs, k, cells => by
    simp only [List.zipIdx_cons, List.foldl_cons, setL]
    rw [foldl_setL off vs (k + 1)]
    simp [Nat.add_assoc]
theorem zipFold (off : Nat) (vs cells : Array Value) : (vs.zipIdx.foldl (fun (cs : Array Value) (x : Value × Nat) => cs.setIfInBounds (off + x.2) x.1) cells).toList = setL cells.toList off vs.toList := by
  rw [← Array.foldl_toList, Array.toList_zipIdx]
  exact foldl_setL off vs.toList 0 cells
theorem rel_setL : ∀ {vs vs' cs cs' : List Value} (off : Nat), All2 (RelC φ) vs vs' → All2 (RelC φ) cs cs' → All2 (RelC φ) (setL cs off vs) (setL cs' off vs')
  | [], [], _, _, _, _, h => h
  | _ :: _, _ :: _, _, _, off, h, k => rel_setL (off + 1) h.2 (k.set off h.1)
  | [], _ :: _, _, _, _, h, _ => h.elim
  | _ :: _, [], _, _, _, h, _ => h.elim
theorem rel_fill {place : Nat → Option (Nat × Nat)} : ∀ {parts : List (Nat × Value)} {parts' : List (Nat × Value)} {cs cs2 : List Value} {cells : Array Value},
    All2 (fun p q => p.1 = q.1 ∧ RelV φ p.2 q.2) parts parts' → All2 (RelC φ) cs cells.toList → fillL place cs parts = some cs2 → ∃ cells2, Instr.fill place cells parts' = some cells2 ∧ All2 (RelC φ) cs2 cells2.toList
  | [], [], cs, cs2, cells, _, h, e => by
    injection e with e; subst e
    exact ⟨cells, rfl, h⟩
  | (i, v) :: ps, (i', v') :: qs, cs, cs2, cells, hp, h, e => by
    obtain ⟨⟨hi, hv⟩, hr⟩ := hp
    simp only at hi hv
    subst hi
    simp only [fillL] at e
    split at e
    · cases e
    · rename_i off size hpl
      simp only [Option.bind_eq_some_iff] at e
      obtain ⟨vs, hvs, e⟩ := e
      split at e
      · rename_i hc
        have r := relV_cellsO hv hvs
        have l1 := r.length
        have l2 := h.length
        simp only [Array.length_toList] at l1 l2
        simp only [Instr.fill, hpl]
        rw [if_neg (by simp; omega)]
        exact rel_fill hr (by rw [zipFold]; exact rel_setL off r h) e
      · cases e
  | [], _ :: _, _, _, _, h, _, _ => h.elim
  | _ :: _, [], _, _, _, h, _, _ => h.elim

theorem rel_zero {z : Value} (h : (cellsL z).all scal = true) : All2 (RelC φ) (cellsL z) z.cells.toList := by
  have : z.cells.toList = cellsL z := by cases z <;> rfl
  rw [this]
  exact All2.refl fun a ha => relC_scal (by simpa using List.all_eq_true.1 h a ha)

def RO (φ : Inj) (x x' : Option Value) : Prop := match x, x' with | none, none => True | some v, some v' => RelV φ v v' | _, _ => False
theorem RO.map {ρ ρ' : Operand → Value} (hρ : ∀ x, RelV φ (ρ x) (ρ' x)) (o : Option Operand) : RO φ (o.map ρ) (o.map ρ') := by cases o <;> simp [RO, hρ]

theorem q_bound {x : Option Value} {x' : Option Value} {d i : Int} (e : bound d x = some i) (r : RO φ x x') :
    (x = none ∧ x' = none ∧ i = d) ∨ (∃ k, x = some (.int k i) ∧ x' = some (.int k i)) := by
  cases x with
  | none => cases x' with
    | none => injection e with e; exact .inl ⟨rfl, rfl, e.symm⟩
    | some _ => exact r.elim
  | some v => cases x' with
    | none => exact r.elim
    | some v' =>
      unfold bound at e
      split at e
      · rename_i h; cases h
      · rename_i k j h; injection h with h; subst h; injection e with e; subst e
        exact .inr ⟨k, rfl, by rw [rInt (φ := φ) r]⟩
      · cases e

theorem sBound {k : IntKind} {i : Int} {y : Nat} {code : BoundsCode} (h0 : 0 ≤ i) (h1 : i ≤ y) (w : World) : (Instr.sliceBound (.int k i) y code).run P w = .ok i.toNat w := by
  simp [Instr.sliceBound, asIntOf, h0, h1]

theorem q_bounds {b : Bool} {n c : Nat} {lo hi lo' hi' : Option Value} {l h : Int}
    (hl : (lo = none ∧ lo' = none ∧ l = 0) ∨ (∃ k, lo = some (.int k l) ∧ lo' = some (.int k l))) (hh : (hi = none ∧ hi' = none ∧ h = n) ∨ (∃ k, hi = some (.int k h) ∧ hi' = some (.int k h)))
    (h1 : 0 ≤ l) (h2 : l ≤ h) (h3 : h ≤ c) (w : World) : (Instr.sliceBounds b n c lo' hi' none).run P w = .ok (l.toNat, h.toNat, c) w := by
  unfold Instr.sliceBounds
  rcases hh with ⟨rfl, rfl, rfl⟩ | ⟨kh, rfl, rfl⟩ <;> rcases hl with ⟨rfl, rfl, rfl⟩ | ⟨kl, rfl, rfl⟩
  · simp
  · simp [sBound h1 h2]
  · simp [sBound (show (0 : Int) ≤ h by omega) h3]
  · simp [sBound (show (0 : Int) ≤ h by omega) h3, sBound h1 (show l ≤ (h.toNat : Int) by omega)]
theorem q_bounds3 {b : Bool} {n c : Nat} {lo hi lo' hi' : Option Value} {l h m : Int} {km : IntKind}
    (hl : (lo = none ∧ lo' = none ∧ l = 0) ∨ (∃ k, lo = some (.int k l) ∧ lo' = some (.int k l))) (hh : ∃ k, hi = some (.int k h) ∧ hi' = some (.int k h))
    (h1 : 0 ≤ l) (h2 : l ≤ h) (h3 : h ≤ m) (h4 : m ≤ c) (w : World) : (Instr.sliceBounds b n c lo' hi' (some (.int km m))).run P w = .ok (l.toNat, h.toNat, m.toNat) w := by
  unfold Instr.sliceBounds
  obtain ⟨kh, rfl, rfl⟩ := hh
  rcases hl with ⟨rfl, rfl, rfl⟩ | ⟨kl, rfl, rfl⟩
  · simp [sBound (show (0 : Int) ≤ m by omega) h4, sBound (show (0 : Int) ≤ h by omega) (show h ≤ (m.toNat : Int) by omega)]
  · simp [sBound (show (0 : Int) ≤ m by omega) h4, sBound (show (0 : Int) ≤ h by omega) (show h ≤ (m.toNat : Int) by omega), sBound h1 (show l ≤ (h.toNat : Int) by omega)]

theorem sliceAt_eq {t : TypeId} {d : TypeDesc} (h : P.underlying t = some d) (hd : ∀ n e, d ≠ .array n e) (x : Value) (lo hi mx : Option Value) (w : World) : (Instr.sliceAt t x lo hi mx).run P w = (Instr.slice t x lo hi mx).run P w := by
  unfold Instr.sliceAt
  simp only [Sem.run_bind, und h, Result.andThen_ok]
  all_goals (cases d <;> first | rfl | exact absurd rfl (hd _ _))

theorem none_of {x' : Option Value} (h : RO φ none x') : x' = none := by cases x' <;> simp_all [RO]
theorem q_slice {t : TypeId} {x v x' : Value} {lo hi mx lo' hi' mx' : Option Value} (e : asl P t x lo hi mx = some v) (hx : RelV φ x x') (hlo : RO φ lo lo') (hhi : RO φ hi hi') (hmx : RO φ mx mx') : Q1 P φ (Instr.sliceAt t x' lo' hi' mx') v := by
  unfold asl at e
  split at e
  · obtain rfl := rStr hx
    rename_i s
    split at e
    · cases e
    · rename_i hs
      simp only [Bool.or_eq_true, Bool.not_eq_true', not_or, Bool.not_eq_false, Bool.not_eq_true] at hs
      have hmx0 : mx = none := by cases mx <;> simp_all
      subst hmx0
      obtain rfl := none_of hmx
      simp only [Option.bind_eq_some_iff] at e
      obtain ⟨l, el, h, eh, e⟩ := e
      split at e
      · rename_i hc
        injection e with e; subst e
        refine ⟨_, fun w => ?_, mkV rfl⟩
        rw [sliceAt_eq (strR hs.1) (by simp)]
        unfold Instr.slice
        simp only [Sem.run_bind, und (strR hs.1), Result.andThen_ok, Option.isSome_none, Bool.false_eq_true, if_false, Sem.run_pure, q_bounds (b := false) (q_bound el hlo) (q_bound eh hhi) hc.1 hc.2.1 hc.2.2]
      · cases e
  · obtain ⟨_, _, rfl⟩ := hx
    simp only [Option.bind_eq_some_iff] at e
    obtain ⟨el, hel, sz, hsz, l, el', h, eh, e⟩ := e
    have hu := elemR hel
    split at e
    · rename_i hc
      obtain ⟨rfl, rfl, hmn⟩ := hc
      have hmx0 : mx = none := by cases mx <;> simp_all
      subst hmx0
      obtain rfl := none_of hmx
      injection e with e; subst e
      refine ⟨_, fun w => ?_, mkV rfl⟩
      rw [sliceAt_eq hu (by simp)]
      unfold Instr.slice
      have hb := q_bounds (P := P) (b := true) (n := 0) (c := 0) (q_bound el' hlo) (q_bound eh hhi) (Int.le_refl 0) (Int.le_refl 0) (Int.le_refl 0) w
      simp only [Sem.run_bind, und hu, Result.andThen_ok, hb, szR hsz, Sem.run_pure]
      simp
    · cases e
  · cases e

theorem slice_cap {off c l sz size : Nat} (h : off + c * sz ≤ size) (hl : l ≤ c) : off + l * sz + (c - l) * sz ≤ size := by
  have : l * sz + (c - l) * sz = c * sz := by rw [← Nat.add_mul]; congr 1; omega
  omega
theorem q_slice2 {B : Nat} {w0 w : World} {h : Hp} (R : Rel P B w0 φ h w) {t : TypeId} {x v x' : Value} {lo hi mx lo' hi' mx' : Option Value} (e : asl2 P h t x lo hi mx = some v) (hx : RelV φ x x') (hlo : RO φ lo lo') (hhi : RO φ hi hi') (hmx : RO φ mx mx') : Q1 P φ (Instr.sliceAt t x' lo' hi' mx') v := by
  unfold asl2 at e
  split at e
  · rename_i a n c
    obtain ⟨p, c', a', hp, hsp, hcc, hnc, rfl, hor⟩ := hx
    simp only [Option.bind_eq_some_iff] at e
    obtain ⟨el, hel, sz, hsz, e⟩ := e
    split at e
    · rename_i hea
      simp only [elAt, Option.map_eq_some_iff] at hea
      obtain ⟨ob, hob, rfl⟩ := hea
      have hz := R.esz _ ob p hob hp
      rw [hsz] at hz
      injection hz with hz
      simp only [Option.bind_eq_some_iff] at e
      obtain ⟨l, el', h, eh, e⟩ := e
      have hu := elemR hel
      split at e
      · obtain rfl := none_of hmx
        split at e
        · rename_i hc
          injection e with e; subst e
          have hh : h ≤ (c' : Int) := by omega
          refine ⟨.slice (if c' = l.toNat then some a' else some (a'.add (l.toNat * sz))) (h.toNat - l.toNat) (c' - l.toNat), fun w => ?_, ?_⟩
          · rw [sliceAt_eq hu (by simp)]
            unfold Instr.slice
            simp only [Sem.run_bind, und hu, Result.andThen_ok, q_bounds (b := true) (q_bound el' hlo) (q_bound eh hhi) hc.1 hc.2.1 hh, szR hsz, Sem.run_pure]
            simp
          · refine ⟨p, c' - l.toNat, if c' = l.toNat then a' else a'.add (l.toNat * sz), hp, rfl, by omega, by omega, by split <;> rfl, ?_⟩
            by_cases hcl : c' = l.toNat
            · right; omega
            · rcases hor with ⟨rfl, hcap⟩ | ⟨h1, h2⟩
              · left
                rw [if_neg hcl, addr_add]
                refine ⟨by simp [Nat.add_assoc], fun hr => ?_⟩
                subst hz
                have := slice_cap (l := l.toNat) (hcap hr) (by omega)
                simpa [Nat.add_assoc] using this
              · omega
        · cases e
      · rename_i km m
        have hm' : mx' = some (.int km m) := by
          cases mx' with
          | none => exact hmx.elim
          | some v => rw [rInt (φ := φ) hmx]
        subst hm'
        split at e
        · rename_i hc
          injection e with e; subst e
          have hh : m ≤ (c' : Int) := by omega
          have hhi' : ∃ k, hi = some (.int k h) ∧ hi' = some (.int k h) := by
            rcases q_bound eh hhi with ⟨rfl, _⟩ | h
            · simp at hc
            · exact h
          refine ⟨.slice (if m.toNat = l.toNat then some a' else some (a'.add (l.toNat * sz))) (h.toNat - l.toNat) (m.toNat - l.toNat), fun w => ?_, ?_⟩
          · rw [sliceAt_eq hu (by simp)]
            unfold Instr.slice
            simp only [Sem.run_bind, und hu, Result.andThen_ok, q_bounds3 (b := true) (q_bound el' hlo) hhi' hc.2.1 hc.2.2.1 hc.2.2.2.1 hh, szR hsz, Sem.run_pure]
            simp
          · refine ⟨p, m.toNat - l.toNat, if m.toNat = l.toNat then a' else a'.add (l.toNat * sz), hp, rfl, by omega, by omega, by split <;> rfl, ?_⟩
            by_cases hcl : m.toNat = l.toNat
            · right; omega
            · rcases hor with ⟨rfl, hcap⟩ | ⟨h1, h2⟩
              · left
                rw [if_neg hcl, addr_add]
                refine ⟨by simp [Nat.add_assoc], fun hr => ?_⟩
                subst hz
                have h3 := slice_cap (l := l.toNat) (hcap hr) (by omega)
                have h4 : (m.toNat - l.toNat) * p.esz ≤ (c' - l.toNat) * p.esz := Nat.mul_le_mul_right _ (by omega)
                simp only [Nat.add_assoc] at h3 ⊢
                omega
              · omega
        · cases e
      · cases e
    · cases e
  · exact q_slice e hx hlo hhi hmx

theorem q_index {t : TypeId} {x i v x' i' : Value} (e : aidx P t x i = some v) (hx : RelV φ x x') (hi : RelV φ i i') : Q1 P φ (Instr.indexAt t x' i') v := by
  unfold aidx at e
  split at e
  · obtain ⟨p, c', a', hp, hsp, hcc, hnc, rfl, hor⟩ := hx
    obtain rfl := rInt (φ := φ) hi
    simp only [Option.bind_eq_some_iff] at e
    obtain ⟨el, hel, sz, hsz, e⟩ := e
    split at e
    · rename_i hc
      injection e with e; subst e
      have hu := elemR hel
      rcases hor with ⟨rfl, _⟩ | ⟨h1, _⟩
      · refine ⟨_, fun w => ?_, relV_of ⟨p, hp, rfl, rfl⟩⟩
        simp only [Instr.indexAt, asIntOf, Sem.run_bind, Sem.run_pure, Result.andThen_ok, und hu, if_pos hc, szR hsz, addr_add]
        simp [Nat.add_assoc]
      · omega
    · cases e
  · cases e
theorem q_str {t : TypeId} {x i v x' i' : Value} (e : astr P t x i = some v) (hx : RelV φ x x') (hi : RelV φ i i') : Q1 P φ (Instr.index t x' i') v := by
  unfold astr at e
  split at e
  · rename_i s k i
    obtain rfl := rStr (φ := φ) hx
    obtain rfl := rInt (φ := φ) hi
    split at e
    · rename_i hc
      simp only [Bool.and_eq_true, decide_eq_true_eq] at hc
      simp only [Option.map_eq_some_iff] at e
      obtain ⟨b, hb, rfl⟩ := e
      refine ⟨_, fun w => ?_, mkV rfl⟩
      have hb' : s[i.toNat]? = some b := hb
      simp only [Instr.index, asIntOf, Sem.run_bind, Sem.run_pure, Result.andThen_ok, und (strR hc.1), if_pos hc.2, hb']
    · cases e
  · cases e
theorem q_field {t : TypeId} {x v x' : Value} {f : Nat} (e : afield P t x f = some v) (hx : RelV φ x x') : Q1 P φ (Instr.field t x' f) v := by
  unfold afield at e
  split at e
  · rename_i cs
    obtain ⟨cs', rfl, r⟩ := hx
    simp only [Option.bind_eq_some_iff, Prod.exists] at e
    obtain ⟨off, ft, hf, g, hg, e⟩ := e
    obtain ⟨fs, fd, hu, hfd, rfl, rfl⟩ := fldR hf
    split at e
    · rename_i hgt
      subst hgt
      simp only [Option.map_eq_some_iff] at e
      obtain ⟨sz, hsz, rfl⟩ := e
      refine ⟨.agg (cs'.extract fd.offset (fd.offset + sz)), fun w => ?_, ⟨_, rfl, ?_⟩⟩
      · simp only [Instr.field, Sem.run_bind, und hu, Result.andThen_ok, hfd, asAgg, Sem.run_pure, part, aggR hg, szR hsz, if_true]
      · simp only [Array.toList_extract, List.extract_eq_take_drop]
        exact (r.drop _).take _
    · rename_i hgf
      have hgf' : g = false := by simpa using hgf
      subst hgf'
      obtain ⟨v', hv', rv⟩ := r.get _ _ (by simpa using e)
      refine ⟨v', fun w => ?_, relV_of rv⟩
      have hv2 : cs'[fd.offset]? = some v' := by simpa using hv'
      simp only [Instr.field, Sem.run_bind, und hu, Result.andThen_ok, hfd, asAgg, Sem.run_pure, part, aggR hg, Bool.false_eq_true, if_false, hv2]
  · cases e
theorem mapM_some {α β : Type} (f : α → Option β) (g : α → Sem β) (w : World) (hfg : ∀ a b, f a = some b → (g a).run P w = .ok b w) : ∀ (l : List α) (r : List β), l.mapM f = some r → (l.mapM g).run P w = .ok r w
  | [], r, e => by simp at e; subst e; simp
  | a :: l, r, e => by
    simp only [List.mapM_cons, Option.bind_eq_bind, Option.bind_eq_some_iff, Option.pure_def, Option.some.injEq] at e
    obtain ⟨b, hb, r', hr, rfl⟩ := e
    simp [hfg a b hb, mapM_some f g w hfg l r' hr]

theorem q_build {t : TypeId} {parts : List (Nat × Value)} {parts' : Array (Nat × Value)} {v : Value} (e : abuild P t parts = some v) (h : All2 (fun p q => p.1 = q.1 ∧ RelV φ p.2 q.2) parts parts'.toList) : Q1 P φ (Instr.build t parts') v := by
  unfold abuild at e
  simp only [Option.bind_eq_some_iff] at e
  obtain ⟨pl, hpl, z, hz, e⟩ := e
  unfold placesOf at hpl
  split at hpl
  · rename_i fs hu
    split at e
    · rename_i hs
      simp only [Option.map_eq_some_iff] at e
      obtain ⟨cs, hcs, rfl⟩ := e
      obtain ⟨cells2, hf, r⟩ := rel_fill (cells := z.cells) h (rel_zero hs) hcs
      refine ⟨.agg cells2, fun w => ?_, ⟨_, rfl, by simpa using r⟩⟩
      have hm : (fs.mapM fun f => do pure (f.offset, ← sizeOf f.type) : Sem (Array (Nat × Nat))).run P w = .ok pl.toArray w := by
        rw [Array.mapM_eq_mapM_toList]
        simp only [Sem.run_map]
        rw [mapM_some _ _ w (fun a b hab => ?_) fs.toList pl hpl]
        · rfl
        · simp only [Option.map_eq_some_iff] at hab
          obtain ⟨n, hn, rfl⟩ := hab
          simp [szR hn]
      simp only [Instr.build, Sem.run_bind, zeroR hz, Result.andThen_ok, und hu, hm]
      have hpl' : (fun (x : Nat) => pl.toArray[x]?) = fun (i : Nat) => pl[i]? := by funext i; simp
      rw [hpl', hf]
      rfl
    · cases e
  · cases hpl
theorem q_un {op : UnOp} {x v x' : Value} (e : aun op x = some v) (hx : RelV φ x x') : Q1 P φ (Op.unary op x') v := by
  unfold aun at e
  split at e
  · obtain rfl := rInt (φ := φ) hx; injection e with e; subst e; exact ⟨_, fun w => rfl, mkV rfl⟩
  · obtain rfl := rBool (φ := φ) hx; injection e with e; subst e; exact ⟨_, fun w => rfl, mkV rfl⟩
  · cases e
theorem q_len {t ty : TypeId} {x v x' : Value} (e : alen P t x = some v) (hx : RelV φ x x') : Q1 P φ (Builtin.len_ #[t] ty #[x']) v := by
  unfold alen at e
  split at e
  · obtain rfl := rStr (φ := φ) hx
    split at e
    · rename_i hs; injection e with e; subst e
      exact ⟨_, fun w => by simp [Builtin.len_, und (strR hs), goInt], mkV rfl⟩
    · cases e
  · rename_i a n c
    split at e
    · rename_i hs; injection e with e; subst e
      obtain ⟨el, hel⟩ := sliceR hs
      refine ⟨.int .i64 n, fun w => ?_, mkV rfl⟩
      cases a with
      | none => obtain ⟨rfl, _, rfl⟩ := hx; simp [Builtin.len_, und hel, goInt]
      | some a => obtain ⟨p, c', a', _, _, _, _, rfl, _⟩ := hx; simp [Builtin.len_, und hel, goInt]
    · cases e
  · cases e
theorem q_min {op : Builtin} {ts : Array TypeId} {ty : TypeId} {args args' : List Value} {v : Value} (e : amin op args = some v) (h : All2 (RelV φ) args args') :
    (op = .min ∧ Q1 P φ (Builtin.min_ ts ty args'.toArray) v) ∨ (op = .max ∧ Q1 P φ (Builtin.max_ ts ty args'.toArray) v) := by
  unfold amin at e
  split at e
  · obtain ⟨x', l, rfl, hx, h⟩ := All2.cons_iff.1 h
    obtain ⟨y', l, rfl, hy, h⟩ := All2.cons_iff.1 h
    rw [All2.nil_iff] at h; subst h
    obtain rfl := rInt (φ := φ) hx; obtain rfl := rInt (φ := φ) hy
    split at e
    · injection e with e; subst e; exact .inl ⟨rfl, _, fun w => rfl, mkV rfl⟩
    · cases e
  · obtain ⟨x', l, rfl, hx, h⟩ := All2.cons_iff.1 h
    obtain ⟨y', l, rfl, hy, h⟩ := All2.cons_iff.1 h
    rw [All2.nil_iff] at h; subst h
    obtain rfl := rInt (φ := φ) hx; obtain rfl := rInt (φ := φ) hy
    split at e
    · injection e with e; subst e; exact .inr ⟨rfl, _, fun w => rfl, mkV rfl⟩
    · cases e
  · cases e
theorem Q1.next {s : Sem Value} {v : Value} (h : Q1 P φ s v) : ∃ v', (∀ w, (do pure (.value (← s)) : Sem Next).run P w = .ok (.value v') w) ∧ RelV φ v v' := by
  obtain ⟨v', h, r⟩ := h
  exact ⟨v', fun w => by simp [h], r⟩

theorem relC0_cap {v v' : Value} (h : RelV φ v v') (k : capOk v = true) : RelC0 φ v v' := by
  cases v <;> first | exact h | simp [capOk] at k
/-- A quiet operation. -/
theorem qev_sound {ρ ρ' : Operand → Value} {o : Oper} {v : Value} (hρ : ∀ x, RelV φ (ρ x) (ρ' x)) (e : qev P ρ o.op = some v) : ∃ v', (∀ w, (execOp ρ' o).run P w = .ok (.value v') w) ∧ RelV φ v v' := by
  obtain ⟨dst, op, type, pos, after, guard⟩ := o
  unfold qev at e
  simp only at e
  split at e
  · injection e with e; subst e; exact ⟨_, fun w => rfl, hρ _⟩
  · injection e with e; subst e; exact ⟨_, fun w => rfl, hρ _⟩
  · rename_i c a b
    split at e
    · rename_i t ht
      have hc := hρ c
      rw [ht] at hc
      injection e with e; subst e
      refine ⟨if t then ρ' a else ρ' b, fun w => ?_, by split <;> exact hρ _⟩
      simp only [execOp, rBool (φ := φ) hc, asBool, Sem.run_bind, Sem.run_pure, Result.andThen_ok]
    · cases e
  · rename_i x
    split at e
    · rename_i a ht
      have hc := hρ x
      rw [ht] at hc
      injection e with e; subst e
      obtain ⟨p, hp, hs, hx⟩ := hc
      exact ⟨_, fun w => by simp only [execOp, hx]; rfl, relV_of ⟨p, hp, hs, rfl⟩⟩
    · cases e
  · exact (q_bin e (hρ _) (hρ _) _ _).next
  · exact (q_un e (hρ _)).next
  · rename_i s d x
    split at e
    · rename_i k1 k n hs hd hx
      have hc := hρ x
      rw [hx] at hc
      injection e with e; subst e
      exact ⟨_, fun w => by simp [execOp, rInt (φ := φ) hc, convert, und (intR hs), und (intR hd), Conv.intToInt], mkV rfl⟩
    · rename_i b _ hx
      have hc := hρ x
      rw [hx] at hc
      split at e
      · rename_i hb
        simp only [Bool.and_eq_true] at hb
        injection e with e; subst e
        exact ⟨_, fun w => by simp [execOp, rStr (φ := φ) hc, convert, und (strR hb.1), und (strR hb.2)], mkV rfl⟩
      · cases e
    · cases e
  · rename_i g first cap
    split at e
    · rename_i hf
      simp only [Bool.and_eq_true] at hf
      obtain rfl : first = #[] := by simpa using hf.1
      injection e with e; subst e
      refine ⟨_, fun w => by simp only [execOp, Instr.makeFunc]; rfl, relV_of ⟨rfl, cap.map ρ', by simp, ?_⟩⟩
      rw [Array.toList_map, Array.toList_map]
      exact All2.map2 _ _ fun c hc => relC0_cap (hρ c) (List.all_eq_true.1 hf.2 _ (List.mem_map_of_mem hc))
    · cases e
  · split at e
    · exact (q_slice e (hρ _) (RO.map hρ _) (RO.map hρ _) (RO.map hρ _)).next
    · cases e
  · rename_i t x f
    split at e
    · rename_i a ha
      have hc := hρ x
      rw [ha] at hc
      obtain ⟨p, hp, hsp, hx⟩ := hc
      simp only [Option.bind_eq_some_iff, Prod.exists] at e
      obtain ⟨off, ft, hf, e⟩ := e
      split at e
      · cases e
      · rename_i hn
        simp only [Option.map_eq_some_iff] at e
        obtain ⟨sz, hsz, rfl⟩ := e
        obtain ⟨fs, fd, hu, hfd, rfl, rfl⟩ := fldR hf
        refine Q1.next ⟨_, fun w => ?_, relV_of ⟨p, hp, rfl, rfl⟩⟩
        have hne : ¬ sz = 0 := fun h => hn (by rw [hsz, h])
        simp only [Instr.fieldAt, Sem.run_bind, und hu, Result.andThen_ok, hfd, hx, Instr.sureAddr, Sem.run_pure, fieldPlace, szR hsz, if_neg hne, addr_add, Nat.add_assoc]
    · cases e
  · exact (q_field e (hρ _)).next
  · rename_i t parts
    refine (q_build (parts' := parts.map fun (i, x) => (i, ρ' x)) e ?_).next
    rw [Array.toList_map]
    exact All2.map2 _ _ fun c _ => ⟨rfl, hρ _⟩
  · exact (q_index e (hρ _) (hρ _)).next
  · exact (q_str e (hρ _) (hρ _)).next
  · rename_i x i
    split at e
    · rename_i vs hx
      have hc := hρ x
      rw [hx] at hc
      obtain ⟨vs', hv, r⟩ := hc
      obtain ⟨v', k1, k2⟩ := r.get i v (by simpa using e)
      refine Q1.next ⟨v', fun w => ?_, relV_of1 k2⟩
      have k1' : vs'[i]? = some v' := by simpa using k1
      simp only [Instr.extract, hv, k1', Sem.run_pure]
    · cases e
  · rename_i args argTypes
    split at e
    · rename_i t x ht hx
      obtain rfl : argTypes = #[t] := by rw [← Array.toList_inj]; exact ht
      obtain rfl : args = #[x] := by rw [← Array.toList_inj]; exact hx
      obtain ⟨v', h1, h2⟩ := (q_len (ty := type) e (hρ x)).next
      exact ⟨v', fun w => by have := h1 w; simpa [execOp, resolve, invoke, builtin] using this, h2⟩
    · cases e
  · rename_i args argTypes
    have ha : All2 (RelV φ) (args.toList.map ρ) (args.toList.map ρ') := All2.map2 _ _ fun c _ => hρ c
    rcases q_min (P := P) (ts := argTypes) (ty := type) e ha with ⟨_, hq⟩ | ⟨h, _⟩
    · obtain ⟨v', h1, h2⟩ := hq.next
      refine ⟨v', fun w => ?_, h2⟩
      have := h1 w
      have h3 : (args.toList.map ρ').toArray = args.map ρ' := by rw [← Array.toList_map]
      rw [h3] at this
      simpa [execOp, resolve, invoke, builtin] using this
    · cases h
  · rename_i args argTypes
    have ha : All2 (RelV φ) (args.toList.map ρ) (args.toList.map ρ') := All2.map2 _ _ fun c _ => hρ c
    rcases q_min (P := P) (ts := argTypes) (ty := type) e ha with ⟨h, _⟩ | ⟨_, hq⟩
    · cases h
    · obtain ⟨v', h1, h2⟩ := hq.next
      refine ⟨v', fun w => ?_, h2⟩
      have := h1 w
      have h3 : (args.toList.map ρ').toArray = args.map ρ' := by rw [← Array.toList_map]
      rw [h3] at this
      simpa [execOp, resolve, invoke, builtin] using this
  · cases e
end
end Go.Proofs.Ytidkkmkihifeoaa.Hz
