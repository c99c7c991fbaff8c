/- Operations that change the heap: the whole. -/
import Derived.Test.YtidkkmkihifeoaaHzG
import Derived.Lib.ConvBytes
import Derived.Laws.MakeOwn
namespace Go.Proofs.Ytidkkmkihifeoaa.Hz
open Go.RowKit Go.Lib
set_option linter.unusedVariables false
set_option linter.unusedSimpArgs false

section
variable {P : Program} {B : Nat} {w0 w w' : World} {φ : Inj} {h : Hp}

/-- Operations that change the heap. -/
theorem eev_sound (R : Rel P B w0 φ h w) {ρ ρ' : Operand → Value} {o : Oper} {v : Value} {h2 : Hp} (hρ : ∀ x, RelV φ (ρ x) (ρ' x)) (e : eev P h ρ o.op = some (v, h2)) : Ends P B w0 φ w (execOp ρ' o) v h2 := by
  obtain ⟨dst, op, type, pos, after, guard⟩ := o
  unfold eev at e
  simp only at e
  split at e
  · -- box
    rename_i t x
    simp only [Option.bind_eq_some_iff] at e
    obtain ⟨cs, hcs, e⟩ := e
    split at e
    · rename_i hok
      simp only [Option.map_eq_some_iff, Prod.mk.injEq] at e
      obtain ⟨sz, hsz, rfl, rfl⟩ := e
      have r := relV_cellsO (hρ x) hcs
      have R2 := R.made (cs := (ρ' x).cells) hsz hok (rest := []) (by simp) r w.drawn
      refine EndsV.next ⟨_, .pointer (some ⟨w.heap.size, 0, none⟩), _, ?_, List.prefix_append _ _, R2, relV_new R _⟩
      simp [Instr.box, newVar, newRow]
    · cases e
  · -- alloc
    rename_i t
    simp only [Option.bind_eq_some_iff] at e
    obtain ⟨z, hz, e⟩ := e
    split at e
    · rename_i hsc
      simp only [Option.map_eq_some_iff, Prod.mk.injEq] at e
      obtain ⟨sz, hsz, rfl, rfl⟩ := e
      have R2 := R.made (cs := z.cells) hsz (all_ok hsc) (rest := []) (by simp) (rel_zero hsc) w.drawn
      refine EndsV.next ⟨_, .pointer (some ⟨w.heap.size, 0, none⟩), _, ?_, List.prefix_append _ _, R2, relV_new R _⟩
      simp [Instr.alloc, newVar, newRow, zeroR hz]
    · cases e
  · -- store
    rename_i t x y
    split at e
    · rename_i a ha
      have hc := hρ x
      rw [ha] at hc
      obtain ⟨p, hp, hsp, hx⟩ := hc
      simp only [Option.bind_eq_some_iff] at e
      obtain ⟨cs, hcs, e⟩ := e
      split at e
      · rename_i hcond
        obtain ⟨hsz, hok, hcan⟩ := hcond
        injection e with e; injection e with e1 e2; subst e1; subst e2
        have r := relV_cellsO (hρ y) hcs
        obtain ⟨ob, ho, hl, hr, hi⟩ := canSet_some hcan
        obtain ⟨hB, hsize, cw, fr, hk, hcsz, hf⟩ := (R.obj _ ob p ho hp hl).own hr
        have hrl := r.length
        have hst := run_stores (P := P) (vs := (ρ' y).cells.toList) 0 p.block (p.off + a.off) hk (by simpa [hcsz] using hf) (by omega) (all_one r hok)
        have hcell : (ρ' y).cells.size = cs.length := by simpa using hrl.symm
        have hgo : (Instr.storeAt t (ρ' x) (ρ' y)).run P w = .ok () (wset w p.block (p.off + a.off) (ρ' y).cells.toList) := by
          simp only [Instr.storeAt, hx, Instr.sureAddr, Sem.run_bind, Sem.run_pure, Result.andThen_ok, storeVar, szR hsz.symm, hcell]
          simpa using hst
        have hgo2 : (execOp ρ' { dst := dst, op := .store t x y, type := type, pos := pos, after := after, guard := guard }).run P w = .ok .skip (wset w p.block (p.off + a.off) (ρ' y).cells.toList) := by
          simp only [execOp, Sem.run_bind, hgo, Result.andThen_ok]
          rfl
        exact ⟨φ, undef, _, .inr ⟨hgo2, rfl⟩, List.prefix_refl _, Rel.sets hp _ _ _ _ _ R hcan r hok, relV_undef φ⟩
      · cases e
    · cases e
  · -- a slice literal
    rename_i t n parts
    simp only [Option.bind_eq_some_iff, Prod.exists] at e
    obtain ⟨el, sz, bt, zs, hel, e⟩ := e
    obtain ⟨hu, hsz, hbt, z, hz, rfl, hzsc, hzs, hpos⟩ := elOf_spec hel
    have hzc : z.cells.size = sz := by simpa using hzs
    split at e
    · rename_i hb
      simp only [Option.bind_eq_some_iff] at e
      obtain ⟨cs, hcs, e⟩ := e
      split at e
      · rename_i hok
        injection e with e; injection e with e1 e2; subst e1; subst e2
        have hstart : All2 (RelC φ) (rep n z.cells.toList) ((Array.range (n * z.cells.size)).map (fun i => z.cells[i % z.cells.size]!)).toList := by
          rw [madeRow]
          exact relC_scals (rep_scal hzsc n)
        obtain ⟨cells2, hf, r⟩ := rel_fill (φ := φ) (parts' := parts.toList.map fun (i, x) => (i, ρ' x)) (All2.map2 (T := fun (p q : Nat × Value) => p.1 = q.1 ∧ RelV φ p.2 q.2) (fun p : Nat × Operand => (p.1, ρ p.2)) _ fun c _ => ⟨rfl, hρ _⟩) hstart hcs
        have R2 := R.made (cs := cells2) hsz hok (rest := []) (by simp) r w.drawn
        have hfl : ∀ {place : Nat → Option (Nat × Nat)} (ps : List (Nat × Value)) (c c2 : Array Value), Instr.fill place c ps = some c2 → c2.size = c.size := by
          intro place ps
          induction ps with
          | nil => intro c c2 k; injection k with k; rw [k]
          | cons q ps ih =>
            intro c c2 k
            obtain ⟨i, v⟩ := q
            simp only [Instr.fill] at k
            split at k
            · cases k
            · split at k
              · cases k
              · have := ih _ _ k
                rw [this]
                rename_i off size _ _
                have hs : ∀ (vs l : List Value) (i : Nat), (setL l i vs).length = l.length := by
                  intro vs
                  induction vs with
                  | nil => intro l i; rfl
                  | cons v vs ih => intro l i; simp [setL, ih]
                have hz := congrArg List.length (zipFold off v.cells c)
                rw [hs] at hz
                simpa using hz
        have hsz2 : cells2.size = n * sz := by
          rw [hfl _ _ _ hf]
          simp [hzc]
        refine EndsV.next ⟨_, .slice (some ⟨w.heap.size, 0, none⟩) n n, _, ?_, List.prefix_append _ _, R2, relV_row R _ (Nat.le_refl _) (Nat.le_refl _) fun _ => ?_⟩
        · have hbig : ¬ (n * sz > 2 ^ 24) := by omega
          unfold Instr.buildSlice
          simp only [Sem.run_bind, und hu, Result.andThen_ok, szR hsz, hbig, if_false]
          by_cases h0 : n * sz = 0
          · rw [if_pos h0, pure_bind]
            have he : (Array.map (fun x => (#[] : Array Value)[x % (#[] : Array Value).size]!) (Array.range (n * sz))) = (Array.range (n * z.cells.size)).map (fun i => z.cells[i % z.cells.size]!) := by
              rw [hzc, h0]; simp
            rw [he, Array.toList_map, hf]
            simp [newRow]
          · rw [if_neg h0]
            simp only [Sem.run_bind, zeroR hz, Result.andThen_ok, pure_bind]
            rw [hzc] at hf
            rw [hzc, Array.toList_map, hf]
            simp [newRow]
        · show 0 + n * sz ≤ cells2.size
          omega
      · cases e
    · cases e
  · -- make
    rename_i t l c
    split at e
    · rename_i n m hl hc
      simp only [Option.bind_eq_some_iff, Prod.exists] at e
      obtain ⟨el, sz, bt, zs, hel, e⟩ := e
      obtain ⟨hu, hsz, hbt, z, hz, rfl, hzsc, hzs, hpos⟩ := elOf_spec hel
      have hzc : z.cells.size = sz := by simpa using hzs
      split at e
      · rename_i hcond
        obtain ⟨rfl, h0, hb1, hb2⟩ := hcond
        injection e with e; injection e with e1 e2; subst e1; subst e2
        obtain ⟨k, rfl⟩ := Int.eq_ofNat_of_zero_le h0
        have hbig : big = 70368744177664 := rfl
        have hok := all_ok (rep_scal hzsc k)
        have R2 := R.made (e := el) (cells := rep k z.cells.toList) (cs := (Array.range (k * z.cells.size)).map (fun i => z.cells[i % z.cells.size]!)) hsz hok (rest := []) (by rw [madeRow]; simp) (relC_scals (rep_scal hzsc k)) w.drawn
        have hl' := hρ l
        have hc' := hρ c
        rw [hl] at hl'
        rw [hc] at hc'
        obtain ⟨i, hi, rfl, rfl, hiz⟩ := infoR hsz hbt hz
        have hmul : k * i.bytes = i.bytes * k := Nat.mul_comm _ _
        have hrun := run_make (P := P) w t el i z hu hi hiz .i64 .i64 (k : Int) (k : Int) h0 (Int.le_refl _) (by omega) (by omega)
        simp only [Int.toNat_natCast] at hrun
        have hrow := relV_row R ⟨w.heap.size, 0, ((Array.range (k * z.cells.size)).map (fun i => z.cells[i % z.cells.size]!)).size, i.size, true⟩ (n := k) (Nat.le_refl k) (Nat.le_refl k) fun _ => by
          show 0 + k * i.size ≤ _
          simp [hzc]
        refine EndsV.next ⟨_, .slice (some ⟨w.heap.size, 0, none⟩) k k, _, ?_, List.prefix_append _ _, R2, hrow⟩
        rw [rInt (φ := φ) hl', rInt (φ := φ) hc', hrun, ← hzc]
        rfl
      · cases e
    · cases e
  · -- []byte(s)
    rename_i s d x
    split at e
    · rename_i b hx
      have hc := hρ x
      rw [hx] at hc
      simp only [Option.bind_eq_some_iff] at e
      obtain ⟨el, hel, e⟩ := e
      split at e
      · rename_i hcond
        simp only [Bool.and_eq_true, beq_iff_eq] at hcond
        obtain ⟨⟨hs, hk⟩, hsz⟩ := hcond
        injection e with e; injection e with e1 e2; subst e1; subst e2
        have hrun := run_convert_string_bytes (P := P) w s d el b (strR hs) (elemR hel) (intR hk)
        have hge := grownCap_ge w b.size 0 el
        have hsc : (bytesL b).all scal = true := List.all_eq_true.2 fun a ha => by
          simp only [bytesL, List.mem_map] at ha
          obtain ⟨c, _, rfl⟩ := ha
          rfl
        have hsize : (bytesCells w el b).size = grownCap w b.size 0 el := by
          have : b.data.size = b.size := rfl
          simp only [bytesCells, Array.size_append, Array.size_map, Array.size_replicate, this]
          omega
        have R2 := R.new (w' := bytesWorld w el b) (e := el) (esz := 1) (cells := bytesL b) ⟨rfl, rfl, rfl, by rw [bytesWorld_size]; omega, fun k hk => bytesWorld_at_old w el b k hk⟩ hsz (bytesWorld_at_new w el b) (fun i hi => by omega) (all_ok hsc)
          (rest := (Array.replicate (grownCap w b.size 0 el - b.size) (Value.int .u8 0)).toList) ⟨bytesL b, by simp only [bytesCells, Array.toList_append, Array.toList_map]; rfl, relC_scals hsc⟩
        refine EndsV.next ⟨_, _, _, ?_, List.prefix_append _ _, R2, relV_row R ⟨w.heap.size, 0, (bytesCells w el b).size, 1, true⟩ hge hge fun _ => ?_⟩
        · rw [rStr (φ := φ) hc]; exact hrun
        · show 0 + _ * 1 ≤ (bytesCells w el b).size
          omega
      · cases e
    · cases e
  · rename_i args argTypes
    split at e
    · rename_i st xt s x ht hx
      obtain rfl : argTypes = #[st, xt] := by rw [← Array.toList_inj]; exact ht
      obtain rfl : args = #[s, x] := by rw [← Array.toList_inj]; exact hx
      obtain ⟨φ', v', w', h1, h3⟩ := append_sound R e (hρ s) (hρ x) type
      refine ⟨φ', v', w', .inl ?_, h3⟩
      simp [execOp, resolve, invoke, builtin, h1]
    · cases e
  · rename_i args argTypes
    split at e
    · rename_i t x ht hx
      obtain rfl : argTypes = #[t] := by rw [← Array.toList_inj]; exact ht
      obtain rfl : args = #[x] := by rw [← Array.toList_inj]; exact hx
      obtain ⟨φ', v', w', h1, h3⟩ := clear_sound R e (hρ x) type
      refine ⟨φ', v', w', .inl ?_, h3⟩
      simp [execOp, resolve, invoke, builtin, h1]
    · cases e
  · rename_i args argTypes
    split at e
    · rename_i t st d s ht hx
      obtain rfl : argTypes = #[t, st] := by rw [← Array.toList_inj]; exact ht
      obtain rfl : args = #[d, s] := by rw [← Array.toList_inj]; exact hx
      obtain ⟨φ', v', w', h1, h3⟩ := copy_sound (st := st) R e (hρ d) (hρ s) type
      refine ⟨φ', v', w', .inl ?_, h3⟩
      simp [execOp, resolve, invoke, builtin, h1]
    · cases e
  · cases e
end
end Go.Proofs.Ytidkkmkihifeoaa.Hz
