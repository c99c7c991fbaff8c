/- Operations that read or change the heap do in the machine what the plain evaluation says. -/
import Derived.Test.YtidkkmkihifeoaaHzE
import Derived.Deep.AppendSrc
namespace Go.Proofs.Ytidkkmkihifeoaa.Hz
open Go.RowKit
set_option linter.unusedVariables false
set_option linter.unusedSimpArgs false

section
variable {P : Program} {B : Nat} {w0 w w' : World} {φ : Inj} {h : Hp}

theorem cellsAt_len : ∀ {n i o : Nat} {vs : List Value}, cellsAt h o i n = some vs → vs.length = n
  | 0, _, _, _, e => by injection e with e; subst e; rfl
  | n + 1, i, o, vs, e => by
    simp only [cellsAt, Option.bind_eq_some_iff, Option.map_eq_some_iff] at e
    obtain ⟨v, _, us, hus, rfl⟩ := e
    simp [cellsAt_len hus]
theorem run_load0 (a : Addr) : (loadCells a 0).run P w = .ok #[] w := rfl

/-- The cells of a slice that is told, as the machine reads them. -/
theorem Rel.run_slice (R : Rel P B w0 φ h w) {a : Addr} {n c k : Nat} {vs : List Value} {x' : Value} (hx : RelV φ (.slice (some a) n c) x') (e : cellsAt h a.block a.off k = some vs) (hk : n = 0 → k = 0) :
    ∃ a' c' vs', x' = .slice (some a') n c' ∧ (loadCells a' k).run P w = .ok vs'.toArray w ∧ All2 (RelC φ) vs vs' := by
  obtain ⟨p, c', a', hp, hsp, hcc, hnc, rfl, hor⟩ := hx
  rcases hor with ⟨rfl, _⟩ | ⟨h1, _⟩
  · obtain ⟨vs', k1, k2⟩ := R.run_load (o := a.block) hp e
    exact ⟨_, c', vs', rfl, k1, k2⟩
  · obtain rfl := hk h1
    injection e with e; subst e
    exact ⟨a', c', [], rfl, run_load0 a', trivial⟩

theorem strL_spec : ∀ {cs cs' : List Value} {bs : List UInt8}, strL cs = some bs → All2 (RelC φ) cs cs' → ∃ xs : List Int, cs' = xs.map (Value.int .u8) ∧ bs = xs.map fun n => UInt8.ofNat n.toNat
  | [], cs', bs, e, ha => by
    rw [All2.nil_iff] at ha; subst ha
    injection e with e; subst e
    exact ⟨[], rfl, rfl⟩
  | v :: vs, cs', bs, e, ha => by
    obtain ⟨v', vs', rfl, h1, h2⟩ := All2.cons_iff.1 ha
    cases v with
    | int k n =>
      cases k with
      | u8 =>
        simp only [strL, Option.map_eq_some_iff] at e
        obtain ⟨b2, hb, rfl⟩ := e
        obtain ⟨xs, rfl, rfl⟩ := strL_spec hb h2
        have : v' = .int .u8 n := h1
        subst this
        exact ⟨n :: xs, rfl, rfl⟩
      | _ => simp [strL] at e
    | _ => simp [strL] at e

theorem lev_sound (R : Rel P B w0 φ h w) {ρ ρ' : Operand → Value} {o : Oper} {v : Value} (hρ : ∀ x, RelV φ (ρ x) (ρ' x)) (e : lev P h ρ o.op = some v) : ∃ v', (execOp ρ' o).run P w = .ok (.value v') w ∧ RelV φ v v' := by
  obtain ⟨dst, op, type, pos, after, guard⟩ := o
  unfold lev at e
  simp only at e
  split at e
  · split at e
    · cases e
    · obtain ⟨v', h1, h2⟩ := (q_slice2 R e (hρ _) (RO.map hρ _) (RO.map hρ _) (RO.map hρ _)).next
      exact ⟨v', h1 w, h2⟩
  · rename_i t x
    split at e
    · rename_i a ha
      have hc := hρ x
      rw [ha] at hc
      obtain ⟨p, hp, hsp, hx⟩ := hc
      simp only [Option.bind_eq_some_iff] at e
      obtain ⟨g, hg, e⟩ := e
      split at e
      · rename_i hgt
        subst hgt
        simp only [Option.bind_eq_some_iff, Option.map_eq_some_iff] at e
        obtain ⟨n, hn, cs, hcs, rfl⟩ := e
        obtain ⟨vs', k1, k2⟩ := R.run_load hp hcs
        refine ⟨.agg vs'.toArray, ?_, ⟨_, rfl, by simpa using k2⟩⟩
        simp only [execOp, Instr.loadAt, hx, Instr.sureAddr, Sem.run_bind, Sem.run_pure, Result.andThen_ok, loadVar, aggR hg, if_true, szR hn, k1]
      · rename_i hgf
        have hgf' : g = false := by simpa using hgf
        subst hgf'
        obtain ⟨v', k1, k2⟩ := R.cell e hp
        refine ⟨v', ?_, relV_of k2⟩
        simp only [execOp, Instr.loadAt, hx, Instr.sureAddr, Sem.run_bind, Sem.run_pure, Result.andThen_ok, loadVar, aggR hg, Bool.false_eq_true, if_false, run_load, k1]
    · cases e
  · rename_i s d x
    split at e
    · rename_i hb
      simp only [Bool.and_eq_true, beq_iff_eq, Option.bind_eq_some_iff] at hb
      obtain ⟨hd, el, hel, hek⟩ := hb
      have hc := hρ x
      split at e
      · rename_i hx
        rw [hx] at hc
        injection e with e; subst e
        have hx' : ρ' x = .slice none 0 0 := hc.2.2
        refine ⟨.string ⟨#[]⟩, ?_, mkV rfl⟩
        have := run_convert_bytes_nil (P := P) w s el (elemR hel) (intR hek) 0 0 d (strR hd)
        simp only [execOp, hx', Sem.run_bind, this, Result.andThen_ok, Sem.run_pure]
        rfl
      · rename_i a n c hx
        rw [hx] at hc
        simp only [Option.bind_eq_some_iff, Option.map_eq_some_iff] at e
        obtain ⟨cs, hcs, bs, hbs, rfl⟩ := e
        obtain ⟨p, c', a', hp, hsp, hcc, hnc, hx', hor⟩ := hc
        rcases hor with ⟨rfl, _⟩ | ⟨h1, h2⟩
        · obtain ⟨vs', k1, k2, k3⟩ := R.cells hp n a.off cs hcs
          obtain ⟨xs, rfl, rfl⟩ := strL_spec hbs k3
          refine ⟨.string (strOfNums xs), ?_, mkV rfl⟩
          have := run_convert_bytes_arg (P := P) w s el (elemR hel) (intR hek) p.block (p.off + a.off) n c' xs (by simpa using k1) (fun i hi => by
            refine k2 i _ ?_
            have hi' : i < xs.length := by simp at k1; omega
            simp [List.getElem?_map, List.getElem?_eq_getElem hi']) d (strR hd)
          simp only [execOp, hx', Sem.run_bind, this, Result.andThen_ok, Sem.run_pure]
        · subst h1
          injection hcs with hcs; subst hcs
          injection hbs with hbs; subst hbs
          refine ⟨.string (strOfNums []), ?_, mkV rfl⟩
          have := run_convert_bytes_arg (P := P) w s el (elemR hel) (intR hek) a'.block a'.off 0 c' [] rfl (fun i hi => by omega) d (strR hd)
          have hsp' : (convert s d (.slice (some a') 0 c')).run P w = .ok (.string (strOfNums [])) w := by
            unfold convert
            simp only [Sem.run_bind, und (elemR hel), und (strR hd), und (intR hek), Result.andThen_ok, Conv.bytesToString, run_load0]
            rfl
          simp only [execOp, hx', Sem.run_bind, hsp', Result.andThen_ok, Sem.run_pure]
      · cases e
    · cases e
  · cases e

theorem Rel.okAt (R : Rel P B w0 φ h w) {o i : Nat} {v : Value} (e : cellAt h o i = some v) : okCell v = true := by
  obtain ⟨ob, ho, hl, hc⟩ := cellAt_some e
  obtain ⟨p, hp⟩ := R.pl ho
  exact List.all_eq_true.1 (R.obj o ob p ho hp hl).ok v (List.mem_of_getElem? hc)
theorem Rel.okCells (R : Rel P B w0 φ h w) : ∀ {n i o : Nat} {vs : List Value}, cellsAt h o i n = some vs → vs.all okCell = true
  | 0, _, _, _, e => by injection e with e; subst e; rfl
  | n + 1, i, o, vs, e => by
    simp only [cellsAt, Option.bind_eq_some_iff, Option.map_eq_some_iff] at e
    obtain ⟨v, hv, us, hus, rfl⟩ := e
    simp [R.okAt hv, R.okCells hus]
theorem src_sound (R : Rel P B w0 φ h w) {sz m : Nat} {xt : TypeId} {x x' : Value} {xs : List Value} (e : srcOf P h sz xt x = some (xs, m)) (hx : RelV φ x x') :
    xs.all okCell = true ∧ ∃ xs', Src P sz xt x' m xs' w ∧ All2 (RelC φ) xs xs' := by
  unfold srcOf at e
  split at e
  · obtain ⟨_, _, rfl⟩ := hx
    split at e
    · rename_i hs
      obtain ⟨el, hel⟩ := sliceR hs
      injection e with e; injection e with e1 e2; subst e1; subst e2
      exact ⟨rfl, [], Src.ofNil w hel 0, trivial⟩
    · cases e
  · rename_i b n c
    split at e
    · rename_i hs
      obtain ⟨el, hel⟩ := sliceR hs
      simp only [Option.map_eq_some_iff, Prod.mk.injEq] at e
      obtain ⟨cs, hcs, rfl, rfl⟩ := e
      have hok := R.okCells hcs
      obtain ⟨p, c', a', hp, hsp, hcc, hnc, rfl, hor⟩ := hx
      obtain ⟨vs', k1, k2, k3⟩ := R.cells hp _ _ cs hcs
      refine ⟨hok, vs', ?_, k3⟩
      rcases hor with ⟨rfl, _⟩ | ⟨rfl, _⟩
      · exact Src.ofSlice w hel _ n c' vs' k1 (fun j u hj => by rw [addr_add]; exact k2 j u hj) (all_one k3 hok)
      · have : vs' = [] := List.eq_nil_of_length_eq_zero (by simpa using k1)
        subst this
        exact Src.ofSlice w hel _ 0 c' [] (by simp) (fun j u hj => by simp at hj) (by simp)
    · cases e
  · rename_i s
    obtain rfl := rStr (φ := φ) hx
    split at e
    · rename_i hs
      simp only [Bool.and_eq_true, beq_iff_eq] at hs
      obtain ⟨hs1, rfl⟩ := hs
      injection e with e; injection e with e1 e2; subst e1; subst e2
      have hsc : ∀ a ∈ bytesL s, scal a = true := fun a ha => by
        simp only [bytesL, List.mem_map] at ha
        obtain ⟨b, _, rfl⟩ := ha
        rfl
      exact ⟨List.all_eq_true.2 fun a ha => okCell_scal (hsc a ha), bytesL s, Src.ofString w (strR hs1) s, All2.refl fun a ha => relC_scal (hsc a ha)⟩
    · cases e
  · cases e
end
end Go.Proofs.Ytidkkmkihifeoaa.Hz
