/- More rules: own memory in a heap that is told as a start and a list of new objects. -/
import Derived.Test.YtidkkmkihifeoaaHzQ
namespace Go.Proofs.Ytidkkmkihifeoaa.Hz
open Go.RowKit
set_option linter.unusedVariables false
set_option linter.unusedSimpArgs false

theorem Ext.pre {h h' : Hp} (e : Ext h h') : ∃ t, h' = h ++ t := by
  refine ⟨h'.drop h.length, ?_⟩
  have : h = h'.take h.length := by
    apply List.ext_getElem?
    intro i
    by_cases hi : i < h.length
    · rw [List.getElem?_take_of_lt hi, e.2 i hi]
    · rw [List.getElem?_eq_none (by omega), List.getElem?_eq_none (by simp; omega)]
  calc h' = h'.take h.length ++ h'.drop h.length := (List.take_append_drop _ _).symm
    _ = h ++ h'.drop h.length := by rw [← this]

section
variable {P : Program}
theorem aeff_ok (v : Value) (h' : Hp) (d : Option Tmp) (tm : List Value) (K : Cont) : aeff (some (v, h')) d tm K = K (put tm d v) h' := by
  simp only [aeff, Option.some.injEq, Prod.mk.injEq]
  exact propext ⟨fun ⟨_, _, ⟨e1, e2⟩, k⟩ => e1 ▸ e2 ▸ k, fun k => ⟨_, _, ⟨rfl, rfl⟩, k⟩⟩
theorem eev_box (h : Hp) (ρ : Operand → Value) (t : TypeId) (x : Operand) : eev P h ρ (.box t x) = (cellsO (ρ x)).bind fun cs => if cs.all okCell = true then (szOf P t).bind fun _ => some (.pointer (some ⟨h.length, 0, none⟩), h ++ [⟨true, true, t, cs⟩]) else none := by
  simp only [eev, Option.map_eq_bind]; rfl
theorem eev_alloc (h : Hp) (ρ : Operand → Value) (t : TypeId) : eev P h ρ (.alloc t) = (zeroOf P t).bind fun z => if (cellsL z).all scal = true then (szOf P t).bind fun _ => some (.pointer (some ⟨h.length, 0, none⟩), h ++ [⟨true, true, t, cellsL z⟩]) else none := by
  simp only [eev, Option.map_eq_bind]; rfl
theorem eev_store (h : Hp) (ρ : Operand → Value) (t : TypeId) (x y : Operand) : eev P h ρ (.store t x y) = match ρ x with
      | .pointer (some a) => (cellsO (ρ y)).bind fun cs => if some cs.length = szOf P t ∧ cs.all okCell = true ∧ canSet h a.block a.off cs.length = true then some (undef, setsAt h a.block a.off cs) else none
      | _ => none := by
  simp only [eev]; rfl
theorem eev_lit (h : Hp) (ρ : Operand → Value) (t : TypeId) (n : Nat) (ps : Array (Nat × Operand)) : eev P h ρ (.buildSlice t n ps) = (elOf P t).bind fun q => if n * q.2.1 ≤ 4096 then (fillL (fun i => some (i * q.2.1, q.2.1)) (rep n q.2.2.2) (ps.toList.map fun p => (p.1, ρ p.2))).bind fun cs => if cs.all okCell = true then some (.slice (some ⟨h.length, 0, none⟩) n n, h ++ [⟨true, true, q.1, cs⟩]) else none else none := by
  simp only [eev]
theorem eev_make (h : Hp) (ρ : Operand → Value) (t : TypeId) (l c : Operand) : eev P h ρ (.makeSlice t l c) = match ρ l, ρ c with
      | .int .i64 n, .int .i64 m => (elOf P t).bind fun q => if n = m ∧ 0 ≤ n ∧ n * q.2.2.1 ≤ big ∧ n ≤ big then some (.slice (some ⟨h.length, 0, none⟩) n.toNat n.toNat, h ++ [⟨true, true, q.1, rep n.toNat q.2.2.2⟩]) else none
      | _, _ => none := by
  simp only [eev]; rfl
theorem eev_cvSB (h : Hp) (ρ : Operand → Value) (s d : TypeId) (x : Operand) : eev P h ρ (.convert s d x) = match ρ x with
      | .string b => (elemOf P d).bind fun e => if (strOf P s && (intOf' P e == some .u8) && (szOf P e == some 1)) = true then some (.slice (some ⟨h.length, 0, none⟩) b.size b.size, h ++ [⟨true, true, e, bytesL b⟩]) else none
      | _ => none := by
  simp only [eev]; rfl
theorem cellsO_agg (cs : Array Value) : cellsO (.agg cs) = some cs.toList := rfl
theorem cellsO_int (k : IntKind) (n : Int) : cellsO (.int k n) = some [.int k n] := rfl
theorem cellsO_str (s : ByteArray) : cellsO (.string s) = some [.string s] := rfl
theorem cellsO_bool (b : Bool) : cellsO (.bool b) = some [.bool b] := rfl
theorem cellsO_slice (a : Option Addr) (n c : Nat) : cellsO (.slice a n c) = some [.slice a n c] := rfl
theorem cellsO_ptr (a : Option Addr) : cellsO (.pointer a) = some [.pointer a] := rfl
theorem cellsO_func (f : Fn) (x c : Array Value) : cellsO (.func f x c) = some [.func f x c] := rfl
theorem abuild_eq (t : TypeId) (parts : List (Nat × Value)) : abuild P t parts = (placesOf P t).bind fun pl => (zeroOf P t).bind fun z => if (cellsL z).all scal = true then (fillL (fun i => pl[i]?) (cellsL z) parts).bind fun cs => some (.agg cs.toArray) else none := by
  simp only [abuild, Option.map_eq_bind]; rfl
theorem afield_agg (t : TypeId) (cs : Array Value) (f : Nat) : afield P t (.agg cs) f = (fldOf P t f).bind fun q => (aggOf P q.2).bind fun g => if g = true then (szOf P q.2).bind fun sz => some (.agg (cs.extract q.1 (q.1 + sz))) else cs[q.1]? := by
  simp only [afield, Option.map_eq_bind]; rfl
theorem qev_nilCheck (ρ : Operand → Value) (x : Operand) : qev P ρ (.nilCheck x) = match ρ x with | .pointer (some a) => some (.pointer (some a)) | _ => none := by simp only [qev]; rfl
theorem qev_makeFunc (ρ : Operand → Value) (g : FuncId) (first cap : Array Operand) : qev P ρ (.makeFunc (.func g) first cap) = if (first.isEmpty && (cap.toList.map ρ).all capOk) = true then some (.func (.func g) #[] (cap.map ρ)) else none := by simp only [qev]
theorem qev_extract (ρ : Operand → Value) (x : Operand) (i : Nat) : qev P ρ (.extract x i) = match ρ x with | .tuple vs => vs[i]? | _ => none := by simp only [qev]; rfl
theorem qev_cvSS (ρ : Operand → Value) (s d : TypeId) (x : Operand) (b : ByteArray) (e : ρ x = .string b) : qev P ρ (.convert s d x) = if (strOf P s && strOf P d) = true then some (.string b) else none := by
  simp only [qev, e]
theorem abin_aeql (t : TypeId) (xs ys : Array Value) : abin P .eql t (.agg xs) (.agg ys) = (eqKs P t).bind fun ks => (eqCells ks xs.toList ys.toList).bind fun b => some (.bool b) := by
  simp only [abin, Option.map_eq_bind]; rfl
theorem abin_aneq (t : TypeId) (xs ys : Array Value) : abin P .neq t (.agg xs) (.agg ys) = (eqKs P t).bind fun ks => (eqCells ks xs.toList ys.toList).bind fun b => some (.bool !b) := by
  simp only [abin, Option.map_eq_bind]; rfl
theorem abin_nil_eql (t : TypeId) (a : Option Addr) (n c : Nat) (hb : isSlice P t = true) : abin P .eql t (.slice a n c) (.slice none 0 0) = some (.bool a.isNone) := by simp [abin, hb]
theorem abin_nil_neq (t : TypeId) (a : Option Addr) (n c : Nat) (hb : isSlice P t = true) : abin P .neq t (.slice a n c) (.slice none 0 0) = some (.bool !a.isNone) := by simp [abin, hb]
end

theorem ares_cell (P : Program) (a : Tmp) (t : TypeId) (tm : List Value) (h : Hp) : aresults P [.cell a t] tm h = lev P h (ev tm) (.load t (.tmp a)) := rfl
theorem wrap_succ {k : Nat} (h : k < 9223372036854775807) : IntKind.i64.wrap ((k : Int) + 1) = ((k + 1 : Nat) : Int) := by
  rw [wrap_in (by omega) (by omega)]; rfl
def sumL {α : Type} (f : α → Nat) : List α → Nat
  | [] => 0
  | x :: xs => f x + sumL f xs
theorem sumL_take {α : Type} (f : α → Nat) : ∀ (xs : List α) (k : Nat) (hk : k < xs.length), sumL f (xs.take (k + 1)) = sumL f (xs.take k) + f xs[k]
  | x :: xs, 0, _ => by simp [sumL]
  | x :: xs, k + 1, hk => by
    have := sumL_take f xs k (by simpa using hk)
    simp only [List.take_succ_cons, sumL, this, List.getElem_cons_succ]
    omega
theorem sumL_mem {α : Type} (f : α → Nat) : ∀ {xs : List α} {x : α}, x ∈ xs → f x ≤ sumL f xs
  | y :: ys, x, h => by
    rcases List.mem_cons.1 h with rfl | h
    · simp [sumL]
    · have := sumL_mem f h
      simp only [sumL]; omega
theorem sumL_nil {α : Type} (f : α → Nat) : sumL f [] = 0 := rfl
theorem take_snoc {α : Type} {xs ys : List α} {k : Nat} (h1 : k < xs.length) (h2 : k < ys.length) (h : xs.take k = ys.take k) (e : xs[k] = ys[k]) : xs.take (k + 1) = ys.take (k + 1) := by
  rw [List.take_succ_eq_append_getElem h1, List.take_succ_eq_append_getElem h2, h, e]
theorem take_all {α : Type} {xs ys : List α} (h : xs.length = ys.length) (k : xs.take xs.length = ys.take xs.length) : xs = ys := by
  rw [List.take_length] at k
  rw [k, h, List.take_length]
theorem cellAt_app (h l : Hp) (k i : Nat) : cellAt (h ++ l) (h.length + k) i = cellAt l k i := by
  unfold cellAt
  rw [List.getElem?_append_right (by omega), show h.length + k - h.length = k by omega]
theorem cellAt_app0 (h l : Hp) (i : Nat) : cellAt (h ++ l) h.length i = cellAt l 0 i := cellAt_app h l 0 i
theorem cellsAt_app (h l : Hp) (k : Nat) : ∀ (n i : Nat), cellsAt (h ++ l) (h.length + k) i n = cellsAt l k i n
  | 0, _ => rfl
  | n + 1, i => by simp only [cellsAt, cellAt_app, cellsAt_app h l k n]
theorem cellsAt_app0 (h l : Hp) (n i : Nat) : cellsAt (h ++ l) h.length i n = cellsAt l 0 i n := cellsAt_app h l 0 n i
theorem canSet_app (h l : Hp) (k i n : Nat) : canSet (h ++ l) (h.length + k) i n = canSet l k i n := by
  unfold canSet
  rw [List.getElem?_append_right (by omega), show h.length + k - h.length = k by omega]
theorem canSet_app0 (h l : Hp) (i n : Nat) : canSet (h ++ l) h.length i n = canSet l 0 i n := canSet_app h l 0 i n
theorem elAt_app (h l : Hp) (k : Nat) : elAt (h ++ l) (h.length + k) = elAt l k := by
  unfold elAt
  rw [List.getElem?_append_right (by omega), show h.length + k - h.length = k by omega]
theorem elAt_app0 (h l : Hp) : elAt (h ++ l) h.length = elAt l 0 := elAt_app h l 0
theorem modify_right {α : Type} (f : α → α) (h l : List α) (k : Nat) : (h ++ l).modify (h.length + k) f = h ++ l.modify k f := by
  apply List.ext_getElem?
  intro i
  rw [getElem?_modify']
  by_cases hi : i < h.length
  · rw [if_neg (by omega), List.getElem?_append_left hi, List.getElem?_append_left hi]
  · rw [List.getElem?_append_right (by omega), List.getElem?_append_right (by omega), getElem?_modify']
    by_cases hk : h.length + k = i
    · rw [if_pos hk, if_pos (by omega)]
    · rw [if_neg hk, if_neg (by omega)]
theorem setAt_app (h l : Hp) (k i : Nat) (v : Value) : setAt (h ++ l) (h.length + k) i v = h ++ setAt l k i v := by
  unfold setAt
  exact modify_right _ _ _ _
theorem setsAt_app (k : Nat) : ∀ (vs : List Value) (h l : Hp) (i : Nat), setsAt (h ++ l) (h.length + k) i vs = h ++ setsAt l k i vs
  | [], _, _, _ => rfl
  | v :: vs, h, l, i => by simp only [setsAt, setAt_app]; exact setsAt_app k vs h _ _
theorem setsAt_app0 (h l : Hp) (i : Nat) (vs : List Value) : setsAt (h ++ l) h.length i vs = h ++ setsAt l 0 i vs := setsAt_app 0 vs h l i
theorem kill_app (h l : Hp) (k : Nat) : kill (h ++ l) (h.length + k) = h ++ kill l k := by
  unfold kill
  exact modify_right _ _ _ _
theorem kill_app0 (h l : Hp) : kill (h ++ l) h.length = h ++ kill l 0 := kill_app h l 0
theorem cellsAt_zero (h : Hp) (o i : Nat) : cellsAt h o i 0 = some [] := rfl
theorem cellsAt_succ (h : Hp) (o i n : Nat) : cellsAt h o i (n + 1) = (cellAt h o i).bind fun v => (cellsAt h o (i + 1) n).bind fun vs => some (v :: vs) := by
  simp only [cellsAt, Option.map_eq_bind]; rfl
theorem cellAt_hd (ob : Ob) (l : Hp) (i : Nat) : cellAt (ob :: l) 0 i = if ob.live = true then ob.cells[i]? else none := rfl
theorem cellAt_tl (ob : Ob) (l : Hp) (k i : Nat) : cellAt (ob :: l) (k + 1) i = cellAt l k i := rfl
theorem cellsAt_tl (ob : Ob) (l : Hp) (k : Nat) : ∀ (n i : Nat), cellsAt (ob :: l) (k + 1) i n = cellsAt l k i n
  | 0, _ => rfl
  | n + 1, i => by simp only [cellsAt, cellAt_tl, cellsAt_tl ob l k n]
theorem canSet_hd (ob : Ob) (l : Hp) (i n : Nat) : canSet (ob :: l) 0 i n = (ob.live && ob.rw && decide (i + n ≤ ob.cells.length)) := rfl
theorem canSet_tl (ob : Ob) (l : Hp) (k i n : Nat) : canSet (ob :: l) (k + 1) i n = canSet l k i n := rfl
theorem elAt_hd (ob : Ob) (l : Hp) : elAt (ob :: l) 0 = some ob.elem := rfl
theorem elAt_tl (ob : Ob) (l : Hp) (k : Nat) : elAt (ob :: l) (k + 1) = elAt l k := rfl
theorem setsAt_nil (h : Hp) (o i : Nat) : setsAt h o i [] = h := rfl
theorem setsAt_hd (ob : Ob) (l : Hp) (i : Nat) (v : Value) (vs : List Value) : setsAt (ob :: l) 0 i (v :: vs) = setsAt (⟨ob.live, ob.rw, ob.elem, ob.cells.set i v⟩ :: l) 0 (i + 1) vs := rfl
theorem setsAt_tl (ob : Ob) (k : Nat) : ∀ (vs : List Value) (l : Hp) (i : Nat), setsAt (ob :: l) (k + 1) i vs = ob :: setsAt l k i vs
  | [], _, _ => rfl
  | v :: vs, l, i => by
    simp only [setsAt]
    exact setsAt_tl ob k vs _ _
theorem kill_hd (ob : Ob) (l : Hp) : kill (ob :: l) 0 = ⟨false, ob.rw, ob.elem, ob.cells⟩ :: l := rfl
theorem kill_tl (ob : Ob) (l : Hp) (k : Nat) : kill (ob :: l) (k + 1) = ob :: kill l k := rfl
theorem okc_int (k : IntKind) (n : Int) : okCell (.int k n) = true := rfl
theorem okc_str (s : ByteArray) : okCell (.string s) = true := rfl
theorem okc_bool (b : Bool) : okCell (.bool b) = true := rfl
theorem okc_slice (a : Option Addr) (n c : Nat) : okCell (.slice a n c) = true := rfl
theorem okc_ptr (a : Option Addr) : okCell (.pointer a) = true := rfl
theorem okc_func (f : Fn) (x c : Array Value) : okCell (.func f x c) = true := rfl
section
variable {α : Type} {h0 h : Hp} {e : TypeId} {xs : List α} {F : List Nat}
theorem Own.putFlat {n : Nat} {f : α → List Value} {hn : ∀ x, (f x).length = n} {hok : ∀ x, (f x).all okCell = true} {o off : Nat} (k : Own h0 e (flatE n f hn hok) h xs (some ⟨o, off, none⟩) F) {i : Nat} (hi : i < xs.length) (x' : α) (j : Nat) (vs : List Value) (hj : j + vs.length ≤ n) (hv : setL (f xs[i]) j vs = f x') :
    canSet h o (off + i * n + j) vs.length = true ∧ ∃ F', Own h0 e (flatE n f hn hok) (setsAt h o (off + i * n + j) vs) (xs.set i x') (some ⟨o, off, none⟩) F' := by
  obtain ⟨c, Fi, ⟨rfl, rfl⟩, _, _, hput⟩ := k.put (List.getElem?_eq_getElem hi)
  obtain ⟨h1, F', h2, _⟩ := hput j vs x' [] hj ⟨hv, rfl⟩ (by simp) (by simp) (by simp)
  exact ⟨h1, F', h2⟩
theorem rowsR_rep {A : Enc α} {z : α} {zs : List Value} (hz : A.R h z zs []) : ∀ (n : Nat), rowsR A h (List.replicate n z) (List.replicate n zs) (List.replicate n [])
  | 0 => trivial
  | n + 1 => ⟨hz, rowsR_rep hz n⟩
theorem flat_rep (n : Nat) : (List.replicate n ([] : List Nat)).flatten = [] := by
  induction n with
  | zero => rfl
  | succ n ih => simp [List.replicate_succ]
/-- What make gives. -/
theorem Own.rep {A : Enc α} (h : Hp) (e : TypeId) (n : Nat) {z : α} {zs : List Value} (hz : A.R h z zs []) : Own h e A (h ++ [⟨true, true, e, Hz.rep n zs⟩]) (List.replicate n z) (some ⟨h.length, 0, none⟩) [h.length] := by
  have := Own.lit (h0 := h) (e := e) (Ext.refl h) (rowsR_rep hz n) (by rw [flat_rep]; exact List.nodup_nil) (by rw [flat_rep]; simp)
  rw [flat_rep] at this
  exact this
theorem fill_set (z : α) (k : Nat) (hk : k < xs.length) : (xs.take k ++ List.replicate (xs.length - k) z).set k xs[k] = xs.take (k + 1) ++ List.replicate (xs.length - (k + 1)) z := by
  rw [List.set_append_right _ _ (by simp; omega), show xs.length - k = xs.length - (k + 1) + 1 by omega, List.replicate_succ]
  have : xs.take (k + 1) = xs.take k ++ [xs[k]] := List.take_succ_eq_append_getElem hk
  have hl : k - (xs.take k).length = 0 := by simp; omega
  rw [this, hl, List.append_assoc]
  rfl
end
attribute [simp] ares_cell sumL_nil aeff_ok eev_box eev_alloc eev_store eev_lit eev_make eev_cvSB cellsO_agg cellsO_int cellsO_str cellsO_bool cellsO_slice cellsO_ptr cellsO_func abuild_eq afield_agg qev_nilCheck qev_makeFunc qev_extract qev_cvSS abin_aeql abin_aneq abin_nil_eql abin_nil_neq cellAt_app cellAt_app0 cellsAt_app cellsAt_app0 canSet_app canSet_app0 elAt_app elAt_app0 setsAt_app setsAt_app0 kill_app kill_app0 cellsAt_zero cellsAt_succ cellAt_hd cellAt_tl cellsAt_tl canSet_hd canSet_tl elAt_hd elAt_tl setsAt_nil setsAt_hd setsAt_tl kill_hd kill_tl okc_int okc_str okc_bool okc_slice okc_ptr okc_func
attribute [simp] fillL setL cellsL scal capOk eqCells eqCell notTuple
end Go.Proofs.Ytidkkmkihifeoaa.Hz
