/- Reading a number and a text from bytes: both programs. -/
import Derived.Test.YtidkkmkihifeoaaHzNK
import Derived.Test.YtidkkmkihifeoaaHzY
namespace Go.Proofs.Ytidkkmkihifeoaa.Hz
open Go.RowKit
set_option linter.unusedVariables false
set_option linter.unusedSimpArgs false
set_option maxRecDepth 20000

theorem byteAt {h : Hp} {w : Bool} {t : TypeId} {es : Str} {a : Option Addr} {F : List Nat} (k : slR w t byteE h es a F) {i : Nat} (hi : i < es.length) : ∃ o off, a = some ⟨o, off, none⟩ ∧ cellAt h o (off + i) = some (.int .u8 es[i].toNat) := by
  obtain ⟨o, off, c, Fi, rfl, ⟨rfl, _⟩, -, hc⟩ := k.at_ (List.getElem?_eq_getElem hi)
  have := hc 0 (by decide)
  exact ⟨o, off, rfl, by simpa [byteE, flatE] using this⟩
theorem lev_cvBSc {P : Program} {w : Bool} {h : Hp} {e : TypeId} {xs : Str} {o off : Nat} {F : List Nat} (k : slR w e byteE h xs (some ⟨o, off, none⟩) F) (ρ : Operand → Value) (s d : TypeId) (x : Operand) (c : Nat) (hx : ρ x = .slice (some ⟨o, off, none⟩) xs.length c) (h1 : strOf P d = true) (h2 : (elemOf P s).bind (intOf' P) = some .u8) : lev P h ρ (.convert s d x) = some (.string (S xs)) := by
  have := lev_cvBS (P := P) k (fun _ => .slice (some ⟨o, off, none⟩) xs.length xs.length) s d x rfl h1 h2
  simp only [lev, h1, h2] at this
  simp only [lev, hx, h1, h2]
  exact this
theorem abin_shlN (t : TypeId) (m k : Nat) (hm : m < 128) (hk : k < 5) : abin Try.prog .shl t (.int .i64 m) (.int .i64 (7 * (k : Int))) = some (.int .i64 ((m * 2 ^ (7 * k) : Nat) : Int)) := by
  have hb : ¬ (7 * (k : Int) < 0) := by omega
  have ht : (7 * (k : Int)).toNat = 7 * k := by omega
  have hmin : min (7 * k) 64 = 7 * k := by omega
  have hp : 2 ^ (7 * k) ≤ 2 ^ 28 := Nat.pow_le_pow_right (by decide) (by omega)
  have hm2 : m * 2 ^ (7 * k) ≤ 127 * 2 ^ 28 := Nat.mul_le_mul (by omega) hp
  have e : (m : Int) * 2 ^ (7 * k) = ((m * 2 ^ (7 * k) : Nat) : Int) := by simp
  simp only [abin, hb, if_false, ht, IntKind.bits, hmin]
  rw [e, wrap_in (by omega) (by omega)]
theorem abin_orN (t : TypeId) (n m : Nat) (hn : n < 2 ^ 35) (hm : m < 2 ^ 35) : abin Try.prog .or t (.int .i64 n) (.int .i64 m) = some (.int .i64 ((n ||| m : Nat) : Int)) := by
  have h1 : (BitVec.ofInt 64 (n : Int)).toNat = n := by rw [BitVec.toNat_ofInt]; omega
  have h2 : (BitVec.ofInt 64 (m : Int)).toNat = m := by rw [BitVec.toNat_ofInt]; omega
  have h3 : n ||| m < 2 ^ 35 := Nat.or_lt_two_pow hn hm
  show (if (IntKind.i64 ≠ IntKind.i64) then none else some (Value.int .i64 (IntKind.i64.wrap ((BitVec.ofInt 64 (n : Int) ||| BitVec.ofInt 64 (m : Int)).toNat : Nat)))) = _
  rw [if_neg (by simp), BitVec.toNat_or, h1, h2, wrap_in (by omega) (by omega)]
def gnF (b : Str) (at_ : Nat) : Nat → Nat → Nat → Option (Nat × Nat)
  | 0, _, _ => none
  | fuel + 1, k, n =>
    match b[at_ + k]? with
    | none => none
    | some x =>
      if 128 ≤ x.toNat then gnF b at_ fuel (k + 1) (n ||| x.toNat % 128 * 2 ^ (7 * k))
      else if (0 < k ∧ x.toNat = 0) ∨ 2147483647 < (n ||| x.toNat % 128 * 2 ^ (7 * k)) then none
      else some (n ||| x.toNat % 128 * 2 ^ (7 * k), at_ + k + 1)
def getNum (b : Str) (at_ : Nat) : Option (Nat × Nat) := gnF b at_ 5 0 0
def gnV : Option (Nat × Nat) → Value
  | none => .tuple #[.int .i64 0, .int .i64 0, .bool false]
  | some (n, e) => .tuple #[.int .i64 n, .int .i64 e, .bool true]
theorem gnF_out {b : Str} {at_ k : Nat} (h : b.length ≤ at_ + k) : ∀ fuel n, gnF b at_ fuel k n = none
  | 0, _ => rfl
  | fuel + 1, n => by simp [gnF, List.getElem?_eq_none h]
theorem gn_lt {n y k : Nat} (hn : n < 2 ^ (7 * k)) (hy : y < 128) : n ||| y * 2 ^ (7 * k) < 2 ^ (7 * (k + 1)) := by
  have e : 2 ^ (7 * (k + 1)) = 128 * 2 ^ (7 * k) := by rw [Nat.mul_add, Nat.pow_add, Nat.mul_comm]
  have hp : 0 < 2 ^ (7 * k) := Nat.two_pow_pos _
  refine Nat.or_lt_two_pow ?_ ?_
  · rw [e]; omega
  · rw [e]; exact Nat.mul_lt_mul_of_pos_right hy hp
theorem gnF_bound (b : Str) (at_ : Nat) : ∀ (fuel k n m e : Nat), gnF b at_ fuel k n = some (m, e) → m ≤ 2147483647 ∧ at_ < e ∧ e ≤ b.length
  | 0, _, _, _, _, h => by cases h
  | fuel + 1, k, n, m, e, h => by
    simp only [gnF] at h
    split at h
    · cases h
    · rename_i x hx
      have hlt := (List.getElem?_eq_some_iff.1 hx).1
      split at h
      · exact gnF_bound b at_ fuel _ _ m e h
      · split at h
        · cases h
        · rename_i hc
          simp only [Option.some.injEq, Prod.mk.injEq] at h
          obtain ⟨rfl, rfl⟩ := h
          omega
set_option maxHeartbeats 2000000 in
theorem getNum_impl_c (b : Str) (at_ : Nat) (a : Option Addr) (F : List Nat) (w : Bool) (t : TypeId) (h : Hp) (hr : slR w t byteE h b a F) (hl : b.length ≤ 1048576) (ha : at_ ≤ 1048576) :
    ACall Try.prog 74 [.slice a b.length b.length, .int .i64 at_] h fun r h' => (∃ t, h' = h ++ t) ∧ r = gnV (getNum b at_) := by
  refine acall mixed Try.func74 rfl (by kernel_rfl) ?_
  simp [Try.f74]
  refine callK0 (withinR at_ 0 b.length _) ?_
  rintro _ h ⟨rfl, rfl⟩
  cases e1 : inR at_ 0 b.length
  · have hlt : b.length ≤ at_ + 0 := by
      by_cases hc : at_ ≤ b.length
      · rw [inR_iff.2 ⟨by omega, by omega⟩] at e1; cases e1
      · omega
    have hg : getNum b at_ = none := gnF_out hlt 5 0
    simp [hg, gnV]
  simp
  refine aloop mixed [0, 1, 7, 8] (fun (x : Nat × Nat) => [.slice a b.length b.length, .int .i64 at_, .int .i64 x.2, .int .i64 x.1]) (fun _ => h) (fun x => x.1 ≤ 5 ∧ x.2 < 2 ^ (7 * x.1) ∧ gnF b at_ (5 - x.1) x.1 x.2 = getNum b at_) (fun x => 5 - x.1) (0, 0) ⟨by simp, by simp, rfl⟩ (by simp [pickF]) rfl ?_
  rintro ⟨k, n⟩ ⟨hk, hn, he⟩
  simp only at hk hn he
  simp [mkF]
  refine asplitK_intro (fun hb => ?_) (fun hb => ?_) <;> simp at hb <;> simp [hb]
  rotate_left
  · obtain rfl : k = 5 := by omega
    rw [← he]
    simp [gnF, gnV]
  have wk : IntKind.i64.wrap ((at_ : Int) + k) = (at_ : Int) + k := wrap_in (by omega) (by omega)
  simp [wk]
  refine asplitK_intro (fun hc => ?_) (fun hc => ?_) <;> simp at hc <;> simp [hc]
  rotate_left
  · rw [← he, gnF_out (by omega)]; rfl
  have hlt : at_ + k < b.length := by omega
  obtain ⟨o, off, rfl, c0⟩ := byteAt hr hlt
  have hx : b[at_ + k].toNat < 256 := by have := b[at_ + k].toNat_lt; omega
  have hstep : gnF b at_ (5 - k) k n = (if 128 ≤ b[at_ + k].toNat then gnF b at_ (5 - (k + 1)) (k + 1) (n ||| b[at_ + k].toNat % 128 * 2 ^ (7 * k))
      else if (0 < k ∧ b[at_ + k].toNat = 0) ∨ 2147483647 < (n ||| b[at_ + k].toNat % 128 * 2 ^ (7 * k)) then none
      else some (n ||| b[at_ + k].toNat % 128 * 2 ^ (7 * k), at_ + k + 1)) := by
    rw [show 5 - k = (5 - (k + 1)) + 1 by omega]
    simp only [gnF, List.getElem?_eq_getElem hlt]
  rw [hstep] at he
  generalize b[at_ + k].toNat = x at c0 hx he
  obtain ⟨y, hy⟩ : ∃ y, y = x % 128 := ⟨_, rfl⟩
  have hy2 : y < 128 := by omega
  have a1 : abin Try.prog .and 3 (.int .i64 (x : Int)) (.int .i64 127) = some (.int .i64 (y : Int)) := by
    rw [abin_and127 _ (x : Int) (by omega) (by omega), hy]; rfl
  have a2 := abin_shlN 3 y k hy2 (by omega)
  have hlt2 := gn_lt hn hy2
  have hp35 : 2 ^ (7 * (k + 1)) ≤ 2 ^ 35 := Nat.pow_le_pow_right (by decide) (by omega)
  have hz : y * 2 ^ (7 * k) < 2 ^ 35 := by
    have h1 : y * 2 ^ (7 * k) ≤ n ||| y * 2 ^ (7 * k) := Nat.right_le_or
    omega
  have hn35 : n < 2 ^ 35 := by
    have h1 : n ≤ n ||| y * 2 ^ (7 * k) := Nat.left_le_or
    omega
  have a3 := abin_orN 3 n (y * 2 ^ (7 * k)) hn35 hz
  rw [← hy] at he
  generalize y * 2 ^ (7 * k) = z at a2 a3 he hlt2
  obtain ⟨n', hn'⟩ : ∃ n', n' = n ||| z := ⟨_, rfl⟩
  rw [← hn'] at a3 he hlt2
  have w7 : IntKind.i64.wrap (7 * (k : Int)) = 7 * (k : Int) := wrap_in (by omega) (by omega)
  have wx : IntKind.i64.wrap (x : Int) = (x : Int) := wrap_in (by omega) (by omega)
  have hto : ((at_ : Int) + k).toNat = at_ + k := by omega
  have hge : (0 : Int) ≤ (at_ : Int) + k := by omega
  simp [wk, hc, hge, hto, c0, wx, a1, w7, a2, a3]
  have wa : IntKind.i64.wrap (at_ : Int) = at_ := wrap_in (by omega) (by omega)
  have wa1 : IntKind.i64.wrap ((at_ : Int) + 1) = (at_ : Int) + 1 := wrap_in (by omega) (by omega)
  have wk1 : IntKind.i64.wrap ((at_ : Int) + k + 1) = (at_ : Int) + k + 1 := wrap_in (by omega) (by omega)
  refine asplitK_intro (fun h5 => ?_) (fun h5 => ?_) <;> (have h5' := h5; simp at h5; simp [h5, h5'])
  · have h5n : 128 ≤ x := by omega
    simp only [h5n, if_true] at he
    exact anext (k + 1, n') ⟨by simp only; omega, hlt2, he⟩ (by simp only; omega) (by simp [pickF, wrap_succ (show k < 9223372036854775807 by omega)]) rfl (by simp)
  have h5n : ¬ 128 ≤ x := by omega
  simp only [h5n, if_false] at he
  refine asplitK_intro (fun h6 => ?_) (fun h6 => ?_) <;> (have h6' := h6; simp at h6; simp [h6, h6'])
  · refine asplitK_intro (fun h7 => ?_) (fun h7 => ?_) <;> (have h7' := h7; simp at h7; simp [h7, h7'])
    · have hc1 : (0 < k ∧ x = 0) ∨ 2147483647 < n' := .inl ⟨by omega, by omega⟩
      rw [if_pos hc1] at he
      rw [← he]; rfl
    refine asplitK_intro (fun h8 => ?_) (fun h8 => ?_) <;> (have h8' := h8; simp at h8; simp [h8, h8'])
    · have hc1 : (0 < k ∧ x = 0) ∨ 2147483647 < n' := .inr (by omega)
      rw [if_pos hc1] at he
      rw [← he]; rfl
    · have hc1 : ¬ ((0 < k ∧ x = 0) ∨ 2147483647 < n') := by omega
      rw [if_neg hc1] at he
      rw [← he]
      simp [gnV, wk, wk1, wa, wa1] <;> omega
  · refine asplitK_intro (fun h8 => ?_) (fun h8 => ?_) <;> (have h8' := h8; simp at h8; simp [h8, h8'])
    · have hc1 : (0 < k ∧ x = 0) ∨ 2147483647 < n' := .inr (by omega)
      rw [if_pos hc1] at he
      rw [← he]; rfl
    · have hc1 : ¬ ((0 < k ∧ x = 0) ∨ 2147483647 < n') := by omega
      rw [if_neg hc1] at he
      rw [← he]
      simp [gnV, wk, wk1, wa, wa1] <;> omega
set_option maxHeartbeats 2000000 in
theorem getNum_spec_c (b : Str) (at_ : Nat) (a : Option Addr) (F : List Nat) (w : Bool) (t : TypeId) (h : Hp) (hr : slR w t byteE h b a F) (hl : b.length ≤ 1048576) (ha : at_ ≤ 1048576) :
    ACall Try.prog 71 [.slice a b.length b.length, .int .i64 at_] h fun r h' => (∃ t, h' = h ++ t) ∧ r = gnV (getNum b at_) := by
  refine acall mixed Try.func71 rfl (by kernel_rfl) ?_
  simp [Try.f71]
  refine aloop mixed [0, 1, 7, 8] (fun (x : Nat × Nat) => [.slice a b.length b.length, .int .i64 at_, .int .i64 x.2, .int .i64 x.1]) (fun _ => h) (fun x => x.1 ≤ 5 ∧ x.2 < 2 ^ (7 * x.1) ∧ gnF b at_ (5 - x.1) x.1 x.2 = getNum b at_) (fun x => 5 - x.1) (0, 0) ⟨by simp, by simp, rfl⟩ (by simp [pickF]) rfl ?_
  rintro ⟨k, n⟩ ⟨hk, hn, he⟩
  simp only at hk hn he
  simp [mkF]
  refine asplitK_intro (fun hb => ?_) (fun hb => ?_) <;> simp at hb <;> simp [hb]
  rotate_left
  · obtain rfl : k = 5 := by omega
    rw [← he]
    simp [gnF, gnV]
  have hneg : ¬ ((at_ : Int) < 0) := by omega
  have ws : IntKind.i64.wrap ((b.length : Int) - k) = (b.length : Int) - k := wrap_in (by omega) (by omega)
  have wk : IntKind.i64.wrap ((at_ : Int) + k) = (at_ : Int) + k := wrap_in (by omega) (by omega)
  simp [hneg, ws]
  refine asplitK_intro (fun hc => ?_) (fun hc => ?_) <;> (have hc' := hc; simp at hc; simp [hc, hc'])
  · rw [← he, gnF_out (by omega)]; rfl
  have hlt : at_ + k < b.length := by omega
  obtain ⟨o, off, rfl, c0⟩ := byteAt hr hlt
  have hx : b[at_ + k].toNat < 256 := by have := b[at_ + k].toNat_lt; omega
  have hstep : gnF b at_ (5 - k) k n = (if 128 ≤ b[at_ + k].toNat then gnF b at_ (5 - (k + 1)) (k + 1) (n ||| b[at_ + k].toNat % 128 * 2 ^ (7 * k))
      else if (0 < k ∧ b[at_ + k].toNat = 0) ∨ 2147483647 < (n ||| b[at_ + k].toNat % 128 * 2 ^ (7 * k)) then none
      else some (n ||| b[at_ + k].toNat % 128 * 2 ^ (7 * k), at_ + k + 1)) := by
    rw [show 5 - k = (5 - (k + 1)) + 1 by omega]
    simp only [gnF, List.getElem?_eq_getElem hlt]
  rw [hstep] at he
  generalize b[at_ + k].toNat = x at c0 hx he
  obtain ⟨y, hy⟩ : ∃ y, y = x % 128 := ⟨_, rfl⟩
  have hy2 : y < 128 := by omega
  have a1 : (x : Int).tmod 128 = (y : Int) := by rw [Int.tmod_eq_emod_of_nonneg (by omega)]; omega
  have a2 := abin_shlN 3 y k hy2 (by omega)
  have hlt2 := gn_lt hn hy2
  have hp35 : 2 ^ (7 * (k + 1)) ≤ 2 ^ 35 := Nat.pow_le_pow_right (by decide) (by omega)
  have hz : y * 2 ^ (7 * k) < 2 ^ 35 := by
    have h1 : y * 2 ^ (7 * k) ≤ n ||| y * 2 ^ (7 * k) := Nat.right_le_or
    omega
  have hn35 : n < 2 ^ 35 := by
    have h1 : n ≤ n ||| y * 2 ^ (7 * k) := Nat.left_le_or
    omega
  have a3 := abin_orN 3 n (y * 2 ^ (7 * k)) hn35 hz
  rw [← hy] at he
  generalize y * 2 ^ (7 * k) = z at a2 a3 he hlt2
  obtain ⟨n', hn'⟩ : ∃ n', n' = n ||| z := ⟨_, rfl⟩
  rw [← hn'] at a3 he hlt2
  have w7 : IntKind.i64.wrap (7 * (k : Int)) = 7 * (k : Int) := wrap_in (by omega) (by omega)
  have wx : IntKind.i64.wrap (x : Int) = (x : Int) := wrap_in (by omega) (by omega)
  have hto : ((at_ : Int) + k).toNat = at_ + k := by omega
  have hge : (0 : Int) ≤ (at_ : Int) + k := by omega
  have hcc : (at_ : Int) + k < (b.length : Int) := by omega
  simp [wk, hcc, hge, hto, c0, wx, a1, w7, a2, a3]
  have wa : IntKind.i64.wrap (at_ : Int) = at_ := wrap_in (by omega) (by omega)
  have wa1 : IntKind.i64.wrap ((at_ : Int) + 1) = (at_ : Int) + 1 := wrap_in (by omega) (by omega)
  have wk1 : IntKind.i64.wrap ((at_ : Int) + k + 1) = (at_ : Int) + k + 1 := wrap_in (by omega) (by omega)
  refine asplitK_intro (fun h5 => ?_) (fun h5 => ?_) <;> (have h5' := h5; simp at h5; simp [h5, h5'])
  rotate_left
  · have h5n : 128 ≤ x := by omega
    simp only [h5n, if_true] at he
    exact anext (k + 1, n') ⟨by simp only; omega, hlt2, he⟩ (by simp only; omega) (by simp [pickF, wrap_succ (show k < 9223372036854775807 by omega)]) rfl (by simp)
  have h5n : ¬ 128 ≤ x := by omega
  simp only [h5n, if_false] at he
  refine asplitK_intro (fun h6 => ?_) (fun h6 => ?_) <;> (have h6' := h6; simp at h6; simp [h6, h6'])
  · refine asplitK_intro (fun h7 => ?_) (fun h7 => ?_) <;> (have h7' := h7; simp at h7; simp [h7, h7'])
    · have hc1 : (0 < k ∧ x = 0) ∨ 2147483647 < n' := .inl ⟨by omega, by omega⟩
      rw [if_pos hc1] at he
      rw [← he]; rfl
    refine asplitK_intro (fun h8 => ?_) (fun h8 => ?_) <;> (have h8' := h8; simp at h8; simp [h8, h8'])
    · have hc1 : (0 < k ∧ x = 0) ∨ 2147483647 < n' := .inr (by omega)
      rw [if_pos hc1] at he
      rw [← he]; rfl
    · have hc1 : ¬ ((0 < k ∧ x = 0) ∨ 2147483647 < n') := by omega
      rw [if_neg hc1] at he
      rw [← he]
      simp [gnV, wk, wk1, wa, wa1] <;> omega
  · refine asplitK_intro (fun h8 => ?_) (fun h8 => ?_) <;> (have h8' := h8; simp at h8; simp [h8, h8'])
    · have hc1 : (0 < k ∧ x = 0) ∨ 2147483647 < n' := .inr (by omega)
      rw [if_pos hc1] at he
      rw [← he]; rfl
    · have hc1 : ¬ ((0 < k ∧ x = 0) ∨ 2147483647 < n') := by omega
      rw [if_neg hc1] at he
      rw [← he]
      simp [gnV, wk, wk1, wa, wa1] <;> omega

/-- A text: its length, then its bytes. -/
def getText (b : Str) (at_ : Nat) : Option (Str × Nat) :=
  match getNum b at_ with
  | none => none
  | some (n, e) => if b.length < n + e then none else some ((b.take (e + n)).drop e, e + n)
def gtV : Option (Str × Nat) → Value
  | none => .tuple #[.string (S []), .int .i64 0, .bool false]
  | some (s, e) => .tuple #[.string (S s), .int .i64 e, .bool true]
theorem getNum_bound {b : Str} {at_ n e : Nat} (h : getNum b at_ = some (n, e)) : n ≤ 2147483647 ∧ at_ < e ∧ e ≤ b.length := gnF_bound b at_ _ _ _ _ _ h
theorem getText_bound {b s : Str} {at_ e : Nat} (h : getText b at_ = some (s, e)) : at_ < e ∧ e ≤ b.length ∧ s.length ≤ b.length := by
  unfold getText at h
  split at h
  · cases h
  · rename_i n e0 hg
    have hb := getNum_bound hg
    split at h
    · cases h
    · simp only [Option.some.injEq, Prod.mk.injEq] at h
      obtain ⟨rfl, rfl⟩ := h
      simp
      omega
set_option maxHeartbeats 1000000 in
theorem getText_impl_c (b : Str) (at_ : Nat) (a : Option Addr) (F : List Nat) (w : Bool) (t : TypeId) (h : Hp) (hr : slR w t byteE h b a F) (ht : t = 5) (hl : b.length ≤ 1048576) (ha : at_ ≤ 1048576) :
    ACall Try.prog 73 [.slice a b.length b.length, .int .i64 at_] h fun r h' => (∃ t, h' = h ++ t) ∧ r = gtV (getText b at_) := by
  subst ht
  refine acall mixed Try.func73 rfl (by kernel_rfl) ?_
  simp [Try.f73]
  refine callK0 (getNum_impl_c b at_ a F w _ h hr hl ha) ?_
  rintro _ _ ⟨⟨t1, rfl⟩, rfl⟩
  cases hg : getNum b at_ with
  | none =>
    have hgt : getText b at_ = none := by simp [getText, hg]
    simp [gnV, hgt, gtV]
  | some p =>
    obtain ⟨n, e⟩ := p
    have hb := getNum_bound hg
    have w1 : IntKind.i64.wrap ((b.length : Int) - e) = (b.length : Int) - e := wrap_in (by omega) (by omega)
    have w2 : IntKind.i64.wrap ((e : Int) + n) = (e : Int) + n := wrap_in (by omega) (by omega)
    simp [gnV, w1]
    refine asplitK_intro (fun h5 => ?_) (fun h5 => ?_) <;> (have h5' := h5; simp at h5; simp [h5, h5'])
    · have hgt : getText b at_ = none := by simp only [getText, hg]; rw [if_pos (by omega)]
      rw [hgt]; rfl
    · have hgt : getText b at_ = some ((b.take (e + n)).drop e, e + n) := by simp only [getText, hg]; rw [if_neg (by omega)]
      have hne : b ≠ [] := by rintro rfl; simp at hb; omega
      obtain ⟨o, off, rfl, -⟩ := byteAt hr (i := 0) (by have := List.length_pos_iff.2 hne; omega)
      have hel := (hr.to (h' := h ++ t1) ⟨t1, rfl⟩).el
      obtain ⟨G, hp, _⟩ := (hr.to (h' := h ++ t1) ⟨t1, rfl⟩).part e (e + n) (by omega) (by omega)
      have hp : slR w 5 byteE (h ++ t1) ((b.take (e + n)).drop e) (some ⟨o, off + e * 1, none⟩) G := hp
      rw [Nat.mul_one] at hp
      have hpl : ((b.take (e + n)).drop e).length = n := by simp; omega
      have hle1 : (e : Int) ≤ (e : Int) + n := by omega
      have hle2 : (e : Int) + n ≤ (b.length : Int) := by omega
      have hto : ((e : Int) + n).toNat = e + n := by omega
      have hen : e + n - e = n := by omega
      rw [hgt]
      simp [w2, asl2_ij, hel, hle1, hle2, hto, hen]
      rw [lev_cvBSc hp _ _ _ _ (b.length - e) (by rw [hpl]; rfl) (by simp) (by simp)]
      simp [w2, gtV]
set_option maxHeartbeats 1000000 in
theorem getText_spec_c (b : Str) (at_ : Nat) (a : Option Addr) (F : List Nat) (w : Bool) (t : TypeId) (h : Hp) (hr : slR w t byteE h b a F) (ht : t = 5) (hl : b.length ≤ 1048576) (ha : at_ ≤ 1048576) :
    ACall Try.prog 70 [.slice a b.length b.length, .int .i64 at_] h fun r h' => (∃ t, h' = h ++ t) ∧ r = gtV (getText b at_) := by
  subst ht
  refine acall mixed Try.func70 rfl (by kernel_rfl) ?_
  simp [Try.f70]
  refine callK0 (getNum_spec_c b at_ a F w _ h hr hl ha) ?_
  rintro _ _ ⟨⟨t1, rfl⟩, rfl⟩
  cases hg : getNum b at_ with
  | none =>
    have hgt : getText b at_ = none := by simp [getText, hg]
    simp [gnV, hgt, gtV]
  | some p =>
    obtain ⟨n, e⟩ := p
    have hb := getNum_bound hg
    have w1 : IntKind.i64.wrap ((b.length : Int) - e) = (b.length : Int) - e := wrap_in (by omega) (by omega)
    have w2 : IntKind.i64.wrap ((e : Int) + n) = (e : Int) + n := wrap_in (by omega) (by omega)
    simp [gnV, w1]
    refine asplitK_intro (fun h5 => ?_) (fun h5 => ?_) <;> (have h5' := h5; simp at h5; simp [h5, h5'])
    · have hgt : getText b at_ = none := by simp only [getText, hg]; rw [if_pos (by omega)]
      rw [hgt]; rfl
    · have hgt : getText b at_ = some ((b.take (e + n)).drop e, e + n) := by simp only [getText, hg]; rw [if_neg (by omega)]
      have hne : b ≠ [] := by rintro rfl; simp at hb; omega
      obtain ⟨o, off, rfl, -⟩ := byteAt hr (i := 0) (by have := List.length_pos_iff.2 hne; omega)
      have hel := (hr.to (h' := h ++ t1) ⟨t1, rfl⟩).el
      obtain ⟨G, hp, _⟩ := (hr.to (h' := h ++ t1) ⟨t1, rfl⟩).part e (e + n) (by omega) (by omega)
      have hp : slR w 5 byteE (h ++ t1) ((b.take (e + n)).drop e) (some ⟨o, off + e * 1, none⟩) G := hp
      rw [Nat.mul_one] at hp
      have hpl : ((b.take (e + n)).drop e).length = n := by simp; omega
      have hle1 : (e : Int) ≤ (e : Int) + n := by omega
      have hle2 : (e : Int) + n ≤ (b.length : Int) := by omega
      have hto : ((e : Int) + n).toNat = e + n := by omega
      have hen : e + n - e = n := by omega
      rw [hgt]
      simp [w2, asl2_ij, hel, hle1, hle2, hto, hen]
      rw [lev_cvBSc hp _ _ _ _ (b.length - e) (by rw [hpl]; rfl) (by simp) (by simp)]
      simp [w2, gtV]
end Go.Proofs.Ytidkkmkihifeoaa.Hz
