/- Numbers and texts as bytes: both programs. -/
import Derived.Test.YtidkkmkihifeoaaHzT
import Derived.Test.YtidkkmkihifeoaaHzV
namespace Go.Proofs.Ytidkkmkihifeoaa.Hz
open Go.RowKit
set_option linter.unusedVariables false
set_option linter.unusedSimpArgs false
set_option maxRecDepth 20000

def numB (n : Nat) : Str :=
  if n < 128 then [UInt8.ofNat n] else UInt8.ofNat (n % 128 + 128) :: numB (n / 128)
  termination_by n
  decreasing_by omega
theorem numB_lt {n : Nat} (h : n < 128) : numB n = [UInt8.ofNat n] := by rw [numB, if_pos h]
theorem numB_ge {n : Nat} (h : ¬ n < 128) : numB n = UInt8.ofNat (n % 128 + 128) :: numB (n / 128) := by rw [numB, if_neg h]
theorem numB_len : ∀ (k n : Nat), n < 128 ^ (k + 1) → (numB n).length ≤ k + 1
  | 0, n, h => by rw [numB_lt (by simpa using h)]; simp
  | k + 1, n, h => by
    by_cases hn : n < 128
    · rw [numB_lt hn]; simp
    · rw [numB_ge hn]
      have : n / 128 < 128 ^ (k + 1) := by
        rw [Nat.div_lt_iff_lt_mul (by decide)]
        rw [Nat.pow_succ] at h
        exact h
      have := numB_len k _ this
      simp only [List.length_cons]; omega
def putNum (n : Int) : Str := if 0 ≤ n ∧ n ≤ 2147483647 then numB n.toNat else []
def putText (s : Str) : Str := putNum s.length ++ s
theorem putNum_len (n : Int) : (putNum n).length ≤ 5 := by
  unfold putNum
  split
  · exact numB_len 4 _ (by omega)
  · simp

theorem within_spec_c (n lo hi : Int) (h : Hp) : ACall Try.prog 80 [.int .i64 n, .int .i64 lo, .int .i64 hi] h fun r h' => r = .bool (decide (lo ≤ n ∧ n ≤ hi)) ∧ h' = h := by
  refine acall mixed Try.func80 rfl (by kernel_rfl) ?_
  by_cases h1 : lo ≤ n <;> by_cases h2 : n ≤ hi <;> simp [Try.f80, h1, h2]
theorem within_c (n lo hi : Int) (h : Hp) : ACall Try.prog 104 [.int .i64 n, .int .i64 lo, .int .i64 hi] h fun r h' => r = .bool (decide (lo ≤ n ∧ n ≤ hi)) ∧ h' = h := by
  refine acall mixed Try.func104 rfl (by kernel_rfl) ?_
  by_cases h1 : lo ≤ n <;> by_cases h2 : n ≤ hi <;> simp [Try.f104, h1, h2]
theorem lit1 (h : Hp) (e : TypeId) (b : UInt8) : slR true e byteE (h ++ [⟨true, true, e, [.int .u8 b.toNat]⟩]) [b] (some ⟨h.length, 0, none⟩) [h.length] :=
  (Own.lit (h0 := h) (h := h) (e := e) (A := byteE) (xs := [b]) (css := [[.int .u8 b.toNat]]) (Fs := [[]]) (Ext.refl h) ⟨⟨rfl, rfl⟩, trivial⟩ (by simp) (by simp)).sl

theorem empty1 {α : Type} (A : Enc α) (h : Hp) (e : TypeId) : Own h e A (h ++ [⟨true, true, e, []⟩]) [] (some ⟨h.length, 0, none⟩) [h.length] :=
  Own.lit (h0 := h) (h := h) (e := e) (A := A) (xs := []) (css := []) (Fs := []) (Ext.refl h) trivial (by simp) (by simp)
theorem u8_ofNat {k : Nat} (h : k < 256) : ((UInt8.ofNat k).toNat : Int) = k := by
  simp; omega

theorem putNum_spec_c (n : Int) (h : Hp) : ACall Try.prog 122 [.int .i64 n] h fun r h' => ∃ a F, r = .slice a (putNum n).length (putNum n).length ∧ Own h 5 byteE h' (putNum n) a F := by
  refine acall mixed Try.func122 rfl (by kernel_rfl) ?_
  simp [Try.f122]
  refine callK0 (within_spec_c n 0 2147483647 _) ?_
  rintro _ _ ⟨rfl, rfl⟩
  have own0 := empty1 byteE h 5
  by_cases hr : 0 ≤ n ∧ n ≤ 2147483647
  · obtain ⟨m, rfl⟩ := Int.eq_ofNat_of_zero_le hr.1
    have hm : m ≤ 2147483647 := by omega
    have hm' : (m : Int) ≤ 2147483647 := by omega
    have hp : putNum (m : Int) = numB m := by unfold putNum; rw [if_pos hr]; rfl
    rw [hp]
    simp [hm']
    refine aloop mixed [0, 3] (fun (x : Nat × Str × Option Addr × Hp) => [.int .i64 x.1, .slice x.2.2.1 x.2.1.length x.2.1.length]) (fun x => x.2.2.2)
      (fun x => x.1 ≤ 2147483647 ∧ x.2.1 ++ numB x.1 = numB m ∧ ∃ F, Own h 5 byteE x.2.2.2 x.2.1 x.2.2.1 F) (fun x => x.1) (m, [], some ⟨h.length, 0, none⟩, _) ⟨hm, rfl, _, own0⟩ rfl rfl ?_
    rintro ⟨m', out, a, H⟩ ⟨hm2, he, F, own⟩
    simp only at hm2 he own
    simp [mkF]
    refine asplitK_intro (fun hb => ?_) (fun hb => ?_) <;> simp at hb <;> simp [hb]
    · have hv : IntKind.u8.wrap (IntKind.i64.wrap ((m' : Int).tmod 128 + 128)) = ((UInt8.ofNat (m' % 128 + 128)).toNat : Int) := by
        rw [Int.tmod_eq_emod_of_nonneg (by omega), wrap_in (by omega) (by omega), wrap_u8 (by omega) (by omega), u8_ofNat (by omega)]; omega
      have hol : out.length ≤ 5 := by have := numB_len 4 m (by omega); rw [← he] at this; simp at this; omega
      obtain ⟨a', H', F', eq, own'⟩ := own.append1 (P := Try.prog) (UInt8.ofNat (m' % 128 + 128)) (cs := [.int .u8 (IntKind.u8.wrap (IntKind.i64.wrap ((m' : Int).tmod 128 + 128)))]) (by rw [hv]) (st := 59) (xt := 59) (bt := 1) (z := [.int .u8 0]) (by simp) (by simp) (by unfold big; omega) (by unfold big; omega)
      simp [eq]
      have hw : IntKind.i64.wrap ((m' : Int) / 128) = (m' : Int) / 128 := wrap_in (by omega) (by omega)
      refine anext (m' / 128, out ++ [UInt8.ofNat (m' % 128 + 128)], a', H') ⟨by simp only; omega, ?_, F', own'⟩ (by simp only; omega) (by simp [pickF, hw]) rfl (by simp)
      simp only
      rw [List.append_assoc, ← he, numB_ge (n := m') (by omega)]
      rfl
    · have hv : IntKind.u8.wrap (m' : Int) = ((UInt8.ofNat m').toNat : Int) := by rw [wrap_u8 (by omega) (by omega), u8_ofNat (by omega)]
      have hol : out.length ≤ 5 := by have := numB_len 4 m (by omega); rw [← he] at this; simp at this; omega
      obtain ⟨a', H', F', eq, own'⟩ := own.append1 (P := Try.prog) (UInt8.ofNat m') (cs := [.int .u8 (IntKind.u8.wrap m')]) (by rw [hv]) (st := 59) (xt := 59) (bt := 1) (z := [.int .u8 0]) (by simp) (by simp) (by unfold big; omega) (by unfold big; omega)
      rw [numB_lt (n := m') (by omega)] at he
      simp [eq, ← he]
      exact ⟨F', own'⟩
  · have hp : putNum n = [] := by unfold putNum; rw [if_neg hr]
    rw [hp]
    have hr2 : (!decide (0 ≤ n) || !decide (n ≤ 2147483647)) = true := by simp; omega
    simp [hr2]
    exact ⟨_, own0⟩

theorem and127 (m : Nat) (h : m ≤ 2147483647) : (BitVec.ofInt 64 (m : Int) &&& BitVec.ofInt 64 127).toNat = m % 128 := by
  have h1 : (BitVec.ofInt 64 (m : Int)).toNat = m := by
    rw [BitVec.toNat_ofInt]; omega
  have h2 : (BitVec.ofInt 64 127).toNat = 127 := by decide
  rw [BitVec.toNat_and, h1, h2]
  exact Nat.and_two_pow_sub_one_eq_mod m 7
theorem or128 (m : Nat) (h : m < 128) : (BitVec.ofInt 64 (m : Int) ||| BitVec.ofInt 64 128).toNat = m + 128 := by
  have h1 : (BitVec.ofInt 64 (m : Int)).toNat = m := by
    rw [BitVec.toNat_ofInt]; omega
  have h2 : (BitVec.ofInt 64 128).toNat = 128 := by decide
  rw [BitVec.toNat_or, h1, h2, Nat.or_comm]
  have h3 := Nat.two_pow_add_eq_or_of_lt (i := 7) (b := m) h 1
  have h4 : 2 ^ 7 * 1 = 128 := by decide
  rw [h4] at h3
  omega
theorem abin_and127 (t : TypeId) (i : Int) (h0 : 0 ≤ i) (h : i ≤ 2147483647) : abin Try.prog .and t (.int .i64 i) (.int .i64 127) = some (.int .i64 (i % 128)) := by
  obtain ⟨m, rfl⟩ := Int.eq_ofNat_of_zero_le h0
  show (if (IntKind.i64 ≠ IntKind.i64) then none else some (Value.int .i64 (IntKind.i64.wrap ((BitVec.ofInt 64 (m : Int) &&& BitVec.ofInt 64 127).toNat : Nat)))) = _
  rw [if_neg (by simp), and127 m (by omega), wrap_in (by omega) (by omega)]
  rfl
theorem abin_or128 (t : TypeId) (i : Int) (h0 : 0 ≤ i) (h : i < 128) : abin Try.prog .or t (.int .i64 i) (.int .i64 128) = some (.int .i64 (i + 128)) := by
  obtain ⟨m, rfl⟩ := Int.eq_ofNat_of_zero_le h0
  show (if (IntKind.i64 ≠ IntKind.i64) then none else some (Value.int .i64 (IntKind.i64.wrap ((BitVec.ofInt 64 (m : Int) ||| BitVec.ofInt 64 128).toNat : Nat)))) = _
  rw [if_neg (by simp), or128 m (by omega), wrap_in (by omega) (by omega)]
  rfl
theorem abin_shr7 (t : TypeId) (i : Int) : abin Try.prog .shr t (.int .i64 i) (.int .u64 7) = some (.int .i64 (i / 128)) := by
  simp [abin, IntKind.bits]
  rw [Int.fdiv_eq_ediv_of_nonneg _ (by decide)]

theorem putNum_impl_c (n : Int) (h : Hp) : ACall Try.prog 108 [.int .i64 n] h fun r h' => ∃ a F, r = .slice a (putNum n).length (putNum n).length ∧ Own h 5 byteE h' (putNum n) a F := by
  refine acall mixed Try.func108 rfl (by kernel_rfl) ?_
  simp [Try.f108]
  refine callK0 (within_c n 0 2147483647 _) ?_
  rintro _ h ⟨rfl, rfl⟩
  have own0 := empty1 byteE h 5
  by_cases hr : 0 ≤ n ∧ n ≤ 2147483647
  · obtain ⟨m, rfl⟩ := Int.eq_ofNat_of_zero_le hr.1
    have hm : m ≤ 2147483647 := by omega
    have hm' : (m : Int) ≤ 2147483647 := by omega
    have hp : putNum (m : Int) = numB m := by unfold putNum; rw [if_pos hr]; rfl
    rw [hp]
    simp [hm']
    refine aloop mixed [0, 3] (fun (x : Nat × Str × Option Addr × Hp) => [.int .i64 x.1, .slice x.2.2.1 x.2.1.length x.2.1.length]) (fun x => x.2.2.2)
      (fun x => x.1 ≤ 2147483647 ∧ x.2.1 ++ numB x.1 = numB m ∧ ∃ F, Own h 5 byteE x.2.2.2 x.2.1 x.2.2.1 F) (fun x => x.1) (m, [], some ⟨h.length, 0, none⟩, _) ⟨hm, rfl, _, own0⟩ rfl rfl ?_
    rintro ⟨m', out, a, H⟩ ⟨hm2, he, F, own⟩
    simp only at hm2 he own
    simp [mkF]
    refine asplitK_intro (fun hb => ?_) (fun hb => ?_) <;> simp at hb <;> simp [hb]
    · have hv : IntKind.u8.wrap ((m' : Int) % 128 + 128) = ((UInt8.ofNat (m' % 128 + 128)).toNat : Int) := by
        rw [wrap_u8 (by omega) (by omega), u8_ofNat (by omega)]; omega
      have hol : out.length ≤ 5 := by have := numB_len 4 m (by omega); rw [← he] at this; simp at this; omega
      obtain ⟨a', H', F', eq, own'⟩ := own.append1 (P := Try.prog) (UInt8.ofNat (m' % 128 + 128)) (cs := [.int .u8 (IntKind.u8.wrap ((m' : Int) % 128 + 128))]) (by rw [hv]) (st := 59) (xt := 59) (bt := 1) (z := [.int .u8 0]) (by simp) (by simp) (by unfold big; omega) (by unfold big; omega)
      simp [abin_and127 _ (m' : Int) (by omega) (by omega), abin_or128 _ ((m' : Int) % 128) (by omega) (by omega), eq, abin_shr7]
      refine anext (m' / 128, out ++ [UInt8.ofNat (m' % 128 + 128)], a', H') ⟨by simp only; omega, ?_, F', own'⟩ (by simp only; omega) (by simp [pickF]) rfl (by simp)
      simp only
      rw [List.append_assoc, ← he, numB_ge (n := m') (by omega)]
      rfl
    · have hv : IntKind.u8.wrap (m' : Int) = ((UInt8.ofNat m').toNat : Int) := by rw [wrap_u8 (by omega) (by omega), u8_ofNat (by omega)]
      have hol : out.length ≤ 5 := by have := numB_len 4 m (by omega); rw [← he] at this; simp at this; omega
      obtain ⟨a', H', F', eq, own'⟩ := own.append1 (P := Try.prog) (UInt8.ofNat m') (cs := [.int .u8 (IntKind.u8.wrap m')]) (by rw [hv]) (st := 59) (xt := 59) (bt := 1) (z := [.int .u8 0]) (by simp) (by simp) (by unfold big; omega) (by unfold big; omega)
      rw [numB_lt (n := m') (by omega)] at he
      simp [eq, ← he]
      exact ⟨F', own'⟩
  · have hp : putNum n = [] := by unfold putNum; rw [if_neg hr]
    rw [hp]
    have hr2 : (!decide (0 ≤ n) || !decide (n ≤ 2147483647)) = true := by simp; omega
    simp [hr2]
    exact ⟨_, Own.nil (Ext.refl h)⟩

theorem bytesR (h : Hp) (e : TypeId) (s : Str) : slR true e byteE (h ++ [⟨true, true, e, bytesL (S s)⟩]) s (some ⟨h.length, 0, none⟩) [h.length] := by
  have hrow : rowsR byteE h s (s.map fun b => [Value.int .u8 b.toNat]) (List.replicate s.length []) := rowsR.mkFlat s
  have := (Own.lit (h0 := h) (e := e) (Ext.refl h) hrow (by rw [flat_rep]; simp) (by rw [flat_rep]; simp)).sl
  rw [bytes_flat, ← bytesL_S, flat_rep] at this
  exact this
theorem putText_spec_c (s : Str) (h : Hp) (hs : s.length ≤ 4294967296) : ACall Try.prog 181 [.string (S s)] h fun r h' => ∃ a F, r = .slice a (putText s).length (putText s).length ∧ Own h 5 byteE h' (putText s) a F := by
  refine acall mixed Try.func181 rfl (by kernel_rfl) ?_
  simp [Try.f181]
  refine callK0 (putNum_spec_c _ h) ?_
  rintro _ H ⟨a, F, rfl, own⟩
  have hl := putNum_len s.length
  have hb := bytesR H 5 s
  obtain ⟨a', H', F', eq, own', _⟩ := (own.grow (Ext.push H _)).appendSl (P := Try.prog) hb (st := 59) (xt := 59) (bt := 1) (z := [.int .u8 0]) (by simp) (by simp) (by unfold big; omega) (by unfold big; omega)
  simp [eq]
  exact ⟨a', by simp [putText], F', own'⟩
theorem putText_impl_c (s : Str) (h : Hp) (hs : s.length ≤ 4294967296) : ACall Try.prog 107 [.string (S s)] h fun r h' => ∃ a F, r = .slice a (putText s).length (putText s).length ∧ Own h 5 byteE h' (putText s) a F := by
  refine acall mixed Try.func107 rfl (by kernel_rfl) ?_
  simp [Try.f107]
  refine callK0 (putNum_impl_c _ h) ?_
  rintro _ H ⟨a, F, rfl, own⟩
  have hl := putNum_len s.length
  obtain ⟨a', H', F', eq, own', _⟩ := own.appendStr (P := Try.prog) (ys := s) (st := 59) (xt := 9) (bt := 1) (z := [.int .u8 0]) (by simp) (by simp) (by unfold big; omega) (by unfold big; omega)
  simp [eq]
  exact ⟨a', by simp [putText], F', own'⟩
end Go.Proofs.Ytidkkmkihifeoaa.Hz
