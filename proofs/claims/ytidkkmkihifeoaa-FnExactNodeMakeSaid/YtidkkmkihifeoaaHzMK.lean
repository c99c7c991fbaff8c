/- The laws' marks on entries: written into an own slice, and found there again. -/
import Derived.Test.YtidkkmkihifeoaaHzP
import Derived.Test.YtidkkmkihifeoaaHzDL
import Derived.Test.YtidkkmkihifeoaaHzW
namespace Go.Proofs.Ytidkkmkihifeoaa.Hz
open Go.RowKit
set_option linter.unusedVariables false
set_option linter.unusedSimpArgs false
set_option maxRecDepth 20000

/-- The decimal digits of a number; none of zero. -/
def digs (n : Nat) : Str := if h : n = 0 then [] else digs (n / 10) ++ [UInt8.ofNat (48 + n % 10)]
termination_by n
theorem digs_zero : digs 0 = [] := by unfold digs; simp
theorem digs_pos {n : Nat} (h : n ≠ 0) : digs n = digs (n / 10) ++ [UInt8.ofNat (48 + n % 10)] := by
  conv => lhs; unfold digs
  simp [h]
def markT (k : Nat) : Str := if k = 0 then [109, 48] else 109 :: digs k
theorem digs_len : ∀ (m n : Nat), n < 10 ^ m → (digs n).length ≤ m
  | 0, n, h => by
    have : n = 0 := by simpa using h
    rw [this, digs_zero]; simp
  | m + 1, n, h => by
    by_cases h0 : n = 0
    · rw [h0, digs_zero]; simp
    · rw [digs_pos h0, List.length_append]
      have := digs_len m (n / 10) (by rw [Nat.pow_succ] at h; omega)
      simp
      exact this
theorem markText_c (k : Nat) (h : Hp) (hk : k ≤ 1073741824) : ACall Try.prog 69 [.int .i64 k] h fun r h' => (∃ t, h' = h ++ t) ∧ r = .string (S (markT k)) := by
  refine acall mixed Try.func69 rfl (by kernel_rfl) ?_
  have hdl := digs_len 10 k (by omega)
  simp [Try.f69]
  refine asplitK_intro (fun h0 => ?_) (fun h0 => ?_) <;> simp at h0
  · obtain rfl : k = 0 := by omega
    simp [markT]
  have h0' : ¬ ((k : Int) ≤ 0) := by omega
  have hm : markT k = 109 :: digs k := by simp [markT, h0]
  simp [h0']
  refine aloop mixed [0, 3] (fun (x : Nat × Str × Hp) => [.int .i64 x.1, .string (S x.2.1)]) (fun x => h ++ x.2.2) (fun x => x.1 ≤ k ∧ digs x.1 ++ x.2.1 = digs k) (fun x => x.1) (k, [], []) ⟨Nat.le_refl _, by simp⟩ (by simp [pickF]) (by simp) ?_
  rintro ⟨m, out, t⟩ ⟨hmk, hd⟩
  simp only at hmk hd
  simp [mkF]
  refine asplitK_intro (fun hb => ?_) (fun hb => ?_) <;> simp at hb
  · have hb' : (0 : Int) < m := by omega
    have hmm : (m : Int).tmod 10 = (m : Int) % 10 := by rw [Int.tmod_eq_emod_of_nonneg (by omega)]
    have hq : (m : Int).tdiv 10 = (m : Int) / 10 := by rw [Int.tdiv_eq_ediv_of_nonneg (by omega)]
    have w1 : IntKind.i64.wrap (48 + (m : Int) % 10) = 48 + (m : Int) % 10 := wrap_in (by omega) (by omega)
    have w2 : IntKind.u8.wrap (48 + (m : Int) % 10) = 48 + (m : Int) % 10 := wrap_u8 (by omega) (by omega)
    have e1 : ((UInt8.ofNat (48 + m % 10)).toNat : Int) = 48 + (m : Int) % 10 := by simp; omega
    have hdp := digs_pos (n := m) (by omega)
    have hol : out.length ≤ 10 := by rw [← hd] at hdl; simp at hdl; omega
    have w3 : IntKind.i64.wrap ((m : Int) / 10) = (m : Int) / 10 := wrap_in (by omega) (by omega)
    have hlit := lit1 (h ++ t) 5 (UInt8.ofNat (48 + m % 10))
    rw [e1] at hlit
    simp only [List.append_assoc, List.length_append] at hlit
    have hsz : 1 + out.length ≤ 9223372036854775807 := by omega
    simp [hb', hmm, hq, w1, w2, w3]
    rw [lev_cvBS hlit _ _ _ _ rfl (by simp) (by simp)]
    simp [hsz, hq, w3]
    exact anext (m / 10, (48 + UInt8.ofNat (m % 10)) :: out, _) ⟨by simp only; omega, by simp only; rw [← hd, hdp]; simp⟩ (by simp only; omega) (by simp [pickF]) rfl (by simp)
  · have hb' : ¬ ((0 : Int) < m) := by omega
    obtain rfl : m = 0 := by omega
    rw [digs_zero] at hd
    simp at hd
    subst hd
    simp [hm]
    omega
/-- The marked entries. -/
def mkEnts : Nat → Nat → List Ent
  | 0, _ => []
  | n + 1, k => ⟨markT k, ((k + 1 : Nat) : Int)⟩ :: mkEnts n (k + 2)
theorem mkEnts_len : ∀ (n k : Nat), (mkEnts n k).length = n
  | 0, _ => rfl
  | n + 1, k => by simp [mkEnts, mkEnts_len n (k + 2)]
theorem mkEnts_get : ∀ (n k j : Nat) (hj : j < (mkEnts n k).length), (mkEnts n k)[j] = ⟨markT (k + 2 * j), ((k + 2 * j + 1 : Nat) : Int)⟩
  | 0, _, _, hj => by simp [mkEnts] at hj
  | n + 1, k, 0, _ => by simp [mkEnts]
  | n + 1, k, j + 1, hj => by
    have := mkEnts_get n (k + 2) j (by simpa [mkEnts] using hj)
    simp only [mkEnts, List.getElem_cons_succ, this]
    rw [show k + 2 + 2 * j = k + 2 * (j + 1) by omega]
theorem take_drop_set {α : Type} {xs es : List α} {j : Nat} (h1 : j < xs.length) (h2 : xs.length = es.length) : (xs.take j ++ es.drop j).set j xs[j] = xs.take (j + 1) ++ es.drop (j + 1) := by
  rw [List.set_append_right _ _ (by simp; omega)]
  have hl : j - (xs.take j).length = 0 := by simp; omega
  rw [hl, List.drop_eq_getElem_cons (by omega : j < es.length), List.set_cons_zero, List.take_succ_eq_append_getElem h1, List.append_assoc]
  rfl
theorem markEntryS_c (es : List Ent) (k : Nat) (a : Option Addr) (F : List Nat) (h0 h : Hp) (own : Own h0 66 entE h es a F) (hk : k + 2 * es.length ≤ 1073741824) :
    ACall Try.prog 20 [.slice a es.length es.length, .int .i64 k] h fun r h' => r = .int .i64 ((k + 2 * es.length : Nat) : Int) ∧ Own h0 66 entE h' (mkEnts es.length k) a F ∧ (∀ q, q < h.length → q ∉ F → h'[q]? = h[q]?) ∧ h.length ≤ h'.length := by
  refine acall mixed Try.func20 rfl (by kernel_rfl) ?_
  have hml := mkEnts_len es.length k
  simp [Try.f20]
  refine aloop mixed [0, 1, 5] (fun (x : Nat × Hp) => [.slice a es.length es.length, .int .i64 ((k + 2 * x.1 : Nat) : Int), .int .i64 x.1]) (fun x => x.2) (fun x => x.1 ≤ es.length ∧ Own h0 66 entE x.2 ((mkEnts es.length k).take x.1 ++ es.drop x.1) a F ∧ (∀ q, q < h.length → q ∉ F → x.2[q]? = h[q]?) ∧ h.length ≤ x.2.length) (fun x => es.length - x.1) (0, h) ⟨by simp, by simpa using own, fun q _ _ => rfl, Nat.le_refl _⟩ (by simp [pickF]) rfl ?_
  rintro ⟨j, H⟩ ⟨hj, oj, keep, hlen⟩
  simp only at hj oj keep hlen
  simp [mkF]
  refine asplitK_intro (fun hb => ?_) (fun hb => ?_) <;> simp at hb <;> simp [hb]
  · have hjl : j < ((mkEnts es.length k).take j ++ es.drop j).length := by simp [hml]; omega
    obtain ⟨o, off, rfl, -, -⟩ := entAt oj.sl hjl
    have hF := oj.flatF
    subst hF
    have wk : (k : Int) + 2 * (j : Int) = ((k + 2 * j : Nat) : Int) := by omega
    rw [wk]
    refine callK0 (markText_c (k + 2 * j) _ (by omega)) ?_
    rintro _ _ ⟨⟨t, rfl⟩, rfl⟩
    have o1 := oj.grow (Ext.push H t)
    obtain ⟨hcan1, F1, o2⟩ := o1.putFlat (i := j) hjl ⟨markT (k + 2 * j), (((mkEnts es.length k).take j ++ es.drop j)[j]).node⟩ 0 [.string (S (markT (k + 2 * j)))] (by simp) (by simp [Ent.cs])
    obtain rfl := o2.flatF
    have w1 : IntKind.i64.wrap (((k + 2 * j : Nat) : Int) + 1) = ((k + 2 * j + 1 : Nat) : Int) := wrap_succ (by omega)
    have w2 : IntKind.i64.wrap (((k + 2 * j + 1 : Nat) : Int) + 1) = ((k + 2 * (j + 1) : Nat) : Int) := by rw [wrap_succ (by omega)]; omega
    obtain ⟨hcan2, F2, o3⟩ := o2.putFlat (i := j) (by simpa using hjl) ⟨markT (k + 2 * j), ((k + 2 * j + 1 : Nat) : Int)⟩ 1 [.int .i64 ((k + 2 * j + 1 : Nat) : Int)] (by simp) (by simp [Ent.cs])
    obtain rfl := o3.flatF
    rw [List.set_set] at o3
    have hg := mkEnts_get es.length k j (by rw [hml]; exact hb)
    rw [← hg, take_drop_set (by rw [hml]; exact hb) hml] at o3
    have w1' : IntKind.i64.wrap ((k : Int) + 2 * (j : Int) + 1) = (k : Int) + 2 * (j : Int) + 1 := by rw [wrap_in (by omega) (by omega)]
    have w2' : IntKind.i64.wrap ((k : Int) + 2 * (j : Int) + 1 + 1) = (k : Int) + 2 * ((j : Int) + 1) := by rw [wrap_in (by omega) (by omega)]; omega
    simp at hcan1 hcan2 o3
    simp [hb, hcan1, w1', hcan2, w2']
    have keep3 : ∀ (v v' : Value) (q : Nat), q < h.length → q ∉ [o] → (setsAt (setsAt (H ++ t) o (off + j * 2) [v]) o (off + j * 2 + 1) [v'])[q]? = h[q]? := fun v v' q hq hm => by
      have hqo : ¬ (o = q) := by simpa [eq_comm] using hm
      rw [setsAt_get, if_neg hqo, setsAt_get, if_neg hqo, List.getElem?_append_left (by omega)]
      exact keep q hq hm
    have len3 : ∀ (v v' : Value), h.length ≤ (setsAt (setsAt (H ++ t) o (off + j * 2) [v]) o (off + j * 2 + 1) [v']).length := fun v v' => by
      rw [setsAt_len, setsAt_len, List.length_append]; omega
    exact anext (j + 1, setsAt (setsAt (H ++ t) o (off + j * 2) [.string (S (markT (k + 2 * j)))]) o (off + j * 2 + 1) [.int .i64 ((k : Int) + 2 * (j : Int) + 1)]) ⟨hb, o3, by simpa using keep3 (.string (S (markT (k + 2 * j)))) (.int .i64 ((k : Int) + 2 * (j : Int) + 1)), len3 _ _⟩ (by simp only; omega) (by simp [pickF, wrap_succ (show j < 9223372036854775807 by omega)]) rfl (by simp)
  · obtain rfl : j = es.length := by omega
    rw [List.drop_length, List.append_nil, List.take_of_length_le (by omega)] at oj
    exact ⟨by omega, oj, keep, hlen⟩
theorem heldEntryS_c (n k : Nat) (a : Option Addr) (F : List Nat) (w : Bool) (t : TypeId) (h : Hp) (hr : slR w t entE h (mkEnts n k) a F) (hk : k + 2 * n ≤ 1073741824) :
    ACall Try.prog 21 [.slice a n n, .int .i64 k] h fun r h' => (∃ t, h' = h ++ t) ∧ r = .int .i64 ((k + 2 * n : Nat) : Int) := by
  refine acall mixed Try.func21 rfl (by kernel_rfl) ?_
  have hml := mkEnts_len n k
  simp [Try.f21]
  refine aloop mixed [0, 1, 5] (fun (x : Nat × Hp) => [.slice a n n, .int .i64 ((k + 2 * x.1 : Nat) : Int), .int .i64 x.1]) (fun x => h ++ x.2) (fun x => x.1 ≤ n) (fun x => n - x.1) (0, []) (by simp) (by simp [pickF]) (by simp) ?_
  rintro ⟨j, t⟩ hj
  simp only at hj
  simp [mkF]
  refine asplitK_intro (fun hb => ?_) (fun hb => ?_) <;> simp at hb <;> simp [hb]
  · have hjl : j < (mkEnts n k).length := by omega
    obtain ⟨o, off, rfl, c0, c1⟩ := entAt (hr.ext (Ext.push h t)) hjl
    have hg := mkEnts_get n k j hjl
    rw [hg] at c0 c1
    have wk : (k : Int) + 2 * (j : Int) = ((k + 2 * j : Nat) : Int) := by omega
    refine drawK true (by kernel_rfl) ?_
    simp [hb, c0]
    rw [wk]
    refine callK (markText_c (k + 2 * j) _ (by omega)) ?_
    rintro _ _ ⟨⟨t2, rfl⟩, rfl⟩
    refine ⟨fun _ => Ext.push _ _, ?_⟩
    have w1 : IntKind.i64.wrap (((k + 2 * j : Nat) : Int) + 1) = ((k + 2 * j + 1 : Nat) : Int) := wrap_succ (by omega)
    have w2 : IntKind.i64.wrap (((k + 2 * j + 1 : Nat) : Int) + 1) = ((k + 2 * (j + 1) : Nat) : Int) := by rw [wrap_succ (by omega)]; omega
    have c1' := cell_more c1 t2
    have w1' : IntKind.i64.wrap ((k : Int) + 2 * (j : Int) + 1) = (k : Int) + 2 * (j : Int) + 1 := by rw [wrap_in (by omega) (by omega)]
    have w2' : IntKind.i64.wrap ((k : Int) + 2 * (j : Int) + 1 + 1) = (k : Int) + 2 * ((j : Int) + 1) := by rw [wrap_in (by omega) (by omega)]; omega
    simp at c1'
    simp [hb, w1', c1', w2']
    exact anext (j + 1, t ++ t2) hb (by simp only; omega) (by simp [pickF, w2', wrap_succ (show j < 9223372036854775807 by omega)]) (by simp) (by simp)
  · obtain rfl : j = n := by omega
    omega
end Go.Proofs.Ytidkkmkihifeoaa.Hz
