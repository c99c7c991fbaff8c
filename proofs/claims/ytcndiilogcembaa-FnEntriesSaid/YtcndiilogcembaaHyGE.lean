/- Texts of the calculus and of the program's functions, merged: NK GN DO0. -/
import Derived.Test.YtcndiilogcembaaHyGD
import Derived.Test.YtcndiilogcembaaHyGC
/- A node that is right: both programs. -/
namespace Go.Proofs.Ytcndiilogcembaa.Hz
open Go.RowKit
set_option linter.unusedVariables false
set_option linter.unusedSimpArgs false
set_option maxRecDepth 20000

def inR (n lo hi : Int) : Bool := decide (lo ≤ n ∧ n ≤ hi)
theorem inR_iff {n lo hi : Int} : inR n lo hi = true ↔ lo ≤ n ∧ n ≤ hi := by simp [inR]
theorem withinR (n lo hi : Int) (h : Hp) : ACall Try.prog 58 [.int .i64 n, .int .i64 lo, .int .i64 hi] h fun r h' => r = .bool (inR n lo hi) ∧ h' = h := within_c n lo hi h
theorem l1InR (n lo hi : Int) (h : Hp) : ACall Try.prog 87 [.int .i64 n, .int .i64 lo, .int .i64 hi] h fun r h' => r = .bool (inR n lo hi) ∧ h' = h := within_spec_c n lo hi h

def blocksFor (n : Int) : Int := if n ≤ 0 then 0 else if n ≥ 80 then 5 else (n + 15) / 16
theorem blocksFor_impl_c (n : Int) (h : Hp) : ACall Try.prog 117 [.int .i64 n] h fun r h' => r = .int .i64 (blocksFor n) ∧ h' = h := by
  refine acall mixed Try.func117 rfl (by kernel_rfl) ?_
  simp [Try.f117]
  refine asplitK_intro (fun hb => ?_) (fun hb => ?_) <;> simp at hb <;> simp [hb]
  · simp [blocksFor, hb]
  refine asplitK_intro (fun hc => ?_) (fun hc => ?_) <;> simp at hc <;> simp [hc]
  · have h1 : ¬ n ≤ 0 := by omega
    have h2 : 80 ≤ n := by omega
    simp [blocksFor, h1, h2]
  · have h1 : ¬ n ≤ 0 := by omega
    have w1 : IntKind.i64.wrap (n + 16) = n + 16 := wrap_in (by omega) (by omega)
    have w2 : IntKind.i64.wrap (n + 16 - 1) = n + 15 := by rw [wrap_in (by omega) (by omega)]; omega
    have w3 : IntKind.i64.wrap ((n + 15).tdiv 16) = (n + 15) / 16 := by rw [Int.tdiv_eq_ediv_of_nonneg (by omega), wrap_in (by omega) (by omega)]
    simp [w1, w2, w3, blocksFor, h1]
    omega
theorem blocksFor_spec_c (n : Int) (h : Hp) : ACall Try.prog 112 [.int .i64 n] h fun r h' => r = .int .i64 (blocksFor n) ∧ h' = h := by
  refine acall mixed Try.func112 rfl (by kernel_rfl) ?_
  simp [Try.f112]
  refine asplitK_intro (fun hb => ?_) (fun hb => ?_) <;> simp at hb <;> simp [hb]
  · simp [blocksFor, hb]
  refine asplitK_intro (fun hc => ?_) (fun hc => ?_) <;> simp at hc <;> simp [hc]
  · have h1 : ¬ n ≤ 0 := by omega
    simp [blocksFor, h1, hc]
  · have h1 : ¬ n ≤ 0 := by omega
    have h2 : ¬ 80 ≤ n := by omega
    have w1 : IntKind.i64.wrap (n + 16) = n + 16 := wrap_in (by omega) (by omega)
    have w2 : IntKind.i64.wrap (n + 16 - 1) = n + 15 := by rw [wrap_in (by omega) (by omega)]; omega
    have w3 : IntKind.i64.wrap ((n + 15).tdiv 16) = (n + 15) / 16 := by rw [Int.tdiv_eq_ediv_of_nonneg (by omega), wrap_in (by omega) (by omega)]
    simp [w1, w2, w3, blocksFor, h1, h2]

theorem contains_take {xs : List Int} {v : Int} {k : Nat} (hk : k < xs.length) (h : (xs.take k).contains v = false) (hne : ¬ v = xs[k]) : (xs.take (k + 1)).contains v = false := by
  rw [List.take_succ_eq_append_getElem hk]
  simp only [List.contains_eq_mem, List.mem_append, List.mem_singleton, decide_eq_false_iff_not, not_or] at *
  exact ⟨h, hne⟩
theorem contains_of {xs : List Int} {v : Int} {k : Nat} (hk : k < xs.length) (he : v = xs[k]) : xs.contains v = true := by
  rw [he]; simp
theorem indexInt_c (xs : List Int) (v : Int) (a : Option Addr) (F : List Nat) (w : Bool) (t : TypeId) (h : Hp) (hr : slR w t intE h xs a F) (hl : xs.length ≤ 1048576) :
    ACall Try.prog 122 [.slice a xs.length xs.length, .int .i64 v] h fun r h' => h' = h ∧ ∃ i : Int, r = .int .i64 i ∧ decide (0 ≤ i) = xs.contains v := by
  refine acall mixed Try.func122 rfl (by kernel_rfl) ?_
  simp [Try.f122]
  refine aloop mixed [0, 1, 7, 8] (fun (k : Nat) => [.slice a xs.length xs.length, .int .i64 v, .int .i64 xs.length, .int .i64 k]) (fun _ => h) (fun k => k ≤ xs.length ∧ (xs.take k).contains v = false) (fun k => xs.length - k) 0 ⟨by omega, by simp⟩ rfl rfl ?_
  rintro k ⟨hk, he⟩
  simp [mkF]
  refine asplitK_intro (fun hb => ?_) (fun hb => ?_) <;> simp at hb <;> simp [hb]
  · obtain ⟨o, off, rfl, c0⟩ := intEAt hr hb
    simp [hb, c0]
    refine asplitK_intro (fun hc => ?_) (fun hc => ?_) <;> simp at hc <;> simp [hc]
    exact anext (k + 1) ⟨hb, by simpa using contains_take hb he hc⟩ (by omega) (by simp [pickF, wrap_succ (show k < 9223372036854775807 by omega)]) rfl (by simp)
  · obtain rfl : k = xs.length := by omega
    simpa using he
theorem containsInt_c (xs : List Int) (v : Int) (a : Option Addr) (F : List Nat) (w : Bool) (t : TypeId) (h : Hp) (hr : slR w t intE h xs a F) (hl : xs.length ≤ 1048576) :
    ACall Try.prog 118 [.slice a xs.length xs.length, .int .i64 v] h fun r h' => h' = h ∧ r = .bool (xs.contains v) := by
  refine acall mixed Try.func118 rfl (by kernel_rfl) ?_
  simp [Try.f118]
  refine callK0 (indexInt_c xs v a F w t h hr hl) ?_
  rintro _ _ ⟨rfl, i, rfl, hi⟩
  simp at hi
  simp [hi]
theorem l1Has_c (xs : List Int) (v : Int) (a : Option Addr) (F : List Nat) (w : Bool) (t : TypeId) (h : Hp) (hr : slR w t intE h xs a F) (hl : xs.length ≤ 1048576) :
    ACall Try.prog 113 [.slice a xs.length xs.length, .int .i64 v] h fun r h' => h' = h ∧ r = .bool (xs.contains v) := by
  refine acall mixed Try.func113 rfl (by kernel_rfl) ?_
  simp [Try.f113]
  refine aloop mixed [0, 1, 5] (fun (k : Nat) => [.slice a xs.length xs.length, .int .i64 v, .int .i64 k]) (fun _ => h) (fun k => k ≤ xs.length ∧ (xs.take k).contains v = false) (fun k => xs.length - k) 0 ⟨by omega, by simp⟩ rfl rfl ?_
  rintro k ⟨hk, he⟩
  simp [mkF]
  refine asplitK_intro (fun hb => ?_) (fun hb => ?_) <;> simp at hb <;> simp [hb]
  · obtain ⟨o, off, rfl, c0⟩ := intEAt hr hb
    simp [hb, c0]
    refine asplitK_intro (fun hc => ?_) (fun hc => ?_) <;> simp at hc <;> simp [hc]
    · simp [← hc]
    · exact anext (k + 1) ⟨hb, by simpa using contains_take hb he (fun e => hc e.symm)⟩ (by omega) (by simp [pickF, wrap_succ (show k < 9223372036854775807 by omega)]) rfl (by simp)
  · obtain rfl : k = xs.length := by omega
    simpa using he

def blkOk : List Int → List Int → Bool
  | _, [] => true
  | seen, b :: bs => inR b 0 35 && !(seen.contains b) && blkOk (seen ++ [b]) bs
theorem blkOk_drop (xs : List Int) (k : Nat) (hk : k < xs.length) : blkOk (xs.take k) (xs.drop k) = (inR xs[k] 0 35 && !((xs.take k).contains xs[k]) && blkOk (xs.take (k + 1)) (xs.drop (k + 1))) := by
  rw [List.drop_eq_getElem_cons hk, List.take_succ_eq_append_getElem hk]; rfl
def badDir (n : Node) : Bool := n.kind == 2 && (n.gen != 0 || n.time != 0)
def badLen (n : Node) : Bool := (n.blocks.length : Int) != blocksFor n.size
def nodeOk (n : Node) : Bool :=
  if n.kind == 0 then n.gen == 0 && n.time == 0 && n.size == 0 && (n.blocks.length : Int) == 0
  else inR n.kind 1 3 && inR n.gen 0 1000000 && inR n.time 0 100000 && inR n.size 0 80 && !badDir n && !badLen n && blkOk [] n.blocks

set_option maxHeartbeats 2000000 in
theorem nodeOk_impl_c (x : Node) (a1 : Option Addr) (F1 : List Nat) (w : Bool) (h : Hp) (k1 : slR w 3 intE h x.blocks a1 F1) (hl : x.lim) :
    ACall Try.prog 101 [.agg #[.int .i64 x.kind, .int .i64 x.gen, .int .i64 x.time, .int .i64 x.size, .slice a1 x.blocks.length x.blocks.length]] h fun r h' => (∃ t, h' = h ++ t) ∧ r = .bool (nodeOk x) := by
  refine acall mixed Try.func101 rfl (by kernel_rfl) ?_
  have hlim : x.blocks.length ≤ 1048576 := hl
  simp [Try.f101]
  refine asplitK_intro (fun h0 => ?_) (fun h0 => ?_) <;> simp only [h0] <;> simp
  · refine asplitK_intro (fun h1 => ?_) (fun h1 => ?_) <;> simp [h1, nodeOk, h0]
    refine asplitK_intro (fun h2 => ?_) (fun h2 => ?_) <;> simp [h2, h1]
    refine asplitK_intro (fun h3 => ?_) (fun h3 => ?_) <;> simp [h3]
  refine callK0 (withinR x.kind 1 3 _) ?_
  rintro _ _ ⟨rfl, rfl⟩
  cases e1 : inR x.kind 1 3
  · simp [nodeOk, h0, e1]
  simp
  refine callK0 (withinR x.gen 0 1000000 _) ?_
  rintro _ _ ⟨rfl, rfl⟩
  cases e2 : inR x.gen 0 1000000
  · simp [nodeOk, h0, e1, e2]
  simp
  refine callK0 (withinR x.time 0 100000 _) ?_
  rintro _ _ ⟨rfl, rfl⟩
  cases e3 : inR x.time 0 100000
  · simp [nodeOk, h0, e1, e2, e3]
  simp
  refine callK0 (withinR x.size 0 80 _) ?_
  rintro _ _ ⟨rfl, rfl⟩
  cases e4 : inR x.size 0 80
  · simp [nodeOk, h0, e1, e2, e3, e4]
  simp
  refine drawK true (by kernel_rfl) ?_
  simp
  have fin : nodeOk x = (!badDir x && !badLen x && blkOk [] x.blocks) := by simp [nodeOk, h0, e1, e2, e3, e4]
  refine asplitK_intro (fun h5 => ?_) (fun h5 => ?_) <;> simp [h5]
  · refine asplitK_intro (fun h6 => ?_) (fun h6 => ?_) <;> simp [h6]
    · have hb : badDir x = true := by rw [badDir, h5, h6]; rfl
      rw [fin, hb]; rfl
    refine asplitK_intro (fun h7 => ?_) (fun h7 => ?_) <;> simp [h7]
    · have hb : badDir x = true := by rw [badDir, h5, h6, h7]; rfl
      rw [fin, hb]; rfl
    have hb : badDir x = false := by rw [badDir, h5, h6, h7]; rfl
    rw [hb] at fin
    refine callK (blocksFor_impl_c x.size _) ?_
    rintro _ _ ⟨rfl, rfl⟩
    refine ⟨fun _ => Ext.refl _, ?_⟩
    simp
    refine asplitK_intro (fun h8 => ?_) (fun h8 => ?_) <;> simp [h8]
    · have hc : badLen x = true := h8
      rw [fin, hc]; rfl
    have hc : badLen x = false := h8
    rw [hc] at fin
    simp at fin
    rw [fin]
    refine aloop mixed [1, 72, 73, 74] (fun (k : Nat) => [.pointer (some ⟨h.length, 0, none⟩), .slice a1 x.blocks.length x.blocks.length, .int .i64 x.blocks.length, .int .i64 k]) (fun _ => _) (fun k => k ≤ x.blocks.length ∧ blkOk (x.blocks.take k) (x.blocks.drop k) = blkOk [] x.blocks) (fun k => x.blocks.length - k) 0 ⟨by omega, by simp⟩ rfl rfl ?_
    rintro k ⟨hk, he⟩
    simp [mkF]
    refine asplitK_intro (fun hd => ?_) (fun hd => ?_) <;> simp at hd <;> simp [hd]
    · have he2 := blkOk_drop x.blocks k hd
      obtain ⟨o, off, rfl, c0⟩ := intEAt (k1.ext (Ext.push h [⟨true, true, 98, [.int .i64 x.kind, .int .i64 x.gen, .int .i64 x.time, .int .i64 x.size, .slice a1 x.blocks.length x.blocks.length]⟩])) hd
      simp [hd, c0]
      refine callK0 (withinR x.blocks[k] 0 35 _) ?_
      rintro _ _ ⟨rfl, rfl⟩
      cases e5 : inR x.blocks[k] 0 35
      · rw [e5] at he2
        simp [← he, he2]
      have kk := k1.ext (Ext.push h [⟨true, true, 98, [.int .i64 x.kind, .int .i64 x.gen, .int .i64 x.time, .int .i64 x.size, .slice (some ⟨o, off, none⟩) x.blocks.length x.blocks.length]⟩])
      have hel := kk.el
      obtain ⟨G, hp, _⟩ := kk.part 0 k (by omega) (by omega)
      simp only [List.drop_zero, Nat.zero_mul, Nat.add_zero] at hp
      have hlen : (x.blocks.take k).length = k := by simp; omega
      have hcf := containsInt_c (x.blocks.take k) x.blocks[k] _ G w _ _ hp (by omega)
      rw [hlen] at hcf
      simp [asl2_j, hel, Nat.le_of_lt hd]
      refine callK0 (hcf.cap (Nat.le_of_lt hd)) ?_
      rintro _ _ ⟨rfl, rfl⟩
      cases e6 : (x.blocks.take k).contains x.blocks[k]
      · simp
        rw [e5, e6] at he2
        exact anext (k + 1) ⟨hd, by rw [← he, he2]; rfl⟩ (by omega) (by simp [pickF, wrap_succ (show k < 9223372036854775807 by omega)]) rfl (by simp)
      · rw [e5, e6] at he2
        simp [← he, he2]
    · obtain rfl : k = x.blocks.length := by omega
      simpa [blkOk] using he
  · have hb : badDir x = false := by rw [badDir, h5]; rfl
    rw [hb] at fin
    refine callK (blocksFor_impl_c x.size _) ?_
    rintro _ _ ⟨rfl, rfl⟩
    refine ⟨fun _ => Ext.refl _, ?_⟩
    simp
    refine asplitK_intro (fun h8 => ?_) (fun h8 => ?_) <;> simp [h8]
    · have hc : badLen x = true := h8
      rw [fin, hc]; rfl
    have hc : badLen x = false := h8
    rw [hc] at fin
    simp at fin
    rw [fin]
    refine aloop mixed [1, 72, 73, 74] (fun (k : Nat) => [.pointer (some ⟨h.length, 0, none⟩), .slice a1 x.blocks.length x.blocks.length, .int .i64 x.blocks.length, .int .i64 k]) (fun _ => _) (fun k => k ≤ x.blocks.length ∧ blkOk (x.blocks.take k) (x.blocks.drop k) = blkOk [] x.blocks) (fun k => x.blocks.length - k) 0 ⟨by omega, by simp⟩ rfl rfl ?_
    rintro k ⟨hk, he⟩
    simp [mkF]
    refine asplitK_intro (fun hd => ?_) (fun hd => ?_) <;> simp at hd <;> simp [hd]
    · have he2 := blkOk_drop x.blocks k hd
      obtain ⟨o, off, rfl, c0⟩ := intEAt (k1.ext (Ext.push h [⟨true, true, 98, [.int .i64 x.kind, .int .i64 x.gen, .int .i64 x.time, .int .i64 x.size, .slice a1 x.blocks.length x.blocks.length]⟩])) hd
      simp [hd, c0]
      refine callK0 (withinR x.blocks[k] 0 35 _) ?_
      rintro _ _ ⟨rfl, rfl⟩
      cases e5 : inR x.blocks[k] 0 35
      · rw [e5] at he2
        simp [← he, he2]
      have kk := k1.ext (Ext.push h [⟨true, true, 98, [.int .i64 x.kind, .int .i64 x.gen, .int .i64 x.time, .int .i64 x.size, .slice (some ⟨o, off, none⟩) x.blocks.length x.blocks.length]⟩])
      have hel := kk.el
      obtain ⟨G, hp, _⟩ := kk.part 0 k (by omega) (by omega)
      simp only [List.drop_zero, Nat.zero_mul, Nat.add_zero] at hp
      have hlen : (x.blocks.take k).length = k := by simp; omega
      have hcf := containsInt_c (x.blocks.take k) x.blocks[k] _ G w _ _ hp (by omega)
      rw [hlen] at hcf
      simp [asl2_j, hel, Nat.le_of_lt hd]
      refine callK0 (hcf.cap (Nat.le_of_lt hd)) ?_
      rintro _ _ ⟨rfl, rfl⟩
      cases e6 : (x.blocks.take k).contains x.blocks[k]
      · simp
        rw [e5, e6] at he2
        exact anext (k + 1) ⟨hd, by rw [← he, he2]; rfl⟩ (by omega) (by simp [pickF, wrap_succ (show k < 9223372036854775807 by omega)]) rfl (by simp)
      · rw [e5, e6] at he2
        simp [← he, he2]
    · obtain rfl : k = x.blocks.length := by omega
      simpa [blkOk] using he
set_option maxHeartbeats 2000000 in
theorem nodeOk_spec_c (x : Node) (a1 : Option Addr) (F1 : List Nat) (w : Bool) (h : Hp) (k1 : slR w 3 intE h x.blocks a1 F1) (hl : x.lim) :
    ACall Try.prog 96 [.agg #[.int .i64 x.kind, .int .i64 x.gen, .int .i64 x.time, .int .i64 x.size, .slice a1 x.blocks.length x.blocks.length]] h fun r h' => (∃ t, h' = h ++ t) ∧ r = .bool (nodeOk x) := by
  refine acall mixed Try.func96 rfl (by kernel_rfl) ?_
  have hlim : x.blocks.length ≤ 1048576 := hl
  simp [Try.f96]
  refine asplitK_intro (fun h0 => ?_) (fun h0 => ?_) <;> simp only [h0] <;> simp
  · refine asplitK_intro (fun h1 => ?_) (fun h1 => ?_) <;> simp [h1, nodeOk, h0]
    refine asplitK_intro (fun h2 => ?_) (fun h2 => ?_) <;> simp [h2, h1]
    refine asplitK_intro (fun h3 => ?_) (fun h3 => ?_) <;> simp [h3]
  refine drawK true (by kernel_rfl) ?_
  simp
  refine callK (l1InR x.kind 1 3 _) ?_
  rintro _ _ ⟨rfl, rfl⟩
  refine ⟨fun _ => Ext.refl _, ?_⟩
  cases e1 : inR x.kind 1 3
  · simp [nodeOk, h0, e1]
  simp
  refine callK (l1InR x.gen 0 1000000 _) ?_
  rintro _ _ ⟨rfl, rfl⟩
  refine ⟨fun _ => Ext.refl _, ?_⟩
  cases e2 : inR x.gen 0 1000000
  · simp [nodeOk, h0, e1, e2]
  simp
  refine callK (l1InR x.time 0 100000 _) ?_
  rintro _ _ ⟨rfl, rfl⟩
  refine ⟨fun _ => Ext.refl _, ?_⟩
  cases e3 : inR x.time 0 100000
  · simp [nodeOk, h0, e1, e2, e3]
  simp
  refine callK (l1InR x.size 0 80 _) ?_
  rintro _ _ ⟨rfl, rfl⟩
  refine ⟨fun _ => Ext.refl _, ?_⟩
  cases e4 : inR x.size 0 80
  · simp [nodeOk, h0, e1, e2, e3, e4]
  simp
  have fin : nodeOk x = (!badDir x && !badLen x && blkOk [] x.blocks) := by simp [nodeOk, h0, e1, e2, e3, e4]
  refine callK (blocksFor_spec_c x.size _) ?_
  rintro _ _ ⟨rfl, rfl⟩
  refine ⟨fun _ => Ext.refl _, ?_⟩
  simp
  refine asplitK_intro (fun h8 => ?_) (fun h8 => ?_) <;> simp [h8]
  · have hc : badLen x = true := h8
    rw [fin, hc]; simp
  have hc : badLen x = false := h8
  rw [hc] at fin
  refine asplitK_intro (fun h5 => ?_) (fun h5 => ?_) <;> simp [h5]
  · refine asplitK_intro (fun h6 => ?_) (fun h6 => ?_) <;> simp [h6]
    · have hb : badDir x = true := by rw [badDir, h5, h6]; rfl
      rw [fin, hb]; rfl
    refine asplitK_intro (fun h7 => ?_) (fun h7 => ?_) <;> simp [h7]
    · have hb : badDir x = true := by rw [badDir, h5, h6, h7]; rfl
      rw [fin, hb]; rfl
    have hb : badDir x = false := by rw [badDir, h5, h6, h7]; rfl
    rw [hb] at fin
    simp at fin
    rw [fin]
    refine aloop mixed [1, 3] (fun (k : Nat) => [.pointer (some ⟨h.length, 0, none⟩), .int .i64 k]) (fun _ => h ++ [⟨true, true, 98, [.int .i64 x.kind, .int .i64 x.gen, .int .i64 x.time, .int .i64 x.size, .slice a1 x.blocks.length x.blocks.length]⟩]) (fun k => k ≤ x.blocks.length ∧ blkOk (x.blocks.take k) (x.blocks.drop k) = blkOk [] x.blocks) (fun k => x.blocks.length - k) 0 ⟨by omega, by simp⟩ rfl rfl ?_
    rintro k ⟨hk, he⟩
    simp [mkF]
    refine asplitK_intro (fun hd => ?_) (fun hd => ?_) <;> simp at hd <;> simp [hd]
    · have he2 := blkOk_drop x.blocks k hd
      obtain ⟨o, off, rfl, c0⟩ := intEAt (k1.ext (Ext.push h [⟨true, true, 98, [.int .i64 x.kind, .int .i64 x.gen, .int .i64 x.time, .int .i64 x.size, .slice a1 x.blocks.length x.blocks.length]⟩])) hd
      refine drawK true (by kernel_rfl) ?_
      simp [hd, c0]
      refine callK (l1InR x.blocks[k] 0 35 _) ?_
      rintro _ _ ⟨rfl, rfl⟩
      refine ⟨fun _ => Ext.refl _, ?_⟩
      cases e5 : inR x.blocks[k] 0 35
      · rw [e5] at he2
        simp [← he, he2]
      have kk := k1.ext (Ext.push h [⟨true, true, 98, [.int .i64 x.kind, .int .i64 x.gen, .int .i64 x.time, .int .i64 x.size, .slice (some ⟨o, off, none⟩) x.blocks.length x.blocks.length]⟩])
      have hel := kk.el
      obtain ⟨G, hp, _⟩ := kk.part 0 k (by omega) (by omega)
      simp only [List.drop_zero, Nat.zero_mul, Nat.add_zero] at hp
      have hlen : (x.blocks.take k).length = k := by simp; omega
      have hcf := l1Has_c (x.blocks.take k) x.blocks[k] _ G w _ _ hp (by omega)
      rw [hlen] at hcf
      simp [asl2_j, hel, Nat.le_of_lt hd, hd, c0]
      refine callK (hcf.cap (Nat.le_of_lt hd)) ?_
      rintro _ _ ⟨rfl, rfl⟩
      refine ⟨fun _ => Ext.refl _, ?_⟩
      cases e6 : (x.blocks.take k).contains x.blocks[k]
      · simp
        rw [e5, e6] at he2
        exact anext (k + 1) ⟨hd, by rw [← he, he2]; rfl⟩ (by omega) (by simp [pickF, wrap_succ (show k < 9223372036854775807 by omega)]) rfl (by simp)
      · rw [e5, e6] at he2
        simp [← he, he2]
    · obtain rfl : k = x.blocks.length := by omega
      simpa [blkOk] using he
  · have hb : badDir x = false := by rw [badDir, h5]; rfl
    rw [hb] at fin
    simp at fin
    rw [fin]
    refine aloop mixed [1, 3] (fun (k : Nat) => [.pointer (some ⟨h.length, 0, none⟩), .int .i64 k]) (fun _ => h ++ [⟨true, true, 98, [.int .i64 x.kind, .int .i64 x.gen, .int .i64 x.time, .int .i64 x.size, .slice a1 x.blocks.length x.blocks.length]⟩]) (fun k => k ≤ x.blocks.length ∧ blkOk (x.blocks.take k) (x.blocks.drop k) = blkOk [] x.blocks) (fun k => x.blocks.length - k) 0 ⟨by omega, by simp⟩ rfl rfl ?_
    rintro k ⟨hk, he⟩
    simp [mkF]
    refine asplitK_intro (fun hd => ?_) (fun hd => ?_) <;> simp at hd <;> simp [hd]
    · have he2 := blkOk_drop x.blocks k hd
      obtain ⟨o, off, rfl, c0⟩ := intEAt (k1.ext (Ext.push h [⟨true, true, 98, [.int .i64 x.kind, .int .i64 x.gen, .int .i64 x.time, .int .i64 x.size, .slice a1 x.blocks.length x.blocks.length]⟩])) hd
      refine drawK true (by kernel_rfl) ?_
      simp [hd, c0]
      refine callK (l1InR x.blocks[k] 0 35 _) ?_
      rintro _ _ ⟨rfl, rfl⟩
      refine ⟨fun _ => Ext.refl _, ?_⟩
      cases e5 : inR x.blocks[k] 0 35
      · rw [e5] at he2
        simp [← he, he2]
      have kk := k1.ext (Ext.push h [⟨true, true, 98, [.int .i64 x.kind, .int .i64 x.gen, .int .i64 x.time, .int .i64 x.size, .slice (some ⟨o, off, none⟩) x.blocks.length x.blocks.length]⟩])
      have hel := kk.el
      obtain ⟨G, hp, _⟩ := kk.part 0 k (by omega) (by omega)
      simp only [List.drop_zero, Nat.zero_mul, Nat.add_zero] at hp
      have hlen : (x.blocks.take k).length = k := by simp; omega
      have hcf := l1Has_c (x.blocks.take k) x.blocks[k] _ G w _ _ hp (by omega)
      rw [hlen] at hcf
      simp [asl2_j, hel, Nat.le_of_lt hd, hd, c0]
      refine callK (hcf.cap (Nat.le_of_lt hd)) ?_
      rintro _ _ ⟨rfl, rfl⟩
      refine ⟨fun _ => Ext.refl _, ?_⟩
      cases e6 : (x.blocks.take k).contains x.blocks[k]
      · simp
        rw [e5, e6] at he2
        exact anext (k + 1) ⟨hd, by rw [← he, he2]; rfl⟩ (by omega) (by simp [pickF, wrap_succ (show k < 9223372036854775807 by omega)]) rfl (by simp)
      · rw [e5, e6] at he2
        simp [← he, he2]
    · obtain rfl : k = x.blocks.length := by omega
      simpa [blkOk] using he
end Go.Proofs.Ytcndiilogcembaa.Hz
/- Reading a number and a text from bytes: both programs. -/
namespace Go.Proofs.Ytcndiilogcembaa.Hz
open Go.RowKit
set_option linter.unusedVariables false
set_option linter.unusedSimpArgs false
set_option maxRecDepth 20000

theorem byteAt {h : Hp} {w : Bool} {t : TypeId} {es : Str} {a : Option Addr} {F : List Nat} (k : slR w t byteE h es a F) {i : Nat} (hi : i < es.length) : ∃ o off, a = some ⟨o, off, none⟩ ∧ cellAt h o (off + i) = some (.int .u8 es[i].toNat) := by
  obtain ⟨o, off, c, Fi, rfl, ⟨rfl, _⟩, -, hc⟩ := k.at_ (List.getElem?_eq_getElem hi)
  have := hc 0 (by decide)
  exact ⟨o, off, rfl, by simpa [byteE, flatE] using this⟩
theorem lev_cvBSc {P : Program} {w : Bool} {h : Hp} {e : TypeId} {xs : Str} {o off : Nat} {F : List Nat} (k : slR w e byteE h xs (some ⟨o, off, none⟩) F) (ρ : Operand → Value) (s d : TypeId) (x : Operand) (c : Nat) (hx : ρ x = .slice (some ⟨o, off, none⟩) xs.length c) (h1 : strOf P d = true) (h2 : (elemOf P s).bind (intOf' P) = some .u8) : lev P h ρ (.convert s d x) = some (.string (S xs)) := by
  have := lev_cvBS (P := P) k (fun _ => .slice (some ⟨o, off, none⟩) xs.length xs.length) s d x rfl h1 h2
  simp only [lev, h1, h2] at this
  simp only [lev, hx, h1, h2]
  exact this
theorem abin_shlN (t : TypeId) (m k : Nat) (hm : m < 128) (hk : k < 5) : abin Try.prog .shl t (.int .i64 m) (.int .i64 (7 * (k : Int))) = some (.int .i64 ((m * 2 ^ (7 * k) : Nat) : Int)) := by
  have hb : ¬ (7 * (k : Int) < 0) := by omega
  have ht : (7 * (k : Int)).toNat = 7 * k := by omega
  have hmin : min (7 * k) 64 = 7 * k := by omega
  have hp : 2 ^ (7 * k) ≤ 2 ^ 28 := Nat.pow_le_pow_right (by decide) (by omega)
  have hm2 : m * 2 ^ (7 * k) ≤ 127 * 2 ^ 28 := Nat.mul_le_mul (by omega) hp
  have e : (m : Int) * 2 ^ (7 * k) = ((m * 2 ^ (7 * k) : Nat) : Int) := by simp
  simp only [abin, hb, if_false, ht, IntKind.bits, hmin]
  rw [e, wrap_in (by omega) (by omega)]
theorem abin_orN (t : TypeId) (n m : Nat) (hn : n < 2 ^ 35) (hm : m < 2 ^ 35) : abin Try.prog .or t (.int .i64 n) (.int .i64 m) = some (.int .i64 ((n ||| m : Nat) : Int)) := by
  have h1 : (BitVec.ofInt 64 (n : Int)).toNat = n := by rw [BitVec.toNat_ofInt]; omega
  have h2 : (BitVec.ofInt 64 (m : Int)).toNat = m := by rw [BitVec.toNat_ofInt]; omega
  have h3 : n ||| m < 2 ^ 35 := Nat.or_lt_two_pow hn hm
  show (if (IntKind.i64 ≠ IntKind.i64) then none else some (Value.int .i64 (IntKind.i64.wrap ((BitVec.ofInt 64 (n : Int) ||| BitVec.ofInt 64 (m : Int)).toNat : Nat)))) = _
  rw [if_neg (by simp), BitVec.toNat_or, h1, h2, wrap_in (by omega) (by omega)]
def gnF (b : Str) (at_ : Nat) : Nat → Nat → Nat → Option (Nat × Nat)
  | 0, _, _ => none
  | fuel + 1, k, n =>
    match b[at_ + k]? with
    | none => none
    | some x =>
      if 128 ≤ x.toNat then gnF b at_ fuel (k + 1) (n ||| x.toNat % 128 * 2 ^ (7 * k))
      else if (0 < k ∧ x.toNat = 0) ∨ 2147483647 < (n ||| x.toNat % 128 * 2 ^ (7 * k)) then none
      else some (n ||| x.toNat % 128 * 2 ^ (7 * k), at_ + k + 1)
def getNum (b : Str) (at_ : Nat) : Option (Nat × Nat) := gnF b at_ 5 0 0
def gnV : Option (Nat × Nat) → Value
  | none => .tuple #[.int .i64 0, .int .i64 0, .bool false]
  | some (n, e) => .tuple #[.int .i64 n, .int .i64 e, .bool true]
theorem gnF_out {b : Str} {at_ k : Nat} (h : b.length ≤ at_ + k) : ∀ fuel n, gnF b at_ fuel k n = none
  | 0, _ => rfl
  | fuel + 1, n => by simp [gnF, List.getElem?_eq_none h]
theorem gn_lt {n y k : Nat} (hn : n < 2 ^ (7 * k)) (hy : y < 128) : n ||| y * 2 ^ (7 * k) < 2 ^ (7 * (k + 1)) := by
  have e : 2 ^ (7 * (k + 1)) = 128 * 2 ^ (7 * k) := by rw [Nat.mul_add, Nat.pow_add, Nat.mul_comm]
  have hp : 0 < 2 ^ (7 * k) := Nat.two_pow_pos _
  refine Nat.or_lt_two_pow ?_ ?_
  · rw [e]; omega
  · rw [e]; exact Nat.mul_lt_mul_of_pos_right hy hp
theorem gnF_bound (b : Str) (at_ : Nat) : ∀ (fuel k n m e : Nat), gnF b at_ fuel k n = some (m, e) → m ≤ 2147483647 ∧ at_ < e ∧ e ≤ b.length
  | 0, _, _, _, _, h => by cases h
  | fuel + 1, k, n, m, e, h => by
    simp only [gnF] at h
    split at h
    · cases h
    · rename_i x hx
      have hlt := (List.getElem?_eq_some_iff.1 hx).1
      split at h
      · exact gnF_bound b at_ fuel _ _ m e h
      · split at h
        · cases h
        · rename_i hc
          simp only [Option.some.injEq, Prod.mk.injEq] at h
          obtain ⟨rfl, rfl⟩ := h
          omega
set_option maxHeartbeats 2000000 in
theorem getNum_impl_c (b : Str) (at_ : Nat) (a : Option Addr) (F : List Nat) (w : Bool) (t : TypeId) (h : Hp) (hr : slR w t byteE h b a F) (hl : b.length ≤ 1048576) (ha : at_ ≤ 1048576) :
    ACall Try.prog 63 [.slice a b.length b.length, .int .i64 at_] h fun r h' => (∃ t, h' = h ++ t) ∧ r = gnV (getNum b at_) := by
  refine acall mixed Try.func63 rfl (by kernel_rfl) ?_
  simp [Try.f63]
  refine callK0 (withinR at_ 0 b.length _) ?_
  rintro _ h ⟨rfl, rfl⟩
  cases e1 : inR at_ 0 b.length
  · have hlt : b.length ≤ at_ + 0 := by
      by_cases hc : at_ ≤ b.length
      · rw [inR_iff.2 ⟨by omega, by omega⟩] at e1; cases e1
      · omega
    have hg : getNum b at_ = none := gnF_out hlt 5 0
    simp [hg, gnV]
  simp
  refine aloop mixed [0, 1, 7, 8] (fun (x : Nat × Nat) => [.slice a b.length b.length, .int .i64 at_, .int .i64 x.2, .int .i64 x.1]) (fun _ => h) (fun x => x.1 ≤ 5 ∧ x.2 < 2 ^ (7 * x.1) ∧ gnF b at_ (5 - x.1) x.1 x.2 = getNum b at_) (fun x => 5 - x.1) (0, 0) ⟨by simp, by simp, rfl⟩ (by simp [pickF]) rfl ?_
  rintro ⟨k, n⟩ ⟨hk, hn, he⟩
  simp only at hk hn he
  simp [mkF]
  refine asplitK_intro (fun hb => ?_) (fun hb => ?_) <;> simp at hb <;> simp [hb]
  rotate_left
  · obtain rfl : k = 5 := by omega
    rw [← he]
    simp [gnF, gnV]
  have wk : IntKind.i64.wrap ((at_ : Int) + k) = (at_ : Int) + k := wrap_in (by omega) (by omega)
  simp [wk]
  refine asplitK_intro (fun hc => ?_) (fun hc => ?_) <;> simp at hc <;> simp [hc]
  rotate_left
  · rw [← he, gnF_out (by omega)]; rfl
  have hlt : at_ + k < b.length := by omega
  obtain ⟨o, off, rfl, c0⟩ := byteAt hr hlt
  have hx : b[at_ + k].toNat < 256 := by have := b[at_ + k].toNat_lt; omega
  have hstep : gnF b at_ (5 - k) k n = (if 128 ≤ b[at_ + k].toNat then gnF b at_ (5 - (k + 1)) (k + 1) (n ||| b[at_ + k].toNat % 128 * 2 ^ (7 * k))
      else if (0 < k ∧ b[at_ + k].toNat = 0) ∨ 2147483647 < (n ||| b[at_ + k].toNat % 128 * 2 ^ (7 * k)) then none
      else some (n ||| b[at_ + k].toNat % 128 * 2 ^ (7 * k), at_ + k + 1)) := by
    rw [show 5 - k = (5 - (k + 1)) + 1 by omega]
    simp only [gnF, List.getElem?_eq_getElem hlt]
  rw [hstep] at he
  generalize b[at_ + k].toNat = x at c0 hx he
  obtain ⟨y, hy⟩ : ∃ y, y = x % 128 := ⟨_, rfl⟩
  have hy2 : y < 128 := by omega
  have a1 : abin Try.prog .and 3 (.int .i64 (x : Int)) (.int .i64 127) = some (.int .i64 (y : Int)) := by
    rw [abin_and127 _ (x : Int) (by omega) (by omega), hy]; rfl
  have a2 := abin_shlN 3 y k hy2 (by omega)
  have hlt2 := gn_lt hn hy2
  have hp35 : 2 ^ (7 * (k + 1)) ≤ 2 ^ 35 := Nat.pow_le_pow_right (by decide) (by omega)
  have hz : y * 2 ^ (7 * k) < 2 ^ 35 := by
    have h1 : y * 2 ^ (7 * k) ≤ n ||| y * 2 ^ (7 * k) := Nat.right_le_or
    omega
  have hn35 : n < 2 ^ 35 := by
    have h1 : n ≤ n ||| y * 2 ^ (7 * k) := Nat.left_le_or
    omega
  have a3 := abin_orN 3 n (y * 2 ^ (7 * k)) hn35 hz
  rw [← hy] at he
  generalize y * 2 ^ (7 * k) = z at a2 a3 he hlt2
  obtain ⟨n', hn'⟩ : ∃ n', n' = n ||| z := ⟨_, rfl⟩
  rw [← hn'] at a3 he hlt2
  have w7 : IntKind.i64.wrap (7 * (k : Int)) = 7 * (k : Int) := wrap_in (by omega) (by omega)
  have wx : IntKind.i64.wrap (x : Int) = (x : Int) := wrap_in (by omega) (by omega)
  have hto : ((at_ : Int) + k).toNat = at_ + k := by omega
  have hge : (0 : Int) ≤ (at_ : Int) + k := by omega
  simp [wk, hc, hge, hto, c0, wx, a1, w7, a2, a3]
  have wa : IntKind.i64.wrap (at_ : Int) = at_ := wrap_in (by omega) (by omega)
  have wa1 : IntKind.i64.wrap ((at_ : Int) + 1) = (at_ : Int) + 1 := wrap_in (by omega) (by omega)
  have wk1 : IntKind.i64.wrap ((at_ : Int) + k + 1) = (at_ : Int) + k + 1 := wrap_in (by omega) (by omega)
  refine asplitK_intro (fun h5 => ?_) (fun h5 => ?_) <;> (have h5' := h5; simp at h5; simp [h5, h5'])
  · have h5n : 128 ≤ x := by omega
    simp only [h5n, if_true] at he
    exact anext (k + 1, n') ⟨by simp only; omega, hlt2, he⟩ (by simp only; omega) (by simp [pickF, wrap_succ (show k < 9223372036854775807 by omega)]) rfl (by simp)
  have h5n : ¬ 128 ≤ x := by omega
  simp only [h5n, if_false] at he
  refine asplitK_intro (fun h6 => ?_) (fun h6 => ?_) <;> (have h6' := h6; simp at h6; simp [h6, h6'])
  · refine asplitK_intro (fun h7 => ?_) (fun h7 => ?_) <;> (have h7' := h7; simp at h7; simp [h7, h7'])
    · have hc1 : (0 < k ∧ x = 0) ∨ 2147483647 < n' := .inl ⟨by omega, by omega⟩
      rw [if_pos hc1] at he
      rw [← he]; rfl
    refine asplitK_intro (fun h8 => ?_) (fun h8 => ?_) <;> (have h8' := h8; simp at h8; simp [h8, h8'])
    · have hc1 : (0 < k ∧ x = 0) ∨ 2147483647 < n' := .inr (by omega)
      rw [if_pos hc1] at he
      rw [← he]; rfl
    · have hc1 : ¬ ((0 < k ∧ x = 0) ∨ 2147483647 < n') := by omega
      rw [if_neg hc1] at he
      rw [← he]
      simp [gnV, wk, wk1, wa, wa1] <;> omega
  · refine asplitK_intro (fun h8 => ?_) (fun h8 => ?_) <;> (have h8' := h8; simp at h8; simp [h8, h8'])
    · have hc1 : (0 < k ∧ x = 0) ∨ 2147483647 < n' := .inr (by omega)
      rw [if_pos hc1] at he
      rw [← he]; rfl
    · have hc1 : ¬ ((0 < k ∧ x = 0) ∨ 2147483647 < n') := by omega
      rw [if_neg hc1] at he
      rw [← he]
      simp [gnV, wk, wk1, wa, wa1] <;> omega
set_option maxHeartbeats 2000000 in
theorem getNum_spec_c (b : Str) (at_ : Nat) (a : Option Addr) (F : List Nat) (w : Bool) (t : TypeId) (h : Hp) (hr : slR w t byteE h b a F) (hl : b.length ≤ 1048576) (ha : at_ ≤ 1048576) :
    ACall Try.prog 105 [.slice a b.length b.length, .int .i64 at_] h fun r h' => (∃ t, h' = h ++ t) ∧ r = gnV (getNum b at_) := by
  refine acall mixed Try.func105 rfl (by kernel_rfl) ?_
  simp [Try.f105]
  refine aloop mixed [0, 1, 7, 8] (fun (x : Nat × Nat) => [.slice a b.length b.length, .int .i64 at_, .int .i64 x.2, .int .i64 x.1]) (fun _ => h) (fun x => x.1 ≤ 5 ∧ x.2 < 2 ^ (7 * x.1) ∧ gnF b at_ (5 - x.1) x.1 x.2 = getNum b at_) (fun x => 5 - x.1) (0, 0) ⟨by simp, by simp, rfl⟩ (by simp [pickF]) rfl ?_
  rintro ⟨k, n⟩ ⟨hk, hn, he⟩
  simp only at hk hn he
  simp [mkF]
  refine asplitK_intro (fun hb => ?_) (fun hb => ?_) <;> simp at hb <;> simp [hb]
  rotate_left
  · obtain rfl : k = 5 := by omega
    rw [← he]
    simp [gnF, gnV]
  have hneg : ¬ ((at_ : Int) < 0) := by omega
  have ws : IntKind.i64.wrap ((b.length : Int) - k) = (b.length : Int) - k := wrap_in (by omega) (by omega)
  have wk : IntKind.i64.wrap ((at_ : Int) + k) = (at_ : Int) + k := wrap_in (by omega) (by omega)
  simp [hneg, ws]
  refine asplitK_intro (fun hc => ?_) (fun hc => ?_) <;> (have hc' := hc; simp at hc; simp [hc, hc'])
  · rw [← he, gnF_out (by omega)]; rfl
  have hlt : at_ + k < b.length := by omega
  obtain ⟨o, off, rfl, c0⟩ := byteAt hr hlt
  have hx : b[at_ + k].toNat < 256 := by have := b[at_ + k].toNat_lt; omega
  have hstep : gnF b at_ (5 - k) k n = (if 128 ≤ b[at_ + k].toNat then gnF b at_ (5 - (k + 1)) (k + 1) (n ||| b[at_ + k].toNat % 128 * 2 ^ (7 * k))
      else if (0 < k ∧ b[at_ + k].toNat = 0) ∨ 2147483647 < (n ||| b[at_ + k].toNat % 128 * 2 ^ (7 * k)) then none
      else some (n ||| b[at_ + k].toNat % 128 * 2 ^ (7 * k), at_ + k + 1)) := by
    rw [show 5 - k = (5 - (k + 1)) + 1 by omega]
    simp only [gnF, List.getElem?_eq_getElem hlt]
  rw [hstep] at he
  generalize b[at_ + k].toNat = x at c0 hx he
  obtain ⟨y, hy⟩ : ∃ y, y = x % 128 := ⟨_, rfl⟩
  have hy2 : y < 128 := by omega
  have a1 : (x : Int).tmod 128 = (y : Int) := by rw [Int.tmod_eq_emod_of_nonneg (by omega)]; omega
  have a2 := abin_shlN 3 y k hy2 (by omega)
  have hlt2 := gn_lt hn hy2
  have hp35 : 2 ^ (7 * (k + 1)) ≤ 2 ^ 35 := Nat.pow_le_pow_right (by decide) (by omega)
  have hz : y * 2 ^ (7 * k) < 2 ^ 35 := by
    have h1 : y * 2 ^ (7 * k) ≤ n ||| y * 2 ^ (7 * k) := Nat.right_le_or
    omega
  have hn35 : n < 2 ^ 35 := by
    have h1 : n ≤ n ||| y * 2 ^ (7 * k) := Nat.left_le_or
    omega
  have a3 := abin_orN 3 n (y * 2 ^ (7 * k)) hn35 hz
  rw [← hy] at he
  generalize y * 2 ^ (7 * k) = z at a2 a3 he hlt2
  obtain ⟨n', hn'⟩ : ∃ n', n' = n ||| z := ⟨_, rfl⟩
  rw [← hn'] at a3 he hlt2
  have w7 : IntKind.i64.wrap (7 * (k : Int)) = 7 * (k : Int) := wrap_in (by omega) (by omega)
  have wx : IntKind.i64.wrap (x : Int) = (x : Int) := wrap_in (by omega) (by omega)
  have hto : ((at_ : Int) + k).toNat = at_ + k := by omega
  have hge : (0 : Int) ≤ (at_ : Int) + k := by omega
  have hcc : (at_ : Int) + k < (b.length : Int) := by omega
  simp [wk, hcc, hge, hto, c0, wx, a1, w7, a2, a3]
  have wa : IntKind.i64.wrap (at_ : Int) = at_ := wrap_in (by omega) (by omega)
  have wa1 : IntKind.i64.wrap ((at_ : Int) + 1) = (at_ : Int) + 1 := wrap_in (by omega) (by omega)
  have wk1 : IntKind.i64.wrap ((at_ : Int) + k + 1) = (at_ : Int) + k + 1 := wrap_in (by omega) (by omega)
  refine asplitK_intro (fun h5 => ?_) (fun h5 => ?_) <;> (have h5' := h5; simp at h5; simp [h5, h5'])
  rotate_left
  · have h5n : 128 ≤ x := by omega
    simp only [h5n, if_true] at he
    exact anext (k + 1, n') ⟨by simp only; omega, hlt2, he⟩ (by simp only; omega) (by simp [pickF, wrap_succ (show k < 9223372036854775807 by omega)]) rfl (by simp)
  have h5n : ¬ 128 ≤ x := by omega
  simp only [h5n, if_false] at he
  refine asplitK_intro (fun h6 => ?_) (fun h6 => ?_) <;> (have h6' := h6; simp at h6; simp [h6, h6'])
  · refine asplitK_intro (fun h7 => ?_) (fun h7 => ?_) <;> (have h7' := h7; simp at h7; simp [h7, h7'])
    · have hc1 : (0 < k ∧ x = 0) ∨ 2147483647 < n' := .inl ⟨by omega, by omega⟩
      rw [if_pos hc1] at he
      rw [← he]; rfl
    refine asplitK_intro (fun h8 => ?_) (fun h8 => ?_) <;> (have h8' := h8; simp at h8; simp [h8, h8'])
    · have hc1 : (0 < k ∧ x = 0) ∨ 2147483647 < n' := .inr (by omega)
      rw [if_pos hc1] at he
      rw [← he]; rfl
    · have hc1 : ¬ ((0 < k ∧ x = 0) ∨ 2147483647 < n') := by omega
      rw [if_neg hc1] at he
      rw [← he]
      simp [gnV, wk, wk1, wa, wa1] <;> omega
  · refine asplitK_intro (fun h8 => ?_) (fun h8 => ?_) <;> (have h8' := h8; simp at h8; simp [h8, h8'])
    · have hc1 : (0 < k ∧ x = 0) ∨ 2147483647 < n' := .inr (by omega)
      rw [if_pos hc1] at he
      rw [← he]; rfl
    · have hc1 : ¬ ((0 < k ∧ x = 0) ∨ 2147483647 < n') := by omega
      rw [if_neg hc1] at he
      rw [← he]
      simp [gnV, wk, wk1, wa, wa1] <;> omega

/-- A text: its length, then its bytes. -/
def getText (b : Str) (at_ : Nat) : Option (Str × Nat) :=
  match getNum b at_ with
  | none => none
  | some (n, e) => if b.length < n + e then none else some ((b.take (e + n)).drop e, e + n)
def gtV : Option (Str × Nat) → Value
  | none => .tuple #[.string (S []), .int .i64 0, .bool false]
  | some (s, e) => .tuple #[.string (S s), .int .i64 e, .bool true]
theorem getNum_bound {b : Str} {at_ n e : Nat} (h : getNum b at_ = some (n, e)) : n ≤ 2147483647 ∧ at_ < e ∧ e ≤ b.length := gnF_bound b at_ _ _ _ _ _ h
theorem getText_bound {b s : Str} {at_ e : Nat} (h : getText b at_ = some (s, e)) : at_ < e ∧ e ≤ b.length ∧ s.length ≤ b.length := by
  unfold getText at h
  split at h
  · cases h
  · rename_i n e0 hg
    have hb := getNum_bound hg
    split at h
    · cases h
    · simp only [Option.some.injEq, Prod.mk.injEq] at h
      obtain ⟨rfl, rfl⟩ := h
      simp
      omega
set_option maxHeartbeats 1000000 in
theorem getText_impl_c (b : Str) (at_ : Nat) (a : Option Addr) (F : List Nat) (w : Bool) (t : TypeId) (h : Hp) (hr : slR w t byteE h b a F) (ht : t = 5) (hl : b.length ≤ 1048576) (ha : at_ ≤ 1048576) :
    ACall Try.prog 62 [.slice a b.length b.length, .int .i64 at_] h fun r h' => (∃ t, h' = h ++ t) ∧ r = gtV (getText b at_) := by
  subst ht
  refine acall mixed Try.func62 rfl (by kernel_rfl) ?_
  simp [Try.f62]
  refine callK0 (getNum_impl_c b at_ a F w _ h hr hl ha) ?_
  rintro _ _ ⟨⟨t1, rfl⟩, rfl⟩
  cases hg : getNum b at_ with
  | none =>
    have hgt : getText b at_ = none := by simp [getText, hg]
    simp [gnV, hgt, gtV]
  | some p =>
    obtain ⟨n, e⟩ := p
    have hb := getNum_bound hg
    have w1 : IntKind.i64.wrap ((b.length : Int) - e) = (b.length : Int) - e := wrap_in (by omega) (by omega)
    have w2 : IntKind.i64.wrap ((e : Int) + n) = (e : Int) + n := wrap_in (by omega) (by omega)
    simp [gnV, w1]
    refine asplitK_intro (fun h5 => ?_) (fun h5 => ?_) <;> (have h5' := h5; simp at h5; simp [h5, h5'])
    · have hgt : getText b at_ = none := by simp only [getText, hg]; rw [if_pos (by omega)]
      rw [hgt]; rfl
    · have hgt : getText b at_ = some ((b.take (e + n)).drop e, e + n) := by simp only [getText, hg]; rw [if_neg (by omega)]
      have hne : b ≠ [] := by rintro rfl; simp at hb; omega
      obtain ⟨o, off, rfl, -⟩ := byteAt hr (i := 0) (by have := List.length_pos_iff.2 hne; omega)
      have hel := (hr.to (h' := h ++ t1) ⟨t1, rfl⟩).el
      obtain ⟨G, hp, _⟩ := (hr.to (h' := h ++ t1) ⟨t1, rfl⟩).part e (e + n) (by omega) (by omega)
      have hp : slR w 5 byteE (h ++ t1) ((b.take (e + n)).drop e) (some ⟨o, off + e * 1, none⟩) G := hp
      rw [Nat.mul_one] at hp
      have hpl : ((b.take (e + n)).drop e).length = n := by simp; omega
      have hle1 : (e : Int) ≤ (e : Int) + n := by omega
      have hle2 : (e : Int) + n ≤ (b.length : Int) := by omega
      have hto : ((e : Int) + n).toNat = e + n := by omega
      have hen : e + n - e = n := by omega
      rw [hgt]
      simp [w2, asl2_ij, hel, hle1, hle2, hto, hen]
      rw [lev_cvBSc hp _ _ _ _ (b.length - e) (by rw [hpl]; rfl) (by simp) (by simp)]
      simp [w2, gtV]
end Go.Proofs.Ytcndiilogcembaa.Hz
/- A directory out of its text: both programs. -/
namespace Go.Proofs.Ytcndiilogcembaa.Hz
open Go.RowKit
set_option linter.unusedVariables false
set_option linter.unusedSimpArgs false
set_option maxRecDepth 20000

section
variable {P : Program} {α : Type} {h0 h : Hp} {e : TypeId} {xs : List α} {a : Option Addr} {F : List Nat} {n : Nat} {f : α → List Value} {hn : ∀ x, (f x).length = n} {hok : ∀ x, (f x).all okCell = true}
/-- One element more, out of a literal; what is not the slice's own stays. -/
theorem Own.append1K (k : Own h0 e (flatE n f hn hok) h xs a F) (x : α) {cs : List Value} (hx : cs = f x) {st xt : TypeId} {bt : Nat} {z : List Value} (hsl : isSlice P xt = true) (hel : elOf P st = some (e, n, bt, z)) (hs1 : xs.length + 1 ≤ big) (hs2 : (xs.length + 1) * bt ≤ big) :
    ∃ a' h' F', aappend P (h ++ [⟨true, true, e, cs⟩]) st xt (.slice a xs.length xs.length) (.slice (some ⟨h.length, 0, none⟩) 1 1) = some (.slice a' (xs.length + 1) (xs.length + 1), h') ∧ Own h0 e (flatE n f hn hok) h' (xs ++ [x]) a' F' ∧
      (∀ q, q < h.length → q ∉ F → h'[q]? = h[q]?) ∧ (∀ q ∈ F', q ∈ F ∨ h.length ≤ q) := by
  subst hx
  have hl : slR true e (flatE n f hn hok) (h ++ [⟨true, true, e, f x⟩]) [x] (some ⟨h.length, 0, none⟩) [h.length] := by
    have := (Own.lit (h0 := h) (h := h) (e := e) (A := flatE n f hn hok) (xs := [x]) (css := [f x]) (Fs := [[]]) (Ext.refl h) ⟨⟨rfl, rfl⟩, trivial⟩ (by simp) (by simp)).sl
    simpa using this
  obtain ⟨cs, h1, h2, css, Fs, rfl, h4, _⟩ := hl.cells
  have hF := flat_nil h4.flat.2
  obtain ⟨a', h', F', e1, e2, e3, e4, e5, _⟩ := (k.grow (Ext.push h [⟨true, true, e, f x⟩])).append (P := P) (st := st) (xt := xt) (x := .slice (some ⟨h.length, 0, none⟩) 1 1) (css := css) (Fs := Fs) (ys := [x]) (by
    have h1' : cellsAt (h ++ [⟨true, true, e, f x⟩]) h.length 0 (1 * n) = some css.flatten := h1
    show srcOf P _ n xt _ = _
    rw [Nat.one_mul] at h1'
    simp [srcOf, hsl, h1']) h4 hel hs1 hs2 (by rw [hF]; simp) (by rw [hF]; simp)
  refine ⟨a', h', F', e1, e2, fun q hq hm => ?_, fun q hq => ?_⟩
  · rw [e3 q (by simp; omega) hm, List.getElem?_append_left hq]
  · rcases e5 q hq with h | h | h
    · exact .inl h
    · rw [hF] at h; cases h
    · simp at h; exact .inr (by omega)
end

theorem sumL_append {α : Type} (f : α → Nat) : ∀ (xs ys : List α), sumL f (xs ++ ys) = sumL f xs + sumL f ys
  | [], ys => by simp [sumL]
  | x :: xs, ys => by
    have := sumL_append f xs ys
    simp only [List.cons_append, sumL, this]; omega
def scanF (b : Str) : Nat → Nat → List Ent → Option (List Ent)
  | 0, _, _ => none
  | fuel + 1, at_, acc =>
    if b.length ≤ at_ then some acc else
    match getText b at_ with
    | none => none
    | some (s, e) =>
      match getNum b e with
      | none => none
      | some (n, e2) => scanF b fuel e2 (acc ++ [⟨s, (n : Int)⟩])
def dirOf (b : Str) : List Ent × Bool :=
  match scanF b (b.length + 1) 0 [] with
  | none => ([], false)
  | some es => if entriesOk es then (es, true) else ([], false)
theorem getText_bound2 {b s : Str} {at_ e : Nat} (h : getText b at_ = some (s, e)) : at_ + 1 + s.length ≤ e ∧ e ≤ b.length := by
  unfold getText at h
  split at h
  · cases h
  · rename_i n e0 hg
    have hb := getNum_bound hg
    split at h
    · cases h
    · simp only [Option.some.injEq, Prod.mk.injEq] at h
      obtain ⟨rfl, rfl⟩ := h
      simp
      omega
theorem scan_len (b : Str) : ∀ (fuel at_ : Nat) (acc es : List Ent), at_ ≤ b.length → acc.length + sumL Ent.nl acc ≤ at_ → scanF b fuel at_ acc = some es → es.length + sumL Ent.nl es ≤ b.length
  | 0, _, _, _, _, _, h => by cases h
  | fuel + 1, at_, acc, es, h1, h2, h => by
    simp only [scanF] at h
    split at h
    · injection h with h; subst h; omega
    · split at h
      · cases h
      · rename_i s e hg
        have hb := getText_bound2 hg
        split at h
        · cases h
        · rename_i n e2 hn
          have hb2 := getNum_bound hn
          refine scan_len b fuel e2 _ es (by omega) ?_ h
          have : sumL Ent.nl (acc ++ [⟨s, (n : Int)⟩]) = sumL Ent.nl acc + s.length := by
            rw [sumL_append]; simp [sumL, Ent.nl]
          rw [this]; simp; omega
theorem dirOf_len (b : Str) : (dirOf b).1.length ≤ b.length := by
  unfold dirOf
  split
  · simp
  · rename_i es h
    have := scan_len b _ 0 [] es (by omega) (by simp [sumL]) h
    split <;> simp
    omega
/-- What the loop knows. -/
structure ScanI (b : Str) (h : Hp) (at_ : Nat) (acc : List Ent) (a : Option Addr) (H : Hp) : Prop where
  le : at_ ≤ b.length
  sz : acc.length + sumL Ent.nl acc ≤ at_
  scan : ∃ fuel, b.length < at_ + fuel ∧ scanF b fuel at_ acc = scanF b (b.length + 1) 0 []
  own : ∃ F, Own h 38 entE H acc a F ∧ h.length + 1 ∉ F
  bytes : slR true 5 byteE H b (some ⟨h.length + 1, 0, none⟩) [h.length + 1]
theorem ScanI.start (b : Str) (h : Hp) : ScanI b h 0 [] (some ⟨h.length, 0, none⟩) (h ++ [⟨true, true, 38, []⟩, ⟨true, true, 5, bytesL (S b)⟩]) where
  le := by omega
  sz := by simp [sumL]
  scan := ⟨b.length + 1, by omega, rfl⟩
  own := by
    have := (empty1 entE h 38).grow (Ext.push _ [⟨true, true, 5, bytesL (S b)⟩])
    simp only [List.append_assoc, List.cons_append, List.nil_append] at this
    exact ⟨_, this, by simp⟩
  bytes := by
    have := bytesR (h ++ [⟨true, true, 38, []⟩]) 5 b
    simpa using this
theorem ScanI.more {b : Str} {h : Hp} {at_ : Nat} {acc : List Ent} {a : Option Addr} {H : Hp} (k : ScanI b h at_ acc a H) (t : Hp) : ScanI b h at_ acc a (H ++ t) := by
  obtain ⟨k1, k2, k3, ⟨F, k4, k5⟩, k6⟩ := k
  exact ⟨k1, k2, k3, ⟨F, k4.grow (Ext.push _ _), k5⟩, k6.ext (Ext.push _ _)⟩
theorem ScanI.step {b : Str} {h : Hp} {at_ : Nat} {acc : List Ent} {a : Option Addr} {H : Hp} (k : ScanI b h at_ acc a H) (hlt : at_ < b.length) (hbl : b.length ≤ 1048576) {s : Str} {e n e2 : Nat} (h1 : getText b at_ = some (s, e)) (h2 : getNum b e = some (n, e2)) :
    ∃ a' H', aappend Try.prog (H ++ [⟨true, true, 38, [.string (S s), .int .i64 n]⟩]) 24 24 (.slice a acc.length acc.length) (.slice (some ⟨H.length, 0, none⟩) 1 1) = some (.slice a' (acc.length + 1) (acc.length + 1), H') ∧ ScanI b h e2 (acc ++ [⟨s, (n : Int)⟩]) a' H' ∧ at_ < e2 := by
  obtain ⟨k1, k2, ⟨fuel, k3, k3'⟩, ⟨F, k4, k5⟩, k6⟩ := k
  have hb := getText_bound2 h1
  have hb2 := getNum_bound h2
  obtain ⟨a', H', F', eq, own', keep, sub⟩ := k4.append1K (P := Try.prog) ⟨s, (n : Int)⟩ (cs := [.string (S s), .int .i64 n]) rfl (st := 24) (xt := 24) (bt := 24) (z := [.string (S []), .int .i64 0]) (by simp) (by simp) (by unfold big; omega) (by unfold big; omega)
  refine ⟨a', H', eq, ⟨by omega, ?_, ?_, ⟨F', own', fun hm => ?_⟩, k6.frame fun q hq => ?_⟩, by omega⟩
  · have : sumL Ent.nl (acc ++ [⟨s, (n : Int)⟩]) = sumL Ent.nl acc + s.length := by
      rw [sumL_append]; simp [sumL, Ent.nl]
    rw [this]; simp; omega
  · match fuel, k3, k3' with
    | 0, k3, _ => omega
    | fuel + 1, k3, k3' =>
      refine ⟨fuel, by omega, ?_⟩
      rw [← k3']
      have : ¬ (b.length ≤ at_) := by omega
      conv => rhs; unfold scanF
      simp [this, h1, h2]
  · have hl := k6.lt _ (List.mem_cons_self)
    rcases sub _ hm with hh | hh
    · exact k5 hh
    · omega
  · have hq' : q = h.length + 1 := by simpa using hq
    subst hq'
    exact keep _ (k6.lt _ hq) k5
theorem ScanI.done {b : Str} {h : Hp} {at_ : Nat} {acc : List Ent} {a : Option Addr} {H : Hp} (k : ScanI b h at_ acc a H) (hge : b.length ≤ at_) : scanF b (b.length + 1) 0 [] = some acc := by
  obtain ⟨k1, k2, ⟨fuel, k3, k3'⟩, _, _⟩ := k
  rw [← k3']
  match fuel, k3 with
  | 0, k3 => omega
  | fuel + 1, k3 => simp [scanF, hge]
theorem ScanI.fail {b : Str} {h : Hp} {at_ : Nat} {acc : List Ent} {a : Option Addr} {H : Hp} (k : ScanI b h at_ acc a H) (hlt : at_ < b.length) (hf : getText b at_ = none ∨ ∃ s e, getText b at_ = some (s, e) ∧ getNum b e = none) : dirOf b = ([], false) := by
  obtain ⟨k1, k2, ⟨fuel, k3, k3'⟩, _, _⟩ := k
  have : scanF b (b.length + 1) 0 [] = none := by
    rw [← k3']
    have hn : ¬ (b.length ≤ at_) := by omega
    match fuel, k3 with
    | 0, k3 => omega
    | fuel + 1, k3 =>
      rcases hf with hf | ⟨s, e, hf1, hf2⟩
      · simp [scanF, hn, hf]
      · simp [scanF, hn, hf1, hf2]
  simp [dirOf, this]
set_option maxHeartbeats 2000000 in
theorem dirOf_impl_c (b : Str) (h : Hp) (hbl : b.length ≤ 1048576) :
    ACall Try.prog 20 [.string (S b)] h fun r h' => ∃ a' F', r = .tuple #[.slice a' (dirOf b).1.length (dirOf b).1.length, .bool (dirOf b).2] ∧ Own h 38 entE h' (dirOf b).1 a' F' := by
  refine acall mixed Try.func20 rfl (by kernel_rfl) ?_
  have start := ScanI.start b h
  simp [Try.f20]
  refine aloop mixed [4, 5, 6] (fun (x : Nat × List Ent × Option Addr × Hp) => [.slice x.2.2.1 x.2.1.length x.2.1.length, .slice (some ⟨h.length + 1, 0, none⟩) b.length b.length, .int .i64 x.1]) (fun x => x.2.2.2) (fun x => ScanI b h x.1 x.2.1 x.2.2.1 x.2.2.2) (fun x => b.length - x.1) (0, [], some ⟨h.length, 0, none⟩, _) start (by simp [pickF]) rfl ?_
  rintro ⟨at_, acc, a, H⟩ inv
  simp only at inv
  simp [mkF]
  refine asplitK_intro (fun hb => ?_) (fun hb => ?_) <;> simp at hb <;> simp [hb]
  · refine callK0 (getText_impl_c b at_ _ _ true _ H inv.bytes rfl hbl (by omega)) ?_
    rintro _ _ ⟨⟨t1, rfl⟩, rfl⟩
    have inv1 := inv.more t1
    have nil_ : ∀ (t : Hp), ∃ F, Own h 38 entE (H ++ t) [] none F := fun t => by
      obtain ⟨F, k4, _⟩ := inv.own
      exact ⟨_, Own.nil (k4.ext.app _)⟩
    cases hg : getText b at_ with
    | none =>
      have hf := inv.fail hb (.inl hg)
      have hc := getNum_impl_c b 0 _ _ true _ _ inv1.bytes hbl (by omega)
      simp only [Int.natCast_zero, Int.cast_ofNat_Int] at hc
      simp [gtV]
      refine callK0 hc ?_
      rintro _ _ ⟨⟨t2, rfl⟩, rfl⟩
      rw [hf]
      cases hn : getNum b 0 with
      | none =>
        simp [gnV]
        simpa using nil_ (t1 ++ t2)
      | some p =>
        simp [gnV]
        simpa using nil_ (t1 ++ t2)
    | some p =>
      obtain ⟨s, e⟩ := p
      have hb2 := getText_bound2 hg
      simp [gtV]
      refine callK0 (getNum_impl_c b e _ _ true _ _ inv1.bytes hbl (by omega)) ?_
      rintro _ _ ⟨⟨t2, rfl⟩, rfl⟩
      cases hn : getNum b e with
      | none =>
        have hf := inv.fail hb (.inr ⟨s, e, hg, hn⟩)
        rw [hf]
        simp [gnV]
        simpa using nil_ (t1 ++ t2)
      | some p =>
        obtain ⟨n, e2⟩ := p
        obtain ⟨a', H', eq, inv', hlt⟩ := (inv.more (t1 ++ t2)).step hb hbl hg hn
        simp at eq
        simp [gnV, eq]
        exact anext (e2, acc ++ [⟨s, (n : Int)⟩], a', H') inv' (by simp only; have := inv'.le; omega) (by simp [pickF]) rfl (by simp)
  · have hd := inv.done hb
    obtain ⟨F, own, _⟩ := inv.own
    have hsz := inv.sz
    have hle := inv.le
    refine callK0 (entriesOk_impl_c acc a F true H own.sl (by omega) (by omega)) ?_
    rintro _ _ ⟨⟨t1, rfl⟩, rfl⟩
    cases ho : entriesOk acc
    · have hf : dirOf b = ([], false) := by simp [dirOf, hd, ho]
      rw [hf]
      simp
      exact ⟨_, Own.nil (own.ext.app _)⟩
    · have hf : dirOf b = (acc, true) := by simp [dirOf, hd, ho]
      rw [hf]
      simp
      exact ⟨_, own.grow (Ext.push _ _)⟩
end Go.Proofs.Ytcndiilogcembaa.Hz
