/- A node that is right: both programs. -/
import Derived.Test.YtidkkmkihifeoaaHzF1
import Derived.Test.YtidkkmkihifeoaaHzW
namespace Go.Proofs.Ytidkkmkihifeoaa.Hz
open Go.RowKit
set_option linter.unusedVariables false
set_option linter.unusedSimpArgs false
set_option maxRecDepth 20000

def inR (n lo hi : Int) : Bool := decide (lo ≤ n ∧ n ≤ hi)
theorem inR_iff {n lo hi : Int} : inR n lo hi = true ↔ lo ≤ n ∧ n ≤ hi := by simp [inR]
theorem withinR (n lo hi : Int) (h : Hp) : ACall Try.prog 104 [.int .i64 n, .int .i64 lo, .int .i64 hi] h fun r h' => r = .bool (inR n lo hi) ∧ h' = h := within_c n lo hi h
theorem l1InR (n lo hi : Int) (h : Hp) : ACall Try.prog 80 [.int .i64 n, .int .i64 lo, .int .i64 hi] h fun r h' => r = .bool (inR n lo hi) ∧ h' = h := within_spec_c n lo hi h

def blocksFor (n : Int) : Int := if n ≤ 0 then 0 else if n ≥ 80 then 5 else (n + 15) / 16
theorem blocksFor_impl_c (n : Int) (h : Hp) : ACall Try.prog 138 [.int .i64 n] h fun r h' => r = .int .i64 (blocksFor n) ∧ h' = h := by
  refine acall mixed Try.func138 rfl (by kernel_rfl) ?_
  simp [Try.f138]
  refine asplitK_intro (fun hb => ?_) (fun hb => ?_) <;> simp at hb <;> simp [hb]
  · simp [blocksFor, hb]
  refine asplitK_intro (fun hc => ?_) (fun hc => ?_) <;> simp at hc <;> simp [hc]
  · have h1 : ¬ n ≤ 0 := by omega
    have h2 : 80 ≤ n := by omega
    simp [blocksFor, h1, h2]
  · have h1 : ¬ n ≤ 0 := by omega
    have w1 : IntKind.i64.wrap (n + 16) = n + 16 := wrap_in (by omega) (by omega)
    have w2 : IntKind.i64.wrap (n + 16 - 1) = n + 15 := by rw [wrap_in (by omega) (by omega)]; omega
    have w3 : IntKind.i64.wrap ((n + 15).tdiv 16) = (n + 15) / 16 := by rw [Int.tdiv_eq_ediv_of_nonneg (by omega), wrap_in (by omega) (by omega)]
    simp [w1, w2, w3, blocksFor, h1]
    omega
theorem blocksFor_spec_c (n : Int) (h : Hp) : ACall Try.prog 136 [.int .i64 n] h fun r h' => r = .int .i64 (blocksFor n) ∧ h' = h := by
  refine acall mixed Try.func136 rfl (by kernel_rfl) ?_
  simp [Try.f136]
  refine asplitK_intro (fun hb => ?_) (fun hb => ?_) <;> simp at hb <;> simp [hb]
  · simp [blocksFor, hb]
  refine asplitK_intro (fun hc => ?_) (fun hc => ?_) <;> simp at hc <;> simp [hc]
  · have h1 : ¬ n ≤ 0 := by omega
    simp [blocksFor, h1, hc]
  · have h1 : ¬ n ≤ 0 := by omega
    have h2 : ¬ 80 ≤ n := by omega
    have w1 : IntKind.i64.wrap (n + 16) = n + 16 := wrap_in (by omega) (by omega)
    have w2 : IntKind.i64.wrap (n + 16 - 1) = n + 15 := by rw [wrap_in (by omega) (by omega)]; omega
    have w3 : IntKind.i64.wrap ((n + 15).tdiv 16) = (n + 15) / 16 := by rw [Int.tdiv_eq_ediv_of_nonneg (by omega), wrap_in (by omega) (by omega)]
    simp [w1, w2, w3, blocksFor, h1, h2]

theorem contains_take {xs : List Int} {v : Int} {k : Nat} (hk : k < xs.length) (h : (xs.take k).contains v = false) (hne : ¬ v = xs[k]) : (xs.take (k + 1)).contains v = false := by
  rw [List.take_succ_eq_append_getElem hk]
  simp only [List.contains_eq_mem, List.mem_append, List.mem_singleton, decide_eq_false_iff_not, not_or] at *
  exact ⟨h, hne⟩
theorem contains_of {xs : List Int} {v : Int} {k : Nat} (hk : k < xs.length) (he : v = xs[k]) : xs.contains v = true := by
  rw [he]; simp
theorem indexInt_c (xs : List Int) (v : Int) (a : Option Addr) (F : List Nat) (w : Bool) (t : TypeId) (h : Hp) (hr : slR w t intE h xs a F) (hl : xs.length ≤ 1048576) :
    ACall Try.prog 204 [.slice a xs.length xs.length, .int .i64 v] h fun r h' => h' = h ∧ ∃ i : Int, r = .int .i64 i ∧ decide (0 ≤ i) = xs.contains v := by
  refine acall mixed Try.func204 rfl (by kernel_rfl) ?_
  simp [Try.f204]
  refine aloop mixed [0, 1, 7, 8] (fun (k : Nat) => [.slice a xs.length xs.length, .int .i64 v, .int .i64 xs.length, .int .i64 k]) (fun _ => h) (fun k => k ≤ xs.length ∧ (xs.take k).contains v = false) (fun k => xs.length - k) 0 ⟨by omega, by simp⟩ rfl rfl ?_
  rintro k ⟨hk, he⟩
  simp [mkF]
  refine asplitK_intro (fun hb => ?_) (fun hb => ?_) <;> simp at hb <;> simp [hb]
  · obtain ⟨o, off, rfl, c0⟩ := intEAt hr hb
    simp [hb, c0]
    refine asplitK_intro (fun hc => ?_) (fun hc => ?_) <;> simp at hc <;> simp [hc]
    exact anext (k + 1) ⟨hb, by simpa using contains_take hb he hc⟩ (by omega) (by simp [pickF, wrap_succ (show k < 9223372036854775807 by omega)]) rfl (by simp)
  · obtain rfl : k = xs.length := by omega
    simpa using he
theorem containsInt_c (xs : List Int) (v : Int) (a : Option Addr) (F : List Nat) (w : Bool) (t : TypeId) (h : Hp) (hr : slR w t intE h xs a F) (hl : xs.length ≤ 1048576) :
    ACall Try.prog 197 [.slice a xs.length xs.length, .int .i64 v] h fun r h' => h' = h ∧ r = .bool (xs.contains v) := by
  refine acall mixed Try.func197 rfl (by kernel_rfl) ?_
  simp [Try.f197]
  refine callK0 (indexInt_c xs v a F w t h hr hl) ?_
  rintro _ _ ⟨rfl, i, rfl, hi⟩
  simp at hi
  simp [hi]
theorem l1Has_c (xs : List Int) (v : Int) (a : Option Addr) (F : List Nat) (w : Bool) (t : TypeId) (h : Hp) (hr : slR w t intE h xs a F) (hl : xs.length ≤ 1048576) :
    ACall Try.prog 196 [.slice a xs.length xs.length, .int .i64 v] h fun r h' => h' = h ∧ r = .bool (xs.contains v) := by
  refine acall mixed Try.func196 rfl (by kernel_rfl) ?_
  simp [Try.f196]
  refine aloop mixed [0, 1, 5] (fun (k : Nat) => [.slice a xs.length xs.length, .int .i64 v, .int .i64 k]) (fun _ => h) (fun k => k ≤ xs.length ∧ (xs.take k).contains v = false) (fun k => xs.length - k) 0 ⟨by omega, by simp⟩ rfl rfl ?_
  rintro k ⟨hk, he⟩
  simp [mkF]
  refine asplitK_intro (fun hb => ?_) (fun hb => ?_) <;> simp at hb <;> simp [hb]
  · obtain ⟨o, off, rfl, c0⟩ := intEAt hr hb
    simp [hb, c0]
    refine asplitK_intro (fun hc => ?_) (fun hc => ?_) <;> simp at hc <;> simp [hc]
    · simp [← hc]
    · exact anext (k + 1) ⟨hb, by simpa using contains_take hb he (fun e => hc e.symm)⟩ (by omega) (by simp [pickF, wrap_succ (show k < 9223372036854775807 by omega)]) rfl (by simp)
  · obtain rfl : k = xs.length := by omega
    simpa using he

def blkOk : List Int → List Int → Bool
  | _, [] => true
  | seen, b :: bs => inR b 0 35 && !(seen.contains b) && blkOk (seen ++ [b]) bs
theorem blkOk_drop (xs : List Int) (k : Nat) (hk : k < xs.length) : blkOk (xs.take k) (xs.drop k) = (inR xs[k] 0 35 && !((xs.take k).contains xs[k]) && blkOk (xs.take (k + 1)) (xs.drop (k + 1))) := by
  rw [List.drop_eq_getElem_cons hk, List.take_succ_eq_append_getElem hk]; rfl
def badDir (n : Node) : Bool := n.kind == 2 && (n.gen != 0 || n.time != 0)
def badLen (n : Node) : Bool := (n.blocks.length : Int) != blocksFor n.size
def nodeOk (n : Node) : Bool :=
  if n.kind == 0 then n.gen == 0 && n.time == 0 && n.size == 0 && (n.blocks.length : Int) == 0
  else inR n.kind 1 3 && inR n.gen 0 1000000 && inR n.time 0 100000 && inR n.size 0 80 && !badDir n && !badLen n && blkOk [] n.blocks

set_option maxHeartbeats 2000000 in
theorem nodeOk_impl_c (x : Node) (a1 : Option Addr) (F1 : List Nat) (w : Bool) (h : Hp) (k1 : slR w 3 intE h x.blocks a1 F1) (hl : x.lim) :
    ACall Try.prog 173 [.agg #[.int .i64 x.kind, .int .i64 x.gen, .int .i64 x.time, .int .i64 x.size, .slice a1 x.blocks.length x.blocks.length]] h fun r h' => (∃ t, h' = h ++ t) ∧ r = .bool (nodeOk x) := by
  refine acall mixed Try.func173 rfl (by kernel_rfl) ?_
  have hlim : x.blocks.length ≤ 1048576 := hl
  simp [Try.f173]
  refine asplitK_intro (fun h0 => ?_) (fun h0 => ?_) <;> simp only [h0] <;> simp
  · refine asplitK_intro (fun h1 => ?_) (fun h1 => ?_) <;> simp [h1, nodeOk, h0]
    refine asplitK_intro (fun h2 => ?_) (fun h2 => ?_) <;> simp [h2, h1]
    refine asplitK_intro (fun h3 => ?_) (fun h3 => ?_) <;> simp [h3]
  refine callK0 (withinR x.kind 1 3 _) ?_
  rintro _ _ ⟨rfl, rfl⟩
  cases e1 : inR x.kind 1 3
  · simp [nodeOk, h0, e1]
  simp
  refine callK0 (withinR x.gen 0 1000000 _) ?_
  rintro _ _ ⟨rfl, rfl⟩
  cases e2 : inR x.gen 0 1000000
  · simp [nodeOk, h0, e1, e2]
  simp
  refine callK0 (withinR x.time 0 100000 _) ?_
  rintro _ _ ⟨rfl, rfl⟩
  cases e3 : inR x.time 0 100000
  · simp [nodeOk, h0, e1, e2, e3]
  simp
  refine callK0 (withinR x.size 0 80 _) ?_
  rintro _ _ ⟨rfl, rfl⟩
  cases e4 : inR x.size 0 80
  · simp [nodeOk, h0, e1, e2, e3, e4]
  simp
  refine drawK true (by kernel_rfl) ?_
  simp
  have fin : nodeOk x = (!badDir x && !badLen x && blkOk [] x.blocks) := by simp [nodeOk, h0, e1, e2, e3, e4]
  refine asplitK_intro (fun h5 => ?_) (fun h5 => ?_) <;> simp [h5]
  · refine asplitK_intro (fun h6 => ?_) (fun h6 => ?_) <;> simp [h6]
    · have hb : badDir x = true := by rw [badDir, h5, h6]; rfl
      rw [fin, hb]; rfl
    refine asplitK_intro (fun h7 => ?_) (fun h7 => ?_) <;> simp [h7]
    · have hb : badDir x = true := by rw [badDir, h5, h6, h7]; rfl
      rw [fin, hb]; rfl
    have hb : badDir x = false := by rw [badDir, h5, h6, h7]; rfl
    rw [hb] at fin
    refine callK (blocksFor_impl_c x.size _) ?_
    rintro _ _ ⟨rfl, rfl⟩
    refine ⟨fun _ => Ext.refl _, ?_⟩
    simp
    refine asplitK_intro (fun h8 => ?_) (fun h8 => ?_) <;> simp [h8]
    · have hc : badLen x = true := h8
      rw [fin, hc]; rfl
    have hc : badLen x = false := h8
    rw [hc] at fin
    simp at fin
    rw [fin]
    refine aloop mixed [1, 72, 73, 74] (fun (k : Nat) => [.pointer (some ⟨h.length, 0, none⟩), .slice a1 x.blocks.length x.blocks.length, .int .i64 x.blocks.length, .int .i64 k]) (fun _ => _) (fun k => k ≤ x.blocks.length ∧ blkOk (x.blocks.take k) (x.blocks.drop k) = blkOk [] x.blocks) (fun k => x.blocks.length - k) 0 ⟨by omega, by simp⟩ rfl rfl ?_
    rintro k ⟨hk, he⟩
    simp [mkF]
    refine asplitK_intro (fun hd => ?_) (fun hd => ?_) <;> simp at hd <;> simp [hd]
    · have he2 := blkOk_drop x.blocks k hd
      obtain ⟨o, off, rfl, c0⟩ := intEAt (k1.ext (Ext.push h [⟨true, true, 151, [.int .i64 x.kind, .int .i64 x.gen, .int .i64 x.time, .int .i64 x.size, .slice a1 x.blocks.length x.blocks.length]⟩])) hd
      simp [hd, c0]
      refine callK0 (withinR x.blocks[k] 0 35 _) ?_
      rintro _ _ ⟨rfl, rfl⟩
      cases e5 : inR x.blocks[k] 0 35
      · rw [e5] at he2
        simp [← he, he2]
      have kk := k1.ext (Ext.push h [⟨true, true, 151, [.int .i64 x.kind, .int .i64 x.gen, .int .i64 x.time, .int .i64 x.size, .slice (some ⟨o, off, none⟩) x.blocks.length x.blocks.length]⟩])
      have hel := kk.el
      obtain ⟨G, hp, _⟩ := kk.part 0 k (by omega) (by omega)
      simp only [List.drop_zero, Nat.zero_mul, Nat.add_zero] at hp
      have hlen : (x.blocks.take k).length = k := by simp; omega
      have hcf := containsInt_c (x.blocks.take k) x.blocks[k] _ G w _ _ hp (by omega)
      rw [hlen] at hcf
      simp [asl2_j, hel, Nat.le_of_lt hd]
      refine callK0 (hcf.cap (Nat.le_of_lt hd)) ?_
      rintro _ _ ⟨rfl, rfl⟩
      cases e6 : (x.blocks.take k).contains x.blocks[k]
      · simp
        rw [e5, e6] at he2
        exact anext (k + 1) ⟨hd, by rw [← he, he2]; rfl⟩ (by omega) (by simp [pickF, wrap_succ (show k < 9223372036854775807 by omega)]) rfl (by simp)
      · rw [e5, e6] at he2
        simp [← he, he2]
    · obtain rfl : k = x.blocks.length := by omega
      simpa [blkOk] using he
  · have hb : badDir x = false := by rw [badDir, h5]; rfl
    rw [hb] at fin
    refine callK (blocksFor_impl_c x.size _) ?_
    rintro _ _ ⟨rfl, rfl⟩
    refine ⟨fun _ => Ext.refl _, ?_⟩
    simp
    refine asplitK_intro (fun h8 => ?_) (fun h8 => ?_) <;> simp [h8]
    · have hc : badLen x = true := h8
      rw [fin, hc]; rfl
    have hc : badLen x = false := h8
    rw [hc] at fin
    simp at fin
    rw [fin]
    refine aloop mixed [1, 72, 73, 74] (fun (k : Nat) => [.pointer (some ⟨h.length, 0, none⟩), .slice a1 x.blocks.length x.blocks.length, .int .i64 x.blocks.length, .int .i64 k]) (fun _ => _) (fun k => k ≤ x.blocks.length ∧ blkOk (x.blocks.take k) (x.blocks.drop k) = blkOk [] x.blocks) (fun k => x.blocks.length - k) 0 ⟨by omega, by simp⟩ rfl rfl ?_
    rintro k ⟨hk, he⟩
    simp [mkF]
    refine asplitK_intro (fun hd => ?_) (fun hd => ?_) <;> simp at hd <;> simp [hd]
    · have he2 := blkOk_drop x.blocks k hd
      obtain ⟨o, off, rfl, c0⟩ := intEAt (k1.ext (Ext.push h [⟨true, true, 151, [.int .i64 x.kind, .int .i64 x.gen, .int .i64 x.time, .int .i64 x.size, .slice a1 x.blocks.length x.blocks.length]⟩])) hd
      simp [hd, c0]
      refine callK0 (withinR x.blocks[k] 0 35 _) ?_
      rintro _ _ ⟨rfl, rfl⟩
      cases e5 : inR x.blocks[k] 0 35
      · rw [e5] at he2
        simp [← he, he2]
      have kk := k1.ext (Ext.push h [⟨true, true, 151, [.int .i64 x.kind, .int .i64 x.gen, .int .i64 x.time, .int .i64 x.size, .slice (some ⟨o, off, none⟩) x.blocks.length x.blocks.length]⟩])
      have hel := kk.el
      obtain ⟨G, hp, _⟩ := kk.part 0 k (by omega) (by omega)
      simp only [List.drop_zero, Nat.zero_mul, Nat.add_zero] at hp
      have hlen : (x.blocks.take k).length = k := by simp; omega
      have hcf := containsInt_c (x.blocks.take k) x.blocks[k] _ G w _ _ hp (by omega)
      rw [hlen] at hcf
      simp [asl2_j, hel, Nat.le_of_lt hd]
      refine callK0 (hcf.cap (Nat.le_of_lt hd)) ?_
      rintro _ _ ⟨rfl, rfl⟩
      cases e6 : (x.blocks.take k).contains x.blocks[k]
      · simp
        rw [e5, e6] at he2
        exact anext (k + 1) ⟨hd, by rw [← he, he2]; rfl⟩ (by omega) (by simp [pickF, wrap_succ (show k < 9223372036854775807 by omega)]) rfl (by simp)
      · rw [e5, e6] at he2
        simp [← he, he2]
    · obtain rfl : k = x.blocks.length := by omega
      simpa [blkOk] using he
set_option maxHeartbeats 2000000 in
theorem nodeOk_spec_c (x : Node) (a1 : Option Addr) (F1 : List Nat) (w : Bool) (h : Hp) (k1 : slR w 3 intE h x.blocks a1 F1) (hl : x.lim) :
    ACall Try.prog 170 [.agg #[.int .i64 x.kind, .int .i64 x.gen, .int .i64 x.time, .int .i64 x.size, .slice a1 x.blocks.length x.blocks.length]] h fun r h' => (∃ t, h' = h ++ t) ∧ r = .bool (nodeOk x) := by
  refine acall mixed Try.func170 rfl (by kernel_rfl) ?_
  have hlim : x.blocks.length ≤ 1048576 := hl
  simp [Try.f170]
  refine asplitK_intro (fun h0 => ?_) (fun h0 => ?_) <;> simp only [h0] <;> simp
  · refine asplitK_intro (fun h1 => ?_) (fun h1 => ?_) <;> simp [h1, nodeOk, h0]
    refine asplitK_intro (fun h2 => ?_) (fun h2 => ?_) <;> simp [h2, h1]
    refine asplitK_intro (fun h3 => ?_) (fun h3 => ?_) <;> simp [h3]
  refine drawK true (by kernel_rfl) ?_
  simp
  refine callK (l1InR x.kind 1 3 _) ?_
  rintro _ _ ⟨rfl, rfl⟩
  refine ⟨fun _ => Ext.refl _, ?_⟩
  cases e1 : inR x.kind 1 3
  · simp [nodeOk, h0, e1]
  simp
  refine callK (l1InR x.gen 0 1000000 _) ?_
  rintro _ _ ⟨rfl, rfl⟩
  refine ⟨fun _ => Ext.refl _, ?_⟩
  cases e2 : inR x.gen 0 1000000
  · simp [nodeOk, h0, e1, e2]
  simp
  refine callK (l1InR x.time 0 100000 _) ?_
  rintro _ _ ⟨rfl, rfl⟩
  refine ⟨fun _ => Ext.refl _, ?_⟩
  cases e3 : inR x.time 0 100000
  · simp [nodeOk, h0, e1, e2, e3]
  simp
  refine callK (l1InR x.size 0 80 _) ?_
  rintro _ _ ⟨rfl, rfl⟩
  refine ⟨fun _ => Ext.refl _, ?_⟩
  cases e4 : inR x.size 0 80
  · simp [nodeOk, h0, e1, e2, e3, e4]
  simp
  have fin : nodeOk x = (!badDir x && !badLen x && blkOk [] x.blocks) := by simp [nodeOk, h0, e1, e2, e3, e4]
  refine callK (blocksFor_spec_c x.size _) ?_
  rintro _ _ ⟨rfl, rfl⟩
  refine ⟨fun _ => Ext.refl _, ?_⟩
  simp
  refine asplitK_intro (fun h8 => ?_) (fun h8 => ?_) <;> simp [h8]
  · have hc : badLen x = true := h8
    rw [fin, hc]; simp
  have hc : badLen x = false := h8
  rw [hc] at fin
  refine asplitK_intro (fun h5 => ?_) (fun h5 => ?_) <;> simp [h5]
  · refine asplitK_intro (fun h6 => ?_) (fun h6 => ?_) <;> simp [h6]
    · have hb : badDir x = true := by rw [badDir, h5, h6]; rfl
      rw [fin, hb]; rfl
    refine asplitK_intro (fun h7 => ?_) (fun h7 => ?_) <;> simp [h7]
    · have hb : badDir x = true := by rw [badDir, h5, h6, h7]; rfl
      rw [fin, hb]; rfl
    have hb : badDir x = false := by rw [badDir, h5, h6, h7]; rfl
    rw [hb] at fin
    simp at fin
    rw [fin]
    refine aloop mixed [1, 3] (fun (k : Nat) => [.pointer (some ⟨h.length, 0, none⟩), .int .i64 k]) (fun _ => h ++ [⟨true, true, 151, [.int .i64 x.kind, .int .i64 x.gen, .int .i64 x.time, .int .i64 x.size, .slice a1 x.blocks.length x.blocks.length]⟩]) (fun k => k ≤ x.blocks.length ∧ blkOk (x.blocks.take k) (x.blocks.drop k) = blkOk [] x.blocks) (fun k => x.blocks.length - k) 0 ⟨by omega, by simp⟩ rfl rfl ?_
    rintro k ⟨hk, he⟩
    simp [mkF]
    refine asplitK_intro (fun hd => ?_) (fun hd => ?_) <;> simp at hd <;> simp [hd]
    · have he2 := blkOk_drop x.blocks k hd
      obtain ⟨o, off, rfl, c0⟩ := intEAt (k1.ext (Ext.push h [⟨true, true, 151, [.int .i64 x.kind, .int .i64 x.gen, .int .i64 x.time, .int .i64 x.size, .slice a1 x.blocks.length x.blocks.length]⟩])) hd
      refine drawK true (by kernel_rfl) ?_
      simp [hd, c0]
      refine callK (l1InR x.blocks[k] 0 35 _) ?_
      rintro _ _ ⟨rfl, rfl⟩
      refine ⟨fun _ => Ext.refl _, ?_⟩
      cases e5 : inR x.blocks[k] 0 35
      · rw [e5] at he2
        simp [← he, he2]
      have kk := k1.ext (Ext.push h [⟨true, true, 151, [.int .i64 x.kind, .int .i64 x.gen, .int .i64 x.time, .int .i64 x.size, .slice (some ⟨o, off, none⟩) x.blocks.length x.blocks.length]⟩])
      have hel := kk.el
      obtain ⟨G, hp, _⟩ := kk.part 0 k (by omega) (by omega)
      simp only [List.drop_zero, Nat.zero_mul, Nat.add_zero] at hp
      have hlen : (x.blocks.take k).length = k := by simp; omega
      have hcf := l1Has_c (x.blocks.take k) x.blocks[k] _ G w _ _ hp (by omega)
      rw [hlen] at hcf
      simp [asl2_j, hel, Nat.le_of_lt hd, hd, c0]
      refine callK (hcf.cap (Nat.le_of_lt hd)) ?_
      rintro _ _ ⟨rfl, rfl⟩
      refine ⟨fun _ => Ext.refl _, ?_⟩
      cases e6 : (x.blocks.take k).contains x.blocks[k]
      · simp
        rw [e5, e6] at he2
        exact anext (k + 1) ⟨hd, by rw [← he, he2]; rfl⟩ (by omega) (by simp [pickF, wrap_succ (show k < 9223372036854775807 by omega)]) rfl (by simp)
      · rw [e5, e6] at he2
        simp [← he, he2]
    · obtain rfl : k = x.blocks.length := by omega
      simpa [blkOk] using he
  · have hb : badDir x = false := by rw [badDir, h5]; rfl
    rw [hb] at fin
    simp at fin
    rw [fin]
    refine aloop mixed [1, 3] (fun (k : Nat) => [.pointer (some ⟨h.length, 0, none⟩), .int .i64 k]) (fun _ => h ++ [⟨true, true, 151, [.int .i64 x.kind, .int .i64 x.gen, .int .i64 x.time, .int .i64 x.size, .slice a1 x.blocks.length x.blocks.length]⟩]) (fun k => k ≤ x.blocks.length ∧ blkOk (x.blocks.take k) (x.blocks.drop k) = blkOk [] x.blocks) (fun k => x.blocks.length - k) 0 ⟨by omega, by simp⟩ rfl rfl ?_
    rintro k ⟨hk, he⟩
    simp [mkF]
    refine asplitK_intro (fun hd => ?_) (fun hd => ?_) <;> simp at hd <;> simp [hd]
    · have he2 := blkOk_drop x.blocks k hd
      obtain ⟨o, off, rfl, c0⟩ := intEAt (k1.ext (Ext.push h [⟨true, true, 151, [.int .i64 x.kind, .int .i64 x.gen, .int .i64 x.time, .int .i64 x.size, .slice a1 x.blocks.length x.blocks.length]⟩])) hd
      refine drawK true (by kernel_rfl) ?_
      simp [hd, c0]
      refine callK (l1InR x.blocks[k] 0 35 _) ?_
      rintro _ _ ⟨rfl, rfl⟩
      refine ⟨fun _ => Ext.refl _, ?_⟩
      cases e5 : inR x.blocks[k] 0 35
      · rw [e5] at he2
        simp [← he, he2]
      have kk := k1.ext (Ext.push h [⟨true, true, 151, [.int .i64 x.kind, .int .i64 x.gen, .int .i64 x.time, .int .i64 x.size, .slice (some ⟨o, off, none⟩) x.blocks.length x.blocks.length]⟩])
      have hel := kk.el
      obtain ⟨G, hp, _⟩ := kk.part 0 k (by omega) (by omega)
      simp only [List.drop_zero, Nat.zero_mul, Nat.add_zero] at hp
      have hlen : (x.blocks.take k).length = k := by simp; omega
      have hcf := l1Has_c (x.blocks.take k) x.blocks[k] _ G w _ _ hp (by omega)
      rw [hlen] at hcf
      simp [asl2_j, hel, Nat.le_of_lt hd, hd, c0]
      refine callK (hcf.cap (Nat.le_of_lt hd)) ?_
      rintro _ _ ⟨rfl, rfl⟩
      refine ⟨fun _ => Ext.refl _, ?_⟩
      cases e6 : (x.blocks.take k).contains x.blocks[k]
      · simp
        rw [e5, e6] at he2
        exact anext (k + 1) ⟨hd, by rw [← he, he2]; rfl⟩ (by omega) (by simp [pickF, wrap_succ (show k < 9223372036854775807 by omega)]) rfl (by simp)
      · rw [e5, e6] at he2
        simp [← he, he2]
    · obtain rfl : k = x.blocks.length := by omega
      simpa [blkOk] using he
end Go.Proofs.Ytidkkmkihifeoaa.Hz
