/- Texts of the calculus and of the program's functions, merged: TN MT. -/
import Derived.Test.YtoknpbmcpaaalaaHyGH
import Derived.Test.YtoknpbmcpaaalaaHyGD
import Derived.Test.YtoknpbmcpaaalaaHyGF
/- Last and TreeNames: both programs. -/
namespace Go.Proofs.Ytoknpbmcpaaalaa.Hz
open Go.RowKit
set_option linter.unusedVariables false
set_option linter.unusedSimpArgs false
set_option maxRecDepth 20000

def last (p : Str) : Str := (names p).getLastD []
theorem last_at (p : Str) (h : 0 < (names p).length) : last p = (names p)[(names p).length - 1] := by
  unfold last
  rw [List.getLastD_eq_getLast?, List.getLast?_eq_getElem?, List.getElem?_eq_getElem (by omega)]
  rfl
theorem last_impl_c (p : Str) (h : Hp) (hl : p.length ≤ 1048576) :
    ACall Try.prog 72 [.string (S p)] h fun r h' => (∃ t, h' = h ++ t) ∧ r = .string (S (last p)) := by
  refine acall mixed Try.func72 rfl (by kernel_rfl) ?_
  simp [Try.f72]
  refine callK0 (names_impl_c p _ hl) ?_
  rintro _ _ ⟨a, F, rfl, own⟩
  obtain ⟨u, rfl⟩ := own.ext.pre
  have hlen := parts_len 47 p
  have hnl : (names p).length ≤ p.length + 1 := by unfold names; split <;> (try split) <;> simp <;> omega
  by_cases h0 : (names p).length = 0
  · have : last p = [] := by unfold last; rw [List.eq_nil_of_length_eq_zero h0]; rfl
    simp [h0, this]
  · have h1 : 0 < (names p).length := by omega
    have hw : IntKind.i64.wrap (((names p).length : Int) - 1) = (((names p).length - 1 : Nat) : Int) := by rw [wrap_in (by omega) (by omega)]; omega
    have hlt : (names p).length - 1 < (names p).length := by omega
    obtain ⟨o, off, rfl, c0⟩ := strEAt own.sl hlt
    have h0' : (((names p).length : Int) == 0) = false := by simp; exact fun e => h0 (by rw [e]; rfl)
    simp [h0', hw, hlt, c0, last_at p h1]
theorem last_spec_c (p : Str) (h : Hp) (hl : p.length ≤ 1048576) :
    ACall Try.prog 71 [.string (S p)] h fun r h' => (∃ t, h' = h ++ t) ∧ r = .string (S (last p)) := by
  refine acall mixed Try.func71 rfl (by kernel_rfl) ?_
  simp [Try.f71]
  refine callK0 (names_spec_c p _ hl) ?_
  rintro _ _ ⟨a, F, rfl, own⟩
  obtain ⟨u, rfl⟩ := own.ext.pre
  have hlen := parts_len 47 p
  have hnl : (names p).length ≤ p.length + 1 := by unfold names; split <;> (try split) <;> simp <;> omega
  by_cases h0 : (names p).length = 0
  · have : last p = [] := by unfold last; rw [List.eq_nil_of_length_eq_zero h0]; rfl
    simp [h0, this]
  · have h1 : 0 < (names p).length := by omega
    have hw : IntKind.i64.wrap (((names p).length : Int) - 1) = (((names p).length - 1 : Nat) : Int) := by rw [wrap_in (by omega) (by omega)]; omega
    have hlt : (names p).length - 1 < (names p).length := by omega
    obtain ⟨o, off, rfl, c0⟩ := strEAt own.sl hlt
    have h0' : (((names p).length : Int) == 0) = false := by simp; exact fun e => h0 (by rw [e]; rfl)
    simp [h0', hw, hlt, c0, last_at p h1]
def under (xs : List Item) (d : Str) : List Str := (xs.filter fun x => above x.path == d).map fun x => last x.path
def treeNames (xs : List Item) (d : Str) : List Str := if treeOk xs && (treeGet xs d).2 && decide ((treeGet xs d).1.kind = 2) then under xs d else []
theorem under_take (xs : List Item) (d : Str) (i : Nat) (hi : i < xs.length) : under (xs.take (i + 1)) d = under (xs.take i) d ++ (if above xs[i].path = d then [last xs[i].path] else []) := by
  unfold under
  rw [List.take_succ_eq_append_getElem hi, List.filter_append, List.map_append]
  congr 1
  by_cases h : above xs[i].path = d <;> simp [h]
theorem under_len (xs : List Item) (d : Str) : (under xs d).length ≤ xs.length := by unfold under; rw [List.length_map]; exact List.length_filter_le _ _
section
variable (xs : List Item) (d : Str) (a : Option Addr) (F : List Nat) (w : Bool) (h : Hp) (hx : slR w 78 itemE h xs a F) (hl : xs.length + sumL Item.nl xs ≤ 1048576)
include hx hl
set_option maxHeartbeats 2000000 in
theorem treeNames_impl_c : ACall Try.prog 21 [.agg #[.slice a xs.length xs.length], .string (S d)] h fun r h' => ∃ b G, r = .slice b (treeNames xs d).length (treeNames xs d).length ∧ Own h 9 strE h' (treeNames xs d) b G := by
  refine acall mixed Try.func21 rfl (by kernel_rfl) ?_
  have hlx : xs.length ≤ 1048576 := by omega
  simp [Try.f21]
  refine callK0 (treeGet_impl_c xs d a F w _ _ (hx.to (by simp)) hlx) ?_
  rintro _ _ ⟨⟨t1, rfl⟩, rfl⟩
  simp [Item.v]
  cases e1 : (treeGet xs d).2
  · have hf : treeNames xs d = [] := by simp [treeNames, e1]
    rw [hf]
    simp
    exact ⟨_, Own.nil (Ext.push _ _)⟩
  simp
  by_cases e2 : (treeGet xs d).1.kind = 2
  rotate_left
  · have hf : treeNames xs d = [] := by simp [treeNames, e2]
    have e2' : ((treeGet xs d).1.kind != 2) = true := by simpa using e2
    rw [hf]
    simp [e2']
    exact ⟨_, Own.nil (Ext.push _ _)⟩
  simp [e2]
  obtain ⟨B, hB⟩ : ∃ B, B = h ++ [(⟨true, true, 29, [.slice a xs.length xs.length]⟩ : Ob)] := ⟨_, rfl⟩
  have eB : ∀ (T : Hp), Ext B (h ++ ⟨true, true, 29, [.slice a xs.length xs.length]⟩ :: T) := fun T => by rw [hB]; simpa using Ext.push (h ++ [(⟨true, true, 29, [.slice a xs.length xs.length]⟩ : Ob)]) T
  have eh : Ext h B := by rw [hB]; exact Ext.push _ _
  have cB : cellAt B h.length 0 = some (.slice a xs.length xs.length) := by rw [hB]; simp
  clear hB
  refine callK0 (treeOk_impl_c xs a F w _ (hx.to (by simp)) hl) ?_
  rintro _ H1 ⟨⟨t2, hH1⟩, rfl⟩
  have eH1 : Ext B H1 := by rw [hH1]; exact (eB _).trans (Ext.push _ _)
  cases e3 : treeOk xs
  · have hf : treeNames xs d = [] := by simp [treeNames, e3]
    rw [hf]
    simp
    exact ⟨_, Own.nil (eh.trans eH1)⟩
  have hf : treeNames xs d = under xs d := by simp [treeNames, e1, e2, e3]
  rw [hf]
  simp
  have o0 : Own B 9 strE (H1 ++ [⟨true, true, 9, []⟩]) [] (some ⟨H1.length, 0, none⟩) [H1.length] := by
    have := Own.lit (h0 := B) (h := H1) (e := 9) (A := strE) (xs := []) (css := []) (Fs := []) eH1 trivial (by simp) (by simp)
    simpa using this
  simp [cell_up (eH1.trans (Ext.push H1 [⟨true, true, 9, []⟩])) cB]
  refine aloop mixed [1, 7, 30, 31, 32] (fun (x : Nat × Option Addr × Hp) => [.string (S d), .slice x.2.1 (under (xs.take x.1) d).length (under (xs.take x.1) d).length, .slice a xs.length xs.length, .int .i64 xs.length, .int .i64 x.1]) (fun x => x.2.2)
    (fun x => x.1 ≤ xs.length ∧ ∃ G, Own B 9 strE x.2.2 (under (xs.take x.1) d) x.2.1 G) (fun x => xs.length - x.1) (0, some ⟨H1.length, 0, none⟩, H1 ++ [⟨true, true, 9, []⟩]) ⟨by simp, _, by simpa [under] using o0⟩ (by simp [pickF, under]) rfl ?_
  clear o0 eH1
  rintro ⟨i, b, H⟩ ⟨hi, G, own⟩
  simp only at hi own
  have ex : Ext h H := eh.trans own.ext
  simp [mkF]
  refine asplitK_intro (fun hc => ?_) (fun hc => ?_) <;> simp at hc <;> simp [hc]
  · obtain ⟨o, off, rfl, c0, c1, c2, c3⟩ := itemAt (hx.ext ex) hc
    have hnl : xs[i].path.length ≤ 1048576 := by
      have := sumL_mem Item.nl (List.getElem_mem hc)
      have h2 : xs[i].nl = xs[i].path.length + xs[i].data.length := rfl
      omega
    have hw : IntKind.i64.wrap ((i : Int) + 1) = ((i + 1 : Nat) : Int) := wrap_succ (by omega)
    have ht := under_take xs d i hc
    have hlu := under_len (xs.take i) d
    have hli : (xs.take i).length ≤ i := by simp; omega
    simp [hc, c0, c1, c2, c3]
    refine callK0 (above_impl_c xs[i].path _ hnl) ?_
    rintro _ _ ⟨⟨t3, rfl⟩, rfl⟩
    by_cases he : above xs[i].path = d
    · rw [if_pos he] at ht
      simp [he]
      refine callK0 (last_impl_c xs[i].path _ hnl) ?_
      rintro _ _ ⟨⟨t4, rfl⟩, rfl⟩
      obtain ⟨a', H', F', eq, own'⟩ := (own.to (h' := H ++ (⟨true, true, 78, [.string (S xs[i].path), .int .i64 xs[i].kind, .string (S xs[i].data), .int .i64 xs[i].time]⟩ :: (t3 ++ t4))) ⟨_, rfl⟩).append1 (P := Try.prog) (last xs[i].path) (cs := [.string (S (last xs[i].path))]) rfl (st := 33) (xt := 33) (bt := 16) (z := [.string (S [])]) (by simp) (by simp) (by unfold big; omega) (by unfold big; omega)
      rw [← ht] at own'
      have hlen : (under (xs.take i) d).length + 1 = (under (xs.take (i + 1)) d).length := by rw [ht]; simp
      rw [hlen] at eq
      simp at eq
      simp [eq]
      exact anext (i + 1, a', H') ⟨hc, F', own'⟩ (by simp only; omega) (by simp [pickF, hw]) rfl (by simp)
    · rw [if_neg he, List.append_nil] at ht
      have he' : (above xs[i].path == d) = false := by simpa using he
      simp [he']
      refine anext (i + 1, b, _) ⟨hc, G, ?_⟩ (by simp only; omega) (by simp [pickF, hw, ht]) rfl (by simp)
      rw [ht]
      exact own.to (by simp)
  · obtain rfl : i = xs.length := by omega
    rw [List.take_length] at own ⊢
    simp
    exact ⟨_, own.of_new eh⟩
set_option maxHeartbeats 2000000 in
theorem treeNames_spec_c : ACall Try.prog 20 [.agg #[.slice a xs.length xs.length], .string (S d)] h fun r h' => ∃ b G, r = .slice b (treeNames xs d).length (treeNames xs d).length ∧ Own h 9 strE h' (treeNames xs d) b G := by
  refine acall mixed Try.func20 rfl (by kernel_rfl) ?_
  have hlx : xs.length ≤ 1048576 := by omega
  obtain ⟨B, hB⟩ : ∃ B, B = h ++ [(⟨true, true, 29, [.slice a xs.length xs.length]⟩ : Ob)] := ⟨_, rfl⟩
  have eB : ∀ (T : Hp), Ext B (h ++ ⟨true, true, 29, [.slice a xs.length xs.length]⟩ :: T) := fun T => by rw [hB]; simpa using Ext.push (h ++ [(⟨true, true, 29, [.slice a xs.length xs.length]⟩ : Ob)]) T
  have eh : Ext h B := by rw [hB]; exact Ext.push _ _
  have cB : cellAt B h.length 0 = some (.slice a xs.length xs.length) := by rw [hB]; simp
  have hlB : B.length = h.length + 1 := by rw [hB]; simp
  simp [Try.f20]
  have o0 : Own B 9 strE (h ++ [⟨true, true, 29, [.slice a xs.length xs.length]⟩, ⟨true, true, 9, []⟩]) [] (some ⟨h.length + 1, 0, none⟩) [h.length + 1] := by
    have := Own.lit (h0 := B) (h := B) (e := 9) (A := strE) (xs := []) (css := []) (Fs := []) (Ext.refl B) trivial (by simp) (by simp)
    rw [hlB] at this
    rw [hB] at this ⊢
    simpa using this
  refine callK0 (treeGet_spec_c xs d a F w _ _ (hx.to (by simp)) hlx) ?_
  rintro _ _ ⟨⟨t1, rfl⟩, rfl⟩
  simp [Item.v]
  refine callK0 (treeOk_spec_c xs a F w _ (hx.to (by simp)) hl) ?_
  rintro _ H1 ⟨⟨t2, hH1⟩, rfl⟩
  have eH1 : Ext B H1 := by rw [hH1]; exact (eB _).trans (Ext.push _ _)
  have o1 : Own B 9 strE H1 [] (some ⟨h.length + 1, 0, none⟩) [h.length + 1] := by rw [hH1]; exact o0.to (by simp)
  have hitem : cellAt H1 (h.length + (t1.length + 1 + 1)) 1 = some (.int .i64 (treeGet xs d).1.kind) := by rw [hH1]; simp
  clear hB o0 eB
  simp
  cases e3 : treeOk xs
  · have hf : treeNames xs d = [] := by simp [treeNames, e3]
    rw [hf]
    simp
    exact ⟨_, o1.of_new eh⟩
  simp
  cases e1 : (treeGet xs d).2
  · have hf : treeNames xs d = [] := by simp [treeNames, e1]
    rw [hf]
    simp
    exact ⟨_, o1.of_new eh⟩
  simp [hitem]
  by_cases e2 : (treeGet xs d).1.kind = 2
  rotate_left
  · have hf : treeNames xs d = [] := by simp [treeNames, e2]
    have e2' : ((treeGet xs d).1.kind != 2) = true := by simpa using e2
    rw [hf]
    simp [e2']
    exact ⟨_, o1.of_new eh⟩
  have hf : treeNames xs d = under xs d := by simp [treeNames, e1, e2, e3]
  rw [hf]
  simp [e2]
  refine aloop mixed [1, 2, 5, 8] (fun (x : Nat × Option Addr × Hp) => [.string (S d), .pointer (some ⟨h.length, 0, none⟩), .slice x.2.1 (under (xs.take x.1) d).length (under (xs.take x.1) d).length, .int .i64 x.1]) (fun x => x.2.2)
    (fun x => x.1 ≤ xs.length ∧ ∃ G, Own B 9 strE x.2.2 (under (xs.take x.1) d) x.2.1 G) (fun x => xs.length - x.1) (0, some ⟨h.length + 1, 0, none⟩, H1) ⟨by simp, _, by simpa [under] using o1⟩ (by simp [pickF, under]) rfl ?_
  clear o1 eH1 hitem hH1
  rintro ⟨i, b, H⟩ ⟨hi, G, own⟩
  simp only at hi own
  have ex : Ext h H := eh.trans own.ext
  have cb := cell_up own.ext cB
  simp [mkF, cb]
  refine asplitK_intro (fun hc => ?_) (fun hc => ?_) <;> simp at hc <;> simp [hc]
  · obtain ⟨o, off, rfl, c0, c1, c2, c3⟩ := itemAt (hx.ext ex) hc
    have hnl : xs[i].path.length ≤ 1048576 := by
      have := sumL_mem Item.nl (List.getElem_mem hc)
      have h2 : xs[i].nl = xs[i].path.length + xs[i].data.length := rfl
      omega
    have hw : IntKind.i64.wrap ((i : Int) + 1) = ((i + 1 : Nat) : Int) := wrap_succ (by omega)
    have ht := under_take xs d i hc
    have hlu := under_len (xs.take i) d
    have hli : (xs.take i).length ≤ i := by simp; omega
    simp [hc, cb, c0]
    refine callK0 (above_spec_c xs[i].path _ hnl) ?_
    rintro _ _ ⟨⟨t3, rfl⟩, rfl⟩
    by_cases he : above xs[i].path = d
    · rw [if_pos he] at ht
      simp [he, hc, cell_up (Ext.push H t3) cb, cell_up (Ext.push H t3) c0]
      refine callK0 (last_spec_c xs[i].path _ hnl) ?_
      rintro _ _ ⟨⟨t4, rfl⟩, rfl⟩
      obtain ⟨a', H', F', eq, own'⟩ := (own.to (h' := H ++ (t3 ++ t4)) ⟨_, rfl⟩).append1 (P := Try.prog) (last xs[i].path) (cs := [.string (S (last xs[i].path))]) rfl (st := 33) (xt := 33) (bt := 16) (z := [.string (S [])]) (by simp) (by simp) (by unfold big; omega) (by unfold big; omega)
      rw [← ht] at own'
      have hlen : (under (xs.take i) d).length + 1 = (under (xs.take (i + 1)) d).length := by rw [ht]; simp
      rw [hlen] at eq
      simp at eq
      simp [eq]
      exact anext (i + 1, a', H') ⟨hc, F', own'⟩ (by simp only; omega) (by simp [pickF, hw]) rfl (by simp)
    · rw [if_neg he, List.append_nil] at ht
      have he' : (above xs[i].path == d) = false := by simpa using he
      simp [he']
      refine anext (i + 1, b, _) ⟨hc, G, ?_⟩ (by simp only; omega) (by simp [pickF, hw, ht]) rfl (by simp)
      rw [ht]
      exact own.to (by simp)
  · obtain rfl : i = xs.length := by omega
    rw [List.take_length] at own ⊢
    simp
    exact ⟨_, own.of_new eh⟩
end
end Go.Proofs.Ytoknpbmcpaaalaa.Hz
/- The laws' marks on items. -/
namespace Go.Proofs.Ytoknpbmcpaaalaa.Hz
open Go.RowKit
set_option linter.unusedVariables false
set_option linter.unusedSimpArgs false
set_option maxRecDepth 20000

def mkItems : Nat → Nat → List Item
  | 0, _ => []
  | n + 1, k => ⟨markT k, ((k + 1 : Nat) : Int), markT (k + 2), ((k + 3 : Nat) : Int)⟩ :: mkItems n (k + 4)
theorem mkItems_len : ∀ (n k : Nat), (mkItems n k).length = n
  | 0, _ => rfl
  | n + 1, k => by simp [mkItems, mkItems_len n (k + 4)]
theorem mkItems_get : ∀ (n k j : Nat) (hj : j < (mkItems n k).length), (mkItems n k)[j] = ⟨markT (k + 4 * j), ((k + 4 * j + 1 : Nat) : Int), markT (k + 4 * j + 2), ((k + 4 * j + 3 : Nat) : Int)⟩
  | 0, _, _, hj => by simp [mkItems] at hj
  | n + 1, k, 0, _ => by simp [mkItems]
  | n + 1, k, j + 1, hj => by
    have := mkItems_get n (k + 4) j (by simpa [mkItems] using hj)
    simp only [mkItems, List.getElem_cons_succ, this]
    rw [show k + 4 + 4 * j = k + 4 * (j + 1) by omega]
/-- A field of an own item is turned. -/
theorem Own.itemField {h0 h : Hp} {e : TypeId} {xs : List Item} {o off : Nat} {F : List Nat} (k : Own h0 e itemE h xs (some ⟨o, off, none⟩) F) {i : Nat} (hi : i < xs.length) (x' : Item) (j : Nat) (v : Value) (hj : j < 4) (hv : setL (Item.cs xs[i]) j [v] = Item.cs x') :
    canSet h o (off + i * 4 + j) 1 = true ∧ Own h0 e itemE (setsAt h o (off + i * 4 + j) [v]) (xs.set i x') (some ⟨o, off, none⟩) F := by
  have hF := Own.flatF k
  obtain ⟨h1, F1, h2⟩ := Own.putFlat k hi x' j [v] (by simp; omega) hv
  have hF1 := Own.flatF h2
  rw [hF, ← hF1]
  exact ⟨h1, h2⟩
set_option maxHeartbeats 2000000 in
theorem markItemS_c (es : List Item) (k : Nat) (a : Option Addr) (F : List Nat) (h0 h : Hp) (own : Own h0 78 itemE h es a F) (hk : k + 4 * es.length ≤ 1073741824) :
    ACall Try.prog 73 [.slice a es.length es.length, .int .i64 k] h fun r h' => r = .int .i64 ((k + 4 * es.length : Nat) : Int) ∧ Own h0 78 itemE h' (mkItems es.length k) a F ∧ (∀ q, q < h.length → q ∉ F → h'[q]? = h[q]?) ∧ h.length ≤ h'.length := by
  refine acall mixed Try.func73 rfl (by kernel_rfl) ?_
  have hml := mkItems_len es.length k
  simp [Try.f73]
  refine aloop mixed [0, 1, 5] (fun (x : Nat × Hp) => [.slice a es.length es.length, .int .i64 ((k + 4 * x.1 : Nat) : Int), .int .i64 x.1]) (fun x => x.2) (fun x => x.1 ≤ es.length ∧ Own h0 78 itemE x.2 ((mkItems es.length k).take x.1 ++ es.drop x.1) a F ∧ (∀ q, q < h.length → q ∉ F → x.2[q]? = h[q]?) ∧ h.length ≤ x.2.length) (fun x => es.length - x.1) (0, h) ⟨by simp, by simpa using own, fun _ _ _ => rfl, Nat.le_refl _⟩ (by simp [pickF]) rfl ?_
  rintro ⟨j, H⟩ ⟨hj, oj, keep, hlen⟩
  simp only at hj oj keep hlen
  simp [mkF]
  refine asplitK_intro (fun hb => ?_) (fun hb => ?_) <;> simp at hb <;> simp [hb]
  · have hjl : j < ((mkItems es.length k).take j ++ es.drop j).length := by simp [hml]; omega
    obtain ⟨o, off, rfl, -, -, -, -⟩ := itemAt oj.sl hjl
    obtain ⟨K, hK⟩ : ∃ K : Nat, K = k + 4 * j := ⟨_, rfl⟩
    have wk : (k : Int) + 4 * (j : Int) = (K : Int) := by omega
    rw [wk]
    refine callK0 (markText_c K _ (by omega)) ?_
    rintro _ _ ⟨⟨t, rfl⟩, rfl⟩
    have o1 := oj.grow (Ext.push H t)
    obtain ⟨y, hy⟩ : ∃ y, y = ((mkItems es.length k).take j ++ es.drop j)[j] := ⟨_, rfl⟩
    obtain ⟨hc1, o2⟩ := o1.itemField hjl ⟨markT K, y.kind, y.data, y.time⟩ 0 (.string (S (markT K))) (by omega) (by rw [← hy]; rfl)
    have w1 : IntKind.i64.wrap ((K : Int) + 1) = ((K + 1 : Nat) : Int) := wrap_succ (by omega)
    have w2 : IntKind.i64.wrap (((K + 1 : Nat) : Int) + 1) = ((K + 2 : Nat) : Int) := wrap_succ (by omega)
    have w3 : IntKind.i64.wrap (((K + 2 : Nat) : Int) + 1) = ((K + 3 : Nat) : Int) := wrap_succ (by omega)
    have w4 : IntKind.i64.wrap (((K + 3 : Nat) : Int) + 1) = ((k + 4 * (j + 1) : Nat) : Int) := by rw [wrap_succ (by omega)]; omega
    obtain ⟨hc2, o3⟩ := o2.itemField (by simpa using hjl) ⟨markT K, ((K + 1 : Nat) : Int), y.data, y.time⟩ 1 (.int .i64 ((K + 1 : Nat) : Int)) (by omega) (by simp; rfl)
    simp only [Nat.add_zero] at hc1 hc2 o2 o3
    simp [hb, hc1, hc2, w1, w2, -Int.natCast_add]
    refine callK0 (markText_c (K + 2) _ (by omega)) ?_
    rintro _ _ ⟨⟨t', rfl⟩, rfl⟩
    have o4 := o3.grow (Ext.push _ t')
    obtain ⟨hc3, o5⟩ := o4.itemField (by simpa using hjl) ⟨markT K, ((K + 1 : Nat) : Int), markT (K + 2), y.time⟩ 2 (.string (S (markT (K + 2)))) (by omega) (by simp; rfl)
    obtain ⟨hc4, o6⟩ := o5.itemField (by simpa using hjl) ⟨markT K, ((K + 1 : Nat) : Int), markT (K + 2), ((K + 3 : Nat) : Int)⟩ 3 (.int .i64 ((K + 3 : Nat) : Int)) (by omega) (by simp; rfl)
    simp [hb, hc3, hc4, w3, w4, -Int.natCast_add]
    have hg := mkItems_get es.length k j (by rw [hml]; exact hb)
    rw [← hK] at hg
    rw [List.set_set, List.set_set, List.set_set, ← hg, take_drop_set (by rw [hml]; exact hb) hml] at o6
    refine anext (j + 1, setsAt (setsAt (setsAt (setsAt (H ++ t) o (off + j * 4) [Value.string (S (markT K))]) o (off + j * 4 + 1) [Value.int IntKind.i64 ((K + 1 : Nat) : Int)] ++ t') o (off + j * 4 + 2) [Value.string (S (markT (K + 2)))]) o (off + j * 4 + 3) [Value.int IntKind.i64 ((K + 3 : Nat) : Int)]) ⟨hb, o6, ?_, ?_⟩ (by simp only; omega) (by simp [pickF, wrap_succ (show j < 9223372036854775807 by omega)]) rfl (by simp)
    · intro q hq hm
      have hqo : ¬ (o = q) := fun e => hm (by rw [Own.flatF oj, ← e]; simp)
      simp only
      rw [setsAt_get, if_neg hqo, setsAt_get, if_neg hqo, List.getElem?_append_left (by simp only [setsAt_len, List.length_append]; omega), setsAt_get, if_neg hqo, setsAt_get, if_neg hqo, List.getElem?_append_left (by omega)]
      exact keep q hq hm
    · simp only [setsAt_len, List.length_append]
      omega
  · obtain rfl : j = es.length := by omega
    rw [List.drop_length, List.append_nil, List.take_of_length_le (by omega)] at oj
    exact ⟨by omega, oj, keep, hlen⟩
theorem markTree_c (es : List Item) (k : Nat) (a : Option Addr) (F : List Nat) (h0 h : Hp) (own : Own h0 78 itemE h es a F) (hk : k + 4 * es.length ≤ 1073741824) :
    ACall Try.prog 23 [.agg #[.slice a es.length es.length], .int .i64 k] h fun r h' => r = .int .i64 ((k + 4 * es.length : Nat) : Int) ∧ Own h0 78 itemE h' (mkItems es.length k) a F ∧ (∀ q, q < h.length → q ∉ F → h'[q]? = h[q]?) ∧ h.length ≤ h'.length := by
  refine acall mixed Try.func23 rfl (by kernel_rfl) ?_
  simp [Try.f23]
  refine callK0 (markItemS_c es k a F h0 _ (own.to (by simp)) hk) ?_
  rintro _ H2 ⟨rfl, own2, keep, hlen⟩
  simp
  simp at hlen
  exact ⟨own2, fun q hq hm => by rw [keep q (by simp; omega) hm, List.getElem?_append_left hq], by omega⟩
end Go.Proofs.Ytoknpbmcpaaalaa.Hz
