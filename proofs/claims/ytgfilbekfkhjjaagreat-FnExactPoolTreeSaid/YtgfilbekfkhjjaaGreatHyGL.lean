/- Texts of the calculus and of the program's functions, merged: TN MT. -/
import Derived.Test.YtgfilbekfkhjjaaGreatHyGH
import Derived.Test.YtgfilbekfkhjjaaGreatHyGO
import Derived.Test.YtgfilbekfkhjjaaGreatHyGD
import Derived.Test.YtgfilbekfkhjjaaGreatHyGF
/- TreeNames: both programs. -/
namespace Go.Proofs.YtgfilbekfkhjjaaGreat.Hz
open Go.RowKit
set_option linter.unusedVariables false
set_option linter.unusedSimpArgs false
set_option maxRecDepth 20000

def under (xs : List Item) (d : Str) : List Str := (xs.filter fun x => above x.path == d).map fun x => last x.path
def treeNames (xs : List Item) (d : Str) : List Str := if treeOk xs && (treeGet xs d).2 && decide ((treeGet xs d).1.kind = 2) then under xs d else []
theorem under_take (xs : List Item) (d : Str) (i : Nat) (hi : i < xs.length) : under (xs.take (i + 1)) d = under (xs.take i) d ++ (if above xs[i].path = d then [last xs[i].path] else []) := by
  unfold under
  rw [List.take_succ_eq_append_getElem hi, List.filter_append, List.map_append]
  congr 1
  by_cases h : above xs[i].path = d <;> simp [h]
theorem under_len (xs : List Item) (d : Str) : (under xs d).length ≤ xs.length := by unfold under; rw [List.length_map]; exact List.length_filter_le _ _
section
variable (xs : List Item) (d : Str) (a : Option Addr) (F : List Nat) (w : Bool) (h : Hp) (hx : slR w 72 itemE h xs a F) (hl : xs.length + sumL Item.nl xs ≤ 1048576)
include hx hl
end
end Go.Proofs.YtgfilbekfkhjjaaGreat.Hz
/- The laws' marks on items. -/
namespace Go.Proofs.YtgfilbekfkhjjaaGreat.Hz
open Go.RowKit
set_option linter.unusedVariables false
set_option linter.unusedSimpArgs false
set_option maxRecDepth 20000

def mkItems : Nat → Nat → List Item
  | 0, _ => []
  | n + 1, k => ⟨markT k, ((k + 1 : Nat) : Int), markT (k + 2), ((k + 3 : Nat) : Int)⟩ :: mkItems n (k + 4)
theorem mkItems_len : ∀ (n k : Nat), (mkItems n k).length = n
  | 0, _ => rfl
  | n + 1, k => by simp [mkItems, mkItems_len n (k + 4)]
theorem mkItems_get : ∀ (n k j : Nat) (hj : j < (mkItems n k).length), (mkItems n k)[j] = ⟨markT (k + 4 * j), ((k + 4 * j + 1 : Nat) : Int), markT (k + 4 * j + 2), ((k + 4 * j + 3 : Nat) : Int)⟩
  | 0, _, _, hj => by simp [mkItems] at hj
  | n + 1, k, 0, _ => by simp [mkItems]
  | n + 1, k, j + 1, hj => by
    have := mkItems_get n (k + 4) j (by simpa [mkItems] using hj)
    simp only [mkItems, List.getElem_cons_succ, this]
    rw [show k + 4 + 4 * j = k + 4 * (j + 1) by omega]
/-- A field of an own item is turned. -/
theorem Own.itemField {h0 h : Hp} {e : TypeId} {xs : List Item} {o off : Nat} {F : List Nat} (k : Own h0 e itemE h xs (some ⟨o, off, none⟩) F) {i : Nat} (hi : i < xs.length) (x' : Item) (j : Nat) (v : Value) (hj : j < 4) (hv : setL (Item.cs xs[i]) j [v] = Item.cs x') :
    canSet h o (off + i * 4 + j) 1 = true ∧ Own h0 e itemE (setsAt h o (off + i * 4 + j) [v]) (xs.set i x') (some ⟨o, off, none⟩) F := by
  have hF := Own.flatF k
  obtain ⟨h1, F1, h2⟩ := Own.putFlat k hi x' j [v] (by simp; omega) hv
  have hF1 := Own.flatF h2
  rw [hF, ← hF1]
  exact ⟨h1, h2⟩
set_option maxHeartbeats 2000000 in
theorem markItemS_c (es : List Item) (k : Nat) (a : Option Addr) (F : List Nat) (h0 h : Hp) (own : Own h0 72 itemE h es a F) (hk : k + 4 * es.length ≤ 1073741824) :
    ACall Tryz.prog 50 [.slice a es.length es.length, .int .i64 k] h fun r h' => r = .int .i64 ((k + 4 * es.length : Nat) : Int) ∧ Own h0 72 itemE h' (mkItems es.length k) a F ∧ (∀ q, q < h.length → q ∉ F → h'[q]? = h[q]?) ∧ h.length ≤ h'.length := by
  refine acall mixed Tryz.func50 rfl (by kernel_rfl) ?_
  have hml := mkItems_len es.length k
  simp [Tryz.f50]
  refine aloop mixed [0, 1, 5] (fun (x : Nat × Hp) => [.slice a es.length es.length, .int .i64 ((k + 4 * x.1 : Nat) : Int), .int .i64 x.1]) (fun x => x.2) (fun x => x.1 ≤ es.length ∧ Own h0 72 itemE x.2 ((mkItems es.length k).take x.1 ++ es.drop x.1) a F ∧ (∀ q, q < h.length → q ∉ F → x.2[q]? = h[q]?) ∧ h.length ≤ x.2.length) (fun x => es.length - x.1) (0, h) ⟨by simp, by simpa using own, fun _ _ _ => rfl, Nat.le_refl _⟩ (by simp [pickF]) rfl ?_
  rintro ⟨j, H⟩ ⟨hj, oj, keep, hlen⟩
  simp only at hj oj keep hlen
  simp [mkF]
  refine asplitK_intro (fun hb => ?_) (fun hb => ?_) <;> simp at hb <;> simp [hb]
  · have hjl : j < ((mkItems es.length k).take j ++ es.drop j).length := by simp [hml]; omega
    obtain ⟨o, off, rfl, -, -, -, -⟩ := itemAt oj.sl hjl
    obtain ⟨K, hK⟩ : ∃ K : Nat, K = k + 4 * j := ⟨_, rfl⟩
    have wk : (k : Int) + 4 * (j : Int) = (K : Int) := by omega
    rw [wk]
    refine callK0 (markText_c K _ (by omega)) ?_
    rintro _ _ ⟨⟨t, rfl⟩, rfl⟩
    have o1 := oj.grow (Ext.push H t)
    obtain ⟨y, hy⟩ : ∃ y, y = ((mkItems es.length k).take j ++ es.drop j)[j] := ⟨_, rfl⟩
    obtain ⟨hc1, o2⟩ := o1.itemField hjl ⟨markT K, y.kind, y.data, y.time⟩ 0 (.string (S (markT K))) (by omega) (by rw [← hy]; rfl)
    have w1 : IntKind.i64.wrap ((K : Int) + 1) = ((K + 1 : Nat) : Int) := wrap_succ (by omega)
    have w2 : IntKind.i64.wrap (((K + 1 : Nat) : Int) + 1) = ((K + 2 : Nat) : Int) := wrap_succ (by omega)
    have w3 : IntKind.i64.wrap (((K + 2 : Nat) : Int) + 1) = ((K + 3 : Nat) : Int) := wrap_succ (by omega)
    have w4 : IntKind.i64.wrap (((K + 3 : Nat) : Int) + 1) = ((k + 4 * (j + 1) : Nat) : Int) := by rw [wrap_succ (by omega)]; omega
    obtain ⟨hc2, o3⟩ := o2.itemField (by simpa using hjl) ⟨markT K, ((K + 1 : Nat) : Int), y.data, y.time⟩ 1 (.int .i64 ((K + 1 : Nat) : Int)) (by omega) (by simp; rfl)
    simp only [Nat.add_zero] at hc1 hc2 o2 o3
    simp [hb, hc1, hc2, w1, w2, -Int.natCast_add]
    refine callK0 (markText_c (K + 2) _ (by omega)) ?_
    rintro _ _ ⟨⟨t', rfl⟩, rfl⟩
    have o4 := o3.grow (Ext.push _ t')
    obtain ⟨hc3, o5⟩ := o4.itemField (by simpa using hjl) ⟨markT K, ((K + 1 : Nat) : Int), markT (K + 2), y.time⟩ 2 (.string (S (markT (K + 2)))) (by omega) (by simp; rfl)
    obtain ⟨hc4, o6⟩ := o5.itemField (by simpa using hjl) ⟨markT K, ((K + 1 : Nat) : Int), markT (K + 2), ((K + 3 : Nat) : Int)⟩ 3 (.int .i64 ((K + 3 : Nat) : Int)) (by omega) (by simp; rfl)
    simp [hb, hc3, hc4, w3, w4, -Int.natCast_add]
    have hg := mkItems_get es.length k j (by rw [hml]; exact hb)
    rw [← hK] at hg
    rw [List.set_set, List.set_set, List.set_set, ← hg, take_drop_set (by rw [hml]; exact hb) hml] at o6
    refine anext (j + 1, setsAt (setsAt (setsAt (setsAt (H ++ t) o (off + j * 4) [Value.string (S (markT K))]) o (off + j * 4 + 1) [Value.int IntKind.i64 ((K + 1 : Nat) : Int)] ++ t') o (off + j * 4 + 2) [Value.string (S (markT (K + 2)))]) o (off + j * 4 + 3) [Value.int IntKind.i64 ((K + 3 : Nat) : Int)]) ⟨hb, o6, ?_, ?_⟩ (by simp only; omega) (by simp [pickF, wrap_succ (show j < 9223372036854775807 by omega)]) rfl (by simp)
    · intro q hq hm
      have hqo : ¬ (o = q) := fun e => hm (by rw [Own.flatF oj, ← e]; simp)
      simp only
      rw [setsAt_get, if_neg hqo, setsAt_get, if_neg hqo, List.getElem?_append_left (by simp only [setsAt_len, List.length_append]; omega), setsAt_get, if_neg hqo, setsAt_get, if_neg hqo, List.getElem?_append_left (by omega)]
      exact keep q hq hm
    · simp only [setsAt_len, List.length_append]
      omega
  · obtain rfl : j = es.length := by omega
    rw [List.drop_length, List.append_nil, List.take_of_length_le (by omega)] at oj
    exact ⟨by omega, oj, keep, hlen⟩
theorem markTree_c (es : List Item) (k : Nat) (a : Option Addr) (F : List Nat) (h0 h : Hp) (own : Own h0 72 itemE h es a F) (hk : k + 4 * es.length ≤ 1073741824) :
    ACall Tryz.prog 16 [.agg #[.slice a es.length es.length], .int .i64 k] h fun r h' => r = .int .i64 ((k + 4 * es.length : Nat) : Int) ∧ Own h0 72 itemE h' (mkItems es.length k) a F ∧ (∀ q, q < h.length → q ∉ F → h'[q]? = h[q]?) ∧ h.length ≤ h'.length := by
  refine acall mixed Tryz.func16 rfl (by kernel_rfl) ?_
  simp [Tryz.f16]
  refine callK0 (markItemS_c es k a F h0 _ (own.to (by simp)) hk) ?_
  rintro _ H2 ⟨rfl, own2, keep, hlen⟩
  simp
  simp at hlen
  exact ⟨own2, fun q hq hm => by rw [keep q (by simp; omega) hm, List.getElem?_append_left hq], by omega⟩
end Go.Proofs.YtgfilbekfkhjjaaGreat.Hz
