/- Texts of the calculus and of the program's functions, merged: RM WI RN. -/
import Derived.Test.YtkphpalagceobaaGreatHyGP
import Derived.Test.YtkphpalagceobaaGreatHyRT
import Derived.Test.YtkphpalagceobaaGreatHyGM
import Derived.Test.YtkphpalagceobaaGreatHyGI
import Derived.Test.YtkphpalagceobaaGreatHyGF
import Derived.Test.YtkphpalagceobaaGreatHySM
import Derived.Test.YtkphpalagceobaaGreatHyGO
import Derived.Test.YtkphpalagceobaaGreatHyGT
/- Directories that lose an entry. No program in sight. -/
namespace Go.Proofs.YtkphpalagceobaaGreat.Hz
open Go.RowKit
set_option linter.unusedVariables false
set_option linter.unusedSimpArgs false
set_option maxRecDepth 20000
theorem scan_len2 (b : Str) : ∀ (fuel at_ : Nat) (acc es : List Ent), at_ ≤ b.length → 2 * acc.length + sumL Ent.nl acc ≤ at_ → scanF b fuel at_ acc = some es → 2 * es.length + sumL Ent.nl es ≤ b.length
  | 0, _, _, _, _, _, h => by cases h
  | fuel + 1, at_, acc, es, h1, h2, h => by
    simp only [scanF] at h
    split at h
    · injection h with h; subst h; omega
    · split at h
      · cases h
      · rename_i s e hg
        have hb := getText_bound2 hg
        split at h
        · cases h
        · rename_i n e2 hn
          have hb2 := getNum_bound hn
          refine scan_len2 b fuel e2 _ es (by omega) ?_ h
          have : sumL Ent.nl (acc ++ [⟨s, (n : Int)⟩]) = sumL Ent.nl acc + s.length := by
            rw [sumL_append]; simp [sumL, Ent.nl]
          rw [this]; simp; omega
theorem dirText_two : ∀ es : List Ent, (∀ e ∈ es, e.name.length ≤ 6 ∧ 1 ≤ e.node ∧ e.node ≤ 9) → (dirText es).length = 2 * es.length + sumL Ent.nl es
  | [], _ => rfl
  | e :: es, h => by
    have ih := dirText_two es fun x hx => h x (by simp [hx])
    have h0 := h e (by simp)
    have e1 : (dirText (e :: es)).length = (entTxt e).length + (dirText es).length := by simp [dirText, catL]
    have e2 : (entTxt e).length = 2 + e.nl := by
      simp only [entTxt, putText]
      rw [putNum_small (by omega) (by omega), putNum_small (by omega) (by omega)]
      simp [Ent.nl]; omega
    have e3 : sumL Ent.nl (e :: es) = e.nl + sumL Ent.nl es := rfl
    rw [e1, e2, ih, e3]
    simp only [List.length_cons]; omega
def Ord (es : List Ent) : Prop := es.Pairwise fun x y => Op.bytesLess x.name y.name = true ∧ x.node ≠ y.node
theorem ok_nodes (es : List Ent) : ∀ (l pre : List Ent), es = pre ++ l → okFrom es l pre.length = true → (l.Pairwise fun x y => x.node ≠ y.node) ∧ ∀ x ∈ pre, ∀ y ∈ l, x.node ≠ y.node
  | [], pre, _, _ => ⟨List.Pairwise.nil, by simp⟩
  | e :: r, pre, he, h => by
    simp only [okFrom, Bool.and_eq_true] at h
    obtain ⟨i1, i2⟩ := ok_nodes es r (pre ++ [e]) (by rw [he]; simp) (by
      simp only [List.length_append, List.length_singleton]
      exact h.2)
    have h1 := h.1
    simp only [okAt, Bool.and_eq_true, List.all_eq_true] at h1
    have ht : es.take pre.length = pre := by rw [he]; exact List.take_left' rfl
    rw [ht] at h1
    have hp : ∀ x ∈ pre, x.node ≠ e.node := fun x hx => by simpa using h1.2 x hx
    refine ⟨List.pairwise_cons.2 ⟨fun y hy => i2 e (by simp) y hy, i1⟩, fun x hx y hy => ?_⟩
    rcases List.mem_cons.1 hy with rfl | hy
    · exact hp x hx
    · exact i2 x (by simp [hx]) y hy
theorem adj_less : ∀ {es : List Ent}, adj es = true → es.Pairwise fun x y => Op.bytesLess x.name y.name = true
  | [], _ => List.Pairwise.nil
  | e :: r, h => List.pairwise_cons.2 ⟨adj_least e r h, adj_less (by
      cases r with
      | nil => rfl
      | cons e' r =>
        simp only [adj, Bool.and_eq_true] at h
        exact h.2)⟩
theorem ok_ord {es : List Ent} (h : entriesOk es = true) : Ord es := by
  have h1 := adj_less (entriesOk_adj h)
  simp only [entriesOk, Bool.and_eq_true] at h
  have h2 := (ok_nodes es es [] rfl h.1).1
  exact h1.and h2
theorem ok_all {es : List Ent} (h : entriesOk es = true) : ∀ e ∈ es, nameH e.name = true ∧ 1 ≤ e.node ∧ e.node ≤ 9 := by
  simp only [entriesOk, Bool.and_eq_true] at h
  exact fun e he => ⟨okFrom_names es es 0 h.1 e he, okFrom_nodes es es 0 h.1 e he⟩
theorem dirI_two {f : Fs} {i : Int} (h : (dirI f i).2 = true) : entriesOk (dirI f i).1 = true ∧ (dirText (dirI f i).1).length ≤ (contentI f i).length := by
  unfold dirI at h ⊢
  generalize contentI f i = b at h ⊢
  unfold dirOf at h ⊢
  cases hs : scanF b (b.length + 1) 0 [] with
  | none => rw [hs] at h; cases h
  | some es =>
    rw [hs] at h
    simp only at h ⊢
    split at h
    · rename_i hk
      rw [if_pos hk]
      have ha := ok_all hk
      have h1 := dirText_two es fun e he => ⟨nameH_le (ha e he).1, (ha e he).2⟩
      have h2 := scan_len2 b _ 0 [] es (by omega) (by simp [sumL]) hs
      exact ⟨hk, by simp only; omega⟩
    · cases h
end Go.Proofs.YtkphpalagceobaaGreat.Hz
/- A path within another: both programs. -/
namespace Go.Proofs.YtkphpalagceobaaGreat.Hz
open Go.RowKit
set_option linter.unusedVariables false
set_option linter.unusedSimpArgs false
set_option maxRecDepth 20000
theorem parts_join : ∀ (p h : Str) (t : List Str), parts 47 p = h :: t → p = h ++ rawP t
  | [], h, t, e => by
    simp [parts] at e
    obtain ⟨rfl, rfl⟩ := e
    rfl
  | c :: cs, h, t, e => by
    unfold parts at e
    obtain ⟨h', t', e'⟩ : ∃ h' t', parts 47 cs = h' :: t' := by
      cases hp : parts 47 cs with
      | nil => exact absurd hp (parts_ne 47 cs)
      | cons a b => exact ⟨a, b, rfl⟩
    have ih := parts_join cs h' t' e'
    split at e
    · rename_i hc
      subst hc
      rw [e'] at e
      simp at e
      obtain ⟨rfl, rfl⟩ := e
      rw [ih]
      rfl
    · rw [e'] at e
      simp [headCons] at e
      obtain ⟨rfl, rfl⟩ := e
      rw [ih]
      rfl
theorem path_raw {p : Str} (h : pathOk p = true) (hr : p ≠ [47]) : p = rawP (names p) := by
  have hg : pathGood p = true := by simpa [pathOk, hr] using h
  rw [names, if_neg hr, if_pos hg]
  simp only [pathGood, Bool.and_eq_true] at hg
  have h1 := hg.1.1
  cases hp : parts 47 p with
  | nil => exact absurd hp (parts_ne 47 p)
  | cons a t =>
    rw [hp] at h1
    simp at h1
    subst h1
    have := parts_join p [] t hp
    simpa using this
theorem name_no47 {n : Str} (h : nameOk n = true) : ∀ c ∈ n, c ≠ 47 := by
  intro c hc e
  simp only [nameOk, Bool.and_eq_true, List.all_eq_true] at h
  have := h.2 c hc
  subst e
  revert this
  decide
theorem word_pre : ∀ (x y : Str) (s r : Str), (∀ c ∈ x, c ≠ 47) → (∀ c ∈ y, c ≠ 47) → (r = [] ∨ ∃ r', r = 47 :: r') → ((x ++ 47 :: s) <+: (y ++ r) ↔ x = y ∧ (47 :: s) <+: r)
  | [], [], s, r, _, _, _ => by simp
  | [], d :: y, s, r, _, hy, _ => by
    have := hy d (by simp)
    simp only [List.nil_append, List.cons_append, List.cons_prefix_cons]
    constructor
    · intro h; exact absurd h.1.symm this
    · intro h; cases h.1
  | c :: x, [], s, r, hx, _, hr => by
    have := hx c (by simp)
    rcases hr with rfl | ⟨r', rfl⟩
    · simp
    · simp only [List.nil_append, List.cons_append, List.cons_prefix_cons]
      constructor
      · intro h; exact absurd h.1 this
      · intro h; cases h.1
  | c :: x, d :: y, s, r, hx, hy, hr => by
    simp only [List.cons_append, List.cons_prefix_cons, List.cons.injEq]
    rw [word_pre x y s r (fun c hc => hx c (by simp [hc])) (fun c hc => hy c (by simp [hc])) hr, and_assoc]
theorem raw_head : ∀ l : List Str, rawP l = [] ∨ ∃ r', rawP l = 47 :: r'
  | [] => .inl rfl
  | x :: xs => .inr ⟨_, rfl⟩
theorem raw_pre : ∀ (nb na : List Str), (∀ n ∈ nb, nameOk n = true) → (∀ n ∈ na, nameOk n = true) → ((rawP nb ++ [47]) <+: rawP na ↔ nb.length < na.length ∧ na.take nb.length = nb)
  | [], [], _, _ => by simp [rawP]
  | [], y :: ys, _, _ => by simp [rawP]
  | x :: xs, [], _, _ => by simp [rawP]
  | x :: xs, y :: ys, hb, ha => by
    obtain ⟨s, hs⟩ : ∃ s, rawP xs ++ [47] = 47 :: s := by
      rcases raw_head xs with h | ⟨r', h⟩
      · exact ⟨[], by rw [h]; rfl⟩
      · exact ⟨r' ++ [47], by rw [h]; rfl⟩
    have ih := raw_pre xs ys (fun n hn => hb n (by simp [hn])) (fun n hn => ha n (by simp [hn]))
    have e1 : rawP (x :: xs) ++ [47] = 47 :: (x ++ 47 :: s) := by rw [← hs]; simp [rawP]
    have e2 : rawP (y :: ys) = 47 :: (y ++ rawP ys) := rfl
    rw [e1, e2, List.cons_prefix_cons, word_pre x y s (rawP ys) (name_no47 (hb x (by simp))) (name_no47 (ha y (by simp))) (raw_head ys), ← hs, ih]
    simp
    constructor
    · rintro ⟨rfl, h1, h2⟩; exact ⟨h1, rfl, h2⟩
    · rintro ⟨h1, rfl, h2⟩; exact ⟨rfl, h1, h2⟩
def within (a b : Str) : Bool := pathOk a && pathOk b && (decide ((names b).length ≤ (names a).length) && decide ((names a).take (names b).length = names b))
theorem within_impl {a b : Str} (ha : pathOk a = true) (hb : pathOk b = true) : within a b = (a == b || (b == [47] || (b ++ [47]).isPrefixOf a)) := by
  rw [Bool.eq_iff_iff]
  simp only [within, ha, hb, Bool.true_and, Bool.and_eq_true, decide_eq_true_eq, Bool.or_eq_true, beq_iff_eq, List.isPrefixOf_iff_prefix]
  have na : ∀ n ∈ names a, nameOk n = true := fun n hn => names_mem hn
  have nb : ∀ n ∈ names b, nameOk n = true := fun n hn => names_mem hn
  constructor
  · rintro ⟨h1, h2⟩
    by_cases eb : b = [47]
    · exact .inr (.inl eb)
    by_cases ea : a = [47]
    · have := names_pos hb eb
      rw [ea] at h1
      have e0 : names [47] = [] := rfl
      rw [e0] at h1
      simp at h1
      rw [h1] at this; cases this
    by_cases hl : (names b).length < (names a).length
    · right; right
      have h3 := (raw_pre _ _ nb na).2 ⟨hl, h2⟩
      rw [← path_raw hb eb, ← path_raw ha ea] at h3
      exact h3
    · left
      have : names a = names b := by rw [← h2, List.take_of_length_le (by omega)]
      rw [path_raw ha ea, path_raw hb eb, this]
  · rintro (rfl | rfl | h)
    · exact ⟨Nat.le_refl _, List.take_length⟩
    · have e0 : names [47] = [] := rfl
      rw [e0]; simp
    · by_cases eb : b = [47]
      · subst eb
        have e0 : names [47] = [] := rfl
        rw [e0]; simp
      by_cases ea : a = [47]
      · subst ea
        have := h.length_le
        simp at this
        rw [this] at hb
        exact absurd hb (by decide)
      rw [path_raw hb eb, path_raw ha ea] at h
      have := (raw_pre _ _ nb na).1 h
      exact ⟨by omega, this.2⟩
theorem pre_take (a b : Str) : (a.take b.length == b) = b.isPrefixOf a := by
  rw [Bool.eq_iff_iff]
  simp only [beq_iff_eq, List.isPrefixOf_iff_prefix]
  rw [List.prefix_iff_eq_take]
  exact eq_comm
theorem hasPrefixL_c (a b : Str) (h : Hp) (ha : a.length ≤ 9000000) (hb : b.length ≤ 9000000) : ACall Tryz.prog 166 [.string (S a), .string (S b)] h fun r h' => h' = h ∧ r = .bool (b.isPrefixOf a) := by
  refine acall mixed Tryz.func166 rfl (by kernel_rfl) ?_
  simp [Tryz.f166]
  by_cases hl : b.length ≤ a.length
  · simp [hl]
    exact pre_take a b
  · simp [hl]
    cases e : b.isPrefixOf a
    · rfl
    · exact absurd (List.isPrefixOf_iff_prefix.1 e).length_le hl
theorem hasPrefix_c (a b : Str) (h : Hp) (ha : a.length ≤ 9000000) (hb : b.length ≤ 9000000) : ACall Tryz.prog 115 [.string (S a), .string (S b)] h fun r h' => h' = h ∧ r = .bool (b.isPrefixOf a) := by
  refine acall mixed Tryz.func115 rfl (by kernel_rfl) ?_
  simp [Tryz.f115]
  refine callK0 (hasPrefixL_c a b h ha hb) ?_
  rintro _ _ ⟨rfl, rfl⟩
  simp
theorem withinP_impl_c (a b : Str) (h : Hp) (ha : a.length ≤ 1048576) (hb : b.length ≤ 1048576) : ACall Tryz.prog 52 [.string (S a), .string (S b)] h fun r h' => (∃ t, h' = h ++ t) ∧ r = .bool (within a b) := by
  refine acall mixed Tryz.func52 rfl (by kernel_rfl) ?_
  simp [Tryz.f52]
  refine callK0 (pathOk_impl_c a h ha) ?_
  rintro _ _ ⟨⟨t1, rfl⟩, rfl⟩
  cases e1 : pathOk a
  · simp [within, e1]
  simp
  refine callK0 (pathOk_impl_c b _ hb) ?_
  rintro _ _ ⟨⟨t2, rfl⟩, rfl⟩
  cases e2 : pathOk b
  · simp [within, e1, e2]
  rw [within_impl e1 e2]
  simp
  by_cases e3 : a = b
  · simp [e3]
  have e3' : (a == b) = false := by simpa using e3
  by_cases e4 : b = [47]
  · subst e4
    simp [e3']
  have e4' : (b == [47]) = false := by simpa using e4
  have hbb : b.length ≤ 9223372036854775806 := by omega
  simp [e3', e4', hbb]
  refine callK0 (hasPrefix_c a (b ++ [47]) _ (by omega) (by simp; omega)) ?_
  rintro _ _ ⟨rfl, rfl⟩
  simp
end Go.Proofs.YtkphpalagceobaaGreat.Hz
/- FsRename: what it gives. No program in sight. -/
namespace Go.Proofs.YtkphpalagceobaaGreat.Hz
open Go.RowKit
set_option linter.unusedVariables false
set_option linter.unusedSimpArgs false
set_option maxRecDepth 20000
end Go.Proofs.YtkphpalagceobaaGreat.Hz
