/- A directory out of its text: both programs. -/
import Derived.Test.YtidkkmkihifeoaaHzGN
import Derived.Test.YtidkkmkihifeoaaHzDL
import Derived.Test.YtidkkmkihifeoaaHzEI
namespace Go.Proofs.Ytidkkmkihifeoaa.Hz
open Go.RowKit
set_option linter.unusedVariables false
set_option linter.unusedSimpArgs false
set_option maxRecDepth 20000

section
variable {P : Program} {α : Type} {h0 h : Hp} {e : TypeId} {xs : List α} {a : Option Addr} {F : List Nat} {n : Nat} {f : α → List Value} {hn : ∀ x, (f x).length = n} {hok : ∀ x, (f x).all okCell = true}
/-- One element more, out of a literal; what is not the slice's own stays. -/
theorem Own.append1K (k : Own h0 e (flatE n f hn hok) h xs a F) (x : α) {cs : List Value} (hx : cs = f x) {st xt : TypeId} {bt : Nat} {z : List Value} (hsl : isSlice P xt = true) (hel : elOf P st = some (e, n, bt, z)) (hs1 : xs.length + 1 ≤ big) (hs2 : (xs.length + 1) * bt ≤ big) :
    ∃ a' h' F', aappend P (h ++ [⟨true, true, e, cs⟩]) st xt (.slice a xs.length xs.length) (.slice (some ⟨h.length, 0, none⟩) 1 1) = some (.slice a' (xs.length + 1) (xs.length + 1), h') ∧ Own h0 e (flatE n f hn hok) h' (xs ++ [x]) a' F' ∧
      (∀ q, q < h.length → q ∉ F → h'[q]? = h[q]?) ∧ (∀ q ∈ F', q ∈ F ∨ h.length ≤ q) := by
  subst hx
  have hl : slR true e (flatE n f hn hok) (h ++ [⟨true, true, e, f x⟩]) [x] (some ⟨h.length, 0, none⟩) [h.length] := by
    have := (Own.lit (h0 := h) (h := h) (e := e) (A := flatE n f hn hok) (xs := [x]) (css := [f x]) (Fs := [[]]) (Ext.refl h) ⟨⟨rfl, rfl⟩, trivial⟩ (by simp) (by simp)).sl
    simpa using this
  obtain ⟨cs, h1, h2, css, Fs, rfl, h4, _⟩ := hl.cells
  have hF := flat_nil h4.flat.2
  obtain ⟨a', h', F', e1, e2, e3, e4, e5, _⟩ := (k.grow (Ext.push h [⟨true, true, e, f x⟩])).append (P := P) (st := st) (xt := xt) (x := .slice (some ⟨h.length, 0, none⟩) 1 1) (css := css) (Fs := Fs) (ys := [x]) (by
    have h1' : cellsAt (h ++ [⟨true, true, e, f x⟩]) h.length 0 (1 * n) = some css.flatten := h1
    show srcOf P _ n xt _ = _
    rw [Nat.one_mul] at h1'
    simp [srcOf, hsl, h1']) h4 hel hs1 hs2 (by rw [hF]; simp) (by rw [hF]; simp)
  refine ⟨a', h', F', e1, e2, fun q hq hm => ?_, fun q hq => ?_⟩
  · rw [e3 q (by simp; omega) hm, List.getElem?_append_left hq]
  · rcases e5 q hq with h | h | h
    · exact .inl h
    · rw [hF] at h; cases h
    · simp at h; exact .inr (by omega)
end

theorem sumL_append {α : Type} (f : α → Nat) : ∀ (xs ys : List α), sumL f (xs ++ ys) = sumL f xs + sumL f ys
  | [], ys => by simp [sumL]
  | x :: xs, ys => by
    have := sumL_append f xs ys
    simp only [List.cons_append, sumL, this]; omega
def scanF (b : Str) : Nat → Nat → List Ent → Option (List Ent)
  | 0, _, _ => none
  | fuel + 1, at_, acc =>
    if b.length ≤ at_ then some acc else
    match getText b at_ with
    | none => none
    | some (s, e) =>
      match getNum b e with
      | none => none
      | some (n, e2) => scanF b fuel e2 (acc ++ [⟨s, (n : Int)⟩])
def dirOf (b : Str) : List Ent × Bool :=
  match scanF b (b.length + 1) 0 [] with
  | none => ([], false)
  | some es => if entriesOk es then (es, true) else ([], false)
theorem getText_bound2 {b s : Str} {at_ e : Nat} (h : getText b at_ = some (s, e)) : at_ + 1 + s.length ≤ e ∧ e ≤ b.length := by
  unfold getText at h
  split at h
  · cases h
  · rename_i n e0 hg
    have hb := getNum_bound hg
    split at h
    · cases h
    · simp only [Option.some.injEq, Prod.mk.injEq] at h
      obtain ⟨rfl, rfl⟩ := h
      simp
      omega
theorem scan_len (b : Str) : ∀ (fuel at_ : Nat) (acc es : List Ent), at_ ≤ b.length → acc.length + sumL Ent.nl acc ≤ at_ → scanF b fuel at_ acc = some es → es.length + sumL Ent.nl es ≤ b.length
  | 0, _, _, _, _, _, h => by cases h
  | fuel + 1, at_, acc, es, h1, h2, h => by
    simp only [scanF] at h
    split at h
    · injection h with h; subst h; omega
    · split at h
      · cases h
      · rename_i s e hg
        have hb := getText_bound2 hg
        split at h
        · cases h
        · rename_i n e2 hn
          have hb2 := getNum_bound hn
          refine scan_len b fuel e2 _ es (by omega) ?_ h
          have : sumL Ent.nl (acc ++ [⟨s, (n : Int)⟩]) = sumL Ent.nl acc + s.length := by
            rw [sumL_append]; simp [sumL, Ent.nl]
          rw [this]; simp; omega
theorem dirOf_len (b : Str) : (dirOf b).1.length ≤ b.length := by
  unfold dirOf
  split
  · simp
  · rename_i es h
    have := scan_len b _ 0 [] es (by omega) (by simp [sumL]) h
    split <;> simp
    omega
/-- What the loop knows. -/
structure ScanI (b : Str) (h : Hp) (at_ : Nat) (acc : List Ent) (a : Option Addr) (H : Hp) : Prop where
  le : at_ ≤ b.length
  sz : acc.length + sumL Ent.nl acc ≤ at_
  scan : ∃ fuel, b.length < at_ + fuel ∧ scanF b fuel at_ acc = scanF b (b.length + 1) 0 []
  own : ∃ F, Own h 66 entE H acc a F ∧ h.length + 1 ∉ F
  bytes : slR true 5 byteE H b (some ⟨h.length + 1, 0, none⟩) [h.length + 1]
theorem ScanI.start (b : Str) (h : Hp) : ScanI b h 0 [] (some ⟨h.length, 0, none⟩) (h ++ [⟨true, true, 66, []⟩, ⟨true, true, 5, bytesL (S b)⟩]) where
  le := by omega
  sz := by simp [sumL]
  scan := ⟨b.length + 1, by omega, rfl⟩
  own := by
    have := (empty1 entE h 66).grow (Ext.push _ [⟨true, true, 5, bytesL (S b)⟩])
    simp only [List.append_assoc, List.cons_append, List.nil_append] at this
    exact ⟨_, this, by simp⟩
  bytes := by
    have := bytesR (h ++ [⟨true, true, 66, []⟩]) 5 b
    simpa using this
theorem ScanI.more {b : Str} {h : Hp} {at_ : Nat} {acc : List Ent} {a : Option Addr} {H : Hp} (k : ScanI b h at_ acc a H) (t : Hp) : ScanI b h at_ acc a (H ++ t) := by
  obtain ⟨k1, k2, k3, ⟨F, k4, k5⟩, k6⟩ := k
  exact ⟨k1, k2, k3, ⟨F, k4.grow (Ext.push _ _), k5⟩, k6.ext (Ext.push _ _)⟩
theorem ScanI.step {b : Str} {h : Hp} {at_ : Nat} {acc : List Ent} {a : Option Addr} {H : Hp} (k : ScanI b h at_ acc a H) (hlt : at_ < b.length) (hbl : b.length ≤ 1048576) {s : Str} {e n e2 : Nat} (h1 : getText b at_ = some (s, e)) (h2 : getNum b e = some (n, e2)) :
    ∃ a' H', aappend Try.prog (H ++ [⟨true, true, 66, [.string (S s), .int .i64 n]⟩]) 24 24 (.slice a acc.length acc.length) (.slice (some ⟨H.length, 0, none⟩) 1 1) = some (.slice a' (acc.length + 1) (acc.length + 1), H') ∧ ScanI b h e2 (acc ++ [⟨s, (n : Int)⟩]) a' H' ∧ at_ < e2 := by
  obtain ⟨k1, k2, ⟨fuel, k3, k3'⟩, ⟨F, k4, k5⟩, k6⟩ := k
  have hb := getText_bound2 h1
  have hb2 := getNum_bound h2
  obtain ⟨a', H', F', eq, own', keep, sub⟩ := k4.append1K (P := Try.prog) ⟨s, (n : Int)⟩ (cs := [.string (S s), .int .i64 n]) rfl (st := 24) (xt := 24) (bt := 24) (z := [.string (S []), .int .i64 0]) (by simp) (by simp) (by unfold big; omega) (by unfold big; omega)
  refine ⟨a', H', eq, ⟨by omega, ?_, ?_, ⟨F', own', fun hm => ?_⟩, k6.frame fun q hq => ?_⟩, by omega⟩
  · have : sumL Ent.nl (acc ++ [⟨s, (n : Int)⟩]) = sumL Ent.nl acc + s.length := by
      rw [sumL_append]; simp [sumL, Ent.nl]
    rw [this]; simp; omega
  · match fuel, k3, k3' with
    | 0, k3, _ => omega
    | fuel + 1, k3, k3' =>
      refine ⟨fuel, by omega, ?_⟩
      rw [← k3']
      have : ¬ (b.length ≤ at_) := by omega
      conv => rhs; unfold scanF
      simp [this, h1, h2]
  · have hl := k6.lt _ (List.mem_cons_self)
    rcases sub _ hm with hh | hh
    · exact k5 hh
    · omega
  · have hq' : q = h.length + 1 := by simpa using hq
    subst hq'
    exact keep _ (k6.lt _ hq) k5
theorem ScanI.done {b : Str} {h : Hp} {at_ : Nat} {acc : List Ent} {a : Option Addr} {H : Hp} (k : ScanI b h at_ acc a H) (hge : b.length ≤ at_) : scanF b (b.length + 1) 0 [] = some acc := by
  obtain ⟨k1, k2, ⟨fuel, k3, k3'⟩, _, _⟩ := k
  rw [← k3']
  match fuel, k3 with
  | 0, k3 => omega
  | fuel + 1, k3 => simp [scanF, hge]
theorem ScanI.fail {b : Str} {h : Hp} {at_ : Nat} {acc : List Ent} {a : Option Addr} {H : Hp} (k : ScanI b h at_ acc a H) (hlt : at_ < b.length) (hf : getText b at_ = none ∨ ∃ s e, getText b at_ = some (s, e) ∧ getNum b e = none) : dirOf b = ([], false) := by
  obtain ⟨k1, k2, ⟨fuel, k3, k3'⟩, _, _⟩ := k
  have : scanF b (b.length + 1) 0 [] = none := by
    rw [← k3']
    have hn : ¬ (b.length ≤ at_) := by omega
    match fuel, k3 with
    | 0, k3 => omega
    | fuel + 1, k3 =>
      rcases hf with hf | ⟨s, e, hf1, hf2⟩
      · simp [scanF, hn, hf]
      · simp [scanF, hn, hf1, hf2]
  simp [dirOf, this]
set_option maxHeartbeats 2000000 in
theorem dirOf_impl_c (b : Str) (h : Hp) (hbl : b.length ≤ 1048576) :
    ACall Try.prog 23 [.string (S b)] h fun r h' => ∃ a' F', r = .tuple #[.slice a' (dirOf b).1.length (dirOf b).1.length, .bool (dirOf b).2] ∧ Own h 66 entE h' (dirOf b).1 a' F' := by
  refine acall mixed Try.func23 rfl (by kernel_rfl) ?_
  have start := ScanI.start b h
  simp [Try.f23]
  refine aloop mixed [4, 5, 6] (fun (x : Nat × List Ent × Option Addr × Hp) => [.slice x.2.2.1 x.2.1.length x.2.1.length, .slice (some ⟨h.length + 1, 0, none⟩) b.length b.length, .int .i64 x.1]) (fun x => x.2.2.2) (fun x => ScanI b h x.1 x.2.1 x.2.2.1 x.2.2.2) (fun x => b.length - x.1) (0, [], some ⟨h.length, 0, none⟩, _) start (by simp [pickF]) rfl ?_
  rintro ⟨at_, acc, a, H⟩ inv
  simp only at inv
  simp [mkF]
  refine asplitK_intro (fun hb => ?_) (fun hb => ?_) <;> simp at hb <;> simp [hb]
  · refine callK0 (getText_impl_c b at_ _ _ true _ H inv.bytes rfl hbl (by omega)) ?_
    rintro _ _ ⟨⟨t1, rfl⟩, rfl⟩
    have inv1 := inv.more t1
    have nil_ : ∀ (t : Hp), ∃ F, Own h 66 entE (H ++ t) [] none F := fun t => by
      obtain ⟨F, k4, _⟩ := inv.own
      exact ⟨_, Own.nil (k4.ext.app _)⟩
    cases hg : getText b at_ with
    | none =>
      have hf := inv.fail hb (.inl hg)
      have hc := getNum_impl_c b 0 _ _ true _ _ inv1.bytes hbl (by omega)
      simp only [Int.natCast_zero, Int.cast_ofNat_Int] at hc
      simp [gtV]
      refine callK0 hc ?_
      rintro _ _ ⟨⟨t2, rfl⟩, rfl⟩
      rw [hf]
      cases hn : getNum b 0 with
      | none =>
        simp [gnV]
        simpa using nil_ (t1 ++ t2)
      | some p =>
        simp [gnV]
        simpa using nil_ (t1 ++ t2)
    | some p =>
      obtain ⟨s, e⟩ := p
      have hb2 := getText_bound2 hg
      simp [gtV]
      refine callK0 (getNum_impl_c b e _ _ true _ _ inv1.bytes hbl (by omega)) ?_
      rintro _ _ ⟨⟨t2, rfl⟩, rfl⟩
      cases hn : getNum b e with
      | none =>
        have hf := inv.fail hb (.inr ⟨s, e, hg, hn⟩)
        rw [hf]
        simp [gnV]
        simpa using nil_ (t1 ++ t2)
      | some p =>
        obtain ⟨n, e2⟩ := p
        obtain ⟨a', H', eq, inv', hlt⟩ := (inv.more (t1 ++ t2)).step hb hbl hg hn
        simp at eq
        simp [gnV, eq]
        exact anext (e2, acc ++ [⟨s, (n : Int)⟩], a', H') inv' (by simp only; have := inv'.le; omega) (by simp [pickF]) rfl (by simp)
  · have hd := inv.done hb
    obtain ⟨F, own, _⟩ := inv.own
    have hsz := inv.sz
    have hle := inv.le
    refine callK0 (entriesOk_impl_c acc a F true H own.sl (by omega) (by omega)) ?_
    rintro _ _ ⟨⟨t1, rfl⟩, rfl⟩
    cases ho : entriesOk acc
    · have hf : dirOf b = ([], false) := by simp [dirOf, hd, ho]
      rw [hf]
      simp
      exact ⟨_, Own.nil (own.ext.app _)⟩
    · have hf : dirOf b = (acc, true) := by simp [dirOf, hd, ho]
      rw [hf]
      simp
      exact ⟨_, own.grow (Ext.push _ _)⟩
set_option maxHeartbeats 2000000 in
theorem dirOf_spec_c (b : Str) (h : Hp) (hbl : b.length ≤ 1048576) :
    ACall Try.prog 22 [.string (S b)] h fun r h' => ∃ a' F', r = .tuple #[.slice a' (dirOf b).1.length (dirOf b).1.length, .bool (dirOf b).2] ∧ Own h 66 entE h' (dirOf b).1 a' F' := by
  refine acall mixed Try.func22 rfl (by kernel_rfl) ?_
  have start := ScanI.start b h
  simp [Try.f22]
  refine aloop mixed [4, 5, 6] (fun (x : Nat × List Ent × Option Addr × Hp) => [.slice x.2.2.1 x.2.1.length x.2.1.length, .slice (some ⟨h.length + 1, 0, none⟩) b.length b.length, .int .i64 x.1]) (fun x => x.2.2.2) (fun x => ScanI b h x.1 x.2.1 x.2.2.1 x.2.2.2) (fun x => b.length - x.1) (0, [], some ⟨h.length, 0, none⟩, _) start (by simp [pickF]) rfl ?_
  rintro ⟨at_, acc, a, H⟩ inv
  simp only at inv
  simp [mkF]
  have nil_ : ∀ (t : Hp), Own h 66 entE (H ++ t ++ [⟨true, true, 66, []⟩]) [] (some ⟨(H ++ t).length, 0, none⟩) [(H ++ t).length] := fun t => by
    obtain ⟨F, k4, _⟩ := inv.own
    exact Own.of_new (k4.ext.app t) (empty1 entE (H ++ t) 66)
  refine asplitK_intro (fun hb => ?_) (fun hb => ?_) <;> simp at hb <;> simp [hb]
  · refine callK0 (getText_spec_c b at_ _ _ true _ H inv.bytes rfl hbl (by omega)) ?_
    rintro _ _ ⟨⟨t1, rfl⟩, rfl⟩
    have inv1 := inv.more t1
    cases hg : getText b at_ with
    | none =>
      have hf := inv.fail hb (.inl hg)
      have hnl := nil_ t1
      simp at hnl
      simp [gtV, hf]
      exact ⟨_, hnl⟩
    | some p =>
      obtain ⟨s, e⟩ := p
      have hb2 := getText_bound2 hg
      simp [gtV]
      refine callK0 (getNum_spec_c b e _ _ true _ _ inv1.bytes hbl (by omega)) ?_
      rintro _ _ ⟨⟨t2, rfl⟩, rfl⟩
      cases hn : getNum b e with
      | none =>
        have hf := inv.fail hb (.inr ⟨s, e, hg, hn⟩)
        have hnl := nil_ (t1 ++ t2)
        simp at hnl
        simp [gnV, hf]
        exact ⟨_, hnl⟩
      | some p =>
        obtain ⟨n, e2⟩ := p
        obtain ⟨a', H', eq, inv', hlt⟩ := (inv.more (t1 ++ t2)).step hb hbl hg hn
        simp at eq
        simp [gnV, eq]
        exact anext (e2, acc ++ [⟨s, (n : Int)⟩], a', H') inv' (by simp only; have := inv'.le; omega) (by simp [pickF]) rfl (by simp)
  · have hd := inv.done hb
    obtain ⟨F, own, _⟩ := inv.own
    have hsz := inv.sz
    have hle := inv.le
    refine callK0 (entriesOk_spec_c acc a F true _ H own.sl (by omega) (by omega)) ?_
    rintro _ _ ⟨⟨t1, rfl⟩, rfl⟩
    cases ho : entriesOk acc
    · have hf : dirOf b = ([], false) := by simp [dirOf, hd, ho]
      have hnl := nil_ t1
      simp at hnl
      rw [hf]
      simp
      exact ⟨_, hnl⟩
    · have hf : dirOf b = (acc, true) := by simp [dirOf, hd, ho]
      rw [hf]
      simp
      exact ⟨_, own.grow (Ext.push _ _)⟩
end Go.Proofs.Ytidkkmkihifeoaa.Hz
