/- A region that draws its order: the whole. And the calculus over code. -/
import Derived.Test.YtidkkmkihifeoaaHzJ
import Derived.Eval
namespace Go.Proofs.Ytidkkmkihifeoaa.Hz
open Go.RowKit
set_option linter.unusedVariables false
set_option linter.unusedSimpArgs false

section
variable {P : Program} {ops : Array Oper} {tm : List Value} {h : Hp}

/-- What an operation looks at is as it was. -/
structure Inv (ops : Array Oper) (P : Program) (o : Oper) (tm0 : List Value) (h0 : Hp) (tm : List Value) (h : Hp) : Prop where
  op : ∀ x ∈ o.op.operands, ev tm x = ev tm0 x
  gd : ∀ j want, o.guard = some (j, want) → gslot ops tm j = gslot ops tm0 j
  ex : kdOf P o.op = .load → Ext h0 h
theorem Inv.refl (o : Oper) : Inv ops P o tm h tm h := ⟨fun _ _ => rfl, fun _ _ _ => rfl, fun _ => Ext.refl h⟩
theorem Inv.step {x y : Oper} {wj wi : Bool} {tm0 : List Value} {h0 h' : Hp} {v : Value} (I : Inv ops P y tm0 h0 tm h) (hi : indep P ops wj wi x y = true) (ho : Out P wj x h h') : Inv ops P y tm0 h0 (put tm x.dst v) h' := by
  have hi0 := hi
  unfold indep at hi
  simp only [Bool.and_eq_true, Bool.or_eq_true] at hi
  obtain ⟨⟨hap, _⟩, hk⟩ := hi
  obtain ⟨a1, a2, a3⟩ := Oper.apart_spec hap
  refine ⟨fun z hz => (ev_apart a1 z hz).trans (I.op z hz), fun j want hg => (gslot_apart a1 hg).trans (I.gd j want hg), fun hl => (I.ex hl).trans ?_⟩
  rw [hl] at hk
  unfold Out at ho
  cases hx : kdOf P x.op with
  | pure => rw [hx] at ho; simp only at ho; rw [ho]; exact Ext.refl h
  | load => rw [hx] at ho; simp only at ho; rw [ho]; exact Ext.refl h
  | weak => rw [hx] at ho; exact ho
  | strong => rw [hx] at hk; simp at hk
  | call => rw [hx] at hk ho; simp at hk; exact ho hk
theorem Inv.val {y : Oper} {tm0 : List Value} {h0 : Hp} (I : Inv ops P y tm0 h0 tm h) (hv : ∀ x, VA h0 (ev tm0 x)) : val P ops y tm h = val P ops y tm0 h0 := by
  have hr : raw P y tm h = raw P y tm0 h0 := by
    unfold raw
    split
    · exact qev_congr y.op I.op
    · rename_i hk
      rw [lev_congr y.op I.op, lev_ext (I.ex hk) y.op fun x _ => hv x]
    · rfl
  unfold Hz.val
  rw [hr]
  split
  · rfl
  · rename_i j want hg
    rw [I.gd j want hg]

theorem aop_told {wk : Bool} {o : Oper} {K : List Value → Hp → Prop} {B : Nat} {w0 w : World} {φ : Inj} {a : Act} (R : RelSt P B w0 φ tm h a w) (k : aop P wk o tm h K) : ∃ v h', Out P wk o h h' ∧ Told P (put tm o.dst v) h' ∧ K (put tm o.dst v) h' := by
  have k2 : aop P wk o tm h (fun tm' h' => ∃ v, Out P wk o h h' ∧ tm' = put tm o.dst v ∧ K tm' h') := aop_out (fun v h' ho hk => ⟨v, ho, rfl, hk⟩) k
  have s := aop_sound k2 R (fun _ _ _ => False)
  have fin : ∀ a' w', (∃ φ' tm' h', φ <+: φ' ∧ RelSt P B w0 φ' tm' h' a' w' ∧ ∃ v, Out P wk o h h' ∧ tm' = put tm o.dst v ∧ K tm' h') → ∃ v h', Out P wk o h h' ∧ Told P (put tm o.dst v) h' ∧ K (put tm o.dst v) h' := by
    rintro a' w' ⟨φ', tm', h', _, r, v, p1, rfl, p2⟩
    exact ⟨v, h', p1, ⟨B, w0, φ', a', w', r⟩, p2⟩
  unfold Oper.wp Oper.upon at s
  split at s
  · exact fin _ _ s
  · exact fin _ _ s
  · exact fin _ _ s
  · obtain ⟨e, w', fr, hR, _⟩ := s []
    cases e with
    | returned v => exact fin _ _ hR
    | panicked c => exact hR.elim
    | outgrown => obtain ⟨_, _, hh⟩ := hR; exact hh.elim
  · obtain ⟨v, w', hR, _⟩ := s default []
    exact fin _ _ hR
  · exact s.elim
  · exact s.elim
theorem astep_told {wk : Bool} {o : Oper} {K : List Value → Hp → Prop} (ht : Told P tm h) (k : astep P ops wk o tm h K) : ∃ v h', Out P wk o h h' ∧ Told P (put tm o.dst v) h' ∧ K (put tm o.dst v) h' := by
  obtain ⟨B, w0, φ, a, w, R⟩ := ht
  have skip : K (put tm o.dst undef) h → ∃ v h', Out P wk o h h' ∧ Told P (put tm o.dst v) h' ∧ K (put tm o.dst v) h' :=
    fun hk => ⟨_, _, out_refl, ⟨B, w0, φ, _, w, R.put o.dst (List.prefix_refl _) R.hp (relV_undef φ)⟩, hk⟩
  unfold astep at k
  split at k
  · exact aop_told R k
  · split at k
    · rename_i j want hg s b hb
      cases hbw : (b == want) with
      | true => exact aop_told R (k.1 hbw)
      | false => exact skip (k.2 hbw)
    · split at k
      · exact skip k
      · exact k.elim
    · exact k.elim
theorem Told.va (ht : Told P tm h) (x : Operand) : VA h (ev tm x) := by
  obtain ⟨B, w0, φ, a, w, R⟩ := ht
  exact R.va x

/-- All of a list are independent of one. -/
def AllIndep (P : Program) (ops : Array Oper) (wk : Nat → Bool) (i : Nat) (o : Oper) (l : List Nat) : Prop := ∀ j ∈ l, ∃ oj, ops[j]? = some oj ∧ indep P ops (wk j) (wk i) oj o = true
theorem AllIndep.tail {wk : Nat → Bool} {i j : Nat} {o : Oper} {l : List Nat} (k : AllIndep P ops wk i o (j :: l)) : AllIndep P ops wk i o l := fun x hx => k x (by simp [hx])

theorem early_calm {wk : Nat → Bool} {i : Nat} {oi : Oper} {r2 : List Nat} {K : List Value → Hp → Prop} {tm0 : List Value} {h0 : Hp} {v : Value} (hi : ops[i]? = some oi) (hc : calm P oi = true) (hv : ∀ x, VA h0 (ev tm0 x)) (hval : val P ops oi tm0 h0 = some v) :
    ∀ (r1 : List Nat) (tm : List Value) (h : Hp), AllIndep P ops wk i oi r1 → Inv ops P oi tm0 h0 tm h → aops P ops wk (r1 ++ i :: r2) tm h K → aops P ops wk (r1 ++ r2) (put tm oi.dst v) h K
  | [], tm, h, _, I, k => by
    simp only [List.nil_append] at k ⊢
    unfold aops at k
    simp only [hi] at k
    obtain ⟨v', h1, h2⟩ := (astep_calm hc _).1 k
    rw [I.val hv, hval] at h1
    injection h1 with h1
    subst h1
    exact h2
  | j :: r1, tm, h, hall, I, k => by
    obtain ⟨oj, hj, hind⟩ := hall j (by simp)
    simp only [List.cons_append] at k ⊢
    unfold aops at k ⊢
    simp only [hj] at k ⊢
    have hap := hind
    unfold indep at hap
    simp only [Bool.and_eq_true] at hap
    obtain ⟨a1, a2, a3⟩ := Oper.apart_spec hap.1.1
    rw [astep_apart a3 fun d hd hx => a2 d hx hd]
    exact astep_out (fun u h1 ho hh => early_calm hi hc hv hval r1 _ h1 hall.tail (I.step hind ho) hh) k
theorem calm_some {wk : Nat → Bool} {i : Nat} {oi : Oper} {r2 : List Nat} {K : List Value → Hp → Prop} {tm0 : List Value} {h0 : Hp} (hi : ops[i]? = some oi) (hc : calm P oi = true) (hv : ∀ x, VA h0 (ev tm0 x)) :
    ∀ (r1 : List Nat) (tm : List Value) (h : Hp), AllIndep P ops wk i oi r1 → Inv ops P oi tm0 h0 tm h → Told P tm h → aops P ops wk (r1 ++ i :: r2) tm h K → ∃ v, val P ops oi tm0 h0 = some v
  | [], tm, h, _, I, _, k => by
    simp only [List.nil_append] at k
    unfold aops at k
    simp only [hi] at k
    obtain ⟨v', h1, _⟩ := (astep_calm hc _).1 k
    rw [I.val hv] at h1
    exact ⟨v', h1⟩
  | j :: r1, tm, h, hall, I, ht, k => by
    obtain ⟨oj, hj, hind⟩ := hall j (by simp)
    simp only [List.cons_append] at k
    unfold aops at k
    simp only [hj] at k
    obtain ⟨u, h1, ho, ht1, hk⟩ := astep_told ht k
    exact calm_some hi hc hv r1 _ h1 hall.tail (I.step hind ho) ht1 hk
theorem early_busy {wk : Nat → Bool} {i : Nat} {oi : Oper} {r2 : List Nat} {K : List Value → Hp → Prop} (hi : ops[i]? = some oi) (hb : calm P oi = false) :
    ∀ (r1 : List Nat) (tm : List Value) (h : Hp), AllIndep P ops wk i oi r1 → Told P tm h → aops P ops wk (r1 ++ i :: r2) tm h K → astep P ops (wk i) oi tm h fun tm1 h1 => aops P ops wk (r1 ++ r2) tm1 h1 K
  | [], tm, h, _, _, k => by
    simp only [List.nil_append] at k ⊢
    unfold aops at k
    simp only [hi] at k
    exact k
  | j :: r1, tm, h, hall, ht, k => by
    obtain ⟨oj, hj, hind⟩ := hall j (by simp)
    have hap := hind
    unfold indep at hap
    simp only [Bool.and_eq_true, Bool.or_eq_true] at hap
    obtain ⟨a1, a2, a3⟩ := Oper.apart_spec hap.1.1
    have hcj : calm P oj = true := hap.1.2.resolve_right (by rw [hb]; simp)
    simp only [List.cons_append] at k ⊢
    unfold aops at k
    simp only [hj] at k
    obtain ⟨u, h1, ho, ht1, hk1⟩ := astep_told ht k
    obtain ⟨vj, hval, hk⟩ := (astep_calm hcj _).1 k
    -- the state behind j is told
    have ht2 : Told P (put tm oj.dst vj) h := by
      have k3 : astep P ops (wk j) oj tm h (fun tm' h' => tm' = put tm oj.dst vj ∧ h' = h) := (astep_calm hcj _).2 ⟨vj, hval, rfl, rfl⟩
      obtain ⟨_, _, _, ht3, e1, e2⟩ := astep_told ht k3
      rw [e1, e2] at ht3
      exact ht3
    have ih := early_busy hi hb r1 _ h hall.tail ht2 hk
    rw [astep_apart a1 a2] at ih
    refine astep_out (fun u h2 ho2 hh => ?_) ih
    unfold aops
    simp only [hj]
    refine (astep_calm hcj _).2 ⟨vj, ?_, hh⟩
    rw [val_apart a3, val_out' hind hcj ho2 (ht.va), hval]

/-! ### Before which operations does one stand? -/
inductive Pre (ops : Array Oper) : Nat → Nat → Prop where
  | edge {i : Nat} {o : Oper} {e : Edge} (h : ops[i]? = some o) (he : e ∈ o.after) (hb : Region.binds .any e = true) : Pre ops e.on i
  | step {i j : Nat} {o : Oper} {e : Edge} (h : ops[i]? = some o) (he : e ∈ o.after) (hb : Region.binds .any e = true) (k : Pre ops j e.on) : Pre ops j i
def mask (acc : List Nat) (s : Nat) : List Edge → Nat
  | [] => s
  | e :: es => if Region.binds .any e then mask acc (s ||| 2 ^ e.on ||| acc.getD e.on 0) es else mask acc s es
def befs : List Oper → List Nat → List Nat
  | [], acc => acc
  | o :: os, acc => befs os (acc ++ [mask acc 0 o.after.toList])
theorem mask_spec {acc : List Nat} {j : Nat} : ∀ (es : List Edge) (s : Nat), (mask acc s es).testBit j = true → s.testBit j = true ∨ ∃ e ∈ es, Region.binds .any e = true ∧ (e.on = j ∨ (acc.getD e.on 0).testBit j = true)
  | [], s, k => .inl k
  | e :: es, s, k => by
    unfold mask at k
    split at k
    · rename_i hb
      rcases mask_spec es _ k with h | ⟨e', h1, h2⟩
      · simp only [Nat.testBit_or, Bool.or_eq_true] at h
        rcases h with (h | h) | h
        · exact .inl h
        · rw [Nat.testBit_two_pow] at h
          exact .inr ⟨e, by simp, hb, .inl (by simpa using h)⟩
        · exact .inr ⟨e, by simp, hb, .inr h⟩
      · exact .inr ⟨e', by simp [h1], h2⟩
    · rcases mask_spec es _ k with h | ⟨e', h1, h2⟩
      · exact .inl h
      · exact .inr ⟨e', by simp [h1], h2⟩
theorem befs_spec : ∀ (os : List Oper) (acc : List Nat), ops.toList.drop acc.length = os → (∀ i m, acc[i]? = some m → ∀ j, m.testBit j = true → Pre ops j i) → ∀ i m, (befs os acc)[i]? = some m → ∀ j, m.testBit j = true → Pre ops j i
  | [], acc, _, ha, i, m, k, j, hj => ha i m k j hj
  | o :: os, acc, hd, ha, i, m, k, j, hj => by
    have ho : ops[acc.length]? = some o := by
      have := congrArg (fun l => l[0]?) hd
      simpa using this
    refine befs_spec os (acc ++ [mask acc 0 o.after.toList]) ?_ ?_ i m k j hj
    · have := congrArg (List.drop 1) hd
      simpa [List.drop_drop, Nat.add_comm] using this
    · intro i m hm j hj
      by_cases hlt : i < acc.length
      · rw [List.getElem?_append_left hlt] at hm
        exact ha i m hm j hj
      · have h1 : i = acc.length := by
          have := (List.getElem?_eq_some_iff.1 hm).1
          simp at this; omega
        subst h1
        rw [List.getElem?_append_right (Nat.le_refl _)] at hm
        simp at hm
        subst hm
        rcases mask_spec _ _ hj with h | ⟨e, he, hb, h⟩
        · simp at h
        · have he' : e ∈ o.after := by simpa using he
          rcases h with rfl | h
          · exact .edge ho he' hb
          · cases hx : acc[e.on]? with
            | none => rw [List.getD_eq_getElem?_getD, hx] at h; simp at h
            | some m' =>
              rw [List.getD_eq_getElem?_getD, hx] at h
              exact .step ho he' hb (ha e.on m' hx j h)

/-- Each two operations of the region are ordered, or may change places. -/
def regOK (P : Program) (ops : Array Oper) (wk : Nat → Bool) : Bool :=
  let b := befs ops.toList []
  (List.range ops.size).all fun i => (List.range i).all fun j => (b.getD i 0).testBit j ||
    (match ops[j]?, ops[i]? with
     | some oj, some oi => indep P ops (wk j) (wk i) oj oi
     | _, _ => false)
theorem regOK_spec {wk : Nat → Bool} (k : regOK P ops wk = true) {i j : Nat} {oi oj : Oper} (hi : ops[i]? = some oi) (hj : ops[j]? = some oj) (hlt : j < i) : Pre ops j i ∨ indep P ops (wk j) (wk i) oj oi = true := by
  unfold regOK at k
  have hin : i < ops.size := (Array.getElem?_eq_some_iff.1 hi).1
  have := List.all_eq_true.1 (List.all_eq_true.1 k i (by simpa using hin)) j (by simpa using hlt)
  simp only [hi, hj, Bool.or_eq_true] at this
  rcases this with h | h
  · left
    cases hb : (befs ops.toList [])[i]? with
    | none => rw [List.getD_eq_getElem?_getD, hb] at h; simp at h
    | some m =>
      rw [List.getD_eq_getElem?_getD, hb] at h
      exact befs_spec ops.toList [] rfl (fun i m hm => by simp at hm) i m hb j h
  · exact .inr h

/-- What is listed is closed. -/
def Shut (ops : Array Oper) (listed : Array Bool) : Prop := ∀ i o e, ops[i]? = some o → listed.getD i false = true → e ∈ o.after → Region.binds .any e = true → listed.getD e.on false = true
theorem pre_listed {listed : Array Bool} (hs : Shut ops listed) {i j : Nat} (hp : Pre ops j i) : (listed.getD i false = true ∨ i ∈ Region.ready .any ops listed) → listed.getD j false = true := by
  induction hp with
  | edge h he hb =>
    rintro (hl | hl)
    · exact hs _ _ _ h hl he hb
    · obtain ⟨_, o', ho', hall⟩ := mem_ready.1 hl
      rw [h] at ho'
      injection ho' with ho'
      subst ho'
      exact hall _ he hb
  | step h he hb k ih =>
    rintro (hl | hl)
    · exact ih (.inl (hs _ _ _ h hl he hb))
    · obtain ⟨_, o', ho', hall⟩ := mem_ready.1 hl
      rw [h] at ho'
      injection ho' with ho'
      subst ho'
      exact ih (.inl (hall _ he hb))

theorem any_sound {wk : Nat → Bool} {Q : Exit → Act → World → Prop} {K : List Value → Hp → Prop} {B : Nat} {w0 : World} (hok : regOK P ops wk = true) (hedge : ∀ i o e, ops[i]? = some o → e ∈ o.after → Region.binds .any e = true → e.on < i) :
    ∀ (fuel : Nat) (r : List Nat) (listed : Array Bool) {φ : Inj} {tm : List Value} {h : Hp} {a : Act} {w : World}, r.length ≤ fuel → r.Pairwise (· < ·) → listed.size = ops.size → (∀ i, i ∈ r ↔ i < ops.size ∧ listed.getD i false = false) → Shut ops listed →
      aops P ops wk r tm h K → RelSt P B w0 φ tm h a w → (∀ φ' tm' h' a' w', φ <+: φ' → RelSt P B w0 φ' tm' h' a' w' → K tm' h' → Q .normal a' w') → wpAny P .any ops Q fuel listed a w := by
  have first : ∀ (r : List Nat) (listed : Array Bool), r.Pairwise (· < ·) → listed.size = ops.size → (∀ i, i ∈ r ↔ i < ops.size ∧ listed.getD i false = false) → Region.ready .any ops listed = [] → r = [] := by
    intro r listed hs hsz hmem hr
    cases r with
    | nil => rfl
    | cons i r =>
      exfalso
      obtain ⟨h1, h2⟩ := (hmem i).1 (by simp)
      have : i ∈ Region.ready .any ops listed := by
        rw [mem_ready]
        refine ⟨by simpa [Array.getD_eq_getD_getElem?, Array.getElem?_eq_getElem (hsz ▸ h1)] using h2, ops[i], Array.getElem?_eq_getElem h1, fun e he hb => ?_⟩
        have hlt := hedge i ops[i] e (Array.getElem?_eq_getElem h1) he hb
        cases hx : listed.getD e.on false with
        | true => rfl
        | false =>
          have : e.on ∈ i :: r := (hmem e.on).2 ⟨by omega, hx⟩
          rcases List.mem_cons.1 this with h3 | h3
          · omega
          · have := (List.pairwise_cons.1 hs).1 _ h3
            omega
      rw [hr] at this
      cases this
  intro fuel
  induction fuel with
  | zero =>
    intro r listed φ tm h a w hlen hs hsz hmem hshut k R hQ
    have hr : r = [] := List.eq_nil_of_length_eq_zero (by omega)
    subst hr
    refine ⟨?_, hQ φ tm h a w (List.prefix_refl _) R k⟩
    cases hx : Region.ready .any ops listed with
    | nil => rfl
    | cons i l =>
      exfalso
      have hi : i ∈ Region.ready .any ops listed := by rw [hx]; simp
      obtain ⟨h0, o, ho, _⟩ := mem_ready.1 hi
      have hlt := (Array.getElem?_eq_some_iff.1 ho).1
      have : i ∈ ([] : List Nat) := (hmem i).2 ⟨hlt, by simpa [Array.getD_eq_getD_getElem?, Array.getElem?_eq_getElem (hsz ▸ hlt)] using h0⟩
      cases this
  | succ fuel ih =>
    intro r listed φ tm h a w hlen hs hsz hmem hshut k R hQ
    refine ⟨fun hr => ?_, fun i hi => ?_⟩
    · obtain rfl := first r listed hs hsz hmem hr
      exact hQ φ tm h a w (List.prefix_refl _) R k
    · obtain ⟨h0, oi, hoi, hall⟩ := mem_ready.1 hi
      have hlt := (Array.getElem?_eq_some_iff.1 hoi).1
      have h0' : listed.getD i false = false := by simpa [Array.getD_eq_getD_getElem?, Array.getElem?_eq_getElem (hsz ▸ hlt)] using h0
      obtain ⟨r1, r2, rfl⟩ := List.append_of_mem ((hmem i).2 ⟨hlt, h0'⟩)
      have hind : AllIndep P ops wk i oi r1 := fun j hj => by
        obtain ⟨hjlt, hjl⟩ := (hmem j).1 (by simp [hj])
        have hji : j < i := by
          rw [List.pairwise_append] at hs
          exact hs.2.2 j hj i (by simp)
        refine ⟨ops[j], Array.getElem?_eq_getElem hjlt, ?_⟩
        rcases regOK_spec hok hoi (Array.getElem?_eq_getElem hjlt) hji with hp | hp
        · have := pre_listed hshut hp (.inr hi)
          rw [hjl] at this
          cases this
        · exact hp
      have ht : Told P tm h := ⟨B, w0, φ, a, w, R⟩
      have step : astep P ops (wk i) oi tm h fun tm1 h1 => aops P ops wk (r1 ++ r2) tm1 h1 K := by
        cases hc : calm P oi with
        | true =>
          obtain ⟨v, hv⟩ := calm_some hoi hc ht.va r1 tm h hind (Inv.refl oi) ht k
          exact (astep_calm hc _).2 ⟨v, hv, early_calm hoi hc ht.va hv r1 tm h hind (Inv.refl oi) k⟩
        | false => exact early_busy hoi hc r1 tm h hind ht k
      refine wpOp_mono ?_ (astep_sound hoi step R Q)
      rintro a' w' ⟨φ', tm', h', p1, p2, p3⟩
      refine ih (r1 ++ r2) (listed.setIfInBounds i true) ?_ ?_ (by simpa using hsz) ?_ ?_ p3 p2 fun φ2 tm2 h2 a2 w2 q1 q2 q3 => hQ φ2 tm2 h2 a2 w2 (p1.trans q1) q2 q3
      · simp at hlen ⊢; omega
      · rw [List.pairwise_append] at hs ⊢
        exact ⟨hs.1, (List.pairwise_cons.1 hs.2.1).2, fun x hx y hy => hs.2.2 x hx y (by simp [hy])⟩
      · intro x
        have hnd : (r1 ++ i :: r2).Nodup := hs.imp fun hab => by omega
        have hxi : x ∈ r1 ++ r2 ↔ x ∈ r1 ++ i :: r2 ∧ x ≠ i := by
          constructor
          · intro hx
            refine ⟨by simp at hx ⊢; rcases hx with h | h <;> simp [h], fun hxe => ?_⟩
            subst hxe
            rw [List.nodup_append] at hnd
            simp at hx
            rcases hx with hx | hx
            · exact hnd.2.2 x hx x (by simp) rfl
            · exact (List.nodup_cons.1 hnd.2.1).1 hx
          · rintro ⟨hx, hne⟩
            simp at hx ⊢
            rcases hx with hx | hx | hx
            · exact .inl hx
            · exact absurd hx hne
            · exact .inr hx
        rw [hxi, hmem x]
        by_cases hxe : i = x
        · subst hxe
          simp [hsz, hlt]
        · rw [getD_set_ne false hxe]
          exact ⟨fun hh => hh.1, fun hh => ⟨hh, fun e => hxe e.symm⟩⟩
      · intro i' o' e ho' hl he hb
        by_cases hxe : i = i'
        · subst hxe
          rw [hoi] at ho'
          injection ho' with ho'
          subst ho'
          exact getD_set_true (hall e he hb)
        · rw [getD_set_ne false hxe] at hl
          exact getD_set_true (hshut i' o' e ho' hl he hb)
end
end Go.Proofs.Ytidkkmkihifeoaa.Hz
