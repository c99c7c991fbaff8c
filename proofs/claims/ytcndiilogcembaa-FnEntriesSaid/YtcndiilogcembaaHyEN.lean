/- The law of entries. -/
import Derived.Test.YtcndiilogcembaaHyGX
import Derived.Test.YtcndiilogcembaaHyEP
import Derived.Test.YtcndiilogcembaaHyGP
import Derived.Test.YtcndiilogcembaaHyGD
import Derived.Test.YtcndiilogcembaaHyGC
namespace Go.Proofs.Ytcndiilogcembaa.Hz
open Go.RowKit
set_option linter.unusedVariables false
set_option linter.unusedSimpArgs false
set_option maxRecDepth 20000

theorem not_added {es : List Ent} {nm : Str} {nd : Int} (h : (dirAdd es nm nd).2 = false) : (dirAdd es nm nd).1 = es := by
  unfold dirAdd at h ⊢
  split at h
  · cases h
  · rename_i hk
    rw [if_neg hk]
theorem big_c (code : Str) (a : Option Addr) (h : Hp) : ACall Try.prog 15 [.slice a code.length code.length] h fun r h' => h' = h ∧ r = .bool (decide (1048576 < (code.length : Int))) := by
  refine acall mixed Try.func15 rfl (by kernel_rfl) ?_
  simp [Try.f15]
set_option maxHeartbeats 4000000 in
theorem FnEntries_c (code : Str) (a : Option Addr) (F : List Nat) (w : Bool) (t : TypeId) (h : Hp) (k : slR w t byteE h code a F) :
    ACall Try.prog 4 [.slice a code.length code.length] h fun r _ => r = .bool true := by
  refine acall mixed Try.func4 rfl (by kernel_rfl) ?_
  simp [Try.f4]
  refine callK0 (big_c code a h) ?_
  rintro _ h ⟨rfl, rfl⟩
  simp
  refine asplitK_intro (fun hb => ?_) (fun hb => ?_) <;> simp at hb <;> simp
  refine callK0 (drawDirAdd_c code a F w t h k (by omega)) ?_
  rintro _ H1 ⟨es, nm, nd, b, G, rfl, o1, hl, hnm, hnl, hd0, hd1⟩
  have hsum : sumL Ent.nl es ≤ 60 := by have := sumL_bd hnm; omega
  simp
  refine callK0 (dirAdd_impl_of slices_Insert_c es nm nd b G true H1 o1.sl (by omega) (by omega)) ?_
  rintro _ H2 ⟨a2, F2, rfl, o2⟩
  simp
  refine callK0 (dirAdd_spec_c es nm nd b G true H2 (o1.sl.ext o2.ext) (by omega) (by omega)) ?_
  rintro _ H3 ⟨a3, F3, rfl, o3⟩
  simp
  cases hk : (dirAdd es nm nd).2
  · simp [not_added hk]
  obtain ⟨h80, hf, hok, hall, hdr, hno⟩ := added hk
  have htx := dirOf_text hok
  have hsmall : (dirText (dirAdd es nm nd).1).length ≤ 80 := by
    have := hok
    simp only [entriesOk, Bool.and_eq_true, decide_eq_true_eq] at this
    exact this.2
  have s2 := o2.sl.ext o3.ext
  have s1 := o1.sl.ext (o2.ext.trans o3.ext)
  have hnames : sumL Ent.nl (dirAdd es nm nd).1 ≤ 1000 := by
    have : ∀ e ∈ (dirAdd es nm nd).1, e.name.length ≤ 6 := fun e he => (dirAdd_mem he).elim (hnm e) (fun e1 => by rw [e1]; exact hnl)
    have := sumL_bd this
    omega
  generalize (dirAdd es nm nd).1 = ys at *
  clear o1 o2 o3
  simp [hk]
  refine callK0 (dirFind_impl_c ys nm a2 F2 true _ H3 s2 (by omega)) ?_
  rintro _ _ ⟨⟨t1, rfl⟩, rfl⟩
  simp [hf]
  refine callK0 (entriesOk_impl_c ys a2 F2 true _ (s2.to (by simp)) (by omega) (by omega)) ?_
  rintro _ _ ⟨⟨t2, rfl⟩, rfl⟩
  simp [hok]
  refine aloop mixed [3, 4, 5, 6, 10] (fun (y : Nat × Hp) => [.slice b es.length es.length, .string (S nm), .int .i64 nd, .slice a2 ys.length ys.length, .int .i64 y.1]) (fun y => H3 ++ y.2) (fun y => y.1 ≤ es.length) (fun y => es.length - y.1) (0, t1 ++ t2) (by simp) rfl (by simp) ?_
  rintro ⟨i, l⟩ hi
  simp only at hi
  simp [mkF]
  refine asplitK_intro (fun hc => ?_) (fun hc => ?_) <;> simp at hc <;> simp [hc]
  · have hc' : i < es.length := by omega
    obtain ⟨o, off, rfl, c0, c1⟩ := entAt (s1.to (h' := H3 ++ l) (by simp)) hc'
    refine drawK true (by kernel_rfl) ?_
    simp [hc', c0, c1]
    refine callK (dirFind_impl_c ys es[i].name a2 F2 true _ _ (s2.to (by simp)) (by omega)) ?_
    rintro _ _ ⟨⟨t3, rfl⟩, rfl⟩
    refine ⟨fun _ => Ext.push _ _, ?_⟩
    have c1' := cell_more c1 t3
    simp [hc', c1', hall es[i] (List.getElem_mem hc')]
    exact anext (i + 1, l ++ t3) (by simp only; omega) (by simp only; omega) (by simp [pickF, wrap_succ (show i < 9223372036854775807 by omega)]) (by simp) (by simp)
  · refine callK0 (dirDrop_impl_c ys nm a2 F2 true _ _ (s2.to (by simp)) (by omega)) ?_
    rintro _ H4 ⟨a4, F4, rfl, o4⟩
    simp only [hdr] at o4
    have s1' := (s1.to (h' := H3 ++ l) (by simp)).ext o4.ext
    have s2' := (s2.to (h' := H3 ++ l) (by simp)).ext o4.ext
    simp [hdr]
    refine callK0 (dirText_impl_c ys a2 F2 true _ _ s2' (by omega) (by omega)) ?_
    rintro _ _ ⟨⟨t5, rfl⟩, rfl⟩
    simp
    refine callK0 (dirOf_impl_c (dirText ys) _ (by omega)) ?_
    rintro _ H6 ⟨a6, F6, rfl, o6⟩
    simp only [htx] at o6
    have x6 : Ext H4 H6 := (Ext.push H4 t5).trans o6.ext
    simp [htx]
    refine callK0 (dirText_impl_c es a4 F4 true _ _ (o4.sl.ext x6) (by omega) (by omega)) ?_
    rintro _ _ ⟨⟨t7, rfl⟩, rfl⟩
    simp
    refine callK0 (dirText_impl_c es b G true _ _ ((s1'.ext x6).to (by simp)) (by omega) (by omega)) ?_
    rintro _ _ ⟨⟨t8, rfl⟩, rfl⟩
    simp
    refine callK0 (dirFind_impl_c es nm a4 F4 true _ _ ((o4.sl.ext x6).to (by simp)) (by omega)) ?_
    rintro _ _ ⟨⟨t9, rfl⟩, rfl⟩
    simp [hno]
    refine callK0 (dirText_impl_c ys a6 F6 true _ _ (o6.sl.to (by simp)) (by omega) (by omega)) ?_
    rintro _ _ ⟨⟨t10, rfl⟩, rfl⟩
    simp
    refine callK0 (dirText_impl_c ys a2 F2 true _ _ ((s2'.ext x6).to (by simp)) (by omega) (by omega)) ?_
    rintro _ _ ⟨⟨t11, rfl⟩, rfl⟩
    simp
theorem opnV_code : OpnV Try.prog 31 (V1 (slE false 5 byteE) fun xs => xs.length ≤ maxLen ∧ ∀ x ∈ xs, True) :=
  opn1 (opn_slice (opn_byte (by kernel_rfl)) (by kernel_rfl) (by kernel_rfl) (by kernel_rfl) (by decide)) (one_slice (e := 5) (by kernel_rfl))
theorem FnEntries_v (h : Hp) (avs : List Value) (hv : All2 (fun V av => V h av) [(V1 (slE false 5 byteE) fun xs => xs.length ≤ maxLen ∧ ∀ x ∈ xs, True)] avs) : ACall Try.prog 4 avs h fun r _ => r = .bool true := by
  obtain ⟨v0, vs0, rfl, q0, hv⟩ := All2.cons_iff.1 hv
  obtain rfl := All2.nil_iff.1 hv
  obtain ⟨xs, F, ⟨a, ea, hr⟩, hl, hx⟩ := q0
  obtain rfl : v0 = _ := List.cons.inj ea |>.1
  exact FnEntries_c xs a F false _ h hr
end Go.Proofs.Ytcndiilogcembaa.Hz
