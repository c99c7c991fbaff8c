/- The law on entries that are in order. -/
import Derived.Test.YtmiflnadgckenaaHzEI
namespace Go.Proofs.Ytmiflnadgckenaa.Hz
open Go.RowKit
set_option maxRecDepth 20000
theorem FnExactEntriesOk_c (es : List Ent) (a : Option Addr) (F : List Nat) (w : Bool) (t : TypeId) (h : Hp) (hr : slR w t entE h es a F) (hl : es.length ≤ maxLen) (h3 : ∀ e ∈ es, e.name.length ≤ maxLen) :
    ACall Try.prog 9 [.slice a es.length es.length] h fun r _ => r = .bool true := by
  refine acall mixed Try.func9 rfl (by kernel_rfl) ?_
  have h4 : maxLen = 9223372036854775807 := by decide
  simp [Try.f9]
  refine callK0 (szEntryS_c es a F w t _ h hr (by omega) (by omega) hl h3) ?_
  rintro _ _ ⟨⟨t1, rfl⟩, n, rfl, hn1, hn2⟩
  simp
  refine asplitK_intro (fun hc => ?_) (fun hc => ?_) <;> simp at hc <;> simp
  have hl2 : es.length ≤ 1048576 := by have := hn2 hc; omega
  have hn3 : sumL Ent.nl es ≤ 1048576 := by have := hn2 hc; omega
  have e1 : Ext h (h ++ t1) := Ext.push h t1
  refine callK0 (toEntryS_c es a F w t _ (hr.ext e1) hl2) ?_
  rintro _ H1 ⟨a1, F1, rfl, o1⟩
  simp
  refine callK0 (entriesOk_spec_c es a1 F1 true _ H1 o1.sl hl2 hn3) ?_
  rintro _ _ ⟨⟨t2, rfl⟩, rfl⟩
  simp
  have e2 := (e1.trans o1.ext).trans (Ext.push H1 t2)
  refine callK0 (toEntryS_c es a F w t _ (hr.ext e2) hl2) ?_
  rintro _ H2 ⟨a2, F2, rfl, o2⟩
  simp
  refine callK0 (entriesOk_impl_c es a2 F2 true H2 o2.sl hl2 hn3) ?_
  rintro _ _ ⟨⟨t3, rfl⟩, rfl⟩
  simp
  have e3 := (e2.trans o2.ext).trans (Ext.push H2 t3)
  refine callK0 (toEntryS_c es a F w t _ (hr.ext e3) hl2) ?_
  rintro _ H3 ⟨a3, F3, rfl, o3⟩
  simp
  refine callK0 (eqEntryS_c es es a2 a3 F2 F3 true true _ _ H3 (o2.sl.ext ((Ext.push H2 t3).trans o3.ext)) o3.sl hl2) ?_
  rintro _ _ ⟨⟨t4, rfl⟩, rfl⟩
  simp
end Go.Proofs.Ytmiflnadgckenaa.Hz
