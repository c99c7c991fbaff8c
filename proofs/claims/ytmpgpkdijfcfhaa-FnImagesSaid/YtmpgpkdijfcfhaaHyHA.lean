/- Texts of the calculus and of the program's functions, merged: SF TA TI. -/
import Derived.Test.YtmpgpkdijfcfhaaHyGZ
import Derived.Shelf.SlSortCmp.NoneTotal
import Derived.Shelf.Small.Strs
import Derived.Test.YtmpgpkdijfcfhaaHyGK
namespace Go.Proofs.Ytmpgpkdijfcfhaa.Hz
open Go.RowKit
set_option linter.unusedVariables false
set_option linter.unusedSimpArgs false
set_option maxRecDepth 20000
section
open Go.Shelf Go.Lib Go.Sort
instance:Inhabited Item:=⟨⟨[],0,[],0⟩⟩
end
def Kp (F:List Nat) (h h':Hp):Prop:=h.length≤h'.length∧∀ q,q<h.length→q ∉ F→h'[q]?=h[q]?
theorem Kp.refl (F:List Nat) (h:Hp):Kp F h h:=⟨Nat.le_refl _,fun _ _ _=>rfl⟩
theorem Kp.of_ext {F:List Nat} {h h':Hp} (x:Ext h h'):Kp F h h':=⟨x.1,fun q hq _=>x.2 q hq⟩
theorem Kp.sl {F:List Nat} {a b:Hp} {w:Bool} {t:TypeId} {α:Type} {A:Enc α} {xs:List α} {ad:Option Addr} {G:List Nat} (x:Kp F a b) (k:slR w t A a xs ad G) (hd:∀ q∈G,q ∉ F):slR w t A b xs ad G:=k.frame fun q hq=>x.2 q (k.lt q hq) (hd q hq)
theorem Kp.cell {F:List Nat} {a b:Hp} {o i:Nat} {v:Value} (x:Kp F a b) (hc:cellAt a o i=some v) (ho:o ∉ F):cellAt b o i=some v:=by
  have hlt:o<a.length:=by
    unfold cellAt at hc
    cases hg:a[o]? with
    | none=>simp [hg] at hc
    | some ob=>exact (List.getElem?_eq_some_iff.1 hg).1
  rw [cellAt_get (x.2 o hlt ho)]; exact hc
section
variable {h H H':Hp} {F G G':List Nat} {xs ys:List Item} {a b:Option Addr}
end
end Go.Proofs.Ytmpgpkdijfcfhaa.Hz
