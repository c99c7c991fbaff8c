/- Texts of the calculus and of the program's functions, merged: SF TA TI. -/
import Derived.Test.YtmpgpkdijfcfhaaGreatDoorHyGZ
import Derived.Shelf.SlSortCmp.NoneTotal
import Derived.Shelf.Small.Strs
import Derived.Test.YtmpgpkdijfcfhaaGreatDoorHyGK
namespace Go.Proofs.YtmpgpkdijfcfhaaGreatDoor.Hz
open Go.RowKit
set_option linter.unusedVariables false
set_option linter.unusedSimpArgs false
set_option maxRecDepth 20000
section
open Go.Shelf Go.Lib Go.Sort
instance:Inhabited Item:=⟨⟨[],0,[],0⟩⟩
end
def Kp (F:List Nat) (h h':Hp):Prop:=h.length≤h'.length∧∀ q,q<h.length→q ∉ F→h'[q]?=h[q]?
theorem Kp.refl (F:List Nat) (h:Hp):Kp F h h:=⟨Nat.le_refl _,fun _ _ _=>rfl⟩
theorem Kp.of_ext {F:List Nat} {h h':Hp} (x:Ext h h'):Kp F h h':=⟨x.1,fun q hq _=>x.2 q hq⟩
theorem Kp.sl {F:List Nat} {a b:Hp} {w:Bool} {t:TypeId} {α:Type} {A:Enc α} {xs:List α} {ad:Option Addr} {G:List Nat} (x:Kp F a b) (k:slR w t A a xs ad G) (hd:∀ q∈G,q ∉ F):slR w t A b xs ad G:=k.frame fun q hq=>x.2 q (k.lt q hq) (hd q hq)
theorem Kp.cell {F:List Nat} {a b:Hp} {o i:Nat} {v:Value} (x:Kp F a b) (hc:cellAt a o i=some v) (ho:o ∉ F):cellAt b o i=some v:=by
  have hlt:o<a.length:=by
    unfold cellAt at hc
    cases hg:a[o]? with
    | none=>simp [hg] at hc
    | some ob=>exact (List.getElem?_eq_some_iff.1 hg).1
  rw [cellAt_get (x.2 o hlt ho)]; exact hc
structure PutR (h:Hp) (F:List Nat) (h':Hp) (xs:List Item) (a:Option Addr) (G:List Nat):Prop where
  kp:Kp F h h'
  sl:slR true 33 itemE h' xs a G
  nd:G.Nodup
  sub:∀ q∈G,q∈F∨h.length≤q
section
variable {h H H':Hp} {F G G':List Nat} {xs ys:List Item} {a b:Option Addr}
theorem PutR.ext (k:PutR h F H xs a G) (x:Ext H H'):PutR h F H' xs a G :=
  ⟨⟨Nat.le_trans k.kp.1 x.1,fun q hq hn=>(x.2 q (by have:=k.kp.1; omega)).trans (k.kp.2 q hq hn)⟩,k.sl.ext x,k.nd,k.sub⟩
theorem PutR.trans (k:PutR h F H xs a G) (l:PutR H G H' ys b G'):PutR h F H' ys b G' :=
  ⟨⟨Nat.le_trans k.kp.1 l.kp.1,fun q hq hn=>(l.kp.2 q (by have:=k.kp.1; omega) (fun hm=>(k.sub q hm).elim hn (fun h1=>by omega))).trans (k.kp.2 q hq hn)⟩,l.sl,l.nd,fun q hq=>by
    rcases l.sub q hq with h1 | h1
    · exact k.sub q h1
    · exact .inr (Nat.le_trans k.kp.1 h1)⟩
theorem PutR.app (s:slR true 33 itemE H xs a G) (nd:G.Nodup) (x:Item) (hl:xs.length≤100000000) :
    ∃ a' H' G',aappend Tryz.prog (H++[⟨true,true,33,Item.cs x⟩]) 24 24 (.slice a xs.length xs.length) (.slice (some ⟨H.length,0,none⟩) 1 1)=some (.slice a' (xs.length+1) (xs.length+1),H')∧PutR H G H' (xs++[x]) a' G':=by
  obtain ⟨a',H',G',e1,e2,e3,e4,e5⟩:=(Own.any s nd).append1L (P:=Tryz.prog) x (cs:=Item.cs x) rfl (st:=24) (xt:=24) (bt:=48) (z:=[.string (S []),.int .i64 0,.string (S []),.int .i64 0]) (by simp) (by simp) (by unfold big; omega) (by unfold big; omega)
  exact ⟨a',H',G',e1,⟨e5,e3⟩,e2.sl,e2.nd,e4⟩
end
end Go.Proofs.YtmpgpkdijfcfhaaGreatDoor.Hz
