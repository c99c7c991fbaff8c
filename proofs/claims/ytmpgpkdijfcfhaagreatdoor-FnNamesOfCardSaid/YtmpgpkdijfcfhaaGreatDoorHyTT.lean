/- The text of a tree: both programs. -/
import Derived.Test.YtmpgpkdijfcfhaaGreatDoorHyGH
import Derived.Test.YtmpgpkdijfcfhaaGreatDoorHyDH
import Derived.Test.YtmpgpkdijfcfhaaGreatDoorHyGE
namespace Go.Proofs.YtmpgpkdijfcfhaaGreatDoor.Hz
open Go.RowKit
set_option linter.unusedVariables false
set_option linter.unusedSimpArgs false
set_option maxRecDepth 20000
def itemText (e:Item):Str:=e.path++(if e.kind=2 then [47,10] else (if e.kind=3 then 62 else 61) :: (e.data++64 :: (Lib.itoa e.time++[10])))
def treeText (xs:List Item):Str:=xs.flatMap itemText
def tW (e:Item):Prop:=-9223372036854775808≤e.time∧e.time≤9223372036854775807
theorem treeText_take (xs:List Item) (i:Nat) (hi:i<xs.length):treeText (xs.take (i+1))=treeText (xs.take i)++itemText xs[i]:=by
  unfold treeText
  rw [List.take_succ_eq_append_getElem hi,List.flatMap_append]
  simp
theorem itoa_len {n:Int} (h1:-9223372036854775808≤n) (h2:n≤9223372036854775807):(Lib.itoa n).length≤21:=by
  by_cases h:n=0
  · subst h
    have:Lib.itoa 0=[48]:=by
      unfold Lib.itoa
      rw [if_neg (by omega),Lib.decDigits,dif_pos (by decide)]
      rfl
    rw [this]; simp
  · rw [itoa_decN h]
    have:=decN_len 20 n.natAbs (by omega)
    split
    · simp; omega
    · omega
theorem itemText_len (e:Item) (h:tW e):(itemText e).length≤e.nl+24:=by
  have:=itoa_len h.1 h.2
  unfold itemText
  have e1:e.nl=e.path.length+e.data.length:=rfl
  split
  · simp; omega
  · simp; omega
theorem treeText_len:∀ (xs:List Item),(∀ e∈xs,tW e)→(treeText xs).length≤sumL Item.nl xs+24 * xs.length
  | [],_=>by simp [treeText]
  | e :: xs,h=>by
    have h1:=itemText_len e (h e (by simp))
    have h2:=treeText_len xs fun x hx=>h x (by simp [hx])
    have h3:treeText (e :: xs)=itemText e++treeText xs:=by simp [treeText]
    rw [h3]
    simp [sumL] at h2 ⊢
    omega
theorem treeText_pre (xs:List Item) (i:Nat):(treeText (xs.take i)).length≤(treeText xs).length:=by
  have:treeText xs=treeText (xs.take i)++treeText (xs.drop i):=by
    unfold treeText
    rw [← List.flatMap_append,List.take_append_drop]
  rw [this]
  simp
section
variable (xs:List Item) (a:Option Addr) (F:List Nat) (w:Bool) (t:TypeId) (h:Hp) (hx:slR w t itemE h xs a F) (hl:xs.length+sumL Item.nl xs≤1048576) (ht:∀ e∈xs,tW e)
include hx hl ht
set_option maxHeartbeats 4000000 in
theorem treeText_impl_c:ACall Tryz.prog 13 [.agg #[.slice a xs.length xs.length]] h fun r h'=>Ext h h'∧r=.string (S (treeText xs)):=by
  refine acall mixed Tryz.func13 rfl (by kernel_rfl) ?_
  obtain ⟨B,hB⟩:∃ B,B=h++[(⟨true,true,26,[.slice a xs.length xs.length]⟩:Ob)]:=⟨_,rfl⟩
  have eh:Ext h B:=by rw [hB]; exact Ext.push _ _
  have cB:cellAt B h.length 0=some (.slice a xs.length xs.length):=by rw [hB]; simp
  have hT:=treeText_len xs ht
  simp [Tryz.f13]
  rw [← hB]
  refine aloop mixed [1,3,7,8,9] (fun (x:Nat × Hp)=>[.pointer (some ⟨h.length,0,none⟩),.string (S (treeText (xs.take x.1))),.slice a xs.length xs.length,.int .i64 xs.length,.int .i64 x.1]) (fun x=>x.2) (fun x=>x.1≤xs.length∧Ext B x.2) (fun x=>xs.length - x.1) (0,B) ⟨by simp,Ext.refl _⟩ (by simp [pickF,treeText]) rfl ?_
  rintro ⟨i,H⟩ ⟨hi,ex⟩
  simp only at hi ex
  have cb:=cell_up ex cB
  simp [mkF,cb]
  refine aSI (fun hc=>?_) (fun hc=>?_) <;> simp at hc <;> simp [hc]
  · obtain ⟨o,off,rfl,c0,c1,c2,c3⟩:=itemAt (hx.ext (eh.trans ex)) hc
    have hw:IntKind.i64.wrap ((i:Int)+1)=((i+1:Nat):Int):=wS (by omega)
    have hst:=treeText_take xs i hc
    have hpl:=treeText_pre xs (i+1)
    obtain ⟨t1,t2⟩:=ht xs[i] (List.getElem_mem hc)
    have hdl:=itoa_len t1 t2
    rw [hst,List.length_append] at hpl
    have hit:itemText xs[i]=xs[i].path++(if xs[i].kind=2 then [47,10] else (if xs[i].kind=3 then 62 else 61) :: (xs[i].data++64 :: (Lib.itoa xs[i].time++[10]))):=rfl
    simp [hc,cb,c0,c1,c2,c3]
    by_cases k2:xs[i].kind=2
    · rw [if_pos k2] at hit
      rw [hit] at hpl hst
      simp at hpl
      simp [k2]
      refine ⟨by omega,by omega,?_⟩
      refine anext (i+1,_) ⟨hc,ex.trans (Ext.push _ _)⟩ (by simp only; omega) (by simp [pickF,hw,hst]) rfl (by simp)
    rw [if_neg k2] at hit
    have k2':(xs[i].kind == 2)=false:=by simpa using k2
    simp [k2']
    by_cases k3:xs[i].kind=3
    · rw [if_pos k3] at hit
      rw [hit] at hpl hst
      simp at hpl
      simp [k3]
      refine ⟨by omega,by omega,?_⟩
      refine drawK true (by kernel_rfl) ?_
      simp
      refine ⟨by omega,?_⟩
      refine callK (digits_impl_c xs[i].time _ t1 t2) ?_
      rintro _ _ ⟨rfl,rfl⟩
      refine ⟨fun _=>Ext.refl _,?_⟩
      simp
      refine ⟨by omega,by omega,by omega,?_⟩
      refine anext (i+1,_) ⟨hc,ex.trans (Ext.push _ _)⟩ (by simp only; omega) (by simp [pickF,hw,hst]) rfl (by simp)
    · have k3':(xs[i].kind == 3)=false:=by simpa using k3
      rw [if_neg k3] at hit
      rw [hit] at hpl hst
      simp at hpl
      simp [k3,k3']
      refine ⟨by omega,by omega,?_⟩
      refine drawK true (by kernel_rfl) ?_
      simp
      refine ⟨by omega,?_⟩
      refine callK (digits_impl_c xs[i].time _ t1 t2) ?_
      rintro _ _ ⟨rfl,rfl⟩
      refine ⟨fun _=>Ext.refl _,?_⟩
      simp
      refine ⟨by omega,by omega,by omega,?_⟩
      refine anext (i+1,_) ⟨hc,ex.trans (Ext.push _ _)⟩ (by simp only; omega) (by simp [pickF,hw,hst]) rfl (by simp)
  · obtain rfl:i=xs.length:=by omega
    rw [List.take_length]
    exact ⟨eh.trans ex,rfl⟩
end
end Go.Proofs.YtmpgpkdijfcfhaaGreatDoor.Hz
