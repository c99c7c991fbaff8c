/- Nodes, images of file systems and pools compared: both programs. -/
import Derived.Test.YtmpgpkdijfcfhaaHyGJ
namespace Go.Proofs.Ytmpgpkdijfcfhaa.Hz
open Go.RowKit
set_option linter.unusedVariables false
set_option linter.unusedSimpArgs false
set_option maxRecDepth 20000
theorem l1Texts_c (xs ys:List Str) (a b:Option Addr) (F G:List Nat) (w w':Bool) (t t':TypeId) (h:Hp) (hx:slR w t strE h xs a F) (hy:slR w' t' strE h ys b G) (hl:xs.length≤1048576) :
    ACall Try.prog 26 [.slice a xs.length xs.length,.slice b ys.length ys.length] h fun r h'=>(∃ t,h'=h++t)∧r=.bool (decide (xs=ys)):=by
  refine acall mixed Try.func26 rfl (by kernel_rfl) ?_
  simp [Try.f26]
  refine asplitK_intro (fun hb=>?_) (fun hb=>?_) <;> simp at hb <;> simp [hb]
  · rintro rfl; exact hb rfl
  have hl2:xs.length=ys.length:=by omega
  refine aloop mixed [0,1,5] (fun (x:Nat × Hp)=>[.slice a xs.length xs.length,.slice b ys.length ys.length,.int .i64 x.1]) (fun x=>h++x.2) (fun x=>x.1≤xs.length∧xs.take x.1=ys.take x.1) (fun x=>xs.length - x.1) (0,[]) ⟨by simp,by simp⟩ (by simp [pickF]) (by simp) ?_
  rintro ⟨k,t⟩ ⟨hk,he⟩
  simp only at hk he
  simp [mkF]
  refine asplitK_intro (fun hc=>?_) (fun hc=>?_) <;> simp at hc <;> simp [hc]
  · have hc2:k<ys.length:=by omega
    obtain ⟨o,off,rfl,c0⟩:=strEAt (hx.ext (Ext.push h t)) hc
    obtain ⟨o',off',rfl,d0⟩:=strEAt (hy.ext (Ext.push h t)) hc2
    refine drawK false (by kernel_rfl) ?_
    simp [hc,hc2,c0,d0]
    refine asplitK_intro (fun hd=>?_) (fun hd=>?_) <;> simp at hd <;> simp [hd]
    · exact anext (k+1,t) ⟨hc,take_snoc hc hc2 he hd⟩ (by simp only; omega) (by simp [pickF,wrap_succ (show k<9223372036854775807 by omega)]) (by simp) (by simp)
    · rintro rfl; exact hd rfl
  · obtain rfl:k=xs.length:=by omega
    exact take_all (by omega) he
theorem equalStr_c (xs ys:List Str) (a b:Option Addr) (F G:List Nat) (w w':Bool) (t t':TypeId) (h:Hp) (hx:slR w t strE h xs a F) (hy:slR w' t' strE h ys b G) (hl:xs.length≤1048576) :
    ACall Try.prog 32 [.slice a xs.length xs.length,.slice b ys.length ys.length] h fun r h'=>(∃ t,h'=h++t)∧r=.bool (decide (xs=ys)):=by
  refine acall mixed Try.func32 rfl (by kernel_rfl) ?_
  simp [Try.f32]
  refine asplitK_intro (fun hb=>?_) (fun hb=>?_) <;> simp at hb <;> simp [hb]
  · rintro rfl; exact hb rfl
  have hl2:xs.length=ys.length:=by omega
  refine aloop mixed [0,1,12,13] (fun (x:Nat × Hp)=>[.slice a xs.length xs.length,.slice b ys.length ys.length,.int .i64 xs.length,.int .i64 x.1]) (fun x=>h++x.2) (fun x=>x.1≤xs.length∧xs.take x.1=ys.take x.1) (fun x=>xs.length - x.1) (0,[]) ⟨by simp,by simp⟩ (by simp [pickF,hl2]) (by simp) ?_
  rintro ⟨k,t⟩ ⟨hk,he⟩
  simp only at hk he
  simp [mkF]
  refine asplitK_intro (fun hc=>?_) (fun hc=>?_) <;> simp at hc <;> simp [hc]
  · have hc2:k<ys.length:=by omega
    obtain ⟨o,off,rfl,c0⟩:=strEAt (hx.ext (Ext.push h t)) hc
    obtain ⟨o',off',rfl,d0⟩:=strEAt (hy.ext (Ext.push h t)) hc2
    refine drawK false (by kernel_rfl) ?_
    simp [hc,hc2,c0,d0]
    refine asplitK_intro (fun hd=>?_) (fun hd=>?_) <;> simp at hd <;> simp [hd]
    · exact anext (k+1,t) ⟨hc,take_snoc hc hc2 he hd⟩ (by simp only; omega) (by simp [pickF,wrap_succ (show k<9223372036854775807 by omega)]) (by simp) (by simp)
    · rintro rfl; exact hd rfl
  · obtain rfl:k=xs.length:=by omega
    exact take_all (by omega) he
end Go.Proofs.Ytmpgpkdijfcfhaa.Hz
