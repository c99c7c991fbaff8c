/- Nodes, images of file systems and pools compared: both programs. -/
import Derived.Test.YtmpgpkdijfcfhaaHyGJ
namespace Go.Proofs.Ytmpgpkdijfcfhaa.Hz
open Go.RowKit
set_option linter.unusedVariables false
set_option linter.unusedSimpArgs false
set_option maxRecDepth 20000
theorem l1Same_c (xs ys:List Int) (a b:Option Addr) (F G:List Nat) (w w':Bool) (t t':TypeId) (h:Hp) (hx:slR w t intE h xs a F) (hy:slR w' t' intE h ys b G) (hl:xs.length≤1048576) :
    ACall Try.prog 71 [.slice a xs.length xs.length,.slice b ys.length ys.length] h fun r h'=>(∃ t,h'=h++t)∧r=.bool (decide (xs=ys)):=by
  refine acall mixed Try.func71 rfl (by kernel_rfl) ?_
  simp [Try.f71]
  refine aSI (fun hb=>?_) (fun hb=>?_) <;> simp at hb <;> simp [hb]
  · rintro rfl; exact hb rfl
  have hl2:xs.length=ys.length:=by omega
  refine aloop mixed [0,1,5] (fun (x:Nat × Hp)=>[.slice a xs.length xs.length,.slice b ys.length ys.length,.int .i64 x.1]) (fun x=>h++x.2) (fun x=>x.1≤xs.length∧xs.take x.1=ys.take x.1) (fun x=>xs.length - x.1) (0,[]) ⟨by simp,by simp⟩ (by simp [pickF]) (by simp) ?_
  rintro ⟨k,t⟩ ⟨hk,he⟩
  simp only at hk he
  simp [mkF]
  refine aSI (fun hc=>?_) (fun hc=>?_) <;> simp at hc <;> simp [hc]
  · have hc2:k<ys.length:=by omega
    obtain ⟨o,off,rfl,c0⟩:=intEAt (hx.ext (Ext.push h t)) hc
    obtain ⟨o',off',rfl,d0⟩:=intEAt (hy.ext (Ext.push h t)) hc2
    refine drawK false (by kernel_rfl) ?_
    simp [hc,hc2,c0,d0]
    refine aSI (fun hd=>?_) (fun hd=>?_) <;> simp at hd <;> simp [hd]
    · rintro rfl; exact hd rfl
    · exact anext (k+1,t) ⟨hc,take_snoc hc hc2 he hd⟩ (by simp only; omega) (by simp [pickF,wS (show k<9223372036854775807 by omega)]) (by simp) (by simp)
  · obtain rfl:k=xs.length:=by omega
    exact take_all (by omega) he
theorem l1Texts_c (xs ys:List Str) (a b:Option Addr) (F G:List Nat) (w w':Bool) (t t':TypeId) (h:Hp) (hx:slR w t strE h xs a F) (hy:slR w' t' strE h ys b G) (hl:xs.length≤1048576) :
    ACall Try.prog 26 [.slice a xs.length xs.length,.slice b ys.length ys.length] h fun r h'=>(∃ t,h'=h++t)∧r=.bool (decide (xs=ys)):=by
  refine acall mixed Try.func26 rfl (by kernel_rfl) ?_
  simp [Try.f26]
  refine aSI (fun hb=>?_) (fun hb=>?_) <;> simp at hb <;> simp [hb]
  · rintro rfl; exact hb rfl
  have hl2:xs.length=ys.length:=by omega
  refine aloop mixed [0,1,5] (fun (x:Nat × Hp)=>[.slice a xs.length xs.length,.slice b ys.length ys.length,.int .i64 x.1]) (fun x=>h++x.2) (fun x=>x.1≤xs.length∧xs.take x.1=ys.take x.1) (fun x=>xs.length - x.1) (0,[]) ⟨by simp,by simp⟩ (by simp [pickF]) (by simp) ?_
  rintro ⟨k,t⟩ ⟨hk,he⟩
  simp only at hk he
  simp [mkF]
  refine aSI (fun hc=>?_) (fun hc=>?_) <;> simp at hc <;> simp [hc]
  · have hc2:k<ys.length:=by omega
    obtain ⟨o,off,rfl,c0⟩:=strEAt (hx.ext (Ext.push h t)) hc
    obtain ⟨o',off',rfl,d0⟩:=strEAt (hy.ext (Ext.push h t)) hc2
    refine drawK false (by kernel_rfl) ?_
    simp [hc,hc2,c0,d0]
    refine aSI (fun hd=>?_) (fun hd=>?_) <;> simp at hd <;> simp [hd]
    · exact anext (k+1,t) ⟨hc,take_snoc hc hc2 he hd⟩ (by simp only; omega) (by simp [pickF,wS (show k<9223372036854775807 by omega)]) (by simp) (by simp)
    · rintro rfl; exact hd rfl
  · obtain rfl:k=xs.length:=by omega
    exact take_all (by omega) he
theorem equalStr_c (xs ys:List Str) (a b:Option Addr) (F G:List Nat) (w w':Bool) (t t':TypeId) (h:Hp) (hx:slR w t strE h xs a F) (hy:slR w' t' strE h ys b G) (hl:xs.length≤1048576) :
    ACall Try.prog 32 [.slice a xs.length xs.length,.slice b ys.length ys.length] h fun r h'=>(∃ t,h'=h++t)∧r=.bool (decide (xs=ys)):=by
  refine acall mixed Try.func32 rfl (by kernel_rfl) ?_
  simp [Try.f32]
  refine aSI (fun hb=>?_) (fun hb=>?_) <;> simp at hb <;> simp [hb]
  · rintro rfl; exact hb rfl
  have hl2:xs.length=ys.length:=by omega
  refine aloop mixed [0,1,12,13] (fun (x:Nat × Hp)=>[.slice a xs.length xs.length,.slice b ys.length ys.length,.int .i64 xs.length,.int .i64 x.1]) (fun x=>h++x.2) (fun x=>x.1≤xs.length∧xs.take x.1=ys.take x.1) (fun x=>xs.length - x.1) (0,[]) ⟨by simp,by simp⟩ (by simp [pickF,hl2]) (by simp) ?_
  rintro ⟨k,t⟩ ⟨hk,he⟩
  simp only at hk he
  simp [mkF]
  refine aSI (fun hc=>?_) (fun hc=>?_) <;> simp at hc <;> simp [hc]
  · have hc2:k<ys.length:=by omega
    obtain ⟨o,off,rfl,c0⟩:=strEAt (hx.ext (Ext.push h t)) hc
    obtain ⟨o',off',rfl,d0⟩:=strEAt (hy.ext (Ext.push h t)) hc2
    refine drawK false (by kernel_rfl) ?_
    simp [hc,hc2,c0,d0]
    refine aSI (fun hd=>?_) (fun hd=>?_) <;> simp at hd <;> simp [hd]
    · exact anext (k+1,t) ⟨hc,take_snoc hc hc2 he hd⟩ (by simp only; omega) (by simp [pickF,wS (show k<9223372036854775807 by omega)]) (by simp) (by simp)
    · rintro rfl; exact hd rfl
  · obtain rfl:k=xs.length:=by omega
    exact take_all (by omega) he
theorem nodeSame_spec_c (x y:Node) (a1 b1:Option Addr) (F1 G1:List Nat) (w w':Bool)  (h:Hp) (k1:slR w 3 intE h x.blocks a1 F1) (l1:slR w' 3 intE h y.blocks b1 G1) (hl:x.lim) :
    ACall Try.prog 47 [.agg #[.int .i64 x.kind,.int .i64 x.gen,.int .i64 x.time,.int .i64 x.size,.slice a1 x.blocks.length x.blocks.length],.agg #[.int .i64 y.kind,.int .i64 y.gen,.int .i64 y.time,.int .i64 y.size,.slice b1 y.blocks.length y.blocks.length]] h fun r h'=>(∃ t,h'=h++t)∧r=.bool (decide (x=y)):=by
  refine acall mixed Try.func47 rfl (by kernel_rfl) ?_
  have he:(x=y)↔(x.kind=y.kind∧x.gen=y.gen∧x.time=y.time∧x.size=y.size∧x.blocks=y.blocks):=by cases x; cases y; simp
  simp [Try.f47,he]
  refine aSI (fun hb=>?_) (fun hb=>?_) <;> (have hb':=hb; simp at hb; simp [hb,hb'])
  refine aSI (fun hb=>?_) (fun hb=>?_) <;> (have hb':=hb; simp at hb; simp [hb,hb'])
  refine aSI (fun hb=>?_) (fun hb=>?_) <;> (have hb':=hb; simp at hb; simp [hb,hb'])
  refine aSI (fun hb=>?_) (fun hb=>?_) <;> (have hb':=hb; simp at hb; simp [hb,hb'])
  refine cK (l1Same_c x.blocks y.blocks a1 b1 F1 G1 w w' _ _ _ (k1.ext (Ext.push h _)) (l1.ext (Ext.push h _)) hl) ?_
  rintro _ _ ⟨⟨t1,rfl⟩,rfl⟩
  simp
theorem fsSame_spec_c (x y:Fs) (a1 b1:Option Addr) (F1 G1:List Nat) (a2 b2:Option Addr) (F2 G2:List Nat) (w w':Bool) (tNode tNode':TypeId) (h:Hp) (k1:slR w tNode (nodeE w) h x.nodes a1 F1) (l1:slR w' tNode' (nodeE w') h y.nodes b1 G1) (k2:slR w 9 strE h x.data a2 F2) (l2:slR w' 9 strE h y.data b2 G2) (hl:x.lim) :
    ACall Try.prog 18 [.agg #[.slice a1 x.nodes.length x.nodes.length,.slice a2 x.data.length x.data.length],.agg #[.slice b1 y.nodes.length y.nodes.length,.slice b2 y.data.length y.data.length]] h fun r h'=>(∃ t,h'=h++t)∧r=.bool (decide (x=y)):=by
  refine acall mixed Try.func18 rfl (by kernel_rfl) ?_
  have he:(x=y)↔(x.nodes=y.nodes∧x.data=y.data):=by cases x; cases y; simp
  simp [Try.f18,he]
  refine aSI (fun hb=>?_) (fun hb=>?_) <;> (have hb':=hb; simp at hb; simp [hb,hb'])
  · intro hh
    exact absurd (by rw [hh]) hb
  refine cK (l1Texts_c x.data y.data a2 b2 F2 G2 w w' _ _ _ (k2.ext (Ext.push h _)) (l2.ext (Ext.push h _)) hl.2.2) ?_
  rintro _ _ ⟨⟨t1,rfl⟩,rfl⟩
  simp
  refine aSI (fun hc=>?_) (fun hc=>?_) <;> (have hc':=hc; simp at hc; simp [hc,hc'])
  have hl2:x.nodes.length=y.nodes.length:=by omega
  have hbg:x.nodes.length≤1048576:=hl.1
  refine aloop mixed [2,3,5] (fun (z:Nat × Hp)=>[.pointer (some ⟨h.length,0,none⟩),.pointer (some ⟨h.length+1,0,none⟩),.int .i64 z.1]) (fun z=>h++(⟨true,true,26,[.slice a1 x.nodes.length x.nodes.length,.slice a2 x.data.length x.data.length]⟩ :: ⟨true,true,26,[.slice b1 y.nodes.length y.nodes.length,.slice b2 y.data.length y.data.length]⟩ :: z.2)) (fun z=>z.1≤x.nodes.length∧x.nodes.take z.1=y.nodes.take z.1) (fun z=>x.nodes.length - z.1) (0,t1) ⟨by simp,by simp⟩ (by simp [pickF]) (by simp [hc]) ?_
  rintro ⟨k,t⟩ ⟨hk,he2⟩
  simp only at hk he2
  simp [mkF]
  refine aSI (fun hd=>?_) (fun hd=>?_) <;> simp at hd <;> simp [hd]
  · have hd2:k<y.nodes.length:=by omega
    have A1:=nodeAt (k1.ext (Ext.push h (⟨true,true,26,[.slice a1 x.nodes.length x.nodes.length,.slice a2 x.data.length x.data.length]⟩ :: ⟨true,true,26,[.slice b1 y.nodes.length y.nodes.length,.slice b2 y.data.length y.data.length]⟩ :: t))) hd
    have A2:=nodeAt (l1.ext (Ext.push h (⟨true,true,26,[.slice a1 x.nodes.length x.nodes.length,.slice a2 x.data.length x.data.length]⟩ :: ⟨true,true,26,[.slice b1 y.nodes.length y.nodes.length,.slice b2 y.data.length y.data.length]⟩ :: t))) hd2
    obtain ⟨o,off,ax1,fx1,rfl,c0,c1,c2,c3,c4,ck1,-⟩:=A1
    obtain ⟨o',off',ay1,fy1,rfl,d0,d1,d2,d3,d4,dk1,-⟩:=A2
    refine drawK false (by kernel_rfl) ?_
    simp [hd,hd2,c0,c1,c2,c3,c4,d0,d1,d2,d3,d4]
    refine cK (nodeSame_spec_c x.nodes[k] y.nodes[k] ax1 ay1 fx1 fy1 w w' _ ck1 dk1 (hl.2.1 _ (List.getElem_mem hd))) ?_
    rintro _ _ ⟨⟨t2,rfl⟩,rfl⟩
    simp
    refine aSI (fun hf=>?_) (fun hf=>?_) <;> simp at hf <;> simp [hf]
    · exact anext (k+1,t++t2) ⟨hd,take_snoc hd hd2 he2 hf⟩ (by simp only; omega) (by simp [pickF,wS (show k<9223372036854775807 by omega)]) (by simp) (by simp)
    · intro hh; exact absurd (by simp [hh]) hf
  · obtain rfl:k=x.nodes.length:=by omega
    exact take_all hl2 he2
end Go.Proofs.Ytmpgpkdijfcfhaa.Hz
