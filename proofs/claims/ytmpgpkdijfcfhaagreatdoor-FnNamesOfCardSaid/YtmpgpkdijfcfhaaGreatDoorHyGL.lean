/- Texts of the calculus and of the program's functions, merged: TN. -/
import Derived.Test.YtmpgpkdijfcfhaaGreatDoorHyGH
import Derived.Test.YtmpgpkdijfcfhaaGreatDoorHyGO
namespace Go.Proofs.YtmpgpkdijfcfhaaGreatDoor.Hz
open Go.RowKit
set_option linter.unusedVariables false
set_option linter.unusedSimpArgs false
set_option maxRecDepth 20000
def under (xs:List Item) (d:Str):List Str:=(xs.filter fun x=>above x.path == d).map fun x=>last x.path
def treeNames (xs:List Item) (d:Str):List Str:=if treeOk xs && (treeGet xs d).2 && decide ((treeGet xs d).1.kind=2) then under xs d else []
theorem under_take (xs:List Item) (d:Str) (i:Nat) (hi:i<xs.length):under (xs.take (i+1)) d=under (xs.take i) d++(if above xs[i].path=d then [last xs[i].path] else []):=by
  unfold under
  rw [List.take_succ_eq_append_getElem hi,List.filter_append,List.map_append]
  congr 1
  by_cases h:above xs[i].path=d <;> simp [h]
theorem under_len (xs:List Item) (d:Str):(under xs d).length≤xs.length:=by unfold under; rw [List.length_map]; exact List.length_filter_le _ _
section
variable (xs:List Item) (d:Str) (a:Option Addr) (F:List Nat) (w:Bool) (h:Hp) (hx:slR w 33 itemE h xs a F) (hl:xs.length+sumL Item.nl xs≤1048576)
include hx hl
set_option maxHeartbeats 2000000 in
theorem treeNames_impl_c:ACall Tryz.prog 6 [.agg #[.slice a xs.length xs.length],.string (S d)] h fun r h'=>∃ b G,r=.slice b (treeNames xs d).length (treeNames xs d).length∧Own h 9 strE h' (treeNames xs d) b G:=by
  refine acall mixed Tryz.func6 rfl (by kernel_rfl) ?_
  have hlx:xs.length≤1048576:=by omega
  simp [Tryz.f6]
  refine cK (treeGet_impl_c xs d a F w _ _ (hx.to (by simp)) hlx) ?_
  rintro _ _ ⟨⟨t1,rfl⟩,rfl⟩
  simp [Item.v]
  cases e1:(treeGet xs d).2
  · have hf:treeNames xs d=[]:=by simp [treeNames,e1]
    rw [hf]
    simp
    exact ⟨_,Own.nil (Ext.push _ _)⟩
  simp
  by_cases e2:(treeGet xs d).1.kind=2
  rotate_left
  · have hf:treeNames xs d=[]:=by simp [treeNames,e2]
    have e2':((treeGet xs d).1.kind != 2)=true:=by simpa using e2
    rw [hf]
    simp [e2']
    exact ⟨_,Own.nil (Ext.push _ _)⟩
  simp [e2]
  obtain ⟨B,hB⟩:∃ B,B=h++[(⟨true,true,26,[.slice a xs.length xs.length]⟩:Ob)]:=⟨_,rfl⟩
  have eB:∀ (T:Hp),Ext B (h++⟨true,true,26,[.slice a xs.length xs.length]⟩ :: T):=fun T=>by rw [hB]; simpa using Ext.push (h++[(⟨true,true,26,[.slice a xs.length xs.length]⟩:Ob)]) T
  have eh:Ext h B:=by rw [hB]; exact Ext.push _ _
  have cB:cellAt B h.length 0=some (.slice a xs.length xs.length):=by rw [hB]; simp
  clear hB
  refine cK (treeOk_impl_c xs a F w _ (hx.to (by simp)) hl) ?_
  rintro _ H1 ⟨⟨t2,hH1⟩,rfl⟩
  have eH1:Ext B H1:=by rw [hH1]; exact (eB _).trans (Ext.push _ _)
  cases e3:treeOk xs
  · have hf:treeNames xs d=[]:=by simp [treeNames,e3]
    rw [hf]
    simp
    exact ⟨_,Own.nil (eh.trans eH1)⟩
  have hf:treeNames xs d=under xs d:=by simp [treeNames,e1,e2,e3]
  rw [hf]
  simp
  have o0:Own B 9 strE (H1++[⟨true,true,9,[]⟩]) [] (some ⟨H1.length,0,none⟩) [H1.length]:=by
    have:=Own.lit (h0:=B) (h:=H1) (e:=9) (A:=strE) (xs:=[]) (css:=[]) (Fs:=[]) eH1 trivial (by simp) (by simp)
    simpa using this
  simp [cell_up (eH1.trans (Ext.push H1 [⟨true,true,9,[]⟩])) cB]
  refine aloop mixed [1,7,30,31,32] (fun (x:Nat × Option Addr × Hp)=>[.string (S d),.slice x.2.1 (under (xs.take x.1) d).length (under (xs.take x.1) d).length,.slice a xs.length xs.length,.int .i64 xs.length,.int .i64 x.1]) (fun x=>x.2.2)
    (fun x=>x.1≤xs.length∧∃ G,Own B 9 strE x.2.2 (under (xs.take x.1) d) x.2.1 G) (fun x=>xs.length - x.1) (0,some ⟨H1.length,0,none⟩,H1++[⟨true,true,9,[]⟩]) ⟨by simp,_,by simpa [under] using o0⟩ (by simp [pickF,under]) rfl ?_
  clear o0 eH1
  rintro ⟨i,b,H⟩ ⟨hi,G,own⟩
  simp only at hi own
  have ex:Ext h H:=eh.trans own.ext
  simp [mkF]
  refine aSI (fun hc=>?_) (fun hc=>?_) <;> simp at hc <;> simp [hc]
  · obtain ⟨o,off,rfl,c0,c1,c2,c3⟩:=itemAt (hx.ext ex) hc
    have hnl:xs[i].path.length≤1048576:=by
      have:=sumL_mem Item.nl (List.getElem_mem hc)
      have h2:xs[i].nl=xs[i].path.length+xs[i].data.length:=rfl
      omega
    have hw:IntKind.i64.wrap ((i:Int)+1)=((i+1:Nat):Int):=wS (by omega)
    have ht:=under_take xs d i hc
    have hlu:=under_len (xs.take i) d
    have hli:(xs.take i).length≤i:=by simp; omega
    simp [hc,c0,c1,c2,c3]
    refine cK (above_impl_c xs[i].path _ hnl) ?_
    rintro _ _ ⟨⟨t3,rfl⟩,rfl⟩
    by_cases he:above xs[i].path=d
    · rw [if_pos he] at ht
      simp [he]
      refine cK (last_impl_c xs[i].path _ hnl) ?_
      rintro _ _ ⟨⟨t4,rfl⟩,rfl⟩
      obtain ⟨a',H',F',eq,own'⟩:=(own.to (h':=H++(⟨true,true,33,[.string (S xs[i].path),.int .i64 xs[i].kind,.string (S xs[i].data),.int .i64 xs[i].time]⟩ :: (t3++t4))) ⟨_,rfl⟩).append1 (P:=Tryz.prog) (last xs[i].path) (cs:=[.string (S (last xs[i].path))]) rfl (st:=29) (xt:=29) (bt:=16) (z:=[.string (S [])]) (by simp) (by simp) (by unfold big; omega) (by unfold big; omega)
      rw [← ht] at own'
      have hlen:(under (xs.take i) d).length+1=(under (xs.take (i+1)) d).length:=by rw [ht]; simp
      rw [hlen] at eq
      simp at eq
      simp [eq]
      exact anext (i+1,a',H') ⟨hc,F',own'⟩ (by simp only; omega) (by simp [pickF,hw]) rfl (by simp)
    · rw [if_neg he,List.append_nil] at ht
      have he':(above xs[i].path == d)=false:=by simpa using he
      simp [he']
      refine anext (i+1,b,_) ⟨hc,G,?_⟩ (by simp only; omega) (by simp [pickF,hw,ht]) rfl (by simp)
      rw [ht]
      exact own.to (by simp)
  · obtain rfl:i=xs.length:=by omega
    rw [List.take_length] at own ⊢
    simp
    exact ⟨_,own.of_new eh⟩
set_option maxHeartbeats 2000000 in
theorem treeNames_spec_c:ACall Tryz.prog 7 [.agg #[.slice a xs.length xs.length],.string (S d)] h fun r h'=>∃ b G,r=.slice b (treeNames xs d).length (treeNames xs d).length∧Own h 9 strE h' (treeNames xs d) b G:=by
  refine acall mixed Tryz.func7 rfl (by kernel_rfl) ?_
  have hlx:xs.length≤1048576:=by omega
  obtain ⟨B,hB⟩:∃ B,B=h++[(⟨true,true,26,[.slice a xs.length xs.length]⟩:Ob)]:=⟨_,rfl⟩
  have eB:∀ (T:Hp),Ext B (h++⟨true,true,26,[.slice a xs.length xs.length]⟩ :: T):=fun T=>by rw [hB]; simpa using Ext.push (h++[(⟨true,true,26,[.slice a xs.length xs.length]⟩:Ob)]) T
  have eh:Ext h B:=by rw [hB]; exact Ext.push _ _
  have cB:cellAt B h.length 0=some (.slice a xs.length xs.length):=by rw [hB]; simp
  have hlB:B.length=h.length+1:=by rw [hB]; simp
  simp [Tryz.f7]
  have o0:Own B 9 strE (h++[⟨true,true,26,[.slice a xs.length xs.length]⟩,⟨true,true,9,[]⟩]) [] (some ⟨h.length+1,0,none⟩) [h.length+1]:=by
    have:=Own.lit (h0:=B) (h:=B) (e:=9) (A:=strE) (xs:=[]) (css:=[]) (Fs:=[]) (Ext.refl B) trivial (by simp) (by simp)
    rw [hlB] at this
    rw [hB] at this ⊢
    simpa using this
  refine cK (treeGet_spec_c xs d a F w _ _ (hx.to (by simp)) hlx) ?_
  rintro _ _ ⟨⟨t1,rfl⟩,rfl⟩
  simp [Item.v]
  refine cK (treeOk_spec_c xs a F w _ (hx.to (by simp)) hl) ?_
  rintro _ H1 ⟨⟨t2,hH1⟩,rfl⟩
  have eH1:Ext B H1:=by rw [hH1]; exact (eB _).trans (Ext.push _ _)
  have o1:Own B 9 strE H1 [] (some ⟨h.length+1,0,none⟩) [h.length+1]:=by rw [hH1]; exact o0.to (by simp)
  have hitem:cellAt H1 (h.length+(t1.length+1+1)) 1=some (.int .i64 (treeGet xs d).1.kind):=by rw [hH1]; simp
  clear hB o0 eB
  simp
  cases e3:treeOk xs
  · have hf:treeNames xs d=[]:=by simp [treeNames,e3]
    rw [hf]
    simp
    exact ⟨_,o1.of_new eh⟩
  simp
  cases e1:(treeGet xs d).2
  · have hf:treeNames xs d=[]:=by simp [treeNames,e1]
    rw [hf]
    simp
    exact ⟨_,o1.of_new eh⟩
  simp [hitem]
  by_cases e2:(treeGet xs d).1.kind=2
  rotate_left
  · have hf:treeNames xs d=[]:=by simp [treeNames,e2]
    have e2':((treeGet xs d).1.kind != 2)=true:=by simpa using e2
    rw [hf]
    simp [e2']
    exact ⟨_,o1.of_new eh⟩
  have hf:treeNames xs d=under xs d:=by simp [treeNames,e1,e2,e3]
  rw [hf]
  simp [e2]
  refine aloop mixed [1,2,5,8] (fun (x:Nat × Option Addr × Hp)=>[.string (S d),.pointer (some ⟨h.length,0,none⟩),.slice x.2.1 (under (xs.take x.1) d).length (under (xs.take x.1) d).length,.int .i64 x.1]) (fun x=>x.2.2)
    (fun x=>x.1≤xs.length∧∃ G,Own B 9 strE x.2.2 (under (xs.take x.1) d) x.2.1 G) (fun x=>xs.length - x.1) (0,some ⟨h.length+1,0,none⟩,H1) ⟨by simp,_,by simpa [under] using o1⟩ (by simp [pickF,under]) rfl ?_
  clear o1 eH1 hitem hH1
  rintro ⟨i,b,H⟩ ⟨hi,G,own⟩
  simp only at hi own
  have ex:Ext h H:=eh.trans own.ext
  have cb:=cell_up own.ext cB
  simp [mkF,cb]
  refine aSI (fun hc=>?_) (fun hc=>?_) <;> simp at hc <;> simp [hc]
  · obtain ⟨o,off,rfl,c0,c1,c2,c3⟩:=itemAt (hx.ext ex) hc
    have hnl:xs[i].path.length≤1048576:=by
      have:=sumL_mem Item.nl (List.getElem_mem hc)
      have h2:xs[i].nl=xs[i].path.length+xs[i].data.length:=rfl
      omega
    have hw:IntKind.i64.wrap ((i:Int)+1)=((i+1:Nat):Int):=wS (by omega)
    have ht:=under_take xs d i hc
    have hlu:=under_len (xs.take i) d
    have hli:(xs.take i).length≤i:=by simp; omega
    simp [hc,cb,c0]
    refine cK (above_spec_c xs[i].path _ hnl) ?_
    rintro _ _ ⟨⟨t3,rfl⟩,rfl⟩
    by_cases he:above xs[i].path=d
    · rw [if_pos he] at ht
      simp [he,hc,cell_up (Ext.push H t3) cb,cell_up (Ext.push H t3) c0]
      refine cK (last_spec_c xs[i].path _ hnl) ?_
      rintro _ _ ⟨⟨t4,rfl⟩,rfl⟩
      obtain ⟨a',H',F',eq,own'⟩:=(own.to (h':=H++(t3++t4)) ⟨_,rfl⟩).append1 (P:=Tryz.prog) (last xs[i].path) (cs:=[.string (S (last xs[i].path))]) rfl (st:=29) (xt:=29) (bt:=16) (z:=[.string (S [])]) (by simp) (by simp) (by unfold big; omega) (by unfold big; omega)
      rw [← ht] at own'
      have hlen:(under (xs.take i) d).length+1=(under (xs.take (i+1)) d).length:=by rw [ht]; simp
      rw [hlen] at eq
      simp at eq
      simp [eq]
      exact anext (i+1,a',H') ⟨hc,F',own'⟩ (by simp only; omega) (by simp [pickF,hw]) rfl (by simp)
    · rw [if_neg he,List.append_nil] at ht
      have he':(above xs[i].path == d)=false:=by simpa using he
      simp [he']
      refine anext (i+1,b,_) ⟨hc,G,?_⟩ (by simp only; omega) (by simp [pickF,hw,ht]) rfl (by simp)
      rw [ht]
      exact own.to (by simp)
  · obtain rfl:i=xs.length:=by omega
    rw [List.take_length] at own ⊢
    simp
    exact ⟨_,own.of_new eh⟩
end
end Go.Proofs.YtmpgpkdijfcfhaaGreatDoor.Hz
