/- Texts of the calculus and of the program's functions, merged: PP. -/
import Derived.Test.YtmpgpkdijfcfhaaGreatHyGT
namespace Go.Proofs.YtmpgpkdijfcfhaaGreat.Hz
open Go.RowKit
set_option linter.unusedVariables false
set_option linter.unusedSimpArgs false
set_option maxRecDepth 20000
noncomputable def fsPlace (f:Fs) (p:Str) (kind:Int) (data:Str) (t g:Int):Fs × Int :=
  if kindAt f p=0 then fsMake f p kind data t g else if kindAt f p=kind then fsSet f p data t g else (f,4)
theorem fsPlace_nl (f:Fs) (p:Str) (kind:Int) (data:Str) (t g:Int) (h:f.nl≤1048576):(fsPlace f p kind data t g).1.nl≤1048576:=by
  unfold fsPlace
  repeat' split
  all_goals first | exact h | exact fsMake_nl _ _ _ _ _ _ h | exact fsSet_nl _ _ _ _ _ h
section
variable (f:Fs) (a1 a2:Option Addr) (F1 F2:List Nat) (w:Bool) (tNode:TypeId) (h:Hp) (k1:slR w tNode (nodeE w) h f.nodes a1 F1) (k2:slR w 9 strE h f.data a2 F2) (hl:f.nl≤1048576) (p:Str) (kind:Int) (data:Str) (t g:Int) (hp:p.length≤1048576) (hdl:data.length≤1048576)
include k1 k2 hl hp hdl
set_option maxHeartbeats 4000000 in
theorem fsPlace_spec_c :
    ACall Tryz.prog 187 [.agg #[.slice a1 f.nodes.length f.nodes.length,.slice a2 f.data.length f.data.length],.string (S p),.int .i64 kind,.string (S data),.int .i64 t,.int .i64 g] h fun r h'=>∃ v,r=.tuple #[v,.int .i64 (fsPlace f p kind data t g).2]∧FsRes (fsPlace f p kind data t g).1 h h' v:=by
  refine acall mixed Tryz.func187 rfl (by kernel_rfl) ?_
  have hlim:=Fs.lim_of f hl
  simp [Tryz.f187]
  refine cK (kindAt_spec_c f a1 a2 F1 F2 w tNode _ (k1.to (by simp)) (k2.to (by simp)) hl p hp) ?_
  rintro _ _ ⟨⟨T,rfl⟩,rfl⟩
  by_cases e1:kindAt f p=0
  · have hd:fsPlace f p kind data t g=fsMake f p kind data t g:=by simp [fsPlace,e1]
    rw [hd]
    simp [e1]
    refine cK (fsMake_spec_c f a1 a2 F1 F2 w tNode _ (k1.to (by simp)) (k2.to (by simp)) hl p kind data t g hp hdl) ?_
    generalize fsMake f p kind data t g=q
    obtain ⟨fq,cq⟩:=q
    rintro _ _ ⟨v,rfl,kr⟩
    have kr':=kr
    obtain ⟨c1,H1,c2,H2,rfl,p1,p2,dis2⟩:=kr'
    obtain ⟨u3,rfl⟩:=p1.ext.pre
    simp
    have hr:=FsRes.tail (h:=h) (P1:=h++⟨true,true,45,[.slice a1 f.nodes.length f.nodes.length,.slice a2 f.data.length f.data.length]⟩ :: ⟨true,true,45,[.slice none 0 0,.slice none 0 0]⟩ :: T) (P2:=h++⟨true,true,45,[.slice a1 f.nodes.length f.nodes.length,.slice a2 f.data.length f.data.length]⟩ :: ⟨true,true,45,[.slice c1 fq.nodes.length fq.nodes.length,.slice c2 fq.data.length fq.data.length]⟩ :: T) (u:=u3) (by simpa using kr) (by simp) (by simp) (by have:=Ext.push h (⟨true,true,45,[.slice a1 f.nodes.length f.nodes.length,.slice a2 f.data.length f.data.length]⟩ :: ⟨true,true,45,[.slice c1 fq.nodes.length fq.nodes.length,.slice c2 fq.data.length fq.data.length]⟩ :: (T++u3)); simpa only [List.append_assoc,List.cons_append,List.nil_append] using this) (by simp)
    simpa using hr
  have e1':(kindAt f p == 0)=false:=by simpa using e1
  simp [e1']
  by_cases e2:kindAt f p=kind
  rotate_left
  · have e2':(kindAt f p != kind)=true:=by simpa using e2
    have hd:fsPlace f p kind data t g=(f,4):=by simp [fsPlace,e1,e2]
    rw [hd]
    simp [e2']
    refine cK (l6Copy_c f a1 a2 F1 F2 w w w tNode _ _ (k1.to (by simp)) (k2.to (by simp)) hlim.1 hlim.2.2 hlim.2.1) ?_
    rintro _ _ ⟨an,G1,ad,G2,rfl,o1,o2,dis⟩
    obtain ⟨u,rfl⟩:=o1.ext.pre
    simp at o1 o2
    simp
    exact FsRes.early o1 o2 dis
  have e2':(kindAt f p != kind)=false:=by simpa using e2
  have hd:fsPlace f p kind data t g=fsSet f p data t g:=by unfold fsPlace; rw [if_neg e1,if_pos e2]
  rw [hd]
  simp [e2']
  refine cK (fsSet_spec_c f a1 a2 F1 F2 w tNode _ (k1.to (by simp)) (k2.to (by simp)) hl p data t g hp hdl) ?_
  generalize fsSet f p data t g=q
  obtain ⟨fq,cq⟩:=q
  rintro _ _ ⟨v,rfl,kr⟩
  have kr':=kr
  obtain ⟨c1,H1,c2,H2,rfl,p1,p2,dis2⟩:=kr'
  obtain ⟨u3,rfl⟩:=p1.ext.pre
  simp
  have hr:=FsRes.tail (h:=h) (P1:=h++⟨true,true,45,[.slice a1 f.nodes.length f.nodes.length,.slice a2 f.data.length f.data.length]⟩ :: ⟨true,true,45,[.slice none 0 0,.slice none 0 0]⟩ :: T) (P2:=h++⟨true,true,45,[.slice a1 f.nodes.length f.nodes.length,.slice a2 f.data.length f.data.length]⟩ :: ⟨true,true,45,[.slice c1 fq.nodes.length fq.nodes.length,.slice c2 fq.data.length fq.data.length]⟩ :: T) (u:=u3) (by simpa using kr) (by simp) (by simp) (by have:=Ext.push h (⟨true,true,45,[.slice a1 f.nodes.length f.nodes.length,.slice a2 f.data.length f.data.length]⟩ :: ⟨true,true,45,[.slice c1 fq.nodes.length fq.nodes.length,.slice c2 fq.data.length fq.data.length]⟩ :: (T++u3)); simpa only [List.append_assoc,List.cons_append,List.nil_append] using this) (by simp)
  simpa using hr
end
end Go.Proofs.YtmpgpkdijfcfhaaGreat.Hz
