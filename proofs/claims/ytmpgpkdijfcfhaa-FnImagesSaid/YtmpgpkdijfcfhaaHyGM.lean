/- Texts of the calculus and of the program's functions, merged: SD DD0 UL SW. -/
import Derived.Test.YtmpgpkdijfcfhaaHyGK
import Derived.Test.YtmpgpkdijfcfhaaHyGC
import Derived.Test.YtmpgpkdijfcfhaaHyGD
import Derived.Test.YtmpgpkdijfcfhaaHyRT
import Derived.Test.YtmpgpkdijfcfhaaHyGI
namespace Go.Proofs.Ytmpgpkdijfcfhaa.Hz
open Go.RowKit
set_option linter.unusedVariables false
set_option linter.unusedSimpArgs false
set_option maxRecDepth 20000
theorem held_set_mem {ns:List Node} {i:Nat} (hi:i<ns.length) {x:Node} {b:Int} (h:b∈held ns):b∈ns[i].blocks∨b∈held (ns.set i x):=by
  simp only [held,List.mem_flatMap] at h ⊢
  obtain ⟨n,hn,hb⟩:=h
  obtain ⟨j,hj,rfl⟩:=List.getElem_of_mem hn
  by_cases hij:i=j
  · subst hij; exact .inl hb
  · right
    refine ⟨ns[j],?_,hb⟩
    rw [List.mem_iff_getElem]
    exact ⟨j,by simpa using hj,by rw [List.getElem_set_ne hij]⟩
theorem dropData_at:∀ (bs:List Int) (d:List Str) (k:Nat) (hk:k<d.length) (hk':k<(dropData d bs).length),((dropData d bs)[k]=d[k]∨(dropData d bs)[k]=[])∧((∃ b∈bs,b.toNat=k)→(dropData d bs)[k]=[])
  | [],d,k,hk,hk'=>⟨.inl rfl,by simp⟩
  | b :: bs,d,k,hk,hk'=>by
    have hk2:k<(d.set b.toNat []).length:=by simpa using hk
    have hk3:k<(dropData (d.set b.toNat []) bs).length:=by simpa [dropData_len] using hk
    obtain ⟨h1,h2⟩:=dropData_at bs (d.set b.toNat []) k hk2 hk3
    show ((dropData (d.set b.toNat []) bs)[k]=_∨(dropData (d.set b.toNat []) bs)[k]=_)∧(_→(dropData (d.set b.toNat []) bs)[k]=_)
    by_cases hb:b.toNat=k
    · have e:(d.set b.toNat [])[k]=[]:=by subst hb; simp
      rw [e] at h1
      have:(dropData (d.set b.toNat []) bs)[k]=[]:=by rcases h1 with h | h <;> exact h
      exact ⟨.inr this,fun _=>this⟩
    · have e:(d.set b.toNat [])[k]=d[k]:=List.getElem_set_ne hb _
      rw [e] at h1
      refine ⟨h1,?_⟩
      rintro ⟨c,hc,hck⟩
      rcases List.mem_cons.1 hc with rfl | hc
      · exact absurd hck hb
      · exact h2 ⟨c,hc,hck⟩
theorem dropData_off:∀ (bs:List Int) (d:List Str) (k:Nat),(∀ b∈bs,b.toNat≠k)→(dropData d bs)[k]?=d[k]?
  | [],d,k,_=>rfl
  | b :: bs,d,k,h=>by
    show (dropData (d.set b.toNat []) bs)[k]?=_
    rw [dropData_off bs _ k fun c hc=>h c (by simp [hc]),List.getElem?_set_ne (h b (by simp))]
theorem held_disj {ns:List Node} (nd:(held ns).Nodup) {i q:Nat} (hi:i<ns.length) (hq:q<ns.length) (hne:i≠q) {b:Int} (h1:b∈ns[i].blocks) (h2:b∈ns[q].blocks):False:=by
  rcases Nat.lt_or_ge i q with hlt | hge
  · obtain ⟨j,hj,e⟩:=List.getElem_of_mem h2
    obtain ⟨rest,e2⟩:=held_split ns q j hq hj
    rw [e2,e] at nd
    have hm:b∈held (ns.take q):=by
      simp only [held,List.mem_flatMap]
      exact ⟨ns[i],by rw [List.mem_take_iff_getElem]; exact ⟨i,by omega,rfl⟩,h1⟩
    have:=(List.nodup_append.1 nd).2.2 b (by simp [hm]) b (by simp)
    exact this rfl
  · obtain ⟨j,hj,e⟩:=List.getElem_of_mem h1
    obtain ⟨rest,e2⟩:=held_split ns i j hi hj
    rw [e2,e] at nd
    have hm:b∈held (ns.take i):=by
      simp only [held,List.mem_flatMap]
      exact ⟨ns[q],by rw [List.mem_take_iff_getElem]; exact ⟨q,by omega,rfl⟩,h2⟩
    have:=(List.nodup_append.1 nd).2.2 b (by simp [hm]) b (by simp)
    exact this rfl
theorem dropped_shape {f:Fs} (s:ShapeOk f) {i:Nat} (hi:i<f.nodes.length) (h0:i≠0):ShapeOk ⟨f.nodes.set i ⟨0,0,0,0,[]⟩,dropData f.data f.nodes[i].blocks⟩ where
  nodes:=by simpa using s.nodes
  data:=by simpa [dropData_len] using s.data
  root:=fun hk=>by
    simp only [List.length_set] at hk
    simp only
    rw [List.getElem_set_ne h0]
    exact s.root hk
  ok:=fun n hn=>by
    rcases List.mem_or_eq_of_mem_set hn with h | h
    · exact s.ok n h
    · rw [h]; decide
  own:=ownOk_set s.own hi (List.nil_sublist _) (dropData_len _ _)
  blocks:=fun k hk=>by
    simp only [dropData_len] at hk
    obtain ⟨h1,h2⟩:=dropData_at f.nodes[i].blocks f.data k hk (by simpa [dropData_len] using hk)
    obtain ⟨g1,g2⟩:=s.blocks k hk
    refine ⟨?_,?_⟩
    · simp only
      rcases h1 with h | h <;> rw [h]
      · exact g1
      · simp
    · simp only
      rcases g2 with g | g
      · rcases held_set_mem hi g with q | q
        · exact .inr (h2 ⟨_,q,by simp⟩)
        · exact .inl q
      · right
        rcases h1 with h | h
        · rw [h,g]
        · exact h
  lens:=fun n hn j hj=>by
    obtain ⟨q,hq,e⟩:=List.getElem_of_mem hn
    simp only [List.length_set] at hq
    by_cases hqi:i=q
    · subst hqi
      rw [List.getElem_set_self] at e
      subst e
      simp at hj
    · rw [List.getElem_set_ne hqi] at e
      have h1:=s.lens n (by rw [← e]; exact List.getElem_mem hq) j hj
      rw [← h1]
      unfold dlen
      simp only
      rw [dropData_off]
      intro b hb hbk
      have m1:n.blocks[j]∈f.nodes[q].blocks:=by rw [e]; exact List.getElem_mem hj
      have p1:=s.own.1 b (by simp only [held,List.mem_flatMap]; exact ⟨_,List.getElem_mem hi,hb⟩)
      have p2:=s.own.1 _ (by simp only [held,List.mem_flatMap]; exact ⟨_,List.getElem_mem hq,m1⟩)
      have:b=n.blocks[j]:=by omega
      exact held_disj s.own.2 hi hq hqi hb (this ▸ m1)
theorem nodeDrop_shape {f:Fs} (s:ShapeOk f) (i:Int):ShapeOk (nodeDrop f i).1:=by
  unfold nodeDrop
  split
  · rename_i hc
    simp only [Bool.and_eq_true,usable,decide_eq_true_eq] at hc
    have hin:=inR_iff.1 hc.1.2.1
    obtain ⟨j,rfl⟩:=Int.eq_ofNat_of_zero_le hin.1
    have hj:j<f.nodes.length:=by omega
    have:=dropped_shape s hj (by rintro rfl; exact hc.2 rfl)
    rw [nodeAtI_get hj]
    exact this
  · exact s
theorem nodeDrop_kind {f:Fs} {i:Int} {d:Nat} (hd:d<f.nodes.length) (h:i≠d):(nA_ (nodeDrop f i).1 (d:Int)).kind=(nA_ f (d:Int)).kind:=by
  unfold nodeDrop
  split
  · rename_i hc
    simp only [Bool.and_eq_true,usable,decide_eq_true_eq] at hc
    have hin:=inR_iff.1 hc.1.2.1
    simp only [nA_,Int.toNat_natCast]
    rw [List.getElem?_set_ne (by omega)]
  · rfl
theorem nodeDrop_len (f:Fs) (i:Int):(nodeDrop f i).1.nodes.length=f.nodes.length∧(nodeDrop f i).1.data.length=f.data.length:=by
  unfold nodeDrop
  split <;> simp [dropData_len]
theorem l8Copy_c (es:List Ent) (a:Option Addr) (F:List Nat) (w:Bool) (t:TypeId) (h:Hp) (hr:slR w t entE h es a F) (hl:es.length≤1048576) :
    ACall Try.prog 117 [.slice a es.length es.length] h fun r h'=>∃ a' F',r=.slice a' es.length es.length∧Own h 124 entE h' es a' F':=by
  refine acall mixed Try.func117 rfl (by kernel_rfl) ?_
  obtain ⟨a',h',F',eq,own',_⟩:=(empty1 entE h 124).appendSl (P:=Try.prog) (hr.ext (Ext.push h _)) (st:=108) (xt:=108) (bt:=24) (z:=[.string (S []),.int .i64 0]) (by simp) (by simp) (by unfold big; simp; omega) (by unfold big; simp; omega)
  simp at eq own'
  simp [Try.f117,eq]
  exact ⟨_,own'⟩
def dropAt (es:List Ent) (i:Int):List Ent:=if i<0 then es else es.take i.toNat++es.drop (i.toNat+1)
def dirDrop (es:List Ent) (name:Str):List Ent × Bool :=
  (dropAt es (findI (fun e=>e.name == name) es 0),decide (0≤findI (fun e=>e.name == name) es 0))
theorem dirDrop_len (es:List Ent) (name:Str):(dirDrop es name).1.length≤es.length:=by
  simp only [dirDrop,dropAt]
  split
  · exact Nat.le_refl _
  · simp; omega
theorem dirDrop_spec_c (es:List Ent) (name:Str) (a:Option Addr) (F:List Nat) (w:Bool) (h:Hp) (hr:slR w 124 entE h es a F) (hl:es.length≤1048576) :
    ACall Try.prog 114 [.slice a es.length es.length,.string (S name)] h fun r h'=>∃ a' F',r=.tuple #[.slice a' (dirDrop es name).1.length (dirDrop es name).1.length,.bool (dirDrop es name).2]∧Own h 124 entE h' (dirDrop es name).1 a' F':=by
  refine acall mixed Try.func114 rfl (by kernel_rfl) ?_
  simp [Try.f114]
  refine aloop mixed [0,1,6] (fun (k:Nat)=>[.slice a es.length es.length,.string (S name),.int .i64 k]) (fun _=>h) (fun k=>k≤es.length∧findI (fun e=>e.name == name) (es.drop k) k=findI (fun e=>e.name == name) es 0) (fun k=>es.length - k) 0 ⟨by omega,by simp⟩ rfl rfl ?_
  rintro k ⟨hk,he⟩
  simp [mkF]
  refine aSI (fun hb=>?_) (fun hb=>?_) <;> simp at hb <;> simp [hb]
  · obtain ⟨o,off,rfl,c0,c1⟩:=entAt hr hb
    rw [findI_drop _ es k hb] at he
    simp [hb,c0]
    refine aSI (fun hc=>?_) (fun hc=>?_) <;> (have hc':=hc; simp at hc; simp [hc,hc'])
    · have hcb:(es[k].name == name)=true:=by simpa using hc
      have hf:findI (fun e=>e.name == name) es 0=(k:Int):=by rw [← he]; simp [hc]
      have hd:dirDrop es name=(es.take k++es.drop (k+1),true):=by
        have hnl:¬ ((k:Int)<0):=by omega
        simp [dirDrop,hf,dropAt,hnl]
      have hel:=hr.el
      obtain ⟨G,hp,_⟩:=hr.part 0 k (by omega) (by omega)
      obtain ⟨G2,hp2,_⟩:=hr.part (k+1) es.length (by omega) (Nat.le_refl _)
      simp only [List.drop_zero,Nat.zero_mul,Nat.add_zero] at hp
      rw [List.take_length] at hp2
      have hp2:slR w 124 entE h (es.drop (k+1)) (some ⟨o,off+(k+1) * 2,none⟩) G2:=hp2
      have hlen:(es.take k).length=k:=by simp; omega
      have hlen2:(es.drop (k+1)).length=es.length - (k+1):=by simp
      have hcp:=l8Copy_c (es.take k) _ G w _ _ hp (by omega)
      rw [hlen] at hcp
      have w1:IntKind.i64.wrap ((k:Int)+1)=(k:Int)+1:=by rw [wrap_in (by omega) (by omega)]
      have hto:((k:Int)+1).toNat=k+1:=by omega
      have hge:(0:Int)≤(k:Int)+1:=by omega
      have hle:(k:Int)+1≤(es.length:Int):=by omega
      rw [hd]
      refine drawK true (by kernel_rfl) ?_
      simp [asl2_j,hel,Nat.le_of_lt hb]
      refine callK (hcp.cap (Nat.le_of_lt hb)) ?_
      rintro _ H ⟨b,G3,rfl,own⟩
      refine ⟨fun _=>own.ext,?_⟩
      have hel2:=(hr.ext own.ext).el
      obtain ⟨a2,H2,F2,eq,own2,_⟩:=own.appendSl (P:=Try.prog) (hp2.ext own.ext) (st:=108) (xt:=108) (bt:=24) (z:=[.string (S []),.int .i64 0]) (by simp) (by simp) (by unfold big; omega) (by unfold big; omega)
      rw [hlen,hlen2] at eq
      simp [asl2_i,hel2,w1,hto,hge,hle,eq]
      have hlr:k+(es.length - (k+1))=(es.take k++es.drop (k+1)).length:=by simp; omega
      exact ⟨_,own2⟩
    · rw [hc'] at he
      exact anext (k+1) ⟨hb,by simpa using he⟩ (by omega) (by simp [pickF,wS (show k<9223372036854775807 by omega)]) rfl (by simp)
  · obtain rfl:k=es.length:=by omega
    simp [findI] at he
    have hd:dirDrop es name=(es,false):=by simp [dirDrop,← he,dropAt]
    rw [hd]
    refine cK (l8Copy_c es a F w _ h hr hl) ?_
    rintro _ H ⟨b,G,rfl,own⟩
    simp
    exact ⟨_,own⟩
theorem dirI_names (f:Fs) (i:Int):∀ e∈(dirI f i).1,e.name.length≤6:=by
  intro e he
  unfold dirI dirOf at he
  split at he
  · cases he
  · split at he
    · rename_i hk
      simp only [entriesOk,Bool.and_eq_true] at hk
      exact nameH_le (okFrom_names _ _ _ hk.1 e he)
    · cases he
theorem dirI_small {f:Fs} (s:ShapeOk f) (i:Int):(dirI f i).1.length≤80:=by
  have h1:=dirOf_len (contentI f i)
  have h2:=content_small s i
  unfold dirI
  omega
theorem names_sum (es:List Ent) (h:∀ e∈es,e.name.length≤6) (hl:es.length≤80):sumL Ent.nl es≤480:=by
  have:=sumL_all Ent.nl 6 es h
  omega
theorem dirDrop_mem {es:List Ent} {name:Str} {e:Ent} (h:e∈(dirDrop es name).1):e∈es:=by
  simp only [dirDrop,dropAt] at h
  split at h
  · exact h
  · rcases List.mem_append.1 h with h | h
    · exact List.mem_of_mem_take h
    · exact List.mem_of_mem_drop h
theorem FsRes.tail {f:Fs} {h H P1 P2 u:Hp} {v:Value} (k:FsRes f H (P1++u) v) (hP:P1.length=P2.length) (hH:P1.length≤H.length) (e:Ext h (P2++u)) (hle:h.length≤H.length):FsRes f h (P2++u) v:=by
  obtain ⟨b1,G1,b2,G2,rfl,o1,o2,dis⟩:=k
  have same:∀ q,H.length≤q→(P2++u)[q]?=(P1++u)[q]?:=fun q hq=>by
    rw [List.getElem?_append_right (by omega),List.getElem?_append_right (by omega),hP]
  exact ⟨b1,G1,b2,G2,rfl,⟨e,o1.sl.frame fun q hq=>same q (o1.new q hq),o1.nd,fun q hq=>Nat.le_trans hle (o1.new q hq)⟩,⟨e,o2.sl.frame fun q hq=>same q (o2.new q hq),o2.nd,fun q hq=>Nat.le_trans hle (o2.new q hq)⟩,dis⟩
theorem FsRes.low {f:Fs} {h H H' H'':Hp} {v:Value} (k:FsRes f H H' v) (e:Ext h H'') (hle:h.length≤H.length) (same:∀ q,H.length≤q→H''[q]?=H'[q]?):FsRes f h H'' v:=by
  obtain ⟨b1,G1,b2,G2,rfl,o1,o2,dis⟩:=k
  exact ⟨b1,G1,b2,G2,rfl,⟨e,o1.sl.frame fun q hq=>same q (o1.new q hq),o1.nd,fun q hq=>Nat.le_trans hle (o1.new q hq)⟩,⟨e,o2.sl.frame fun q hq=>same q (o2.new q hq),o2.nd,fun q hq=>Nat.le_trans hle (o2.new q hq)⟩,dis⟩
noncomputable def unlinkS (f:Fs) (d:Int) (name:Str):Fs × Bool:=nW_ f d (dirText (dirDrop (dirI f d).1 name).1)
section
variable (f:Fs) (a1 a2:Option Addr) (F1 F2:List Nat) (w:Bool) (tNode:TypeId) (h:Hp) (k1:slR w tNode (nodeE w) h f.nodes a1 F1) (k2:slR w 9 strE h f.data a2 F2) (hl:f.nl≤1048576) (s:ShapeOk f) (d:Nat) (hd:d<f.nodes.length) (name:Str)
include k1 k2 hl s hd
end
theorem lit1_str (H0:Hp) (x:Str):slR true 9 strE (H0++[⟨true,true,9,[.string (S x)]⟩]) [x] (some ⟨H0.length,0,none⟩) [H0.length]:=by
  have:=(Own.lit (h0:=H0) (h:=H0) (e:=9) (A:=strE) (xs:=[x]) (css:=[[.string (S x)]]) (Fs:=[[]]) (Ext.refl H0) ⟨⟨rfl,rfl⟩,trivial⟩ (by simp) (by simp)).sl
  simpa using this
theorem follow_hidden {f:Fs} (e2:fsOk f=true):follow f [[126]] 0=hiddenNode f:=by
  have hroot:=(shape_root (fsOk_shape e2)).1
  simp only [follow,hroot,if_true,hiddenNode,e2]
  rcases dirFind_cases (dirI f 0).1 [126] with hw | ⟨e,he,hw⟩
  · rw [hw]; rfl
  · rw [hw]
    have:=dirOf_pos _ e he
    rw [if_neg (by omega)]
section
variable (f:Fs) (a1 a2:Option Addr) (F1 F2:List Nat) (w:Bool) (tNode:TypeId) (h:Hp) (k1:slR w tNode (nodeE w) h f.nodes a1 F1) (k2:slR w 9 strE h f.data a2 F2) (hl:f.nl≤1048576)
include k1 k2 hl
end
end Go.Proofs.Ytmpgpkdijfcfhaa.Hz
