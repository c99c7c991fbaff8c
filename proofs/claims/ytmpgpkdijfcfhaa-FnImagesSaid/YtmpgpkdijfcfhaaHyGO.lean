/- Texts of the calculus and of the program's functions, merged: LS PQ DQ DX. -/
import Derived.Test.YtmpgpkdijfcfhaaHyGF
import Derived.Test.YtmpgpkdijfcfhaaHyGK
import Derived.Test.YtmpgpkdijfcfhaaHyGM
import Derived.Test.YtmpgpkdijfcfhaaHyGI
import Derived.Test.YtmpgpkdijfcfhaaHyGN
namespace Go.Proofs.Ytmpgpkdijfcfhaa.Hz
open Go.RowKit
set_option linter.unusedVariables false
set_option linter.unusedSimpArgs false
set_option maxRecDepth 20000
def last (p:Str):Str:=(names p).getLastD []
theorem last_at (p:Str) (h:0<(names p).length):last p=(names p)[(names p).length - 1]:=by
  unfold last
  rw [List.getLastD_eq_getLast?,List.getLast?_eq_getElem?,List.getElem?_eq_getElem (by omega)]
  rfl
theorem last_spec_c (p:Str) (h:Hp) (hl:p.length≤1048576) :
    ACall Try.prog 80 [.string (S p)] h fun r h'=>(∃ t,h'=h++t)∧r=.string (S (last p)):=by
  refine acall mixed Try.func80 rfl (by kernel_rfl) ?_
  simp [Try.f80]
  refine cK (names_spec_c p _ hl) ?_
  rintro _ _ ⟨a,F,rfl,own⟩
  obtain ⟨u,rfl⟩:=own.ext.pre
  have hlen:=parts_len 47 p
  have hnl:(names p).length≤p.length+1:=by unfold names; split <;> (try split) <;> simp <;> omega
  by_cases h0:(names p).length=0
  · have:last p=[]:=by unfold last; rw [List.eq_nil_of_length_eq_zero h0]; rfl
    simp [h0,this]
  · have h1:0<(names p).length:=by omega
    have hw:IntKind.i64.wrap (((names p).length:Int) - 1)=(((names p).length - 1:Nat):Int):=by rw [wrap_in (by omega) (by omega)]; omega
    have hlt:(names p).length - 1<(names p).length:=by omega
    obtain ⟨o,off,rfl,c0⟩:=strEAt own.sl hlt
    have h0':(((names p).length:Int) == 0)=false:=by simp; exact fun e=>h0 (by rw [e]; rfl)
    simp [h0',hw,hlt,c0,last_at p h1]
theorem pathOf_names {l:List Str} (hl:l.length≤4) (ha:l.all nameOk=true):pathOk (pathOf l)=true∧names (pathOf l)=l:=by
  cases l with
  | nil=>exact ⟨rfl,rfl⟩
  | cons x xs =>
    have hp:=parts_raw_cons x xs
    have hf:=flat_ok _ ha
    rw [hf] at hp
    have hpg:pathGood (rawP (x :: xs))=true:=by
      simp only [pathGood,hp,List.head?_cons,List.length_cons,List.drop_succ_cons,List.drop_zero,ha,Bool.and_true]
      have:inR ((xs.length+1+1:Nat):Int) 2 5=true:=inR_iff.2 (by simp at hl; omega)
      rw [this]; rfl
    have hx:nameOk x=true:=by simp at ha; exact ha.1
    have hx1:=(nameOk_len hx).1
    have hne:rawP (x :: xs)≠[47]:=by
      cases x with
      | nil=>simp at hx1
      | cons c cs=>simp [rawP]
    have hok:pathOk (rawP (x :: xs))=true:=by simp [pathOk,hpg]
    have hn:names (rawP (x :: xs))=x :: xs:=by rw [names,if_neg hne,if_pos hpg,hp]; rfl
    have hany:((x :: xs).any fun s=>!nameOk s)=false:=by
      rw [List.any_eq_false]
      intro y hy
      rw [List.all_eq_true] at ha
      simp [ha y hy]
    have hl':decide (4<(x :: xs).length)=false:=decide_eq_false (by omega)
    have he:pathOf (x :: xs)=rawP (x :: xs):=by
      rw [pathOf,hany,hl',← raw_join]
      rfl
    rw [he]
    exact ⟨hok,hn⟩
theorem above_ok {p:Str} (h:pathOk p=true):pathOk (above p)=true∧names (above p)=(names p).take ((names p).length - 1):=by
  unfold above
  rw [if_pos h]
  refine pathOf_names ?_ ?_
  · have:=names_len p
    simp
    omega
  · rw [List.all_eq_true]
    intro q hq
    exact names_mem (List.mem_of_mem_take hq)
theorem names_pos {p:Str} (h:pathOk p=true) (hr:p≠[47]):0<(names p).length:=by
  have hg:pathGood p=true:=by simpa [pathOk,hr] using h
  rw [names,if_neg hr,if_pos hg]
  simp only [pathGood,Bool.and_eq_true] at hg
  have:=inR_iff.1 hg.1.2
  simp
  omega
theorem follow_snoc {f:Fs}:∀ (ns:List Str) (n:Str) (i:Int),Okd f i→0≤follow f (ns++[n]) i→Okd f (follow f ns i)∧(nA_ f (follow f ns i)).kind=2
  | [],n,i,o,h=>by
    simp only [List.nil_append,follow] at h
    refine ⟨o,?_⟩
    simp only [follow]
    by_cases hk:(nA_ f i).kind=2
    · exact hk
    · rw [if_neg hk] at h; omega
  | m :: ns,n,i,o,h=>by
    simp only [List.cons_append,follow] at h ⊢
    by_cases hk:(nA_ f i).kind=2
    · rw [if_pos hk] at h ⊢
      by_cases hd:dirFind (dirI f i).1 m<0
      · rw [if_pos hd] at h; omega
      · rw [if_neg hd] at h ⊢
        rcases o.find hk m with h1 | h1
        · rw [h1] at hd; exact absurd (by decide) hd
        · exact follow_snoc ns n _ h1 h
    · rw [if_neg hk] at h; omega
theorem dir_ok {f:Fs} {p:Str} (e1:fsOk f=true) (h:pathOk p=true) (hr:p≠[47]) (hi:0≤walk f p) :
    walk f (above p)=follow f ((names p).take ((names p).length - 1)) 0∧Okd f (walk f (above p))∧(nA_ f (walk f (above p))).kind=2:=by
  obtain ⟨a1,a2⟩:=above_ok h
  have hw:walk f (above p)=follow f ((names p).take ((names p).length - 1)) 0:=by simp [walk,e1,a1,a2]
  have hp:=names_pos h hr
  have hs:names p=(names p).take ((names p).length - 1)++[(names p)[(names p).length - 1]]:=by
    have h1:=List.take_succ_eq_append_getElem (l:=names p) (i:=(names p).length - 1) (by omega)
    rw [← h1,show (names p).length - 1+1=(names p).length by omega,List.take_length]
  have hwp:walk f p=follow f (names p) 0:=by simp [walk,e1,h]
  rw [hwp,hs] at hi
  have:=follow_snoc _ _ 0 (okd_root e1) hi
  rw [hw]
  exact ⟨rfl,this⟩
noncomputable def fsDrop (f:Fs) (p:Str):Fs × Int :=
  if fsOk f=false then (f,10) else if pathOk p=false∨p=[47] then (f,1) else if walk f p<0 then (f,2)
  else if (nA_ f (walk f p)).kind=2∧0<(nA_ f (walk f p)).size then (f,8)
  else ((unlinkS (nodeDrop f (walk f p)).1 (walk f (above p)) (last p)).1,0)
theorem drop_kind {f:Fs} {i:Int} {d:Nat} (hd:d<f.nodes.length) (hk:(nA_ f (d:Int)).kind=2):(nA_ (nodeDrop f i).1 (d:Int)).kind=2∨(nA_ (nodeDrop f i).1 (d:Int)).kind=0:=by
  by_cases h:i=d
  · subst h
    unfold nodeDrop
    split
    · right
      simp [nA_,hd]
    · exact .inl hk
  · left
    rw [nodeDrop_kind hd h]
    exact hk
theorem ACall.cap2 {P:Program} {f:FuncId} {a:Option Addr} {n c:Nat} {v0:Value} {avs:List Value} {h:Hp} {R:Value→Hp→Prop} (k:ACall P f (v0 :: .slice a n n :: avs) h R) (hc:n≤c):ACall P f (v0 :: .slice a n c :: avs) h R :=
  k.conv fun _ _ r=>by
    obtain ⟨v,vs,rfl,h1,h2⟩:=All2.cons_iff.1 r
    obtain ⟨v',vs',rfl,h3,h4⟩:=All2.cons_iff.1 h2
    exact ⟨h1,relV_cap hc h3,h4⟩
noncomputable def leaveS (f:Fs) (d:Int) (name:Str):Fs × Bool:=nW_ f d (dirText (dirDrop (dirK f d).1 name).1)
theorem dirK_small {f:Fs} (s:ShapeOk f) (i:Int):(dirK f i).1.length≤80:=by
  unfold dirK
  split
  · exact dirI_small s i
  · simp
theorem dirK_names (f:Fs) (i:Int):∀ e∈(dirK f i).1,e.name.length≤6:=by
  unfold dirK
  split
  · exact dirI_names f i
  · simp
theorem leaveS_eq {f:Fs} {d:Int} (name:Str) (h:(nA_ f d).kind=2∨(nA_ f d).kind=0):leaveS f d name=unlinkS f d name:=by
  rcases h with h | h
  · simp [leaveS,unlinkS,dirK,h]
  · have hu:usable f d=false:=by simp [usable,h]
    simp [leaveS,unlinkS,nW_,hu]
section
variable (f:Fs) (a1 a2:Option Addr) (F1 F2:List Nat) (w:Bool) (tNode:TypeId) (h:Hp) (k1:slR w tNode (nodeE w) h f.nodes a1 F1) (k2:slR w 9 strE h f.data a2 F2) (hl:f.nl≤1048576) (s:ShapeOk f) (d:Nat) (hd:d<f.nodes.length) (name:Str)
include k1 k2 hl s hd
set_option maxHeartbeats 2000000 in
theorem leaveK_c :
    ACall Try.prog 105 [.agg #[.slice a1 f.nodes.length f.nodes.length,.slice a2 f.data.length f.data.length],.int .i64 d,.string (S name)] h fun r h'=>FsRes (leaveS f d name).1 h h' r:=by
  refine acall mixed Try.func105 rfl (by kernel_rfl) ?_
  simp [Try.f105]
  have hs1:=dirK_small s (d:Int)
  have hn1:=dirK_names f (d:Int)
  have hs2:=dirDrop_len (dirK f (d:Int)).1 name
  have hn2:sumL Ent.nl (dirDrop (dirK f (d:Int)).1 name).1≤480:=names_sum _ (fun e he=>hn1 e (dirDrop_mem he)) (by omega)
  have hdt:(dirText (dirDrop (dirK f (d:Int)).1 name).1).length≤1048576:=by
    have:=dirText_len (dirDrop (dirK f (d:Int)).1 name).1 (dirDrop (dirK f (d:Int)).1 name).1.length
    rw [List.take_length] at this
    omega
  refine cK (l9Dir_c f a1 a2 F1 F2 w tNode _ (k1.to (by simp)) (k2.to (by simp)) hl s d hd) ?_
  rintro _ _ ⟨a',F',rfl,oe⟩
  obtain ⟨u1,rfl⟩:=oe.ext.pre
  simp
  refine cK (dirDrop_spec_c _ name a' F' true _ (oe.sl.to (by simp)) (by omega)) ?_
  rintro _ _ ⟨b',G',rfl,od⟩
  obtain ⟨u2,rfl⟩:=od.ext.pre
  simp
  refine drawS true 8 [0,1,2,3,4,5,6,7] [9,10] (by simp; rfl) (by simp; rfl) (by simp; rfl) (by kernel_rfl) ?_
  simp
  refine callK (dirText_spec_c _ b' G' true _ _ (od.sl.to (by simp)) (by omega) (by omega)) ?_
  rintro _ _ ⟨⟨u3,rfl⟩,rfl⟩
  refine ⟨fun _=>Ext.push _ _,?_⟩
  simp
  refine callK (nodeWrite_spec_c f a1 a2 F1 F2 w tNode _ (k1.to (by simp)) (k2.to (by simp)) hl d _ hdt) ?_
  rw [show nW_ f (d:Int) (dirText (dirDrop (dirK f (d:Int)).1 name).1)=leaveS f d name from rfl]
  rintro _ _ ⟨v,rfl,b1,G1,b2,G2,rfl,o1,o2,dis⟩
  obtain ⟨u4,rfl⟩:=o1.ext.pre
  refine ⟨fun _=>Ext.push _ _,?_⟩
  simp
  simp at o1 o2
  have q1:=o1.grow (Ext.push _ [⟨true,true,26,[.slice b1 (leaveS f d name).1.nodes.length (leaveS f d name).1.nodes.length,.slice b2 (leaveS f d name).1.data.length (leaveS f d name).1.data.length]⟩])
  have q2:=o2.grow (Ext.push _ [⟨true,true,26,[.slice b1 (leaveS f d name).1.nodes.length (leaveS f d name).1.nodes.length,.slice b2 (leaveS f d name).1.data.length (leaveS f d name).1.data.length]⟩])
  have hr:=FsRes.early (h:=h) (t1:=u1++(u2++u3)) (u:=u4++[⟨true,true,26,[.slice b1 (leaveS f d name).1.nodes.length (leaveS f d name).1.nodes.length,.slice b2 (leaveS f d name).1.data.length (leaveS f d name).1.data.length]⟩]) (B:=⟨true,true,26,[.slice a1 f.nodes.length f.nodes.length,.slice a2 f.data.length f.data.length]⟩) (R:=⟨true,true,26,[.slice none 0 0,.slice none 0 0]⟩) (R':=⟨true,true,26,[.slice b1 (leaveS f d name).1.nodes.length (leaveS f d name).1.nodes.length,.slice b2 (leaveS f d name).1.data.length (leaveS f d name).1.data.length]⟩) (g:=(leaveS f d name).1) (by simpa using q1) (by simpa using q2) dis
  simpa using hr
end
section
variable (f:Fs) (a1 a2:Option Addr) (F1 F2:List Nat) (w:Bool) (tNode:TypeId) (h:Hp) (k1:slR w tNode (nodeE w) h f.nodes a1 F1) (k2:slR w 9 strE h f.data a2 F2) (hl:f.nl≤1048576) (p:Str) (hp:p.length≤1048576)
include k1 k2 hl hp
set_option maxHeartbeats 4000000 in
theorem fsDrop_spec_c :
    ACall Try.prog 87 [.agg #[.slice a1 f.nodes.length f.nodes.length,.slice a2 f.data.length f.data.length],.string (S p)] h fun r h'=>∃ v,r=.tuple #[v,.int .i64 (fsDrop f p).2]∧FsRes (fsDrop f p).1 h h' v:=by
  refine acall mixed Try.func87 rfl (by kernel_rfl) ?_
  have hlim:=Fs.lim_of f hl
  simp [Try.f87]
  refine cK (l6Copy_c f a1 a2 F1 F2 w w w tNode _ _ (k1.to (by simp)) (k2.to (by simp)) hlim.1 hlim.2.2 hlim.2.1) ?_
  rintro _ _ ⟨an,G1,ad,G2,rfl,o1,o2,dis⟩
  obtain ⟨u,rfl⟩:=o1.ext.pre
  simp at o1 o2
  have kk:=FsOut.startG o1 o2 dis
  clear o1 o2 dis
  simp
  generalize h.length+(u.length+1+1)=oi at kk ⊢
  generalize (h++_ :: _ :: (u++_):Hp)=H at kk ⊢
  have cc:=kk.cells
  have dn:=kk.done [.slice an f.nodes.length f.nodes.length,.slice ad f.data.length f.data.length] rfl
  refine cK (fsOk_spec_c f a1 a2 F1 F2 w tNode _ (k1.ext kk.ext) (k2.ext kk.ext) hl) ?_
  rintro _ _ ⟨⟨t1,rfl⟩,rfl⟩
  replace kk:=kk.grow t1
  generalize H++t1=H at kk ⊢
  clear cc dn
  have cc:=kk.cells
  have dn:=kk.done [.slice an f.nodes.length f.nodes.length,.slice ad f.data.length f.data.length] rfl
  cases e1:fsOk f
  · have hd:fsDrop f p=(f,10):=by simp [fsDrop,e1]
    rw [hd]
    simp [cc,dn.1,dn.2.1,dn.2.2.1]
    exact kk.res_ _ _ rfl rfl
  simp
  refine cK (pathOk_spec_c p _ hp) ?_
  rintro _ _ ⟨⟨t1,rfl⟩,rfl⟩
  replace kk:=kk.grow t1
  generalize H++t1=H at kk ⊢
  clear cc dn
  have cc:=kk.cells
  have dn:=kk.done [.slice an f.nodes.length f.nodes.length,.slice ad f.data.length f.data.length] rfl
  cases e4:pathOk p
  · have hd:fsDrop f p=(f,1):=by simp [fsDrop,e1,e4]
    rw [hd]
    simp [cc,dn.1,dn.2.1,dn.2.2.1]
    exact kk.res_ _ _ rfl rfl
  simp
  by_cases e5:p=[47]
  · have hd:fsDrop f p=(f,1):=by simp [fsDrop,e1,e4,e5]
    rw [hd]
    simp [e5,cc,dn.1,dn.2.1,dn.2.2.1]
    exact kk.res_ _ _ rfl rfl
  have e5':(p == [47])=false:=by simpa using e5
  simp [e5']
  refine cK (names_spec_c p _ hp) ?_
  rintro _ _ ⟨an2,Fn2,rfl,on⟩
  obtain ⟨u2,rfl⟩:=on.ext.pre
  replace kk:=kk.grow u2
  have hnl:=names_len p
  generalize H++u2=H at kk on ⊢
  clear cc dn
  have cc:=kk.cells
  have dn:=kk.done [.slice an f.nodes.length f.nodes.length,.slice ad f.data.length f.data.length] rfl
  simp [cc]
  refine cK (follow_spec_c f a1 a2 F1 F2 w tNode _ (k1.ext kk.ext) (k2.ext kk.ext) hl e1 (names p) an2 Fn2 true _ (on.sl.to (by simp)) (by omega)) ?_
  have hwk:follow f (names p) 0=walk f p:=by simp [walk,e1,e4]
  rw [hwk]
  rintro _ _ ⟨⟨t3,rfl⟩,rfl⟩
  replace kk:=kk.grow t3
  have on2:=on.sl.ext (Ext.push H t3)
  clear on
  generalize H++t3=H at kk on2 ⊢
  clear cc dn
  have cc:=kk.cells
  have dn:=kk.done [.slice an f.nodes.length f.nodes.length,.slice ad f.data.length f.data.length] rfl
  rcases walk_okd f p with hw | ⟨-,-,o⟩
  · have hd:fsDrop f p=(f,2):=by simp [fsDrop,e1,e4,e5,hw]
    rw [hd]
    simp [hw,cc,dn.1,dn.2.1,dn.2.2.1]
    exact kk.res_ _ _ rfl rfl
  obtain ⟨hdw,od,kd⟩:=dir_ok e1 e4 e5 o.1
  have hnp:=names_pos e4 e5
  obtain ⟨m,hm⟩:=Int.eq_ofNat_of_zero_le o.1
  obtain ⟨d,hdm⟩:=Int.eq_ofNat_of_zero_le od.1
  have hlt:m<f.nodes.length:=by have:=o.2.1; omega
  have hltd:d<f.nodes.length:=by have:=od.2.1; omega
  have hnn:¬ ((m:Int)<0):=by omega
  obtain ⟨oo,offo,b1,B1,ea,c0,-,-,c3,-,-,-⟩:=nodeAt (k1.ext kk.ext) hlt
  subst ea
  have hkn:=nodeAtI_get hlt
  rw [hm]
  simp [hnn,hlt,c0,c3,cc]
  by_cases e6:f.nodes[m].kind=2∧0<f.nodes[m].size
  · have e61:=e6.1
    have e62:=e6.2
    have hd:fsDrop f p=(f,8):=by simp [fsDrop,e1,e4,e5,hm,hnn,hkn,e61,e62]
    rw [hd]
    simp [e61,e62,hlt,c3,cc,dn.1,dn.2.1,dn.2.2.1]
    exact kk.res_ _ _ rfl rfl
  have sh:=fsOk_shape e1
  have hdn:=nodeDrop_len f (m:Int)
  have hnl2:(nodeDrop f (m:Int)).1.nl≤1048576:=by have:=nodeDrop_nl f (m:Int); omega
  have hf:fsDrop f p=((unlinkS (nodeDrop f (m:Int)).1 (d:Int) (last p)).1,0):=by
    have e6':¬ (f.nodes[m].kind=2∧0<f.nodes[m].size):=e6
    simp only [fsDrop,e1,e4,hm,hnn,hkn,e6',hdm,if_false,Bool.true_eq_false,e5,or_self]
  have hnd:(nodeDrop f (m:Int)).1.nodes.length=f.nodes.length:=hdn.1
  have hkd:(nA_ (nodeDrop f (m:Int)).1 (d:Int)).kind=2∨(nA_ (nodeDrop f (m:Int)).1 (d:Int)).kind=0:=drop_kind hltd (by rw [← hdm]; exact kd)
  rw [hf,← leaveS_eq (last p) hkd]
  refine aSI (fun e7=>?_) (fun e7=>?_)
  rotate_left
  have e7c:(f.nodes[m].kind == 2)=false:=by simpa using e7
  simp [e7c,cc]
  rotate_left
  have e7':f.nodes[m].kind=2:=by simpa using e7
  have e8:¬ (0<f.nodes[m].size):=fun hh=>e6 ⟨e7',hh⟩
  simp [e7',hlt,c3,e8,cc]
  all_goals
    refine cK (nodeDrop_spec_c f (some ⟨oo,offo,none⟩) a2 F1 F2 w tNode _ (k1.ext kk.ext) (k2.ext kk.ext) hl m) ?_
    rintro _ _ ⟨v,rfl,b1,G1,b2,G2,rfl,o1,o2,dis⟩
    obtain ⟨u3,rfl⟩:=o1.ext.pre
    replace kk:=kk.grow (u3++[⟨true,true,26,[.slice b1 (nodeDrop f (m:Int)).1.nodes.length (nodeDrop f (m:Int)).1.nodes.length,.slice b2 (nodeDrop f (m:Int)).1.data.length (nodeDrop f (m:Int)).1.data.length]⟩])
    replace on2:=on2.ext (Ext.push H (u3++[⟨true,true,26,[.slice b1 (nodeDrop f (m:Int)).1.nodes.length (nodeDrop f (m:Int)).1.nodes.length,.slice b2 (nodeDrop f (m:Int)).1.data.length (nodeDrop f (m:Int)).1.data.length]⟩]))
    clear cc dn
    simp
    have cc:=kk.cells
    refine drawK true (by kernel_rfl) ?_
    have hlt1:(names p).length - 1<(names p).length:=by omega
    obtain ⟨os,offs,rfl,-⟩:=strEAt on2 hlt1
    have hel:=on2.el
    have hw:IntKind.i64.wrap (((names p).length:Int) - 1)=(((names p).length - 1:Nat):Int):=by rw [wrap_in (by omega) (by omega)]; omega
    simp [cc,hw,asl2_j,hel]
    obtain ⟨Fp,kp,-⟩:=on2.part 0 ((names p).length - 1) (by omega) (by omega)
    simp only [List.drop_zero,Nat.zero_mul,Nat.add_zero] at kp
    have hlp:((names p).take ((names p).length - 1)).length=(names p).length - 1:=by simp
    have hfo:=follow_spec_c f (some ⟨oo,offo,none⟩) a2 F1 F2 w tNode _ (k1.ext kk.ext) (k2.ext kk.ext) hl e1 ((names p).take ((names p).length - 1)) _ Fp true _ kp (by omega)
    rw [hlp,← hdw,hdm] at hfo
    refine callK (hfo.cap2 (by omega)) ?_
    rintro _ _ ⟨⟨t5,rfl⟩,rfl⟩
    refine ⟨fun _=>Ext.push _ _,?_⟩
    simp
    refine callK (last_spec_c p _ hp) ?_
    rintro _ _ ⟨⟨t6,rfl⟩,rfl⟩
    refine ⟨fun _=>Ext.push _ _,?_⟩
    simp
    refine callK (leaveK_c (nodeDrop f (m:Int)).1 b1 b2 G1 G2 true _ _ (o1.sl.to (by simp)) (o2.sl.to (by simp)) hnl2 (nodeDrop_shape sh _) d (by rw [hnd]; exact hltd) (last p)) ?_
    generalize (leaveS (nodeDrop f (m:Int)).1 (d:Int) (last p)).1=g
    rintro _ _ kr
    have kr':=kr
    obtain ⟨c1,H1,c2,H2,rfl,p1,p2,dis2⟩:=kr'
    obtain ⟨u4,rfl⟩:=p1.ext.pre
    refine ⟨fun _=>Ext.push _ _,?_⟩
    have kk3:=kk.grow (t5++(t6++u4))
    simp only [List.append_assoc,List.cons_append,List.nil_append] at kk3 kr
    have dn:=kk3.done [.slice c1 g.nodes.length g.nodes.length,.slice c2 g.data.length g.data.length] rfl
    simp [dn.1,dn.2.1,dn.2.2.1]
    refine kr.low (kk3.ext.set (by omega) _ _) (by have:=kk.ext.1; simp at this ⊢; omega) fun q hq=>?_
    have h3:=get_lt kk.out
    have h4:=kk.oi2
    simp at hq h3
    rw [sAg,if_neg (by omega)]
end
end Go.Proofs.Ytmpgpkdijfcfhaa.Hz
