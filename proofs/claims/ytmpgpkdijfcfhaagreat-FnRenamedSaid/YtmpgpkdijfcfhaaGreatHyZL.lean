/- Renamed, and renamed back. No program in sight. -/
import Derived.Test.YtmpgpkdijfcfhaaGreatHyZK
import Derived.Test.YtmpgpkdijfcfhaaGreatHyFR
namespace Go.Proofs.YtmpgpkdijfcfhaaGreat.Hz
open Go.RowKit
set_option linter.unusedSectionVars false
set_option linter.unusedVariables false
set_option linter.unusedSimpArgs false
set_option maxRecDepth 20000
theorem fsRename_no {f:Fs} {p q:Str} {gen:Int} (h:(fsRename f p q gen).2≠0):(fsRename f p q gen).1=f:=by
  unfold fsRename at h ⊢
  repeat' split
  all_goals first | rfl | skip
  rename_i c1 c2 c3 c4 c5 c6 c7
  rw [if_neg c1,if_neg c2,if_neg c3,if_neg c4,if_pos c5,if_pos c6,if_pos c7] at h
  exact absurd rfl h
theorem fsRename_ok {f:Fs} {p q:Str} {gen:Int} (h:(fsRename f p q gen).2=0):fsOk f=true∧inR gen 0 1000000=true∧(pathOk p=true∧p≠[47]∧pathOk q=true∧q≠[47]∧within q p=false)∧0≤walk f p∧walk f q<0∧(rnC f p q).2.2=0∧(rnL f p q).2=true∧fsOk (rnG f p q gen)=true∧(fsRename f p q gen).1=rnG f p q gen:=by
  unfold fsRename at h ⊢
  split at h
  · cases h
  rename_i c1
  rw [if_neg c1]
  split at h
  · cases h
  rename_i c2
  rw [if_neg c2]
  split at h
  · cases h
  rename_i c3
  rw [if_neg c3]
  split at h
  · cases h
  rename_i c4
  rw [if_neg c4]
  split at h
  · rename_i c5
    rw [if_pos c5]
    split at h
    · rename_i c6
      rw [if_pos c6]
      split at h
      · rename_i c7
        rw [if_pos c7]
        simp only [Bool.and_eq_false_iff,not_or,Bool.not_eq_false] at c1
        simp only [not_or,Bool.not_eq_false,Bool.not_eq_true] at c2
        exact ⟨c1.1,c1.2,⟨c2.1,c2.2.1,c2.2.2.1,c2.2.2.2.1,c2.2.2.2.2⟩,by omega,by omega,c5,c6,c7,rfl⟩
      · cases h
    · cases h
  · rename_i c5
    exact absurd h c5
structure Rn (f G:Fs) (p q:Str) (P d i:Nat) (U g1 L:Fs):Prop where
  eP:Edge f (P:Int) ⟨last p,(i:Int)⟩
  wP:follow f ((names p).take ((names p).length - 1)) 0=(P:Int)
  wi:follow f (names p) 0=(i:Int)
  DU:DirW f U P (dirDrop (dirI f (P:Int)).1 (last p)).1
  EU:∀ j x,Edge U j x↔Edge f j x∧x.node≠(i:Int)
  K:CW U g1 [] ((names q).take ((names q).length - 1)) 0 d
  DL:DirW g1 L d (insE (dirI g1 (d:Int)).1 (last q) (i:Int))
  okL:entriesOk (dirI g1 (d:Int)).1=true∧entriesOk (insE (dirI g1 (d:Int)).1 (last q) (i:Int))=true
  EL:∀ j x,Edge L j x↔Edge g1 j x∨(j=(d:Int)∧x=⟨last q,(i:Int)⟩)
  EG:∀ j x,Edge G j x↔Edge L j x
  likeG:∀ j:Int,0≤j→Like L G j∧dirI G j=dirI L j∧(nodeAtI G j).blocks=(nodeAtI L j).blocks
  lenG:G.nodes.length=f.nodes.length
  freeG:freeOf G=freeOf L
theorem rn_steps {f:Fs} {dep:Int→Nat} (C:Cert f dep) {p q:Str} {gen:Int} (hp:pathOk p=true) (hpr:p≠[47]) (hw:0≤walk f p) (hc:(rnC f p q).2.2=0) (hl:(rnL f p q).2=true) (okG:fsOk (rnG f p q gen)=true) :
    ∃ P d i U g1 L,Rn f (rnG f p q gen) p q P d i U g1 L∧walk f p=(i:Int):=by
  obtain ⟨P,i,e,ha,hi,he,hen,hei,hfi,hfP⟩:=path_edge C hp hpr hw
  have ee:e=⟨last p,(i:Int)⟩:=by
    obtain ⟨a,b⟩:=e
    simp only at hen hei
    rw [hen,hei]
  subst ee
  obtain ⟨-,DU,EU⟩:=unlink_w C.sh he (fun j x h1 h2=>C.uni j _ x _ h1 he h2)
  have hU:rnU f p=unlinkS f (P:Int) (last p):=by unfold rnU; rw [ha]
  unfold rnG at okG ⊢
  unfold rnL at hl okG ⊢
  unfold rnC at hc hl okG ⊢
  rw [hU] at hc hl okG ⊢
  rw [hi] at hl okG ⊢
  simp only at DU EU
  generalize (unlinkS f (P:Int) (last p)).1=U at *
  obtain ⟨d,hd,K⟩:=climb_w ((names q).take ((names q).length - 1)) DU.sh [] 0 rfl hc
  rw [show (((0:Nat):Int))=0 from rfl] at hd K
  rw [hd] at hl okG ⊢
  generalize (climbS U ((names q).take ((names q).length - 1)) 0).1=g1 at *
  have hdl:=kind_range (f:=g1) (i:=(d:Int)) (by omega) (by rw [K.dk]; decide)
  obtain ⟨DL,okL,EL⟩:=link_w K.sh (by omega) K.dk hl
  have hto:((i:Nat):Int).toNat=i:=by omega
  rw [hto] at okG ⊢
  generalize (linkS g1 (d:Int) (last q) (i:Int)).1=L at *
  obtain ⟨s1,s2,s3,s4⟩:=genSet_like L i gen
  exact ⟨P,d,i,U,g1,L,⟨he,hfP,hfi,DU,EU,K,DL,okL,EL,genSet_edge L i gen,s2,by rw [s1,DL.len,K.len,DU.len],genSet_free DL.sh (fsOk_shape okG)⟩,by first | exact hi | rfl⟩
section
variable {f G:Fs} {p q:Str} {P d i:Nat} {U g1 L:Fs} (R:Rn f G p q P d i U g1 L) {dep dg:Int→Nat} (C:Cert f dep) (D:Cert G dg)
include R C D
theorem Rn.likeF {j:Int} (hj:0≤j) (hk:(nodeAtI f j).kind≠0):Like f G j:=by
  have l1:=R.DU.like j hj
  have l2:=R.K.like j hj (by rw [l1.kind]; exact hk)
  have l3:=R.DL.like j hj
  have l4:=(R.likeG j hj).1
  exact ((l1.trans l2).trans l3).trans l4
theorem Rn.ik:(nodeAtI f (i:Int)).kind≠0∧(1≤(i:Int)∧(i:Int)≤9):=⟨(lost_lt (C.lo _ _ R.eP)).2,mem_node R.eP.2.2.2⟩
theorem Rn.stay {j:Int} {x:Ent} (h:Edge f j x) (hx:x.node≠(i:Int)):Edge G j x:=(R.EG j x).2 ((R.EL j x).2 (.inl (R.K.up j x ((R.EU j x).2 ⟨h,hx⟩))))
theorem Rn.g1G {j:Int} {x:Ent} (h:Edge g1 j x):Edge G j x:=(R.EG j x).2 ((R.EL j x).2 (.inl h))
theorem Rn.g1_ne {j:Int} {x:Ent} (h:Edge g1 j x):x.node≠(i:Int):=fun e0=>by
  rcases R.K.neu j x h with h1 | h1
  · exact ((R.EU j x).1 h1).2 e0
  · have l1:=R.DU.like (i:Int) (by omega)
    rw [e0,l1.kind] at h1
    exact (R.ik C D).1 h1
theorem Rn.wq (hq:pathOk q=true) (hqr:q≠[47]):follow G ((names q).take ((names q).length - 1)) 0=(d:Int)∧follow G (names q) 0=(i:Int):=by
  have h1:=R.K.fin
  rw [List.nil_append] at h1
  have h2:follow G ((names q).take ((names q).length - 1)) 0=(d:Int):=by
    rw [follow_up (fun j x h=>R.g1G C D h) _ _ rfl (by omega),h1]
  refine ⟨h2,?_⟩
  rw [names_split hq hqr]
  exact at_ext (f:=G) (e:=⟨last q,(i:Int)⟩) (by rw [h2]; exact (R.EG _ _).2 ((R.EL _ _).2 (.inr ⟨rfl,rfl⟩)))
theorem Rn.wPG (hp:pathOk p=true) (hpr:p≠[47]):follow G ((names p).take ((names p).length - 1)) 0=(P:Int):=by
  have hd1:=at_dep C _ (names p) rfl (by rw [R.wi]; omega)
  rw [R.wi] at hd1
  have hpos:=names_pos hp hpr
  rw [follow_upto C (x:=(i:Int)) (fun j x h hx=>R.stay C D h hx) _ _ rfl (by rw [hd1]; simp; omega) (by rw [R.wP]; omega),R.wP]
theorem Rn.gone (hp:pathOk p=true) (hpr:p≠[47]) (hq:pathOk q=true) (hqr:q≠[47]) (hwi:within q p=false) (hne:p≠q):follow G (names p) 0<0:=by
  by_cases h0:0≤follow G (names p) 0
  · exfalso
    have hsp:=names_split hp hpr
    have hsq:=names_split hq hqr
    have hPG:=R.wPG C D hp hpr
    have h0':=h0
    rw [hsp] at h0'
    obtain ⟨e,h1,h2,h3,h4⟩:=edge_at h0'
    rw [hPG] at h2
    rw [← hsp] at h4
    rcases (R.EL _ _).1 ((R.EG _ _).1 h2) with h5 | ⟨h5,h6⟩
    · rcases R.K.neu _ _ h5 with h6 | h6
      · obtain ⟨h7,h8⟩:=(R.EU _ _).1 h6
        have n1:=dirFind_name (mem_names h7.2.2.2) e h7.2.2.2
        have n2:=dirFind_name (mem_names h7.2.2.2) ⟨last p,(i:Int)⟩ R.eP.2.2.2
        simp only at n2
        rw [h3,n2] at n1
        exact h8 n1.symm
      · -- a directory that was made,at the old path
        have hen:=mem_node h5.2.2.2
        have hlo:=lost_lt (D.lo _ _ h2)
        have hk1:(nodeAtI g1 e.node).kind≠0:=by
          have l3:=R.DL.like e.node (by omega)
          have l4:=(R.likeG e.node (by omega)).1
          rw [← l3.kind,← l4.kind]
          exact hlo.2
        obtain ⟨ms,hm,hms⟩:=R.K.way e.node (by omega) h6 hk1
        rw [List.nil_append] at hms
        have hG:follow G ms 0=e.node:=by rw [follow_up (fun j x h=>R.g1G C D h) _ _ rfl (by omega),hms]
        have heq:names p=ms:=at_uniq D _ _ _ rfl h0 (by rw [h4,hG])
        have hpre:names p <+: names q:=by rw [heq]; exact hm.trans (List.take_prefix _ _)
        have:within q p=true:=by
          unfold within
          rw [hq,hp]
          simp only [Bool.true_and,Bool.and_eq_true,decide_eq_true_eq]
          exact ⟨hpre.length_le,(List.prefix_iff_eq_take.1 hpre).symm⟩
        rw [this] at hwi; cases hwi
    · -- the new entry,at the old path
      have hl:last p=last q:=by rw [← h3,h6]
      have hdq:=(R.wq C D hq hqr).1
      have hpd:follow G ((names p).take ((names p).length - 1)) 0=follow G ((names q).take ((names q).length - 1)) 0:=by rw [hPG,hdq,h5]
      have hin:=at_uniq D _ _ _ rfl (by rw [hPG]; omega) hpd
      have hnn:names p=names q:=by rw [hsp,hsq,hin,hl]
      apply hne
      rw [← pathOf_of_names hp hpr,← pathOf_of_names hq hqr,hnn]
  · omega
end
theorem sumL_perm {α:Type} (g:α→Nat) {a b:List α} (h:a.Perm b):sumL g a=sumL g b:=by
  induction h with
  | nil=>rfl
  | cons x _ ih=>simp only [sumL,ih]
  | swap x y l=>simp only [sumL]; omega
  | trans _ _ h1 h2=>exact h1.trans h2
theorem bf_step {n m:Nat} (h:n≤m+8):blocksFor (n:Int)≤blocksFor (m:Int)+1:=by
  unfold blocksFor
  split
  · split
    · omega
    · split <;> omega
  · split
    · split
      · omega
      · split <;> omega
    · split
      · omega
      · split <;> omega
theorem bf_pos {n:Nat} (h:1≤n):1≤blocksFor (n:Int):=by
  unfold blocksFor
  split
  · omega
  · split <;> omega
theorem free_nonneg {f:Fs} (s:ShapeOk f):0≤freeOf f:=by
  rw [← freeTo_all (shapeOk_t s)]
  omega
theorem drop_text {es:List Ent} (ok:entriesOk es=true) {e:Ent} (he:e∈es):es.length=(dirDrop es e.name).1.length+1∧sumL Ent.nl es=sumL Ent.nl (dirDrop es e.name).1+e.name.length:=by
  have ho:=ok_ord ok
  have hn:es.Pairwise fun a b=>a.name≠b.name:=by
    refine List.Pairwise.imp (fun {a b} hl e=>?_) ho
    rw [e,less_irr] at hl
    cases hl.1
  have nd:es.Nodup:=hn.imp fun h e0=>h (by rw [e0])
  have sub:=drop_sub es e.name
  have hp:es.Perm (e :: (dirDrop es e.name).1):=by
    refine perm_of_iff nd (List.nodup_cons.2 ⟨fun hm=>((dirDrop_iff hn e.name e).1 hm).2 rfl,sub.nodup nd⟩) fun x=>?_
    rw [List.mem_cons,dirDrop_iff hn]
    constructor
    · intro hx
      by_cases h1:x.name=e.name
      · left
        exact pw_inj (g:=Ent.name) hn hx he h1
      · exact .inr ⟨hx,h1⟩
    · rintro (rfl | h)
      · exact he
      · exact h.1
  have h1:=hp.length_eq
  have h2:=sumL_perm Ent.nl hp
  simp only [List.length_cons] at h1
  simp only [sumL] at h2
  have h3:Ent.nl e=e.name.length:=rfl
  omega
theorem renamed_law {f:Fs} {p q:Str} {gen:Int} (h:(fsRename f p q gen).2=0) :
    fsOk (fsRename f p q gen).1=true∧walk (fsRename f p q gen).1 p=-1∧kindAt (fsRename f p q gen).1 q=kindAt f p∧(fsRename (fsRename f p q gen).1 q p gen).2=0 ∧
      (∀ x∈treeItems f,treeGet (treeItems (fsRename (fsRename f p q gen).1 q p gen).1) x.path=(x,true))∧(treeItems f).length≤(treeItems (fsRename (fsRename f p q gen).1 q p gen).1).length:=by
  obtain ⟨ok,hgen,⟨hp,hpr,hq,hqr,hwi⟩,hw,hwq,hc,hl,okG,hres⟩:=fsRename_ok h
  obtain ⟨dep,C⟩:=fsOk_cert ok
  obtain ⟨P,d,i,U,g1,L,R,hwi2⟩:=rn_steps C hp hpr hw hc hl okG
  rw [hres]
  generalize rnG f p q gen=G at *
  obtain ⟨dg,D⟩:=fsOk_cert okG
  have hne:p≠q:=fun e=>by rw [← e] at hwq; omega
  have hgone:=R.gone C D hp hpr hq hqr hwi hne
  have hwGp:walk G p=-1:=by
    have:walk G p=follow G (names p) 0:=by simp [walk,okG,hp]
    rw [this]
    exact follow_neg G _ 0 (Int.le_refl _) hgone
  obtain ⟨hdq,hiq⟩:=R.wq C D hq hqr
  have hwGq:walk G q=(i:Int):=by simp [walk,okG,hq,hiq]
  obtain ⟨ik,in9⟩:=R.ik C D
  have lik:=R.likeF C D (j:=(i:Int)) (by omega) ik
  have hfq:follow f (names q) 0<0:=by
    have:walk f q=follow f (names q) 0:=by simp [walk,ok,hq]
    omega
  have eq':Edge G (d:Int) ⟨last q,(i:Int)⟩:=(R.EG _ _).2 ((R.EL _ _).2 (.inr ⟨rfl,rfl⟩))
  obtain ⟨-,DU2,EU2⟩:=unlink_w D.sh eq' (fun j x h1 h2=>D.uni j _ x _ h1 eq' h2)
  simp only at DU2 EU2
  have hab:walk G (above q)=(d:Int):=by
    have hab:=above_ok hq
    simp [walk,okG,hab.1,hab.2,hdq]
  have hU2:rnU G q=unlinkS G (d:Int) (last q):=by unfold rnU; rw [hab]
  generalize hV:(unlinkS G (d:Int) (last q)).1=V at *
  have hPG:=R.wPG C D hp hpr
  have hPk:(nodeAtI f (P:Int)).kind=2:=R.eP.2.2.1
  have g1V:∀ j x,Edge g1 j x→Edge V j x:=fun j x h=>(EU2 j x).2 ⟨R.g1G C D h,R.g1_ne C D h⟩
  have UV:∀ j x,Edge f j x→x.node≠(i:Int)→Edge V j x:=fun j x h hx=>(EU2 j x).2 ⟨R.stay C D h hx,hx⟩
  have hPV:follow V ((names p).take ((names p).length - 1)) 0=(P:Int):=by
    have hd1:=at_dep C _ (names p) rfl (by rw [R.wi]; omega)
    rw [R.wi] at hd1
    have hpos:=names_pos hp hpr
    rw [follow_upto C (x:=(i:Int)) (fun j x h hx=>UV j x h hx) _ _ rfl (by rw [hd1]; simp; omega) (by rw [R.wP]; omega),R.wP]
  have likeV:∀ j:Int,0≤j→Like G V j:=DU2.like
  have hPkG:(nodeAtI G (P:Int)).kind=2:=by rw [(R.likeF C D (by omega) (by rw [hPk]; decide)).kind]; exact hPk
  have hPkV:(nodeAtI V (P:Int)).kind=2:=by rw [(likeV _ (by omega)).kind]; exact hPkG
  have hclimb:climbS V ((names p).take ((names p).length - 1)) 0=(V,(P:Int),0):=climb_there V _ 0 _ (Int.le_refl _) hPV (by omega) hPkV
  have hC2:rnC G q p=(V,(P:Int),0):=by unfold rnC; rw [hU2,hV,hclimb]
  have hPl:=kind_range (f:=V) (i:=(P:Int)) (by omega) (by rw [hPkV]; decide)
  have okV:entriesOk (dirI V (P:Int)).1=true:=by
    by_cases hPd:(P:Int)=(d:Int)
    · have:P=d:=by omega
      subst this
      rw [DU2.dir]
      exact (drop_ok (mem_ok eq'.2.2.2) (last q)).1
    · rw [DU2.oth _ (by omega) hPd]
      exact (dirI_two (D.read _ (by omega) (by rw [← DU2.len]; exact hPl) hPkG)).1
  have hEV:∀ x,x∈(dirI V (P:Int)).1→Edge V (P:Int) x:=fun x hx=>⟨by omega,hPl,hPkV,hx⟩
  have hn1:∀ x∈(dirI V (P:Int)).1,x.name≠last p:=fun x hx e0=>by
    have hE:=(EU2 _ _).1 (hEV x hx)
    have hx2:Edge G (follow G ((names p).take ((names p).length - 1)) 0) x:=by rw [hPG]; exact hE.1
    have h1:=at_ext hx2
    rw [e0,← names_split hp hpr] at h1
    have:=mem_node hx
    omega
  have hn2:∀ x∈(dirI V (P:Int)).1,x.node≠(i:Int):=fun x hx=>((EU2 _ _).1 (hEV x hx)).2
  have hnmP:nameH (last p)=true:=(ok_all (mem_ok R.eP.2.2.2) _ R.eP.2.2.2).1
  have okI:=ins_ok okV hnmP in9 hn1 hn2
  have hIl:(dirText (insE (dirI V (P:Int)).1 (last p) (i:Int))).length≤80:=by
    have:=okI
    unfold entriesOk at this
    simp only [Bool.and_eq_true,decide_eq_true_eq] at this
    exact this.2
  have txt:∀ es:List Ent,entriesOk es=true→(dirText es).length=2 * es.length+sumL Ent.nl es:=fun es he=>dirText_two es (fun e h=>⟨nameH_le (ok_all he e h).1,(ok_all he e h).2⟩)
  have tI:=txt _ okI
  rw [insE_len,insE_nl] at tI
  have tV:=txt _ okV
  have hlp6:(last p).length≤6:=nameH_le hnmP
  have hrV:(dirI V (P:Int)).2=true:=by
    by_cases hPd:(P:Int)=(d:Int)
    · have:P=d:=by omega
      subst this
      rw [DU2.dir]
    · rw [DU2.oth _ (by omega) hPd]
      exact D.read _ (by omega) (by rw [← DU2.len]; exact hPl) hPkG
  have hroom:blocksFor ((dirText (insE (dirI V (P:Int)).1 (last p) (i:Int))).length:Int)≤freeOf V+((nodeAtI V (P:Int)).blocks.length:Int):=by
    have fV:=DU2.free
    have bV:=DU2.bl
    have hcV:(dirText (dirI V (P:Int)).1).length≤(contentI V (P:Int)).length:=(dirI_two hrV).2
    have hb1:=bl_content DU2.sh (i:=P) (by omega) hcV
    have fG:=R.freeG
    have fL:=R.DL.free
    have bL:=R.DL.bl
    have bG:=(R.likeG (d:Int) (by omega)).2.2
    have dG:=(R.likeG (d:Int) (by omega)).2.1
    rw [R.DL.dir] at dG
    have hadd:dirAdd (dirI g1 (d:Int)).1 (last q) (i:Int)=(insE (dirI g1 (d:Int)).1 (last q) (i:Int),true):=by
      unfold dirAdd
      rw [R.okL.1,R.okL.2]
      rfl
    have had:=(added (es:=(dirI g1 (d:Int)).1) (nm:=last q) (nd:=(i:Int)) (by rw [hadd])).2.2.2.2.1
    rw [hadd] at had
    simp only at had
    have hdrop:(dirDrop (dirI G (d:Int)).1 (last q)).1=(dirI g1 (d:Int)).1:=by rw [dG]; simp only; rw [had]
    rw [hdrop] at fV bV
    rw [bG,fG] at fV
    rcases R.K.last with hsame | ⟨hk0,hd0,hb0⟩
    · -- nothing was made
      have hdr:=drop_text (mem_ok R.eP.2.2.2) R.eP.2.2.2
      simp only at hdr
      have tf:=txt _ (mem_ok R.eP.2.2.2)
      have hcf:=bl_content C.sh (i:=P) (by have:=R.eP.2.1; omega) (dirI_two (mem_read R.eP.2.2.2)).2
      have fU:=R.DU.free
      have bU:=R.DU.bl
      have hff:=free_nonneg C.sh
      have dU:=R.DU.dir
      rw [hsame] at fV bV bL fL
      have key:(dirI V (P:Int)).1=(dirDrop (dirI f (P:Int)).1 (last p)).1∧freeOf f+((nodeAtI f (P:Int)).blocks.length:Int)≤freeOf V+((nodeAtI V (P:Int)).blocks.length:Int):=by
        by_cases hPd:P=d
        · subst hPd
          rw [DU2.dir]
          simp only
          rw [hdrop,hsame,dU]
          exact ⟨rfl,by omega⟩
        · have hPd':(P:Int)≠(d:Int):=by omega
          rw [DU2.oth _ (by omega) hPd',(R.likeG (P:Int) (by omega)).2.1,R.DL.oth _ (by omega) hPd',hsame,dU]
          refine ⟨rfl,?_⟩
          rw [DU2.blo P (fun e=>hPd e.symm),(R.likeG (P:Int) (by omega)).2.2,R.DL.blo P (fun e=>hPd e.symm),hsame]
          have hdkU:(nodeAtI U (d:Int)).kind=2:=by rw [← hsame]; exact R.K.dk
          have hdlU:=kind_range (f:=U) (i:=(d:Int)) (by omega) (by rw [hdkU]; decide)
          have hrU:(dirI U (d:Int)).2=true:=by
            rw [R.DU.oth _ (by omega) (fun e=>hPd' e.symm)]
            refine C.read _ (by omega) (by rw [← R.DU.len]; exact hdlU) ?_
            rw [← (R.DU.like _ (by omega)).kind]; exact hdkU
          have hcU:=bl_content R.DU.sh (i:=d) (by omega) (dirI_two hrU).2
          omega
      rw [key.1] at tI
      have:(dirText (insE (dirI V (P:Int)).1 (last p) (i:Int))).length=(dirText (dirI f (P:Int)).1).length:=by rw [key.1]; omega
      rw [this]
      omega
    · -- a directory was made
      have hfL:=free_nonneg R.DL.sh
      have tL:=txt _ R.okL.2
      rw [insE_len,insE_nl] at tL
      have hp1:=bf_pos (n:=(dirText (insE (dirI g1 (d:Int)).1 (last q) (i:Int))).length) (by omega)
      rw [hd0] at fV
      have h0:blocksFor ((dirText ([]:List Ent)).length:Int)=0:=by decide
      simp only at fV
      rw [h0] at fV
      have hst:=bf_step (n:=(dirText (insE (dirI V (P:Int)).1 (last p) (i:Int))).length) (m:=(dirText (dirI V (P:Int)).1).length) (by omega)
      omega
  have hlink:(linkS V (P:Int) (last p) (i:Int)).2=true:=by
    unfold linkS
    have hadd:dirAdd (dirI V (P:Int)).1 (last p) (i:Int)=(insE (dirI V (P:Int)).1 (last p) (i:Int),true):=by
      unfold dirAdd
      rw [okV,okI]
      rfl
    rw [hadd]
    simp only [if_true]
    exact write_room DU2.sh (by omega) (by rw [hPkV]; decide) hIl hroom
  obtain ⟨DH,-,EH⟩:=link_w DU2.sh (by omega) hPkV hlink
  generalize hH0:(linkS V (P:Int) (last p) (i:Int)).1=H0 at *
  obtain ⟨s1,s2,-,-⟩:=genSet_like H0 i gen
  have eH:=genSet_edge H0 i gen
  have hil:=kind_range (f:=G) (i:=(i:Int)) (by omega) (by rw [lik.kind]; exact ik)
  have shH:ShapeOk (genSet H0 i gen):=by
    unfold genSet
    split
    · exact DH.sh
    · rename_i hk2
      have hlH:i<H0.nodes.length:=by rw [DH.len,DU2.len]; omega
      have hkH:(nodeAtI H0 (i:Int)).kind≠0:=by
        rw [(DH.like _ (by omega)).kind,(DU2.like _ (by omega)).kind,lik.kind]; exact ik
      have ho:=nodeOk_iff.1 (DH.sh.ok _ (List.getElem_mem hlH))
      rw [← nodeAtI_get hlH] at ho
      have hti:0≤(nodeAtI H0 (i:Int)).time∧(nodeAtI H0 (i:Int)).time≤100000:=by
        rcases ho with h1 | h1
        · exact absurd h1.1 hkH
        · exact h1.2.2.2.1
      exact (upd_stamp DH.sh (t:=(nodeAtI H0 (i:Int)).time) (g:=gen) hlH hkH (fun h=>absurd h hk2) hti (inR_iff.1 hgen)).sh
  generalize hH:genSet H0 i gen=H at *
  have lenH:H.nodes.length=G.nodes.length:=by rw [s1,DH.len,DU2.len]
  have likeH:∀ j:Int,0≤j→Like G H j:=fun j hj=>((DU2.like j hj).trans (DH.like j hj)).trans (s2 j hj).1
  have VH:∀ j x,Edge V j x→Edge H j x:=fun j x h=>(eH j x).2 ((EH j x).2 (.inl h))
  have fH:∀ j x,Edge f j x→Edge H j x:=fun j x h=>by
    by_cases hx:x.node=(i:Int)
    · have hj:=C.uni j _ x _ h R.eP hx
      subst hj
      have:x=⟨last p,(i:Int)⟩:=pw_inj (g:=Ent.node) ((ok_ord (mem_ok h.2.2.2)).imp fun h=>h.2) h.2.2.2 R.eP.2.2.2 hx
      rw [this]
      exact (eH _ _).2 ((EH _ _).2 (.inr ⟨rfl,rfl⟩))
    · exact VH j x (UV j x h hx)
  have hback:∀ j x,Edge H j x→(Edge G j x∧x.node≠(i:Int))∨(j=(P:Int)∧x=⟨last p,(i:Int)⟩):=fun j x h=>by
    rcases (EH j x).1 ((eH j x).1 h) with h1 | h1
    · exact .inl ((EU2 j x).1 h1)
    · exact .inr h1
  have hnok:nameOk (last p)=true:=by
    have:=(names_ok p).2
    rw [names_split hp hpr] at this
    simp only [List.all_append,List.all_cons,List.all_nil,Bool.and_true,Bool.and_eq_true] at this
    exact this.2
  obtain ⟨dh,E⟩:∃ dh,Cert H dh:=by
    refine cert_paths shH (fun j h0 h1 h2=>?_) (fun j x h=>?_) (fun j x h=>?_) (fun j k x y h1 h2 h3=>?_) (fun j h0 h1 h2=>?_)
    · rw [(s2 j h0).2.1]
      by_cases hjP:j=(P:Int)
      · rw [hjP,DH.dir]
      · rw [DH.oth j h0 hjP]
        by_cases hjd:j=(d:Int)
        · rw [hjd,DU2.dir]
        · rw [DU2.oth j h0 hjd]
          exact D.read j h0 (by omega) (by rw [← (likeH j h0).kind]; exact h2)
    · rcases hback j x h with ⟨h1,-⟩ | ⟨-,rfl⟩
      · have hl:=lost_lt (D.lo j x h1)
        have hn:=mem_node h1.2.2.2
        exact lost_of (by rw [lenH]; exact hl.1) (by rw [(likeH _ (by omega)).kind]; exact hl.2)
      · exact lost_of (by simp only; rw [lenH]; exact hil) (by simp only; rw [(likeH _ (by omega)).kind,lik.kind]; exact ik)
    · rcases hback j x h with ⟨h1,-⟩ | ⟨-,rfl⟩
      · have:=D.hi j x h1
        have hn:=mem_node h1.2.2.2
        unfold hiddenBad at this ⊢
        rw [(likeH _ (by omega)).kind]
        exact this
      · unfold hiddenBad
        have:(last p == [126])=false:=by simpa using not_tilde hnok
        simp only [this,Bool.false_and]
    · rcases hback j x h1 with ⟨a1,a2⟩ | ⟨rfl,rfl⟩ <;> rcases hback k y h2 with ⟨b1,b2⟩ | ⟨rfl,rfl⟩
      · exact D.uni j k x y a1 b1 h3
      · exact absurd h3 a2
      · exact absurd h3.symm b2
      · rfl
    · by_cases hkf:(nodeAtI f j).kind=0
      · have hU0:(nodeAtI U j).kind=0:=by rw [(R.DU.like j h0).kind]; exact hkf
        have h10:(nodeAtI g1 j).kind≠0:=by
          rw [← (R.DL.like j h0).kind,← (R.likeG j h0).1.kind,← (likeH j h0).kind]; exact h2
        obtain ⟨ms,hm,hms⟩:=R.K.way j h0 hU0 h10
        rw [List.nil_append] at hms
        refine ⟨ms,?_,?_⟩
        · have h5:=hm.length_le
          have h6:=(names_ok q).1
          rw [List.length_take] at h5
          omega
        · rw [follow_up (fun j x h=>VH j x (g1V j x h)) _ _ rfl (by omega),hms]
      · obtain ⟨ns,hns⟩:=at_all C h0 (kind_range h0 hkf) hkf
        exact ⟨ns,at_len C (by omega),by rw [follow_up fH _ _ rfl (by omega),hns]⟩
  have okH:=cert_fsOk E
  have hwq2:within p q=false:=by
    cases hc2:within p q
    · rfl
    · exfalso
      unfold within at hc2
      simp only [Bool.and_eq_true,decide_eq_true_eq] at hc2
      have hsp:names p=names q++(names p).drop (names q).length:=by
        have:=hc2.2.2
        conv=>lhs; rw [← List.take_append_drop (names q).length (names p),this]
      have hi:=R.wi
      rw [hsp,follow_app f _ _ 0 (Int.le_refl _),if_pos hfq] at hi
      omega
  have hto:((i:Nat):Int).toNat=i:=by omega
  have hren:fsRename G q p gen=(H,0):=by
    have hL2:rnL G q p=linkS V (P:Int) (last p) (i:Int):=by
      unfold rnL
      rw [hC2,hwGq]
    have hG2:rnG G q p gen=H:=by
      unfold rnG
      rw [hL2,hwGq,hto,hH0,hH]
    unfold fsRename
    rw [if_neg (by rw [okG,hgen]; decide),if_neg (by rw [hq,hp,hwq2]; simp [hqr,hpr]),if_neg (by rw [hwGq]; omega),if_neg (by rw [hwGp]; decide),if_pos (by rw [hC2]),if_pos (by rw [hL2]; exact hlink),if_pos (by rw [hG2]; exact okH),hG2]
  rw [hren]
  simp only
  have hmem:∀ x∈treeItems f,x∈treeItems H:=fun x hx=>by
    obtain ⟨ns,a,b,c,rfl⟩:=(tree_iff C x).1 hx
    have e1:=follow_up fH _ ns rfl c
    have l1:=(R.likeF C D c (at_kind C c)).trans (likeH _ c)
    exact (tree_iff E _).2 ⟨ns,a,b,by omega,by rw [e1,l1.item]⟩
  refine ⟨okG,hwGp,?_,trivial,fun x hx=>?_,nodup_len (tree_nodup f) hmem⟩
  · unfold kindAt
    rw [hwGq,hwi2,if_neg (by omega),if_neg (by omega),lik.kind]
  · rw [treeGet_find (tree_pathOk hx).2]
    exact find_only (tree_distinct H) (hmem x hx)
end Go.Proofs.YtmpgpkdijfcfhaaGreat.Hz
