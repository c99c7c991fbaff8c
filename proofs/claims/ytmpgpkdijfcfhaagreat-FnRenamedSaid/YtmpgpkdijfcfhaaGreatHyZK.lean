/- The steps of a renaming: an entry out, directories made, an entry in. No program in sight. -/
import Derived.Test.YtmpgpkdijfcfhaaGreatHyZJ
namespace Go.Proofs.YtmpgpkdijfcfhaaGreat.Hz
open Go.RowKit
set_option linter.unusedVariables false
set_option linter.unusedSimpArgs false
set_option maxRecDepth 20000
structure Like (f g:Fs) (j:Int):Prop where
  kind:(nodeAtI g j).kind=(nodeAtI f j).kind
  item:∀ p,itemN g p j=itemN f p j
theorem Like.refl (f:Fs) (j:Int):Like f f j:=⟨rfl,fun _=>rfl⟩
theorem Like.trans {f g h:Fs} {j:Int} (a:Like f g j) (b:Like g h j):Like f h j:=⟨b.kind.trans a.kind,fun p=>(b.item p).trans (a.item p)⟩
theorem like_view {f g:Fs} {j:Int} (h:view g j=view f j):Like f g j:=⟨kind_view h,itemN_view h⟩
theorem like_dir {f g:Fs} {j:Int} {x:Str} {ge ti:Int} (hk:(nodeAtI f j).kind=2) (h:view g j=⟨(nodeAtI f j).kind,ge,ti,x⟩):Like f g j:=by
  simp only [view,Nd.mk.injEq] at h
  refine ⟨h.1,fun p=>?_⟩
  unfold itemN
  rw [h.1,hk]
  rfl
structure DirW (f g:Fs) (d:Nat) (es:List Ent):Prop where
  sh:ShapeOk g
  len:g.nodes.length=f.nodes.length
  like:∀ j:Int,0≤j→Like f g j
  dir:dirI g (d:Int)=(es,true)
  oth:∀ j:Int,0≤j→j≠(d:Int)→dirI g j=dirI f j
  free:freeOf g+blocksFor ((dirText es).length:Int)=freeOf f+((nodeAtI f (d:Int)).blocks.length:Int)
  bl:((nodeAtI g (d:Int)).blocks.length:Int)=blocksFor ((dirText es).length:Int)
  blo:∀ q:Nat,d≠q→(nodeAtI g (q:Int)).blocks=(nodeAtI f (q:Int)).blocks
theorem dirW {f:Fs} (s:ShapeOk f) {d:Nat} {es:List Ent} (W:Wrote f d (dirText es)) (hk:(nodeAtI f (d:Int)).kind=2) (ok:entriesOk es=true):DirW f (written f (d:Int) (dirText es)) d es:=by
  have U:=upd_written s W
  refine ⟨U.sh,U.len,fun j hj=>?_,?_,fun j hj hne=>?_,wr_free s W,wr_bl W,fun q hq=>by rw [(written_other s W hq).1]⟩
  · have h:=U.eq j hj
    by_cases hjd:j=(d:Int)
    · subst hjd
      rw [if_pos rfl] at h
      exact like_dir hk h
    · rw [if_neg hjd] at h
      exact like_view h
  · unfold dirI
    rw [written_content s W,dirOf_text ok]
  · have h:=U.eq j hj
    rw [if_neg hne] at h
    exact dirI_view h
theorem DirW.edge {f g:Fs} {d:Nat} {es:List Ent} (k:DirW f g d es) (hd:d<f.nodes.length) (hk:(nodeAtI f (d:Int)).kind=2) (j:Int) (e:Ent):Edge g j e↔(j=(d:Int)∧e∈es)∨(j≠(d:Int)∧Edge f j e):=by
  unfold Edge
  rw [k.len]
  by_cases hj:j=(d:Int)
  · subst hj
    rw [k.dir,(k.like (d:Int) (by omega)).kind]
    constructor
    · rintro ⟨-,-,-,x⟩; exact .inl ⟨rfl,x⟩
    · rintro (⟨-,x⟩ | ⟨h,-⟩)
      · exact ⟨by omega,by omega,hk,x⟩
      · exact absurd rfl h
  · constructor
    · rintro ⟨a,b,c,x⟩
      rw [k.oth j a hj] at x
      rw [(k.like j a).kind] at c
      exact .inr ⟨hj,a,b,c,x⟩
    · rintro (⟨h,-⟩ | ⟨-,a,b,c,x⟩)
      · exact absurd h hj
      · exact ⟨a,b,by rw [(k.like j a).kind]; exact c,by rw [k.oth j a hj]; exact x⟩
theorem unlink_w {f:Fs} (s:ShapeOk f) {d:Nat} {e:Ent} (he:Edge f (d:Int) e) (hu:∀ j x,Edge f j x→x.node=e.node→j=(d:Int)) :
    (unlinkS f (d:Int) e.name).2=true∧DirW f (unlinkS f (d:Int) e.name).1 d (dirDrop (dirI f (d:Int)).1 e.name).1∧∀ j x,Edge (unlinkS f (d:Int) e.name).1 j x↔Edge f j x∧x.node≠e.node:=by
  have hd:d<f.nodes.length:=by have:=he.2.1; omega
  have hm:=he.2.2.2
  obtain ⟨data,W,hdata,hul⟩:=unlink_wrote s hd he.2.2.1 (mem_read hm) e.name
  subst hdata
  have ok:=(drop_ok (mem_ok hm) e.name).1
  have D:=dirW s W he.2.2.1 ok
  rw [hul]
  refine ⟨rfl,D,fun j x=>?_⟩
  rw [D.edge hd he.2.2.1]
  have hnn:=ok_ord (mem_ok hm)
  have key:∀ x,x∈(dirI f (d:Int)).1→(x.name≠e.name↔x.node≠e.node):=fun x hx=>by
    constructor
    · intro h1 h2
      have:x=e:=pw_inj (g:=Ent.node) (hnn.imp fun h=>h.2) hx hm h2
      exact h1 (by rw [this])
    · intro h1 h2
      have h5:=dirFind_name (mem_names hm) x hx
      have h6:=dirFind_name (mem_names hm) e hm
      rw [h2,h6] at h5
      exact h1 h5.symm
  rw [dirDrop_iff (mem_names hm)]
  constructor
  · rintro (⟨rfl,a,b⟩ | ⟨hne,a⟩)
    · exact ⟨⟨he.1,he.2.1,he.2.2.1,a⟩,(key x a).1 b⟩
    · exact ⟨a,fun e0=>hne (hu j x a e0)⟩
  · rintro ⟨a,b⟩
    by_cases hj:j=(d:Int)
    · subst hj
      exact .inl ⟨rfl,a.2.2.2,(key x a.2.2.2).2 b⟩
    · exact .inr ⟨hj,a⟩
theorem link_w {f:Fs} (s:ShapeOk f) {d:Nat} (hd:d<f.nodes.length) (hk:(nodeAtI f (d:Int)).kind=2) {nm:Str} {i:Int} (h:(linkS f (d:Int) nm i).2=true) :
    DirW f (linkS f (d:Int) nm i).1 d (insE (dirI f (d:Int)).1 nm i)∧(entriesOk (dirI f (d:Int)).1=true∧entriesOk (insE (dirI f (d:Int)).1 nm i)=true)∧∀ j x,Edge (linkS f (d:Int) nm i).1 j x↔Edge f j x∨(j=(d:Int)∧x=⟨nm,i⟩):=by
  rcases linkS_cases f s (d:Int) nm i with ⟨e2,_⟩ | ⟨d',hd',ok0,ok,W,e2⟩
  · rw [e2] at h; cases h
  · obtain rfl:d=d':=by omega
    have D:=dirW s W hk ok
    rw [e2]
    refine ⟨D,⟨ok0,ok⟩,fun j x=>?_⟩
    rw [D.edge hd hk]
    rw [insE_mem]
    constructor
    · rintro (⟨rfl,a | a⟩ | ⟨-,a⟩)
      · exact .inl ⟨by omega,by omega,hk,a⟩
      · exact .inr ⟨rfl,a⟩
      · exact .inl a
    · rintro (a | ⟨rfl,a⟩)
      · by_cases hj:j=(d:Int)
        · subst hj
          exact .inl ⟨rfl,.inl a.2.2.2⟩
        · exact .inr ⟨hj,a⟩
      · exact .inl ⟨rfl,.inr a⟩
structure CW (g g1:Fs) (pre ns:List Str) (i d:Nat):Prop where
  sh:ShapeOk g1
  len:g1.nodes.length=g.nodes.length
  up:∀ j e,Edge g j e→Edge g1 j e
  like:∀ j:Int,0≤j→(nodeAtI g j).kind≠0→Like g g1 j
  neu:∀ j e,Edge g1 j e→Edge g j e∨(nodeAtI g e.node).kind=0
  way:∀ j:Int,0≤j→(nodeAtI g j).kind=0→(nodeAtI g1 j).kind≠0→∃ ms,ms <+: ns∧follow g1 (pre++ms) 0=j
  fin:follow g1 (pre++ns) 0=(d:Int)
  dk:(nodeAtI g1 (d:Int)).kind=2
  fr:dirI g (i:Int)=([],true)→(nodeAtI g (i:Int)).blocks=[]→dirI g1 (d:Int)=([],true)∧(nodeAtI g1 (d:Int)).blocks=[]∧(d=i∨(nodeAtI g (d:Int)).kind=0)
  last:g1=g∨((nodeAtI g (d:Int)).kind=0∧dirI g1 (d:Int)=([],true)∧(nodeAtI g1 (d:Int)).blocks=[])
theorem climb_w:∀ (ns:List Str) {g:Fs} (s:ShapeOk g) (pre:List Str) (i:Nat),follow g pre 0=(i:Int)→(climbS g ns (i:Int)).2.2=0→∃ d:Nat,(climbS g ns (i:Int)).2.1=(d:Int)∧CW g (climbS g ns (i:Int)).1 pre ns i d
  | [],g,s,pre,i,hi,h=>by
    unfold climbS at h ⊢
    split at h
    · rename_i hk
      rw [if_pos hk]
      refine ⟨i,rfl,s,rfl,fun _ _ h=>h,fun j _ _=>Like.refl _ _,fun _ _ h=>.inl h,fun j _ h1 h2=>absurd h1 h2,by rw [List.append_nil]; exact hi,hk,fun a b=>⟨a,b,.inl rfl⟩,.inl rfl⟩
    · cases h
  | n :: ns,g,s,pre,i,hi,h=>by
    have hsp:pre++n :: ns=(pre++[n])++ns:=by simp
    unfold climbS at h ⊢
    split at h
    · rename_i hk
      rw [if_pos hk]
      have hir:=kind_range (f:=g) (i:=(i:Int)) (by omega) (by rw [hk]; decide)
      split at h
      · rename_i hf
        rw [if_pos hf]
        split at h
        · rename_i hg
          rw [if_pos hg]
          obtain ⟨m,hm,V⟩:=growS_view s (by omega) (by rw [hk]; decide) hg
          have fb:=(growS_free s (by omega) (by rw [hk]; decide) hg hm).1
          have hdir:=V.dir
          have him:(i:Int)≠m:=fun e0=>by
            have:=V.mf
            rw [← e0,hk] at this; cases this
          rw [hm] at h ⊢
          generalize (growS g (i:Int) n 2).1=g' at *
          have kd':∀ j:Int,0≤j→j≠m→Like g g' j:=fun j hj hjm=>by
            have hv:=V.eq j hj
            by_cases hji:j=(i:Int)
            · subst hji
              rw [if_pos rfl] at hv
              exact like_dir hk hv
            · rw [if_neg hji,if_neg hjm] at hv
              exact like_view hv
          have hvm:=V.eq (m:Int) (by omega)
          rw [if_neg (fun e0=>him e0.symm),if_pos rfl] at hvm
          simp only [view,Nd.mk.injEq] at hvm
          have hdm:dirI g' (m:Int)=([],true):=by
            unfold dirI
            rw [hvm.2.2.2,dirOf_empty]
          have hE:∀ j e,Edge g' j e↔Edge g j e∨(j=(i:Int)∧e=⟨n,(m:Int)⟩):=fun j e=>by
            unfold Edge
            rw [V.len]
            by_cases hji:j=(i:Int)
            · subst hji
              rw [hdir,(kd' _ (by omega) him).kind,insE_mem]
              constructor
              · rintro ⟨a,b,c,x | x⟩
                · exact .inl ⟨a,b,c,x⟩
                · exact .inr ⟨rfl,x⟩
              · rintro (⟨a,b,c,x⟩ | ⟨-,x⟩)
                · exact ⟨a,b,c,.inl x⟩
                · exact ⟨by omega,by omega,hk,.inr x⟩
            · by_cases hjm:j=(m:Int)
              · subst hjm
                rw [hdm]
                constructor
                · rintro ⟨-,-,-,h⟩; cases h
                · rintro (⟨-,-,h,-⟩ | ⟨h,-⟩)
                  · rw [V.mf] at h; cases h
                  · exact absurd h hji
              · constructor
                · rintro ⟨a,b,c,x⟩
                  have hv:=V.eq j a
                  rw [if_neg hji,if_neg hjm] at hv
                  rw [(kd' j a hjm).kind] at c
                  rw [dirI_view hv] at x
                  exact .inl ⟨a,b,c,x⟩
                · rintro (⟨a,b,c,x⟩ | ⟨h,-⟩)
                  · have hv:=V.eq j a
                    rw [if_neg hji,if_neg hjm] at hv
                    exact ⟨a,b,by rw [(kd' j a hjm).kind]; exact c,by rw [dirI_view hv]; exact x⟩
                  · exact absurd h hji
          have up1:∀ j e,Edge g j e→Edge g' j e:=fun j e h=>(hE j e).2 (.inl h)
          have hpm:follow g' (pre++[n]) 0=(m:Int):=by
            have hp:=follow_up up1 _ pre rfl (by omega)
            have hEd:Edge g' (follow g' pre 0) ⟨n,(m:Int)⟩:=by rw [hp,hi]; exact (hE _ _).2 (.inr ⟨rfl,rfl⟩)
            exact at_ext hEd
          obtain ⟨d,hd,K⟩:=climb_w ns V.sh (pre++[n]) m hpm h
          have back:∀ j:Int,(nodeAtI g' j).kind=0→0≤j→(nodeAtI g j).kind=0:=fun j h0 hj=>by
            by_cases hjm:j=(m:Int)
            · rw [hjm]; exact V.mf
            · rw [← (kd' j hj hjm).kind]; exact h0
          have hlast:=K.fr hdm fb
          have hgd:(nodeAtI g (d:Int)).kind=0:=by
            rcases hlast.2.2 with h1 | h1
            · rw [h1]; exact V.mf
            · exact back _ h1 (by omega)
          refine ⟨d,hd,K.sh,K.len.trans V.len,fun j e h=>K.up j e (up1 j e h),fun j hj hne=>?_,fun j e h=>?_,fun j hj h0 h1=>?_,by rw [hsp]; exact K.fin,K.dk,fun _ _=>⟨hlast.1,hlast.2.1,.inr hgd⟩,.inr ⟨hgd,hlast.1,hlast.2.1⟩⟩
          · have hjm:j≠(m:Int):=fun e0=>hne (by rw [e0]; exact V.mf)
            have l1:=kd' j hj hjm
            exact l1.trans (K.like j hj (by rw [l1.kind]; exact hne))
          · rcases K.neu j e h with h1 | h1
            · rcases (hE j e).1 h1 with h2 | ⟨-,rfl⟩
              · exact .inl h2
              · exact .inr V.mf
            · exact .inr (back _ h1 (by have:=mem_node h.2.2.2; omega))
          · by_cases hjm:j=(m:Int)
            · refine ⟨[n],⟨ns,rfl⟩,?_⟩
              rw [hjm,follow_up K.up _ _ rfl (by omega),hpm]
            · obtain ⟨ms,h2,h3⟩:=K.way j hj (by rw [(kd' j hj hjm).kind]; exact h0) h1
              refine ⟨n :: ms,?_,by rw [← h3]; simp⟩
              obtain ⟨r,hr⟩:=h2
              exact ⟨r,by rw [← hr]; rfl⟩
        · cases h
      · rename_i hf
        rw [if_neg hf]
        obtain ⟨j,hj⟩:=Int.eq_ofNat_of_zero_le (show 0≤dirFind (dirI g (i:Int)).1 n by omega)
        have hfj:follow g (pre++[n]) 0=(j:Int):=by
          rw [follow_last,hi,if_pos (show 0≤(i:Int)∧_ from ⟨by omega,hk⟩),if_neg hf,hj]
        rw [hj] at h ⊢
        obtain ⟨d,hd,K⟩:=climb_w ns s (pre++[n]) j hfj h
        refine ⟨d,hd,K.sh,K.len,K.up,K.like,K.neu,fun x hx h0 h1=>?_,by rw [hsp]; exact K.fin,K.dk,fun a _=>?_,K.last⟩
        · obtain ⟨ms,h2,h3⟩:=K.way x hx h0 h1
          refine ⟨n :: ms,?_,by rw [← h3]; simp⟩
          obtain ⟨r,hr⟩:=h2
          exact ⟨r,by rw [← hr]; rfl⟩
        · rw [a] at hf
          exact absurd (show dirFind ([]:List Ent) n<0 from (by show (-1:Int)<0; decide)) hf
    · cases h
theorem climb_there (f:Fs):∀ (ns:List Str) (i j:Int),0≤i→follow f ns i=j→0≤j→(nodeAtI f j).kind=2→climbS f ns i=(f,j,0)
  | [],i,j,_,h,_,hk=>by
    have:i=j:=h
    subst this
    unfold climbS
    rw [if_pos hk]
  | n :: ns,i,j,hi,h,hj,hk=>by
    rw [follow_cons] at h
    unfold climbS
    split at h
    · rename_i h1
      rw [if_pos h1]
      split at h
      · omega
      · rename_i h2
        rw [if_neg h2]
        exact climb_there f ns _ j (by omega) h hj hk
    · omega
theorem genSet_like (L:Fs) (i:Nat) (gen:Int):(genSet L i gen).nodes.length=L.nodes.length∧(∀ j:Int,0≤j→Like L (genSet L i gen) j∧dirI (genSet L i gen) j=dirI L j∧(nodeAtI (genSet L i gen) j).blocks=(nodeAtI L j).blocks)∧(genSet L i gen).data=L.data∧held (genSet L i gen).nodes=held L.nodes:=by
  unfold genSet
  split
  · exact ⟨rfl,fun j _=>⟨Like.refl _ _,rfl,rfl⟩,rfl,rfl⟩
  · by_cases hi:i<L.nodes.length
    · have e0:=nodeAtI_get hi
      refine ⟨by simp,fun j hj=>?_,rfl,?_⟩
      · obtain ⟨q,rfl⟩:=Int.eq_ofNat_of_zero_le hj
        have hget:nodeAtI ⟨L.nodes.set i { nodeAtI L (i:Int) with gen:=gen },L.data⟩ (q:Int)=if q=i then { nodeAtI L (i:Int) with gen:=gen } else nodeAtI L (q:Int):=by
          unfold nodeAtI
          by_cases hq:i=q
          · subst hq; simp [hi]
          · have hq':¬ q=i:=fun h=>hq h.symm
            simp [List.getElem?_set,hq,hq']
        have hk:(nodeAtI ⟨L.nodes.set i { nodeAtI L (i:Int) with gen:=gen },L.data⟩ (q:Int)).kind=(nodeAtI L (q:Int)).kind∧(nodeAtI ⟨L.nodes.set i { nodeAtI L (i:Int) with gen:=gen },L.data⟩ (q:Int)).time=(nodeAtI L (q:Int)).time∧(nodeAtI ⟨L.nodes.set i { nodeAtI L (i:Int) with gen:=gen },L.data⟩ (q:Int)).blocks=(nodeAtI L (q:Int)).blocks:=by
          rw [hget]
          split
          · rename_i hq; subst hq; exact ⟨rfl,rfl,rfl⟩
          · exact ⟨rfl,rfl,rfl⟩
        have hc:contentI ⟨L.nodes.set i { nodeAtI L (i:Int) with gen:=gen },L.data⟩ (q:Int)=contentI L (q:Int):=by
          unfold contentI
          rw [hk.2.2]
          rfl
        refine ⟨⟨hk.1,fun p=>?_⟩,?_,hk.2.2⟩
        · unfold itemN
          rw [hk.1,hk.2.1,hc]
        · unfold dirI
          rw [hc]
      · show held (L.nodes.set i { nodeAtI L (i:Int) with gen:=gen })=_
        rw [held_cut _ _ hi,held_self _ _ hi,e0]
    · have hs:L.nodes.set i { nodeAtI L (i:Int) with gen:=gen }=L.nodes:=List.set_eq_of_length_le (by omega)
      rw [hs]
      exact ⟨rfl,fun j _=>⟨Like.refl _ _,rfl,rfl⟩,rfl,rfl⟩
theorem genSet_edge (L:Fs) (i:Nat) (gen:Int) (j:Int) (e:Ent):Edge (genSet L i gen) j e↔Edge L j e:=by
  obtain ⟨h1,h2,-,-⟩:=genSet_like L i gen
  unfold Edge
  rw [h1]
  constructor
  · rintro ⟨a,b,c,x⟩
    obtain ⟨k1,k2,-⟩:=h2 j a
    exact ⟨a,b,by rw [← k1.kind]; exact c,by rw [← k2]; exact x⟩
  · rintro ⟨a,b,c,x⟩
    obtain ⟨k1,k2,-⟩:=h2 j a
    exact ⟨a,b,by rw [k1.kind]; exact c,by rw [k2]; exact x⟩
theorem genSet_free {L:Fs} {i:Nat} {gen:Int} (s:ShapeOk L) (s':ShapeOk (genSet L i gen)):freeOf (genSet L i gen)=freeOf L:=by
  obtain ⟨-,-,h3,h4⟩:=genSet_like L i gen
  unfold freeOf
  rw [if_pos (shapeOk_t s'),if_pos (shapeOk_t s),h3,h4]
end Go.Proofs.YtmpgpkdijfcfhaaGreat.Hz
