/- What is made. No program in sight. -/
import Derived.Test.YtmpgpkdijfcfhaaHyZF
import Derived.Test.YtmpgpkdijfcfhaaHyGS
import Derived.Test.YtmpgpkdijfcfhaaHyEP
import Derived.Test.YtmpgpkdijfcfhaaHyGT
namespace Go.Proofs.Ytmpgpkdijfcfhaa.Hz
open Go.RowKit
set_option linter.unusedVariables false
set_option linter.unusedSimpArgs false
set_option maxRecDepth 20000
structure Grew (f g:Fs) (q:List Str):Prop where
  len:g.nodes.length=f.nodes.length
  old:∀ ns,0≤follow f ns 0→follow g ns 0=follow f ns 0
  new:∀ ns,0≤follow g ns 0→follow f ns 0=follow g ns 0∨ns <+: q
  item:∀ ns,0≤follow f ns 0→∀ p,itemN g p (follow f ns 0)=itemN f p (follow f ns 0)
theorem Grew.refl (f:Fs) (q:List Str):Grew f f q:=⟨rfl,fun _ _=>rfl,fun _ _=>.inl rfl,fun _ _ _=>rfl⟩
theorem Grew.trans {f g h:Fs} {q r:List Str} (a:Grew f g q) (b:Grew g h r) (hq:q <+: r):Grew f h r:=by
  refine ⟨b.len.trans a.len,fun ns hn=>?_,fun ns hn=>?_,fun ns hn p=>?_⟩
  · have h1:=a.old ns hn
    rw [b.old ns (by omega),h1]
  · rcases b.new ns hn with h1 | h1
    · rcases a.new ns (by omega) with h2 | h2
      · exact .inl (h2.trans h1)
      · exact .inr (h2.trans hq)
    · exact .inr h1
  · have h1:=a.old ns hn
    have h2:=b.item ns (by omega) p
    rw [h1] at h2
    rw [h2,a.item ns hn p]
theorem GrewV.grew {f g:Fs} {d m:Nat} {nm:Str} {kind:Int} (V:GrewV f g d m nm kind) {dep:Int→Nat} (C:Cert f dep) {pre:List Str} (hpre:follow f pre 0=(d:Int)) (hd:d<f.nodes.length) (hdk:(nA_ f (d:Int)).kind=2) (hl:pre.length+1≤4) (hn:nameOk nm=true) :
    ∃ dep',Cert g dep'∧Grew f g (pre++[nm])∧follow g (pre++[nm]) 0=(m:Int):=by
  have hdep:=at_dep C _ pre rfl (by omega)
  rw [hpre] at hdep
  obtain ⟨D,g1,g2⟩:=V.cert C hd hdk (by omega) (fun h=>absurd h (not_tilde hn))
  refine ⟨_,D,⟨V.len,g1,fun ns h=>?_,fun ns h p=>?_⟩,?_⟩
  · rcases g2 ns h with h1 | ⟨-,ps,h2,rfl⟩
    · exact .inl h1
    · right
      rw [at_uniq C _ ps pre rfl (by omega) (by omega)]
      exact List.prefix_refl _
  · have hne:follow f ns 0≠(m:Int):=fun e0=>at_kind C h (by rw [e0]; exact V.mf)
    exact V.item hdk h hne p
  · have e1:=g1 pre (by omega)
    have hE:Edge g (follow g pre 0) ⟨nm,(m:Int)⟩:=by
      rw [e1,hpre]
      have hkd:(nA_ g (d:Int)).kind=2:=by
        have:=V.eq (d:Int) (by omega)
        rw [if_pos rfl] at this
        simp only [view,Nd.mk.injEq] at this
        rw [this.1,hdk]
      exact ⟨by omega,by rw [V.len]; omega,hkd,by rw [V.dir]; exact insE_mem.2 (.inr rfl)⟩
    exact at_ext hE
theorem climb_grew:∀ (ns:List Str) {f:Fs} {dep:Int→Nat} (C:Cert f dep) (pre:List Str) (i:Nat),follow f pre 0=(i:Int)→pre.length+ns.length≤4→ns.all nameOk=true→(climbS f ns (i:Int)).2.2=0 →
    ∃ dep',Cert (climbS f ns (i:Int)).1 dep'∧Grew f (climbS f ns (i:Int)).1 (pre++ns)∧follow (climbS f ns (i:Int)).1 (pre++ns) 0=(climbS f ns (i:Int)).2.1∧0≤(climbS f ns (i:Int)).2.1∧(nA_ (climbS f ns (i:Int)).1 (climbS f ns (i:Int)).2.1).kind=2
  | [],f,dep,C,pre,i,hi,hl,ha,h=>by
    unfold climbS at h ⊢
    split at h
    · rename_i hk
      rw [if_pos hk]
      rw [List.append_nil]
      exact ⟨dep,C,Grew.refl _ _,hi,by simp only; omega,hk⟩
    · cases h
  | n :: ns,f,dep,C,pre,i,hi,hl,ha,h=>by
    simp only [List.all_cons,Bool.and_eq_true] at ha
    simp only [List.length_cons] at hl
    have hr:=at_range C pre (by omega)
    rw [hi] at hr
    have hsp:pre++n :: ns=(pre++[n])++ns:=by simp
    unfold climbS at h ⊢
    split at h
    · rename_i hk
      rw [if_pos hk]
      split at h
      · rename_i hf
        rw [if_pos hf]
        split at h
        · rename_i hg
          rw [if_pos hg]
          obtain ⟨m,hm,V⟩:=growS_view C.sh (by omega) (by rw [hk]; decide) hg
          obtain ⟨dep1,D,G,hfm⟩:=V.grew C hi (by omega) hk (by omega) ha.1
          rw [hm] at h ⊢
          obtain ⟨dep2,D2,G2,e1,e2,e3⟩:=climb_grew ns D (pre++[n]) m hfm (by simp; omega) ha.2 h
          rw [← hsp] at G2 e1
          exact ⟨dep2,D2,G.trans G2 ⟨ns,by simp⟩,e1,e2,e3⟩
        · cases h
      · rename_i hf
        rw [if_neg hf]
        obtain ⟨j,hj⟩:=Int.eq_ofNat_of_zero_le (show 0≤dirFind (dirI f (i:Int)).1 n by omega)
        have hfj:follow f (pre++[n]) 0=(j:Int):=by
          rw [follow_last,hi,if_pos (show 0≤(i:Int)∧_ from ⟨by omega,hk⟩),if_neg hf,hj]
        rw [hj] at h ⊢
        obtain ⟨dep2,D2,G2,e1,e2,e3⟩:=climb_grew ns C (pre++[n]) j hfj (by simp; omega) ha.2 h
        rw [← hsp] at G2 e1
        exact ⟨dep2,D2,G2,e1,e2,e3⟩
    · cases h
theorem fsMake_ok {f:Fs} {p data:Str} {kind t g:Int} (h:(fsMake f p kind data t g).2=0):¬ makeBad f kind data t g∧pathOk p=true∧p≠[47]∧walk f p<0∧(mkC f p).2.2=0∧(mkG f p kind).2.2=true∧(mkW f p kind data).2=true∧(fsMake f p kind data t g).1=stamped (mkW f p kind data).1 (mkG f p kind).2.1.toNat t g:=by
  unfold fsMake at h ⊢
  split at h
  · cases h
  rename_i c1
  rw [if_neg c1]
  split at h
  · cases h
  rename_i c2
  rw [if_neg c2]
  split at h
  · cases h
  rename_i c3
  rw [if_neg c3]
  split at h
  · cases h
  rename_i c4
  rw [if_neg c4]
  split at h
  · rename_i c5
    rw [if_pos c5]
    split at h
    · rename_i c6
      rw [if_pos c6]
      split at h
      · rename_i c7
        rw [if_pos c7]
        refine ⟨c1,?_,fun e=>c2 (.inr e),by omega,c5,c6,c7,rfl⟩
        cases hp:pathOk p
        · exact absurd (.inl hp) c2
        · rfl
      · cases h
    · cases h
  · rename_i c5
    exact absurd h c5
theorem names_split {p:Str} (hp:pathOk p=true) (hr:p≠[47]):names p=(names p).take ((names p).length - 1)++[last p]:=by
  have hpos:=names_pos hp hr
  rw [last_at p hpos]
  have h1:(names p).length - 1<(names p).length:=by omega
  have h2:=List.take_succ_eq_append_getElem h1
  rw [← h2,List.take_of_length_le (by omega)]
theorem fsMake_cert {f:Fs} {p data:Str} {kind t g:Int} (h:(fsMake f p kind data t g).2=0) :
    ∃ dep dep' ,Cert f dep∧Cert (fsMake f p kind data t g).1 dep'∧Grew f (fsMake f p kind data t g).1 (names p)∧pathOk p=true∧p≠[47]∧0≤follow (fsMake f p kind data t g).1 (names p) 0∧itemN (fsMake f p kind data t g).1 p (follow (fsMake f p kind data t g).1 (names p) 0)=⟨p,kind,data,t⟩:=by
  obtain ⟨hbad,hp,hr,hw,hc,hg,hwr,hres⟩:=fsMake_ok h
  unfold makeBad at hbad
  simp only [not_or,Bool.and_eq_false_iff,Bool.not_eq_false,not_and] at hbad
  obtain ⟨⟨⟨⟨ok,hki⟩,hti⟩,hge⟩,hdir⟩:=hbad
  have hki:=inR_iff.1 hki
  have hti:=inR_iff.1 hti
  have hge:=inR_iff.1 hge
  obtain ⟨dep,C⟩:=fsOk_cert ok
  have hsp:=names_split hp hr
  have hno:=names_ok p
  have hall:((names p).take ((names p).length - 1)).all nameOk=true∧nameOk (last p)=true:=by
    have:=hno.2
    rw [hsp] at this
    simp only [List.all_append,List.all_cons,List.all_nil,Bool.and_true,Bool.and_eq_true] at this
    exact this
  have hpos:=names_pos hp hr
  have hlt:((names p).take ((names p).length - 1)).length=(names p).length - 1:=by simp
  obtain ⟨dep1,C1,G1,e1,e2,e3⟩:=climb_grew ((names p).take ((names p).length - 1)) C [] 0 rfl (by simp; omega) hall.1 hc
  rw [List.nil_append] at G1 e1
  have hmc:climbS f ((names p).take ((names p).length - 1)) ((0:Nat):Int)=mkC f p:=rfl
  rw [hmc] at C1 G1 e1 e2 e3
  obtain ⟨d,hd⟩:=Int.eq_ofNat_of_zero_le e2
  unfold mkW at hwr hres
  unfold mkG at hg hwr hres
  rw [hd] at e1 e3 hg hwr hres
  generalize (mkC f p).1=f1 at *
  have hdl:=at_range C1 _ (by rw [e1]; omega)
  rw [e1] at hdl
  obtain ⟨m,hm,V⟩:=growS_view C1.sh (by omega) (by rw [e3]; decide) hg
  obtain ⟨dep2,C2,G2,e4⟩:=V.grew C1 e1 (by omega) e3 (by omega) hall.2
  rw [← hsp] at G2 e4
  have hvm:=V.eq (m:Int) (by omega)
  have hdm:¬ ((m:Int)=(d:Int)):=fun e=>by
    have:m=d:=by omega
    subst this
    have:=V.mf
    rw [e3] at this; cases this
  rw [if_neg hdm,if_pos rfl] at hvm
  simp only [view,Nd.mk.injEq] at hvm
  have hml:=V.mn
  have hlen2:=V.len
  have hm0:=V.m0
  have hmf:=V.mf
  rw [hm] at hwr hres
  have hto:((m:Nat):Int).toNat=m:=by omega
  rw [hto] at hres
  generalize (growS f1 (d:Int) (last p) kind).1=f2 at *
  have G3:=G1.trans G2 (show _ from by rw [hsp]; simp)
  obtain ⟨W,-,U⟩:=upd_write C2.sh hwr
  have hx:=U.eq (m:Int) (by omega)
  rw [if_pos rfl] at hx
  simp only [view,Nd.mk.injEq] at hx
  have U2:=upd_stamp U.sh (t:=t) (g:=g) (i:=m) (by rw [U.len]; omega) (by rw [hx.1,hvm.1]; omega) (fun h=>by
    rw [hx.1,hvm.1] at h
    have:=hdir h
    simp only [ne_eq,Decidable.not_not] at this
    exact ⟨this.2.2,this.2.1⟩) hti hge
  have hview:∀ j:Int,0≤j→view (fsMake f p kind data t g).1 j=if j=(m:Int) then ⟨kind,g,t,data⟩ else view f2 j:=fun j hj=>by
    rw [hres,U2.eq j hj]
    split
    · rw [hx.1,hx.2.2.2,hvm.1]
    · rename_i hji
      rw [U.eq j hj,if_neg hji]
  have hsh:ShapeOk (fsMake f p kind data t g).1:=by rw [hres]; exact U2.sh
  have hln:(fsMake f p kind data t g).1.nodes.length=f2.nodes.length:=by rw [hres,U2.len,U.len]
  generalize (fsMake f p kind data t g).1=G at *
  obtain ⟨D,hfo⟩:=cert_same C2 hsh hln (fun j hj=>by
    have hv:=hview j hj
    by_cases hji:j=(m:Int)
    · rw [if_pos hji] at hv
      subst hji
      simp only [view,Nd.mk.injEq] at hv
      rw [hv.1,hvm.1]
    · rw [if_neg hji] at hv
      exact kind_view hv) (fun j hj hk2=>by
    have hv:=hview j hj
    by_cases hji:j=(m:Int)
    · rw [if_pos hji] at hv
      subst hji
      simp only [view,Nd.mk.injEq] at hv
      have hd2:=hdir (by rw [← hvm.1]; exact hk2)
      simp only [ne_eq,Decidable.not_not] at hd2
      unfold dirI
      rw [hv.2.2.2,hvm.2.2.2,hd2.1]
    · rw [if_neg hji] at hv
      exact dirI_view hv)
  refine ⟨dep,dep2,C,D,⟨by rw [hln]; exact G3.len,fun ns hn=>by rw [hfo]; exact G3.old ns hn,fun ns hn=>by rw [hfo] at hn ⊢; exact G3.new ns hn,fun ns hn q=>?_⟩,hp,hr,by rw [hfo,e4]; omega,?_⟩
  · rw [← G3.item ns hn q]
    have hne:follow f ns 0≠(m:Int):=fun e0=>by
      have h1:=G1.old ns hn
      exact at_kind C1 (ns:=ns) (by omega) (by rw [h1,e0]; exact hmf)
    have hv:=hview _ hn
    rw [if_neg hne] at hv
    exact itemN_view hv q
  · rw [hfo,e4]
    have hv:=hview (m:Int) (by omega)
    rw [if_pos rfl] at hv
    simp only [view,Nd.mk.injEq] at hv
    unfold itemN
    rw [hv.1,hv.2.2.1,hv.2.2.2]
    by_cases h2:kind=2
    · have hd2:=hdir h2
      simp only [ne_eq,Decidable.not_not] at hd2
      rw [if_pos h2,if_pos h2,hd2.1,hd2.2.1]
    · rw [if_neg h2,if_neg h2]
theorem made_law {f:Fs} {p data:Str} {kind t g:Int} (h:(fsMake f p kind data t g).2=0) :
    treeGet (tI_ (fsMake f p kind data t g).1) p=(⟨p,kind,data,t⟩,true)∧fsOk (fsMake f p kind data t g).1=true∧(∀ x∈tI_ f,treeGet (tI_ (fsMake f p kind data t g).1) x.path=(x,true)) ∧
      (∀ y∈tI_ (fsMake f p kind data t g).1,(treeGet (tI_ f) y.path).2=true∨within p y.path=true):=by
  obtain ⟨dep,dep',C,D,K,hp,hr,h0,hit⟩:=fsMake_cert h
  generalize (fsMake f p kind data t g).1=G at *
  have okG:=cert_fsOk D
  refine ⟨?_,okG,fun x hx=>?_,fun y hy=>?_⟩
  · have hw:walk G p=follow G (names p) 0:=by simp [walk,okG,hp]
    rw [tree_get okG hp hr,if_pos (by rw [hw]; exact h0),hw,hit]
  · rw [treeGet_find (tree_pathOk hx).2]
    refine find_only (tree_distinct G) ?_
    obtain ⟨ns,a,b,c,rfl⟩:=(tree_iff C x).1 hx
    have e:=K.old ns c
    exact (tree_iff D _).2 ⟨ns,a,b,by omega,by rw [e,K.item ns c]⟩
  · obtain ⟨ns,a,b,c,rfl⟩:=(tree_iff D y).1 hy
    have hpth:(itemN G (pathOf ns) (follow G ns 0)).path=pathOf ns:=rfl
    have hl:=at_len D c
    have hpo:=pathOf_names hl b
    rcases K.new ns c with h1 | h1
    · left
      have hm:itemN f (pathOf ns) (follow f ns 0)∈tI_ f:=(tree_iff C _).2 ⟨ns,a,b,by omega,rfl⟩
      rw [treeGet_find (tree_pathOk hy).2]
      exact find_has hm rfl
    · right
      rw [hpth]
      unfold within
      rw [hp,hpo.1,hpo.2]
      have:=List.prefix_iff_eq_take.1 h1
      simp only [Bool.true_and,Bool.and_eq_true,decide_eq_true_eq]
      exact ⟨h1.length_le,this.symm⟩
end Go.Proofs.Ytmpgpkdijfcfhaa.Hz
