/- Texts of the calculus and of the program's functions, merged: ZA ZB ZC ZD ZE. -/
import Derived.Test.YtmpgpkdijfcfhaaHyQI
import Derived.Test.YtmpgpkdijfcfhaaHyGQ
import Derived.Test.YtmpgpkdijfcfhaaHyGY
import Derived.Test.YtmpgpkdijfcfhaaHyHB
import Derived.Test.YtmpgpkdijfcfhaaHyGN
namespace Go.Proofs.Ytmpgpkdijfcfhaa.Hz
open Go.RowKit
set_option linter.unusedVariables false
set_option linter.unusedSimpArgs false
set_option maxRecDepth 20000
def Edge (f:Fs) (i:Int) (e:Ent):Prop:=0≤i∧i<f.nodes.length∧(nA_ f i).kind=2∧e∈(dirI f i).1
theorem mem_read {f:Fs} {i:Int} {e:Ent} (h:e∈(dirI f i).1):(dirI f i).2=true:=by
  cases hh:(dirI f i).2
  · have h2:(dirI f i).1=[]:=dirOf_nil hh
    rw [h2] at h
    cases h
  · rfl
theorem mem_ok {f:Fs} {i:Int} {e:Ent} (h:e∈(dirI f i).1):entriesOk (dirI f i).1=true:=(dirI_two (mem_read h)).1
theorem mem_node {f:Fs} {i:Int} {e:Ent} (h:e∈(dirI f i).1):1≤e.node∧e.node≤9:=(ok_all (mem_ok h) e h).2
structure Cert (f:Fs) (dep:Int→Nat):Prop where
  sh:ShapeOk f
  read:∀ i:Int,0≤i→i<f.nodes.length→(nA_ f i).kind=2→(dirI f i).2=true
  lo:∀ (i:Int) (e:Ent),Edge f i e→lost f e=false
  hi:∀ (i:Int) (e:Ent),Edge f i e→hiddenBad f i e=false
  uni:∀ (i j:Int) (e d:Ent),Edge f i e→Edge f j d→e.node=d.node→i=j
  all:∀ j:Int,0<j→j<f.nodes.length→(nA_ f j).kind≠0→∃ i e,Edge f i e∧e.node=j
  d0:dep 0=0
  dep:∀ (i:Int) (e:Ent),Edge f i e→dep e.node=dep i+1∧dep e.node≤4
def TrE (f:Fs) (rec:Int→Nat→Int→Ent→Prop) (i:Int) (es:List Ent):Nat→Int→Ent→Prop
  | 0,p,e=>p=i∧e∈es
  | d+1,p,e=>∃ x∈es,(nA_ f x.node).kind=2∧rec x.node d p e
def TrL (f:Fs):Nat→Int→Nat→Int→Ent→Prop
  | 0=>fun _ _ _ _=>False
  | k+1=>fun i=>TrE f (TrL f k) i (dirI f i).1
structure Seen (f:Fs) (R:Nat→Int→Ent→Prop) (s T:List Int):Prop where
  len:T.length=s.length
  le:∀ j:Int,0≤j→at_ s j≤at_ T j
  nw:∀ d p e,R d p e→at_ s e.node=0∧0<at_ T e.node
  ok:∀ d p e,R d p e→lost f e=false∧hiddenBad f p e=false∧0≤e.node∧((nA_ f e.node).kind=2→(dirI f e.node).2=true)
  un:∀ d p e d' p' e',R d p e→R d' p' e'→e.node=e'.node→d=d'∧p=p'∧e=e'
  ex:∀ j:Int,0≤j→at_ T j≠at_ s j→∃ d p e,R d p e∧e.node=j
theorem TrE_cons {f:Fs} {rec:Int→Nat→Int→Ent→Prop} {i:Int} {x:Ent} {es:List Ent} {d:Nat} {p:Int} {e:Ent}:TrE f rec i (x :: es) d p e↔(d=0∧p=i∧e=x)∨(∃ d',d=d'+1∧(nA_ f x.node).kind=2∧rec x.node d' p e)∨TrE f rec i es d p e:=by
  cases d with
  | zero =>
    simp only [TrE,List.mem_cons]
    constructor
    · rintro ⟨h1,h2 | h2⟩
      · exact .inl ⟨trivial,h1,h2⟩
      · exact .inr (.inr ⟨h1,h2⟩)
    · rintro (⟨-,h1,h2⟩ | ⟨d',h,-⟩ | ⟨h1,h2⟩)
      · exact ⟨h1,.inl h2⟩
      · omega
      · exact ⟨h1,.inr h2⟩
  | succ d =>
    simp only [TrE,List.mem_cons]
    constructor
    · rintro ⟨y,hy | hy,h1,h2⟩
      · subst hy; exact .inr (.inl ⟨d,rfl,h1,h2⟩)
      · exact .inr (.inr ⟨y,hy,h1,h2⟩)
    · rintro (⟨h,-⟩ | ⟨d',h,h1,h2⟩ | ⟨y,hy,h1,h2⟩)
      · omega
      · obtain rfl:d=d':=by omega
        exact ⟨x,.inl rfl,h1,h2⟩
      · exact ⟨y,.inr hy,h1,h2⟩
theorem lost_lt {f:Fs} {e:Ent} (h:lost f e=false):e.node<f.nodes.length∧(nA_ f e.node).kind≠0:=by
  simp only [lost,Bool.or_eq_false_iff,decide_eq_false_iff_not] at h
  exact ⟨by omega,by simpa using h.2⟩
theorem lost_of {f:Fs} {e:Ent} (h1:e.node<f.nodes.length) (h2:(nA_ f e.node).kind≠0):lost f e=false:=by
  simp only [lost,Bool.or_eq_false_iff,decide_eq_false_iff_not]
  exact ⟨by omega,by simpa using h2⟩
theorem Seen.cons {f:Fs} {rec:Int→Nat→Int→Ent→Prop} {i:Int} {x:Ent} {es:List Ent} {s T1 T:List Int} (hs:s.length=f.nodes.length) (h0:at_ s x.node=0) (hn:0≤x.node) (hl:lost f x=false) (hh:hiddenBad f i x=false) (hr:(nA_ f x.node).kind=2→(dirI f x.node).2=true)
    (a:Seen f (fun d p e=>(nA_ f x.node).kind=2∧rec x.node d p e) (bump s x.node) T1) (b:Seen f (TrE f rec i es) T1 T):Seen f (TrE f rec i (x :: es)) s T:=by
  have hxl:=(lost_lt hl).1
  have hb:∀ m:Int,0≤m→at_ (bump s x.node) m=if m=x.node then at_ s x.node+1 else at_ s m:=fun m hm=>at_bump hn hm (by omega)
  have hle:∀ m:Int,0≤m→at_ s m≤at_ (bump s x.node) m:=fun m hm=>by
    rw [hb m hm]; split
    · rename_i e; rw [e]; omega
    · omega
  have hx1:at_ (bump s x.node) x.node=1:=by rw [hb _ hn,if_pos rfl,h0]; rfl
  refine ⟨by rw [b.len,a.len,bump_len],fun j hj=>Int.le_trans (hle j hj) (Int.le_trans (a.le j hj) (b.le j hj)),?_,?_,?_,?_⟩
  · intro d p e h
    rcases TrE_cons.1 h with ⟨-,-,rfl⟩ | ⟨d',-,h1,h2⟩ | h
    · have:=a.le e.node hn; have:=b.le e.node hn; exact ⟨h0,by omega⟩
    · have h3:=a.nw d' p e ⟨h1,h2⟩
      have h4:=(a.ok d' p e ⟨h1,h2⟩).2.2.1
      have h5:=b.le _ h4
      have h6:=hb _ h4
      refine ⟨?_,by omega⟩
      rw [h3.1] at h6
      split at h6
      · rename_i e0; rw [e0] at h3; omega
      · exact h6.symm
    · have h3:=b.nw d p e h
      have h4:=(b.ok d p e h).2.2.1
      have h5:=a.le _ h4
      have h6:=hb _ h4
      refine ⟨?_,h3.2⟩
      split at h6
      · rename_i e0; rw [e0] at h3 h5; omega
      · have h7:=hle _ h4
        rw [h3.1,h6] at h5
        by_cases hc:at_ T1 e.node=at_ (bump s x.node) e.node
        · rw [← h6,← hc,h3.1]
        · obtain ⟨d2,p2,e2,h8,h9⟩:=a.ex _ h4 hc
          have:=(a.nw d2 p2 e2 h8).2
          rw [h9] at this; omega
  · intro d p e h
    rcases TrE_cons.1 h with ⟨-,rfl,rfl⟩ | ⟨d',-,h1,h2⟩ | h
    · exact ⟨hl,hh,hn,hr⟩
    · exact a.ok d' p e ⟨h1,h2⟩
    · exact b.ok d p e h
  · intro d p e d' p' e' h h' hn'
    rcases TrE_cons.1 h with ⟨rfl,rfl,rfl⟩ | ⟨d1,rfl,h1⟩ | hC <;> rcases TrE_cons.1 h' with ⟨rfl,rfl,rfl⟩ | ⟨d2,rfl,h2⟩ | hD
    · exact ⟨rfl,rfl,rfl⟩
    · have:=(a.nw _ _ _ h2).1; rw [← hn'] at this; omega
    · have h3:=(b.nw _ _ _ hD).1; have h4:=a.le e.node hn; rw [← hn'] at h3; omega
    · have:=(a.nw _ _ _ h1).1; rw [hn'] at this; omega
    · obtain ⟨e1,e2,e3⟩:=a.un _ _ _ _ _ _ h1 h2 hn'
      exact ⟨by rw [e1],e2,e3⟩
    · have h3:=(a.nw _ _ _ h1).2; have h4:=(b.nw _ _ _ hD).1; rw [hn'] at h3; omega
    · have h3:=(b.nw _ _ _ hC).1; have h4:=a.le e'.node hn; rw [hn'] at h3; omega
    · have h3:=(a.nw _ _ _ h2).2; have h4:=(b.nw _ _ _ hC).1; rw [← hn'] at h3; omega
    · exact b.un _ _ _ _ _ _ hC hD hn'
  · intro j hj hne
    by_cases h1:at_ T j=at_ T1 j
    · by_cases h2:at_ T1 j=at_ (bump s x.node) j
      · have h3:=hb j hj
        split at h3
        · rename_i e0
          exact ⟨0,i,x,TrE_cons.2 (.inl ⟨rfl,rfl,rfl⟩),e0.symm⟩
        · exact absurd (by rw [h1,h2,h3]) hne
      · obtain ⟨d,p,e,h3,h4⟩:=a.ex j hj h2
        exact ⟨d+1,p,e,TrE_cons.2 (.inr (.inl ⟨d,rfl,h3⟩)),h4⟩
    · obtain ⟨d,p,e,h3,h4⟩:=b.ex j hj h1
      exact ⟨d,p,e,TrE_cons.2 (.inr (.inr h3)),h4⟩
theorem visitL_seen {f:Fs} {vis:Int→List Int→Option (List Int)} {rec:Int→Nat→Int→Ent→Prop} (hrec:∀ m s T,0≤m→s.length=f.nodes.length→(∀ j:Int,0≤j→0≤at_ s j)→vis m s=some T→Seen f (rec m) s T∧(dirI f m).2=true) (i:Int) :
    ∀ (es:List Ent) (s T:List Int),(∀ e∈es,0≤e.node)→s.length=f.nodes.length→(∀ j:Int,0≤j→0≤at_ s j)→visitL f vis i es s=some T→Seen f (TrE f rec i es) s T
  | [],s,T,_,_,_,h=>by
    simp only [visitL,Option.some.injEq] at h
    subst h
    have no:∀ d p e,¬ TrE f rec i [] d p e:=fun d p e h=>by cases d <;> simp [TrE] at h
    exact ⟨rfl,fun _ _=>Int.le_refl _,fun d p e h=>absurd h (no _ _ _),fun d p e h=>absurd h (no _ _ _),fun d p e d' p' e' h=>absurd h (no _ _ _),fun j _ hj=>absurd rfl hj⟩
  | x :: es,s,T,hp,hs,h0,h=>by
    have hn:=hp x (by simp)
    have hp':∀ e∈es,0≤e.node:=fun e he=>hp e (by simp [he])
    unfold visitL at h
    split at h
    · cases h
    rename_i hc
    simp only [Bool.or_eq_true,decide_eq_true_eq,not_or,Bool.not_eq_true] at hc
    split at h
    · cases h
    rename_i hh
    simp only [Bool.not_eq_true] at hh
    have hz:at_ s x.node=0:=by have:=h0 _ hn; have:=hc.2; omega
    have hxl:=(lost_lt hc.1).1
    have hb0:∀ j:Int,0≤j→0≤at_ (bump s x.node) j:=fun j hj=>by
      rw [at_bump hn hj (by omega)]
      have:=h0 j hj
      split <;> omega
    split at h
    · rename_i hk
      cases hv:vis x.node (bump s x.node) with
      | none=>rw [hv] at h; cases h
      | some T1 =>
        rw [hv] at h
        simp only [Option.bind_some] at h
        obtain ⟨a,hr⟩:=hrec x.node _ T1 hn (by rw [bump_len]; exact hs) hb0 hv
        have a':Seen f (fun d p e=>(nA_ f x.node).kind=2∧rec x.node d p e) (bump s x.node) T1 :=
          ⟨a.len,a.le,fun d p e h=>a.nw d p e h.2,fun d p e h=>a.ok d p e h.2,fun d p e d' p' e' h h'=>a.un d p e d' p' e' h.2 h'.2,fun j hj hne=>by
            obtain ⟨d,p,e,h1,h2⟩:=a.ex j hj hne
            exact ⟨d,p,e,⟨hk,h1⟩,h2⟩⟩
        have b:=visitL_seen hrec i es T1 T hp' (by rw [a.len,bump_len]; exact hs) (fun j hj=>Int.le_trans (hb0 j hj) (a.le j hj)) h
        exact Seen.cons hs hz hn hc.1 hh (fun _=>hr) a' b
    · rename_i hk
      have a':Seen f (fun d p e=>(nA_ f x.node).kind=2∧rec x.node d p e) (bump s x.node) (bump s x.node) :=
        ⟨rfl,fun _ _=>Int.le_refl _,fun d p e h=>absurd h.1 hk,fun d p e h=>absurd h.1 hk,fun d p e d' p' e' h h'=>absurd h.1 hk,fun j _ hj=>absurd rfl hj⟩
      have b:=visitL_seen hrec i es _ T hp' (by rw [bump_len]; exact hs) hb0 h
      exact Seen.cons hs hz hn hc.1 hh (fun h=>absurd h hk) a' b
theorem visit_seen {f:Fs}:∀ (k:Nat) (i:Int) (s T:List Int),0≤i→s.length=f.nodes.length→(∀ j:Int,0≤j→0≤at_ s j)→visit f k i s=some T→Seen f (TrL f k i) s T∧(dirI f i).2=true
  | 0,i,s,T,hi,hs,h0,h=>by
    unfold visit at h
    split at h
    · rename_i hc
      simp only [Option.some.injEq] at h
      subst h
      simp only [Bool.and_eq_true] at hc
      exact ⟨⟨rfl,fun _ _=>Int.le_refl _,fun d p e h=>h.elim,fun d p e h=>h.elim,fun d p e d' p' e' h=>h.elim,fun j _ hj=>absurd rfl hj⟩,hc.1⟩
    · cases h
  | k+1,i,s,T,hi,hs,h0,h=>by
    unfold visit at h
    split at h
    · rename_i hc
      exact ⟨visitL_seen (fun m s T hm hs h0 h=>visit_seen k m s T hm hs h0 h) i _ s T (fun e he=>dirOf_pos _ e he) hs h0 h,hc⟩
    · cases h
theorem TrL_lt {f:Fs}:∀ (k:Nat) (i:Int) (d:Nat) (p:Int) (e:Ent),TrL f k i d p e→d<k∧e∈(dirI f p).1
  | 0,_,_,_,_,h=>h.elim
  | k+1,i,0,p,e,h=>by
    obtain ⟨rfl,h2⟩:=h
    exact ⟨by omega,h2⟩
  | k+1,i,d+1,p,e,h=>by
    obtain ⟨x,-,-,h3⟩:=h
    have:=TrL_lt k _ d p e h3
    exact ⟨by omega,this.2⟩
theorem TrL_step {f:Fs}:∀ (k:Nat) (i:Int) (d:Nat) (p:Int) (e x:Ent),(∃ s T,visit f k i s=some T)→TrL f k i d p e→(nA_ f e.node).kind=2→x∈(dirI f e.node).1→TrL f k i (d+1) e.node x
  | 0,_,_,_,_,_,_,h,_,_=>h.elim
  | k+1,i,d,p,e,x,⟨s,T,hv⟩,h,hk,hx=>by
    have v1:Vis f (k+1) i:=⟨s,T,hv⟩
    cases d with
    | zero =>
      obtain ⟨rfl,h2⟩:=h
      refine ⟨e,h2,hk,?_⟩
      obtain ⟨j,hj,-,-,hvs⟩:=v1.step h2
      obtain rfl:k=j:=by omega
      obtain ⟨s2,T2,hv2⟩:=hvs hk
      cases k with
      | zero =>
        unfold visit at hv2
        split at hv2
        · rename_i hc
          simp only [Bool.and_eq_true,List.isEmpty_iff] at hc
          rw [hc.2] at hx
          cases hx
        · cases hv2
      | succ k=>exact ⟨rfl,hx⟩
    | succ d =>
      obtain ⟨y,hy,hyk,h3⟩:=h
      obtain ⟨j,hj,-,-,hvs⟩:=v1.step hy
      obtain rfl:k=j:=by omega
      exact ⟨y,hy,hyk,TrL_step k _ d p e x (hvs hyk) h3 hk hx⟩
open Classical in
theorem fsOk_cert {f:Fs} (h:fsOk f=true):∃ dep,Cert f dep:=by
  have sh:=fsOk_shape h
  obtain ⟨hk0,hlen⟩:=shape_root sh
  unfold fsOk at h
  simp only [Bool.and_eq_true] at h
  obtain ⟨-,h⟩:=h
  cases hv:visit f 4 0 (zeros f) with
  | none=>rw [hv] at h; cases h
  | some T =>
  rw [hv] at h
  simp only [List.all_eq_true,List.mem_range] at h
  obtain ⟨S,hr0⟩:=visit_seen 4 0 (zeros f) T (Int.le_refl _) (by simp [zeros]) (fun j _=>by rw [at_zeros]; exact Int.le_refl _) hv
  have reach:∀ j:Int,0<j→j<f.nodes.length→(nA_ f j).kind≠0→∃ d p e,TrL f 4 0 d p e∧e.node=j:=fun j h0 h1 h2=>by
    refine S.ex j (by omega) ?_
    rw [at_zeros]
    have:=h j.toNat (by omega)
    have e1:((j.toNat:Nat):Int)=j:=by omega
    rw [e1] at this
    simp at this
    rcases this with (h3 | h3) | h3
    · omega
    · exact absurd h3 h2
    · omega
  have edge:∀ i e,Edge f i e→∃ d,TrL f 4 0 d i e∧(i=0→d=0)∧(i≠0→∃ d' p e',d=d'+1∧TrL f 4 0 d' p e'∧e'.node=i):=by
    rintro i e ⟨h0,h1,h2,h3⟩
    by_cases hi:i=0
    · subst hi
      exact ⟨0,⟨rfl,h3⟩,fun _=>rfl,fun h=>absurd rfl h⟩
    · obtain ⟨d,p,e',h4,rfl⟩:=reach i (by omega) h1 (by rw [h2]; decide)
      exact ⟨d+1,TrL_step 4 0 d p e' e ⟨_,_,hv⟩ h4 h2 h3,fun h=>absurd h hi,fun _=>⟨d,p,e',rfl,h4,rfl⟩⟩
  let dep:Int→Nat:=fun j=>if hh:∃ d p e,TrL f 4 0 d p e∧e.node=j then Classical.choose hh+1 else 0
  have hdep:∀ d p e,TrL f 4 0 d p e→dep e.node=d+1:=fun d p e he=>by
    have hh:∃ d' p' e',TrL f 4 0 d' p' e'∧e'.node=e.node:=⟨d,p,e,he,rfl⟩
    have hc:=Classical.choose_spec hh
    obtain ⟨p',e',hc1,hc2⟩:=hc
    have:=(S.un _ _ _ _ _ _ hc1 he hc2).1
    show (if hh:_ then _ else 0)=_
    rw [dif_pos hh,this]
  have hd0:dep 0=0:=by
    show (if hh:_ then _ else 0)=_
    rw [dif_neg]
    rintro ⟨d,p,e,h1,h2⟩
    have:=mem_node (TrL_lt _ _ _ _ _ h1).2
    omega
  refine ⟨dep,sh,?_,?_,?_,?_,?_,hd0,?_⟩
  · intro i h0 h1 h2
    by_cases hi:i=0
    · subst hi; exact hr0
    · obtain ⟨d,p,e,h4,rfl⟩:=reach i (by omega) h1 (by rw [h2]; decide)
      exact (S.ok d p e h4).2.2.2 h2
  · intro i e he
    obtain ⟨d,h1,-⟩:=edge i e he
    exact (S.ok _ _ _ h1).1
  · intro i e he
    obtain ⟨d,h1,-⟩:=edge i e he
    exact (S.ok _ _ _ h1).2.1
  · intro i j e e' h1 h2 h3
    obtain ⟨d,h1,-⟩:=edge i e h1
    obtain ⟨d',h2,-⟩:=edge j e' h2
    exact (S.un _ _ _ _ _ _ h1 h2 h3).2.1
  · intro j h0 h1 h2
    obtain ⟨d,p,e,h3,h4⟩:=reach j h0 h1 h2
    have hpe:e∈(dirI f p).1:=(TrL_lt _ _ _ _ _ h3).2
    have hp:0≤p∧p<f.nodes.length∧(nA_ f p).kind=2:=by
      have gen:∀ (k:Nat) (i:Int) (d:Nat) (p:Int) (e:Ent),0≤i∧i<f.nodes.length∧(nA_ f i).kind=2→(∃ s T,visit f k i s=some T)→TrL f k i d p e→0≤p∧p<f.nodes.length∧(nA_ f p).kind=2:=by
        intro k
        induction k with
        | zero=>intro i d p e _ _ h; exact h.elim
        | succ k ih =>
          intro i d p e hi hv h
          cases d with
          | zero=>obtain ⟨rfl,-⟩:=h; exact hi
          | succ d =>
            obtain ⟨x,hx,hxk,h3⟩:=h
            obtain ⟨s,T,hv⟩:=hv
            obtain ⟨j,hj,h4,h5,h6⟩:=Vis.step ⟨s,T,hv⟩ hx
            obtain rfl:k=j:=by omega
            exact ih x.node d p e ⟨h4,h5,hxk⟩ (h6 hxk) h3
      exact gen 4 0 d p e ⟨Int.le_refl _,by omega,hk0⟩ ⟨_,_,hv⟩ h3
    exact ⟨p,e,⟨hp.1,hp.2.1,hp.2.2,hpe⟩,h4⟩
  · intro i e he
    obtain ⟨d,h1,h2,h3⟩:=edge i e he
    have e1:=hdep _ _ _ h1
    have e2:=(TrL_lt _ _ _ _ _ h1).1
    refine ⟨?_,by omega⟩
    by_cases hi:i=0
    · rw [e1,hi,hd0,h2 hi]
    · obtain ⟨d',p,e',rfl,h4,rfl⟩:=h3 hi
      rw [e1,hdep _ _ _ h4]
inductive Anc (f:Fs) (a:Int):Int→Prop
  | refl:Anc f a a
  | step {i:Int} {e:Ent}:Anc f a i→Edge f i e→Anc f a e.node
theorem Anc.trans {f:Fs} {a b c:Int} (x:Anc f a b) (y:Anc f b c):Anc f a c:=by
  induction y with
  | refl=>exact x
  | step _ e ih=>exact .step ih e
theorem Anc.one {f:Fs} {i:Int} {e:Ent} (h:Edge f i e):Anc f i e.node:=.step .refl h
theorem Anc.head {f:Fs} {a j:Int} (x:Anc f a j):a=j∨∃ e,Edge f a e∧Anc f e.node j:=by
  induction x with
  | refl=>exact .inl rfl
  | step _ e ih =>
    rcases ih with rfl | ⟨y,h1,h2⟩
    · exact .inr ⟨_,e,.refl⟩
    · exact .inr ⟨y,h1,.step h2 e⟩
section
variable {f:Fs} {dep:Int→Nat} (C:Cert f dep)
include C
theorem anc_dep {a j:Int} (x:Anc f a j):a=j∨dep a<dep j:=by
  induction x with
  | refl=>exact .inl rfl
  | step _ e ih =>
    have:=(C.dep _ _ e).1
    rcases ih with rfl | h
    · exact .inr (by omega)
    · exact .inr (by omega)
theorem anc_uniq {a b j:Int} (x:Anc f a j) (y:Anc f b j) (h:dep a=dep b):a=b:=by
  induction x generalizing b with
  | refl =>
    rcases anc_dep C y with e | e
    · exact e.symm
    · omega
  | @step i e x he ih =>
    obtain ⟨j,hj⟩:∃ j,j=e.node:=⟨_,rfl⟩
    rw [← hj] at y
    cases y with
    | refl =>
      have h1:=(C.dep _ _ he).1
      rw [← hj] at h1
      rcases anc_dep C x with h2 | h2
      · rw [← h2] at h1; omega
      · omega
    | @step i' e' y he' =>
      have:=C.uni _ _ _ _ he' he hj
      subst this
      exact ih y h
theorem visitL_cert {k : Nat} (hrec : ∀ (i : Int) (s : List Int), 0 ≤ i → i < f.nodes.length → (nA_ f i).kind = 2 → dep i + k = 4 → s.length = f.nodes.length → (∀ e ∈ (dirI f i).1, ∀ j : Int, Anc f e.node j → at_ s j = 0) →
      ∃ T,visit f k i s=some T∧T.length=s.length∧∀ j:Int,0≤j→((∃ e∈(dirI f i).1,Anc f e.node j)→at_ T j=1)∧((∀ e∈(dirI f i).1,¬ Anc f e.node j)→at_ T j=at_ s j))
    (i:Int) (h0:0≤i) (h1:i<f.nodes.length) (hk:(nA_ f i).kind=2) (hd:dep i+(k+1)=4) :
    ∀ (es:List Ent) (s:List Int),(∀ e∈es,e∈(dirI f i).1)→es.Pairwise (fun x y=>x.node≠y.node)→s.length=f.nodes.length→(∀ e∈es,∀ j:Int,Anc f e.node j→at_ s j=0) →
      ∃ T,visitL f (visit f k) i es s=some T∧T.length=s.length∧∀ j:Int,0≤j→((∃ e∈es,Anc f e.node j)→at_ T j=1)∧((∀ e∈es,¬ Anc f e.node j)→at_ T j=at_ s j)
  | [],s,_,_,hs,hz=>by
    refine ⟨s,rfl,rfl,fun j _=>⟨?_,fun _=>rfl⟩⟩
    rintro ⟨e,he,_⟩
    cases he
  | x :: es,s,hm,hp,hs,hz=>by
    have hx:Edge f i x:=⟨h0,h1,hk,hm x (by simp)⟩
    have hlo:=C.lo i x hx
    have hhi:=C.hi i x hx
    have hnd:=mem_node hx.2.2.2
    have hlt:=(lost_lt hlo).1
    have hx0:at_ s x.node=0:=hz x (by simp) _ .refl
    have hdx:=(C.dep i x hx).1
    have hb:∀ m:Int,0≤m→at_ (bump s x.node) m=if m=x.node then at_ s x.node+1 else at_ s m:=fun m hm=>at_bump (by omega) hm (by omega)
    have hlb:(bump s x.node).length=f.nodes.length:=by rw [bump_len]; exact hs
    rw [List.pairwise_cons] at hp
    have anc0:∀ {a j:Int},0≤a→Anc f a j→0≤j:=fun {a j} ha hx=>by
      cases hx with
      | refl=>exact ha
      | step _ e=>exact Int.le_trans (by decide) (mem_node e.2.2.2).1
    have dis:∀ e∈es,∀ j,Anc f x.node j→¬ Anc f e.node j:=fun e he j a b=>by
      have he':Edge f i e:=⟨h0,h1,hk,hm e (by simp [he])⟩
      exact hp.1 e he (anc_uniq C a b (by rw [hdx,(C.dep i e he').1]))
    have sub:∃ T1,(if (nA_ f x.node).kind=2 then visit f k x.node (bump s x.node) else some (bump s x.node))=some T1∧T1.length=f.nodes.length∧∀ j:Int,0≤j→(Anc f x.node j→at_ T1 j=1)∧(¬ Anc f x.node j→at_ T1 j=at_ s j):=by
      split
      · rename_i hk2
        obtain ⟨T1,e1,e2,e3⟩:=hrec x.node (bump s x.node) (by omega) hlt hk2 (by omega) hlb (fun e he j hj=>by
          have hxe:Edge f x.node e:=⟨by omega,hlt,hk2,he⟩
          have hj0:0≤j:=anc0 (by have:=mem_node he; omega) hj
          rw [hb j hj0,if_neg]
          · exact hz x (by simp) j (Anc.trans (.one hxe) hj)
          · intro e0
            have h5:=(C.dep _ _ hxe).1
            rcases anc_dep C hj with h6 | h6
            · rw [h6,e0] at h5; omega
            · rw [e0] at h6; omega)
        refine ⟨T1,e1,by rw [e2]; exact hlb,fun j hj=>⟨fun a=>?_,fun a=>?_⟩⟩
        · rcases Anc.head a with rfl | ⟨e,h5,h6⟩
          · by_cases hc:∃ e∈(dirI f x.node).1,Anc f e.node x.node
            · exact (e3 _ hj).1 hc
            · rw [(e3 _ hj).2 (fun e he h7=>hc ⟨e,he,h7⟩),hb _ hj,if_pos rfl,hx0]; rfl
          · exact (e3 _ hj).1 ⟨e,h5.2.2.2,h6⟩
        · rw [(e3 _ hj).2 (fun e he h7=>a (Anc.trans (.one ⟨by omega,hlt,hk2,he⟩) h7)),hb _ hj,if_neg (by rintro rfl; exact a .refl)]
      · rename_i hk2
        refine ⟨_,rfl,hlb,fun j hj=>⟨fun a=>?_,fun a=>?_⟩⟩
        · rcases Anc.head a with rfl | ⟨e,h5,h6⟩
          · rw [hb _ hj,if_pos rfl,hx0]; rfl
          · exact absurd h5.2.2.1 hk2
        · rw [hb _ hj,if_neg (by rintro rfl; exact a .refl)]
    obtain ⟨T1,e1,e2,e3⟩:=sub
    obtain ⟨T,g1,g2,g3⟩:=visitL_cert hrec i h0 h1 hk hd es T1 (fun e he=>hm e (by simp [he])) hp.2 e2 (fun e he j hj=>by
      have hj0:0≤j:=anc0 (by have:=mem_node (hm e (by simp [he])); omega) hj
      rw [(e3 j hj0).2 (fun a=>dis e he j a hj)]
      exact hz e (by simp [he]) j hj)
    refine ⟨T,?_,by rw [g2,e2,hs],fun j hj=>⟨?_,?_⟩⟩
    · unfold visitL
      have hx0':¬ (0<at_ s x.node):=by omega
      simp only [hlo,hx0',hhi,decide_false,Bool.or_self,Bool.false_eq_true,if_false]
      split
      · rename_i hk2
        rw [if_pos hk2] at e1
        rw [e1]
        exact g1
      · rename_i hk2
        rw [if_neg hk2] at e1
        cases e1
        exact g1
    · rintro ⟨e,he,ha⟩
      by_cases hc:∃ e∈es,Anc f e.node j
      · exact (g3 j hj).1 hc
      · rw [(g3 j hj).2 (fun e he h7=>hc ⟨e,he,h7⟩)]
        rcases List.mem_cons.1 he with rfl | he
        · exact (e3 j hj).1 ha
        · exact absurd ⟨e,he,ha⟩ hc
    · intro ha
      rw [(g3 j hj).2 (fun e he=>ha e (by simp [he])),(e3 j hj).2 (ha x (by simp))]
theorem visit_cert : ∀ (k : Nat) (i : Int) (s : List Int), 0 ≤ i → i < f.nodes.length → (nA_ f i).kind = 2 → dep i + k = 4 → s.length = f.nodes.length → (∀ e ∈ (dirI f i).1, ∀ j : Int, Anc f e.node j → at_ s j = 0) →
      ∃ T,visit f k i s=some T∧T.length=s.length∧∀ j:Int,0≤j→((∃ e∈(dirI f i).1,Anc f e.node j)→at_ T j=1)∧((∀ e∈(dirI f i).1,¬ Anc f e.node j)→at_ T j=at_ s j)
  | 0,i,s,h0,h1,hk,hd,hs,hz=>by
    have he:(dirI f i).1=[]:=by
      cases h:(dirI f i).1 with
      | nil=>rfl
      | cons e r =>
        have:=C.dep i e ⟨h0,h1,hk,by rw [h]; simp⟩
        omega
    refine ⟨s,?_,rfl,fun j _=>⟨fun h=>?_,fun _=>rfl⟩⟩
    rotate_left
    · obtain ⟨e,h,_⟩:=h
      rw [he] at h; cases h
    unfold visit
    simp [C.read i h0 h1 hk,he]
  | k+1,i,s,h0,h1,hk,hd,hs,hz=>by
    have hr:=C.read i h0 h1 hk
    unfold visit
    rw [if_pos hr]
    refine visitL_cert C (fun i s=>visit_cert k i s) i h0 h1 hk hd _ s (fun e he=>he) ?_ hs hz
    exact (ok_ord (dirI_two hr).1).imp fun h=>h.2
theorem anc_root:∀ (n:Nat) (j:Int),dep j=n→0≤j→j<f.nodes.length→(nA_ f j).kind≠0→Anc f 0 j:=by
  intro n
  induction n with
  | zero =>
    intro j hd h0 h1 h2
    by_cases hj:j=0
    · subst hj; exact .refl
    · obtain ⟨i,e,h3,rfl⟩:=C.all j (by omega) h1 h2
      have:=(C.dep i e h3).1
      omega
  | succ n ih =>
    intro j hd h0 h1 h2
    by_cases hj:j=0
    · subst hj; exact .refl
    · obtain ⟨i,e,h3,rfl⟩:=C.all j (by omega) h1 h2
      have:=(C.dep i e h3).1
      exact .step (ih i (by omega) h3.1 h3.2.1 (by rw [h3.2.2.1]; decide)) h3
theorem cert_fsOk:fsOk f=true:=by
  obtain ⟨hk0,hlen⟩:=shape_root C.sh
  obtain ⟨T,h1,-,h3⟩:=visit_cert C 4 0 (zeros f) (Int.le_refl _) (by omega) hk0 (by rw [C.d0]) (by simp [zeros]) (fun _ _ j _=>at_zeros f j)
  unfold fsOk
  rw [h1]
  have hs:shapeOk f=true:=shapeOk_t C.sh
  simp only [hs,Bool.true_and,List.all_eq_true,List.mem_range]
  intro q hq
  by_cases hc:0<q∧(nA_ f (q:Int)).kind≠0
  · have ha:=anc_root C _ (q:Int) rfl (by omega) (by omega) hc.2
    rcases Anc.head ha with h | ⟨e,h5,h6⟩
    · omega
    · have:=(h3 (q:Int) (by omega)).1 ⟨e,h5.2.2.2,h6⟩
      simp [this]
  · by_cases h0:0<q
    · have:(nA_ f (q:Int)).kind=0:=by
        rcases Classical.em ((nA_ f (q:Int)).kind=0) with h | h
        · exact h
        · exact absurd ⟨h0,h⟩ hc
      simp [this]
    · simp [h0]
end
theorem names_ok (p:Str):(names p).length≤4∧(names p).all nameOk=true:=⟨names_len p,List.all_eq_true.2 fun x hx=>names_mem hx⟩
theorem pathOf_raw {l:List Str} (h1:l≠[]) (h2:l.length≤4) (h3:l.all nameOk=true):pathOf l=rawP l:=by
  have h4:(l.any fun s=>!nameOk s)=false:=by
    rw [List.any_eq_false]
    intro x hx
    have:=List.all_eq_true.1 h3 x hx
    simp [this]
  have h5:¬ (4<l.length):=by omega
  unfold pathOf
  rw [h4]
  simp only [h5,decide_false,Bool.or_self,Bool.false_eq_true,if_false]
  cases l with
  | nil=>exact absurd rfl h1
  | cons x xs=>exact raw_join x xs
theorem pathOf_of_names {p:Str} (h:pathOk p=true) (hr:p≠[47]):pathOf (names p)=p:=by
  have h1:=names_pos h hr
  rw [pathOf_raw (List.length_pos_iff.1 h1) (names_ok p).1 (names_ok p).2]
  exact (path_raw h hr).symm
theorem pw_inj {α β:Type} {g:α→β}:∀ {xs:List α},xs.Pairwise (fun a b=>g a≠g b)→∀ {a b:α},a∈xs→b∈xs→g a=g b→a=b
  | [],_,_,_,h,_,_=>by cases h
  | x :: xs,hp,a,b,ha,hb,e=>by
    rw [List.pairwise_cons] at hp
    rcases List.mem_cons.1 ha with h1 | h1 <;> rcases List.mem_cons.1 hb with h2 | h2
    · rw [h1,h2]
    · rw [h1] at e
      exact absurd e (hp.1 b h2)
    · rw [h2] at e
      exact absurd e.symm (hp.1 a h1)
    · exact pw_inj hp.2 h1 h2 e
theorem mem_names {f:Fs} {i:Int} {e:Ent} (h:e∈(dirI f i).1):(dirI f i).1.Pairwise fun a b=>a.name≠b.name:=by
  refine List.Pairwise.imp (fun {a b} hl e=>?_) (ok_ord (mem_ok h))
  rw [e,less_irr] at hl
  cases hl.1
theorem follow_cons (f:Fs) (n:Str) (ns:List Str) (i:Int):follow f (n :: ns) i=if (nA_ f i).kind=2 then (if dirFind (dirI f i).1 n<0 then -1 else follow f ns (dirFind (dirI f i).1 n)) else -1:=rfl
theorem follow_app (f:Fs):∀ (a b:List Str) (i:Int),0≤i→follow f (a++b) i=if follow f a i<0 then -1 else follow f b (follow f a i)
  | [],b,i,h=>by
    show follow f b i=if i<0 then -1 else follow f b i
    rw [if_neg (by omega)]
  | n :: a,b,i,h=>by
    rw [List.cons_append,follow_cons,follow_cons]
    split
    · split
      · rfl
      · rename_i h2
        exact follow_app f a b _ (by omega)
    · rfl
theorem follow_neg (f:Fs):∀ (a:List Str) (i:Int),0≤i→follow f a i<0→follow f a i=-1
  | [],i,h,h2=>by have:i<0:=h2; omega
  | n :: a,i,h,h2=>by
    rw [follow_cons] at h2 ⊢
    split
    · split
      · rfl
      · rename_i h3 h4
        rw [if_pos h3,if_neg h4] at h2
        exact follow_neg f a _ (by omega) h2
    · rfl
theorem follow_last (f:Fs) (ns:List Str) (a:Str):follow f (ns++[a]) 0=if 0≤follow f ns 0∧(nA_ f (follow f ns 0)).kind=2 then (if dirFind (dirI f (follow f ns 0)).1 a<0 then -1 else dirFind (dirI f (follow f ns 0)).1 a) else -1:=by
  rw [follow_app f ns [a] 0 (Int.le_refl _)]
  by_cases h:follow f ns 0<0
  · rw [if_pos h,if_neg (by omega)]
  · rw [if_neg h,follow_cons]
    by_cases h2:(nA_ f (follow f ns 0)).kind=2
    · rw [if_pos h2,if_pos (show 0≤follow f ns 0∧(nA_ f (follow f ns 0)).kind=2 from ⟨by omega,h2⟩)]
      rfl
    · rw [if_neg h2,if_neg (fun h3:0≤follow f ns 0∧(nA_ f (follow f ns 0)).kind=2=>h2 h3.2)]
theorem dirFind_pos {es:List Ent} {a:Str} (h:0≤dirFind es a):∃ e∈es,e.name=a∧dirFind es a=e.node:=dirFind_ent h
section
variable {f:Fs} {dep:Int→Nat} (C:Cert f dep)
include C
theorem at_range (ns:List Str) (h:0≤follow f ns 0):follow f ns 0<f.nodes.length:=by
  rcases follow_okd ns 0 (okd_root (cert_fsOk C)) with h1 | h1
  · omega
  · exact h1.2.1
theorem at_snoc {ns:List Str} {a:Str} (h:0≤follow f (ns++[a]) 0):∃ e,0≤follow f ns 0∧Edge f (follow f ns 0) e∧e.name=a∧follow f (ns++[a]) 0=e.node:=by
  rw [follow_last] at h ⊢
  split at h
  · rename_i h1
    rw [if_pos h1]
    split at h
    · omega
    · rename_i h2
      rw [if_neg h2]
      obtain ⟨e,he,h3,h4⟩:=dirFind_pos (show 0≤dirFind _ a by omega)
      exact ⟨e,h1.1,⟨h1.1,at_range C ns h1.1,h1.2,he⟩,h3,h4⟩
  · omega
omit C in
theorem at_ext {ns:List Str} {e:Ent} (he:Edge f (follow f ns 0) e):follow f (ns++[e.name]) 0=e.node:=by
  rw [follow_last,if_pos ⟨he.1,he.2.2.1⟩]
  have h1:=dirFind_name (mem_names he.2.2.2) e he.2.2.2
  rw [h1,if_neg]
  have:=mem_node he.2.2.2
  omega
theorem at_kind {ns:List Str} (h:0≤follow f ns 0):(nA_ f (follow f ns 0)).kind≠0:=by
  rcases List.eq_nil_or_concat ns with rfl | ⟨ns,a,rfl⟩
  · show (nA_ f 0).kind≠0
    rw [(shape_root C.sh).1]; decide
  · simp only [List.concat_eq_append] at h ⊢
    obtain ⟨e,h1,h2,h3,h4⟩:=at_snoc C h
    rw [h4]
    exact (lost_lt (C.lo _ _ h2)).2
theorem at_dep:∀ (n:Nat) (ns:List Str),ns.length=n→0≤follow f ns 0→dep (follow f ns 0)=n:=by
  intro n
  induction n with
  | zero =>
    intro ns h _
    obtain rfl:=List.length_eq_zero_iff.1 h
    exact C.d0
  | succ n ih =>
    intro ns h h0
    rcases List.eq_nil_or_concat ns with rfl | ⟨ns,a,rfl⟩
    · simp at h
    simp only [List.concat_eq_append] at h h0 ⊢
    obtain ⟨e,h1,h2,h3,h4⟩:=at_snoc C h0
    rw [h4,(C.dep _ _ h2).1,ih ns (by simpa using h) h1]
theorem at_len {ns:List Str} (h:0≤follow f ns 0):ns.length≤4:=by
  rcases List.eq_nil_or_concat ns with rfl | ⟨ns,a,rfl⟩
  · simp
  have hd:=at_dep C _ _ rfl h
  simp only [List.concat_eq_append] at h hd ⊢
  obtain ⟨e,h1,h2,h3,h4⟩:=at_snoc C h
  rw [← hd,h4]
  exact (C.dep _ _ h2).2
theorem at_uniq:∀ (n:Nat) (ns ms:List Str),ns.length=n→0≤follow f ns 0→follow f ns 0=follow f ms 0→ns=ms:=by
  intro n
  induction n with
  | zero =>
    intro ns ms h h0 he
    obtain rfl:=List.length_eq_zero_iff.1 h
    have h1:=at_dep C _ ms rfl (by omega)
    rw [← he] at h1
    have h2:dep (follow f ([]:List Str) 0)=0:=C.d0
    rw [h2] at h1
    exact (List.length_eq_zero_iff.1 h1.symm).symm
  | succ n ih =>
    intro ns ms h h0 he
    have h1:=at_dep C _ ms rfl (by omega)
    have h2:=at_dep C _ ns rfl h0
    rcases List.eq_nil_or_concat ns with rfl | ⟨ns,a,rfl⟩
    · simp at h
    rcases List.eq_nil_or_concat ms with rfl | ⟨ms,b,rfl⟩
    · rw [← he,h2] at h1; simp at h1
    simp only [List.concat_eq_append] at h h0 he ⊢
    obtain ⟨e,q1,q2,rfl,q4⟩:=at_snoc C h0
    obtain ⟨d,r1,r2,rfl,r4⟩:=at_snoc C (by rw [← he]; exact h0)
    have hn:e.node=d.node:=by rw [← q4,← r4,he]
    have hu:=C.uni _ _ _ _ q2 r2 hn
    rw [ih ns ms (by simpa using h) q1 hu]
    rw [← hu] at r2
    have:e=d:=by
      have ho:=ok_ord (mem_ok q2.2.2.2)
      exact pw_inj (g:=Ent.node) (ho.imp fun h=>h.2) q2.2.2.2 r2.2.2.2 hn
    rw [this]
theorem tree_iff (x:Item):x∈tI_ f↔∃ ns:List Str,ns≠[]∧ns.all nameOk=true∧0≤follow f ns 0∧x=itemN f (pathOf ns) (follow f ns 0):=by
  have ok:=cert_fsOk C
  constructor
  · intro hx
    obtain ⟨h1,h2⟩:=tree_walk hx
    obtain ⟨ms,h3,h4,h5,h6⟩:=tree_path hx
    rw [h3,walk_of ok h5 h6] at h1 h2
    exact ⟨ms,(fun e=>by rw [e] at h4; simp at h4),h6,h1,h2⟩
  · rintro ⟨ns,h1,h2,h3,rfl⟩
    have hl:=at_len C h3
    have hw:=walk_of ok hl h2
    rw [← hw]
    refine walk_tree (List.length_pos_iff.2 h1) hl h2 ?_
    rw [hw]; exact h3
end
theorem tree_get {f:Fs} (ok:fsOk f=true) {p:Str} (hp:pathOk p=true) (hr:p≠[47]):treeGet (tI_ f) p=if 0≤walk f p then (itemN f p (walk f p),true) else (⟨[],0,[],0⟩,false):=by
  obtain ⟨dep,C⟩:=fsOk_cert ok
  rw [treeGet_find hr]
  split
  · rename_i hw
    obtain ⟨x,hx⟩:∃ x,x=itemN f p (walk f p):=⟨_,rfl⟩
    have hpx:x.path=p:=by rw [hx]; rfl
    have hm:x∈tI_ f:=by
      rw [hx]
      have hn:=names_ok p
      have e:=pathOf_of_names hp hr
      have:=walk_tree (names_pos hp hr) hn.1 hn.2 (by rw [e]; exact hw)
      rw [e] at this
      exact this
    have:=find_only (tree_distinct f) hm
    rw [hpx] at this
    rw [this,hx]
  · rename_i hw
    rcases treeFind_findI (tI_ f) p with ⟨-,h⟩ | ⟨j,hj,-,h⟩
    · exact h
    · have hm:(tI_ f)[j]∈tI_ f:=List.getElem_mem hj
      have h3:=find_some (xs:=tI_ f) (p:=p) (by rw [h])
      rw [h] at h3
      have:=(tree_walk h3.1).1
      rw [h3.2] at this
      exact absurd this hw
structure Nd where
  kind:Int
  gen:Int
  time:Int
  text:Str
def view (f:Fs) (i:Int):Nd:=⟨(nA_ f i).kind,(nA_ f i).gen,(nA_ f i).time,contentI f i⟩
structure Upd (f g:Fs) (i:Int) (x:Nd):Prop where
  sh:ShapeOk g
  len:g.nodes.length=f.nodes.length
  eq:∀ j:Int,0≤j→view g j=if j=i then x else view f j
theorem itemN_view {f g:Fs} {i j:Int} (h:view f i=view g j) (p:Str):itemN f p i=itemN g p j:=by
  simp only [view,Nd.mk.injEq] at h
  simp only [itemN,h.1,h.2.2.1,h.2.2.2]
theorem dirI_view {f g:Fs} {i j:Int} (h:view f i=view g j):dirI f i=dirI g j:=by
  simp only [view,Nd.mk.injEq] at h
  unfold dirI
  rw [h.2.2.2]
theorem kind_view {f g:Fs} {i j:Int} (h:view f i=view g j):(nA_ f i).kind=(nA_ g j).kind:=by
  simp only [view,Nd.mk.injEq] at h
  exact h.1
theorem upd_written {f:Fs} (s:ShapeOk f) {i:Nat} {data:Str} (W:Wrote f i data):Upd f (written f (i:Int) data) (i:Int) ⟨(nA_ f (i:Int)).kind,(nA_ f (i:Int)).gen,(nA_ f (i:Int)).time,data⟩:=by
  refine ⟨written_shape W s,by simp [written],fun j hj=>?_⟩
  obtain ⟨q,rfl⟩:=Int.eq_ofNat_of_zero_le hj
  by_cases hq:i=q
  · subst hq
    rw [if_pos rfl]
    unfold view
    rw [written_content s W]
    have:=W.hi
    simp [written,nA_,this]
  · rw [if_neg (by omega)]
    obtain ⟨e1,e2⟩:=written_other s W hq
    unfold view
    rw [e1,e2]
theorem upd_write {f:Fs} (s:ShapeOk f) {i:Nat} {data:Str} (h:(nW_ f (i:Int) data).2=true):Wrote f i data∧(nW_ f (i:Int) data).1=written f (i:Int) data∧Upd f (nW_ f (i:Int) data).1 (i:Int) ⟨(nA_ f (i:Int)).kind,(nA_ f (i:Int)).gen,(nA_ f (i:Int)).time,data⟩:=by
  rcases nodeWrite_cases f (i:Int) data s with e | ⟨m,hm,W,e⟩
  · rw [e] at h; cases h
  · obtain rfl:i=m:=by omega
    rw [e]
    exact ⟨W,rfl,upd_written s W⟩
theorem upd_make {f:Fs} (s:ShapeOk f) {m:Nat} (hm:m<f.nodes.length) (hn:f.nodes[m]=⟨0,0,0,0,[]⟩) {kind:Int} (hk:1≤kind∧kind≤3):Upd f ⟨f.nodes.set m ⟨kind,0,0,0,[]⟩,f.data⟩ (m:Int) ⟨kind,0,0,[]⟩:=by
  refine ⟨made_shape s hm hn hk,by simp,fun j hj=>?_⟩
  obtain ⟨q,rfl⟩:=Int.eq_ofNat_of_zero_le hj
  by_cases hq:m=q
  · subst hq
    rw [if_pos rfl]
    simp [view,contentI,contentOf,nA_,hm]
  · rw [if_neg (by omega)]
    have e1:nA_ ⟨f.nodes.set m ⟨kind,0,0,0,[]⟩,f.data⟩ (q:Int)=nA_ f (q:Int):=by
      unfold nA_
      simp [List.getElem?_set,hq]
    unfold view contentI
    rw [e1]
    rfl
theorem upd_stamp {f:Fs} (s:ShapeOk f) {i:Nat} (hi:i<f.nodes.length) {t g:Int} (h0:(nA_ f (i:Int)).kind≠0) (h2:(nA_ f (i:Int)).kind=2→g=0∧t=0) (ht:0≤t∧t≤100000) (hg:0≤g∧g≤1000000):Upd f (stamped f i t g) (i:Int) ⟨(nA_ f (i:Int)).kind,g,t,contentI f (i:Int)⟩:=by
  have e0:=nodeAtI_get hi
  have hb:(held (f.nodes.set i { nA_ f (i:Int) with gen:=g,time:=t }))=held f.nodes:=by
    rw [held_cut _ _ hi,held_self _ _ hi,e0]
  have hget:∀ q,nA_ (stamped f i t g) (q:Nat)=if q=i then { nA_ f (i:Int) with gen:=g,time:=t } else nA_ f (q:Int):=fun q=>by
    unfold stamped nA_
    by_cases hq:i=q
    · subst hq; simp [hi]
    · have hq':¬ q=i:=fun h=>hq h.symm
      simp [List.getElem?_set,hq,hq']
  refine ⟨⟨by simpa [stamped] using s.nodes,s.data,?_,?_,?_,?_,?_⟩,by simp [stamped],fun j hj=>?_⟩
  · intro hk
    have hk':0<f.nodes.length:=by simpa [stamped] using hk
    have:=s.root hk'
    simp only [stamped,List.getElem_set]
    split
    · rename_i h; subst h; rw [e0]; exact this
    · exact this
  · intro n hn
    rcases List.mem_or_eq_of_mem_set hn with hn | rfl
    · exact s.ok n hn
    · have hok:=nodeOk_iff.1 (s.ok _ (List.getElem_mem hi))
      rw [← e0] at hok
      rw [nodeOk_iff]
      rcases hok with ⟨k0,-⟩ | ⟨a1,a2,a3,a4,a5,a6,a7,a8,a9⟩
      · exact absurd k0 h0
      · exact .inr ⟨a1,a2,hg,ht,a5,h2,a7,a8,a9⟩
  · have:=s.own
    unfold OwnOk at this ⊢
    simp only [stamped]
    rw [hb]
    exact this
  · intro k hk
    have:=s.blocks k hk
    simp only [stamped]
    rw [hb]
    exact this
  · intro n hn
    rcases List.mem_or_eq_of_mem_set hn with hn | rfl
    · exact s.lens n hn
    · have:=s.lens _ (List.getElem_mem hi)
      rw [← e0] at this
      exact this
  · obtain ⟨q,rfl⟩:=Int.eq_ofNat_of_zero_le hj
    unfold view contentI
    rw [hget q]
    by_cases hq:q=i
    · subst hq; rw [if_pos rfl,if_pos rfl]; rfl
    · rw [if_neg hq,if_neg (by omega)]; rfl
theorem follow_sub {f g:Fs} {dg:Int→Nat} (D:Cert g dg) (h:∀ i e,Edge g i e→Edge f i e):∀ (n:Nat) (ns:List Str),ns.length=n→0≤follow g ns 0→follow f ns 0=follow g ns 0:=by
  intro n
  induction n with
  | zero =>
    intro ns hl _
    obtain rfl:=List.length_eq_zero_iff.1 hl
    rfl
  | succ n ih =>
    intro ns hl h0
    rcases List.eq_nil_or_concat ns with rfl | ⟨ns,a,rfl⟩
    · simp at hl
    simp only [List.concat_eq_append] at hl h0 ⊢
    obtain ⟨e,h1,h2,rfl,h4⟩:=at_snoc D h0
    rw [h4]
    have:=ih ns (by simpa using hl) h1
    exact at_ext (by rw [this]; exact h _ _ h2)
theorem follow_ext {f g:Fs} (h:∀ ns,0≤follow f ns 0→follow g ns 0=follow f ns 0) (h':∀ ns,0≤follow g ns 0→follow f ns 0=follow g ns 0) (ns:List Str):follow g ns 0=follow f ns 0:=by
  by_cases h1:0≤follow f ns 0
  · exact h ns h1
  · by_cases h2:0≤follow g ns 0
    · exact (h' ns h2).symm
    · rw [follow_neg g ns 0 (Int.le_refl _) (by omega),follow_neg f ns 0 (Int.le_refl _) (by omega)]
theorem cert_same {f g:Fs} {dep:Int→Nat} (C:Cert f dep) (sh:ShapeOk g) (len:g.nodes.length=f.nodes.length) (hk:∀ j:Int,0≤j→(nA_ g j).kind=(nA_ f j).kind) (hd:∀ j:Int,0≤j→(nA_ f j).kind=2→dirI g j=dirI f j):Cert g dep∧∀ ns,follow g ns 0=follow f ns 0:=by
  have he:∀ i e,Edge g i e↔Edge f i e:=fun i e=>by
    unfold Edge
    rw [len]
    constructor
    · rintro ⟨h0,h1,h2,h3⟩
      rw [hk i h0] at h2
      rw [hd i h0 h2] at h3
      exact ⟨h0,h1,h2,h3⟩
    · rintro ⟨h0,h1,h2,h3⟩
      exact ⟨h0,h1,by rw [hk i h0]; exact h2,by rw [hd i h0 h2]; exact h3⟩
  have hn:∀ i e,Edge f i e→(nA_ g e.node).kind=(nA_ f e.node).kind:=fun i e h=>hk _ (by have:=mem_node h.2.2.2; omega)
  have D:Cert g dep:=by
    refine ⟨sh,fun i h0 h1 h2=>?_,fun i e h=>?_,fun i e h=>?_,fun i j e d h1 h2 h3=>C.uni i j e d ((he _ _).1 h1) ((he _ _).1 h2) h3,fun j h0 h1 h2=>?_,C.d0,fun i e h=>C.dep i e ((he _ _).1 h)⟩
    · rw [hk i h0] at h2
      rw [hd i h0 h2]
      exact C.read i h0 (by omega) h2
    · have h':=(he _ _).1 h
      have:=lost_lt (C.lo i e h')
      exact lost_of (by omega) (by rw [hn i e h']; exact this.2)
    · have h':=(he _ _).1 h
      have:=C.hi i e h'
      unfold hiddenBad at this ⊢
      rw [hn i e h']
      exact this
    · rw [hk j (by omega)] at h2
      obtain ⟨i,e,h3,h4⟩:=C.all j h0 (by omega) h2
      exact ⟨i,e,(he _ _).2 h3,h4⟩
  exact ⟨D,follow_ext (fun ns h=>follow_sub C (fun i e=>(he i e).2) _ ns rfl h) (fun ns h=>follow_sub D (fun i e=>(he i e).1) _ ns rfl h)⟩
theorem cert_grow {f g:Fs} {dep:Int→Nat} (C:Cert f dep) {d m:Int} {nm:Str} {kind:Int} (hm0:0<m) (hmn:m<f.nodes.length) (hmk:(nA_ f m).kind=0) (hd0:0≤d) (hdn:d<f.nodes.length) (hdk:(nA_ f d).kind=2) (hdep:dep d+1≤4)
    (sh:ShapeOk g) (len:g.nodes.length=f.nodes.length) (hkn:kind≠0) (hk:∀ j:Int,0≤j→(nA_ g j).kind=if j=m then kind else (nA_ f j).kind)
    (hr:∀ j:Int,0≤j→(nA_ g j).kind=2→(j=m∨(dirI f j).2=true)→(dirI g j).2=true) (he:∀ (j:Int) (e:Ent),Edge g j e↔Edge f j e∨(j=d∧e=⟨nm,m⟩)) (hh:nm=[126]→d=0∧kind=1) :
    Cert g (fun j=>if j=m then dep d+1 else dep j)∧(∀ ns,0≤follow f ns 0→follow g ns 0=follow f ns 0)∧(∀ ns,0≤follow g ns 0→follow f ns 0=follow g ns 0∨(follow g ns 0=m∧∃ ps,follow f ps 0=d∧ns=ps++[nm])):=by
  have hdm:d≠m:=fun h=>by rw [h,hmk] at hdk; cases hdk
  have old:∀ j e,Edge f j e→j≠m∧e.node≠m:=fun j e h=>by
    refine ⟨fun e0=>?_,fun e0=>?_⟩
    · have:=h.2.2.1; rw [e0,hmk] at this; cases this
    · have:=(lost_lt (C.lo j e h)).2; rw [e0] at this; exact this hmk
  have hn:∀ j e,Edge f j e→(nA_ g e.node).kind=(nA_ f e.node).kind:=fun j e h=>by
    rw [hk _ (by have:=mem_node h.2.2.2; omega),if_neg (old j e h).2]
  have D:Cert g (fun j=>if j=m then dep d+1 else dep j):=by
    refine ⟨sh,fun j h0 h1 h2=>?_,fun j e h=>?_,fun j e h=>?_,fun j k e x h1 h2 h3=>?_,fun j h0 h1 h2=>?_,?_,fun j e h=>?_⟩
    · refine hr j h0 h2 ?_
      by_cases hjm:j=m
      · exact .inl hjm
      · rw [hk j h0,if_neg hjm] at h2
        exact .inr (C.read j h0 (by omega) h2)
    · rcases (he _ _).1 h with h' | ⟨rfl,rfl⟩
      · have:=lost_lt (C.lo j e h')
        exact lost_of (by omega) (by rw [hn j e h']; exact this.2)
      · exact lost_of (by simp only; omega) (by simp only; rw [hk m (by omega),if_pos rfl]; exact hkn)
    · rcases (he _ _).1 h with h' | ⟨rfl,rfl⟩
      · have:=C.hi j e h'
        unfold hiddenBad at this ⊢
        rw [hn j e h']
        exact this
      · unfold hiddenBad
        simp only
        rw [hk m (by omega),if_pos rfl]
        by_cases hnm:nm=[126]
        · obtain ⟨a,b⟩:=hh hnm
          simp [hnm,a,b]
        · simp [hnm]
    · rcases (he _ _).1 h1 with h1 | ⟨rfl,rfl⟩ <;> rcases (he _ _).1 h2 with h2 | ⟨rfl,rfl⟩
      · exact C.uni j k e x h1 h2 h3
      · exact absurd h3 (old j e h1).2
      · exact absurd h3.symm (old k x h2).2
      · rfl
    · by_cases hjm:j=m
      · exact ⟨d,⟨nm,m⟩,(he _ _).2 (.inr ⟨rfl,rfl⟩),hjm.symm⟩
      · rw [hk j (by omega),if_neg hjm] at h2
        obtain ⟨k,e,h4,h5⟩:=C.all j h0 (by omega) h2
        exact ⟨k,e,(he _ _).2 (.inl h4),h5⟩
    · rw [if_neg (by omega)]; exact C.d0
    · rcases (he _ _).1 h with h' | ⟨rfl,rfl⟩
      · rw [if_neg (old j e h').1,if_neg (old j e h').2]
        exact C.dep j e h'
      · rw [if_neg hdm,if_pos rfl]
        exact ⟨rfl,hdep⟩
  refine ⟨D,fun ns h=>follow_sub C (fun i e h=>(he _ _).2 (.inl h)) _ ns rfl h,?_⟩
  have key:∀ (n:Nat) (ns:List Str),ns.length=n→0≤follow g ns 0→follow f ns 0=follow g ns 0∨(follow g ns 0=m∧∃ ps,follow f ps 0=d∧ns=ps++[nm]):=by
    intro n
    induction n with
    | zero =>
      intro ns hl _
      obtain rfl:=List.length_eq_zero_iff.1 hl
      exact .inl rfl
    | succ n ih =>
      intro ns hl h0
      rcases List.eq_nil_or_concat ns with rfl | ⟨ns,a,rfl⟩
      · simp at hl
      simp only [List.concat_eq_append] at hl h0 ⊢
      obtain ⟨e,h1,h2,rfl,h4⟩:=at_snoc D h0
      rw [h4]
      rcases ih ns (by simpa using hl) h1 with h5 | ⟨h5,-⟩
      · rcases (he _ _).1 h2 with h6 | ⟨h6,rfl⟩
        · exact .inl (at_ext (by rw [h5]; exact h6))
        · exact .inr ⟨rfl,ns,by rw [h5,h6],rfl⟩
      · rw [h5] at h2
        rcases (he _ _).1 h2 with h6 | ⟨h6,-⟩
        · exact absurd rfl (old _ _ h6).1
        · exact absurd h6.symm hdm
  exact fun ns h=>key _ ns rfl h
theorem insE_mem {es:List Ent} {nm:Str} {m:Int} {e:Ent}:e∈insE es nm m↔e∈es∨e=⟨nm,m⟩:=by
  unfold insE
  have h:e∈es↔e∈es.take (insAt nm es)∨e∈es.drop (insAt nm es):=by
    rw [← List.mem_append,List.take_append_drop]
  rw [h]
  simp only [List.mem_append,List.mem_cons,List.not_mem_nil,or_false]
  constructor
  · rintro ((h | h) | h)
    · exact .inl (.inl h)
    · exact .inr h
    · exact .inl (.inr h)
  · rintro ((h | h) | h)
    · exact .inl (.inl h)
    · exact .inr h
    · exact .inl (.inr h)
structure GrewV (f g:Fs) (d m:Nat) (nm:Str) (kind:Int):Prop where
  sh:ShapeOk g
  len:g.nodes.length=f.nodes.length
  m0:0<m
  mn:m<f.nodes.length
  mf:(nA_ f (m:Int)).kind=0
  kd:1≤kind∧kind≤3
  ok:entriesOk (insE (dirI f (d:Int)).1 nm (m:Int))=true
  eq:∀ j:Int,0≤j→view g j=if j=(d:Int) then ⟨(nA_ f (d:Int)).kind,(nA_ f (d:Int)).gen,(nA_ f (d:Int)).time,dirText (insE (dirI f (d:Int)).1 nm (m:Int))⟩ else if j=(m:Int) then ⟨kind,0,0,[]⟩ else view f j
theorem growS_view {f:Fs} (s:ShapeOk f) {d:Nat} (hd:d<f.nodes.length) (hk:(nA_ f (d:Int)).kind≠0) {nm:Str} {kind:Int} (h:(growS f (d:Int) nm kind).2.2=true):∃ m:Nat,(growS f (d:Int) nm kind).2.1=m∧GrewV f (growS f (d:Int) nm kind).1 d m nm kind:=by
  unfold growS at h ⊢
  split at h
  · rename_i hm
    rw [if_pos hm]
    rcases nodeMake_cases f kind s with e | ⟨m,hm',hkd,hn,e⟩
    · rw [e] at hm; cases hm
    · rw [e] at h ⊢
      simp only at h ⊢
      have hne:d≠m:=by
        rintro rfl
        rw [nodeAtI_get hd,hn] at hk
        exact hk rfl
      have h0:m≠0:=by
        rintro rfl
        have:=s.root hm'
        rw [hn] at this
        exact absurd this (by decide)
      have u1:=upd_make s hm' hn hkd
      have ms:=u1.sh
      have hv:=u1.eq (d:Int) (by omega)
      rw [if_neg (by omega)] at hv
      have hdir:=dirI_view hv
      rcases linkS_cases _ ms (d:Int) nm (m:Int) with ⟨e2,_⟩ | ⟨d',hd',_,ok,W,e2⟩
      · rw [e2] at h; cases h
      · obtain rfl:d=d':=by omega
        rw [hdir] at ok W e2
        rw [e2]
        have u2:=upd_written ms W
        refine ⟨m,rfl,u2.sh,by rw [u2.len,u1.len],by omega,hm',by rw [nodeAtI_get hm',hn],hkd,ok,fun j hj=>?_⟩
        rw [u2.eq j hj]
        split
        · simp only [view,Nd.mk.injEq] at hv
          rw [hv.1,hv.2.1,hv.2.2.1]
        · exact u1.eq j hj
  · cases h
theorem GrewV.dir {f g:Fs} {d m:Nat} {nm:Str} {kind:Int} (k:GrewV f g d m nm kind):dirI g (d:Int)=(insE (dirI f (d:Int)).1 nm (m:Int),true):=by
  have h:=k.eq (d:Int) (by omega)
  rw [if_pos rfl] at h
  simp only [view,Nd.mk.injEq] at h
  unfold dirI
  rw [h.2.2.2,dirOf_text k.ok]
  rfl
theorem GrewV.cert {f g:Fs} {d m:Nat} {nm:Str} {kind:Int} (k:GrewV f g d m nm kind) {dep:Int→Nat} (C:Cert f dep) (hd:d<f.nodes.length) (hdk:(nA_ f (d:Int)).kind=2) (hdep:dep d+1≤4) (hh:nm=[126]→d=0∧kind=1) :
    Cert g (fun j=>if j=(m:Int) then dep d+1 else dep j)∧(∀ ns,0≤follow f ns 0→follow g ns 0=follow f ns 0)∧(∀ ns,0≤follow g ns 0→follow f ns 0=follow g ns 0∨(follow g ns 0=m∧∃ ps,follow f ps 0=d∧ns=ps++[nm])):=by
  have hdm:(d:Int)≠m:=fun h=>by
    have:d=m:=by omega
    subst this
    have:=k.mf
    rw [hdk] at this; cases this
  have hk:∀ j:Int,0≤j→(nA_ g j).kind=if j=(m:Int) then kind else (nA_ f j).kind:=fun j hj=>by
    have h:=k.eq j hj
    by_cases hjd:j=(d:Int)
    · rw [if_pos hjd] at h
      subst hjd
      rw [if_neg hdm]
      simp only [view,Nd.mk.injEq] at h
      exact h.1
    · rw [if_neg hjd] at h
      by_cases hjm:j=(m:Int)
      · rw [if_pos hjm] at h
        rw [if_pos hjm]
        simp only [view,Nd.mk.injEq] at h
        exact h.1
      · rw [if_neg hjm] at h
        rw [if_neg hjm]
        exact kind_view h
  have hdm2:dirI g (m:Int)=([],true):=by
    have h:=k.eq (m:Int) (by omega)
    rw [if_neg (fun e=>hdm e.symm),if_pos rfl] at h
    simp only [view,Nd.mk.injEq] at h
    unfold dirI
    rw [h.2.2.2,dirOf_empty]
  have hdo:∀ j:Int,0≤j→j≠d→j≠m→dirI g j=dirI f j:=fun j hj h1 h2=>by
    have h:=k.eq j hj
    rw [if_neg h1,if_neg h2] at h
    exact dirI_view h
  refine cert_grow C (nm:=nm) (kind:=kind) (by have:=k.m0; omega) (by have:=k.mn; omega) k.mf (by omega) (by omega) hdk hdep k.sh k.len (by have:=k.kd; omega) hk ?_ ?_ (fun h=>by have:=hh h; omega)
  · intro j hj _ hor
    by_cases h1:j=d
    · rw [h1,k.dir]
    · by_cases h2:j=m
      · rw [h2,hdm2]
      · rcases hor with h | h
        · exact absurd h h2
        · rw [hdo j hj h1 h2]; exact h
  · intro j e
    unfold Edge
    rw [k.len]
    by_cases h1:j=d
    · subst h1
      rw [k.dir,hk _ (by omega),if_neg hdm]
      simp only [insE_mem]
      constructor
      · rintro ⟨a,b,c,x | x⟩
        · exact .inl ⟨a,b,c,x⟩
        · exact .inr ⟨trivial,x⟩
      · rintro (⟨a,b,c,x⟩ | ⟨-,x⟩)
        · exact ⟨a,b,c,.inl x⟩
        · exact ⟨by omega,by omega,hdk,.inr x⟩
    · by_cases h2:j=m
      · subst h2
        rw [hdm2]
        constructor
        · rintro ⟨-,-,-,h⟩; cases h
        · rintro (⟨-,-,h,-⟩ | ⟨h,-⟩)
          · rw [k.mf] at h; cases h
          · exact absurd h h1
      · constructor
        · rintro ⟨a,b,c,x⟩
          rw [hk j a,if_neg h2] at c
          rw [hdo j a h1 h2] at x
          exact .inl ⟨a,b,c,x⟩
        · rintro (⟨a,b,c,x⟩ | ⟨h,-⟩)
          · exact ⟨a,b,by rw [hk j a,if_neg h2]; exact c,by rw [hdo j a h1 h2]; exact x⟩
          · exact absurd h h1
theorem GrewV.item {f g:Fs} {d m:Nat} {nm:Str} {kind:Int} (k:GrewV f g d m nm kind) (hdk:(nA_ f (d:Int)).kind=2) {j:Int} (hj:0≤j) (hjm:j≠m) (p:Str):itemN g p j=itemN f p j:=by
  have h:=k.eq j hj
  by_cases hjd:j=(d:Int)
  · rw [if_pos hjd] at h
    subst hjd
    simp only [view,Nd.mk.injEq] at h
    unfold itemN
    rw [h.1,hdk]
    rfl
  · rw [if_neg hjd,if_neg hjm] at h
    exact itemN_view h p
end Go.Proofs.Ytmpgpkdijfcfhaa.Hz
