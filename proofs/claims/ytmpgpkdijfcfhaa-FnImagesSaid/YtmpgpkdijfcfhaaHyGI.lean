/- Texts of the calculus and of the program's functions, merged: WK FW FX FY FV FU. -/
import Derived.Test.YtmpgpkdijfcfhaaHyGE
import Derived.Test.YtmpgpkdijfcfhaaHyGH
import Derived.Test.YtmpgpkdijfcfhaaHyGF
import Derived.Test.YtmpgpkdijfcfhaaHyGD
namespace Go.Proofs.Ytmpgpkdijfcfhaa.Hz
open Go.RowKit
set_option linter.unusedVariables false
set_option linter.unusedSimpArgs false
set_option maxRecDepth 20000
def contentI (f:Fs) (i:Int):Str:=contentOf f (nA_ f i).blocks
def dirI (f:Fs) (i:Int):List Ent × Bool:=dirOf (contentI f i)
def at_ (s:List Int) (n:Int):Int:=(s[n.toNat]?).getD 0
def bump (s:List Int) (n:Int):List Int:=s.set n.toNat (at_ s n+1)
def hiddenBad (f:Fs) (i:Int) (e:Ent):Bool:=e.name == [126] && (i != 0 || (nA_ f e.node).kind != 1)
def lost (f:Fs) (e:Ent):Bool:=decide ((f.nodes.length:Int)≤e.node) || (nA_ f e.node).kind == 0
def visitL (f:Fs) (rec:Int→List Int→Option (List Int)) (i:Int):List Ent→List Int→Option (List Int)
  | [],s=>some s
  | e :: es,s =>
    if lost f e || decide (0<at_ s e.node) then none else
    if hiddenBad f i e then none else
    if (nA_ f e.node).kind=2 then (rec e.node (bump s e.node)).bind (visitL f rec i es) else visitL f rec i es (bump s e.node)
def visit (f:Fs):Nat→Int→List Int→Option (List Int)
  | 0,i,s=>if (dirI f i).2 && (dirI f i).1.isEmpty then some s else none
  | k+1,i,s=>if (dirI f i).2 then visitL f (visit f k) i (dirI f i).1 s else none
def seenL (f:Fs) (rec:Int→List Int→Option (List Int)) (i:Int):List Ent→List Int→Option (List Int)
  | [],s=>some s
  | e :: es,s=>if lost f e then none else if hiddenBad f i e then none else (rec e.node s).bind (seenL f rec i es)
def seenN (f:Fs):Nat→Int→List Int→Option (List Int)
  | 0,_,_=>none
  | k+1,i,s=>if 1<at_ (bump s i) i then none else if (nA_ f i).kind≠2 then some (bump s i) else if (dirI f i).2 then seenL f (seenN f k) i (dirI f i).1 (bump s i) else none
def restN (f:Fs) (k:Nat) (i:Int) (s:List Int):Option (List Int):=if (dirI f i).2 then seenL f (seenN f k) i (dirI f i).1 s else none
theorem at_bump {s:List Int} {n m:Int} (hn:0≤n) (hm:0≤m) (h:n.toNat<s.length):at_ (bump s n) m=if m=n then at_ s n+1 else at_ s m:=by
  unfold at_ bump
  rw [List.getElem?_set]
  by_cases e:m=n
  · subst e; simp [h,at_]
  · have:n.toNat≠m.toNat:=by omega
    simp [this,e]
theorem bump_len (s:List Int) (n:Int):(bump s n).length=s.length:=by simp [bump]
structure Rl (f:Fs) (T S:List Int):Prop where
  lt:T.length=f.nodes.length
  ls:S.length=f.nodes.length
  eq:∀ j:Int,0<j→at_ T j=at_ S j
  s0:at_ S 0=1
  t0:at_ T 0=0
  q:∀ j:Int,0≤j→j<f.nodes.length→at_ S j=0∨(at_ S j=1∧(nA_ f j).kind≠0)
def Met (f:Fs) (T:List Int):Prop:=∀ e r,(dirI f 0).1=e :: r→lost f e=false→0<at_ T e.node
theorem scan_pos (b:Str):∀ (fuel at_:Nat) (acc es:List Ent),(∀ e∈acc,0≤e.node)→scanF b fuel at_ acc=some es→∀ e∈es,0≤e.node
  | 0,_,_,_,_,h=>by cases h
  | fuel+1,at_,acc,es,h2,h=>by
    simp only [scanF] at h
    split at h
    · injection h with h; subst h; exact h2
    · split at h
      · cases h
      · split at h
        · cases h
        · refine scan_pos b fuel _ _ es (fun e he=>?_) h
          rcases List.mem_append.1 he with he | he
          · exact h2 e he
          · simp at he; subst he; simp
theorem dirOf_pos (b:Str):∀ e∈(dirOf b).1,0≤e.node:=by
  unfold dirOf
  split
  · simp
  · rename_i es h
    have:=scan_pos b _ 0 [] es (by simp) h
    split
    · exact this
    · simp
theorem root_again {f:Fs} {T:List Int} (hL:(dirI f 0).1≠[]) (hm:Met f T):∀ k,visit f k 0 T=none
  | 0=>by
    unfold visit
    cases h:(dirI f 0).1 with
    | nil=>exact absurd h hL
    | cons e r=>simp
  | k+1=>by
    unfold visit
    split
    · cases h:(dirI f 0).1 with
      | nil=>exact absurd h hL
      | cons e r =>
        unfold visitL
        cases hl:lost f e
        · simp [hm e r h hl]
        · simp
    · rfl
theorem Rl.bump {f:Fs} {T S:List Int} (r:Rl f T S) {n:Int} (hn:0<n) (hl:n<f.nodes.length) (hk:(nA_ f n).kind≠0) (hz:at_ T n=0):Rl f (bump T n) (bump S n):=by
  have e1:n.toNat<T.length:=by have:=r.lt; omega
  have e2:n.toNat<S.length:=by have:=r.ls; omega
  refine ⟨by rw [bump_len]; exact r.lt,by rw [bump_len]; exact r.ls,fun j hj=>?_,?_,?_,fun j hj hjl=>?_⟩
  · rw [at_bump (by omega) (by omega) e1,at_bump (by omega) (by omega) e2,r.eq j hj,r.eq n hn]
  · rw [at_bump (by omega) (by omega) e2,if_neg (by omega)]; exact r.s0
  · rw [at_bump (by omega) (by omega) e1,if_neg (by omega)]; exact r.t0
  · rw [at_bump (by omega) (by omega) e2]
    split
    · rename_i e; subst e
      rw [← r.eq _ hn,hz]
      exact .inr ⟨rfl,hk⟩
    · exact r.q j hj hjl
theorem Met.bump {f:Fs} {T:List Int} (m:Met f T) {n:Int} (hn:0≤n) (hl:n.toNat<T.length):Met f (bump T n):=by
  intro e r he hlo
  have h1:=m e r he hlo
  have hp:0≤e.node:=dirOf_pos _ e (by show e∈(dirI f 0).1; rw [he]; simp)
  rw [at_bump hn hp hl]
  split
  · rename_i h; rw [← h]; omega
  · exact h1
def Alike (f:Fs) (a b:Option (List Int)):Prop:=(a=none∧b=none)∨∃ T S,a=some T∧b=some S∧Rl f T S∧Met f T
theorem loop_alike {f:Fs} {k:Nat} (node:∀ m T S,0≤m→m≠0→(nA_ f m).kind=2→(dirI f 0).1≠[]→Rl f T S→Met f T→Alike f (visit f k m T) (restN f k m S)) (hk0:(nA_ f 0).kind=2) (hlen:0<f.nodes.length)
    (i:Int):∀ (es:List Ent) (T S:List Int),(∀ e∈es,0≤e.node)→(es=[]∨(dirI f 0).1≠[])→Rl f T S→(Met f T∨es=(dirI f 0).1)→Alike f (visitL f (visit f k) i es T) (seenL f (seenN f (k+1)) i es S)
  | [],T,S,_,_,r,m=>by
    refine .inr ⟨T,S,rfl,rfl,r,?_⟩
    rcases m with m | m
    · exact m
    · intro e r he; rw [← m] at he; cases he
  | e :: es,T,S,hp,hL,r,m=>by
    have hL : (dirI f 0).1 ≠ [] := by rcases hL with h | h; · cases h
                                      · exact h
    have hpe:=hp e (by simp)
    have hp':∀ x∈es,0≤x.node:=fun x hx=>hp x (by simp [hx])
    unfold visitL seenL
    cases hlo:lost f e
    case true=>exact .inl ⟨by simp,by simp⟩
    have hlt:e.node<f.nodes.length:=by
      simp only [lost,Bool.or_eq_false_iff,decide_eq_false_iff_not] at hlo; omega
    have hkn:(nA_ f e.node).kind≠0:=by
      simp only [lost,Bool.or_eq_false_iff] at hlo; simpa using hlo.2
    have e1:e.node.toNat<T.length:=by have:=r.lt; omega
    have e2:e.node.toNat<S.length:=by have:=r.ls; omega
    have hM:Met f (bump T e.node):=by
      rcases m with m | m
      · exact m.bump hpe e1
      · intro e' r' he _
        rw [← m] at he
        cases he
        rw [at_bump hpe hpe e1,if_pos rfl]
        by_cases h0:e.node=0
        · rw [h0,r.t0]; decide
        · have:=r.q e.node hpe hlt
          rw [r.eq e.node (by omega)]; omega
    have seen1:∀ n:Int,0≤n→n<f.nodes.length→at_ S n≠0→seenN f (k+1) n S=none:=fun n hn hnl hz=>by
      unfold seenN
      have:=r.q n hn hnl
      rw [if_pos]
      rw [at_bump hn hn (by have:=r.ls; omega),if_pos rfl]
      omega
    by_cases h0:e.node=0
    · -- the root again
      have hs:seenN f (k+1) e.node S=none:=seen1 _ hpe hlt (by rw [h0,r.s0]; decide)
      have hv:visit f k e.node (bump T e.node)=none:=by
        have:=root_again hL hM k
        rw [h0] at this ⊢
        exact this
      refine .inl ⟨?_,?_⟩
      · rw [hv,h0,hk0]; simp
      · rw [hs]; simp
    by_cases hz:at_ T e.node=0
    · have hnz:¬ (0<at_ T e.node):=by omega
      simp only [hnz,decide_false,Bool.or_self,Bool.false_eq_true,if_false]
      cases hb:hiddenBad f i e
      case true=>exact .inl ⟨by simp,by simp⟩
      simp only [Bool.false_eq_true,if_false]
      have r':=r.bump (n:=e.node) (by omega) hlt hkn hz
      have hone:¬ (1<at_ (bump S e.node) e.node):=by
        rw [at_bump hpe hpe e2,if_pos rfl,← r.eq _ (by omega),hz]; decide
      have hsn:seenN f (k+1) e.node S=if (nA_ f e.node).kind≠2 then some (bump S e.node) else restN f k e.node (bump S e.node):=by
        rw [seenN,if_neg hone]; rfl
      rw [hsn]
      by_cases hd:(nA_ f e.node).kind=2
      · simp only [hd,if_true,ne_eq,not_true_eq_false,if_false]
        rcases node e.node _ _ hpe h0 hd hL r' hM with ⟨ha,hb⟩ | ⟨T',S',ha,hb,r2,m2⟩
        · exact .inl ⟨by rw [ha]; rfl,by rw [hb]; rfl⟩
        · rw [ha,hb]
          exact loop_alike node hk0 hlen i es T' S' hp' (.inr hL) r2 (.inl m2)
      · simp only [hd,if_false,ne_eq,not_false_eq_true,if_true]
        exact loop_alike node hk0 hlen i es _ _ hp' (.inr hL) r' (.inl hM)
    · have hs:seenN f (k+1) e.node S=none:=seen1 _ hpe hlt (by rw [← r.eq _ (by omega)]; exact hz)
      have hpz:0<at_ T e.node:=by
        have:=r.q e.node hpe hlt
        have:=r.eq e.node (by omega)
        omega
      refine .inl ⟨by simp [hpz],?_⟩
      rw [hs]; simp
theorem node_alike {f:Fs} (hk0:(nA_ f 0).kind=2) (hlen:0<f.nodes.length):∀ (k:Nat) (m:Int) (T S:List Int),(m=0∨(dirI f 0).1≠[])→Rl f T S→(Met f T∨m=0)→Alike f (visit f k m T) (restN f k m S)
  | 0,m,T,S,hL,r,hm=>by
    unfold visit restN
    cases h2:(dirI f m).2
    · exact .inl ⟨by simp,by simp⟩
    · cases h1:(dirI f m).1 with
      | nil =>
        refine .inr ⟨T,S,by simp,by simp [seenL],r,?_⟩
        rcases hm with hm | hm
        · exact hm
        · subst hm; intro e r' he; rw [h1] at he; cases he
      | cons e es =>
        refine .inl ⟨by simp,?_⟩
        simp only [if_true,seenL,seenN]
        simp
  | k+1,m,T,S,hL,r,hm=>by
    unfold visit restN
    cases h2:(dirI f m).2
    · exact .inl ⟨by simp,by simp⟩
    · simp only [if_true]
      refine loop_alike (fun m' T' S' h0 hne _ hL' r' m'=>node_alike hk0 hlen k _ T' S' (.inr hL') r' (.inl m')) hk0 hlen m _ T S (fun e he=>dirOf_pos _ e he) ?_ r ?_
      · rcases hL with hL | hL
        · subst hL
          by_cases he:(dirI f 0).1=[]
          · exact .inl he
          · exact .inr he
        · exact .inr hL
      · rcases hm with hm | hm
        · exact .inl hm
        · subst hm; exact .inr rfl
def zeros (f:Fs):List Int:=List.replicate f.nodes.length 0
theorem at_zeros (f:Fs) (j:Int):at_ (zeros f) j=0:=by
  unfold at_ zeros
  rw [List.getElem?_replicate]
  split <;> rfl
noncomputable def fsOk (f:Fs):Bool:=shapeOk f && match visit f 4 0 (zeros f) with
  | none=>false
  | some T=>(List.range f.nodes.length).all fun i=>!(decide (0<i) && (nA_ f i).kind != 0 && at_ T i != 1)
noncomputable def fsOkN (f:Fs):Bool:=shapeOk f && match seenN f 5 0 (zeros f) with
  | none=>false
  | some S=>(List.range f.nodes.length).all fun i=>(at_ S i == 1) == ((nA_ f i).kind != 0)
theorem fsOk_eq (f:Fs) (hroot:shapeOk f=true→(nA_ f 0).kind=2∧0<f.nodes.length):fsOk f=fsOkN f:=by
  unfold fsOk fsOkN
  cases hs:shapeOk f
  · rfl
  obtain ⟨hk,hl⟩:=hroot hs
  have e1:(0:Int).toNat<(zeros f).length:=by simp [zeros]; omega
  have r:Rl f (zeros f) (bump (zeros f) 0):=by
    refine ⟨by simp [zeros],by simp [bump_len,zeros],fun j hj=>?_,?_,at_zeros f 0,fun j hj hjl=>?_⟩
    · rw [at_bump (by omega) (by omega) e1,if_neg (by omega)]
    · rw [at_bump (by omega) (by omega) e1,if_pos rfl,at_zeros]; rfl
    · rw [at_bump (by omega) (by omega) e1]
      split
      · rename_i h; subst h
        rw [at_zeros]
        exact .inr ⟨rfl,by rw [hk]; decide⟩
      · exact .inl (at_zeros f j)
  have hsn:seenN f 5 0 (zeros f)=restN f 4 0 (bump (zeros f) 0):=by
    rw [seenN,if_neg (by rw [r.s0]; decide),if_neg (by rw [hk]; decide)]
    rfl
  rw [hsn]
  rcases node_alike hk hl 4 0 _ _ (.inl rfl) r (.inr rfl) with ⟨ha,hb⟩ | ⟨T,S,ha,hb,r2,-⟩
  · rw [ha,hb]
  · rw [ha,hb]
    simp only [Bool.true_and]
    have hall:∀ i∈List.range f.nodes.length,(!(decide (0<i) && (nA_ f (i:Nat)).kind != 0 && at_ T (i:Nat) != 1))=((at_ S (i:Nat) == 1) == ((nA_ f (i:Nat)).kind != 0)):=fun i hi=>by
      have hi':=List.mem_range.1 hi
      by_cases h0:i=0
      · subst h0
        have:=r2.s0
        simp [this,hk]
      · have h1:=r2.eq (i:Int) (by omega)
        have h2:=r2.q (i:Int) (by omega) (by omega)
        rw [h1]
        have h3:0<i:=by omega
        rcases h2 with h2 | ⟨h2,h4⟩
        · rw [h2]
          by_cases h5:(nA_ f (i:Nat)).kind=0 <;> simp [h3,h5]
        · rw [h2]; simp [h4]
    rw [Bool.eq_iff_iff,List.all_eq_true,List.all_eq_true]
    exact ⟨fun h i hi=>by rw [← hall i hi]; exact h i hi,fun h i hi=>by rw [hall i hi]; exact h i hi⟩
theorem blocks_small {n:Node} (h:nodeOk n=true):n.blocks.length≤5:=by
  unfold nodeOk at h
  split at h
  · simp only [Bool.and_eq_true,beq_iff_eq] at h
    have:=h.2
    omega
  · simp only [Bool.and_eq_true,Bool.not_eq_true'] at h
    have:=h.1.2
    have hb : ∀ n, blocksFor n ≤ 5 := fun n => by unfold blocksFor; split; · omega
                                                  · split <;> omega
    have h5:=hb n.size
    simp only [badLen] at this
    simp at this
    omega
theorem content_small {f:Fs} (s:ShapeOk f) (i:Int):(contentI f i).length≤80:=by
  unfold contentI nA_
  cases h:f.nodes[i.toNat]? with
  | none=>simp [contentOf]
  | some x =>
    simp only [Option.getD_some]
    have h1:=contentOf_le s x.blocks
    have h2:=blocks_small (s.ok x (List.mem_of_getElem? h))
    omega
def Bits (s:List Int):Prop:=∀ x∈s,x=0∨x=1
theorem Bits.bump {s:List Int} (b:Bits s) {n:Int} (h:at_ s n=0):Bits (bump s n):=by
  intro x hx
  unfold Hz.bump at hx
  rcases List.mem_or_eq_of_mem_set hx with hx | rfl
  · exact b x hx
  · right; omega
theorem at_get {s:List Int} {n:Nat} (h:n<s.length):at_ s (n:Int)=s[n]:=by simp [at_,h]
def dirK (f:Fs) (i:Int):List Ent × Bool:=if (nA_ f i).kind=2 then dirI f i else ([],false)
set_option maxHeartbeats 2000000 in
theorem l9Dir_c (f:Fs) (a1 a2:Option Addr) (F1 F2:List Nat) (w:Bool) (tNode:TypeId) (h:Hp) (k1:slR w tNode (nodeE w) h f.nodes a1 F1) (k2:slR w 9 strE h f.data a2 F2) (hl:f.nl≤1048576) (s:ShapeOk f) (i:Nat) (hi:i<f.nodes.length) :
    ACall Try.prog 99 [.agg #[.slice a1 f.nodes.length f.nodes.length,.slice a2 f.data.length f.data.length],.int .i64 i] h fun r h'=>∃ a' F',r=.tuple #[.slice a' (dirK f i).1.length (dirK f i).1.length,.bool (dirK f i).2]∧Own h 124 entE h' (dirK f i).1 a' F':=by
  refine acall mixed Try.func99 rfl (by kernel_rfl) ?_
  obtain ⟨o1,off1,b1,B1,rfl,c0,-,-,-,-,-,-⟩:=nodeAt (k1.ext (Ext.push h [⟨true,true,26,[.slice a1 f.nodes.length f.nodes.length,.slice a2 f.data.length f.data.length]⟩])) hi
  have hkn:nA_ f (i:Int)=f.nodes[i]:=nodeAtI_get hi
  simp [Try.f99,hi,c0]
  by_cases hk:f.nodes[i].kind=2
  rotate_left
  · have hk':(f.nodes[i].kind != 2)=true:=by simpa using hk
    have hd:dirK f i=([],false):=by simp [dirK,hkn,hk]
    rw [hd]
    simp [hk']
    exact ⟨_,by simpa using (empty1 entE (h++[⟨true,true,26,[.slice (some ⟨o1,off1,none⟩) f.nodes.length f.nodes.length,.slice a2 f.data.length f.data.length]⟩]) 124).of_new (Ext.push h _)⟩
  have hd:dirK f i=dirI f i:=by simp [dirK,hkn,hk]
  rw [hd]
  simp [hk]
  refine cK (l7Read_c f _ a2 F1 F2 w tNode _ (k1.to (by simp)) (k2.to (by simp)) hl s i hi) ?_
  rintro _ _ ⟨⟨t1,rfl⟩,rfl⟩
  have hc:contentOf f f.nodes[i].blocks=contentI f i:=by simp [contentI,hkn]
  rw [hc]
  simp
  refine cK (dirOf_spec_c (contentI f i) _ (by have:=content_small s i; omega)) ?_
  rintro _ H ⟨a,F,rfl,own⟩
  simp
  have hd2:dirOf (contentI f i)=dirI f i:=rfl
  rw [hd2] at own ⊢
  exact ⟨a,by simp,F,Own.of_new (Ext.push h _) own⟩
def SeenR (v:Option (List Int)) (n:Nat) (h:Hp) (r:Value) (h':Hp):Prop :=
  match v with
  | none=>(∃ t,h'=h++t)∧∃ a' F' T,r=.tuple #[.slice a' n n,.bool false]∧Own h 3 intE h' T a' F'∧T.length=n
  | some T=>∃ a' F',r=.tuple #[.slice a' n n,.bool true]∧Own h 3 intE h' T a' F'∧T.length=n∧Bits T
def SeenC (f:Fs) (k:Nat):Prop:=∀ (a1 a2:Option Addr) (F1 F2:List Nat) (w:Bool) (tNode:TypeId) (h:Hp) (k1:slR w tNode (nodeE w) h f.nodes a1 F1) (k2:slR w 9 strE h f.data a2 F2) (i:Nat) (hi:i<f.nodes.length) (s:List Int) (a:Option Addr) (F:List Nat) (hs:slR true 3 intE h s a F) (hsl:s.length=f.nodes.length) (hb:Bits s),
  ACall Try.prog 96 [.agg #[.slice a1 f.nodes.length f.nodes.length,.slice a2 f.data.length f.data.length],.int .i64 i,.int .i64 (5 - k:Int),.slice a s.length s.length] h fun r h'=>SeenR (seenN f k i s) s.length h r h'
theorem seenN_out {f:Fs} {k:Nat} {i:Int} {s:List Int}:seenN f k i s=if k=0 then none else if 1<at_ (bump s i) i then none else if (nA_ f i).kind≠2 then some (bump s i) else if (dirI f i).2 then seenL f (seenN f (k - 1)) i (dirI f i).1 (bump s i) else none:=by
  cases k with
  | zero=>simp [seenN]
  | succ k=>simp [seenN]
theorem at_bump_self {s:List Int} {i:Nat} (h:i<s.length):at_ (bump s (i:Int)) i=s[i]+1:=by
  rw [at_bump (by omega) (by omega) (by simpa using h),if_pos rfl,at_get h]
set_option maxHeartbeats 4000000 in
theorem seen_step (f:Fs) (hl:f.nl≤1048576) (sh:ShapeOk f) (k:Nat) (hk:k≤5) (ih:k≠0→SeenC f (k - 1)):SeenC f k:=by
  intro a1 a2 F1 F2 w tNode h k1 k2 i hi s a F hs hsl hb
  refine acall mixed Try.func96 rfl (by kernel_rfl) ?_
  have hn:=inR_iff.1 sh.nodes
  have hpos:0<s.length:=by omega
  have his:i<s.length:=by omega
  obtain ⟨o,off,rfl,-⟩:=intEAt hs hpos
  have hbx:∀ (t:Hp),cellAt (h++⟨true,true,26,[.slice a1 f.nodes.length f.nodes.length,.slice a2 f.data.length f.data.length]⟩ :: t) h.length 0=some (.slice a1 f.nodes.length f.nodes.length)∧cellAt (h++⟨true,true,26,[.slice a1 f.nodes.length f.nodes.length,.slice a2 f.data.length f.data.length]⟩ :: t) h.length 1=some (.slice a2 f.data.length f.data.length):=fun t=>by simp
  obtain ⟨ac,H0,Fc,eqc,oc,keepc,lenc⟩:=(empty1 intE (h++[⟨true,true,26,[.slice a1 f.nodes.length f.nodes.length,.slice a2 f.data.length f.data.length]⟩]) 3).appendSl (P:=Try.prog) ((hs.ext (Ext.push h [⟨true,true,26,[.slice a1 f.nodes.length f.nodes.length,.slice a2 f.data.length f.data.length]⟩])).ext (Ext.push _ _)) (st:=47) (xt:=47) (bt:=8) (z:=[.int .i64 0]) (by simp) (by simp) (by unfold big; simp; omega) (by unfold big; simp; omega)
  simp at eqc oc
  obtain ⟨u0,rfl⟩:=oc.ext.pre
  have hx:=hbx u0
  simp at oc eqc
  have eG:Ext h (h++⟨true,true,26,[.slice a1 f.nodes.length f.nodes.length,.slice a2 f.data.length f.data.length]⟩ :: u0):=Ext.push _ _
  have lG:h.length<(h++⟨true,true,26,[.slice a1 f.nodes.length f.nodes.length,.slice a2 f.data.length f.data.length]⟩ :: u0).length:=by simp
  have oc1:Own h 3 intE (h++⟨true,true,26,[.slice a1 f.nodes.length f.nodes.length,.slice a2 f.data.length f.data.length]⟩ :: u0) s ac Fc:=oc.of_new (Ext.push h [⟨true,true,26,[.slice a1 f.nodes.length f.nodes.length,.slice a2 f.data.length f.data.length]⟩])
  have hFc:∀ q∈Fc,h.length<q:=fun q hq=>by have:=oc.new q hq; simp at this; omega
  simp [Try.f96,eqc]
  generalize (h++⟨true,true,26,[.slice a1 f.nodes.length f.nodes.length,.slice a2 f.data.length f.data.length]⟩ :: u0:Hp)=G at hx eG lG oc1 ⊢
  clear oc eqc keepc lenc hbx
  obtain ⟨o,off,rfl,c0⟩:=intEAt oc1.sl his
  have hbi:s[i]=0∨s[i]=1:=hb _ (List.getElem_mem his)
  have wi:IntKind.i64.wrap (s[i]+1)=s[i]+1:=by rw [wrap_in (by omega) (by omega)]
  obtain ⟨hcan,F',o2⟩:=oc1.putFlat (i:=i) his (s[i]+1) 0 [.int .i64 (s[i]+1)] (by simp) (by simp)
  have hFs:=oc1.flatF
  subst hFs
  obtain rfl:=o2.flatF
  have hbump:s.set i (s[i]+1)=bump s (i:Int):=by simp [bump,at_get his]
  rw [hbump] at o2
  simp at hcan o2
  have lb:(bump s (i:Int)).length=s.length:=bump_len _ _
  simp [his,c0,wi,hcan]
  have hne:∀ q,q≠o→(sA_ G o (off+i) [.int .i64 (s[i]+1)])[q]?=G[q]?:=fun q hq=>by rw [sAg,if_neg (fun e=>hq e.symm)]
  have hlen2:(sA_ G o (off+i) [.int .i64 (s[i]+1)]).length=G.length:=sAl _ _ _ _
  have ho:h.length<o:=hFc o (by simp)
  have x0:cellAt (sA_ G o (off+i) [.int .i64 (s[i]+1)]) h.length 0=some (.slice a1 f.nodes.length f.nodes.length):=by rw [cellAt_get (hne h.length (by omega))]; exact hx.1
  have x1:cellAt (sA_ G o (off+i) [.int .i64 (s[i]+1)]) h.length 1=some (.slice a2 f.data.length f.data.length):=by rw [cellAt_get (hne h.length (by omega))]; exact hx.2
  have lH:h.length<(sA_ G o (off+i) [.int .i64 (s[i]+1)]).length:=by omega
  clear hx hcan
  generalize sA_ G o (off+i) [Value.int IntKind.i64 (s[i]+1)]=H at o2 x0 x1 lH ⊢
  clear hne hlen2 oc1 c0 eG lG
  have hli:i<(bump s (i:Int)).length:=by omega
  obtain ⟨o',off',ea,ci⟩:=intEAt o2.sl hli
  cases ea
  have hbi2:(bump s (i:Int))[i]=s[i]+1:=by rw [← at_get hli,at_bump_self his]
  rw [hbi2] at ci
  rw [seenN_out]
  have fail:∀ {H':Hp} {T:List Int} {a':Option Addr} {F':List Nat},Own h 3 intE H' T a' F'→T.length=s.length→SeenR none s.length h (.tuple #[.slice a' s.length s.length,.bool false]) H':=fun o hT=>⟨by obtain ⟨t,ht⟩:=o.ext.pre; exact ⟨t,ht⟩,_,_,_,rfl,o,hT⟩
  have w1n:(IntKind.i64.wrap (s[i]+1) > 1)=(1<s[i]+1):=by rw [wi]
  by_cases hk0:k=0
  · subst hk0
    rcases hbi with hz | hz
    · simp [his,ci,hz]
      exact fail o2 lb
    · simp [his,ci,hz]
      exact fail o2 lb
  have hk5:¬ ((4:Int)<5 - k):=by omega
  have ihk:=ih hk0
  rw [if_neg hk0,at_bump_self his]
  rcases hbi with hz | hz
  rotate_left
  · rw [if_pos (by omega)]
    simp [his,ci,hz]
    exact fail o2 lb
  rw [if_neg (by omega)]
  have hats:at_ s (i:Int)=0:=by rw [at_get his]; exact hz
  have bZ:=hb.bump hats
  have e0:Ext h H:=o2.ext
  obtain ⟨o1,off1,b1,B1,ea1,d0,-,-,-,-,-,-⟩:=nodeAt (k1.ext e0) hi
  subst ea1
  have hkn:nA_ f (i:Int)=f.nodes[i]:=nodeAtI_get hi
  simp [his,ci,hz,hk5,x0,hi,d0]
  rw [hkn]
  by_cases hk2:f.nodes[i].kind=2
  rotate_left
  · have hk2':(f.nodes[i].kind != 2)=true:=by simpa using hk2
    rw [if_neg hk2]
    simp [hk2']
    exact ⟨_,_,rfl,o2,lb,bZ⟩
  rw [if_pos hk2]
  simp [hk2,x0,x1]
  refine cK (l9Dir_c f _ a2 F1 F2 w tNode _ (k1.ext e0) (k2.ext e0) hl sh i hi) ?_
  rintro _ _ ⟨al,Fl,rfl,ol⟩
  obtain ⟨u1,rfl⟩:=ol.ext.pre
  have hdk:dirK f i=dirI f i:=by simp [dirK,hkn,hk2]
  rw [hdk] at ol ⊢
  have hdl:(dirI f i).1.length≤80:=by
    have h1:=dirOf_len (contentI f i)
    have h2:=content_small sh i
    have h3:(dirI f i).1.length≤(contentI f i).length:=h1
    omega
  simp
  have o3:=o2.grow (Ext.push H u1)
  cases hok:(dirI f i).2
  · simp
    exact fail o3 lb
  simp
  have e1:=e0.app u1
  have y0:cellAt (H++u1) h.length 0=some (.slice (some ⟨o1,off1,none⟩) f.nodes.length f.nodes.length):=by rw [cellAt_ext (Ext.push H u1) lH]; exact x0
  have y1:cellAt (H++u1) h.length 1=some (.slice a2 f.data.length f.data.length):=by rw [cellAt_ext (Ext.push H u1) lH]; exact x1
  have lI:h.length<(H++u1).length:=by simp; omega
  have olsl:=ol.sl
  clear x0 x1 lH ci d0 ol o2
  generalize (H++u1:Hp)=I at y0 y1 lI o3 olsl e1 ⊢
  refine aloop mixed [1,2,4,10,11,13] (fun (x:Nat × List Int × Option Addr × Hp)=>[.int .i64 i,.int .i64 (5 - k:Int),.pointer (some ⟨h.length,0,none⟩),.slice x.2.2.1 s.length s.length,.slice al (dirI f i).1.length (dirI f i).1.length,.int .i64 x.1]) (fun x=>I++x.2.2.2)
    (fun x=>x.1≤(dirI f i).1.length∧(∃ Fz,Own h 3 intE (I++x.2.2.2) x.2.1 x.2.2.1 Fz)∧x.2.1.length=s.length∧Bits x.2.1∧seenL f (seenN f (k - 1)) i ((dirI f i).1.drop x.1) x.2.1=seenL f (seenN f (k - 1)) i (dirI f i).1 (bump s i)) (fun x=>(dirI f i).1.length - x.1) (0,bump s i,_,[]) ⟨by simp,⟨[o],by rw [List.append_nil]; exact o3⟩,lb,bZ,rfl⟩ (by simp [pickF]) (by simp) ?_
  rintro ⟨j,Z,az,t⟩ ⟨hj,⟨Fz,oZ⟩,lZ,bZ,he⟩
  simp only at hj oZ lZ bZ he
  simp [mkF]
  refine aSI (fun hc=>?_) (fun hc=>?_) <;> simp at hc <;> simp [hc]
  rotate_left
  · obtain rfl:j=(dirI f i).1.length:=by omega
    rw [List.drop_length] at he
    simp only [seenL] at he
    rw [← he]
    exact ⟨_,_,rfl,oZ,lZ,bZ⟩
  have e2:Ext h (I++t):=e1.app t
  have z0:∀ l,cellAt (I++(t++l)) h.length 0=some (.slice (some ⟨o1,off1,none⟩) f.nodes.length f.nodes.length):=fun l=>by rw [cellAt_ext (Ext.push I _) lI]; exact y0
  have z1:∀ l,cellAt (I++(t++l)) h.length 1=some (.slice a2 f.data.length f.data.length):=fun l=>by rw [cellAt_ext (Ext.push I _) lI]; exact y1
  have z0':cellAt (I++t) h.length 0=some (.slice (some ⟨o1,off1,none⟩) f.nodes.length f.nodes.length):=by rw [cellAt_ext (Ext.push I _) lI]; exact y0
  have z1':cellAt (I++t) h.length 1=some (.slice a2 f.data.length f.data.length):=by rw [cellAt_ext (Ext.push I _) lI]; exact y1
  obtain ⟨oe,offe,ea,e0',e1'⟩:=entAt (olsl.ext (Ext.push I t)) hc
  subst ea
  have hnn:=dirOf_pos (contentI f i) (dirI f i).1[j] (List.getElem_mem hc)
  obtain ⟨m,hm⟩:=Int.eq_ofNat_of_zero_le hnn
  rw [hm] at e1'
  rw [List.drop_eq_getElem_cons hc] at he
  have hvl:seenL f (seenN f (k - 1)) i ((dirI f i).1[j] :: (dirI f i).1.drop (j+1)) Z=if lost f (dirI f i).1[j] then none else if hiddenBad f i (dirI f i).1[j] then none else (seenN f (k - 1) (dirI f i).1[j].node Z).bind (seenL f (seenN f (k - 1)) i ((dirI f i).1.drop (j+1))):=rfl
  rw [hvl,hm] at he
  clear hvl
  simp [hc,e0',e1',z0',z1']
  by_cases hlt:m<f.nodes.length
  rotate_left
  · have hlo:lost f (dirI f i).1[j]=true:=by simp [lost,hm]; omega
    have hge:f.nodes.length≤m:=by omega
    rw [hlo] at he
    simp at he
    rw [← he]
    simp [hge]
    exact fail oZ lZ
  have hge:¬ f.nodes.length≤m:=by omega
  obtain ⟨o1',off1',b1',B1',ea,g0,-,-,-,-,-,-⟩:=nodeAt (k1.ext e2) hlt
  cases ea
  have hkm:nA_ f (m:Int)=f.nodes[m]:=nodeAtI_get hlt
  by_cases hkz:f.nodes[m].kind=0
  · have hlo:lost f (dirI f i).1[j]=true:=by simp [lost,hm,hkm,hkz]
    rw [hlo] at he
    simp at he
    rw [← he]
    simp [hge,hlt,g0,hkz,z0',z1']
    exact fail oZ lZ
  have hkzb:(f.nodes[m].kind == 0)=false:=by simpa using hkz
  have hlo:lost f (dirI f i).1[j]=false:=by simp [lost,hm,hkm,hkz]; omega
  rw [hlo] at he
  simp only [Bool.false_eq_true,if_false] at he
  simp [hge,hlt,g0,hkzb,z0',z1']
  by_cases hhb:hiddenBad f i (dirI f i).1[j]=true
  · rw [hhb] at he
    simp at he
    rw [← he]
    unfold hiddenBad at hhb
    rw [hm,hkm] at hhb
    simp only [Bool.and_eq_true,Bool.or_eq_true] at hhb
    obtain ⟨hnm,hor⟩:=hhb
    simp [hc,e0',hnm,z0',z1',hlt,g0]
    by_cases hi0:i=0
    · have hk1:(f.nodes[m].kind != 1)=true:=by
        rcases hor with h | h
        · simp [hi0] at h
        · exact h
      simp [hi0,hk1,z0',z1',hlt,g0]
      exact fail oZ lZ
    · have hi0b:((i:Int) != 0)=true:=by simpa using hi0
      simp [hi0b,z0',z1']
      exact fail oZ lZ
  have hhf:hiddenBad f i (dirI f i).1[j]=false:=by simpa using hhb
  rw [hhf] at he
  simp only [Bool.false_eq_true,if_false] at he
  have w5:IntKind.i64.wrap (5 - (k:Int)+1)=5 - ((k - 1:Nat):Int):=by rw [wrap_in (by omega) (by omega)]; omega
  have hcall:=ihk (some ⟨o1,off1,none⟩) a2 F1 F2 w tNode (I++t) (k1.ext e2) (k2.ext e2) m hlt Z az Fz oZ.sl (by rw [lZ]; exact hsl) bZ
  rw [lZ] at hcall
  unfold hiddenBad at hhf
  rw [hm,hkm] at hhf
  by_cases hnm:(dirI f i).1[j].name=[126]
  · have hnb:((dirI f i).1[j].name == [126])=true:=by simp [hnm]
    rw [hnb] at hhf
    simp only [Bool.true_and,Bool.or_eq_false_iff] at hhf
    simp [hc,e0',hnb,hhf.1,hhf.2,w5,z0',z1',hlt,g0]
    refine cK hcall ?_
    rintro r H3 res
    cases hv:seenN f (k - 1) m Z with
    | none =>
      rw [hv] at res he
      obtain ⟨⟨t3,rfl⟩,a',F',T,rfl,oT,lT⟩:=res
      simp at he
      rw [← he]
      simp
      exact fail (by simpa using oZ.grow (Ext.push _ t3)) lZ
    | some T =>
      rw [hv] at res he
      obtain ⟨a',F',rfl,oT,lT,bT⟩:=res
      obtain ⟨t3,rfl⟩:=oT.ext.pre
      simp at he
      simp
      exact anext (j+1,T,a',t++t3) ⟨hc,⟨F',by simpa using Own.of_new e2 oT⟩,lT,bT,he⟩ (by simp only; omega) (by simp [pickF,wS (show j<9223372036854775807 by omega)]) (by simp) (by simp)
  · have hnb:((dirI f i).1[j].name == [126])=false:=by simpa using hnm
    simp [hc,e0',hnb,w5,z0',z1']
    refine cK hcall ?_
    rintro r H3 res
    cases hv:seenN f (k - 1) m Z with
    | none =>
      rw [hv] at res he
      obtain ⟨⟨t3,rfl⟩,a',F',T,rfl,oT,lT⟩:=res
      simp at he
      rw [← he]
      simp
      exact fail (by simpa using oZ.grow (Ext.push _ t3)) lZ
    | some T =>
      rw [hv] at res he
      obtain ⟨a',F',rfl,oT,lT,bT⟩:=res
      obtain ⟨t3,rfl⟩:=oT.ext.pre
      simp at he
      simp
      exact anext (j+1,T,a',t++t3) ⟨hc,⟨F',by simpa using Own.of_new e2 oT⟩,lT,bT,he⟩ (by simp only; omega) (by simp [pickF,wS (show j<9223372036854775807 by omega)]) (by simp) (by simp)
theorem seen_c (f:Fs) (hl:f.nl≤1048576) (sh:ShapeOk f):∀ k,k≤5→SeenC f k:=by
  intro k
  induction k with
  | zero=>exact fun hk=>seen_step f hl sh 0 hk (fun h=>absurd rfl h)
  | succ k ih=>exact fun hk=>seen_step f hl sh (k+1) hk (fun _=>ih (by omega))
def okN (f:Fs) (T:List Int) (q:Nat):Bool:=(at_ T q == 1) == ((nA_ f q).kind != 0)
theorem bits_zeros (f:Fs):Bits (zeros f):=fun x hx=>by
  unfold zeros at hx
  exact .inl (List.eq_of_mem_replicate hx)
theorem shape_root {f:Fs} (s:ShapeOk f):(nA_ f 0).kind=2∧0<f.nodes.length:=by
  have hn:=inR_iff.1 s.nodes
  have h0:0<f.nodes.length:=by omega
  exact ⟨by simpa [nA_,h0] using s.root h0,h0⟩
set_option maxHeartbeats 4000000 in
theorem fsOk_spec_c (f:Fs) (a1 a2:Option Addr) (F1 F2:List Nat) (w:Bool) (tNode:TypeId) (h:Hp) (k1:slR w tNode (nodeE w) h f.nodes a1 F1) (k2:slR w 9 strE h f.data a2 F2) (hl:f.nl≤1048576) :
    ACall Try.prog 73 [.agg #[.slice a1 f.nodes.length f.nodes.length,.slice a2 f.data.length f.data.length]] h fun r h'=>(∃ t,h'=h++t)∧r=.bool (fsOk f):=by
  refine acall mixed Try.func73 rfl (by kernel_rfl) ?_
  have hlim:=Fs.lim_of f hl
  have hM:f.nodes.length≤1048576:=hlim.1
  rw [fsOk_eq f fun e=>shape_root (shapeOk_iff.1 e)]
  simp [Try.f73]
  refine cK (shapeOk_spec_c f a1 a2 F1 F2 w tNode _ (k1.to (by simp)) (k2.to (by simp)) hl) ?_
  rintro _ _ ⟨⟨t1,rfl⟩,rfl⟩
  cases e1:shapeOk f
  · simp [fsOkN,e1]
  have sh:=shapeOk_iff.1 e1
  obtain ⟨hroot,hpos⟩:=shape_root sh
  have hb1:(f.nodes.length:Int) * 8≤(big:Int):=by unfold big; omega
  have hb2:f.nodes.length≤big:=by unfold big; omega
  simp
  refine drawK true (by kernel_rfl) ?_
  simp [hb1,hb2]
  have own0:=Own.rep (A:=intE) (h++⟨true,true,26,[.slice a1 f.nodes.length f.nodes.length,.slice a2 f.data.length f.data.length]⟩ :: t1) 3 f.nodes.length (z:=0) (zs:=[.int .i64 0]) ⟨rfl,rfl⟩
  have slz:slR true 3 intE (h++⟨true,true,26,[.slice a1 f.nodes.length f.nodes.length,.slice a2 f.data.length f.data.length]⟩ :: (t1++[⟨true,true,3,rep f.nodes.length [.int .i64 0]⟩])) (zeros f) (some ⟨h.length+(t1.length+1),0,none⟩) [h.length+(t1.length+1)]:=by
    have:=own0.sl
    simpa [zeros] using this
  have hzl:(zeros f).length=f.nodes.length:=by simp [zeros]
  have hv:=seen_c f hl sh 5 (by omega) a1 a2 F1 F2 w tNode _ (k1.to (by simp)) (k2.to (by simp)) 0 hpos (zeros f) _ _ slz hzl (bits_zeros f)
  rw [hzl] at hv
  simp at hv
  refine callK hv ?_
  rintro r H res
  cases hvis:seenN f 5 0 (zeros f) with
  | none =>
    rw [hvis] at res
    obtain ⟨⟨t,rfl⟩,a',F',T,rfl,oT,lT⟩:=res
    have hf:fsOkN f=false:=by simp [fsOkN,hvis]
    rw [hf]
    refine ⟨fun _=>Ext.push _ _,?_⟩
    simp
  | some T =>
    rw [hvis] at res
    obtain ⟨a',F',rfl,oT,lT,bT⟩:=res
    obtain ⟨t,rfl⟩:=oT.ext.pre
    refine ⟨fun _=>Ext.push _ _,?_⟩
    have oTs:=oT.sl
    have hfs:fsOkN f=(List.range f.nodes.length).all fun i=>okN f T i:=by simp [fsOkN,e1,hvis,okN]
    simp
    simp at oTs
    refine aloop mixed [1,3,5] (fun (x:Nat)=>[.pointer (some ⟨h.length,0,none⟩),.slice a' f.nodes.length f.nodes.length,.int .i64 x]) (fun x=>h++⟨true,true,26,[.slice a1 f.nodes.length f.nodes.length,.slice a2 f.data.length f.data.length]⟩ :: (t1++⟨true,true,3,rep f.nodes.length [.int .i64 0]⟩ :: t))
      (fun x=>x≤f.nodes.length∧∀ q,q<x→okN f T q=true) (fun x=>f.nodes.length - x) 0 ⟨by simp,fun q hq=>by simp at hq⟩ (by simp [pickF]) (by simp) ?_
    rintro k ⟨hk,hall⟩
    simp [mkF]
    refine aSI (fun hb=>?_) (fun hb=>?_) <;> simp at hb <;> simp [hb]
    rotate_left
    · obtain rfl:k=f.nodes.length:=by omega
      have:fsOkN f=true:=by
        rw [hfs,List.all_eq_true]
        exact fun q hq=>hall q (List.mem_range.1 hq)
      simp [this]
    obtain ⟨o1,off1,c1,C1,ea,d0,-⟩:=nodeAt (k1.ext (Ext.push h (⟨true,true,26,[.slice a1 f.nodes.length f.nodes.length,.slice a2 f.data.length f.data.length]⟩ :: (t1++⟨true,true,3,rep f.nodes.length [.int .i64 0]⟩ :: t)))) hb
    subst ea
    have hkn:nA_ f (k:Int)=f.nodes[k]:=nodeAtI_get hb
    have hkT:k<T.length:=by omega
    obtain ⟨o',off',ea,s0⟩:=intEAt oTs hkT
    subst ea
    have hat:at_ T (k:Int)=T[k]:=at_get hkT
    refine drawK false (by kernel_rfl) ?_
    simp [hb,d0,s0]
    by_cases hp:((T[k] == 1) == (f.nodes[k].kind != 0))=true
    · have hp':((T[k] == 1) == (f.nodes[k].kind != 0))=true:=hp
      simp only [hp']
      simp
      exact anext (k+1) ⟨hb,fun q hq=>by
        by_cases hqk:q=k
        · subst hqk; unfold okN; rw [hkn,hat]; exact hp
        · exact hall q (by omega)⟩ (by omega) (by simp [pickF,wS (show k<9223372036854775807 by omega)]) (by simp) (by simp)
    · have hp':((T[k] == 1) == (f.nodes[k].kind != 0))=false:=by simpa using hp
      have hf:fsOkN f=false:=by
        rw [hfs,List.all_eq_false]
        exact ⟨k,List.mem_range.2 hb,by unfold okN; rw [hkn,hat,hp']; simp⟩
      simp only [hp',hf]
      simp
def Okd (f:Fs) (i:Int):Prop:=0≤i∧i<f.nodes.length∧((nA_ f i).kind=2→∃ k s T,visit f k i s=some T)
theorem visitL_mem {f:Fs} {rec:Int→List Int→Option (List Int)} {i:Int}:∀ {es:List Ent} {s T:List Int},visitL f rec i es s=some T→∀ e∈es,lost f e=false∧((nA_ f e.node).kind=2→∃ s T,rec e.node s=some T)
  | [],_,_,_,e,he=>by cases he
  | x :: es,s,T,h,e,he=>by
    unfold visitL at h
    split at h
    · cases h
    · rename_i hl
      split at h
      · cases h
      · have hlo:lost f x=false:=by
          cases hx:lost f x
          · rfl
          · simp [hx] at hl
        split at h
        · rw [Option.bind_eq_some_iff] at h
          obtain ⟨T',h1,h2⟩:=h
          rcases List.mem_cons.1 he with rfl | he
          · exact ⟨hlo,fun _=>⟨_,_,h1⟩⟩
          · exact visitL_mem h2 e he
        · rename_i hk
          rcases List.mem_cons.1 he with rfl | he
          · exact ⟨hlo,fun hk2=>absurd hk2 hk⟩
          · exact visitL_mem h e he
theorem Okd.step {f:Fs} {i:Int} (o:Okd f i) (hk:(nA_ f i).kind=2) {e:Ent} (he:e∈(dirI f i).1):Okd f e.node:=by
  obtain ⟨k,s,T,hv⟩:=o.2.2 hk
  cases k with
  | zero =>
    unfold visit at hv
    split at hv
    · rename_i h
      simp only [Bool.and_eq_true,List.isEmpty_iff] at h
      rw [h.2] at he
      cases he
    · cases hv
  | succ k =>
    unfold visit at hv
    split at hv
    · obtain ⟨h1,h2⟩:=visitL_mem hv e he
      simp only [lost,Bool.or_eq_false_iff,decide_eq_false_iff_not] at h1
      refine ⟨dirOf_pos _ e he,by omega,fun hk=>?_⟩
      obtain ⟨s',T',h3⟩:=h2 hk
      exact ⟨k,s',T',h3⟩
    · cases hv
theorem fsOk_shape {f:Fs} (h:fsOk f=true):ShapeOk f:=by
  unfold fsOk at h
  simp only [Bool.and_eq_true] at h
  exact shapeOk_iff.1 h.1
theorem okd_root {f:Fs} (h:fsOk f=true):Okd f 0:=by
  have sh:=fsOk_shape h
  obtain ⟨h1,h2⟩:=shape_root sh
  refine ⟨by omega,by omega,fun _=>?_⟩
  unfold fsOk at h
  simp only [Bool.and_eq_true] at h
  cases hv:visit f 4 0 (zeros f) with
  | none=>rw [hv] at h; cases h.2
  | some T=>exact ⟨_,_,_,hv⟩
theorem dirFind_cases (es:List Ent) (n:Str):dirFind es n=-1∨∃ e∈es,dirFind es n=e.node:=by
  induction es with
  | nil=>exact .inl rfl
  | cons e es ih =>
    unfold dirFind
    split
    · exact .inr ⟨e,by simp,rfl⟩
    · rcases ih with h | ⟨x,hx,h⟩
      · exact .inl h
      · exact .inr ⟨x,by simp [hx],h⟩
theorem Okd.find {f:Fs} {i:Int} (o:Okd f i) (hk:(nA_ f i).kind=2) (n:Str):dirFind (dirI f i).1 n=-1∨Okd f (dirFind (dirI f i).1 n):=by
  rcases dirFind_cases (dirI f i).1 n with h | ⟨e,he,h⟩
  · exact .inl h
  · rw [h]; exact .inr (o.step hk he)
theorem dirOf_nil {b:Str} (h:(dirOf b).2=false):(dirOf b).1=[]:=by
  unfold dirOf at *
  split at h
  · rfl
  · split at h
    · cases h
    · rename_i h1 h2
      simp [h2]
def follow (f:Fs):List Str→Int→Int
  | [],i=>i
  | n :: ns,i=>if (nA_ f i).kind=2 then (if dirFind (dirI f i).1 n<0 then -1 else follow f ns (dirFind (dirI f i).1 n)) else -1
theorem follow_okd {f:Fs}:∀ (ns:List Str) (i:Int),Okd f i→follow f ns i=-1∨Okd f (follow f ns i)
  | [],i,o=>.inr o
  | n :: ns,i,o=>by
    unfold follow
    split
    · rename_i hk
      split
      · exact .inl rfl
      · rename_i hn
        rcases o.find hk n with h | h
        · rw [h] at hn; exact absurd (by decide) hn
        · exact follow_okd ns _ h
    · exact .inl rfl
theorem follow_drop (f:Fs) (ns:List Str) (k:Nat) (hk:k<ns.length) (i:Int):follow f (ns.drop k) i=if (nA_ f i).kind=2 then (if dirFind (dirI f i).1 ns[k]<0 then -1 else follow f (ns.drop (k+1)) (dirFind (dirI f i).1 ns[k])) else -1:=by
  rw [List.drop_eq_getElem_cons hk]; rfl
noncomputable def walk (f:Fs) (p:Str):Int:=if fsOk f && pathOk p then follow f (names p) 0 else -1
theorem walk_okd (f:Fs) (p:Str):walk f p=-1∨(fsOk f=true∧pathOk p=true∧Okd f (walk f p)):=by
  unfold walk
  split
  · rename_i h
    simp only [Bool.and_eq_true] at h
    rcases follow_okd (names p) 0 (okd_root h.1) with h1 | h1
    · exact .inl h1
    · exact .inr ⟨h.1,h.2,h1⟩
  · exact .inl rfl
noncomputable def hiddenNode (f:Fs):Int:=if fsOk f then dirFind (dirI f 0).1 [126] else -1
theorem hidden_okd (f:Fs):hiddenNode f=-1∨(fsOk f=true∧Okd f (hiddenNode f)):=by
  unfold hiddenNode
  split
  · rename_i h
    rcases (okd_root h).find (shape_root (fsOk_shape h)).1 [126] with h1 | h1
    · exact .inl h1
    · exact .inr ⟨h,h1⟩
  · exact .inl rfl
section
variable (f:Fs) (a1 a2:Option Addr) (F1 F2:List Nat) (w:Bool) (tNode:TypeId) (h:Hp) (k1:slR w tNode (nodeE w) h f.nodes a1 F1) (k2:slR w 9 strE h f.data a2 F2) (hl:f.nl≤1048576)
include k1 k2 hl
set_option maxHeartbeats 2000000 in
theorem follow_spec_c (ok:fsOk f=true) (ns:List Str) (an:Option Addr) (Fn:List Nat) (wn:Bool) (t:TypeId) (kn:slR wn t strE h ns an Fn) (hn:ns.length≤1048576) :
    ACall Try.prog 77 [.agg #[.slice a1 f.nodes.length f.nodes.length,.slice a2 f.data.length f.data.length],.slice an ns.length ns.length] h fun r h'=>(∃ t,h'=h++t)∧r=.int .i64 (follow f ns 0):=by
  refine acall mixed Try.func77 rfl (by kernel_rfl) ?_
  have sh:=fsOk_shape ok
  simp [Try.f77]
  refine aloop mixed [1,2,5,6] (fun (x:Nat × Nat × Hp)=>[.slice an ns.length ns.length,.pointer (some ⟨h.length,0,none⟩),.int .i64 x.2.1,.int .i64 x.1]) (fun x=>h++⟨true,true,26,[.slice a1 f.nodes.length f.nodes.length,.slice a2 f.data.length f.data.length]⟩ :: x.2.2)
    (fun x=>x.1≤ns.length∧Okd f x.2.1∧follow f (ns.drop x.1) x.2.1=follow f ns 0) (fun x=>ns.length - x.1) (0,0,[]) ⟨by simp,okd_root ok,by simp⟩ (by simp [pickF]) (by simp) ?_
  rintro ⟨k,i,t⟩ ⟨hk,oi,he⟩
  simp only at hk oi he
  simp [mkF]
  refine aSI (fun hb=>?_) (fun hb=>?_) <;> simp at hb <;> simp [hb]
  rotate_left
  · obtain rfl:k=ns.length:=by omega
    rw [List.drop_length] at he
    simpa [follow] using he
  have hi:i<f.nodes.length:=by have:=oi.2.1; omega
  have hkn:nA_ f (i:Int)=f.nodes[i]:=nodeAtI_get hi
  rw [follow_drop f ns k hb] at he
  refine cK (l9Dir_c f a1 a2 F1 F2 w tNode _ (k1.to (by simp)) (k2.to (by simp)) hl sh i hi) ?_
  rintro _ _ ⟨al,Fl,rfl,ol⟩
  obtain ⟨u,rfl⟩:=ol.ext.pre
  by_cases hk2:(nA_ f (i:Int)).kind=2
  rotate_left
  · rw [if_neg hk2] at he
    have hd:dirK f i=([],false):=by simp [dirK,hk2]
    rw [hd]
    simp [← he]
  rw [if_pos hk2] at he
  have hd:dirK f i=dirI f i:=by simp [dirK,hk2]
  rw [hd] at ol ⊢
  have hdl:(dirI f i).1.length≤80:=by
    have h1:=dirOf_len (contentI f i)
    have h2:=content_small sh i
    have h3:(dirI f i).1.length≤(contentI f i).length:=h1
    omega
  simp
  cases hok:(dirI f i).2
  · have hnil:(dirI f i).1=[]:=dirOf_nil hok
    rw [hnil] at he
    simp [dirFind] at he
    simp [← he]
  simp
  obtain ⟨oN,offN,rfl,n0⟩:=strEAt (kn.ext (Ext.push h (⟨true,true,26,[.slice a1 f.nodes.length f.nodes.length,.slice a2 f.data.length f.data.length]⟩ :: (t++u)))) hb
  simp [hb,n0]
  refine cK (dirFind_spec_c (dirI f i).1 ns[k] al Fl true _ _ (ol.sl.to (by simp)) (by omega)) ?_
  rintro _ _ ⟨rfl,rfl⟩
  simp
  rcases oi.find hk2 ns[k] with hf | hf
  · rw [hf] at he
    simp at he
    rw [hf]
    simp [← he]
  · obtain ⟨m,hm⟩:=Int.eq_ofNat_of_zero_le hf.1
    have hnn:¬ ((m:Int)<0):=by omega
    rw [hm,if_neg hnn] at he
    rw [hm] at hf
    rw [hm]
    simp [hnn]
    exact anext (k+1,m,t++u) ⟨hb,hf,he⟩ (by simp only; omega) (by simp [pickF,wS (show k<9223372036854775807 by omega)]) (by simp) (by simp)
end
section
variable (f:Fs) (a1 a2:Option Addr) (F1 F2:List Nat) (w:Bool) (tNode:TypeId) (h:Hp) (k1:slR w tNode (nodeE w) h f.nodes a1 F1) (k2:slR w 9 strE h f.data a2 F2) (hl:f.nl≤1048576)
include k1 k2 hl
end
end Go.Proofs.Ytmpgpkdijfcfhaa.Hz
