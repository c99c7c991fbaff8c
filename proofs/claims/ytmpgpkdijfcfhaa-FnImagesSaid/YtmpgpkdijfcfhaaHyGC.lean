/- Texts of the calculus and of the program's functions, merged: Q R O P V PS Y DL W I2 X. -/
import Derived.Test.YtmpgpkdijfcfhaaHyGBb
import Derived.Carry
import Derived.ChangeArms
import Derived.ChangeShapes
import Derived.ChangeMaps5
import Derived.OpenShut
import Derived.SizedLaws
import Derived.WalkKit
import Derived.ProofKit
import Derived.ChangeOld
import Derived.Test.YtmpgpkdijfcfhaaHyT
namespace Go.Proofs.Ytmpgpkdijfcfhaa.Hz
open Go.RowKit
set_option linter.unusedVariables false
set_option linter.unusedSimpArgs false
theorem setL_append_left:∀ (vs:List Value) (c d:List Value) (j:Nat),j+vs.length≤c.length→setL (c++d) j vs=setL c j vs++d
  | [],_,_,_,_=>rfl
  | v :: vs,c,d,j,h=>by
    simp only [List.length_cons] at h
    simp only [setL]
    rw [List.set_append_left _ _ (by omega)]
    exact setL_append_left vs _ d _ (by simp; omega)
theorem setL_append_right:∀ (vs:List Value) (c d:List Value) (j:Nat),setL (c++d) (c.length+j) vs=c++setL d j vs
  | [],_,_,_=>rfl
  | v :: vs,c,d,j=>by
    simp only [setL]
    rw [List.set_append_right _ _ (by omega),show c.length+j - c.length=j by omega,show c.length+j+1=c.length+(j+1) by omega]
    exact setL_append_right vs c _ _
theorem setL_all:∀ (vs c:List Value),vs.length=c.length→setL c 0 vs=vs:=by
  have key:∀ (vs pre c:List Value),vs.length=c.length→setL (pre++c) pre.length vs=pre++vs:=by
    intro vs
    induction vs with
    | nil=>intro pre c h; obtain rfl:=List.eq_nil_of_length_eq_zero h.symm; rfl
    | cons v vs ih =>
      intro pre c h
      cases c with
      | nil=>simp at h
      | cons d c =>
        simp only [setL]
        rw [List.set_append_right _ _ (Nat.le_refl _)]
        simp only [Nat.sub_self,List.set_cons_zero]
        have:=ih (pre++[v]) c (by simpa using h)
        simpa using this
  intro vs c h
  simpa using key vs [] c h
theorem setAt_get (h:Hp) (o i:Nat) (v:Value) (q:Nat):(setAt h o i v)[q]?=if o=q then (h[q]?).map (fun ob=>{ ob with cells:=ob.cells.set i v }) else h[q]?:=getElem?_modify' _ _ _ _
theorem sAg (o:Nat):∀ (vs:List Value) (h:Hp) (i q:Nat),(sA_ h o i vs)[q]?=if o=q then (h[q]?).map (fun ob=>{ ob with cells:=setL ob.cells i vs }) else h[q]?
  | [],h,i,q=>by simp [sA_,setL]
  | v :: vs,h,i,q=>by
    simp only [sA_]
    rw [sAg o vs,setAt_get]
    split
    · cases h[q]? <;> simp [setL]
    · rfl
theorem sAl (o:Nat):∀ (vs:List Value) (h:Hp) (i:Nat),(sA_ h o i vs).length=h.length
  | [],_,_=>rfl
  | v :: vs,h,i=>by simp only [sA_]; rw [sAl o vs]; simp [setAt]
theorem kill_get (h:Hp) (o q:Nat):(kill h o)[q]?=if o=q then (h[q]?).map (fun ob=>{ ob with live:=false }) else h[q]?:=getElem?_modify' _ _ _ _
theorem kill_len (h:Hp) (o:Nat):(kill h o).length=h.length:=by simp [kill]
theorem Ext.set {h0 h:Hp} (e:Ext h0 h) {o:Nat} (ho:h0.length≤o) (i:Nat) (vs:List Value):Ext h0 (sA_ h o i vs) :=
  ⟨by rw [sAl]; exact e.1,fun q hq=>by rw [sAg,if_neg (by omega)]; exact e.2 q hq⟩
theorem Ext.kill {h0 h:Hp} (e:Ext h0 h) {o:Nat} (ho:h0.length≤o):Ext h0 (kill h o) :=
  ⟨by rw [kill_len]; exact e.1,fun q hq=>by rw [kill_get,if_neg (by omega)]; exact e.2 q hq⟩
theorem Ext.app {h0 h:Hp} (e:Ext h0 h) (t:Hp):Ext h0 (h++t):=e.trans (Ext.push _ _)
def slE {α:Type} (w:Bool) (e:TypeId) (A:Enc α):Enc (List α) where
  n:=1
  R h xs cs F:=∃ a,cs=[.slice a xs.length xs.length]∧slR w e A h xs a F
  len:=by rintro h x cs F ⟨a,rfl,_⟩; rfl
  ok:=by rintro h x cs F ⟨a,rfl,_⟩; rfl
  frame:=by rintro h h' x cs F ⟨a,rfl,k⟩ hf; exact ⟨a,rfl,k.frame hf⟩
  lt:=by rintro h x cs F ⟨a,rfl,k⟩; exact k.lt
structure Own {α:Type} (h0:Hp) (e:TypeId) (A:Enc α) (h:Hp) (xs:List α) (a:Option Addr) (F:List Nat):Prop where
  ext:Ext h0 h
  sl:slR true e A h xs a F
  nd:F.Nodup
  new:∀ q∈F,h0.length≤q
section
variable {α:Type} {A:Enc α} {h0 h h':Hp} {e:TypeId} {xs ys:List α} {a:Option Addr} {F:List Nat}
theorem Own.nil (e0:Ext h0 h):Own h0 e A h [] none []:=⟨e0,⟨rfl,rfl⟩,List.nodup_nil,fun q hq=>by cases hq⟩
theorem Own.grow (k:Own h0 e A h xs a F) (hx:Ext h h'):Own h0 e A h' xs a F:=⟨k.ext.trans hx,k.sl.ext hx,k.nd,k.new⟩
theorem Own.of_new (e0:Ext h0 h) (k:Own h e A h' xs a F):Own h0 e A h' xs a F:=⟨e0.trans k.ext,k.sl,k.nd,fun q hq=>Nat.le_trans e0.1 (k.new q hq)⟩
theorem Own.lit {css:List (List Value)} {Fs:List (List Nat)} (e0:Ext h0 h) (r:rowsR A h xs css Fs) (hn:Fs.flatten.Nodup) (hq:∀ q∈Fs.flatten,h0.length≤q):Own h0 e A (h++[⟨true,true,e,css.flatten⟩]) xs (some ⟨h.length,0,none⟩) (h.length :: Fs.flatten) where
  ext:=e0.app _
  sl:=⟨rfl,_,css,Fs,[],[],List.getElem?_concat_length,rfl,fun _=>rfl,rfl,rfl,r.frame fun o ho=>(Ext.push h _).2 o (r.lt o ho),by simp,rfl⟩
  nd:=List.nodup_cons.2 ⟨fun hm=>Nat.lt_irrefl _ (r.lt _ hm),hn⟩
  new q hq':=by
    rcases List.mem_cons.1 hq' with rfl | hq'
    · exact e0.1
    · exact hq q hq'
theorem rowsR.split:∀ {xs:List α} {css:List (List Value)} {Fs:List (List Nat)} (_:rowsR A h xs css Fs) (i:Nat) (x:α),xs[i]?=some x →
    ∃ c1 c c2 F1 Fi F2,css=c1++c :: c2∧Fs=F1++Fi :: F2∧c1.flatten.length=i * A.n∧rowsR A h (xs.take i) c1 F1∧A.R h x c Fi∧rowsR A h (xs.drop (i+1)) c2 F2
  | x :: xs,c :: cs,F :: Fs,k,0,y,e=>by
    simp at e; subst e
    exact ⟨[],c,cs,[],F,Fs,rfl,rfl,by simp,trivial,k.1,k.2⟩
  | x :: xs,c :: cs,F :: Fs,k,i+1,y,e=>by
    obtain ⟨c1,c',c2,F1,Fi,F2,rfl,rfl,h1,h2,h3,h4⟩:=rowsR.split k.2 i y (by simpa using e)
    refine ⟨c :: c1,c',c2,F :: F1,Fi,F2,rfl,rfl,?_,⟨k.1,h2⟩,h3,h4⟩
    simp only [List.flatten_cons,List.length_append,h1,A.len k.1,Nat.add_mul]
    omega
  | [],[],[],_,_,_,e=>by simp at e
  | [],[],_ :: _,k,_,_,_=>k.elim
  | [],_ :: _,_,k,_,_,_=>k.elim
  | _ :: _,[],_,k,_,_,_=>k.elim
  | _ :: _,_ :: _,[],k,_,_,_=>k.elim
theorem Own.put {o off:Nat} (k:Own h0 e A h xs (some ⟨o,off,none⟩) F) {i:Nat} {x:α} (hx:xs[i]?=some x) :
    ∃ c Fi,A.R h x c Fi∧(∀ q∈Fi,q∈F∧q≠o)∧(∀ j,j<A.n→cellAt h o (off+i * A.n+j)=c[j]?) ∧
      ∀ (j:Nat) (vs:List Value) (x':α) (Fi':List Nat),j+vs.length≤A.n→A.R h x' (setL c j vs) Fi'→o ∉ Fi'→Fi'.Nodup→(∀ q∈Fi',h0.length≤q∧(q∈F→q∈Fi)) →
        cS_ h o (off+i * A.n+j) vs.length=true∧∃ F',Own h0 e A (sA_ h o (off+i * A.n+j) vs) (xs.set i x') (some ⟨o,off,none⟩) F'∧o∈F'∧∀ q∈F',q∈F∨q∈Fi':=by
  obtain ⟨e0,⟨_,ob,css,Fs,pre,post,g1,g2,g3,g4,rfl,g5,g6,g7⟩,nd,new⟩:=k
  simp only at g1 g7
  obtain ⟨c1,c,c2,F1,Fi,F2,rfl,rfl,s1,s2,s3,s4⟩:=g5.split i x hx
  rw [List.nodup_cons] at nd
  have hlen:=A.len s3
  have hfl:(F1++Fi :: F2).flatten=F1.flatten++(Fi++F2.flatten):=by simp
  have cellof:∀ j,j<A.n→cellAt h o (off+i * A.n+j)=c[j]?:=by
    intro j hj
    unfold cellAt
    rw [g1]
    simp only [g2,if_true]
    rw [g6]
    simp only [List.flatten_append,List.flatten_cons,List.append_assoc]
    rw [List.getElem?_append_right (by omega),List.getElem?_append_right (by omega),List.getElem?_append_left (by omega)]
    congr 1
    omega
  refine ⟨c,Fi,s3,fun q hq=>⟨?_,fun hh=>nd.1 ?_⟩,cellof,fun j vs x' Fi' hj hR ho hn' hq=>⟨?_,o :: (F1++Fi' :: F2).flatten,?_,List.mem_cons_self,?_⟩⟩
  · rw [hfl]; simp [hq]
  · rw [hfl,← hh]; simp [hq]
  · have hl2:ob.cells.length=pre.length+(c1.flatten.length+(c.length+c2.flatten.length))+post.length:=by
      rw [g6]; simp only [List.flatten_append,List.flatten_cons,List.length_append]
    have:off+i * A.n+j+vs.length≤ob.cells.length:=by omega
    simp [cS_,g1,g2,g3,this]
  · have other:∀ q,q≠o→(sA_ h o (off+i * A.n+j) vs)[q]?=h[q]?:=fun q hq=>by rw [sAg,if_neg (by omega)]
    have nr:∀ q,q∈F1.flatten∨q∈F2.flatten→q≠o:=by
      intro q hq hh
      apply nd.1
      rw [hfl,← hh]
      rcases hq with hq | hq <;> simp [hq]
    have hxs:xs.set i x'=xs.take i++x' :: xs.drop (i+1):=by
      have hi:=(List.getElem?_eq_some_iff.1 hx).1
      rw [List.set_eq_take_append_cons_drop,if_pos hi]
    refine ⟨e0.set (new o List.mem_cons_self) _ _,⟨rfl,{ ob with cells:=setL ob.cells (off+i * A.n+j) vs },c1++setL c j vs :: c2,F1++Fi' :: F2,pre,post,?_,g2,g3,g4,rfl,?_,?_,g7⟩,?_,?_⟩
    · show (sA_ h o (off+i * A.n+j) vs)[o]?=_
      rw [sAg,if_pos rfl,g1]
      rfl
    · rw [hxs]
      refine rowsR.append (s2.frame fun q hq=>other q (nr q (.inl hq))) ⟨A.frame hR fun q hq=>other q fun hh=>ho (hh ▸ hq),s4.frame fun q hq=>other q (nr q (.inr hq))⟩
    · show setL ob.cells (off+i * A.n+j) vs=_
      rw [g6]
      simp only [List.flatten_append,List.flatten_cons,List.append_assoc]
      rw [show off+i * A.n+j=pre.length+(c1.flatten.length+j) by omega,setL_append_right,setL_append_right,setL_append_left _ _ _ _ (by omega)]
    · rw [List.nodup_cons]
      have hfl':(F1++Fi' :: F2).flatten=F1.flatten++(Fi'++F2.flatten):=by simp
      rw [hfl'] at *
      rw [hfl] at nd hq
      refine ⟨?_,?_⟩
      · simp only [List.mem_append,not_or]
        exact ⟨fun hh=>nr o (.inl hh) rfl,ho,fun hh=>nr o (.inr hh) rfl⟩
      · have n1:=nd.2
        rw [List.nodup_append] at n1 ⊢
        obtain ⟨m1,m2,m3⟩:=n1
        rw [List.nodup_append] at m2
        obtain ⟨l1,l2,l3⟩:=m2
        refine ⟨m1,?_,?_⟩
        · rw [List.nodup_append]
          refine ⟨hn',l2,fun x hx y hy=>?_⟩
          rintro rfl
          have:x∈Fi:=(hq x hx).2 (by simp [hy])
          exact l3 x this x hy rfl
        · intro x hx y hy
          rintro rfl
          rcases List.mem_append.1 hy with hy | hy
          · have:x∈Fi:=(hq x hy).2 (by simp [hx])
            exact m3 x hx x (by simp [this]) rfl
          · exact m3 x hx x (by simp [hy]) rfl
    · intro q hq'
      rcases List.mem_cons.1 hq' with rfl | hq'
      · exact new q List.mem_cons_self
      · simp only [List.flatten_append,List.flatten_cons,List.mem_append] at hq'
        rcases hq' with hq' | hq' | hq'
        · exact new q (List.mem_cons_of_mem _ (by rw [hfl]; simp [hq']))
        · exact (hq q hq').1
        · exact new q (List.mem_cons_of_mem _ (by rw [hfl]; simp [hq']))
  · intro q hq'
    rcases List.mem_cons.1 hq' with rfl | hq'
    · exact .inl List.mem_cons_self
    · simp only [List.flatten_append,List.flatten_cons,List.mem_append] at hq'
      rcases hq' with hq' | hq' | hq'
      · exact .inl (List.mem_cons_of_mem _ (by rw [hfl]; simp [hq']))
      · exact .inr hq'
      · exact .inl (List.mem_cons_of_mem _ (by rw [hfl]; simp [hq']))
end
theorem Ext.pre {h h':Hp} (e:Ext h h'):∃ t,h'=h++t:=by
  refine ⟨h'.drop h.length,?_⟩
  have:h=h'.take h.length:=by
    apply List.ext_getElem?
    intro i
    by_cases hi:i<h.length
    · rw [List.getElem?_take_of_lt hi,e.2 i hi]
    · rw [List.getElem?_eq_none (by omega),List.getElem?_eq_none (by simp; omega)]
  calc h'=h'.take h.length++h'.drop h.length:=(List.take_append_drop _ _).symm
    _=h++h'.drop h.length:=by rw [← this]
section
variable {P:Program}
theorem aeff_ok (v:Value) (h':Hp) (d:Option Tmp) (tm:List Value) (K:Cont):aeff (some (v,h')) d tm K=K (put tm d v) h':=by
  simp only [aeff,Option.some.injEq,Prod.mk.injEq]
  exact propext ⟨fun ⟨_,_,⟨e1,e2⟩,k⟩=>e1 ▸ e2 ▸ k,fun k=>⟨_,_,⟨rfl,rfl⟩,k⟩⟩
theorem eev_box (h:Hp) (ρ:Operand→Value) (t:TypeId) (x:Operand):eev P h ρ (.box t x)=(cellsO (ρ x)).bind fun cs=>if cs.all okCell=true then (szOf P t).bind fun _=>some (.pointer (some ⟨h.length,0,none⟩),h++[⟨true,true,t,cs⟩]) else none:=by
  simp only [eev,Option.map_eq_bind]; rfl
theorem eev_alloc (h:Hp) (ρ:Operand→Value) (t:TypeId):eev P h ρ (.alloc t)=(zeroOf P t).bind fun z=>if (cellsL z).all scal=true then (szOf P t).bind fun _=>some (.pointer (some ⟨h.length,0,none⟩),h++[⟨true,true,t,cellsL z⟩]) else none:=by
  simp only [eev,Option.map_eq_bind]; rfl
theorem eev_store (h : Hp) (ρ : Operand → Value) (t : TypeId) (x y : Operand) : eev P h ρ (.store t x y) = match ρ x with
      | .pointer (some a)=>(cellsO (ρ y)).bind fun cs=>if some cs.length=szOf P t∧cs.all okCell=true∧cS_ h a.block a.off cs.length=true then some (undef,sA_ h a.block a.off cs) else none
      | _=>none:=by
  simp only [eev]; rfl
theorem eev_lit (h:Hp) (ρ:Operand→Value) (t:TypeId) (n:Nat) (ps:Array (Nat × Operand)):eev P h ρ (.buildSlice t n ps)=(elOf P t).bind fun q=>if n * q.2.1≤4096 then (fillL (fun i=>some (i * q.2.1,q.2.1)) (rep n q.2.2.2) (ps.toList.map fun p=>(p.1,ρ p.2))).bind fun cs=>if cs.all okCell=true then some (.slice (some ⟨h.length,0,none⟩) n n,h++[⟨true,true,q.1,cs⟩]) else none else none:=by
  simp only [eev]
theorem eev_make (h : Hp) (ρ : Operand → Value) (t : TypeId) (l c : Operand) : eev P h ρ (.makeSlice t l c) = match ρ l, ρ c with
      | .int .i64 n,.int .i64 m=>(elOf P t).bind fun q=>if n=m∧0≤n∧n * q.2.2.1≤big∧n≤big then some (.slice (some ⟨h.length,0,none⟩) n.toNat n.toNat,h++[⟨true,true,q.1,rep n.toNat q.2.2.2⟩]) else none
      | _,_=>none:=by
  simp only [eev]; rfl
theorem eev_cvSB (h : Hp) (ρ : Operand → Value) (s d : TypeId) (x : Operand) : eev P h ρ (.convert s d x) = match ρ x with
      | .string b=>(elemOf P d).bind fun e=>if (strOf P s && (intOf' P e == some .u8) && (szOf P e == some 1))=true then some (.slice (some ⟨h.length,0,none⟩) b.size b.size,h++[⟨true,true,e,bytesL b⟩]) else none
      | .slice (some a) n c=>if s=d∧(elemOf P d).bind (intOf' P)=some .u8∧0<n∧elAt h a.block=elemOf P d∧cS_ h a.block a.off 0=true then some (.slice (some a) n c,h) else none
      | _=>none:=by
  simp only [eev]; rfl
theorem cellsO_agg (cs:Array Value):cellsO (.agg cs)=some cs.toList:=rfl
theorem cellsO_int (k:IntKind) (n:Int):cellsO (.int k n)=some [.int k n]:=rfl
theorem cellsO_str (s:ByteArray):cellsO (.string s)=some [.string s]:=rfl
theorem cellsO_bool (b:Bool):cellsO (.bool b)=some [.bool b]:=rfl
theorem cellsO_slice (a:Option Addr) (n c:Nat):cellsO (.slice a n c)=some [.slice a n c]:=rfl
theorem cellsO_ptr (a:Option Addr):cellsO (.pointer a)=some [.pointer a]:=rfl
theorem cellsO_func (f:Fn) (x c:Array Value):cellsO (.func f x c)=some [.func f x c]:=rfl
theorem abuild_eq (t:TypeId) (parts:List (Nat × Value)):abuild P t parts=(placesOf P t).bind fun pl=>(zeroOf P t).bind fun z=>if (cellsL z).all scal=true then (fillL (fun i=>pl[i]?) (cellsL z) parts).bind fun cs=>some (.agg cs.toArray) else none:=by
  simp only [abuild,Option.map_eq_bind]; rfl
theorem afield_agg (t:TypeId) (cs:Array Value) (f:Nat):afield P t (.agg cs) f=(fldOf P t f).bind fun q=>(aggOf P q.2).bind fun g=>if g=true then (szOf P q.2).bind fun sz=>some (.agg (cs.extract q.1 (q.1+sz))) else cs[q.1]?:=by
  simp only [afield,Option.map_eq_bind]; rfl
theorem qev_nilCheck (ρ:Operand→Value) (x:Operand):qev P ρ (.nilCheck x)=match ρ x with | .pointer (some a)=>some (.pointer (some a)) | _=>none:=by simp only [qev]; rfl
theorem qev_makeFunc (ρ:Operand→Value) (g:FuncId) (first cap:Array Operand):qev P ρ (.makeFunc (.func g) first cap)=if (first.isEmpty && (cap.toList.map ρ).all capOk)=true then some (.func (.func g) #[] (cap.map ρ)) else none:=by simp only [qev]
theorem qev_extract (ρ:Operand→Value) (x:Operand) (i:Nat):qev P ρ (.extract x i)=match ρ x with | .tuple vs=>vs[i]? | _=>none:=by simp only [qev]; rfl
theorem qev_cvSS (ρ:Operand→Value) (s d:TypeId) (x:Operand) (b:ByteArray) (e:ρ x=.string b):qev P ρ (.convert s d x)=if (strOf P s && strOf P d)=true then some (.string b) else none:=by
  simp only [qev,e]
theorem abin_aeql (t:TypeId) (xs ys:Array Value):abin P .eql t (.agg xs) (.agg ys)=(eqKs P t).bind fun ks=>(eqCells ks xs.toList ys.toList).bind fun b=>some (.bool b):=by
  simp only [abin,Option.map_eq_bind]; rfl
theorem abin_aneq (t:TypeId) (xs ys:Array Value):abin P .neq t (.agg xs) (.agg ys)=(eqKs P t).bind fun ks=>(eqCells ks xs.toList ys.toList).bind fun b=>some (.bool !b):=by
  simp only [abin,Option.map_eq_bind]; rfl
theorem abin_nil_eql (t:TypeId) (a:Option Addr) (n c:Nat) (hb:isSlice P t=true):abin P .eql t (.slice a n c) (.slice none 0 0)=some (.bool a.isNone):=by simp [abin,hb]
theorem abin_nil_neq (t:TypeId) (a:Option Addr) (n c:Nat) (hb:isSlice P t=true):abin P .neq t (.slice a n c) (.slice none 0 0)=some (.bool !a.isNone):=by simp [abin,hb]
end
theorem ares_cell (P:Program) (a:Tmp) (t:TypeId) (tm:List Value) (h:Hp):aresults P [.cell a t] tm h=lev P h (ev tm) (.load t (.tmp a)):=rfl
theorem wS {k:Nat} (h:k<9223372036854775807):IntKind.i64.wrap ((k:Int)+1)=((k+1:Nat):Int):=by
  rw [wrap_in (by omega) (by omega)]; rfl
def sumL {α:Type} (f:α→Nat):List α→Nat
  | []=>0
  | x :: xs=>f x+sumL f xs
theorem sumL_mem {α:Type} (f:α→Nat):∀ {xs:List α} {x:α},x∈xs→f x≤sumL f xs
  | y :: ys,x,h=>by
    rcases List.mem_cons.1 h with rfl | h
    · simp [sumL]
    · have:=sumL_mem f h
      simp only [sumL]; omega
theorem sumL_nil {α:Type} (f:α→Nat):sumL f []=0:=rfl
theorem take_snoc {α:Type} {xs ys:List α} {k:Nat} (h1:k<xs.length) (h2:k<ys.length) (h:xs.take k=ys.take k) (e:xs[k]=ys[k]):xs.take (k+1)=ys.take (k+1):=by
  rw [List.take_succ_eq_append_getElem h1,List.take_succ_eq_append_getElem h2,h,e]
theorem take_all {α:Type} {xs ys:List α} (h:xs.length=ys.length) (k:xs.take xs.length=ys.take xs.length):xs=ys:=by
  rw [List.take_length] at k
  rw [k,h,List.take_length]
theorem cellAt_app (h l:Hp) (k i:Nat):cellAt (h++l) (h.length+k) i=cellAt l k i:=by
  unfold cellAt
  rw [List.getElem?_append_right (by omega),show h.length+k - h.length=k by omega]
theorem cellAt_app0 (h l:Hp) (i:Nat):cellAt (h++l) h.length i=cellAt l 0 i:=cellAt_app h l 0 i
theorem cellsAt_app (h l:Hp) (k:Nat):∀ (n i:Nat),cellsAt (h++l) (h.length+k) i n=cellsAt l k i n
  | 0,_=>rfl
  | n+1,i=>by simp only [cellsAt,cellAt_app,cellsAt_app h l k n]
theorem cellsAt_app0 (h l:Hp) (n i:Nat):cellsAt (h++l) h.length i n=cellsAt l 0 i n:=cellsAt_app h l 0 n i
theorem canSet_app (h l:Hp) (k i n:Nat):cS_ (h++l) (h.length+k) i n=cS_ l k i n:=by
  unfold cS_
  rw [List.getElem?_append_right (by omega),show h.length+k - h.length=k by omega]
theorem canSet_app0 (h l:Hp) (i n:Nat):cS_ (h++l) h.length i n=cS_ l 0 i n:=canSet_app h l 0 i n
theorem elAt_app (h l:Hp) (k:Nat):elAt (h++l) (h.length+k)=elAt l k:=by
  unfold elAt
  rw [List.getElem?_append_right (by omega),show h.length+k - h.length=k by omega]
theorem elAt_app0 (h l:Hp):elAt (h++l) h.length=elAt l 0:=elAt_app h l 0
theorem modify_right {α:Type} (f:α→α) (h l:List α) (k:Nat):(h++l).modify (h.length+k) f=h++l.modify k f:=by
  apply List.ext_getElem?
  intro i
  rw [getElem?_modify']
  by_cases hi:i<h.length
  · rw [if_neg (by omega),List.getElem?_append_left hi,List.getElem?_append_left hi]
  · rw [List.getElem?_append_right (by omega),List.getElem?_append_right (by omega),getElem?_modify']
    by_cases hk:h.length+k=i
    · rw [if_pos hk,if_pos (by omega)]
    · rw [if_neg hk,if_neg (by omega)]
theorem setAt_app (h l:Hp) (k i:Nat) (v:Value):setAt (h++l) (h.length+k) i v=h++setAt l k i v:=by
  unfold setAt
  exact modify_right _ _ _ _
theorem setsAt_app (k:Nat):∀ (vs:List Value) (h l:Hp) (i:Nat),sA_ (h++l) (h.length+k) i vs=h++sA_ l k i vs
  | [],_,_,_=>rfl
  | v :: vs,h,l,i=>by simp only [sA_,setAt_app]; exact setsAt_app k vs h _ _
theorem setsAt_app0 (h l:Hp) (i:Nat) (vs:List Value):sA_ (h++l) h.length i vs=h++sA_ l 0 i vs:=setsAt_app 0 vs h l i
theorem kill_app (h l:Hp) (k:Nat):kill (h++l) (h.length+k)=h++kill l k:=by
  unfold kill
  exact modify_right _ _ _ _
theorem kill_app0 (h l:Hp):kill (h++l) h.length=h++kill l 0:=kill_app h l 0
theorem cellsAt_zero (h:Hp) (o i:Nat):cellsAt h o i 0=some []:=rfl
theorem cellsAt_succ (h:Hp) (o i n:Nat):cellsAt h o i (n+1)=(cellAt h o i).bind fun v=>(cellsAt h o (i+1) n).bind fun vs=>some (v :: vs):=by
  simp only [cellsAt,Option.map_eq_bind]; rfl
theorem cellAt_hd (ob:Ob) (l:Hp) (i:Nat):cellAt (ob :: l) 0 i=if ob.live=true then ob.cells[i]? else none:=rfl
theorem cellAt_tl (ob:Ob) (l:Hp) (k i:Nat):cellAt (ob :: l) (k+1) i=cellAt l k i:=rfl
theorem cellsAt_tl (ob:Ob) (l:Hp) (k:Nat):∀ (n i:Nat),cellsAt (ob :: l) (k+1) i n=cellsAt l k i n
  | 0,_=>rfl
  | n+1,i=>by simp only [cellsAt,cellAt_tl,cellsAt_tl ob l k n]
theorem canSet_hd (ob:Ob) (l:Hp) (i n:Nat):cS_ (ob :: l) 0 i n=(ob.live && ob.rw && decide (i+n≤ob.cells.length)):=rfl
theorem canSet_tl (ob:Ob) (l:Hp) (k i n:Nat):cS_ (ob :: l) (k+1) i n=cS_ l k i n:=rfl
theorem elAt_hd (ob:Ob) (l:Hp):elAt (ob :: l) 0=some ob.elem:=rfl
theorem elAt_tl (ob:Ob) (l:Hp) (k:Nat):elAt (ob :: l) (k+1)=elAt l k:=rfl
theorem setsAt_nil (h:Hp) (o i:Nat):sA_ h o i []=h:=rfl
theorem setsAt_hd (ob:Ob) (l:Hp) (i:Nat) (v:Value) (vs:List Value):sA_ (ob :: l) 0 i (v :: vs)=sA_ (⟨ob.live,ob.rw,ob.elem,ob.cells.set i v⟩ :: l) 0 (i+1) vs:=rfl
theorem setsAt_tl (ob:Ob) (k:Nat):∀ (vs:List Value) (l:Hp) (i:Nat),sA_ (ob :: l) (k+1) i vs=ob :: sA_ l k i vs
  | [],_,_=>rfl
  | v :: vs,l,i=>by
    simp only [sA_]
    exact setsAt_tl ob k vs _ _
theorem kill_hd (ob:Ob) (l:Hp):kill (ob :: l) 0=⟨false,ob.rw,ob.elem,ob.cells⟩ :: l:=rfl
theorem kill_tl (ob:Ob) (l:Hp) (k:Nat):kill (ob :: l) (k+1)=ob :: kill l k:=rfl
theorem okc_int (k:IntKind) (n:Int):okCell (.int k n)=true:=rfl
theorem okc_str (s:ByteArray):okCell (.string s)=true:=rfl
theorem okc_bool (b:Bool):okCell (.bool b)=true:=rfl
theorem okc_slice (a:Option Addr) (n c:Nat):okCell (.slice a n c)=true:=rfl
theorem okc_ptr (a:Option Addr):okCell (.pointer a)=true:=rfl
theorem okc_func (f:Fn) (x c:Array Value):okCell (.func f x c)=true:=rfl
section
variable {α:Type} {h0 h:Hp} {e:TypeId} {xs:List α} {F:List Nat}
theorem Own.putFlat {n:Nat} {f:α→List Value} {hn:∀ x,(f x).length=n} {hok:∀ x,(f x).all okCell=true} {o off:Nat} (k:Own h0 e (flatE n f hn hok) h xs (some ⟨o,off,none⟩) F) {i:Nat} (hi:i<xs.length) (x':α) (j:Nat) (vs:List Value) (hj:j+vs.length≤n) (hv:setL (f xs[i]) j vs=f x') :
    cS_ h o (off+i * n+j) vs.length=true∧∃ F',Own h0 e (flatE n f hn hok) (sA_ h o (off+i * n+j) vs) (xs.set i x') (some ⟨o,off,none⟩) F':=by
  obtain ⟨c,Fi,⟨rfl,rfl⟩,_,_,hput⟩:=k.put (List.getElem?_eq_getElem hi)
  obtain ⟨h1,F',h2,_⟩:=hput j vs x' [] hj ⟨hv,rfl⟩ (by simp) (by simp) (by simp)
  exact ⟨h1,F',h2⟩
theorem rowsR_rep {A:Enc α} {z:α} {zs:List Value} (hz:A.R h z zs []):∀ (n:Nat),rowsR A h (List.replicate n z) (List.replicate n zs) (List.replicate n [])
  | 0=>trivial
  | n+1=>⟨hz,rowsR_rep hz n⟩
theorem flat_rep (n:Nat):(List.replicate n ([]:List Nat)).flatten=[]:=by
  induction n with
  | zero=>rfl
  | succ n ih=>simp [List.replicate_succ]
theorem Own.rep {A:Enc α} (h:Hp) (e:TypeId) (n:Nat) {z:α} {zs:List Value} (hz:A.R h z zs []):Own h e A (h++[⟨true,true,e,Hz.rep n zs⟩]) (List.replicate n z) (some ⟨h.length,0,none⟩) [h.length]:=by
  have:=Own.lit (h0:=h) (e:=e) (Ext.refl h) (rowsR_rep hz n) (by rw [flat_rep]; exact List.nodup_nil) (by rw [flat_rep]; simp)
  rw [flat_rep] at this
  exact this
end
attribute [simp] ares_cell sumL_nil aeff_ok eev_box eev_alloc eev_store eev_lit eev_make eev_cvSB cellsO_agg cellsO_int cellsO_str cellsO_bool cellsO_slice cellsO_ptr cellsO_func abuild_eq afield_agg qev_nilCheck qev_makeFunc qev_extract qev_cvSS abin_aeql abin_aneq abin_nil_eql abin_nil_neq cellAt_app cellAt_app0 cellsAt_app cellsAt_app0 canSet_app canSet_app0 elAt_app elAt_app0 setsAt_app setsAt_app0 kill_app kill_app0 cellsAt_zero cellsAt_succ cellAt_hd cellAt_tl cellsAt_tl canSet_hd canSet_tl elAt_hd elAt_tl setsAt_nil setsAt_hd setsAt_tl kill_hd kill_tl okc_int okc_str okc_bool okc_slice okc_ptr okc_func
attribute [simp] fillL setL cellsL scal capOk eqCells eqCell notTuple
theorem cells?_get {w:World} {base:Nat} {a:Addr} {n:Nat} {cs:List Value} (h:w.cells? base a n=some cs):cs.length=n∧(0<n→a.spot=none)∧∀ j,j<n→∃ v,cs[j]?=some v∧w.cell? ⟨a.block,a.off+j,none⟩=some v:=by
  unfold World.cells? at h
  split at h
  · have key:∀ (n:Nat) (cs:List Value),(List.range n).mapM (fun i=>w.cell? (a.add i))=some cs→cs.length=n∧∀ j,j<n→∃ v,cs[j]?=some v∧w.cell? (a.add j)=some v:=by
      intro n
      induction n with
      | zero=>intro cs h; simp at h; subst h; exact ⟨rfl,fun j hj=>by omega⟩
      | succ n ih =>
        intro cs h
        rw [List.range_succ,List.mapM_append] at h
        simp only [Option.bind_eq_bind,Option.bind_eq_some_iff,List.mapM_cons,List.mapM_nil,Option.pure_def,Option.some.injEq] at h
        obtain ⟨us,hus,vs,⟨v,hv,_,rfl,rfl⟩,rfl⟩:=h
        obtain ⟨h1,h2⟩:=ih us hus
        refine ⟨by simp [h1],fun j hj=>?_⟩
        by_cases hjn:j<n
        · obtain ⟨u,h3,h4⟩:=h2 j hjn
          exact ⟨u,by rw [List.getElem?_append_left (by omega)]; exact h3,h4⟩
        · obtain rfl:j=n:=by omega
          exact ⟨v,by rw [List.getElem?_append_right (by omega),h1]; simp,hv⟩
    obtain ⟨h1,h2⟩:=key n cs h
    have addr:∀ j,j<n→a.add j=⟨a.block,a.off+j,none⟩:=by
      intro j hj
      obtain ⟨v,_,hv⟩:=h2 j hj
      have hspot:(a.add j).spot=none:=by
        cases hsp:(a.add j).spot with
        | none=>rfl
        | some s =>
          simp only [World.cell?] at hv
          split at hv
          · simp [hsp] at hv
          · cases hv
      unfold Addr.add at hspot ⊢
      split
      · rename_i h0
        subst h0
        rw [if_pos rfl] at hspot
        cases a
        simp_all
      · rfl
    refine ⟨h1,fun h0=>?_,fun j hj=>?_⟩
    · have:=addr 0 h0
      unfold Addr.add at this
      rw [if_pos rfl] at this
      rw [this]
    · rw [← addr j hj]; exact h2 j hj
  · cases h
theorem add_block (a:Addr) (n:Nat):(a.add n).block=a.block∧(a.add n).off=a.off+n:=by
  unfold Addr.add
  split
  · rename_i h; subst h; exact ⟨rfl,rfl⟩
  · exact ⟨rfl,rfl⟩
theorem ext_pre {h h':Hp} (p:h <+: h'):∀ o,o<h.length→h'[o]?=h[o]?:=by
  obtain ⟨t,rfl⟩:=p
  intro o ho
  exact List.getElem?_append_left ho
section
variable {P:Program}
def Opn {α:Type} (P:Program) (t:TypeId) (A:Enc α) (ok:α→Prop):Prop :=
  ∀ {H:Type} {enc:TypeId × Value→H} {W:World} {φ:Inj} {h:Hp} {fuel:Nat} {cs:List Value} {x:DataW H × List MemPlace},
    Rel P ⟨W.heap.size,[]⟩ W φ h W→DataW.trod enc P W 0 (fun _=>true) true fuel t cs=some x →
    ∃ φ' h' acs d F,φ <+: φ'∧h <+: h'∧Rel P ⟨W.heap.size,[]⟩ W φ' h' W∧All2 (RelC φ') acs cs∧A.R h' d acs F∧ok d
theorem opn_byte {t:TypeId} (ht:P.underlying t=some (.int .u8)):Opn P t byteE fun _=>True:=by
  intro H enc W φ h fuel cs x R hx
  obtain ⟨n,rfl,_,hw⟩:=DataW.trod_int ht hx
  have h1:0≤n∧n≤255:=by
    simp only [Lit.wf,IntKind.min,IntKind.max,IntKind.signed,IntKind.bits,Bool.and_eq_true,decide_eq_true_eq] at hw
    simp at hw
    omega
  refine ⟨φ,h,[.int .u8 n],UInt8.ofNat n.toNat,[],List.prefix_rfl,List.prefix_rfl,R,⟨rfl,trivial⟩,⟨?_,rfl⟩,trivial⟩
  simp
  omega
theorem opn_rows {α:Type} {e:TypeId} {A:Enc α} {ok:α→Prop} (hA:Opn P e A ok) (hc:P.cellsOf e=A.n) {H:Type} {enc:TypeId × Value→H} {W:World} {a:Addr} {fuel:Nat} {φ:Inj} {h:Hp} (R:Rel P ⟨W.heap.size,[]⟩ W φ h W) :
    ∀ (m:Nat),(∀ i,i<m→∃ y,(W.cells? 0 (a.add (i * P.cellsOf e)) (P.cellsOf e)).bind (DataW.trod enc P W 0 (fun _=>true) true fuel e)=some y) →
    ∃ φ' h' css Fs xs,φ <+: φ'∧h <+: h'∧Rel P ⟨W.heap.size,[]⟩ W φ' h' W∧rowsR A h' xs css Fs∧xs.length=m∧(∀ x∈xs,ok x)∧∀ (j:Nat) (v:Value),css.flatten[j]?=some v→∃ v',W.cell? ⟨a.block,a.off+j,none⟩=some v'∧RelC φ' v v'
  | 0,_=>⟨φ,h,[],[],[],List.prefix_rfl,List.prefix_rfl,R,trivial,rfl,fun x hx=>by simp at hx,fun j v hj=>by simp at hj⟩
  | m+1,hm=>by
    obtain ⟨φ1,h1,css,Fs,xs,p1,p2,R1,rows,hl,hok,hcell⟩:=opn_rows hA hc R m fun i hi=>hm i (by omega)
    obtain ⟨y,hy⟩:=hm m (by omega)
    rw [Option.bind_eq_some_iff] at hy
    obtain ⟨cs,hcs,hy⟩:=hy
    obtain ⟨φ2,h2,acs,d,F,q1,q2,R2,rel,rd,okd⟩:=hA R1 hy
    obtain ⟨hlen,-,hget⟩:=cells?_get hcs
    have hfl:=rows.len.2.2
    refine ⟨φ2,h2,css++[acs],Fs++[F],xs++[d],p1.trans q1,p2.trans q2,R2,rowsR.append (rows.frame fun o ho=>ext_pre q2 o (rows.lt o ho)) ⟨rd,trivial⟩,by simp [hl],?_,?_⟩
    · intro x hx
      rcases List.mem_append.1 hx with hx | hx
      · exact hok x hx
      · simp at hx; subst hx; exact okd
    · intro j v hj
      rw [List.flatten_append] at hj
      by_cases hjl:j<css.flatten.length
      · rw [List.getElem?_append_left hjl] at hj
        obtain ⟨v',k1,k2⟩:=hcell j v hj
        exact ⟨v',k1,k2.mono q1⟩
      · rw [List.getElem?_append_right (by omega)] at hj
        simp only [List.flatten_cons,List.flatten_nil,List.append_nil] at hj
        obtain ⟨v',k1,k2⟩:=rel.get _ _ hj
        have hlt:=(List.getElem?_eq_some_iff.1 k1).1
        obtain ⟨v2,k3,k4⟩:=hget (j - css.flatten.length) (by omega)
        rw [k1] at k3
        injection k3 with k3
        subst k3
        refine ⟨v',?_,k2⟩
        rw [(add_block a _).1,(add_block a _).2] at k4
        rw [show a.off+j=a.off+m * P.cellsOf e+(j - css.flatten.length) by rw [hc,hfl,hl]; rw [hfl,hl] at hjl; omega]
        exact k4
theorem opn_slice {α:Type} {t e:TypeId} {A:Enc α} {ok:α→Prop} (hA:Opn P e A ok) (ht:P.underlying t=some (.slice e)) (hc:P.cellsOf e=A.n) (hs:szOf P e=some A.n) (hn:0<A.n):Opn P t (slE false e A) fun xs=>xs.length≤maxLen∧∀ x∈xs,ok x:=by
  intro H enc W φ h fuel cs x R hx
  rcases DataW.trod_slice ht hx with ⟨rfl,rfl⟩ | ⟨a,len,cap,elems,rest,n,_,rfl,rfl,hb,hl,hm,hlen,hel,hsp,hns⟩
  · exact ⟨φ,h,[.slice none 0 0],[],[],List.prefix_rfl,List.prefix_rfl,R,⟨⟨rfl,rfl,rfl⟩,trivial⟩,⟨none,rfl,rfl,rfl⟩,by simp,by simp⟩
  obtain ⟨φ1,h1,css,Fs,xs,p1,p2,R1,rows,hxl,hok,hcell⟩:=opn_rows hA hc (a:=a) (enc:=enc) (fuel:=n) R len fun i hi=>⟨elems[i]'(by omega),by rw [hel i hi]; exact List.getElem?_eq_getElem _⟩
  have hspot:cap=0∨a.spot=none:=by
    by_cases h0:cap=0
    · exact .inl h0
    right
    have:∃ y,(W.cells? 0 (a.add (0 * P.cellsOf e)) (P.cellsOf e)).bind (DataW.trod enc P W 0 (fun _=>true) true n e)=some y:=by
      by_cases h1:0<len
      · exact ⟨elems[0]'(by omega),by rw [hel 0 h1]; exact List.getElem?_eq_getElem _⟩
      · obtain ⟨k1,k2⟩:=hsp rfl
        have:=k2 0 (by omega)
        rw [show len+0=0 by omega] at this
        exact ⟨rest[0]'(by omega),by rw [this]; exact List.getElem?_eq_getElem _⟩
    obtain ⟨y,hy⟩:=this
    rw [Option.bind_eq_some_iff] at hy
    obtain ⟨cs,hcs,_⟩:=hy
    have:=(cells?_get hcs).2.1 (by omega)
    rw [Nat.zero_mul] at this
    unfold Addr.add at this
    rw [if_pos rfl] at this
    exact this
  let pl:Pl:=⟨a.block,a.off,0,A.n,false⟩
  let ob:Ob:=⟨true,false,e,css.flatten⟩
  have q1:φ1 <+: φ1++[pl]:=List.prefix_append _ _
  have q2:h1 <+: h1++[ob]:=List.prefix_append _ _
  have lens:=R1.len
  have old:∀ {o:Nat} {ob':Ob} {p':Pl},(h1++[ob])[o]?=some ob'→(φ1++[pl])[o]?=some p'→(h1[o]?=some ob'∧φ1[o]?=some p')∨(ob'=ob∧p'=pl):=by
    intro o ob' p' ho hp
    by_cases hlt:o<h1.length
    · rw [List.getElem?_append_left hlt] at ho
      rw [List.getElem?_append_left (by omega)] at hp
      exact .inl ⟨ho,hp⟩
    · have:o=h1.length:=by
        have:=(List.getElem?_eq_some_iff.1 ho).1
        simp at this
        omega
      subst this
      rw [List.getElem?_append_right (by omega)] at ho
      rw [List.getElem?_append_right (by omega)] at hp
      simp at ho hp
      rw [lens] at hp
      simp at hp
      exact .inr ⟨ho.symm,hp.symm⟩
  have R2:Rel P ⟨W.heap.size,[]⟩ W (φ1++[pl]) (h1++[ob]) W:=by
    refine ⟨R1.below,R1.base,by simp [lens],?_,?_,?_⟩
    · intro o ob' p' ho hp
      rcases old ho hp with ⟨k1,k2⟩ | ⟨rfl,rfl⟩
      · exact R1.esz o ob' p' k1 k2
      · exact hs
    · intro o ob' p' ho hp hlv
      rcases old ho hp with ⟨k1,k2⟩ | ⟨rfl,rfl⟩
      · exact (R1.obj o ob' p' k1 k2 hlv).mono q1
      · refine ⟨rfl,rows.ok,fun j v hj=>?_,fun hh=>(by cases hh),fun _=>?_,fun hh=>(by cases hh)⟩
        · obtain ⟨v',k1,k2⟩:=hcell j v hj
          exact ⟨v',k1,k2.mono q1⟩
        · cases hcs:css.flatten with
          | nil=>exact .inr hcs
          | cons c cs =>
            left
            obtain ⟨v',k1,k2⟩:=hcell 0 c (by rw [hcs]; rfl)
            have:=cell_block k1
            exact this
    · intro o o' ob1 ob2 p1' p2' ho ho' hp hp' _ _ hr hr' hne
      rcases old ho hp with ⟨k1,k2⟩ | ⟨rfl,rfl⟩
      · rcases old ho' hp' with ⟨k3,k4⟩ | ⟨rfl,rfl⟩
        · exact R1.apart o o' ob1 ob2 p1' p2' k1 k3 k2 k4 ‹_› ‹_› hr hr' hne
        · cases hr'
      · cases hr
  refine ⟨φ1++[pl],h1++[ob],[.slice (some ⟨h1.length,0,none⟩) xs.length xs.length],xs,h1.length :: Fs.flatten,p1.trans q1,p2.trans q2,R2,⟨?_,trivial⟩,⟨_,rfl,rfl,?_⟩,by omega,hok⟩
  · refine ⟨pl,cap,a,?_,rfl,by omega,by omega,by rw [hxl],?_⟩
    · rw [← lens]; simp
    · rcases hspot with h0 | h0
      · exact .inr ⟨by omega,h0⟩
      · exact .inl ⟨by cases a; simp at h0; simp [pl,h0],fun hh=>by cases hh⟩
  · refine ⟨ob,css,Fs,[],[],(by simp),rfl,(fun hh=>by cases hh),rfl,rfl,rows.frame fun o ho=>ext_pre q2 o (rows.lt o ho),(by simp [ob]),rfl⟩
structure OpnV (P:Program) (t:TypeId) (V:Hp→Value→Prop):Prop where
  mono:∀ {h h':Hp} {v:Value},h <+: h'→V h v→V h' v
  open_:∀ {H:Type} {enc:TypeId × Value→H} {W:World} {φ:Inj} {h:Hp} {r:Reach} {b0:Nat} {v:Value} {d:DataW H} {ps:List MemPlace},
    Rel P ⟨W.heap.size,[]⟩ W φ h W→Value.okWide P W r b0 t v→DataW.Trod enc P W 0 (fun _=>true) true t v d ps →
    ∃ φ' h' av,φ <+: φ'∧h <+: h'∧Rel P ⟨W.heap.size,[]⟩ W φ' h' W∧RelV φ' av v∧V h' av
def V1 {α:Type} (A:Enc α) (ok:α→Prop) (h:Hp) (av:Value):Prop:=∃ x F,A.R h x [av] F∧ok x
theorem V1_mono {α:Type} {A:Enc α} {ok:α→Prop} {h h':Hp} {v:Value} (p:h <+: h') (k:V1 A ok h v):V1 A ok h' v:=by
  obtain ⟨x,F,k1,k2⟩:=k
  exact ⟨x,F,A.frame k1 fun o ho=>ext_pre p o (A.lt k1 o ho),k2⟩
theorem opn1 {α:Type} {t:TypeId} {A:Enc α} {ok:α→Prop} (hA:Opn P t A ok) (hc:∀ {W:World} {r:Reach} {b0:Nat} {v:Value},Value.okWide P W r b0 t v→v.cells.toList=[v]):OpnV P t (V1 A ok) where
  mono:=V1_mono
  open_:=by
    intro H enc W φ h r b0 v d ps R hv hd
    obtain ⟨fuel,hd⟩:=hd
    obtain ⟨φ',h',acs,x,F,p1,p2,R',rel,rd,o⟩:=hA R hd
    rw [hc hv] at rel
    match acs,rel with
    | [av],rel=>exact ⟨φ',h',av,p1,p2,R',relV_of rel.1,x,F,rd,o⟩
    | [],rel=>exact rel.elim
    | _ :: _ :: _,rel=>exact rel.2.elim
theorem one_slice {t e:TypeId} (ht:P.underlying t=some (.slice e)):∀ {W:World} {r:Reach} {b0:Nat} {v:Value},Value.okWide P W r b0 t v→v.cells.toList=[v]:=by
  intro W r b0 v hv
  obtain ⟨a,n,c,rfl⟩:=Go.WideShapes.okWide_slice ht hv; rfl
theorem opn_all {H:Type} {enc:TypeId × Value→H} {W:World}:∀ {ts:List TypeId} {Vs:List (Hp→Value→Prop)} {vs:List Value} {ds:List (DataW H)} {ps:List MemPlace} {φ:Inj} {h:Hp},All2 (OpnV P) ts Vs →
    Rel P ⟨W.heap.size,[]⟩ W φ h W→DataW.TrodAll enc P W 0 (fun _=>true) true ts vs ds ps→(∀ (j:Nat) t v,ts[j]?=some t→vs[j]?=some v→∃ r b0,Value.okWide P W r b0 t v) →
    ds.length=ts.length∧∃ φ' h' avs,φ <+: φ'∧h <+: h'∧Rel P ⟨W.heap.size,[]⟩ W φ' h' W∧All2 (RelV φ') avs vs∧All2 (fun V av=>V h' av) Vs avs
  | [],[],[],[],ps,φ,h,_,R,_,_=>⟨rfl,φ,h,[],List.prefix_rfl,List.prefix_rfl,R,trivial,trivial⟩
  | t :: ts,V :: Vs,v :: vs,d :: ds,ps,φ,h,o,R,⟨p,q,hd,hds,_⟩,hv=>by
    obtain ⟨r,b0,hv0⟩:=hv 0 t v rfl rfl
    obtain ⟨φ1,h1,av,p1,p2,R1,k1,k2⟩:=o.1.open_ R hv0 hd
    obtain ⟨hl,φ2,h2,avs,q1,q2,R2,k3,k4⟩:=opn_all o.2 R1 hds fun j t v ht hv'=>hv (j+1) t v (by simpa using ht) (by simpa using hv')
    exact ⟨by simp [hl],φ2,h2,av :: avs,p1.trans q1,p2.trans q2,R2,⟨k1.mono q1,k3⟩,o.1.mono q2 k2,k4⟩
  | [],_ :: _,_,_,_,_,_,o,_,_,_=>o.elim
  | _ :: _,[],_,_,_,_,_,o,_,_,_=>o.elim
  | [],[],_ :: _,_,_,_,_,_,_,k,_=>by simp [DataW.TrodAll] at k
  | [],[],[],_ :: _,_,_,_,_,_,k,_=>by simp [DataW.TrodAll] at k
  | _ :: _,_ :: _,[],_,_,_,_,_,_,k,_=>by simp [DataW.TrodAll] at k
  | _ :: _,_ :: _,_ :: _,[],_,_,_,_,_,k,_=>by simp [DataW.TrodAll] at k
theorem trod_kept {H:Type} {enc:TypeId × Value→H} {W W':World} (hl:laidOutB P=true) (hb:Below W.heap.size W W'):∀ {ts:List TypeId} {vs:List Value} {ds:List (DataW H)} {ps:List MemPlace},
    (∀ t∈ts,P.readableRec t=true∧t<P.types.size)→DataW.TrodAll enc P W 0 (fun _=>true) true ts vs ds ps→(∀ x∈ps,x.block<W.heap.size) →
    DataW.TrodAll enc P W' 0 (fun b=>decide (b<W.heap.size)) true ts vs ds ps
  | [],[],[],_,_,k,_=>k
  | t :: ts,v :: vs,d :: ds,ps,hr,⟨p,q,hd,hds,e⟩,hlt=>by
    subst e
    exact ⟨p,q,Below.trod hl (hr t (by simp)).1 (hr t (by simp)).2 hd hb fun x hx=>hlt x (by simp [hx]),trod_kept hl hb (fun t ht=>hr t (by simp [ht])) hds fun x hx=>hlt x (by simp [hx]),rfl⟩
  | [],[],_ :: _,_,_,k,_=>by simp [DataW.TrodAll] at k
  | [],_ :: _,_,_,_,k,_=>by simp [DataW.TrodAll] at k
  | _ :: _,[],_,_,_,k,_=>by simp [DataW.TrodAll] at k
  | _ :: _,_ :: _,[],_,_,k,_=>by simp [DataW.TrodAll] at k
theorem ACall.calls {f:FuncId} {fn:Func} {c:Code} {avs:List Value} {h:Hp} {S:Value→Hp→Prop} (k:ACall P f avs h S) (hf:P.funcs[f]?=some fn) (hb:fn.body=some c) (hn:(fn.name == "runtime.NumGoroutine")=false)
    {B:Bd} {w0 w:World} {φ:Inj} {args:Array Value} (R:Rel P B w0 φ h w) (ha:All2 (RelV φ) avs args.toList) :
    Calls P f args w fun e w'=>∃ v',e=.returned v'∧∃ φ' v h',φ <+: φ'∧Rel P B w0 φ' h' w'∧RelV φ' v v'∧S v h':=by
  have hc:=k B w0 φ w args.toList R ha
  unfold CallsV at hc
  have hen:(callFunc f args.toList.toArray).run P w=.ok (.enter f args.toList.toArray) w:=by
    unfold callFunc
    simp only [Sem.run_bind,run_program,Result.andThen_ok,hf]
    simp [hn,hb]
  rw [hen] at hc
  exact hc
theorem law_calls {s:ChangeSpec} {f:FuncId} {fn:Func} {c:Code} {Vs:List (Hp→Value→Prop)} {tb:TypeId} (hf:P.funcs[f]?=some fn) (hb:fn.body=some c) (hn:(fn.name == "runtime.NumGoroutine")=false)
    (hl:laidOutB P=true) (ho:All2 (OpnV P) fn.params.toList Vs) (hread:fn.params.toList.all (fun t=>P.readableRec t && decide (t<P.types.size))=true) (hvars:s.vars=[]) (hres:fn.resultTypes=#[tb]) (htb:P.underlying tb=some .bool)
    (hspec:∀ (H:Type) (ds:List (DataW H)),ds.length=fn.params.toList.length→s.fn H ds={ results:=[.lit (.bool true)],args:=ds })
    (contract:∀ h avs,All2 (fun V av=>V h av) Vs avs→ACall P f avs h fun r _=>r=.bool true)
    {H:Type} {enc:TypeId × Value→H} {W:World} {base:Nat} {args:Array Value} {ds gs:List (DataW H)} {before:List MemPlace}
    (hval:∀ (j:Nat) t v,fn.params[j]?=some t→args[j]?=some v→Value.okWide P W .any base t v)
    (hW:DataW.Whole enc P fn.params.toList s.vars false W args.toList ds gs before) (htab:needTab P=false:=by kernel_rfl):Calls P f args W fun e W'=>∃ v,e=.returned v∧s.post enc P fn false true false false W args v W':=by
  have hW':=hW
  obtain ⟨p,q,hA,hV,rfl,hfz,hnd⟩:=hW
  rw [hvars] at hV
  obtain ⟨rfl,rfl⟩:=Go.ChangeShapes.trodVars_none hV
  have R0:Rel P ⟨W.heap.size,[]⟩ W [] [] W:=⟨Kept.refl _ _,⟨Nat.le_refl _,fun _ h=>(by cases h),fun hn=>(by rw [htab] at hn; cases hn)⟩,rfl,fun o ob p ho=>by simp at ho,fun o ob p ho=>by simp at ho,fun o o' ob ob' p p' ho=>by simp at ho⟩
  obtain ⟨hlen,φ,h,avs,_,_,R,k1,k2⟩:=opn_all ho R0 hA fun j t v ht hv=>⟨.any,base,hval j t v (by simpa using ht) (by simpa using hv)⟩
  refine ((contract h avs k2).calls hf hb hn R k1).mono fun e W' he=>?_
  obtain ⟨v',rfl,φ',v,h',_,R',rv,rfl⟩:=he
  have hv':v'=.bool true:=by simpa [RelV,RelV1,RelC,RelC0] using rv
  subst hv'
  have bel:Below W.heap.size W W':=R'.below.below
  refine ⟨_,rfl,ds,[],p++[],[],p,[],hW',?_,?_,?_,bel.frame _,fun hh=>by cases hh⟩
  · rw [List.append_nil,hspec H ds hlen,hres]
    exact Go.ChangeShapes.trodAll_mk1 (shut_bool htb _)
  · rw [List.append_nil,hspec H ds hlen]
    exact trod_kept hl bel (fun t ht=>by simpa using (List.all_eq_true.1 hread) t ht) hA fun x hx=>by simpa using hW'.lt x (by simpa using hx)
  · rw [List.append_nil,hspec H ds hlen,hvars]
    rfl
end
set_option maxRecDepth 20000
structure Ent where
  name:Str
  node:Int
  deriving DecidableEq
def Ent.nl (e:Ent):Nat:=e.name.length
def Ent.cs (e:Ent):List Value:=[.string (S e.name),.int .i64 e.node]
def Ent.v (e:Ent):Value:=.agg #[.string (S e.name),.int .i64 e.node]
def entE:Enc Ent:=flatE 2 Ent.cs (fun _=>rfl) (fun _=>rfl)
section
variable {h:Hp} {w:Bool} {t:TypeId} {es:List Ent} {a:Option Addr} {F:List Nat}
theorem entAt (k:slR w t entE h es a F) {i:Nat} (hi:i<es.length):∃ o off,a=some ⟨o,off,none⟩∧cellAt h o (off+i * 2)=some (.string (S es[i].name))∧cellAt h o (off+i * 2+1)=some (.int .i64 es[i].node):=by
  obtain ⟨o,off,c,Fi,rfl,⟨rfl,_⟩,-,hc⟩:=k.at_ (List.getElem?_eq_getElem hi)
  exact ⟨o,off,rfl,hc 0 (by decide),hc 1 (by decide)⟩
end
def dirFind:List Ent→Str→Int
  | [],_=>-1
  | e :: es,n=>if e.name=n then e.node else dirFind es n
theorem dirFind_drop (es:List Ent) (n:Str) (k:Nat) (hk:k<es.length):dirFind (es.drop k) n=if es[k].name=n then es[k].node else dirFind (es.drop (k+1)) n:=by
  rw [List.drop_eq_getElem_cons hk]; rfl
theorem dirFind_spec_c (es:List Ent) (name:Str) (a:Option Addr) (F:List Nat) (w:Bool) (t:TypeId) (h:Hp) (hr:slR w t entE h es a F) (hl:es.length≤1048576) :
    ACall Try.prog 100 [.slice a es.length es.length,.string (S name)] h fun r h'=>h'=h∧r=.int .i64 (dirFind es name):=by
  refine acall mixed Try.func100 rfl (by kernel_rfl) ?_
  simp [Try.f100]
  refine aloop mixed [0,1,5] (fun (k:Nat)=>[.slice a es.length es.length,.string (S name),.int .i64 k]) (fun _=>h) (fun k=>k≤es.length∧dirFind (es.drop k) name=dirFind es name) (fun k=>es.length - k) 0 ⟨by omega,by simp⟩ rfl rfl ?_
  rintro k ⟨hk,hd⟩
  simp [mkF]
  refine aSI (fun hb=>?_) (fun hb=>?_) <;> simp at hb <;> simp [hb]
  · obtain ⟨o,off,rfl,c0,c1⟩:=entAt hr hb
    rw [dirFind_drop es name k hb] at hd
    simp [hb,c0]
    refine aSI (fun hc=>?_) (fun hc=>?_) <;> simp at hc <;> simp [hc] at hd <;> simp [hc,hb,c1,hd]
    exact anext (k+1) ⟨hb,hd⟩ (by omega) (by simp [pickF,wS (show k<9223372036854775807 by omega)]) rfl (by simp)
  · obtain rfl:k=es.length:=by omega
    simpa [dirFind] using hd
theorem Own.locals {α:Type} {A:Enc α} {h l t:Hp} {e:TypeId} {xs:List α} {a:Option Addr} {F:List Nat} (k:Own (h++l) e A (h++l++t) xs a F) (l':Hp) (hl:l'.length=l.length):Own h e A (h++(l'++t)) xs a F where
  ext:=Ext.push _ _
  sl:=k.sl.frame fun q hq=>by
    have:=k.new q hq
    simp only [List.length_append] at this
    rw [← List.append_assoc,List.getElem?_append_right (by simp; omega),List.getElem?_append_right (by simp; omega)]
    simp [hl]
  nd:=k.nd
  new q hq:=by have:=k.new q hq; simp only [List.length_append] at this; omega
theorem cellAt_get {h h':Hp} {o:Nat} (e:h'[o]?=h[o]?) (i:Nat):cellAt h' o i=cellAt h o i:=by
  unfold cellAt; rw [e]
theorem ares_pair (P:Program) (r s:ResultVar) (tm:List Value) (h:Hp):aresults P [r,s] tm h=(aresult P tm h r).bind fun u=>(aresult P tm h s).bind fun v=>if (notTuple u && notTuple v)=true then some (.tuple #[u,v]) else none:=by
  unfold aresults
  simp only [List.mapM_cons,List.mapM_nil,Option.pure_def,Option.bind_eq_bind]
  cases aresult P tm h r with
  | none=>rfl
  | some u =>
    cases aresult P tm h s with
    | none=>rfl
    | some v=>simp
theorem ares_triple (P:Program) (r s q:ResultVar) (tm:List Value) (h:Hp):aresults P [r,s,q] tm h=(aresult P tm h r).bind fun u=>(aresult P tm h s).bind fun v=>(aresult P tm h q).bind fun x=>if (notTuple u && (notTuple v && notTuple x))=true then some (.tuple #[u,v,x]) else none:=by
  unfold aresults
  simp only [List.mapM_cons,List.mapM_nil,Option.pure_def,Option.bind_eq_bind]
  cases aresult P tm h r with
  | none=>rfl
  | some u =>
    cases aresult P tm h s with
    | none=>rfl
    | some v =>
      cases aresult P tm h q with
      | none=>rfl
      | some x=>simp
theorem ares_t (P:Program) (t:Tmp) (tm:List Value) (h:Hp):aresult P tm h (.tmp t)=some ((tm[t]?).getD undef):=rfl
theorem ares_c (P:Program) (a:Tmp) (t:TypeId) (tm:List Value) (h:Hp):aresult P tm h (.cell a t)=lev P h (ev tm) (.load t (.tmp a)):=rfl
attribute [simp] ares_pair ares_triple ares_t ares_c
theorem rep_zero (zs:List Value):Hz.rep 0 zs=[]:=rfl
theorem rep_succ (n:Nat) (zs:List Value):Hz.rep (n+1) zs=zs++Hz.rep n zs:=rfl
attribute [simp] rep_zero rep_succ
section
variable {P:Program} {α:Type} {h0 h:Hp} {e:TypeId} {A:Enc α} {xs ys:List α} {a:Option Addr} {F:List Nat}
theorem rowsR.mono {h h':Hp} (hx:Ext h h') {xs:List α} {css:List (List Value)} {Fs:List (List Nat)} (r:rowsR A h xs css Fs):rowsR A h' xs css Fs:=r.frame fun o ho=>hx.2 o (r.lt o ho)
theorem Own.append (k:Own h0 e A h xs a F) {st xt:TypeId} {x:Value} {css:List (List Value)} {Fs:List (List Nat)} {bt:Nat} {z:List Value} (hsrc:srcOf P h A.n xt x=some (css.flatten,ys.length)) (rows:rowsR A h ys css Fs)
    (hel:elOf P st=some (e,A.n,bt,z)) (hs1:xs.length+ys.length≤big) (hs2:(xs.length+ys.length) * bt≤big) (hn:Fs.flatten.Nodup) (hnew:∀ q∈Fs.flatten,h0.length≤q∧q ∉ F) :
    ∃ a' h' F',aappend P h st xt (.slice a xs.length xs.length) x=some (.slice a' (xs.length+ys.length) (xs.length+ys.length),h')∧Own h0 e A h' (xs++ys) a' F'∧(∀ q,q<h.length→q ∉ F→h'[q]?=h[q]?)∧h.length≤h'.length ∧
      (∀ q∈F',q∈F∨q∈Fs.flatten∨h.length≤q)∧(ys=[]→a'=a∧h'=h):=by
  by_cases hy:ys=[]
  · subst hy
    refine ⟨a,h,F,?_,by simpa using k,fun _ _ _=>rfl,Nat.le_refl _,fun q hq=>.inl hq,fun _=>⟨rfl,rfl⟩⟩
    cases a with
    | none=>obtain ⟨rfl,_⟩:=k.sl; simp [aappend,hel,hsrc]
    | some a=>simp [aappend,hel,hsrc]
  have hm:ys.length≠0:=fun hh=>hy (List.eq_nil_of_length_eq_zero hh)
  cases a with
  | none =>
    obtain ⟨rfl,rfl⟩:=k.sl
    simp only [List.length_nil,Nat.zero_add] at hs1 hs2
    refine ⟨some ⟨h.length,0,none⟩,h++[⟨true,true,e,css.flatten⟩],h.length :: Fs.flatten,?_,?_,fun q hq _=>List.getElem?_append_left hq,by simp,?_,fun hh=>absurd hh hy⟩
    · simp [aappend,hel,hsrc,hm,hs1,hs2]
    · exact Own.lit k.ext rows hn fun q hq=>(hnew q hq).1
    · intro q hq
      rcases List.mem_cons.1 hq with rfl | hq
      · exact .inr (.inr (Nat.le_refl _))
      · exact .inr (.inl hq)
  | some ad =>
    have kk:=k
    obtain ⟨e0,⟨hsp,ob,cs0,F0,pre,post,g1,g2,g3,g4,rfl,g5,g6,g7⟩,nd,new⟩:=k
    have hrw:=g3 rfl
    obtain ⟨o,off,sp⟩:=ad
    simp only at hsp g1 g7
    subst hsp
    have hlen:=g5.len.2.2
    obtain ⟨cs1,hc1,hc2,css1,Fs1,rfl,hc4,hc5⟩:=kk.sl.cells
    have hkl:(kill h o).length=h.length:=kill_len h o
    have hkill:∀ q,q≠o→(kill h o)[q]?=h[q]?:=fun q hq=>by rw [kill_get,if_neg (by omega)]
    have hoF:∀ {l:List (List Nat)},(o :: l.flatten).Nodup→∀ q∈l.flatten,q≠o:=fun hn q hq hh=>(List.nodup_cons.1 hn).1 (hh ▸ hq)
    have nd1:=nd
    simp only at hc5
    rw [hc5] at nd1
    have hflat:Fs1.flatten=F0.flatten:=by simpa using hc5.symm
    have r1:rowsR A (kill h o) xs css1 Fs1:=hc4.frame fun q hq=>hkill q (hoF nd1 q hq)
    have r2:rowsR A (kill h o) ys css Fs:=rows.frame fun q hq=>hkill q fun hh=>(hnew q hq).2 (by simp [hh])
    have hext:Ext h0 (kill h o):=e0.kill (new o (by simp))
    refine ⟨some ⟨h.length,0,none⟩,kill h o++[⟨true,true,e,css1.flatten++css.flatten⟩],h.length :: (Fs1++Fs).flatten,?_,?_,?_,by simp [hkl],?_,fun hh=>absurd hh hy⟩
    · have hcan:cS_ h o off 0=true:=by
        have:off≤ob.cells.length:=by rw [g6,← g7]; simp
        simp [cS_,g1,g2,hrw,this]
      have hel2:elAt h o=some e:=by simp [elAt,g1,g4]
      have hnot:¬ (xs.length+ys.length≤xs.length):=by omega
      have:(if ys.length=0 then some (Value.slice (some ⟨o,off,none⟩) xs.length xs.length,h) else if elAt h o≠some e then none else if xs.length+ys.length≤xs.length then (if cS_ h o (off+xs.length * A.n) (ys.length * A.n) then some (Value.slice (some ⟨o,off,none⟩) (xs.length+ys.length) xs.length,sA_ h o (off+xs.length * A.n) css.flatten) else none) else if xs.length+ys.length≤big∧(xs.length+ys.length) * bt≤big∧cS_ h o off 0 then (cellsAt h o off (xs.length * A.n)).map fun old=>(Value.slice (some ⟨h.length,0,none⟩) (xs.length+ys.length) (xs.length+ys.length),kill h o++[⟨true,true,e,old++css.flatten⟩]) else none)=some (Value.slice (some ⟨h.length,0,none⟩) (xs.length+ys.length) (xs.length+ys.length),kill h o++[⟨true,true,e,css1.flatten++css.flatten⟩]):=by
        rw [if_neg hm,if_neg (by simp [hel2]),if_neg hnot,if_pos ⟨hs1,hs2,hcan⟩,hc1]
        rfl
      simp only [aappend,hel,hsrc,Option.bind_some]
      exact this
    · have:=Own.lit (e:=e) hext (rowsR.append r1 r2) (by
        rw [List.flatten_append,List.nodup_append]
        refine ⟨(List.nodup_cons.1 nd1).2,hn,fun x hx y hy=>?_⟩
        rintro rfl
        exact (hnew x hy).2 (by rw [hflat] at hx; simp only [List.mem_cons]; exact .inr hx)) (fun q hq=>by
        rw [List.flatten_append] at hq
        rcases List.mem_append.1 hq with hq | hq
        · exact new q (by rw [hflat] at hq; simp only [List.mem_cons]; exact .inr hq)
        · exact (hnew q hq).1)
      rw [hkl] at this
      rw [← List.flatten_append]
      exact this
    · intro q hq hqF
      rw [List.getElem?_append_left (by omega)]
      exact hkill q fun hh=>hqF (by simp [hh])
    · intro q hq
      rcases List.mem_cons.1 hq with rfl | hq
      · exact .inr (.inr (Nat.le_refl _))
      · rw [List.flatten_append] at hq
        rcases List.mem_append.1 hq with hq | hq
        · exact .inl (by rw [hflat] at hq; simp only [List.mem_cons]; exact .inr hq)
        · exact .inr (.inl hq)
theorem flat_nil:∀ {Fs:List (List Nat)},(∀ F∈Fs,F=[])→Fs.flatten=[]
  | [],_=>rfl
  | F :: Fs,k=>by rw [List.flatten_cons,k F (by simp),flat_nil fun G hG=>k G (by simp [hG])]; rfl
theorem rowsR.flat {n:Nat} {f:α→List Value} {hn:∀ x,(f x).length=n} {hok:∀ x,(f x).all okCell=true}:∀ {xs:List α} {css:List (List Value)} {Fs:List (List Nat)},rowsR (flatE n f hn hok) h xs css Fs→css=xs.map f∧∀ F∈Fs,F=[]
  | [],[],[],_=>⟨rfl,by simp⟩
  | x :: xs,c :: cs,F :: Fs,k=>by
    obtain ⟨h1,h2⟩:=rowsR.flat k.2
    obtain ⟨rfl,rfl⟩:=k.1
    exact ⟨by rw [h1]; rfl,fun G hG=>by
      rcases List.mem_cons.1 hG with rfl | hG
      · rfl
      · exact h2 G hG⟩
  | [],[],_ :: _,k=>k.elim
  | [],_ :: _,_,k=>k.elim
  | _ :: _,[],_,k=>k.elim
  | _ :: _,_ :: _,[],k=>k.elim
theorem rowsR.mkFlat {n:Nat} {f:α→List Value} {hn:∀ x,(f x).length=n} {hok:∀ x,(f x).all okCell=true}:∀ (xs:List α),rowsR (flatE n f hn hok) h xs (xs.map f) (List.replicate xs.length [])
  | []=>trivial
  | _ :: xs=>⟨⟨rfl,rfl⟩,rowsR.mkFlat xs⟩
end
section
variable {P:Program} {α:Type} {h0 h:Hp} {e e':TypeId} {xs ys:List α} {a b:Option Addr} {F G:List Nat} {n:Nat} {f:α→List Value} {hn:∀ x,(f x).length=n} {hok:∀ x,(f x).all okCell=true}
theorem Own.appendSl (k:Own h0 e (flatE n f hn hok) h xs a F) {w:Bool} (hy:slR w e' (flatE n f hn hok) h ys b G) {st xt:TypeId} {bt:Nat} {z:List Value} (hx:isSlice P xt=true) (hel:elOf P st=some (e,n,bt,z)) (hs1:xs.length+ys.length≤big) (hs2:(xs.length+ys.length) * bt≤big) :
    ∃ a' h' F',aappend P h st xt (.slice a xs.length xs.length) (.slice b ys.length ys.length)=some (.slice a' (xs.length+ys.length) (xs.length+ys.length),h')∧Own h0 e (flatE n f hn hok) h' (xs++ys) a' F'∧(∀ q,q<h.length→q ∉ F→h'[q]?=h[q]?)∧h.length≤h'.length:=by
  cases b with
  | none =>
    obtain ⟨rfl,rfl⟩:=hy
    obtain ⟨a',h',F',h1,h2,h3,h4,_⟩:=k.append (P:=P) (st:=st) (xt:=xt) (x:=.slice none 0 0) (css:=[]) (Fs:=[]) (ys:=[]) (by simp [srcOf,hx]) trivial hel hs1 hs2 (by simp) (by simp)
    exact ⟨a',h',F',h1,h2,h3,h4⟩
  | some b =>
    obtain ⟨o,off,sp⟩:=b
    obtain rfl:sp=none:=hy.1
    obtain ⟨cs,h1,h2,css,Fs,rfl,h4,_⟩:=hy.cells
    have hF:=flat_nil h4.flat.2
    obtain ⟨a',h',F',h1,h2,h3,h4,_⟩:=k.append (P:=P) (st:=st) (xt:=xt) (x:=.slice (some ⟨o,off,none⟩) ys.length ys.length) (css:=css) (Fs:=Fs) (ys:=ys) (by
      have h1':cellsAt h o off (ys.length * n)=some css.flatten:=h1
      show srcOf P h n xt _=_
      simp [srcOf,hx,h1']) h4 hel hs1 hs2 (by rw [hF]; simp) (by rw [hF]; simp)
    exact ⟨a',h',F',h1,h2,h3,h4⟩
end
section
variable {P:Program} {h0 h:Hp} {e:TypeId} {xs ys:Str} {a:Option Addr} {F:List Nat}
theorem bytes_flat:∀ (ys:Str),(ys.map fun b=>[Value.int .u8 b.toNat]).flatten=ys.map fun b=>Value.int .u8 b.toNat
  | []=>rfl
  | b :: bs=>by rw [List.map_cons,List.flatten_cons,bytes_flat bs]; rfl
theorem lev_cvBS {w:Bool} (k:slR w e byteE h xs a F) (ρ:Operand→Value) (s d:TypeId) (x:Operand) (hx:ρ x=.slice a xs.length xs.length) (h1:strOf P d=true) (h2:(elemOf P s).bind (intOf' P)=some .u8):lev P h ρ (.convert s d x)=some (.string (S xs)):=by
  cases a with
  | none =>
    obtain ⟨rfl,_⟩:=k
    simp only [lev,hx,h1,h2]
    rfl
  | some ad =>
    obtain ⟨o,off,sp⟩:=ad
    obtain rfl:sp=none:=k.1
    obtain ⟨cs,g1,g2,css,Fs,rfl,g4,_⟩:=k.cells
    obtain ⟨rfl,_⟩:=g4.flat
    have hfl:=bytes_flat xs
    have g1':cellsAt h o off xs.length=some (xs.map fun b=>Value.int .u8 b.toNat):=by
      rw [← hfl]
      have:byteE.n=1:=rfl
      rw [this,Nat.mul_one] at g1
      exact g1
    simp only [lev,hx,h1,h2,g1']
    simp [strL_map]
end
section
variable {P:Program} {α:Type} {h0 h:Hp} {e:TypeId} {xs:List α} {a:Option Addr} {F:List Nat} {n:Nat} {f:α→List Value} {hn:∀ x,(f x).length=n} {hok:∀ x,(f x).all okCell=true}
theorem Own.append1 (k:Own h0 e (flatE n f hn hok) h xs a F) (x:α) {cs:List Value} (hx:cs=f x) {st xt:TypeId} {bt:Nat} {z:List Value} (hsl:isSlice P xt=true) (hel:elOf P st=some (e,n,bt,z)) (hs1:xs.length+1≤big) (hs2:(xs.length+1) * bt≤big) :
    ∃ a' h' F',aappend P (h++[⟨true,true,e,cs⟩]) st xt (.slice a xs.length xs.length) (.slice (some ⟨h.length,0,none⟩) 1 1)=some (.slice a' (xs.length+1) (xs.length+1),h')∧Own h0 e (flatE n f hn hok) h' (xs++[x]) a' F':=by
  subst hx
  have hl:slR true e (flatE n f hn hok) (h++[⟨true,true,e,f x⟩]) [x] (some ⟨h.length,0,none⟩) [h.length]:=by
    have:=(Own.lit (h0:=h) (h:=h) (e:=e) (A:=flatE n f hn hok) (xs:=[x]) (css:=[f x]) (Fs:=[[]]) (Ext.refl h) ⟨⟨rfl,rfl⟩,trivial⟩ (by simp) (by simp)).sl
    simpa using this
  obtain ⟨a',h',F',h1,h2,_,_⟩:=(k.grow (Ext.push h _)).appendSl hl hsl hel hs1 hs2
  exact ⟨a',h',F',h1,h2⟩
end
theorem ACall.conv {P:Program} {f:FuncId} {avs avs':List Value} {h:Hp} {R:Value→Hp→Prop} (k:ACall P f avs h R) (hc:∀ φ vs,All2 (RelV φ) avs' vs→All2 (RelV φ) avs vs):ACall P f avs' h R :=
  fun B w0 φ w args r ha=>k B w0 φ w args r (hc _ _ ha)
theorem relV_cap {φ:Inj} {a:Option Addr} {n c:Nat} {v:Value} (hc:n≤c) (r:RelV φ (.slice a n c) v):RelV φ (.slice a n n) v:=by
  cases a with
  | none=>obtain ⟨rfl,rfl,rfl⟩:=r; exact relV_of ⟨rfl,rfl,rfl⟩
  | some a =>
    obtain ⟨p,c',a',h1,h2,h3,h4,h5,h6⟩:=r
    exact relV_of ⟨p,c',a',h1,h2,h4,h4,h5,h6⟩
theorem ACall.cap {P:Program} {f:FuncId} {a:Option Addr} {n c:Nat} {avs:List Value} {h:Hp} {R:Value→Hp→Prop} (k:ACall P f (.slice a n n :: avs) h R) (hc:n≤c):ACall P f (.slice a n c :: avs) h R :=
  k.conv fun _ _ r=>by
    obtain ⟨v,vs,rfl,h1,h2⟩:=All2.cons_iff.1 r
    exact ⟨relV_cap hc h1,h2⟩
section
variable {α:Type} {A:Enc α} {h:Hp} {w:Bool} {e:TypeId}
theorem rowsR.take:∀ {xs:List α} {css:List (List Value)} {Fs:List (List Nat)} (_:rowsR A h xs css Fs) (k:Nat),rowsR A h (xs.take k) (css.take k) (Fs.take k)
  | [],[],[],_,k=>by simp [rowsR]
  | _ :: _,_ :: _,_ :: _,_,0=>trivial
  | x :: xs,c :: cs,F :: Fs,k,n+1=>⟨k.1,rowsR.take k.2 n⟩
  | [],[],_ :: _,k,_=>k.elim
  | [],_ :: _,_,k,_=>k.elim
  | _ :: _,[],_,k,_=>k.elim
  | _ :: _,_ :: _,[],k,_=>k.elim
theorem rowsR.drop:∀ {xs:List α} {css:List (List Value)} {Fs:List (List Nat)} (_:rowsR A h xs css Fs) (k:Nat),rowsR A h (xs.drop k) (css.drop k) (Fs.drop k)
  | [],[],[],_,k=>by simp [rowsR]
  | _ :: _,_ :: _,_ :: _,k,0=>k
  | x :: xs,c :: cs,F :: Fs,k,n+1=>rowsR.drop k.2 n
  | [],[],_ :: _,k,_=>k.elim
  | [],_ :: _,_,k,_=>k.elim
  | _ :: _,[],_,k,_=>k.elim
  | _ :: _,_ :: _,[],k,_=>k.elim
theorem slR.part {xs:List α} {o off:Nat} {F:List Nat} (k:slR w e A h xs (some ⟨o,off,none⟩) F) (i j:Nat) (hij:i≤j) (hj:j≤xs.length) :
    ∃ F',slR w e A h ((xs.take j).drop i) (some ⟨o,off+i * A.n,none⟩) F'∧∀ q∈F',q∈F:=by
  obtain ⟨_,ob,css,Fs,pre,post,g1,g2,g3,g4,rfl,g5,g6,g7⟩:=k
  simp only at g1 g7
  have r1:=(g5.take j).drop i
  have e1:css.flatten=((css.take j).take i).flatten++(((css.take j).drop i).flatten++(css.drop j).flatten):=by
    rw [← List.append_assoc,← List.flatten_append,List.take_append_drop,← List.flatten_append,List.take_append_drop]
  have l1:((css.take j).take i).flatten.length=i * A.n:=by
    have:=((g5.take j).take i).len.2.2
    rw [this]
    congr 1
    simp
    omega
  refine ⟨o :: ((Fs.take j).drop i).flatten,⟨rfl,ob,(css.take j).drop i,(Fs.take j).drop i,pre++((css.take j).take i).flatten,(css.drop j).flatten++post,g1,g2,g3,g4,rfl,r1,?_,?_⟩,?_⟩
  · rw [g6,e1]; simp only [List.append_assoc]
  · simp only [List.length_append,l1,g7]
  · intro q hq
    rcases List.mem_cons.1 hq with rfl | hq
    · exact List.mem_cons_self
    · simp only [List.mem_cons]
      right
      obtain ⟨G,hG,hq⟩:=List.mem_flatten.1 hq
      exact List.mem_flatten.2 ⟨G,List.mem_of_mem_take (List.mem_of_mem_drop hG),hq⟩
theorem asl2_j {P:Program} (t:TypeId) (o off n c:Nat) (k:IntKind) (j:Int):asl2 P h t (.slice (some ⟨o,off,none⟩) n c) none (some (.int k j)) none=(elemOf P t).bind fun e=>(szOf P e).bind fun sz=>if elAt h o=some e then (if 0≤j∧j≤(max n c:Nat) then some (.slice (some ⟨o,off,none⟩) j.toNat (max n c)) else none) else none:=by
  unfold asl2
  simp only [bound,Option.bind_some]
  cases elemOf P t with
  | none=>rfl
  | some e =>
    simp only [Option.bind_some]
    cases szOf P e with
    | none=>rfl
    | some sz =>
      simp
theorem asl2_i {P:Program} (t:TypeId) (o off n c:Nat) (k:IntKind) (i:Int):asl2 P h t (.slice (some ⟨o,off,none⟩) n c) (some (.int k i)) none none=(elemOf P t).bind fun e=>(szOf P e).bind fun sz=>if elAt h o=some e then (if 0≤i∧i≤n then some (.slice (some ⟨o,off+i.toNat * sz,none⟩) (n - i.toNat) (max n c - i.toNat)) else none) else none:=by
  unfold asl2
  simp only [bound,Option.bind_some]
  cases elemOf P t with
  | none=>rfl
  | some e =>
    simp only [Option.bind_some]
    cases szOf P e with
    | none=>rfl
    | some sz =>
      simp only [Option.bind_some]
      by_cases he:elAt h o=some e
      · simp only [he,if_true]
        by_cases hc:0≤i∧i≤(n:Int)
        · rw [if_pos hc,if_pos ⟨hc.1,hc.2,by omega⟩]; simp
        · rw [if_neg hc,if_neg (by omega)]
      · simp [he]
theorem asl2_ij {P:Program} (t:TypeId) (o off n c:Nat) (k k':IntKind) (i j:Int):asl2 P h t (.slice (some ⟨o,off,none⟩) n c) (some (.int k i)) (some (.int k' j)) none=(elemOf P t).bind fun e=>(szOf P e).bind fun sz=>if elAt h o=some e then (if 0≤i∧i≤j∧j≤(max n c:Nat) then some (.slice (some ⟨o,off+i.toNat * sz,none⟩) (j.toNat - i.toNat) (max n c - i.toNat)) else none) else none:=by
  unfold asl2
  simp only [bound,Option.bind_some]
end
structure OwnE {α:Type} (h0:Hp) (A:Enc α) (h:Hp) (x:α) (cs:List Value) (F:List Nat):Prop where
  ext:Ext h0 h
  r:A.R h x cs F
  nd:F.Nodup
  new:∀ q∈F,h0.length≤q
section
variable {α:Type} {A:Enc α} {h0 h h':Hp} {e:TypeId} {x:α} {xs:List α} {cs:List Value} {a:Option Addr} {F F':List Nat}
theorem OwnE.grow (k:OwnE h0 A h x cs F) (hx:Ext h h'):OwnE h0 A h' x cs F:=⟨k.ext.trans hx,A.frame k.r fun o ho=>hx.2 o (A.lt k.r o ho),k.nd,k.new⟩
theorem OwnE.of_new (e0:Ext h0 h) (k:OwnE h A h' x cs F):OwnE h0 A h' x cs F:=⟨e0.trans k.ext,k.r,k.nd,fun q hq=>Nat.le_trans e0.1 (k.new q hq)⟩
theorem OwnE.own (k:OwnE h0 (slE true e A) h xs cs F):∃ a,cs=[.slice a xs.length xs.length]∧Own h0 e A h xs a F:=by
  obtain ⟨a,rfl,r⟩:=k.r
  exact ⟨a,rfl,k.ext,r,k.nd,k.new⟩
theorem OwnE.flat {n:Nat} {f:α→List Value} {hn:∀ x,(f x).length=n} {hok:∀ x,(f x).all okCell=true} (hx:Ext h0 h):OwnE h0 (flatE n f hn hok) h x (f x) []:=⟨hx,⟨rfl,rfl⟩,List.nodup_nil,fun q hq=>by cases hq⟩
theorem Own.putE {o off:Nat} (k:Own h0 e A h xs (some ⟨o,off,none⟩) F) {i:Nat} (hi:i<xs.length) (c:OwnE h A h' x cs F') :
    cS_ h' o (off+i * A.n) A.n=true∧∃ F'',Own h0 e A (sA_ h' o (off+i * A.n) cs) (xs.set i x) (some ⟨o,off,none⟩) F'':=by
  have k':=k.grow c.ext
  have hl:=A.len c.r
  obtain ⟨c0,Fi,hR,hFi,_,hput⟩:=k'.put (List.getElem?_eq_getElem hi)
  have hn:∀ q∈F',h.length≤q:=c.new
  have h00:=k.ext.1
  have hoF:o∈F:=by
    obtain ⟨_,ob,css,Fs,pre,post,g1,g2,g3,g4,rfl,_⟩:=k.sl
    exact List.mem_cons_self
  have hol:=k.sl.lt o hoF
  have hset:setL c0 0 cs=cs:=setL_all cs c0 (by rw [hl,A.len hR])
  obtain ⟨g1,F'',g2,g3,g4⟩:=hput 0 cs x F' (by omega) (by rw [hset]; exact c.r) (fun hm=>by have:=hn _ hm; omega) c.nd (fun q hq=>⟨by have:=hn q hq; omega,fun hF=>by have:=hn q hq; have:=k.sl.lt q hF; omega⟩)
  simp only [Nat.add_zero,hl] at g1 g2
  exact ⟨g1,F'',g2⟩
theorem OwnE.locals {l t:Hp} (k:OwnE (h++l) A (h++l++t) x cs F) (l':Hp) (hl:l'.length=l.length):OwnE h A (h++(l'++t)) x cs F where
  ext:=Ext.push _ _
  r:=A.frame k.r fun q hq=>by
    have:=k.new q hq
    simp only [List.length_append] at this
    rw [← List.append_assoc,List.getElem?_append_right (by simp; omega),List.getElem?_append_right (by simp; omega)]
    simp [hl]
  nd:=k.nd
  new q hq:=by have:=k.new q hq; simp only [List.length_append] at this; omega
theorem slR.pre {w:Bool} (k:slR w e A h xs a F) (q:h <+: h'):slR w e A h' xs a F:=k.frame fun o ho=>by
  obtain ⟨t,rfl⟩:=q
  exact List.getElem?_append_left (k.lt o ho)
theorem slR.to {w:Bool} (k:slR w e A h xs a F) (q:∃ l,h'=h++l):slR w e A h' xs a F:=by
  obtain ⟨l,rfl⟩:=q
  exact k.ext (Ext.push _ l)
theorem Enc.to (k:A.R h x cs F) (q:∃ l,h'=h++l):A.R h' x cs F:=by
  obtain ⟨l,rfl⟩:=q
  exact A.frame k fun o ho=>List.getElem?_append_left (A.lt k o ho)
theorem slR.more {w:Bool} {t:Hp} (k:slR w e A (h++t) xs a F) (l:Hp):slR w e A (h++(t++l)) xs a F:=by
  rw [← List.append_assoc]
  exact k.ext (Ext.push _ l)
theorem get_late {l l' u t:Hp} {q:Nat} (h1:h.length+l.length≤q) (h2:q<(h++(l++u)).length) (hl:l'.length=l.length):(h++(l'++(u++t)))[q]?=(h++(l++u))[q]?:=by
  simp only [List.length_append] at h2
  have e1:(h++(l'++(u++t)))[q]?=(u++t)[q - h.length - l'.length]?:=by rw [List.getElem?_append_right (show h.length≤q by omega),List.getElem?_append_right (show l'.length≤q - h.length by omega)]
  have e2:(h++(l++u))[q]?=u[q - h.length - l.length]?:=by rw [List.getElem?_append_right (show h.length≤q by omega),List.getElem?_append_right (show l.length≤q - h.length by omega)]
  rw [e1,e2,hl,List.getElem?_append_left (by omega)]
theorem slR.late {w:Bool} {l l' u t:Hp} (k:slR w e A (h++(l++u)) xs a F) (hn:∀ q∈F,h.length+l.length≤q) (hl:l'.length=l.length):slR w e A (h++(l'++(u++t))) xs a F :=
  k.frame fun q hq=>get_late (hn q hq) (k.lt q hq) hl
end
theorem ACall.weakRes {P:Program} {f:FuncId} {avs:List Value} {h:Hp} {R R2:Value→Hp→Prop} (k:ACall P f avs h R) (hw:∀ v h',R v h'→∃ v2,(∀ φ u,RelV φ v u→RelV φ v2 u)∧R2 v2 h'):ACall P f avs h R2:=by
  intro B w0 φ w args r ha
  have:=k B w0 φ w args r ha
  unfold CallsV at this ⊢
  split at this
  · rename_i g bs w1 _
    refine this.mono ?_
    rintro e w2 ⟨v,rfl,φ',v1,h',p1,p2,p3,p4⟩
    obtain ⟨v2,q1,q2⟩:=hw _ _ p4
    exact ⟨v,rfl,φ',v2,h',p1,p2,q1 _ _ p3,q2⟩
  · obtain ⟨φ',v1,h',p1,p2,p3,p4⟩:=this
    obtain ⟨v2,q1,q2⟩:=hw _ _ p4
    exact ⟨φ',v2,h',p1,p2,q1 _ _ p3,q2⟩
  · exact this.elim
section
variable {α:Type} {n:Nat} {f:α→List Value} {hn:∀ x,(f x).length=n} {hok:∀ x,(f x).all okCell=true} {h0 h:Hp} {e:TypeId} {xs ys:List α} {F:List Nat} {o off:Nat}
theorem Own.flatF (k:Own h0 e (flatE n f hn hok) h xs (some ⟨o,off,none⟩) F):F=[o]:=by
  obtain ⟨_,ob,css,Fs,pre,post,g1,g2,g3,g4,rfl,g5,g6,g7⟩:=k.sl
  rw [flat_nil g5.flat.2]
theorem Own.to {β:Type} {A:Enc β} {zs:List β} {a:Option Addr} {h':Hp} (k:Own h0 e A h zs a F) (q:∃ l,h'=h++l):Own h0 e A h' zs a F:=by
  obtain ⟨l,rfl⟩:=q
  exact k.grow (Ext.push _ l)
theorem Own.any {β:Type} {A:Enc β} {zs:List β} {a:Option Addr} (sl:slR true e A h zs a F) (nd:F.Nodup):Own [] e A h zs a F :=
  ⟨⟨Nat.zero_le _,fun _ hq=>by simp at hq⟩,sl,nd,fun _ _=>Nat.zero_le _⟩
theorem Own.part (k:Own h0 e (flatE n f hn hok) h xs (some ⟨o,off,none⟩) F) (j:Nat) (hj:j≤xs.length):Own h0 e (flatE n f hn hok) h (xs.take j) (some ⟨o,off,none⟩) F:=by
  have hF:=k.flatF
  obtain ⟨F',hp,hq⟩:=k.sl.part 0 j (by omega) hj
  simp only [List.drop_zero,Nat.zero_mul,Nat.add_zero] at hp
  have k2:Own h0 e (flatE n f hn hok) h (xs.take j) (some ⟨o,off,none⟩) [o]:=by
    obtain ⟨g0,ob,css,Fs,pre,post,g1,g2,g3,g4,g5,g6,g7,g8⟩:=hp
    refine ⟨k.ext,⟨g0,ob,css,Fs,pre,post,g1,g2,g3,g4,?_,g6,g7,g8⟩,by simp,fun q hq=>k.new q (by rw [hF]; exact hq)⟩
    rw [flat_nil g6.flat.2]
  rw [hF]
  exact k2
end
def numB (n:Nat):Str :=
  if n<128 then [UInt8.ofNat n] else UInt8.ofNat (n % 128+128) :: numB (n / 128)
  termination_by n
  decreasing_by omega
theorem numB_lt {n:Nat} (h:n<128):numB n=[UInt8.ofNat n]:=by rw [numB,if_pos h]
theorem numB_ge {n:Nat} (h:¬ n<128):numB n=UInt8.ofNat (n % 128+128) :: numB (n / 128):=by rw [numB,if_neg h]
theorem numB_len:∀ (k n:Nat),n<128 ^ (k+1)→(numB n).length≤k+1
  | 0,n,h=>by rw [numB_lt (by simpa using h)]; simp
  | k+1,n,h=>by
    by_cases hn:n<128
    · rw [numB_lt hn]; simp
    · rw [numB_ge hn]
      have:n / 128<128 ^ (k+1):=by
        rw [Nat.div_lt_iff_lt_mul (by decide)]
        rw [Nat.pow_succ] at h
        exact h
      have:=numB_len k _ this
      simp only [List.length_cons]; omega
def putNum (n:Int):Str:=if 0≤n∧n≤2147483647 then numB n.toNat else []
def putText (s:Str):Str:=putNum s.length++s
theorem putNum_len (n:Int):(putNum n).length≤5:=by
  unfold putNum
  split
  · exact numB_len 4 _ (by omega)
  · simp
theorem within_spec_c (n lo hi:Int) (h:Hp):ACall Try.prog 43 [.int .i64 n,.int .i64 lo,.int .i64 hi] h fun r h'=>r=.bool (decide (lo≤n∧n≤hi))∧h'=h:=by
  refine acall mixed Try.func43 rfl (by kernel_rfl) ?_
  by_cases h1:lo≤n <;> by_cases h2:n≤hi <;> simp [Try.f43,h1,h2]
theorem within_c (n lo hi:Int) (h:Hp):ACall Try.prog 59 [.int .i64 n,.int .i64 lo,.int .i64 hi] h fun r h'=>r=.bool (decide (lo≤n∧n≤hi))∧h'=h:=by
  refine acall mixed Try.func59 rfl (by kernel_rfl) ?_
  by_cases h1:lo≤n <;> by_cases h2:n≤hi <;> simp [Try.f59,h1,h2]
theorem empty1 {α:Type} (A:Enc α) (h:Hp) (e:TypeId):Own h e A (h++[⟨true,true,e,[]⟩]) [] (some ⟨h.length,0,none⟩) [h.length] :=
  Own.lit (h0:=h) (h:=h) (e:=e) (A:=A) (xs:=[]) (css:=[]) (Fs:=[]) (Ext.refl h) trivial (by simp) (by simp)
theorem u8_ofNat {k:Nat} (h:k<256):((UInt8.ofNat k).toNat:Int)=k:=by
  simp; omega
theorem putNum_spec_c (n:Int) (h:Hp):ACall Try.prog 56 [.int .i64 n] h fun r h'=>∃ a F,r=.slice a (putNum n).length (putNum n).length∧Own h 5 byteE h' (putNum n) a F:=by
  refine acall mixed Try.func56 rfl (by kernel_rfl) ?_
  simp [Try.f56]
  refine cK (within_spec_c n 0 2147483647 _) ?_
  rintro _ _ ⟨rfl,rfl⟩
  have own0:=empty1 byteE h 5
  by_cases hr:0≤n∧n≤2147483647
  · obtain ⟨m,rfl⟩:=Int.eq_ofNat_of_zero_le hr.1
    have hm:m≤2147483647:=by omega
    have hm':(m:Int)≤2147483647:=by omega
    have hp:putNum (m:Int)=numB m:=by unfold putNum; rw [if_pos hr]; rfl
    rw [hp]
    simp [hm']
    refine aloop mixed [0,3] (fun (x:Nat × Str × Option Addr × Hp)=>[.int .i64 x.1,.slice x.2.2.1 x.2.1.length x.2.1.length]) (fun x=>x.2.2.2)
      (fun x=>x.1≤2147483647∧x.2.1++numB x.1=numB m∧∃ F,Own h 5 byteE x.2.2.2 x.2.1 x.2.2.1 F) (fun x=>x.1) (m,[],some ⟨h.length,0,none⟩,_) ⟨hm,rfl,_,own0⟩ rfl rfl ?_
    rintro ⟨m',out,a,H⟩ ⟨hm2,he,F,own⟩
    simp only at hm2 he own
    simp [mkF]
    refine aSI (fun hb=>?_) (fun hb=>?_) <;> simp at hb <;> simp [hb]
    · have hv:IntKind.u8.wrap (IntKind.i64.wrap ((m':Int).tmod 128+128))=((UInt8.ofNat (m' % 128+128)).toNat:Int):=by
        rw [Int.tmod_eq_emod_of_nonneg (by omega),wrap_in (by omega) (by omega),wrap_u8 (by omega) (by omega),u8_ofNat (by omega)]; omega
      have hol:out.length≤5:=by have:=numB_len 4 m (by omega); rw [← he] at this; simp at this; omega
      obtain ⟨a',H',F',eq,own'⟩:=own.append1 (P:=Try.prog) (UInt8.ofNat (m' % 128+128)) (cs:=[.int .u8 (IntKind.u8.wrap (IntKind.i64.wrap ((m':Int).tmod 128+128)))]) (by rw [hv]) (st:=34) (xt:=34) (bt:=1) (z:=[.int .u8 0]) (by simp) (by simp) (by unfold big; omega) (by unfold big; omega)
      simp [eq]
      have hw:IntKind.i64.wrap ((m':Int) / 128)=(m':Int) / 128:=wrap_in (by omega) (by omega)
      refine anext (m' / 128,out++[UInt8.ofNat (m' % 128+128)],a',H') ⟨by simp only; omega,?_,F',own'⟩ (by simp only; omega) (by simp [pickF,hw]) rfl (by simp)
      simp only
      rw [List.append_assoc,← he,numB_ge (n:=m') (by omega)]
      rfl
    · have hv:IntKind.u8.wrap (m':Int)=((UInt8.ofNat m').toNat:Int):=by rw [wrap_u8 (by omega) (by omega),u8_ofNat (by omega)]
      have hol:out.length≤5:=by have:=numB_len 4 m (by omega); rw [← he] at this; simp at this; omega
      obtain ⟨a',H',F',eq,own'⟩:=own.append1 (P:=Try.prog) (UInt8.ofNat m') (cs:=[.int .u8 (IntKind.u8.wrap m')]) (by rw [hv]) (st:=34) (xt:=34) (bt:=1) (z:=[.int .u8 0]) (by simp) (by simp) (by unfold big; omega) (by unfold big; omega)
      rw [numB_lt (n:=m') (by omega)] at he
      simp [eq,← he]
      exact ⟨F',own'⟩
  · have hp:putNum n=[]:=by unfold putNum; rw [if_neg hr]
    rw [hp]
    have hr2:(!decide (0≤n) || !decide (n≤2147483647))=true:=by simp; omega
    simp [hr2]
    exact ⟨_,own0⟩
theorem and127 (m:Nat) (h:m≤2147483647):(BitVec.ofInt 64 (m:Int) &&& BitVec.ofInt 64 127).toNat=m % 128:=by
  have h1:(BitVec.ofInt 64 (m:Int)).toNat=m:=by
    rw [BitVec.toNat_ofInt]; omega
  have h2:(BitVec.ofInt 64 127).toNat=127:=by decide
  rw [BitVec.toNat_and,h1,h2]
  exact Nat.and_two_pow_sub_one_eq_mod m 7
theorem or128 (m:Nat) (h:m<128):(BitVec.ofInt 64 (m:Int) ||| BitVec.ofInt 64 128).toNat=m+128:=by
  have h1:(BitVec.ofInt 64 (m:Int)).toNat=m:=by
    rw [BitVec.toNat_ofInt]; omega
  have h2:(BitVec.ofInt 64 128).toNat=128:=by decide
  rw [BitVec.toNat_or,h1,h2,Nat.or_comm]
  have h3:=Nat.two_pow_add_eq_or_of_lt (i:=7) (b:=m) h 1
  have h4:2 ^ 7 * 1=128:=by decide
  rw [h4] at h3
  omega
theorem abin_and127 (t:TypeId) (i:Int) (h0:0≤i) (h:i≤2147483647):abin Try.prog .and t (.int .i64 i) (.int .i64 127)=some (.int .i64 (i % 128)):=by
  obtain ⟨m,rfl⟩:=Int.eq_ofNat_of_zero_le h0
  show (if (IntKind.i64≠IntKind.i64) then none else some (Value.int .i64 (IntKind.i64.wrap ((BitVec.ofInt 64 (m:Int) &&& BitVec.ofInt 64 127).toNat:Nat))))=_
  rw [if_neg (by simp),and127 m (by omega),wrap_in (by omega) (by omega)]
  rfl
theorem abin_or128 (t:TypeId) (i:Int) (h0:0≤i) (h:i<128):abin Try.prog .or t (.int .i64 i) (.int .i64 128)=some (.int .i64 (i+128)):=by
  obtain ⟨m,rfl⟩:=Int.eq_ofNat_of_zero_le h0
  show (if (IntKind.i64≠IntKind.i64) then none else some (Value.int .i64 (IntKind.i64.wrap ((BitVec.ofInt 64 (m:Int) ||| BitVec.ofInt 64 128).toNat:Nat))))=_
  rw [if_neg (by simp),or128 m (by omega),wrap_in (by omega) (by omega)]
  rfl
theorem abin_shr7 (t:TypeId) (i:Int):abin Try.prog .shr t (.int .i64 i) (.int .u64 7)=some (.int .i64 (i / 128)):=by
  simp [abin,IntKind.bits]
  rw [Int.fdiv_eq_ediv_of_nonneg _ (by decide)]
theorem putNum_impl_c (n:Int) (h:Hp):ACall Try.prog 40 [.int .i64 n] h fun r h'=>∃ a F,r=.slice a (putNum n).length (putNum n).length∧Own h 5 byteE h' (putNum n) a F:=by
  refine acall mixed Try.func40 rfl (by kernel_rfl) ?_
  simp [Try.f40]
  refine cK (within_c n 0 2147483647 _) ?_
  rintro _ h ⟨rfl,rfl⟩
  have own0:=empty1 byteE h 5
  by_cases hr:0≤n∧n≤2147483647
  · obtain ⟨m,rfl⟩:=Int.eq_ofNat_of_zero_le hr.1
    have hm:m≤2147483647:=by omega
    have hm':(m:Int)≤2147483647:=by omega
    have hp:putNum (m:Int)=numB m:=by unfold putNum; rw [if_pos hr]; rfl
    rw [hp]
    simp [hm']
    refine aloop mixed [0,3] (fun (x:Nat × Str × Option Addr × Hp)=>[.int .i64 x.1,.slice x.2.2.1 x.2.1.length x.2.1.length]) (fun x=>x.2.2.2)
      (fun x=>x.1≤2147483647∧x.2.1++numB x.1=numB m∧∃ F,Own h 5 byteE x.2.2.2 x.2.1 x.2.2.1 F) (fun x=>x.1) (m,[],some ⟨h.length,0,none⟩,_) ⟨hm,rfl,_,own0⟩ rfl rfl ?_
    rintro ⟨m',out,a,H⟩ ⟨hm2,he,F,own⟩
    simp only at hm2 he own
    simp [mkF]
    refine aSI (fun hb=>?_) (fun hb=>?_) <;> simp at hb <;> simp [hb]
    · have hv:IntKind.u8.wrap ((m':Int) % 128+128)=((UInt8.ofNat (m' % 128+128)).toNat:Int):=by
        rw [wrap_u8 (by omega) (by omega),u8_ofNat (by omega)]; omega
      have hol:out.length≤5:=by have:=numB_len 4 m (by omega); rw [← he] at this; simp at this; omega
      obtain ⟨a',H',F',eq,own'⟩:=own.append1 (P:=Try.prog) (UInt8.ofNat (m' % 128+128)) (cs:=[.int .u8 (IntKind.u8.wrap ((m':Int) % 128+128))]) (by rw [hv]) (st:=34) (xt:=34) (bt:=1) (z:=[.int .u8 0]) (by simp) (by simp) (by unfold big; omega) (by unfold big; omega)
      simp [abin_and127 _ (m':Int) (by omega) (by omega),abin_or128 _ ((m':Int) % 128) (by omega) (by omega),eq,abin_shr7]
      refine anext (m' / 128,out++[UInt8.ofNat (m' % 128+128)],a',H') ⟨by simp only; omega,?_,F',own'⟩ (by simp only; omega) (by simp [pickF]) rfl (by simp)
      simp only
      rw [List.append_assoc,← he,numB_ge (n:=m') (by omega)]
      rfl
    · have hv:IntKind.u8.wrap (m':Int)=((UInt8.ofNat m').toNat:Int):=by rw [wrap_u8 (by omega) (by omega),u8_ofNat (by omega)]
      have hol:out.length≤5:=by have:=numB_len 4 m (by omega); rw [← he] at this; simp at this; omega
      obtain ⟨a',H',F',eq,own'⟩:=own.append1 (P:=Try.prog) (UInt8.ofNat m') (cs:=[.int .u8 (IntKind.u8.wrap m')]) (by rw [hv]) (st:=34) (xt:=34) (bt:=1) (z:=[.int .u8 0]) (by simp) (by simp) (by unfold big; omega) (by unfold big; omega)
      rw [numB_lt (n:=m') (by omega)] at he
      simp [eq,← he]
      exact ⟨F',own'⟩
  · have hp:putNum n=[]:=by unfold putNum; rw [if_neg hr]
    rw [hp]
    have hr2:(!decide (0≤n) || !decide (n≤2147483647))=true:=by simp; omega
    simp [hr2]
    exact ⟨_,Own.nil (Ext.refl h)⟩
theorem bytesR (h:Hp) (e:TypeId) (s:Str):slR true e byteE (h++[⟨true,true,e,bytesL (S s)⟩]) s (some ⟨h.length,0,none⟩) [h.length]:=by
  have hrow:rowsR byteE h s (s.map fun b=>[Value.int .u8 b.toNat]) (List.replicate s.length []):=rowsR.mkFlat s
  have:=(Own.lit (h0:=h) (e:=e) (Ext.refl h) hrow (by rw [flat_rep]; simp) (by rw [flat_rep]; simp)).sl
  rw [bytes_flat,← bytesL_S,flat_rep] at this
  exact this
theorem putText_spec_c (s:Str) (h:Hp) (hs:s.length≤4294967296):ACall Try.prog 118 [.string (S s)] h fun r h'=>∃ a F,r=.slice a (putText s).length (putText s).length∧Own h 5 byteE h' (putText s) a F:=by
  refine acall mixed Try.func118 rfl (by kernel_rfl) ?_
  simp [Try.f118]
  refine cK (putNum_spec_c _ h) ?_
  rintro _ H ⟨a,F,rfl,own⟩
  have hl:=putNum_len s.length
  have hb:=bytesR H 5 s
  obtain ⟨a',H',F',eq,own',_⟩:=(own.grow (Ext.push H _)).appendSl (P:=Try.prog) hb (st:=34) (xt:=34) (bt:=1) (z:=[.int .u8 0]) (by simp) (by simp) (by unfold big; omega) (by unfold big; omega)
  simp [eq]
  exact ⟨a',by simp [putText],F',own'⟩
structure Item where
  path:Str
  kind:Int
  data:Str
  time:Int
  deriving DecidableEq
def Item.nl (e:Item):Nat:=e.path.length+e.data.length
def Item.cs (e:Item):List Value:=[.string (S e.path),.int .i64 e.kind,.string (S e.data),.int .i64 e.time]
def Item.v (e:Item):Value:=.agg #[.string (S e.path),.int .i64 e.kind,.string (S e.data),.int .i64 e.time]
def itemE:Enc Item:=flatE 4 Item.cs (fun _=>rfl) (fun _=>rfl)
section
variable {h:Hp} {w:Bool} {t:TypeId} {es:List Item} {a:Option Addr} {F:List Nat}
end
end Go.Proofs.Ytmpgpkdijfcfhaa.Hz
namespace Go.Proofs.Ytmpgpkdijfcfhaa.Hz
open Go.RowKit Go.ChangeShapes Go.WideShapes Go.ChangeAt
set_option linter.unusedVariables false
set_option linter.unusedSimpArgs false
theorem ownKnob_none:ownKnob Try.prog.godebug=none:=by kernel_rfl
theorem laid:laidOutB Try.prog=true:=by kernel_rfl
theorem u_bool:Try.prog.underlying 4=some .bool:=by kernel_rfl
end Go.Proofs.Ytmpgpkdijfcfhaa.Hz
