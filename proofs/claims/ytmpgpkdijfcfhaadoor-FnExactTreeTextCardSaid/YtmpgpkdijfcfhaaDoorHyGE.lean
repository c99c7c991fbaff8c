/- Texts of the calculus and of the program's functions, merged: NK GN DO0 OP OW. -/
import Derived.Test.YtmpgpkdijfcfhaaDoorHyGD
import Derived.Test.YtmpgpkdijfcfhaaDoorHyGC
/- A node that is right: both programs. -/
namespace Go.Proofs.YtmpgpkdijfcfhaaDoor.Hz
open Go.RowKit
set_option linter.unusedVariables false
set_option linter.unusedSimpArgs false
set_option maxRecDepth 20000
def inR (n lo hi:Int):Bool:=decide (lo≤n∧n≤hi)
theorem inR_iff {n lo hi:Int}:inR n lo hi=true↔lo≤n∧n≤hi:=by simp [inR]
end Go.Proofs.YtmpgpkdijfcfhaaDoor.Hz
/- Reading a number and a text from bytes: both programs. -/
namespace Go.Proofs.YtmpgpkdijfcfhaaDoor.Hz
open Go.RowKit
set_option linter.unusedVariables false
set_option linter.unusedSimpArgs false
set_option maxRecDepth 20000
def gnF (b:Str) (at_:Nat):Nat→Nat→Nat→Option (Nat × Nat)
  | 0,_,_=>none
  | fuel+1,k,n =>
    match b[at_+k]? with
    | none=>none
    | some x =>
      if 128≤x.toNat then gnF b at_ fuel (k+1) (n ||| x.toNat % 128 * 2 ^ (7 * k))
      else if (0<k∧x.toNat=0)∨2147483647<(n ||| x.toNat % 128 * 2 ^ (7 * k)) then none
      else some (n ||| x.toNat % 128 * 2 ^ (7 * k),at_+k+1)
def getNum (b:Str) (at_:Nat):Option (Nat × Nat):=gnF b at_ 5 0 0
theorem gnF_bound (b:Str) (at_:Nat):∀ (fuel k n m e:Nat),gnF b at_ fuel k n=some (m,e)→m≤2147483647∧at_<e∧e≤b.length
  | 0,_,_,_,_,h=>by cases h
  | fuel+1,k,n,m,e,h=>by
    simp only [gnF] at h
    split at h
    · cases h
    · rename_i x hx
      have hlt:=(List.getElem?_eq_some_iff.1 hx).1
      split at h
      · exact gnF_bound b at_ fuel _ _ m e h
      · split at h
        · cases h
        · rename_i hc
          simp only [Option.some.injEq,Prod.mk.injEq] at h
          obtain ⟨rfl,rfl⟩:=h
          omega
def getText (b:Str) (at_:Nat):Option (Str × Nat) :=
  match getNum b at_ with
  | none=>none
  | some (n,e)=>if b.length<n+e then none else some ((b.take (e+n)).drop e,e+n)
theorem getNum_bound {b:Str} {at_ n e:Nat} (h:getNum b at_=some (n,e)):n≤2147483647∧at_<e∧e≤b.length:=gnF_bound b at_ _ _ _ _ _ h
end Go.Proofs.YtmpgpkdijfcfhaaDoor.Hz
/- A directory out of its text: both programs. -/
namespace Go.Proofs.YtmpgpkdijfcfhaaDoor.Hz
open Go.RowKit
set_option linter.unusedVariables false
set_option linter.unusedSimpArgs false
set_option maxRecDepth 20000
section
variable {P:Program} {α:Type} {h0 h:Hp} {e:TypeId} {xs:List α} {a:Option Addr} {F:List Nat} {n:Nat} {f:α→List Value} {hn:∀ x,(f x).length=n} {hok:∀ x,(f x).all okCell=true}
theorem Own.append1K (k:Own h0 e (flatE n f hn hok) h xs a F) (x:α) {cs:List Value} (hx:cs=f x) {st xt:TypeId} {bt:Nat} {z:List Value} (hsl:isSlice P xt=true) (hel:elOf P st=some (e,n,bt,z)) (hs1:xs.length+1≤big) (hs2:(xs.length+1) * bt≤big) :
    ∃ a' h' F',aappend P (h++[⟨true,true,e,cs⟩]) st xt (.slice a xs.length xs.length) (.slice (some ⟨h.length,0,none⟩) 1 1)=some (.slice a' (xs.length+1) (xs.length+1),h')∧Own h0 e (flatE n f hn hok) h' (xs++[x]) a' F' ∧
      (∀ q,q<h.length→q ∉ F→h'[q]?=h[q]?)∧(∀ q∈F',q∈F∨h.length≤q):=by
  subst hx
  have hl:slR true e (flatE n f hn hok) (h++[⟨true,true,e,f x⟩]) [x] (some ⟨h.length,0,none⟩) [h.length]:=by
    have:=(Own.lit (h0:=h) (h:=h) (e:=e) (A:=flatE n f hn hok) (xs:=[x]) (css:=[f x]) (Fs:=[[]]) (Ext.refl h) ⟨⟨rfl,rfl⟩,trivial⟩ (by simp) (by simp)).sl
    simpa using this
  obtain ⟨cs,h1,h2,css,Fs,rfl,h4,_⟩:=hl.cells
  have hF:=flat_nil h4.flat.2
  obtain ⟨a',h',F',e1,e2,e3,e4,e5,_⟩:=(k.grow (Ext.push h [⟨true,true,e,f x⟩])).append (P:=P) (st:=st) (xt:=xt) (x:=.slice (some ⟨h.length,0,none⟩) 1 1) (css:=css) (Fs:=Fs) (ys:=[x]) (by
    have h1':cellsAt (h++[⟨true,true,e,f x⟩]) h.length 0 (1 * n)=some css.flatten:=h1
    show srcOf P _ n xt _=_
    rw [Nat.one_mul] at h1'
    simp [srcOf,hsl,h1']) h4 hel hs1 hs2 (by rw [hF]; simp) (by rw [hF]; simp)
  refine ⟨a',h',F',e1,e2,fun q hq hm=>?_,fun q hq=>?_⟩
  · rw [e3 q (by simp; omega) hm,List.getElem?_append_left hq]
  · rcases e5 q hq with h | h | h
    · exact .inl h
    · rw [hF] at h; cases h
    · simp at h; exact .inr (by omega)
end
theorem sumL_append {α:Type} (f:α→Nat):∀ (xs ys:List α),sumL f (xs++ys)=sumL f xs+sumL f ys
  | [],ys=>by simp [sumL]
  | x :: xs,ys=>by
    have:=sumL_append f xs ys
    simp only [List.cons_append,sumL,this]; omega
def scanF (b:Str):Nat→Nat→List Ent→Option (List Ent)
  | 0,_,_=>none
  | fuel+1,at_,acc =>
    if b.length≤at_ then some acc else
    match getText b at_ with
    | none=>none
    | some (s,e) =>
      match getNum b e with
      | none=>none
      | some (n,e2)=>scanF b fuel e2 (acc++[⟨s,(n:Int)⟩])
theorem getText_bound2 {b s:Str} {at_ e:Nat} (h:getText b at_=some (s,e)):at_+1+s.length≤e∧e≤b.length:=by
  unfold getText at h
  split at h
  · cases h
  · rename_i n e0 hg
    have hb:=getNum_bound hg
    split at h
    · cases h
    · simp only [Option.some.injEq,Prod.mk.injEq] at h
      obtain ⟨rfl,rfl⟩:=h
      simp
      omega
end Go.Proofs.YtmpgpkdijfcfhaaDoor.Hz
/- The shape of a file system's image,in plain words: which blocks its nodes hold. -/
namespace Go.Proofs.YtmpgpkdijfcfhaaDoor.Hz
open Go.RowKit
set_option linter.unusedVariables false
set_option linter.unusedSimpArgs false
theorem nodup_count:∀ (l:List Int),l.Nodup↔∀ b,l.count b≤1
  | []=>by simp
  | a :: l=>by
    rw [List.nodup_cons,nodup_count l]
    constructor
    · rintro ⟨h1,h2⟩ b
      rw [List.count_cons]
      by_cases e:a=b
      · subst e; rw [List.count_eq_zero.2 h1]; simp
      · have:=h2 b; simp [e]; exact this
    · intro h
      refine ⟨fun hm=>?_,fun b=>?_⟩
      · have:=h a
        rw [List.count_cons_self] at this
        have h0:=List.count_pos_iff.2 hm
        omega
      · have:=h b
        rw [List.count_cons] at this
        omega
def held (ns:List Node):List Int:=ns.flatMap (·.blocks)
def OwnOk (f:Fs):Prop:=(∀ b∈held f.nodes,0≤b∧b<f.data.length)∧(held f.nodes).Nodup
instance (f:Fs):Decidable (OwnOk f):=by unfold OwnOk; exact inferInstance
def OwnInv (f:Fs) (P:List Int) (os:List Int):Prop :=
  os.length=f.data.length∧(∀ b∈P,0≤b∧b<f.data.length)∧P.Nodup∧∀ (k:Nat) (hk:k<os.length),decide (0≤os[k])=decide ((k:Int)∈P)
def UsedInv (f:Fs) (P us:List Int):Prop :=
  us.length=f.data.length+1∧(∀ (k:Nat) (hk:k<f.data.length) (hu:k<us.length),us[k]=P.count (k:Int))∧(∀ hu:f.data.length<us.length,us[f.data.length]=P.countP fun b=>!(inR b 0 (f.data.length - 1)))
theorem UsedInv.out {f:Fs} {P us:List Int} (k:UsedInv f P us) {b:Int} (hb:inR b 0 (f.data.length - 1)=false) (hlt:f.data.length<us.length):UsedInv f (P++[b]) (us.set f.data.length (us[f.data.length]+1)):=by
  obtain ⟨k1,k2,k3⟩:=k
  have hb':¬ (0≤b∧b≤f.data.length - 1):=fun h=>by rw [inR_iff.2 h] at hb; cases hb
  refine ⟨by simp [k1],fun q hq hu=>?_,fun hu=>?_⟩
  · simp only [List.length_set] at hu
    have e2:¬ (b=(q:Int)):=by omega
    rw [List.getElem_set,if_neg (by omega),k2 q hq hu,List.count_append]
    have:List.count (q:Int) [b]=0:=by simp [List.count_cons,e2]
    rw [this]; simp
  · rw [List.getElem_set,if_pos rfl,k3 hlt,List.countP_append]
    simp [hb]
end Go.Proofs.YtmpgpkdijfcfhaaDoor.Hz
/- Which node holds each block: the program's owners. -/
namespace Go.Proofs.YtmpgpkdijfcfhaaDoor.Hz
open Go.RowKit
set_option linter.unusedVariables false
set_option linter.unusedSimpArgs false
set_option maxRecDepth 20000
theorem cell_up {B H:Hp} (x:Ext B H) {o i:Nat} {v:Value} (c:cellAt B o i=some v):cellAt H o i=some v:=by
  obtain ⟨ob,ho,_⟩:=cellAt_some c
  rw [cellAt_ext x (List.getElem?_eq_some_iff.1 ho).1]
  exact c
end Go.Proofs.YtmpgpkdijfcfhaaDoor.Hz
