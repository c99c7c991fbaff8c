/- Texts of the calculus and of the program's functions, merged: RM WI RN. -/
import Derived.Test.YtmpgpkdijfcfhaaHyGP
import Derived.Test.YtmpgpkdijfcfhaaHyRT
import Derived.Test.YtmpgpkdijfcfhaaHyGM
import Derived.Test.YtmpgpkdijfcfhaaHyGI
import Derived.Test.YtmpgpkdijfcfhaaHyGF
import Derived.Test.YtmpgpkdijfcfhaaHySM
import Derived.Test.YtmpgpkdijfcfhaaHyGO
import Derived.Test.YtmpgpkdijfcfhaaHyGT
namespace Go.Proofs.Ytmpgpkdijfcfhaa.Hz
open Go.RowKit
set_option linter.unusedVariables false
set_option linter.unusedSimpArgs false
set_option maxRecDepth 20000
theorem scan_len2 (b:Str):∀ (fuel at_:Nat) (acc es:List Ent),at_≤b.length→2 * acc.length+sumL Ent.nl acc≤at_→scanF b fuel at_ acc=some es→2 * es.length+sumL Ent.nl es≤b.length
  | 0,_,_,_,_,_,h=>by cases h
  | fuel+1,at_,acc,es,h1,h2,h=>by
    simp only [scanF] at h
    split at h
    · injection h with h; subst h; omega
    · split at h
      · cases h
      · rename_i s e hg
        have hb:=getText_bound2 hg
        split at h
        · cases h
        · rename_i n e2 hn
          have hb2:=getNum_bound hn
          refine scan_len2 b fuel e2 _ es (by omega) ?_ h
          have:sumL Ent.nl (acc++[⟨s,(n:Int)⟩])=sumL Ent.nl acc+s.length:=by
            rw [sumL_append]; simp [sumL,Ent.nl]
          rw [this]; simp; omega
theorem dirText_two:∀ es:List Ent,(∀ e∈es,e.name.length≤6∧1≤e.node∧e.node≤9)→(dirText es).length=2 * es.length+sumL Ent.nl es
  | [],_=>rfl
  | e :: es,h=>by
    have ih:=dirText_two es fun x hx=>h x (by simp [hx])
    have h0:=h e (by simp)
    have e1:(dirText (e :: es)).length=(entTxt e).length+(dirText es).length:=by simp [dirText,catL]
    have e2:(entTxt e).length=2+e.nl:=by
      simp only [entTxt,putText]
      rw [putNum_small (by omega) (by omega),putNum_small (by omega) (by omega)]
      simp [Ent.nl]; omega
    have e3:sumL Ent.nl (e :: es)=e.nl+sumL Ent.nl es:=rfl
    rw [e1,e2,ih,e3]
    simp only [List.length_cons]; omega
def Ord (es:List Ent):Prop:=es.Pairwise fun x y=>Op.bytesLess x.name y.name=true∧x.node≠y.node
theorem ok_nodes (es:List Ent):∀ (l pre:List Ent),es=pre++l→okFrom es l pre.length=true→(l.Pairwise fun x y=>x.node≠y.node)∧∀ x∈pre,∀ y∈l,x.node≠y.node
  | [],pre,_,_=>⟨List.Pairwise.nil,by simp⟩
  | e :: r,pre,he,h=>by
    simp only [okFrom,Bool.and_eq_true] at h
    obtain ⟨i1,i2⟩:=ok_nodes es r (pre++[e]) (by rw [he]; simp) (by
      simp only [List.length_append,List.length_singleton]
      exact h.2)
    have h1:=h.1
    simp only [okAt,Bool.and_eq_true,List.all_eq_true] at h1
    have ht:es.take pre.length=pre:=by rw [he]; exact List.take_left' rfl
    rw [ht] at h1
    have hp:∀ x∈pre,x.node≠e.node:=fun x hx=>by simpa using h1.2 x hx
    refine ⟨List.pairwise_cons.2 ⟨fun y hy=>i2 e (by simp) y hy,i1⟩,fun x hx y hy=>?_⟩
    rcases List.mem_cons.1 hy with rfl | hy
    · exact hp x hx
    · exact i2 x (by simp [hx]) y hy
theorem adj_less:∀ {es:List Ent},adj es=true→es.Pairwise fun x y=>Op.bytesLess x.name y.name=true
  | [],_=>List.Pairwise.nil
  | e :: r,h=>List.pairwise_cons.2 ⟨adj_least e r h,adj_less (by
      cases r with
      | nil=>rfl
      | cons e' r =>
        simp only [adj,Bool.and_eq_true] at h
        exact h.2)⟩
theorem ok_ord {es:List Ent} (h:entriesOk es=true):Ord es:=by
  have h1:=adj_less (entriesOk_adj h)
  simp only [entriesOk,Bool.and_eq_true] at h
  have h2:=(ok_nodes es es [] rfl h.1).1
  exact h1.and h2
theorem ok_all {es:List Ent} (h:entriesOk es=true):∀ e∈es,nameH e.name=true∧1≤e.node∧e.node≤9:=by
  simp only [entriesOk,Bool.and_eq_true] at h
  exact fun e he=>⟨okFrom_names es es 0 h.1 e he,okFrom_nodes es es 0 h.1 e he⟩
theorem dirI_two {f:Fs} {i:Int} (h:(dirI f i).2=true):entriesOk (dirI f i).1=true∧(dirText (dirI f i).1).length≤(contentI f i).length:=by
  unfold dirI at h ⊢
  generalize contentI f i=b at h ⊢
  unfold dirOf at h ⊢
  cases hs:scanF b (b.length+1) 0 [] with
  | none=>rw [hs] at h; cases h
  | some es =>
    rw [hs] at h
    simp only at h ⊢
    split at h
    · rename_i hk
      rw [if_pos hk]
      have ha:=ok_all hk
      have h1:=dirText_two es fun e he=>⟨nameH_le (ha e he).1,(ha e he).2⟩
      have h2:=scan_len2 b _ 0 [] es (by omega) (by simp [sumL]) hs
      exact ⟨hk,by simp only; omega⟩
    · cases h
theorem parts_join:∀ (p h:Str) (t:List Str),parts 47 p=h :: t→p=h++rawP t
  | [],h,t,e=>by
    simp [parts] at e
    obtain ⟨rfl,rfl⟩:=e
    rfl
  | c :: cs,h,t,e=>by
    unfold parts at e
    obtain ⟨h',t',e'⟩:∃ h' t',parts 47 cs=h' :: t':=by
      cases hp:parts 47 cs with
      | nil=>exact absurd hp (parts_ne 47 cs)
      | cons a b=>exact ⟨a,b,rfl⟩
    have ih:=parts_join cs h' t' e'
    split at e
    · rename_i hc
      subst hc
      rw [e'] at e
      simp at e
      obtain ⟨rfl,rfl⟩:=e
      rw [ih]
      rfl
    · rw [e'] at e
      simp [headCons] at e
      obtain ⟨rfl,rfl⟩:=e
      rw [ih]
      rfl
theorem path_raw {p:Str} (h:pathOk p=true) (hr:p≠[47]):p=rawP (names p):=by
  have hg:pathGood p=true:=by simpa [pathOk,hr] using h
  rw [names,if_neg hr,if_pos hg]
  simp only [pathGood,Bool.and_eq_true] at hg
  have h1:=hg.1.1
  cases hp:parts 47 p with
  | nil=>exact absurd hp (parts_ne 47 p)
  | cons a t =>
    rw [hp] at h1
    simp at h1
    subst h1
    have:=parts_join p [] t hp
    simpa using this
def within (a b:Str):Bool:=pathOk a && pathOk b && (decide ((names b).length≤(names a).length) && decide ((names a).take (names b).length=names b))
end Go.Proofs.Ytmpgpkdijfcfhaa.Hz
