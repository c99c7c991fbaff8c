/- What adding an entry does to a directory. No program in sight. -/
import Derived.Test.YtmpgpkdijfcfhaaHyRT
import Derived.Test.YtmpgpkdijfcfhaaHyGP
import Derived.Test.YtmpgpkdijfcfhaaHyGM
namespace Go.Proofs.Ytmpgpkdijfcfhaa.Hz
open Go.RowKit
set_option linter.unusedVariables false
set_option linter.unusedSimpArgs false
set_option maxRecDepth 20000
theorem less_ne {a b:Str} (h:Op.bytesLess a b=true):a≠b:=fun e=>by rw [e,less_irr] at h; cases h
theorem adj_tail {e:Ent} {r:List Ent} (h:adj (e :: r)=true):adj r=true:=by
  cases r with
  | nil=>rfl
  | cons e' r =>
    simp only [adj,Bool.and_eq_true] at h
    exact h.2
def Uniq (es:List Ent):Prop:=es.Pairwise fun x y=>x.name≠y.name
theorem adj_uniq:∀ {es:List Ent},adj es=true→Uniq es
  | [],_=>List.Pairwise.nil
  | e :: r,h=>List.pairwise_cons.2 ⟨fun x hx=>less_ne (adj_least e r h x hx),adj_uniq (adj_tail h)⟩
theorem Uniq.find:∀ {es:List Ent},Uniq es→∀ e∈es,dirFind es e.name=e.node
  | x :: es,k,e,he=>by
    obtain ⟨k1,k2⟩:=List.pairwise_cons.1 k
    rcases List.mem_cons.1 he with rfl | he
    · simp [dirFind]
    · unfold dirFind
      rw [if_neg (k1 e he)]
      exact Uniq.find k2 e he
theorem findE_none:∀ {es:List Ent} {nm:Str},(∀ e∈es,e.name≠nm)→dirFind es nm=-1
  | [],_,_=>rfl
  | x :: es,nm,h=>by
    unfold dirFind
    rw [if_neg (h x (by simp))]
    exact findE_none fun e he=>h e (by simp [he])
theorem findI_at (nm:Str) (nd:Int):∀ (p q:List Ent) (i:Nat),(∀ e∈p,e.name≠nm)→findI (fun e=>e.name == nm) (p++⟨nm,nd⟩ :: q) i=((i+p.length:Nat):Int)
  | [],q,i,_=>by simp [findI]
  | x :: p,q,i,h=>by
    have h1:(x.name == nm)=false:=by simpa using h x (by simp)
    rw [List.cons_append,findI,h1]
    rw [findI_at nm nd p q (i+1) (fun e he=>h e (by simp [he]))]
    simp; omega
theorem added {es:List Ent} {nm:Str} {nd:Int} (h:(dirAdd es nm nd).2=true) :
    (dirAdd es nm nd).1.length≤80∧dirFind (dirAdd es nm nd).1 nm=nd∧entriesOk (dirAdd es nm nd).1=true∧(∀ e∈es,dirFind (dirAdd es nm nd).1 e.name=e.node)∧dirDrop (dirAdd es nm nd).1 nm=(es,true)∧dirFind es nm=-1:=by
  unfold dirAdd at h ⊢
  split at h
  case isFalse=>cases h
  rename_i hk
  rw [if_pos hk]
  simp only [Bool.and_eq_true] at hk
  have hu:=adj_uniq (entriesOk_adj hk.2)
  have hs:=entriesOk_small hk.2
  have hmem:(⟨nm,nd⟩:Ent)∈insE es nm nd:=by simp [insE]
  have hall:∀ e∈es,e∈insE es nm nd:=fun e he=>by
    rw [← List.take_append_drop (insAt nm es) es] at he
    simp only [insE,List.mem_append,List.mem_singleton] at he ⊢
    rcases he with he | he
    · exact .inl (.inl he)
    · exact .inr he
  have e1:insE es nm nd=es.take (insAt nm es)++⟨nm,nd⟩ :: es.drop (insAt nm es):=by simp [insE]
  have hu':=hu
  rw [e1] at hu'
  obtain ⟨u1,u2,u3⟩:=List.pairwise_append.1 hu'
  have n1:∀ e∈es.take (insAt nm es),e.name≠nm:=fun e he=>u3 e he ⟨nm,nd⟩ (by simp)
  have n2:∀ e∈es.drop (insAt nm es),e.name≠nm:=fun e he=>((List.pairwise_cons.1 u2).1 e he).symm
  refine ⟨hs,hu.find _ hmem,hk.2,fun e he=>hu.find _ (hall e he),?_,findE_none fun e he=>?_⟩
  · have hf:=findI_at nm nd (es.take (insAt nm es)) (es.drop (insAt nm es)) 0 n1
    simp only [dirDrop]
    rw [e1,hf]
    have hl:(es.take (insAt nm es)).length=insAt nm es:=by rw [List.length_take]; have:=insAt_le nm es; omega
    simp only [dropAt]
    rw [if_neg (by omega)]
    rw [Nat.zero_add,hl,Int.toNat_natCast]
    have h1:(es.take (insAt nm es)++⟨nm,nd⟩ :: es.drop (insAt nm es)).take (insAt nm es)=es.take (insAt nm es):=List.take_left' hl
    have h2:(es.take (insAt nm es)++⟨nm,nd⟩ :: es.drop (insAt nm es)).drop (insAt nm es+1)=es.drop (insAt nm es):=by
      rw [show es.take (insAt nm es)++⟨nm,nd⟩ :: es.drop (insAt nm es)=(es.take (insAt nm es)++[⟨nm,nd⟩])++es.drop (insAt nm es) by simp]
      exact List.drop_left' (by rw [List.length_append,hl]; rfl)
    rw [h1,h2,List.take_append_drop]
    simp
  · rw [← List.take_append_drop (insAt nm es) es] at he
    rcases List.mem_append.1 he with he | he
    · exact n1 e he
    · exact n2 e he
end Go.Proofs.Ytmpgpkdijfcfhaa.Hz
