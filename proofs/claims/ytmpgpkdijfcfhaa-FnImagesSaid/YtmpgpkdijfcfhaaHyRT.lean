/- A directory's text is read back. No program in sight. -/
import Derived.Test.YtmpgpkdijfcfhaaHyGC
import Derived.Test.YtmpgpkdijfcfhaaHyGE
import Derived.Test.YtmpgpkdijfcfhaaHyGD
namespace Go.Proofs.Ytmpgpkdijfcfhaa.Hz
open Go.RowKit
set_option linter.unusedVariables false
set_option linter.unusedSimpArgs false
set_option maxRecDepth 20000
theorem okFrom_names (es:List Ent):∀ (l:List Ent) (k:Nat),okFrom es l k=true→∀ e∈l,nameH e.name=true
  | [],_,_,e,he=>by cases he
  | x :: l,k,h,e,he=>by
    simp only [okFrom,Bool.and_eq_true] at h
    rcases List.mem_cons.1 he with rfl | he
    · have h1:=h.1
      simp only [okAt,Bool.and_eq_true] at h1
      exact h1.1.1.1
    · exact okFrom_names es l (k+1) h.2 e he
theorem nameH_le {s:Str} (h:nameH s=true):s.length≤6:=by
  unfold nameH at h
  rw [Bool.or_eq_true] at h
  rcases h with h | h
  · have:s=[126]:=by simpa using h
    rw [this]; decide
  · simp only [nameOk,Bool.and_eq_true,decide_eq_true_eq] at h
    exact h.1.2
theorem putNum_small {n:Int} (h0:0≤n) (h:n<128):putNum n=[UInt8.ofNat n.toNat]:=by
  unfold putNum
  rw [if_pos (by omega),numB_lt (by omega)]
theorem getNum_small (b:Str) (at_:Nat) (n:Nat) (h:b[at_]?=some (UInt8.ofNat n)) (hn:n<128):getNum b at_=some (n,at_+1):=by
  have h1:(UInt8.ofNat n).toNat=n:=by
    rw [UInt8.toNat_ofNat']
    omega
  unfold getNum gnF
  rw [Nat.add_zero,h]
  simp only [h1]
  rw [if_neg (by omega),if_neg (by simp; omega)]
  simp
  omega
theorem okFrom_nodes (es:List Ent):∀ (l:List Ent) (k:Nat),okFrom es l k=true→∀ e∈l,1≤e.node∧e.node≤9
  | [],_,_,e,he=>by cases he
  | x :: l,k,h,e,he=>by
    simp only [okFrom,Bool.and_eq_true] at h
    rcases List.mem_cons.1 he with rfl | he
    · have h1:=h.1
      simp only [okAt,Bool.and_eq_true,decide_eq_true_eq] at h1
      exact h1.1.1.2
    · exact okFrom_nodes es l (k+1) h.2 e he
theorem drop_get {b:Str} {k:Nat} {x:UInt8} {r:Str} (h:b.drop k=x :: r):b[k]?=some x∧b.drop (k+1)=r:=by
  constructor
  · have:=congrArg (fun l=>l[0]?) h
    simpa using this
  · have:=congrArg (List.drop 1) h
    simpa [List.drop_drop,Nat.add_comm] using this
theorem scan_text (b:Str):∀ (es:List Ent) (fuel at_:Nat) (acc:List Ent),b.drop at_=dirText es→(∀ e∈es,e.name.length≤6∧1≤e.node∧e.node≤9)→es.length<fuel→scanF b fuel at_ acc=some (acc++es)
  | [],fuel,at_,acc,h,_,hf=>by
    cases fuel with
    | zero=>omega
    | succ fuel =>
      have:b.length≤at_:=by
        have:=congrArg List.length h
        simp [dirText,catL] at this
        omega
      simp [scanF,this]
  | e :: es,fuel,at_,acc,h,he,hf=>by
    cases fuel with
    | zero=>omega
    | succ fuel =>
      have h0:=he e (by simp)
      have e1:dirText (e :: es)=UInt8.ofNat e.name.length :: (e.name++(UInt8.ofNat e.node.toNat :: dirText es)):=by
        simp only [dirText,catL,List.map_cons,List.flatten_cons,entTxt,putText]
        rw [putNum_small (by omega) (by omega),putNum_small (by omega) (by omega)]
        simp
      rw [e1] at h
      obtain ⟨g1,g2⟩:=drop_get h
      have g3:b.drop (at_+1+e.name.length)=UInt8.ofNat e.node.toNat :: dirText es:=by
        have:=congrArg (List.drop e.name.length) g2
        simpa [List.drop_drop] using this
      obtain ⟨g4,g5⟩:=drop_get g3
      have hlen:at_+1+e.name.length<b.length:=(List.getElem?_eq_some_iff.1 g4).1
      have hn:=getNum_small b at_ e.name.length g1 (by omega)
      have ht:getText b at_=some (e.name,at_+1+e.name.length):=by
        unfold getText
        rw [hn]
        simp only
        rw [if_neg (by omega)]
        congr 2
        rw [List.drop_take,g2,Nat.add_sub_cancel_left]
        simp
      have hm:=getNum_small b _ e.node.toNat g4 (by omega)
      unfold scanF
      rw [if_neg (by omega),ht]
      simp only
      rw [hm]
      simp only
      rw [show ((e.node.toNat:Nat):Int)=e.node by omega]
      rw [scan_text b es fuel _ _ g5 (fun x hx=>he x (by simp [hx])) (by simp at hf; omega)]
      simp
theorem dirText_ge:∀ es:List Ent,(∀ e∈es,e.name.length≤6)→es.length≤(dirText es).length
  | [],_=>Nat.zero_le _
  | e :: es,h=>by
    have ih:=dirText_ge es fun x hx=>h x (by simp [hx])
    have h0:=h e (by simp)
    have:(dirText (e :: es)).length=(entTxt e).length+(dirText es).length:=by simp [dirText,catL]
    have h2:1≤(entTxt e).length:=by
      simp only [entTxt,putText,putNum_small (n:=(e.name.length:Int)) (by omega) (by omega)]
      simp
    simp only [List.length_cons]
    omega
theorem dirOf_text {es:List Ent} (h:entriesOk es=true):dirOf (dirText es)=(es,true):=by
  have h':=h
  simp only [entriesOk,Bool.and_eq_true] at h'
  have hn:=okFrom_names es es 0 h'.1
  have hd:=okFrom_nodes es es 0 h'.1
  have hl:=dirText_ge es fun e he=>nameH_le (hn e he)
  have:=scan_text (dirText es) es ((dirText es).length+1) 0 [] rfl (fun e he=>⟨nameH_le (hn e he),hd e he⟩) (by omega)
  unfold dirOf
  rw [this]
  simp [h]
end Go.Proofs.Ytmpgpkdijfcfhaa.Hz
