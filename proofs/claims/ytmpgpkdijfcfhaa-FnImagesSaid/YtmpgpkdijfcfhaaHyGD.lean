/- Texts of the calculus and of the program's functions, merged: U NM DT EO EI MK F1 MU F2 RP. -/
import Derived.Test.YtmpgpkdijfcfhaaHyGC
import Derived.Test.YtmpgpkdijfcfhaaHyT
import Derived.Shelf.Bits.Mul64
namespace Go.Proofs.Ytmpgpkdijfcfhaa.Hz
open Go.RowKit
set_option linter.unusedVariables false
set_option linter.unusedSimpArgs false
set_option maxRecDepth 20000
def findI {α:Type} (p:α→Bool):List α→Nat→Int
  | [],_=>-1
  | x :: xs,i=>if p x then i else findI p xs (i+1)
theorem findI_drop {α:Type} (p:α→Bool) (xs:List α) (k:Nat) (hk:k<xs.length):findI p (xs.drop k) k=if p xs[k] then (k:Int) else findI p (xs.drop (k+1)) (k+1):=by
  rw [List.drop_eq_getElem_cons hk]; rfl
theorem findI_spec {α:Type} (p:α→Bool):∀ (xs:List α) (i:Nat),(findI p xs i=-1∧∀ x∈xs,p x=false)∨∃ j,∃ hj:j<xs.length,findI p xs i=((i+j:Nat):Int)∧p xs[j]=true∧∀ j',∀ hj':j'<xs.length,j'<j→p xs[j']=false
  | [],i=>.inl ⟨rfl,by simp⟩
  | x :: xs,i=>by
    cases hp:p x with
    | true=>exact .inr ⟨0,by simp,by simp [findI,hp],by simpa using hp,by omega⟩
    | false =>
      rcases findI_spec p xs (i+1) with ⟨h1,h2⟩ | ⟨j,hj,h1,h2,h3⟩
      · refine .inl ⟨by simp [findI,hp,h1],fun y hy=>?_⟩
        rcases List.mem_cons.1 hy with rfl | hy
        · exact hp
        · exact h2 y hy
      · refine .inr ⟨j+1,by simpa using hj,?_,by simpa using h2,fun j' hj' hlt=>?_⟩
        · simp only [findI,hp,h1]
          simp
          omega
        · cases j' with
          | zero=>simpa using hp
          | succ j'=>simpa using h3 j' (by simpa using hj') (by omega)
def okC (c:UInt8):Bool:=decide ((97≤c.toNat∧c.toNat≤122)∨(48≤c.toNat∧c.toNat≤57))
def nameOk (s:Str):Bool:=decide (1≤s.length∧s.length≤6) && s.all okC
theorem all_drop {α:Type} (p:α→Bool) (xs:List α) (k:Nat) (hk:k<xs.length):(xs.drop k).all p=(p xs[k] && (xs.drop (k+1)).all p):=by
  rw [List.drop_eq_getElem_cons hk]; rfl
theorem nameOk_spec_c (s:Str) (h:Hp) (hs:s.length≤9223372036854775806):ACall Try.prog 98 [.string (S s)] h fun r h'=>h'=h∧r=.bool (nameOk s):=by
  refine acall mixed Try.func98 rfl (by kernel_rfl) ?_
  simp [Try.f98]
  refine cK (within_spec_c s.length 1 6 h) ?_
  rintro _ h ⟨rfl,rfl⟩
  by_cases hr:(1:Int)≤s.length∧(s.length:Int)≤6
  · have h1:1≤s.length:=by omega
    have h2:(s.length:Int)≤6:=hr.2
    have h3:s.length≤6:=by omega
    have h5:nameOk s=s.all okC:=by simp [nameOk,h1,h3]
    rw [h5]
    have h6:(1:Int)≤s.length:=hr.1
    simp [h2,h6]
    refine aloop mixed [0,3] (fun (k:Nat)=>[.string (S s),.int .i64 k]) (fun _=>h) (fun k=>k≤s.length∧(s.drop k).all okC=s.all okC) (fun k=>s.length - k) 0 ⟨by omega,by simp⟩ rfl rfl ?_
    rintro k ⟨hk,he⟩
    simp [mkF]
    refine aSI (fun hb=>?_) (fun hb=>?_) <;> simp at hb <;> simp [hb]
    · rw [all_drop okC s k hb] at he
      cases ho:okC s[k] with
      | true =>
        rw [ho,Bool.true_and] at he
        simp [okC] at ho
        rcases ho with ⟨ha,hb2⟩ | ⟨ha,hb2⟩
        · have h7:(97:Int)≤s[k].toNat:=by omega
          have h8:(s[k].toNat:Int)≤122:=by omega
          have n7:¬ (s[k].toNat:Int)<97:=by omega
          have n8:¬ (122:Int)<s[k].toNat:=by omega
          simp [h7,h8,n7,n8,hb]
          exact anext (k+1) ⟨hb,he⟩ (by omega) (by simp [pickF,wS (show k<9223372036854775807 by omega)]) rfl (by simp)
        · have h7:(s[k].toNat:Int)<97:=by omega
          have n7:¬ (97:Int)≤s[k].toNat:=by omega
          have h9:(48:Int)≤s[k].toNat:=by omega
          have h10:(s[k].toNat:Int)≤57:=by omega
          have n9:¬ (s[k].toNat:Int)<48:=by omega
          have n10:¬ (57:Int)<s[k].toNat:=by omega
          simp [h7,n7,h9,h10,n9,n10,hb]
          exact anext (k+1) ⟨hb,he⟩ (by omega) (by simp [pickF,wS (show k<9223372036854775807 by omega)]) rfl (by simp)
      | false =>
        rw [ho,Bool.false_and] at he
        simp [okC] at ho
        obtain ⟨hA,hB⟩:=ho
        by_cases h7:(97:Int)≤s[k].toNat
        · have n7:¬ (s[k].toNat:Int)<97:=by omega
          have h8:(122:Int)<s[k].toNat:=by omega
          have n8:¬ (s[k].toNat:Int)≤122:=by omega
          have h9:(48:Int)≤s[k].toNat:=by omega
          have n9:¬ (s[k].toNat:Int)<48:=by omega
          have h10:(57:Int)<s[k].toNat:=by omega
          have n10:¬ (s[k].toNat:Int)≤57:=by omega
          simp [h7,n7,h8,n8,h9,n9,h10,n10,hb,← he]
        · have n7:(s[k].toNat:Int)<97:=by omega
          by_cases h9:(48:Int)≤s[k].toNat
          · have n9:¬ (s[k].toNat:Int)<48:=by omega
            have h10:(57:Int)<s[k].toNat:=by omega
            have n10:¬ (s[k].toNat:Int)≤57:=by omega
            simp [h7,n7,h9,n9,h10,n10,hb,← he]
          · have n9:(s[k].toNat:Int)<48:=by omega
            simp [h7,n7,h9,n9,hb,← he]
    · obtain rfl:k=s.length:=by omega
      simpa using he
  · have h5:nameOk s=false:=by simp [nameOk]; omega
    rw [h5]
    have hr2:(!decide ((1:Int)≤s.length) || !decide ((s.length:Int)≤6))=true:=by simp; omega
    simp
    refine aSI (fun hd=>?_) (fun hd=>?_) <;> simp
    simp at hd
    omega
def catL {α:Type} (f:α→Str) (xs:List α):Str:=(xs.map f).flatten
theorem catL_take {α:Type} (f:α→Str) (xs:List α) (k:Nat) (hk:k<xs.length):catL f (xs.take (k+1))=catL f (xs.take k)++f xs[k]:=by
  unfold catL
  rw [List.take_succ_eq_append_getElem hk]
  simp only [List.map_append,List.flatten_append,List.map_cons,List.map_nil,List.flatten_cons,List.flatten_nil,List.append_nil]
theorem catL_len {α:Type} {f:α→Str} {g:α→Nat} (hg:∀ x,(f x).length≤g x):∀ (xs:List α),(catL f xs).length≤sumL g xs
  | []=>Nat.le_refl _
  | x :: xs=>by
    have:=catL_len hg xs
    have h2:=hg x
    unfold catL at *
    simp only [List.map_cons,List.flatten_cons,List.length_append,sumL]
    omega
theorem sumL_take_le {α:Type} (g:α→Nat):∀ (xs:List α) (k:Nat),sumL g (xs.take k)≤sumL g xs
  | [],k=>by simp
  | x :: xs,0=>by simp [sumL]
  | x :: xs,k+1=>by
    have:=sumL_take_le g xs k
    simp only [List.take_succ_cons,sumL]; omega
theorem sumL_add {α:Type} (c:Nat) (g:α→Nat):∀ (xs:List α),sumL (fun x=>c+g x) xs=c * xs.length+sumL g xs
  | []=>rfl
  | x :: xs=>by
    have:=sumL_add c g xs
    simp only [sumL,List.length_cons,Nat.mul_add]; omega
def entTxt (e:Ent):Str:=putText e.name++putNum e.node
def dirText (es:List Ent):Str:=catL entTxt es
theorem putText_len (s:Str):(putText s).length≤5+s.length:=by
  have:=putNum_len s.length
  simp only [putText,List.length_append]; omega
theorem entTxt_len (e:Ent):(entTxt e).length≤10+e.nl:=by
  have h1:=putText_len e.name
  have h2:=putNum_len e.node
  simp only [entTxt,List.length_append,Ent.nl]; omega
theorem dirText_len (es:List Ent) (k:Nat):(dirText (es.take k)).length≤10 * es.length+sumL Ent.nl es:=by
  have h1:=catL_len entTxt_len (es.take k)
  have h2:=sumL_take_le (fun e=>10+Ent.nl e) es k
  have h3:=sumL_add 10 Ent.nl es
  unfold dirText
  omega
section
variable (es:List Ent) (a:Option Addr) (F:List Nat) (w:Bool) (t:TypeId) (h:Hp) (hr:slR w t entE h es a F) (hl:es.length≤4194304) (hn:sumL Ent.nl es≤4194304)
include hr hl hn
theorem dirText_spec_c:ACall Try.prog 112 [.slice a es.length es.length] h fun r h'=>(∃ t,h'=h++t)∧r=.string (S (dirText es)):=by
  refine acall mixed Try.func112 rfl (by kernel_rfl) ?_
  simp [Try.f112]
  have own0:=empty1 byteE h 5
  refine aloop mixed [0,3,4] (fun (x:Nat × Option Addr × Hp)=>[.slice a es.length es.length,.slice x.2.1 (dirText (es.take x.1)).length (dirText (es.take x.1)).length,.int .i64 x.1]) (fun x=>x.2.2)
    (fun x=>x.1≤es.length∧∃ F,Own h 5 byteE x.2.2 (dirText (es.take x.1)) x.2.1 F) (fun x=>es.length - x.1) (0,some ⟨h.length,0,none⟩,_) ⟨by simp,_,own0⟩ rfl rfl ?_
  rintro ⟨k,b,H⟩ ⟨hk,G,own⟩
  simp only at hk own
  simp [mkF]
  refine aSI (fun hb=>?_) (fun hb=>?_) <;> simp at hb <;> simp [hb]
  · have hnl:es[k].name.length≤4194304:=by
      have:=sumL_mem Ent.nl (List.getElem_mem hb)
      have h2:es[k].nl=es[k].name.length:=rfl
      omega
    obtain ⟨o,off,rfl,c0,c1⟩:=entAt (hr.ext own.ext) hb
    simp [hb,c0]
    refine cK (putText_spec_c es[k].name H (by omega)) ?_
    rintro _ H1 ⟨b1,G1,rfl,o1⟩
    have hd:=dirText_len es k
    have hd1:=putText_len es[k].name
    obtain ⟨b2,H2,G2,eq,own2,_⟩:=(own.grow o1.ext).appendSl (P:=Try.prog) o1.sl (st:=34) (xt:=34) (bt:=1) (z:=[.int .u8 0]) (by simp) (by simp) (by unfold big; omega) (by unfold big; omega)
    obtain ⟨o',off',ea,d0,d1⟩:=entAt (hr.ext own2.ext) hb
    obtain ⟨rfl,rfl⟩:o=o'∧off=off':=by simpa using ea
    simp [eq,hb,d1]
    refine cK (putNum_spec_c es[k].node H2) ?_
    rintro _ H3 ⟨b3,G3,rfl,o3⟩
    have hd2:=putNum_len es[k].node
    obtain ⟨b4,H4,G4,eq4,own4,_⟩:=(own2.grow o3.ext).appendSl (P:=Try.prog) o3.sl (st:=34) (xt:=34) (bt:=1) (z:=[.int .u8 0]) (by simp) (by simp) (by simp only [List.length_append]; unfold big; omega) (by simp only [List.length_append]; unfold big; omega)
    simp only [List.length_append] at eq4
    simp [eq4]
    have hcat:dirText (es.take (k+1))=dirText (es.take k)++putText es[k].name++putNum es[k].node:=by
      unfold dirText; rw [catL_take _ _ _ hb,List.append_assoc]; rfl
    refine anext (k+1,b4,H4) ⟨hb,G4,by simp only; rw [hcat]; exact own4⟩ (by simp only; omega) (by simp [pickF,hcat,Nat.add_assoc,wS (show k<9223372036854775807 by omega)]) rfl (by simp)
  · obtain rfl:k=es.length:=by omega
    rw [List.take_length] at *
    simp [lev_cvBS own.sl]
    exact own.ext.pre
end
theorem less_total:∀ (a b:Str),(!Op.bytesLess a b)=(Op.bytesLess b a || b == a)
  | [],[]=>by simp [Op.bytesLess]
  | [],y :: ys=>by simp [Op.bytesLess]
  | x :: xs,[]=>by simp [Op.bytesLess]
  | x :: xs,y :: ys=>by
    have ih:=less_total xs ys
    simp only [Op.bytesLess]
    by_cases h1:x<y
    · have h2:¬ y<x:=fun h=>by simp only [UInt8.lt_iff_toNat_lt] at *; omega
      have h3:y≠x:=fun h=>by subst h; exact h2 h1
      simp [h1,h2,h3]
    · by_cases h2:y<x
      · have h3:x≠y:=fun h=>by subst h; exact h1 h2
        simp [h1,h2,h3]
      · have h3:x=y:=by
          apply UInt8.toNat_inj.1
          simp only [UInt8.lt_iff_toNat_lt] at *; omega
        subst h3
        simp [h1]
        simpa using ih
def nameH (s:Str):Bool:=s == [126] || nameOk s
def okAt (es:List Ent) (i:Nat) (e:Ent):Bool :=
  nameH e.name && decide (1≤e.node∧e.node≤9) && (match i with | 0=>true | j+1=>match es[j]? with | some x=>Op.bytesLess x.name e.name | none=>true) && (es.take i).all (fun x=>!(x.node == e.node))
theorem okAt_zero (es:List Ent) (e:Ent) (k:Nat) (hk:k=0):okAt es k e=(nameH e.name && decide (1≤e.node∧e.node≤9) && (es.take k).all (fun x=>!(x.node == e.node))):=by subst hk; simp [okAt]
theorem okAt_pos (es:List Ent) (e:Ent) (k:Nat) (h0:0<k) (hk:k - 1<es.length):okAt es k e=(nameH e.name && decide (1≤e.node∧e.node≤9) && Op.bytesLess es[k - 1].name e.name && (es.take k).all (fun x=>!(x.node == e.node))):=by
  cases k with
  | zero=>omega
  | succ j =>
    have hj:j<es.length:=by omega
    simp only [okAt,Nat.add_sub_cancel]
    rw [List.getElem?_eq_getElem hj]
def okFrom (es:List Ent):List Ent→Nat→Bool
  | [],_=>true
  | e :: l,i=>okAt es i e && okFrom es l (i+1)
def entriesOk (es:List Ent):Bool:=okFrom es es 0 && decide ((dirText es).length≤80)
theorem okFrom_drop (es:List Ent) (k:Nat) (hk:k<es.length):okFrom es (es.drop k) k=(okAt es k es[k] && okFrom es (es.drop (k+1)) (k+1)):=by
  rw [List.drop_eq_getElem_cons hk]; rfl
theorem nameH_spec_c (s:Str) (h:Hp) (hs:s.length≤9223372036854775806):ACall Try.prog 119 [.string (S s)] h fun r h'=>h'=h∧r=.bool (nameH s):=by
  refine acall mixed Try.func119 rfl (by kernel_rfl) ?_
  simp [Try.f119]
  cases hd:s == [126] with
  | true=>simp [hd,nameH]
  | false =>
    simp [hd,nameH]
    refine cK (nameOk_spec_c s h hs) ?_
    rintro _ h ⟨rfl,rfl⟩
    simp [hd]
section
variable (es:List Ent) (a:Option Addr) (F:List Nat) (w:Bool) (t:TypeId) (h:Hp) (hr:slR w t entE h es a F) (hl:es.length≤4194304) (hn:sumL Ent.nl es≤4194304)
include hr hl hn
theorem entriesOk_spec_c:ACall Try.prog 116 [.slice a es.length es.length] h fun r h'=>(∃ t,h'=h++t)∧r=.bool (entriesOk es):=by
  refine acall mixed Try.func116 rfl (by kernel_rfl) ?_
  simp [Try.f116]
  refine aloop mixed [0,3] (fun (k:Nat)=>[.slice a es.length es.length,.int .i64 k]) (fun _=>h) (fun k=>k≤es.length∧okFrom es (es.drop k) k=okFrom es es 0) (fun k=>es.length - k) 0 ⟨by omega,by simp⟩ rfl rfl ?_
  rintro k ⟨hk,he⟩
  simp [mkF]
  refine aSI (fun hb=>?_) (fun hb=>?_) <;> simp at hb <;> simp [hb]
  · have hnl:es[k].name.length≤4194304:=by
      have:=sumL_mem Ent.nl (List.getElem_mem hb)
      have h2:es[k].nl=es[k].name.length:=rfl
      omega
    obtain ⟨o,off,rfl,c0,c1⟩:=entAt hr hb
    rw [okFrom_drop es k hb] at he
    refine drawK false (by kernel_rfl) ?_
    simp [hb,c0]
    refine cK (nameH_spec_c es[k].name h (by omega)) ?_
    rintro _ h ⟨rfl,rfl⟩
    simp
    cases h1:nameH es[k].name with
    | false =>
      have:okFrom es es 0=false:=by rw [← he]; simp [okAt,h1]
      simp [entriesOk,this]
    | true =>
      simp [hb,c1]
      refine cK (within_spec_c es[k].node 1 9 h) ?_
      rintro _ h ⟨rfl,rfl⟩
      by_cases h2:1≤es[k].node∧es[k].node≤9
      · have h3:=h2.1
        have h4:=h2.2
        by_cases hk0:k=0
        · have hneg:¬ 0<k:=by omega
          have hokp:=okAt_zero es es[k] k hk0
          simp [h3,h4,hneg]
          refine aloop mixed [0,3,4] (fun (j:Nat)=>[.slice (some ⟨o,off,none⟩) es.length es.length,.int .i64 k,.int .i64 j]) (fun _=>h) (fun j=>j≤k∧(es.take j).all (fun x=>!(x.node == es[k].node))=true) (fun j=>k - j) 0 ⟨by omega,by simp⟩ (by simp [pickF]) rfl ?_
          rintro j ⟨hj,hje⟩
          simp [mkF]
          refine aSI (fun hc=>?_) (fun hc=>?_) <;> simp at hc <;> simp [hc]
          · have hjl:j<es.length:=by omega
            obtain ⟨o',off',ea2,e0,e1⟩:=entAt hr hjl
            obtain ⟨rfl,rfl⟩:o=o'∧off=off':=by cases ea2; exact ⟨rfl,rfl⟩
            refine drawK false (by kernel_rfl) ?_
            simp [hjl,hb,e1,c1]
            refine aSI (fun hq=>?_) (fun hq=>?_) <;> simp at hq <;> simp
            · have hall:(es.take k).all (fun x=>!(x.node == es[k].node))=false:=by
                rw [Bool.eq_false_iff]
                intro hh
                rw [List.all_eq_true] at hh
                have:=hh es[j] (List.mem_take_iff_getElem.2 ⟨j,by omega,rfl⟩)
                simp [hq] at this
              have:okFrom es es 0=false:=by rw [← he,hokp,hall]; simp
              simp [entriesOk,this]
            · have hnx:(es.take (j+1)).all (fun x=>!(x.node == es[k].node))=true:=by
                rw [List.take_succ_eq_append_getElem hjl,List.all_append,hje]; simp [hq]
              exact anext (j+1) ⟨hc,by simpa using hnx⟩ (by omega) (by simp [pickF,wS (show j<9223372036854775807 by omega)]) rfl (by simp)
          · obtain rfl:j=k:=by omega
            have hA:okAt es j es[j]=true:=by rw [hokp,hje]; simp [h1,h3,h4]
            rw [hA,Bool.true_and] at he
            exact anext (j+1) ⟨hb,he⟩ (by omega) (by simp [pickF,wS (show j<9223372036854775807 by omega)]) rfl (by simp)
        · have hk1:k - 1<es.length:=by omega
          have wk:IntKind.i64.wrap ((k:Int) - 1)=((k - 1:Nat):Int):=by rw [wrap_in (by omega) (by omega)]; omega
          have hpos:(0:Int)<k:=by omega
          obtain ⟨o',off',ea,d0,d1⟩:=entAt hr hk1
          obtain ⟨rfl,rfl⟩:o=o'∧off=off':=by simpa using ea
          have hokp:=okAt_pos es es[k] k (by omega) hk1
          have hls:=less_total es[k - 1].name es[k].name
          cases hle:Op.bytesLess es[k - 1].name es[k].name with
          | false =>
            rw [hle] at hls
            have hls2:(Op.bytesLess es[k].name es[k - 1].name || es[k].name == es[k - 1].name)=true:=hls.symm
            have:okFrom es es 0=false:=by rw [← he,hokp,hle]; simp
            simp [h3,h4,hpos,Nat.pos_of_ne_zero hk0,hb,c0,wk,hk1,d0,hls2,entriesOk,this]
          | true =>
          rw [hle] at hls
          have hls2:(Op.bytesLess es[k].name es[k - 1].name || es[k].name == es[k - 1].name)=false:=hls.symm
          simp [h3,h4,hpos,Nat.pos_of_ne_zero hk0,hb,c0,wk,hk1,d0,hls2]
          refine aloop mixed [0,3,4] (fun (j:Nat)=>[.slice (some ⟨o,off,none⟩) es.length es.length,.int .i64 k,.int .i64 j]) (fun _=>h) (fun j=>j≤k∧(es.take j).all (fun x=>!(x.node == es[k].node))=true) (fun j=>k - j) 0 ⟨by omega,by simp⟩ (by simp [pickF]) rfl ?_
          rintro j ⟨hj,hje⟩
          simp [mkF]
          refine aSI (fun hc=>?_) (fun hc=>?_) <;> simp at hc <;> simp [hc]
          · have hjl:j<es.length:=by omega
            obtain ⟨o',off',ea2,e0,e1⟩:=entAt hr hjl
            obtain ⟨rfl,rfl⟩:o=o'∧off=off':=by cases ea2; exact ⟨rfl,rfl⟩
            refine drawK false (by kernel_rfl) ?_
            simp [hjl,hb,e1,c1]
            refine aSI (fun hq=>?_) (fun hq=>?_) <;> simp at hq <;> simp
            · have hall:(es.take k).all (fun x=>!(x.node == es[k].node))=false:=by
                rw [Bool.eq_false_iff]
                intro hh
                rw [List.all_eq_true] at hh
                have:=hh es[j] (List.mem_take_iff_getElem.2 ⟨j,by omega,rfl⟩)
                simp [hq] at this
              have:okFrom es es 0=false:=by rw [← he,hokp,hall]; simp
              simp [entriesOk,this]
            · have hnx:(es.take (j+1)).all (fun x=>!(x.node == es[k].node))=true:=by
                rw [List.take_succ_eq_append_getElem hjl,List.all_append,hje]; simp [hq]
              exact anext (j+1) ⟨hc,by simpa using hnx⟩ (by omega) (by simp [pickF,wS (show j<9223372036854775807 by omega)]) rfl (by simp)
          · obtain rfl:j=k:=by omega
            have hA:okAt es j es[j]=true:=by rw [hokp,hje]; simp [h1,h3,h4,hle]
            rw [hA,Bool.true_and] at he
            exact anext (j+1) ⟨hb,he⟩ (by omega) (by simp [pickF,wS (show j<9223372036854775807 by omega)]) rfl (by simp)
      · have h3:(decide (1≤es[k].node) && decide (es[k].node≤9))=false:=by simpa using h2
        have h4:(!decide (1≤es[k].node) || !decide (es[k].node≤9))=true:=by simp; omega
        have:okFrom es es 0=false:=by
          rw [← he]
          have h5:okAt es k es[k]=false:=by unfold okAt; simp [h2]
          simp [h5]
        simp [h3,h4,entriesOk,this]
  · obtain rfl:k=es.length:=by omega
    have h0:okFrom es es 0=true:=by rw [← he]; simp [okFrom]
    refine cK (dirText_spec_c es a F w t h hr hl hn) ?_
    rintro _ _ ⟨⟨t1,rfl⟩,rfl⟩
    simp [entriesOk,h0]
    omega
end
set_option maxHeartbeats 1000000
section
variable (es:List Ent) (a:Option Addr) (F:List Nat) (w:Bool) (h:Hp) (hr:slR w 124 entE h es a F) (hl:es.length≤4194304) (hn:sumL Ent.nl es≤4194304)
include hr hl hn
end
theorem intEAt {h:Hp} {w:Bool} {t:TypeId} {es:List Int} {a:Option Addr} {F:List Nat} (k:slR w t intE h es a F) {i:Nat} (hi:i<es.length):∃ o off,a=some ⟨o,off,none⟩∧cellAt h o (off+i)=some (.int .i64 es[i]):=by
  obtain ⟨o,off,c,Fi,rfl,⟨rfl,_⟩,-,hc⟩:=k.at_ (List.getElem?_eq_getElem hi)
  have:=hc 0 (by decide)
  exact ⟨o,off,rfl,by simpa [intE,flatE] using this⟩
theorem strEAt {h:Hp} {w:Bool} {t:TypeId} {es:List Str} {a:Option Addr} {F:List Nat} (k:slR w t strE h es a F) {i:Nat} (hi:i<es.length):∃ o off,a=some ⟨o,off,none⟩∧cellAt h o (off+i)=some (.string (S es[i])):=by
  obtain ⟨o,off,c,Fi,rfl,⟨rfl,_⟩,-,hc⟩:=k.at_ (List.getElem?_eq_getElem hi)
  have:=hc 0 (by decide)
  exact ⟨o,off,rfl,by simpa [strE,flatE] using this⟩
structure Node where
  kind:Int
  gen:Int
  time:Int
  size:Int
  blocks:List Int
  deriving DecidableEq
def Node.nl (x:Node):Nat:=x.blocks.length
def Node.bd (x:Node):Prop:=x.blocks.length≤maxLen
def Node.lim (x:Node):Prop:=x.blocks.length≤1048576
def nodeE (w:Bool) :Enc Node where
  n:=5
  R h x cs F:=∃ a1 F1,cs=[.int .i64 x.kind,.int .i64 x.gen,.int .i64 x.time,.int .i64 x.size,.slice a1 x.blocks.length x.blocks.length]∧F=F1∧slR w 3 intE h x.blocks a1 F1
  len:=by rintro h x cs F ⟨a1,F1,rfl,_⟩; rfl
  ok:=by rintro h x cs F ⟨a1,F1,rfl,_⟩; rfl
  frame:=by rintro h h' x cs F ⟨a1,F1,rfl,rfl,k1⟩ hf; exact ⟨a1,_,rfl,rfl,k1.frame fun q hq=>hf q (by simp [hq])⟩
  lt:=by rintro h x cs F ⟨a1,F1,rfl,rfl,k1⟩ q hq; exact k1.lt q hq
theorem Node.lim_of (x:Node) (h:x.nl≤1048576):x.lim:=show x.blocks.length≤1048576 by simp only [Node.nl] at h; omega
theorem nodeAt {h:Hp} {w:Bool} {t:TypeId} {es:List Node} {a:Option Addr} {F:List Nat} (k:slR w t (nodeE w) h es a F) {i:Nat} (hi:i<es.length):∃ o off b1 G1,a=some ⟨o,off,none⟩∧cellAt h o (off+i * 5)=some (.int .i64 es[i].kind)∧cellAt h o (off+i * 5+1)=some (.int .i64 es[i].gen)∧cellAt h o (off+i * 5+2)=some (.int .i64 es[i].time)∧cellAt h o (off+i * 5+3)=some (.int .i64 es[i].size)∧cellAt h o (off+i * 5+4)=some (.slice b1 es[i].blocks.length es[i].blocks.length)∧slR w 3 intE h es[i].blocks b1 G1∧(∀ q∈G1,q∈F):=by
  obtain ⟨o,off,c,Fi,rfl,⟨b1,G1,rfl,rfl,k1⟩,hq,hc⟩:=k.at_ (List.getElem?_eq_getElem hi)
  exact ⟨o,off,b1,_,rfl,hc 0 (by show _<5; omega),hc 1 (by show _<5; omega),hc 2 (by show _<5; omega),hc 3 (by show _<5; omega),hc 4 (by show _<5; omega),k1,fun q hq'=>hq q (by simp [hq'])⟩
structure Fs where
  nodes:List Node
  data:List Str
  deriving DecidableEq
def Fs.nl (x:Fs):Nat:=x.nodes.length+sumL Node.nl x.nodes+x.data.length+sumL List.length x.data
def Fs.bd (x:Fs):Prop:=x.nodes.length≤maxLen∧(∀ y∈x.nodes,y.bd)∧x.data.length≤maxLen∧(∀ s∈x.data,s.length≤maxLen)
def Fs.lim (x:Fs):Prop:=x.nodes.length≤1048576∧(∀ y∈x.nodes,y.lim)∧x.data.length≤1048576
theorem Fs.lim_of (x:Fs) (h:x.nl≤1048576):x.lim:=⟨show x.nodes.length≤1048576 by simp only [Fs.nl] at h; omega,fun y hy=>Node.lim_of y (by have:=sumL_mem Node.nl hy; simp only [Fs.nl] at h; omega),show x.data.length≤1048576 by simp only [Fs.nl] at h; omega⟩
def plainV:Value→Bool
  | .int _ _ | .string _ | .bool _=>true
  | _=>false
theorem relV_plain {φ:Inj} {a v:Value} (h:plainV a=true) (r:RelV φ a v):v=a:=by
  cases a <;> simp [plainV] at h <;> exact r
theorem all2_plain {φ:Inj}:∀ {xs vs:List Value},xs.all plainV=true→All2 (RelV φ) xs vs→vs=xs
  | [],_,_,r=>by rw [All2.nil_iff] at r; exact r
  | a :: xs,vs,h,r=>by
    obtain ⟨b,bs,rfl,h1,h2⟩:=All2.cons_iff.1 r
    simp only [List.all_cons,Bool.and_eq_true] at h
    rw [relV_plain h.1 h1,all2_plain h.2 h2]
theorem ACall.same {P:Program} {f:FuncId} {fn:Func} {c:Code} {args:List Value} {h:Hp} {v:Value} (hf:P.funcs[f]?=some fn) (hb:fn.body=some c) (hn:(fn.name == "runtime.NumGoroutine")=false)
    (hs:args.all plainV=true) (hv:∀ φ,RelV φ v v) (k:∀ w,Calls P f args.toArray w fun e w'=>e=.returned v∧w'=w):ACall P f args h fun r h'=>h'=h∧r=v:=by
  intro B w0 φ w args' R ha
  obtain rfl:=all2_plain hs ha
  have hen:(callFunc f args'.toArray).run P w=.ok (.enter f args'.toArray) w:=by
    unfold callFunc
    simp only [Sem.run_bind,run_program,Result.andThen_ok,hf]
    simp [hn,hb]
  unfold CallsV
  rw [hen]
  refine (k w).mono ?_
  rintro e w' ⟨rfl,rfl⟩
  exact ⟨v,rfl,φ,v,h,List.prefix_rfl,R,hv φ,rfl,rfl⟩
def mulRen:Shelf.Ren:=⟨fun _=>108,fun x=>if x=46 then 82 else 120,fun x=>x⟩
theorem mulLays:Go.Proofs.Lays.n264 Try.prog mulRen where
  mixed:=mixed
  f264:=by kernel_rfl
  t46:=by kernel_rfl
  a46:=fun _=>by kernel_rfl
  z46:=fun _=>by kernel_rfl
  v46:=fun _=>by kernel_rfl
  t53:=by kernel_rfl
  a53:=fun _=>by kernel_rfl
  z53:=fun _=>by kernel_rfl
  v53:=fun _=>by kernel_rfl
theorem mul64_c (m:Nat) (hm:m≤1048576) (h:Hp):ACall Try.prog 108 [.int .u64 1,.int .u64 m] h fun r h'=>h'=h∧r=.tuple #[.int .u64 0,.int .u64 m]:=by
  refine ACall.same Try.func108 rfl (by kernel_rfl) rfl (fun φ=>⟨_,rfl,rfl,rfl,trivial⟩) fun w=>?_
  have:=Any.bits_Mul64 mulLays 1 m (by omega) (by omega) w
  have e1:1 * m / 18446744073709551616=0:=by omega
  have e2:1 * m % 18446744073709551616=m:=by omega
  rw [e1,e2] at this
  exact this
theorem mul_c (m:Nat) (hm:m≤1048576) (h:Hp):ACall Try.prog 95 [.int .u64 1,.int .u64 m] h fun r h'=>h'=h∧r=.tuple #[.int .u64 0,.int .u64 m]:=by
  refine acall mixed Try.func95 rfl (by kernel_rfl) ?_
  simp [Try.f95]
  refine cK (mul64_c m hm _) ?_
  rintro _ _ ⟨rfl,rfl⟩
  simp
theorem wrap_u64 {n:Int} (h1:0≤n) (h2:n≤9223372036854775807):IntKind.u64.wrap n=n:=by
  simp only [IntKind.wrap,IntKind.bits,IntKind.signed]
  simp
  omega
theorem setL_rep (n m k:Nat) (v z:Value) (hk:k≤m):setL (List.replicate n v++List.replicate m z) n (List.replicate k v)=List.replicate (n+k) v++List.replicate (m - k) z:=by
  have e1:n=(List.replicate n v).length+0:=by simp
  conv=>lhs; arg 2; rw [e1]
  rw [setL_append_right]
  have e2:List.replicate m z=List.replicate k z++List.replicate (m - k) z:=by rw [List.replicate_append_replicate]; congr 1; omega
  rw [e2,setL_append_left _ _ _ _ (by simp),setL_all _ _ (by simp),← List.append_assoc,List.replicate_append_replicate]
theorem setsAt_one (i:Nat) (ob:Ob):∀ (vs:List Value),sA_ [ob] 0 i vs=[⟨ob.live,ob.rw,ob.elem,setL ob.cells i vs⟩]:=by
  have key:∀ (vs:List Value) (i:Nat) (ob:Ob),sA_ [ob] 0 i vs=[⟨ob.live,ob.rw,ob.elem,setL ob.cells i vs⟩]:=by
    intro vs
    induction vs with
    | nil=>intro i ob; rfl
    | cons v vs ih=>intro i ob; rw [setsAt_hd,ih]; rfl
  exact fun vs=>key vs i ob
theorem cellsAt_rep (h:Hp) (e:TypeId) (n m k:Nat) (v z:Value) (hk:k≤n):cellsAt (h++[⟨true,true,e,List.replicate n v++List.replicate m z⟩]) h.length 0 k=some (List.replicate k v):=by
  have:=cellsAt_of (h:=h++[⟨true,true,e,List.replicate n v++List.replicate m z⟩]) (o:=h.length) (cs:=List.replicate k v) (i:=0) (fun j hj=>by
    simp only [List.length_replicate] at hj
    rw [cellAt_app0]
    show (List.replicate n v++List.replicate m z)[0+j]?=_
    rw [Nat.zero_add,List.getElem?_append_left (by simp; omega),List.getElem?_replicate,List.getElem?_replicate,if_pos (by omega),if_pos hj])
  simpa using this
theorem acopy_rep {t:TypeId} {e bt:Nat} {z0:List Value} (hel:elOf Try.prog t=some (e,1,bt,z0)) (h:Hp) (n m:Nat) (v z:Value) (hn:0<n) (hm:0<m) :
    acopy Try.prog (h++[⟨true,true,e,List.replicate n v++List.replicate m z⟩]) t (.slice (some ⟨h.length,n,none⟩) m m) (.slice (some ⟨h.length,0,none⟩) n (n+m)) =
      some (.int .i64 (min n m:Nat),h++[⟨true,true,e,List.replicate (n+min n m) v++List.replicate (m - min n m) z⟩]):=by
  have h0:¬ (min n m=0):=by omega
  have hcan:cS_ (h++[⟨true,true,e,List.replicate n v++List.replicate m z⟩]) h.length n (min n m)=true:=by
    rw [canSet_app0]
    simp [canSet_hd]
    exact Nat.min_le_right n m
  have hc:=cellsAt_rep h e n m (min n m) v z (by omega)
  simp only [acopy,hel,Option.bind_some,h0,if_false,Nat.mul_one,hcan,if_true,hc,Option.map_some]
  rw [setsAt_app0,setsAt_one,setL_rep _ _ _ _ _ (Nat.min_le_right n m)]
theorem acopy_first {t:TypeId} {e bt:Nat} {z0:List Value} (hel:elOf Try.prog t=some (e,1,bt,z0)) (h:Hp) (m:Nat) (v z:Value) (o off:Nat) (ho:cellAt h o off=some v) (hm:0<m) :
    acopy Try.prog (h++[⟨true,true,e,List.replicate m z⟩]) t (.slice (some ⟨h.length,0,none⟩) m m) (.slice (some ⟨o,off,none⟩) 1 1) =
      some (.int .i64 1,h++[⟨true,true,e,List.replicate 1 v++List.replicate (m - 1) z⟩]):=by
  have h1:min 1 m=1:=by omega
  have hlt:o<h.length:=by
    obtain ⟨ob,ho,_⟩:=cellAt_some ho
    exact (List.getElem?_eq_some_iff.1 ho).1
  have hcan:cS_ (h++[⟨true,true,e,List.replicate m z⟩]) h.length 0 1=true:=by
    rw [canSet_app0]
    simp [canSet_hd]
    omega
  have hc:cellsAt (h++[⟨true,true,e,List.replicate m z⟩]) o off 1=some [v]:=by
    have:cellAt (h++[⟨true,true,e,List.replicate m z⟩]) o off=some v:=by rw [cellAt_ext (Ext.push h _) hlt]; exact ho
    simp [this]
  simp only [acopy,hel,Option.bind_some,h1,Nat.mul_one,hcan,if_true,hc,Option.map_some]
  rw [setsAt_app0,setsAt_one]
  have:=setL_rep 0 m 1 v z (by omega)
  simp only [List.replicate_zero,List.nil_append,Nat.zero_add] at this
  have e1:([v]:List Value)=List.replicate 1 v:=rfl
  rw [e1,this]
  simp
theorem rep_one (n:Nat) (v:Value):Hz.rep n [v]=List.replicate n v:=by
  induction n with
  | zero=>rfl
  | succ n ih=>rw [rep_succ,ih,List.replicate_succ]; rfl
theorem repeat_c (N:Nat) (h1:1≤N) (hN:N≤1048576) (a:Option Addr) (F:List Nat) (w:Bool) (t:TypeId) (h:Hp) (hr:slR w t intE h [-1] a F) :
    ACall Try.prog 67 [.slice a 1 1,.int .i64 N] h fun r h'=>∃ a' F',r=.slice a' N N∧Own h 3 intE h' (List.replicate N (-1)) a' F':=by
  refine acall mixed Try.func67 rfl (by kernel_rfl) ?_
  have hN':(N:Int)≤1048576:=by omega
  have w1:IntKind.u64.wrap (N:Int)=N:=wrap_u64 (by omega) (by omega)
  have w2:IntKind.u64.wrap 1=1:=wrap_u64 (by omega) (by omega)
  have w3:IntKind.i64.wrap (N:Int)=N:=wrap_in (by omega) (by omega)
  have hneg:¬ ((N:Int)<0):=by omega
  have hbig:¬ (9223372036854775807<(N:Int)):=by omega
  have hb1:(N:Int) * 8≤(big:Int):=by unfold big; omega
  have hb2:N≤big:=by unfold big; omega
  simp [Try.f67,w1,w2,hneg]
  refine cK (mul_c N hN _) ?_
  rintro _ h ⟨rfl,rfl⟩
  obtain ⟨o,off,rfl,c0⟩:=intEAt hr (i:=0) (by simp)
  simp only [Nat.add_zero,List.getElem_cons_zero] at c0
  have hcp:=acopy_first (t:=47) (e:=3) (bt:=8) (z0:=[.int .i64 0]) (by simp) h N (.int .i64 (-1)) (.int .i64 0) o off c0 h1
  simp [hbig,w3,hb1,hb2,rep_one,hcp]
  refine aloop mixed [7,8] (fun (n:Nat)=>[.slice (some ⟨h.length,0,none⟩) N N,.int .i64 n]) (fun n=>h++[⟨true,true,3,List.replicate n (.int .i64 (-1))++List.replicate (N - n) (.int .i64 0)⟩]) (fun n=>1≤n∧n≤N) (fun n=>N - n) 1 ⟨Nat.le_refl _,h1⟩ rfl (by simp) ?_
  rintro n ⟨hn1,hn2⟩
  simp [mkF]
  refine aSI (fun hb=>?_) (fun hb=>?_) <;> simp at hb <;> simp [hb]
  · have hcp2:=acopy_rep (t:=47) (e:=3) (bt:=8) (z0:=[.int .i64 0]) (by simp) h n (N - n) (.int .i64 (-1)) (.int .i64 0) (by omega) (by omega)
    have hs:n+(N - n)=N:=by omega
    rw [hs] at hcp2
    have wk:IntKind.i64.wrap ((n:Int)+(min n (N - n):Nat))=((n+min n (N - n):Nat):Int):=by rw [wrap_in (by omega) (by omega)]; omega
    refine drawK false (by kernel_rfl) ?_
    simp [asl2_i,asl2_j,hn2,hcp2]
    exact anext (n+min n (N - n)) ⟨by omega,by omega⟩ (by omega) (by simp [pickF,wk]) (by simp [Nat.sub_sub]) (by simp)
  · obtain rfl:n=N:=by omega
    have:=Own.rep (A:=intE) h 3 n (z:=-1) (zs:=[.int .i64 (-1)]) ⟨rfl,rfl⟩
    rw [rep_one] at this
    simpa using ⟨_,this⟩
end Go.Proofs.Ytmpgpkdijfcfhaa.Hz
