/- The decimal numeral: the reference's Digits. -/
import Derived.Test.YtmpgpkdijfcfhaaDoorHyGX
import Derived.Test.YtmpgpkdijfcfhaaDoorHyGC
import Derived.Test.YtmpgpkdijfcfhaaDoorHyGD
import Derived.Test.YtmpgpkdijfcfhaaDoorHyGE
import Derived.Shelf.Strconv.Itoa3
namespace Go.Proofs.YtmpgpkdijfcfhaaDoor.Hz
open Go.RowKit
set_option linter.unusedVariables false
set_option linter.unusedSimpArgs false
set_option maxRecDepth 20000
def decN (u:Nat):Str:=if u=0 then [] else Lib.decDigits u
theorem decN_step {u:Nat} (h:u≠0):decN u=decN (u / 10)++[UInt8.ofNat (48+u % 10)]:=by
  unfold decN
  rw [if_neg h,Lib.decDigits]
  by_cases h1:u<10
  · rw [dif_pos h1,if_pos (by omega),Nat.mod_eq_of_lt h1]; rfl
  · rw [dif_neg h1,if_neg (by omega)]
theorem decN_len:∀ (k u:Nat),u<10 ^ k→(decN u).length≤k
  | 0,u,h=>by
    have:u=0:=by simpa using h
    subst this
    exact Nat.le_refl _
  | k+1,u,h=>by
    by_cases h0:u=0
    · subst h0
      exact Nat.zero_le _
    · rw [decN_step h0,List.length_append]
      have:=decN_len k (u / 10) (by rw [Nat.pow_succ] at h; omega)
      simp
      omega
theorem itoa_decN {n:Int} (h:n≠0):Lib.itoa n=if n<0 then 45 :: decN n.natAbs else decN n.natAbs:=by
  unfold Lib.itoa decN
  have e:n.natAbs≠0:=by omega
  rw [if_neg e]
  split
  · rfl
  · rw [show n.toNat=n.natAbs by omega]
theorem digits_spec_c (n:Int) (h:Hp) (h1:-9223372036854775808≤n) (h2:n≤9223372036854775807):ACall Tryd.prog 10 [.int .i64 n] h fun r h'=>Ext h h'∧r=.string (S (Lib.itoa n)):=by
  refine acall mixed Tryd.func10 rfl (by kernel_rfl) ?_
  by_cases hn0:n=0
  · subst hn0
    simp [Tryd.f10]
    refine ⟨Ext.refl _,?_⟩
    show [48]=Lib.itoa 0
    unfold Lib.itoa
    rw [if_neg (by omega),Lib.decDigits,dif_pos (by decide)]
    rfl
  have hn2:(n == 0)=false:=by simpa using hn0
  obtain ⟨b,hb⟩:∃ b:Bool,b=decide (n<0):=⟨_,rfl⟩
  simp [Tryd.f10,hn0,hn2,← hb]
  refine aloop mixed [0,3,4] (fun (y:Int × Str × Hp)=>[.int .i64 y.1,.bool b,.string (S y.2.1)]) (fun y=>y.2.2) (fun y=>Ext h y.2.2∧y.1.natAbs≤n.natAbs∧-9223372036854775808≤y.1∧y.1≤9223372036854775807∧decN n.natAbs=decN y.1.natAbs++y.2.1) (fun y=>y.1.natAbs) (n,[],h) ⟨Ext.refl _,Nat.le_refl _,h1,h2,by simp⟩ rfl rfl ?_
  rintro ⟨m,s,H⟩ ⟨hx,hv,hm1,hm2,hs⟩
  simp only at hx hv hm1 hm2 hs
  simp [mkF]
  have hl:1+s.length≤9223372036854775807:=by
    have h3:=decN_len 20 n.natAbs (by omega)
    rw [hs,List.length_append] at h3
    omega
  by_cases m0:m=0
  · subst m0
    simp
    have e0:decN (Int.natAbs 0)=[]:=rfl
    rw [e0,List.nil_append] at hs
    have ei:=itoa_decN hn0
    rw [hs] at ei
    cases b with
    | true =>
      rw [if_pos (by simpa using hb.symm)] at ei
      simp [ei,hl]
      exact hx
    | false =>
      rw [if_neg (by simpa using hb.symm)] at ei
      simp [ei]
      exact hx
  · have m2:(m == 0)=false:=by simpa using m0
    have m3:(m != 0)=true:=by simpa using m0
    have hq:(m.tdiv 10).natAbs=m.natAbs / 10:=by rw [Int.natAbs_tdiv]; rfl
    have hr:(m.tmod 10).natAbs=m.natAbs % 10:=by rw [Int.natAbs_tmod]; rfl
    have e2:IntKind.i64.wrap (m.tdiv 10)=m.tdiv 10:=wrap_in (by omega) (by omega)
    have hst:=decN_step (u:=m.natAbs) (by omega)
    obtain ⟨d,hd,hd9⟩:∃ d:Nat,m.natAbs % 10=d∧d≤9:=⟨_,rfl,by omega⟩
    rw [hd] at hst hr
    obtain ⟨u,hu,hu'⟩:∃ u:UInt8,(u.toNat:Int)=48+(d:Int)∧u=UInt8.ofNat (48+d):=⟨UInt8.ofNat (48+d),by rw [u8_ofNat (by omega)]; omega,rfl⟩
    rw [← hu'] at hst
    have e3:IntKind.i64.wrap (48+(d:Int))=48+(d:Int):=wrap_in (by omega) (by omega)
    have e4:IntKind.u8.wrap (48+(d:Int))=48+(d:Int):=wrap_u8 (by omega) (by omega)
    rw [← hu] at e4
    rw [← hu] at e3
    have o:=Own.lit (h0:=H) (h:=H) (e:=5) (A:=byteE) (xs:=[u]) (css:=[[.int .u8 u.toNat]]) (Fs:=[[]]) (Ext.refl H) ⟨⟨rfl,rfl⟩,trivial⟩ (by simp) (by simp)
    simp at o
    by_cases hneg:m.tmod 10<0
    · have ed:m.tmod 10=-(d:Int):=by omega
      have e5:IntKind.i64.wrap (d:Int)=(d:Int):=wrap_in (by omega) (by omega)
      have hneg':-(d:Int)<0:=by omega
      have hdp:0<d:=by omega
      simp [m0,m2,m3,ed,hneg',hdp,e5,e2,← hu,e3,e4,lev_cvBS o.sl,hl]
      exact anext (m.tdiv 10,u :: s,_) ⟨hx.trans (Ext.push _ _),by simp only; omega,by simp only; omega,by simp only; omega,by simp only; rw [hs,hq,hst,List.append_assoc]; rfl⟩ (by simp only; omega) (by simp [pickF]) rfl (by simp)
    · have ed:m.tmod 10=(d:Int):=by omega
      have hneg':¬ ((d:Int)<0):=by omega
      simp [m0,m2,m3,ed,hneg',e2,← hu,e3,e4,lev_cvBS o.sl,hl]
      exact anext (m.tdiv 10,u :: s,_) ⟨hx.trans (Ext.push _ _),by simp only; omega,by simp only; omega,by simp only; omega,by simp only; rw [hs,hq,hst,List.append_assoc]; rfl⟩ (by simp only; omega) (by simp [pickF]) rfl (by simp)
end Go.Proofs.YtmpgpkdijfcfhaaDoor.Hz
