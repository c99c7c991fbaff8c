/- The decimal numeral: the reference's Digits. -/
import Derived.Test.YtmpgpkdijfcfhaaGreatDoorHyGX
import Derived.Test.YtmpgpkdijfcfhaaGreatDoorHyGP
import Derived.Shelf.Strconv.Itoa3
namespace Go.Proofs.YtmpgpkdijfcfhaaGreatDoor.Hz
open Go.RowKit
set_option linter.unusedVariables false
set_option linter.unusedSimpArgs false
set_option maxRecDepth 20000
def decN (u:Nat):Str:=if u=0 then [] else Lib.decDigits u
theorem decN_step {u:Nat} (h:u≠0):decN u=decN (u / 10)++[UInt8.ofNat (48+u % 10)]:=by
  unfold decN
  rw [if_neg h,Lib.decDigits]
  by_cases h1:u<10
  · rw [dif_pos h1,if_pos (by omega),Nat.mod_eq_of_lt h1]; rfl
  · rw [dif_neg h1,if_neg (by omega)]
theorem decN_len:∀ (k u:Nat),u<10 ^ k→(decN u).length≤k
  | 0,u,h=>by
    have:u=0:=by simpa using h
    subst this
    exact Nat.le_refl _
  | k+1,u,h=>by
    by_cases h0:u=0
    · subst h0
      exact Nat.zero_le _
    · rw [decN_step h0,List.length_append]
      have:=decN_len k (u / 10) (by rw [Nat.pow_succ] at h; omega)
      simp
      omega
theorem itoa_decN {n:Int} (h:n≠0):Lib.itoa n=if n<0 then 45 :: decN n.natAbs else decN n.natAbs:=by
  unfold Lib.itoa decN
  have e:n.natAbs≠0:=by omega
  rw [if_neg e]
  split
  · rfl
  · rw [show n.toNat=n.natAbs by omega]
end Go.Proofs.YtmpgpkdijfcfhaaGreatDoor.Hz
