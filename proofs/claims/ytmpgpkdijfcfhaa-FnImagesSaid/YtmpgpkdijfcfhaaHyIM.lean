/- Images and their texts: what is written is read back; a change carries one list over into the other. No program in sight. -/
import Derived.Test.YtmpgpkdijfcfhaaHyJA
import Derived.Test.YtmpgpkdijfcfhaaHyGW
namespace Go.Proofs.Ytmpgpkdijfcfhaa.Hz
open Go.RowKit
set_option linter.unusedVariables false
set_option linter.unusedSimpArgs false
set_option maxRecDepth 20000
theorem or_addM {n m k:Nat} (h:n<2 ^ (7 * k)):n ||| m * 2 ^ (7 * k)=n+m * 2 ^ (7 * k):=by
  have:=Nat.shiftLeft_add_eq_or_of_lt h m
  rw [Nat.shiftLeft_eq] at this
  rw [Nat.or_comm,← this,Nat.add_comm]
theorem gn_step (b:Str) (at_:Nat) (post:Str) (fuel k n m:Nat) (hd:b.drop (at_+k)=numB m++post) (h:m<128) (hn:n<2 ^ (7 * k)) (hk:0<k→0<m) (hb:n+m * 2 ^ (7 * k)≤2147483647):gnF b at_ (fuel+1) k n=some (n+m * 2 ^ (7 * k),at_+k+(numB m).length):=by
  rw [numB_lt h] at hd ⊢
  have hx:b[at_+k]?=some (UInt8.ofNat m):=by
    have:=congrArg (fun l=>l[0]?) hd
    simpa using this
  have h1:(UInt8.ofNat m).toNat=m:=by rw [UInt8.toNat_ofNat']; omega
  unfold gnF
  rw [hx]
  simp only [h1]
  rw [if_neg (by omega),Nat.mod_eq_of_lt h,or_addM hn,if_neg (by omega)]
  rfl
theorem gn_round (b:Str) (at_:Nat) (post:Str):∀ (fuel k n m:Nat),b.drop (at_+k)=numB m++post→m<128 ^ (fuel+1)→n<2 ^ (7 * k)→(0<k→0<m)→n+m * 2 ^ (7 * k)≤2147483647→gnF b at_ (fuel+1) k n=some (n+m * 2 ^ (7 * k),at_+k+(numB m).length)
  | 0,k,n,m,hd,hm,hn,hk,hb=>gn_step b at_ post 0 k n m hd (by simpa using hm) hn hk hb
  | fuel+1,k,n,m,hd,hm,hn,hk,hb=>by
    by_cases h:m<128
    · exact gn_step b at_ post (fuel+1) k n m hd h hn hk hb
    · rw [numB_ge h] at hd ⊢
      have hx:b[at_+k]?=some (UInt8.ofNat (m % 128+128)):=by
        have:=congrArg (fun l=>l[0]?) hd
        simpa using this
      have hd2:b.drop (at_+(k+1))=numB (m / 128)++post:=by
        have:=congrArg (List.drop 1) hd
        rw [List.drop_drop] at this
        simpa [Nat.add_assoc] using this
      have h1:(UInt8.ofNat (m % 128+128)).toNat=m % 128+128:=by rw [UInt8.toNat_ofNat']; omega
      have h2:(m % 128+128) % 128=m % 128:=by omega
      have e:2 ^ (7 * (k+1))=128 * 2 ^ (7 * k):=by rw [Nat.mul_add,Nat.pow_add,Nat.mul_comm]
      have hsum:n+m % 128 * 2 ^ (7 * k)+m / 128 * 2 ^ (7 * (k+1))=n+m * 2 ^ (7 * k):=by
        have hm2:m=m / 128 * 128+m % 128:=by omega
        rw [e,← Nat.mul_assoc]
        conv=>rhs; rw [hm2,Nat.add_mul]
        omega
      have hn2:n+m % 128 * 2 ^ (7 * k)<2 ^ (7 * (k+1)):=by
        rw [← or_addM hn]
        exact gn_lt hn (by omega)
      have ih:=gn_round b at_ post fuel (k+1) (n+m % 128 * 2 ^ (7 * k)) (m / 128) hd2 (by rw [Nat.div_lt_iff_lt_mul (by decide)]; rw [Nat.pow_succ] at hm; exact hm) hn2 (fun _=>by omega) (by rw [hsum]; exact hb)
      rw [hsum] at ih
      unfold gnF
      rw [hx]
      simp only [h1]
      rw [if_pos (by omega),h2,or_addM hn,ih]
      simp only [List.length_cons,Option.some.injEq,Prod.mk.injEq,true_and]
      omega
theorem getNum_put {b post:Str} {at_:Nat} {n:Nat} (h:b.drop at_=putNum n++post) (hn:n≤2147483647):getNum b at_=some (n,at_+(putNum n).length):=by
  have hp:putNum (n:Int)=numB n:=by unfold putNum; rw [if_pos (by omega)]; rfl
  rw [hp] at h ⊢
  have:=gn_round b at_ post 4 0 0 n (by simpa using h) (by omega) (by simp) (fun h=>by omega) (by simpa using hn)
  unfold getNum
  rw [this]
  simp
theorem numB_pos (n:Nat):0<(numB n).length:=by
  by_cases h:n<128
  · rw [numB_lt h]; simp
  · rw [numB_ge h]; simp
theorem numF_round (b:Str):∀ (l:List Int) (fuel at_:Nat) (acc:List Int),(∀ x∈l,0≤x∧x≤2147483647)→at_≤b.length→b.drop at_=numsText l→b.length<at_+fuel→numF b fuel at_ acc=some (acc++l)
  | [],fuel,at_,acc,_,ha,hd,hf=>by
    have:b.length - at_=0:=by
      have:=congrArg List.length hd
      simpa [numsText,catL] using this
    obtain ⟨f,rfl⟩:∃ f,fuel=f+1:=⟨fuel - 1,by omega⟩
    unfold numF
    rw [if_neg (by omega)]
    simp
  | x :: l,fuel,at_,acc,hx,ha,hd,hf=>by
    have hxb:=hx x (by simp)
    obtain ⟨n,rfl⟩:=Int.eq_ofNat_of_zero_le hxb.1
    have hd2:b.drop at_=putNum n++numsText l:=hd
    have hp:putNum (n:Int)=numB n:=by unfold putNum; rw [if_pos (by omega)]; rfl
    have hpos:=numB_pos n
    have hlen:=congrArg List.length hd2
    rw [List.length_drop,List.length_append,hp] at hlen
    obtain ⟨f,rfl⟩:∃ f,fuel=f+1:=⟨fuel - 1,by omega⟩
    unfold numF
    rw [if_pos (by omega),getNum_put hd2 (by omega)]
    simp only
    rw [hp]
    rw [numF_round b l f (at_+(numB n).length) (acc++[(n:Int)]) (fun y hy=>hx y (by simp [hy])) (by omega) (by rw [← List.drop_drop,hd2,hp]; simp) (by omega)]
    simp
theorem numbers_round (k:UInt8) (l:List Int) (h:∀ x∈l,0≤x∧x≤2147483647):numbersOf (k :: numsText l)=some l:=by
  unfold numbersOf
  rw [numF_round (k :: numsText l) l _ 1 [] h (by simp) (by simp) (by omega)]
  simp
theorem nodeI_text {n:Node} (h:nodeOk n=true):nodeI (nodeText n)=(n,true):=by
  have hk:=nodeOk_kind h
  have hk2:(UInt8.ofNat n.kind.toNat).toNat=n.kind.toNat:=by rw [UInt8.toNat_ofNat']; omega
  have hk3:((UInt8.ofNat n.kind.toNat).toNat:Int)=n.kind:=by rw [hk2]; omega
  rcases nodeOk_iff.1 h with ⟨k0,k1,k2,k3,k4⟩ | ⟨kp,kr,kg,kt,ks,kd,kl,kb⟩
  · have e:nodeText n=[kindB n]:=by unfold nodeText; rw [if_neg (by simp [h]),if_pos k0]
    have en:numbersOf [kindB n]=some []:=rfl
    have em:mkI [kindB n] []=n:=by
      obtain ⟨a,b,c,d,bl⟩:=n
      simp only at k0 k1 k2 k3 k4
      subst k0 k1 k2 k3 k4
      rfl
    have e2:nodeText (mkI [kindB n] [])=[kindB n]:=by rw [em]; exact e
    rw [e]
    unfold nodeI
    rw [if_neg (by simp),en]
    simp only
    rw [if_pos e2,em]
  · have e:nodeText n=kindB n :: numsText ([n.gen,n.time,n.size]++n.blocks):=by unfold nodeText; rw [if_neg (by simp [h]),if_neg kp]
    have hb:=kb.1
    have en:=numbers_round (kindB n) ([n.gen,n.time,n.size]++n.blocks) (fun x hx=>by
      simp only [List.mem_append,List.mem_cons,List.not_mem_nil,or_false] at hx
      rcases hx with (rfl | rfl | rfl) | hx
      · omega
      · omega
      · omega
      · have:=hb x hx; omega)
    have em:mkI (kindB n :: numsText ([n.gen,n.time,n.size]++n.blocks)) ([n.gen,n.time,n.size]++n.blocks)=n:=by
      unfold mkI mkN kindB
      rw [if_pos (by simp)]
      obtain ⟨a,b,c,d,bl⟩:=n
      simp only [List.headD_cons] at hk3 ⊢
      rw [hk3]
      rfl
    have e2:nodeText (mkI (kindB n :: numsText ([n.gen,n.time,n.size]++n.blocks)) ([n.gen,n.time,n.size]++n.blocks))=kindB n :: numsText ([n.gen,n.time,n.size]++n.blocks):=by rw [em]; exact e
    rw [e]
    unfold nodeI
    rw [if_neg (by simp),en]
    simp only
    rw [if_pos e2,em]
theorem nodesBy_text:∀ {ns:List Node},(∀ n∈ns,nodeOk n=true)→nodesBy nodeI (ns.map nodeText)=some ns
  | [],_=>rfl
  | n :: ns,h=>by
    have h1:=nodeI_text (h n (by simp))
    have h2:nodesBy nodeI (ns.map nodeText)=some ns:=nodesBy_text (fun x hx=>h x (List.mem_cons_of_mem _ hx))
    simp only [List.map_cons,nodesBy,h1,if_true,h2]
    rfl
theorem fsI_text (f:Fs):(fsI (fsBlocks f)).2=shapeOk f∧(shapeOk f=true→(fsI (fsBlocks f)).1=f):=by
  cases hs:shapeOk f
  · have e:fsBlocks f=[]:=by simp [fsBlocks,hs]
    rw [e]
    exact ⟨rfl,fun h=>by cases h⟩
  · have sh:=shapeOk_iff.1 hs
    have r1:=inR_iff.1 sh.nodes
    have r2:=inR_iff.1 sh.data
    have e:fsBlocks f=fsHead f :: fsBits f :: (f.nodes.map nodeText++f.data):=by simp [fsBlocks,hs]
    have hp1:=putNum_small (n:=(f.nodes.length:Int)) (by omega) (by omega)
    have hp2:=putNum_small (n:=(f.data.length:Int)) (by omega) (by omega)
    have eh:fsHead f=[66,65,83,78]++([UInt8.ofNat f.nodes.length]++[UInt8.ofNat f.data.length]):=by
      unfold fsHead
      rw [hp1,hp2]
      simp
    have g1:getNum (fsHead f) 4=some (f.nodes.length,5):=getNum_small _ 4 _ (by rw [eh]; rfl) (by omega)
    have g2:getNum (fsHead f) 5=some (f.data.length,6):=getNum_small _ 5 _ (by rw [eh]; rfl) (by omega)
    have hd2:(fsBlocks f).drop 2=f.nodes.map nodeText++f.data:=by rw [e]; rfl
    have ht:((fsBlocks f).drop 2).take f.nodes.length=f.nodes.map nodeText:=by rw [hd2]; simp
    have hd3:(fsBlocks f).drop (2+f.nodes.length)=f.data:=by rw [← List.drop_drop,hd2]; simp
    have hlen:(fsBlocks f).length=2+f.nodes.length+f.data.length:=by rw [e]; simp; omega
    have hby:fsBy nodeI (fsBlocks f) f.nodes.length=(f,true):=by
      unfold fsBy
      rw [ht,nodesBy_text sh.ok]
      simp only
      rw [hd3,if_pos ⟨hs,rfl⟩]
    have:fsI (fsBlocks f)=(f,true):=by
      unfold fsI
      rw [e]
      simp only
      rw [if_neg (by rw [eh]; simp),g1]
      simp only
      rw [g2]
      simp only
      rw [← e,if_neg (by omega),hby]
    rw [this]
    exact ⟨rfl,fun _=>rfl⟩
theorem fsI_yes {list:List Str} (h:(fsI list).2=true):shapeOk (fsI list).1=true∧fsBlocks (fsI list).1=list:=by
  unfold fsI at h ⊢
  cases list with
  | nil=>cases h
  | cons b rest =>
    simp only at h ⊢
    split at h
    · cases h
    · rename_i hc1
      rw [if_neg hc1]
      cases hg:getNum b 4 with
      | none=>simp only [hg] at h; cases h
      | some ne =>
        obtain ⟨n,e⟩:=ne
        simp only [hg] at h ⊢
        cases hg2:getNum b e with
        | none=>simp only [hg2] at h; cases h
        | some de =>
          obtain ⟨d,e2⟩:=de
          simp only [hg2] at h ⊢
          split at h
          · cases h
          · rename_i hc2
            rw [if_neg hc2]
            obtain ⟨ns,-,a,b,e⟩:=fsBy_yes h
            rw [e]
            exact ⟨a,b⟩
theorem blocks_homes {f:Fs} (h:shapeOk f=true):(fsBlocks f).length=2+f.nodes.length+f.data.length:=by
  simp [fsBlocks,h]
  omega
def applyP (xs:List Str) (ps:List Put):List Str:=ps.foldl (fun l p=>l.set p.at_.toNat p.data) xs
theorem applyP_len (ps:List Put):∀ xs:List Str,(applyP xs ps).length=xs.length:=by
  induction ps with
  | nil=>intro xs; rfl
  | cons p ps ih =>
    intro xs
    show (applyP (xs.set p.at_.toNat p.data) ps).length=xs.length
    rw [ih,List.length_set]
theorem applyP_up (xs ys:List Str) (hl:xs.length=ys.length):∀ k,k≤xs.length→applyP xs (diffUp xs ys k)=ys.take k++xs.drop k
  | 0,_=>by simp [diffUp,applyP]
  | k+1,hk=>by
    have ih:=applyP_up xs ys hl k (by omega)
    have hy:k<ys.length:=by omega
    have hx:k<xs.length:=by omega
    have gy:ys[k]?.getD []=ys[k]:=by rw [List.getElem?_eq_getElem hy]; rfl
    have gx:xs[k]?.getD []=xs[k]:=by rw [List.getElem?_eq_getElem hx]; rfl
    have hlt:(ys.take k).length=k:=by simp; omega
    unfold diffUp applyP
    rw [List.foldl_append]
    show (if _ then _ else _:List Put).foldl _ (applyP xs (diffUp xs ys k))=_
    rw [ih,gx,gy,List.take_succ_eq_append_getElem hy]
    by_cases h:xs[k]=ys[k]
    · rw [if_neg (by simpa using h)]
      simp only [List.foldl_nil]
      rw [List.append_assoc,← h,List.drop_eq_getElem_cons hx]
      rfl
    · rw [if_pos h]
      simp only [List.foldl_cons,List.foldl_nil]
      rw [List.set_append_right _ _ (by rw [hlt]; simp),hlt,List.append_assoc]
      simp
      rw [List.drop_eq_getElem_cons hx]
      rfl
theorem diffUp_mem (xs ys:List Str):∀ k,∀ p∈diffUp xs ys k,0≤p.at_∧p.at_<k
  | 0,p,h=>by cases h
  | k+1,p,h=>by
    unfold diffUp at h
    rcases List.mem_append.1 h with h | h
    · have:=diffUp_mem xs ys k p h; omega
    · split at h
      · rw [List.mem_singleton.1 h]; simp only; omega
      · cases h
end Go.Proofs.Ytmpgpkdijfcfhaa.Hz
