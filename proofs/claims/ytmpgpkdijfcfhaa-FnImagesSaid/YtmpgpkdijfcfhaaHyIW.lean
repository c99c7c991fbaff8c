/- The draws of FnImages: an image, and a list of texts near an image's. -/
import Derived.Test.YtmpgpkdijfcfhaaHyIL
import Derived.Test.YtmpgpkdijfcfhaaHyIM
import Derived.Test.YtmpgpkdijfcfhaaHyHE
import Derived.Test.YtmpgpkdijfcfhaaHyHD
namespace Go.Proofs.Ytmpgpkdijfcfhaa.Hz
open Go.RowKit
set_option linter.unusedVariables false
set_option linter.unusedSimpArgs false
set_option maxRecDepth 20000
theorem sum_le {c:Nat}:∀ xs:List Str,(∀ x∈xs,x.length≤c)→sumL List.length xs≤c * xs.length
  | [],_=>by simp [sumL]
  | x :: xs,h=>by
    have h1:=sum_le xs (fun y hy=>h y (by simp [hy]))
    have h2:=h x (by simp)
    simp only [sumL,List.length_cons,Nat.mul_add]
    omega
theorem nums_len:∀ l:List Int,(numsText l).length≤5 * l.length
  | []=>by simp [numsText,catL]
  | x :: l=>by
    have h1:=nums_len l
    have h2:=putNum_len x
    have e:numsText (x :: l)=putNum x++numsText l:=rfl
    rw [e,List.length_append,List.length_cons]
    omega
theorem blocks_bd (f:Fs):(fsBlocks f).length≤48∧∀ s∈fsBlocks f,s.length≤1000:=by
  cases hs:shapeOk f
  · have e:fsBlocks f=[]:=by simp [fsBlocks,hs]
    rw [e]
    exact ⟨by simp,fun s h=>by cases h⟩
  · have sh:=shapeOk_iff.1 hs
    have r1:=inR_iff.1 sh.nodes
    have r2:=inR_iff.1 sh.data
    refine ⟨by rw [blocks_homes hs]; omega,fun s h=>?_⟩
    have e:fsBlocks f=fsHead f :: fsBits f :: (f.nodes.map nodeText++f.data):=by simp [fsBlocks,hs]
    rw [e] at h
    simp only [List.mem_cons,List.mem_append,List.mem_map] at h
    rcases h with rfl | rfl | ⟨n,hn,rfl⟩ | h
    · have h1:=putNum_len f.nodes.length
      have h2:=putNum_len f.data.length
      simp [fsHead]
      omega
    · unfold fsBits
      rw [bitsK_len]
      omega
    · have hk:=sh.ok n hn
      have hb:n.blocks.length≤36:=by
        rcases nodeOk_iff.1 hk with ⟨_,_,_,_,k4⟩ | ⟨_,_,_,_,ks,_,kl,_⟩
        · rw [k4]; simp
        · unfold blocksFor at kl; omega
      unfold nodeText
      split
      · simp
      · split
        · simp
        · have:=nums_len ([n.gen,n.time,n.size]++n.blocks)
          simp at this ⊢
          omega
    · obtain ⟨k,hk,rfl⟩:=List.getElem_of_mem h
      have:=(sh.blocks k hk).1
      omega
def FIn (h h':Hp) (r:Value):Prop:=∃ (f:Fs) (b1 b2:Option Addr) (G1 G2:List Nat),r=.agg #[.slice b1 f.nodes.length f.nodes.length,.slice b2 f.data.length f.data.length]∧FsIn h' f b1 b2 G1 G2∧Ext h h'
section
variable (code:Str) (a:Option Addr) (F:List Nat) (w:Bool) (t:TypeId) (h:Hp) (k:slR w t byteE h code a F) (hn:code.length≤1048576)
include k hn
theorem drawFsBlocks_c :
    ACall Try.prog 15 [.slice a code.length code.length] h fun r h'=>FIn h h' r:=by
  refine acall mixed Try.func15 rfl (by kernel_rfl) ?_
  simp [Try.f15]
  obtain ⟨h0,hh0⟩:∃ h0:Hp,h0=h++[⟨true,true,26,[.slice none 0 0,.slice none 0 0]⟩]:=⟨_,rfl⟩
  have l0:h0.length=h.length+1:=by rw [hh0]; simp
  have q0:h0[h.length]?=some ⟨true,true,26,[.slice none 0 0,.slice none 0 0]⟩:=by rw [hh0]; simp
  have k0:slR w t byteE h0 code a F:=by rw [hh0]; exact k.ext (Ext.push _ _)
  rw [← hh0]
  refine cK (l1New_c code a F w t h0 k0 hn) ?_
  rintro _ H1 ⟨rfl,x1,d1⟩
  try simp
  have hc:=d1.lt
  have hx1:=x1.1
  have q1:H1[h.length]?=some ⟨true,true,26,[.slice none 0 0,.slice none 0 0]⟩:=by rw [x1.2 _ (by omega)]; exact q0
  refine cK (l6Draw_c h0.length H1 d1) ?_
  rintro _ H2 ⟨f,⟨b1,b2,G1,G2,rfl,kf⟩,e1,e2,e3,e4,e5⟩
  have bd:Bnd f:=⟨e1,e2,e3,e4,e5⟩
  have q2:H2[h.length]?=some ⟨true,true,26,[.slice none 0 0,.slice none 0 0]⟩:=by rw [kf.dr.2 _ (by omega) (by omega)]; exact q1
  have hne:∀ q,q≠h.length→(sA_ H2 h.length 0 [.slice b1 f.nodes.length f.nodes.length,.slice b2 f.data.length f.data.length])[q]?=H2[q]?:=fun q hq=>by rw [sAg,if_neg (fun e=>hq e.symm)]
  have hself:(sA_ H2 h.length 0 [.slice b1 f.nodes.length f.nodes.length,.slice b2 f.data.length f.data.length])[h.length]?=some ⟨true,true,26,[.slice b1 f.nodes.length f.nodes.length,.slice b2 f.data.length f.data.length]⟩:=by rw [sAg,if_pos rfl,q2]; rfl
  have hcs:cS_ H2 h.length 0 2=true:=by simp [cS_,q2]
  have r0:∀ j,cellAt (sA_ H2 h.length 0 [.slice b1 f.nodes.length f.nodes.length,.slice b2 f.data.length f.data.length]) h.length j=([Value.slice b1 f.nodes.length f.nodes.length,.slice b2 f.data.length f.data.length])[j]?:=fun j=>by simp [cellAt,hself]
  have fin:FsIn (sA_ H2 h.length 0 [.slice b1 f.nodes.length f.nodes.length,.slice b2 f.data.length f.data.length]) f b1 b2 G1 G2:=⟨kf.s1.frame fun q hq=>hne q (by have:=kf.w1 q hq; omega),kf.s2.frame fun q hq=>hne q (by have:=kf.w2 q hq; omega),bd.nl,bd.n1,bd.n10,bd.d1,bd.d36⟩
  have ex:Ext h (sA_ H2 h.length 0 [.slice b1 f.nodes.length f.nodes.length,.slice b2 f.data.length f.data.length]):=⟨by rw [sAl]; have:=kf.dr.1; omega,fun q hq=>by rw [hne q (by omega),kf.dr.2 q (by omega) (by omega),x1.2 q (by omega),hh0]; exact List.getElem?_append_left hq⟩
  have res:FIn h (sA_ H2 h.length 0 [.slice b1 f.nodes.length f.nodes.length,.slice b2 f.data.length f.data.length]) (.agg #[.slice b1 f.nodes.length f.nodes.length,.slice b2 f.data.length f.data.length]):=⟨f,b1,b2,G1,G2,rfl,fin,ex⟩
  simp [hcs,r0]
  exact res
end
end Go.Proofs.Ytmpgpkdijfcfhaa.Hz
