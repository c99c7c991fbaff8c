/- Texts of the calculus and of the program's functions, merged: BK. -/
import Derived.Test.YtmpgpkdijfcfhaaHyNX
import Derived.Test.YtmpgpkdijfcfhaaHyGE
namespace Go.Proofs.Ytmpgpkdijfcfhaa.Hz
open Go.RowKit
set_option linter.unusedVariables false
set_option linter.unusedSimpArgs false
set_option maxRecDepth 20000
def byteN (H:List Int) (j:Nat):Nat→Nat
  | 0=>0
  | k+1=>byteN H j k+if k / 8=j∧(k:Int)∈H then 2 ^ (k % 8) else 0
theorem byteN_lt (H:List Int) (j:Nat):∀ k,byteN H j k<2 ^ (min (k - 8 * j) 8)
  | 0=>by simp [byteN]
  | k+1=>by
    have ih:=byteN_lt H j k
    rw [byteN]
    split
    · rename_i h
      have e1:min (k - 8 * j) 8=k % 8:=by omega
      have e2:min (k+1 - 8 * j) 8=k % 8+1:=by omega
      rw [e1] at ih
      rw [e2,Nat.pow_succ]; omega
    · have:(2:Nat) ^ (min (k - 8 * j) 8)≤2 ^ (min (k+1 - 8 * j) 8):=Nat.pow_le_pow_right (by omega) (by omega)
      omega
theorem byteN_at (H:List Int) (k:Nat):byteN H (k / 8) k<2 ^ (k % 8):=by
  have:=byteN_lt H (k / 8) k
  have e:min (k - 8 * (k / 8)) 8=k % 8:=by omega
  rwa [e] at this
theorem byteN_le (H:List Int) (j k:Nat):byteN H j k<256:=by
  have:=byteN_lt H j k
  have h2:(2:Nat) ^ (min (k - 8 * j) 8)≤2 ^ 8:=Nat.pow_le_pow_right (by omega) (by omega)
  omega
def bitsK (H:List Int) (n k:Nat):Str:=(List.range ((n+7) / 8)).map fun j=>UInt8.ofNat (byteN H j k)
theorem bitsK_len (H:List Int) (n k:Nat):(bitsK H n k).length=(n+7) / 8:=by simp [bitsK]
theorem bitsK_get (H:List Int) (n k j:Nat) (hj:j<(bitsK H n k).length):(bitsK H n k)[j]=UInt8.ofNat (byteN H j k):=by simp [bitsK]
theorem bitsK_nat (H:List Int) (n k j:Nat) (hj:j<(bitsK H n k).length):(bitsK H n k)[j].toNat=byteN H j k:=by
  rw [bitsK_get]; simp; exact byteN_le H j k
theorem bitsK_zero (H:List Int) (n:Nat):bitsK H n 0=List.replicate ((n+7) / 8) 0:=by
  apply List.ext_getElem (by simp [bitsK])
  intro i h1 h2; simp [bitsK,byteN]
theorem bitsK_no (H:List Int) (n k:Nat) (h:(k:Int) ∉ H):bitsK H n (k+1)=bitsK H n k:=by
  simp [bitsK,byteN,h]
theorem bitsK_yes (H:List Int) (n k:Nat) (h:(k:Int)∈H):(bitsK H n k).set (k / 8) (UInt8.ofNat (byteN H (k / 8) k+2 ^ (k % 8)))=bitsK H n (k+1):=by
  apply List.ext_getElem (by simp [bitsK])
  intro i h1 h2
  rw [List.getElem_set,bitsK_get,bitsK_get]
  split
  · rename_i e; subst e; simp [byteN,h]
  · rename_i e; simp [byteN,e]
theorem or_add {a k:Nat} (h:a<2 ^ k):a ||| 2 ^ k=a+2 ^ k:=by
  have:=Nat.two_pow_add_eq_or_of_lt h 1
  rw [Nat.mul_one] at this
  rw [Nat.or_comm,← this,Nat.add_comm]
noncomputable def fsHead (f:Fs):Str:=[66,65,83,78]++putNum f.nodes.length++putNum f.data.length
def fsBits (f:Fs):Str:=bitsK (held f.nodes) f.data.length f.data.length
noncomputable def fsBlocks (f:Fs):List Str:=if shapeOk f then [fsHead f,fsBits f]++f.nodes.map nodeText++f.data else []
def pw (k:Nat):Nat:=2 ^ k
theorem pw_le {i:Nat} (h:i≤60):pw i≤1152921504606846976:=Nat.pow_le_pow_right (by omega) h
theorem pw_succ (i:Nat):pw (i+1)=pw i * 2:=Nat.pow_succ 2 i
theorem l6Power_c (k:Nat) (h:Hp) (hk:k≤60):ACall Try.prog 57 [.int .i64 k] h fun r h'=>h'=h∧r=.int .i64 (pw k):=by
  refine acall mixed Try.func57 rfl (by kernel_rfl) ?_
  simp [Try.f57]
  refine aloop mixed [0,3,4] (fun (i:Nat)=>[.int .i64 k,.int .i64 (pw i),.int .i64 i]) (fun _=>h) (fun i=>i≤k) (fun i=>k - i) 0 (by omega) rfl rfl ?_
  intro i hi
  simp [mkF]
  refine aSI (fun hb=>?_) (fun hb=>?_) <;> simp at hb <;> simp [hb]
  · have h1:=pw_le (i:=i+1) (by omega)
    have w:IntKind.i64.wrap ((pw i:Int) * 2)=(pw (i+1):Int):=by
      rw [pw_succ] at h1 ⊢
      rw [wrap_in (by omega) (by omega)]; omega
    exact anext (i+1) hb (by omega) (by simp [pickF,wS (show i<9223372036854775807 by omega),w]) rfl (by simp)
  · obtain rfl:i=k:=by omega
    simp
theorem fsBlocks_len (f:Fs):(fsBlocks f).length≤1048576:=by
  unfold fsBlocks
  split
  · rename_i h
    have s:=shapeOk_iff.1 h
    have h1:=inR_iff.1 s.nodes
    have h2:=inR_iff.1 s.data
    simp; omega
  · simp
theorem abin_shl1 (P:Program) (t:TypeId) (r:Nat) (hr:r<8):abin P .shl t (.int .u8 1) (.int .i64 r)=some (.int .u8 (pw r)):=by
  have:r=0∨r=1∨r=2∨r=3∨r=4∨r=5∨r=6∨r=7:=by omega
  rcases this with rfl | rfl | rfl | rfl | rfl | rfl | rfl | rfl <;> rfl
theorem abin_oru8 (P:Program) (t:TypeId) (a r:Nat) (ha:a<pw r) (h:a+pw r<256):abin P .or t (.int .u8 a) (.int .u8 (pw r))=some (.int .u8 (a+pw r:Nat)):=by
  have e:(BitVec.ofInt 8 (a:Int) ||| BitVec.ofInt 8 (pw r:Int)).toNat=a+pw r:=by
    rw [BitVec.toNat_or,BitVec.ofInt_natCast,BitVec.ofInt_natCast,BitVec.toNat_ofNat,BitVec.toNat_ofNat,Nat.mod_eq_of_lt (by omega),Nat.mod_eq_of_lt (by omega)]
    exact or_add ha
  have e2:abin P .or t (.int .u8 a) (.int .u8 (pw r))=some (.int .u8 (IntKind.u8.wrap (BitVec.ofInt 8 (a:Int) ||| BitVec.ofInt 8 (pw r:Int)).toNat)):=by simp [abin]; rfl
  rw [e2,e,wrap_u8 (by omega) (by omega)]
section
variable (f:Fs) (a1 a2:Option Addr) (F1 F2:List Nat) (w:Bool) (tNode:TypeId) (h:Hp) (k1:slR w tNode (nodeE w) h f.nodes a1 F1) (k2:slR w 9 strE h f.data a2 F2) (hl:f.nl≤1048576)
include k1 k2 hl
set_option maxHeartbeats 4000000 in
theorem fsBlocks_spec_c :
    ACall Try.prog 27 [.agg #[.slice a1 f.nodes.length f.nodes.length,.slice a2 f.data.length f.data.length]] h fun r h'=>∃ a F,r=.slice a (fsBlocks f).length (fsBlocks f).length∧Own h 9 strE h' (fsBlocks f) a F:=by
  refine acall mixed Try.func27 rfl (by kernel_rfl) ?_
  have hlim:=Fs.lim_of f hl
  have hN:f.data.length≤1048576:=hlim.2.2
  have hM:f.nodes.length≤1048576:=hlim.1
  simp [Try.f27]
  refine cK (shapeOk_spec_c f a1 a2 F1 F2 w tNode _ (k1.to (by simp)) (k2.to (by simp)) hl) ?_
  rintro _ _ ⟨⟨t1,rfl⟩,rfl⟩
  obtain ⟨B,hB⟩:∃ B,B=h++[(⟨true,true,26,[.slice a1 f.nodes.length f.nodes.length,.slice a2 f.data.length f.data.length]⟩:Ob)]:=⟨_,rfl⟩
  have eh:Ext h B:=by rw [hB]; exact Ext.push _ _
  have b0:cellAt B h.length 0=some (.slice a1 f.nodes.length f.nodes.length):=by rw [hB]; simp
  have b1:cellAt B h.length 1=some (.slice a2 f.data.length f.data.length):=by rw [hB]; simp
  have eB:Ext B (h++⟨true,true,26,[.slice a1 f.nodes.length f.nodes.length,.slice a2 f.data.length f.data.length]⟩ :: t1):=by rw [hB]; simpa using Ext.push (h++[(⟨true,true,26,[.slice a1 f.nodes.length f.nodes.length,.slice a2 f.data.length f.data.length]⟩:Ob)]) t1
  cases e1:shapeOk f
  · simp [fsBlocks,e1]
    have o:=(empty1 strE (h++⟨true,true,26,[.slice a1 f.nodes.length f.nodes.length,.slice a2 f.data.length f.data.length]⟩ :: t1) 9).of_new (eh.trans eB)
    exact ⟨_,by simpa using o⟩
  clear hB
  simp only [List.append_assoc,List.cons_append,List.nil_append]
  generalize (h++_ :: t1:Hp)=H at eB ⊢
  have o0:Own B 5 byteE (H++[⟨true,true,5,[.int .u8 66,.int .u8 65,.int .u8 83,.int .u8 78]⟩]) [66,65,83,78] (some ⟨H.length,0,none⟩) [H.length]:=by
    have:=Own.lit (h0:=B) (h:=H) (e:=5) (A:=byteE) (xs:=[66,65,83,78]) (css:=[[.int .u8 66],[.int .u8 65],[.int .u8 83],[.int .u8 78]]) (Fs:=[[],[],[],[]]) eB ⟨⟨rfl,rfl⟩,⟨rfl,rfl⟩,⟨rfl,rfl⟩,⟨rfl,rfl⟩,trivial⟩ (by simp) (by simp)
    simpa using this
  simp [cell_up o0.ext b0]
  refine cK (putNum_spec_c f.nodes.length _) ?_
  rintro _ H1 ⟨b,G,rfl,on⟩
  obtain ⟨aA,H12,FA,eq,own1⟩:=bytesApp o0 on (by have:=putNum_len f.nodes.length; simp; omega)
  simp at eq own1
  simp [eq,cell_up own1.ext b1]
  refine cK (putNum_spec_c f.data.length _) ?_
  rintro _ H3 ⟨b',G',rfl,on'⟩
  obtain ⟨aB,H4,FB,eq2,own2⟩:=bytesApp own1 on' (by have:=putNum_len f.nodes.length; have:=putNum_len f.data.length; simp; omega)
  have hd:(66 :: 65 :: 83 :: 78 :: putNum ↑f.nodes.length)++putNum f.data.length=fsHead f:=by simp [fsHead]
  have hdl:(66 :: 65 :: 83 :: 78 :: putNum ↑f.nodes.length:Str).length+(putNum f.data.length).length=(fsHead f).length:=by rw [← hd,List.length_append]
  rw [hdl] at eq2
  rw [hd] at own2
  have e4:∀ (n:Nat),(66 :: 65 :: 83 :: 78 :: putNum ↑f.nodes.length:Str).length=4+(putNum f.nodes.length).length:=fun _=>by simp; omega
  rw [e4 0] at eq2
  simp [eq2,lev_cvBS own2.sl]
  have o3:Own B 9 strE (H4++[⟨true,true,9,[.string (S (fsHead f))]⟩]) [fsHead f] (some ⟨H4.length,0,none⟩) [H4.length]:=by
    have:=Own.lit (h0:=B) (h:=H4) (e:=9) (A:=strE) (xs:=[fsHead f]) (css:=[[.string (S (fsHead f))]]) (Fs:=[[]]) own2.ext ⟨⟨rfl,rfl⟩,trivial⟩ (by simp) (by simp)
    simpa using this
  clear eq eq2 on on' own1 own2 o0 hdl hd e4
  obtain ⟨M,hMe⟩:∃ M:Nat,M=(f.data.length+7) / 8:=⟨_,rfl⟩
  have wM:IntKind.i64.wrap ((IntKind.i64.wrap ((f.data.length:Int)+7)).tdiv 8)=(M:Int):=by
    rw [wrap_in (n:=(f.data.length:Int)+7) (by omega) (by omega),Int.tdiv_eq_ediv_of_nonneg (by omega),wrap_in (by omega) (by omega)]; omega
  have hbig:M≤big:=by unfold big; omega
  have hbig':(M:Int)≤(big:Int):=by omega
  obtain ⟨H5,hH5⟩:∃ H5,H5=H4++[(⟨true,true,9,[.string (S (fsHead f))]⟩:Ob)]:=⟨_,rfl⟩
  have hl5:H5.length=H4.length+1:=by rw [hH5]; simp
  rw [← hH5] at o3 ⊢
  have ob:=Own.rep (A:=byteE) H5 5 M (z:=0) (zs:=[.int .u8 0]) ⟨rfl,rfl⟩
  rw [hl5] at ob
  have c0:=cell_up (o3.ext.trans ob.ext) b0
  have c1:=cell_up (o3.ext.trans ob.ext) b1
  simp [cell_up o3.ext b1,wM,hbig',hl5,c0,c1]
  clear c0 c1
  refine cK (l6Used_c f a1 a2 F1 F2 w tNode _ (k1.ext (eh.trans (o3.ext.trans ob.ext))) (k2.ext (eh.trans (o3.ext.trans ob.ext))) hl) ?_
  rintro _ H6 ⟨us,a6,F6,rfl,inv,ou⟩
  obtain ⟨ul,ui,-⟩:=inv
  simp
  have hn6:∀ q∈F6,q≠H4.length+1:=fun q hq=>by have:=ou.new q hq; simp at this; omega
  refine aloop mixed [1,4,5,6,7] (fun (y:Nat × Hp)=>[.pointer (some ⟨h.length,0,none⟩),.slice (some ⟨H4.length,0,none⟩) 1 1,.slice (some ⟨H4.length+1,0,none⟩) M M,.slice a6 us.length us.length,.int .i64 y.1]) (fun y=>y.2)
    (fun y=>y.1≤f.data.length∧Own H5 5 byteE y.2 (bitsK (held f.nodes) f.data.length y.1) (some ⟨H4.length+1,0,none⟩) [H4.length+1]∧slR true 3 intE y.2 us a6 F6) (fun y=>f.data.length - y.1) (0,H6) ⟨by simp,by rw [bitsK_zero,← hMe]; exact ob.grow ou.ext,ou.sl⟩ rfl rfl ?_
  rintro ⟨k,H⟩ ⟨hk,own,su⟩
  simp only at hk own su
  simp [mkF,cell_up (o3.ext.trans own.ext) b1]
  refine aSI (fun hc=>?_) (fun hc=>?_) <;> simp at hc <;> simp [hc]
  · have hu:k<us.length:=by omega
    obtain ⟨o,off,rfl,cu⟩:=intEAt su hu
    have hv:=ui k hc hu
    simp [hu,cu]
    obtain ⟨q,hqe⟩:∃ q:Nat,q=k / 8:=⟨_,rfl⟩
    obtain ⟨r,hre⟩:∃ r:Nat,r=k % 8:=⟨_,rfl⟩
    have wq:IntKind.i64.wrap ((k:Int) / 8)=(q:Int):=by rw [wrap_in (by omega) (by omega)]; omega
    have wr:(k:Int).tmod 8=(r:Int):=by rw [Int.tmod_eq_emod_of_nonneg (by omega)]; omega
    refine aSI (fun hd=>?_) (fun hd=>?_) <;> simp at hd <;> simp [hd]
    · have hq:q<(bitsK (held f.nodes) f.data.length k).length:=by rw [bitsK_len]; omega
      have hqM:q<M:=by omega
      obtain ⟨ob1,offb,eb,cb⟩:=byteAt own.sl hq
      simp at eb
      obtain ⟨rfl,rfl⟩:=eb
      rw [Nat.zero_add] at cb
      refine drawK true (by kernel_rfl) ?_
      simp [wq,wr,hqM,cb]
      refine callK (l6Power_c r _ (by omega)) ?_
      rintro _ H ⟨rfl,rfl⟩
      refine ⟨fun _=>Ext.refl _,?_⟩
      have hmem:(k:Int)∈held f.nodes:=by
        apply List.count_pos_iff.1
        have:0<us[k]:=hd
        rw [hv] at this; omega
      have hb2:byteN (held f.nodes) q k+pw r<256:=by
        have:=byteN_le (held f.nodes) (k / 8) (k+1)
        rw [byteN,if_pos ⟨rfl,hmem⟩,← hqe,← hre] at this
        exact this
      have hp0:0≤pw r:=Nat.zero_le _
      have wc:IntKind.u8.wrap (pw r:Int)=(pw r:Int):=wrap_u8 (by omega) (by omega)
      have wa:IntKind.u8.wrap (((bitsK (held f.nodes) f.data.length k)[q].toNat:Int)+(pw r:Int))=((UInt8.ofNat (byteN (held f.nodes) q k+pw r)).toNat:Int):=by
        rw [bitsK_nat,wrap_u8 (by omega) (by omega),u8_ofNat hb2]; omega
      obtain ⟨hcan,F2',own2⟩:=own.putFlat (i:=q) hq (UInt8.ofNat (byteN (held f.nodes) q k+pw r)) 0 [.int .u8 (UInt8.ofNat (byteN (held f.nodes) q k+pw r)).toNat] (by simp) (by simp)
      have hset:(bitsK (held f.nodes) f.data.length k).set q (UInt8.ofNat (byteN (held f.nodes) q k+pw r))=bitsK (held f.nodes) f.data.length (k+1):=by
        subst hqe; subst hre
        exact bitsK_yes _ _ _ hmem
      rw [hset] at own2
      have e2:=own2.flatF
      subst e2
      have hcan':cS_ H (H4.length+1) q 1=true:=by simpa using hcan
      generalize hz:((UInt8.ofNat (byteN (held f.nodes) q k+pw r)).toNat:Int)=z at wa own2
      have own3:Own H5 5 byteE (sA_ H (H4.length+1) q [.int .u8 z]) (bitsK (held f.nodes) f.data.length (k+1)) (some ⟨H4.length+1,0,none⟩) [H4.length+1]:=by
        simp at own2
        exact own2
      simp [wc,wa,hcan',hqM,wq]
      refine anext (k+1,sA_ H (H4.length+1) q [.int .u8 z]) ⟨hc,own3,su.frame fun x hx=>?_⟩ (by simp only; omega) (by simp [pickF,wS (show k<9223372036854775807 by omega)]) rfl (by simp)
      simp only
      rw [sAg,if_neg (fun e=>hn6 x hx e.symm)]
    · have hmem:(k:Int) ∉ held f.nodes:=by
        intro hm
        have:=List.count_pos_iff.2 hm
        rw [hv] at hd; omega
      refine anext (k+1,H) ⟨hc,?_,su⟩ (by simp only; omega) (by simp [pickF,wS (show k<9223372036854775807 by omega)]) rfl (by simp)
      simp only
      rw [bitsK_no _ _ _ hmem]
      exact own
  · obtain rfl:k=f.data.length:=by omega
    have hML:M=(bitsK (held f.nodes) f.data.length f.data.length).length:=by rw [bitsK_len]; exact hMe
    simp [hML,lev_cvBS own.sl]
    obtain ⟨a7,H7,F7,eq7,own7⟩:=(o3.grow own.ext).append1 (P:=Try.prog) (fsBits f) (cs:=[.string (S (fsBits f))]) rfl (st:=22) (xt:=22) (bt:=16) (z:=[.string (S [])]) (by simp) (by simp) (by unfold big; simp) (by unfold big; simp)
    simp [fsBits] at eq7
    simp [eq7]
    have hX:(f.nodes.map nodeText).length≤1048576:=by simp; exact hM
    refine aloop mixed [1,4,8] (fun (y:Nat × Option Addr × Hp)=>[.pointer (some ⟨h.length,0,none⟩),.slice y.2.1 (y.1+2) (y.1+2),.int .i64 y.1]) (fun y=>y.2.2)
      (fun y=>y.1≤f.nodes.length∧∃ G,Own B 9 strE y.2.2 ([fsHead f,fsBits f]++(f.nodes.map nodeText).take y.1) y.2.1 G) (fun y=>f.nodes.length - y.1) (0,a7,H7) ⟨by simp,F7,by
        have e:([fsHead f,fsBits f]++(f.nodes.map nodeText).take 0)=[fsHead f,fsBits f]:=by simp
        rw [e]; exact own7⟩ rfl rfl ?_
    rintro ⟨j,a,H⟩ ⟨hj,G0,own⟩
    simp only at hj own
    have cb:=cell_up own.ext b0
    simp [mkF,cb]
    refine aSI (fun hc=>?_) (fun hc=>?_) <;> simp at hc <;> simp [hc]
    · obtain ⟨o,off,bb,G1,rfl,c0,c1,c2,c3,c4,kb,-⟩:=nodeAt (k1.ext (eh.trans own.ext)) hc
      simp [hc,cb,c0,c1,c2,c3,c4]
      refine cK (nodeText_spec_c f.nodes[j] bb G1 w _ kb (hlim.2.1 _ (List.getElem_mem hc))) ?_
      rintro _ _ ⟨⟨t,rfl⟩,rfl⟩
      have hLn:([fsHead f,fsBits f]++(f.nodes.map nodeText).take j).length=j+2:=by simp; omega
      obtain ⟨a8,H8,F8,eq8,own8⟩:=(own.grow (Ext.push H t)).append1 (P:=Try.prog) (nodeText f.nodes[j]) (cs:=[.string (S (nodeText f.nodes[j]))]) rfl (st:=22) (xt:=22) (bt:=16) (z:=[.string (S [])]) (by simp) (by simp) (by rw [hLn]; unfold big; omega) (by rw [hLn]; unfold big; omega)
      rw [hLn] at eq8
      simp at eq8
      have e8:([fsHead f,fsBits f]++(f.nodes.map nodeText).take j)++[nodeText f.nodes[j]]=[fsHead f,fsBits f]++(f.nodes.map nodeText).take (j+1):=by
        rw [List.append_assoc,List.take_succ_eq_append_getElem (by simp; exact hc)]; simp
      rw [e8] at own8
      simp [eq8]
      exact anext (j+1,a8,H8) ⟨hc,F8,own8⟩ (by simp only; omega) (by simp [pickF,wS (show j<9223372036854775807 by omega),Nat.add_right_comm]) rfl (by simp)
    · obtain rfl:j=f.nodes.length:=by omega
      have hT:([fsHead f,fsBits f]++(f.nodes.map nodeText).take f.nodes.length)=[fsHead f,fsBits f]++f.nodes.map nodeText:=by
        rw [List.take_of_length_le (by simp)]
      rw [hT] at own
      have hLn:([fsHead f,fsBits f]++f.nodes.map nodeText).length=f.nodes.length+2:=by simp
      obtain ⟨a9,H9,F9,eq9,own9,-,-⟩:=own.appendSl (P:=Try.prog) (k2.ext (eh.trans own.ext)) (st:=22) (xt:=22) (bt:=16) (z:=[.string (S [])]) (by simp) (by simp) (by rw [hLn]; unfold big; omega) (by rw [hLn]; unfold big; omega)
      rw [hLn] at eq9
      have hF:fsBlocks f=[fsHead f,fsBits f]++f.nodes.map nodeText++f.data:=by simp [fsBlocks,e1]
      rw [hF]
      have hFl:([fsHead f,fsBits f]++f.nodes.map nodeText++f.data).length=f.nodes.length+2+f.data.length:=by rw [List.length_append,hLn]
      rw [hFl]
      simp [cell_up own.ext b1,eq9]
      have o:=own9.of_new eh
      simp at o
      exact ⟨F9,o⟩
set_option maxHeartbeats 4000000 in
theorem fsBlocks_impl_c :
    ACall Try.prog 16 [.agg #[.slice a1 f.nodes.length f.nodes.length,.slice a2 f.data.length f.data.length]] h fun r h'=>∃ a F,(shapeOk f=false→a=none)∧r=.slice a (fsBlocks f).length (fsBlocks f).length∧Own h 9 strE h' (fsBlocks f) a F:=by
  refine acall mixed Try.func16 rfl (by kernel_rfl) ?_
  have hlim:=Fs.lim_of f hl
  have hN:f.data.length≤1048576:=hlim.2.2
  have hM:f.nodes.length≤1048576:=hlim.1
  simp [Try.f16]
  refine cK (shapeOk_impl_c f a1 a2 F1 F2 w tNode _ (k1.to (by simp)) (k2.to (by simp)) hl) ?_
  rintro _ _ ⟨⟨t1,rfl⟩,rfl⟩
  obtain ⟨B,hB⟩:∃ B,B=h++[(⟨true,true,26,[.slice a1 f.nodes.length f.nodes.length,.slice a2 f.data.length f.data.length]⟩:Ob)]:=⟨_,rfl⟩
  have eh:Ext h B:=by rw [hB]; exact Ext.push _ _
  have b0:cellAt B h.length 0=some (.slice a1 f.nodes.length f.nodes.length):=by rw [hB]; simp
  have b1:cellAt B h.length 1=some (.slice a2 f.data.length f.data.length):=by rw [hB]; simp
  have eB:Ext B (h++⟨true,true,26,[.slice a1 f.nodes.length f.nodes.length,.slice a2 f.data.length f.data.length]⟩ :: t1):=by rw [hB]; simpa using Ext.push (h++[(⟨true,true,26,[.slice a1 f.nodes.length f.nodes.length,.slice a2 f.data.length f.data.length]⟩:Ob)]) t1
  cases e1:shapeOk f
  · simp [fsBlocks,e1]
    exact ⟨_,Own.nil (eh.trans eB)⟩
  have hsh:=shapeOk_iff.1 e1
  have hd1:1≤f.data.length:=by have:=inR_iff.1 hsh.data; omega
  clear hB
  simp only [List.append_assoc,List.cons_append,List.nil_append]
  generalize (h++_ :: t1:Hp)=H at eB ⊢
  have o0:Own B 5 byteE (H++[⟨true,true,5,[.int .u8 66,.int .u8 65,.int .u8 83,.int .u8 78]⟩]) [66,65,83,78] (some ⟨H.length,0,none⟩) [H.length]:=by
    have:=Own.lit (h0:=B) (h:=H) (e:=5) (A:=byteE) (xs:=[66,65,83,78]) (css:=[[.int .u8 66],[.int .u8 65],[.int .u8 83],[.int .u8 78]]) (Fs:=[[],[],[],[]]) eB ⟨⟨rfl,rfl⟩,⟨rfl,rfl⟩,⟨rfl,rfl⟩,⟨rfl,rfl⟩,trivial⟩ (by simp) (by simp)
    simpa using this
  simp [cell_up o0.ext b0]
  refine cK (putNum_impl_c f.nodes.length _) ?_
  rintro _ H1 ⟨b,G,rfl,on⟩
  obtain ⟨aA,H12,FA,eq,own1⟩:=bytesApp o0 on (by have:=putNum_len f.nodes.length; simp; omega)
  simp at eq own1
  simp [eq,cell_up own1.ext b1]
  refine cK (putNum_impl_c f.data.length _) ?_
  rintro _ H3 ⟨b',G',rfl,on'⟩
  obtain ⟨aB,H4,FB,eq2,own2⟩:=bytesApp own1 on' (by have:=putNum_len f.nodes.length; have:=putNum_len f.data.length; simp; omega)
  have hd:(66 :: 65 :: 83 :: 78 :: putNum ↑f.nodes.length)++putNum f.data.length=fsHead f:=by simp [fsHead]
  have hdl:(66 :: 65 :: 83 :: 78 :: putNum ↑f.nodes.length:Str).length+(putNum f.data.length).length=(fsHead f).length:=by rw [← hd,List.length_append]
  rw [hdl] at eq2
  rw [hd] at own2
  have e4:∀ (n:Nat),(66 :: 65 :: 83 :: 78 :: putNum ↑f.nodes.length:Str).length=4+(putNum f.nodes.length).length:=fun _=>by simp; omega
  rw [e4 0] at eq2
  simp [eq2,cell_up own2.ext b0,cell_up own2.ext b1]
  clear eq eq2 on on' own1 o0 hdl hd e4
  refine cK (owners_c f a1 a2 F1 F2 w tNode _ (k1.ext (eh.trans own2.ext)) (k2.ext (eh.trans own2.ext)) hl hd1 (fun b hb=>(hsh.own.1 b hb).1)) ?_
  rintro _ _ ⟨⟨t2,rfl⟩,ho⟩
  rcases ho with ⟨hown,os,ao,Fo,rfl,inv,oo⟩ | ⟨hown,rfl⟩
  rotate_left
  · exact absurd hsh.own hown
  obtain ⟨il,ib,ind,iv⟩:=inv
  obtain ⟨M,hMe⟩:∃ M:Nat,M=(f.data.length+7) / 8:=⟨_,rfl⟩
  have wM:IntKind.i64.wrap ((IntKind.i64.wrap ((f.data.length:Int)+7)).tdiv 8)=(M:Int):=by
    rw [wrap_in (n:=(f.data.length:Int)+7) (by omega) (by omega),Int.tdiv_eq_ediv_of_nonneg (by omega),wrap_in (by omega) (by omega)]; omega
  have hbig:M≤big:=by unfold big; omega
  have hbig':(M:Int)≤(big:Int):=by omega
  have own3:=own2.grow (Ext.push H4 t2)
  generalize (H4++t2:Hp)=H5 at oo own3 ⊢
  have ob:=Own.rep (A:=byteE) H5 5 M (z:=0) (zs:=[.int .u8 0]) ⟨rfl,rfl⟩
  simp [cell_up own3.ext b1,wM,hbig']
  refine aloop mixed [1,3,6,39,40,41] (fun (y:Nat × Hp)=>[.pointer (some ⟨h.length,0,none⟩),.slice aB (fsHead f).length (fsHead f).length,.slice (some ⟨H5.length,0,none⟩) M M,.slice ao f.data.length f.data.length,.int .i64 f.data.length,.int .i64 y.1]) (fun y=>y.2)
    (fun y=>y.1≤f.data.length∧Own H5 5 byteE y.2 (bitsK (held f.nodes) f.data.length y.1) (some ⟨H5.length,0,none⟩) [H5.length]) (fun y=>f.data.length - y.1) (0,_) ⟨by simp,by rw [bitsK_zero,← hMe]; exact ob⟩ rfl rfl ?_
  rintro ⟨k,H⟩ ⟨hk,own⟩
  simp only at hk own
  simp [mkF]
  refine aSI (fun hc=>?_) (fun hc=>?_) <;> simp at hc <;> simp [hc]
  · have hu:k<os.length:=by omega
    obtain ⟨o,off,rfl,cu⟩:=intEAt (oo.sl.ext own.ext) hu
    have hv:=iv k hu
    simp [il,hc,cu]
    obtain ⟨q,hqe⟩:∃ q:Nat,q=k / 8:=⟨_,rfl⟩
    obtain ⟨r,hre⟩:∃ r:Nat,r=k % 8:=⟨_,rfl⟩
    have wq:IntKind.i64.wrap ((k:Int) / 8)=(q:Int):=by rw [wrap_in (by omega) (by omega)]; omega
    have wr:(k:Int).tmod 8=(r:Int):=by rw [Int.tmod_eq_emod_of_nonneg (by omega)]; omega
    refine aSI (fun hd=>?_) (fun hd=>?_) <;> simp at hd <;> simp [hd]
    · have hmem:(k:Int)∈held f.nodes:=by
        have:=hv.symm.trans (decide_eq_true hd)
        simpa using this
      have hq:q<(bitsK (held f.nodes) f.data.length k).length:=by rw [bitsK_len]; omega
      have hqM:q<M:=by omega
      obtain ⟨ob1,offb,eb,cb⟩:=byteAt own.sl hq
      simp at eb
      obtain ⟨rfl,rfl⟩:=eb
      rw [Nat.zero_add] at cb
      have hb1:byteN (held f.nodes) q k<pw r:=by
        subst hqe; subst hre
        exact byteN_at _ _
      have hb2:byteN (held f.nodes) q k+pw r<256:=by
        have:=byteN_le (held f.nodes) (k / 8) (k+1)
        rw [byteN,if_pos ⟨rfl,hmem⟩,← hqe,← hre] at this
        exact this
      have wo:=abin_oru8 Try.prog 5 (byteN (held f.nodes) q k) r hb1 hb2
      rw [← u8_ofNat hb2] at wo
      rw [bitsK_nat] at cb
      obtain ⟨hcan,F2',own2⟩:=own.putFlat (i:=q) hq (UInt8.ofNat (byteN (held f.nodes) q k+pw r)) 0 [.int .u8 (UInt8.ofNat (byteN (held f.nodes) q k+pw r)).toNat] (by simp) (by simp)
      have hset:(bitsK (held f.nodes) f.data.length k).set q (UInt8.ofNat (byteN (held f.nodes) q k+pw r))=bitsK (held f.nodes) f.data.length (k+1):=by
        subst hqe; subst hre
        exact bitsK_yes _ _ _ hmem
      rw [hset] at own2
      have e2:=own2.flatF
      subst e2
      have hcan':cS_ H H5.length q 1=true:=by simpa using hcan
      generalize hz:((UInt8.ofNat (byteN (held f.nodes) q k+pw r)).toNat:Int)=z at wo own2
      have own3:Own H5 5 byteE (sA_ H H5.length q [.int .u8 z]) (bitsK (held f.nodes) f.data.length (k+1)) (some ⟨H5.length,0,none⟩) [H5.length]:=by
        simp at own2
        exact own2
      refine drawK true (by kernel_rfl) ?_
      simp [wq,wr,hqM,cb,abin_shl1 Try.prog 5 r (by omega),wo,hcan']
      exact anext (k+1,sA_ H H5.length q [.int .u8 z]) ⟨hc,own3⟩ (by simp only; omega) (by simp [pickF,wS (show k<9223372036854775807 by omega)]) rfl (by simp)
    · have hmem:(k:Int) ∉ held f.nodes:=by
        intro hm
        have:decide (0≤os[k])=true:=hv.trans (decide_eq_true hm)
        simp at this; omega
      refine anext (k+1,H) ⟨hc,?_⟩ (by simp only; omega) (by simp [pickF,wS (show k<9223372036854775807 by omega)]) rfl (by simp)
      simp only
      rw [bitsK_no _ _ _ hmem]
      exact own
  · obtain rfl:k=f.data.length:=by omega
    have hML:M=(fsBits f).length:=by unfold fsBits; rw [bitsK_len]; exact hMe
    have own':Own H5 5 byteE H (fsBits f) (some ⟨H5.length,0,none⟩) [H5.length]:=own
    have o3:Own B 9 strE (H++[⟨true,true,9,[.string (S (fsHead f)),.string (S (fsBits f))]⟩]) [fsHead f,fsBits f] (some ⟨H.length,0,none⟩) [H.length]:=by
      have:=Own.lit (h0:=B) (h:=H) (e:=9) (A:=strE) (xs:=[fsHead f,fsBits f]) (css:=[[.string (S (fsHead f))],[.string (S (fsBits f))]]) (Fs:=[[],[]]) (own3.ext.trans own.ext) ⟨⟨rfl,rfl⟩,⟨rfl,rfl⟩,trivial⟩ (by simp) (by simp)
      simpa using this
    simp [hML,lev_cvBS own'.sl,lev_cvBS (own3.grow own.ext).sl,cell_up o3.ext b0]
    refine aloop mixed [1,9,65,66,67] (fun (y:Nat × Option Addr × Hp)=>[.pointer (some ⟨h.length,0,none⟩),.slice y.2.1 (y.1+2) (y.1+2),.slice a1 f.nodes.length f.nodes.length,.int .i64 f.nodes.length,.int .i64 y.1]) (fun y=>y.2.2)
      (fun y=>y.1≤f.nodes.length∧∃ G,Own B 9 strE y.2.2 ([fsHead f,fsBits f]++(f.nodes.map nodeText).take y.1) y.2.1 G) (fun y=>f.nodes.length - y.1) (0,some ⟨H.length,0,none⟩,_) ⟨by simp,_,by
        have e:([fsHead f,fsBits f]++(f.nodes.map nodeText).take 0)=[fsHead f,fsBits f]:=by simp
        rw [e]; exact o3⟩ rfl rfl ?_
    rintro ⟨j,a,H⟩ ⟨hj,G0,own⟩
    simp only at hj own
    simp [mkF]
    refine aSI (fun hc=>?_) (fun hc=>?_) <;> simp at hc <;> simp [hc]
    · obtain ⟨o,off,bb,G1,rfl,c0,c1,c2,c3,c4,kb,-⟩:=nodeAt (k1.ext (eh.trans own.ext)) hc
      simp [hc,c0,c1,c2,c3,c4]
      refine cK (nodeText_impl_c f.nodes[j] bb G1 w _ (kb.to (by simp)) (hlim.2.1 _ (List.getElem_mem hc))) ?_
      rintro _ _ ⟨⟨t,rfl⟩,rfl⟩
      have hLn:([fsHead f,fsBits f]++(f.nodes.map nodeText).take j).length=j+2:=by simp; omega
      obtain ⟨a8,H8,F8,eq8,own8⟩:=((own.grow (Ext.push H [⟨true,true,49,[.int .i64 f.nodes[j].kind,.int .i64 f.nodes[j].gen,.int .i64 f.nodes[j].time,.int .i64 f.nodes[j].size,.slice bb f.nodes[j].blocks.length f.nodes[j].blocks.length]⟩])).grow (Ext.push _ t)).append1 (P:=Try.prog) (nodeText f.nodes[j]) (cs:=[.string (S (nodeText f.nodes[j]))]) rfl (st:=22) (xt:=22) (bt:=16) (z:=[.string (S [])]) (by simp) (by simp) (by rw [hLn]; unfold big; omega) (by rw [hLn]; unfold big; omega)
      rw [hLn] at eq8
      simp at eq8
      have e8:([fsHead f,fsBits f]++(f.nodes.map nodeText).take j)++[nodeText f.nodes[j]]=[fsHead f,fsBits f]++(f.nodes.map nodeText).take (j+1):=by
        rw [List.append_assoc,List.take_succ_eq_append_getElem (by simp; exact hc)]; simp
      rw [e8] at own8
      simp [eq8]
      exact anext (j+1,a8,H8) ⟨hc,F8,own8⟩ (by simp only; omega) (by simp [pickF,wS (show j<9223372036854775807 by omega),Nat.add_right_comm]) rfl (by simp)
    · obtain rfl:j=f.nodes.length:=by omega
      have hT:([fsHead f,fsBits f]++(f.nodes.map nodeText).take f.nodes.length)=[fsHead f,fsBits f]++f.nodes.map nodeText:=by
        rw [List.take_of_length_le (by simp)]
      rw [hT] at own
      have hLn:([fsHead f,fsBits f]++f.nodes.map nodeText).length=f.nodes.length+2:=by simp
      obtain ⟨a9,H9,F9,eq9,own9,-,-⟩:=own.appendSl (P:=Try.prog) (k2.ext (eh.trans own.ext)) (st:=22) (xt:=22) (bt:=16) (z:=[.string (S [])]) (by simp) (by simp) (by rw [hLn]; unfold big; omega) (by rw [hLn]; unfold big; omega)
      rw [hLn] at eq9
      have hF:fsBlocks f=[fsHead f,fsBits f]++f.nodes.map nodeText++f.data:=by simp [fsBlocks,e1]
      rw [hF]
      have hFl:([fsHead f,fsBits f]++f.nodes.map nodeText++f.data).length=f.nodes.length+2+f.data.length:=by rw [List.length_append,hLn]
      rw [hFl]
      simp [cell_up own.ext b1,eq9]
      have o:=own9.of_new eh
      simp at o
      exact ⟨F9,o⟩
end
end Go.Proofs.Ytmpgpkdijfcfhaa.Hz
