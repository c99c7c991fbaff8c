/- Texts of the calculus and of the program's functions, merged: NK GN DO0 OP OW US SH SS RD. -/
import Derived.Test.YtmpgpkdijfcfhaaHyGD
import Derived.Test.YtmpgpkdijfcfhaaHyGC
namespace Go.Proofs.Ytmpgpkdijfcfhaa.Hz
open Go.RowKit
set_option linter.unusedVariables false
set_option linter.unusedSimpArgs false
set_option maxRecDepth 20000
def inR (n lo hi:Int):Bool:=decide (lo≤n∧n≤hi)
theorem inR_iff {n lo hi:Int}:inR n lo hi=true↔lo≤n∧n≤hi:=by simp [inR]
theorem withinR (n lo hi:Int) (h:Hp):ACall Try.prog 59 [.int .i64 n,.int .i64 lo,.int .i64 hi] h fun r h'=>r=.bool (inR n lo hi)∧h'=h:=within_c n lo hi h
theorem l1InR (n lo hi:Int) (h:Hp):ACall Try.prog 43 [.int .i64 n,.int .i64 lo,.int .i64 hi] h fun r h'=>r=.bool (inR n lo hi)∧h'=h:=within_spec_c n lo hi h
def blocksFor (n:Int):Int:=if n≤0 then 0 else if n ≥ 80 then 5 else (n+15) / 16
theorem blocksFor_impl_c (n:Int) (h:Hp):ACall Try.prog 91 [.int .i64 n] h fun r h'=>r=.int .i64 (blocksFor n)∧h'=h:=by
  refine acall mixed Try.func91 rfl (by kernel_rfl) ?_
  simp [Try.f91]
  refine aSI (fun hb=>?_) (fun hb=>?_) <;> simp at hb <;> simp [hb]
  · simp [blocksFor,hb]
  refine aSI (fun hc=>?_) (fun hc=>?_) <;> simp at hc <;> simp [hc]
  · have h1:¬ n≤0:=by omega
    have h2:80≤n:=by omega
    simp [blocksFor,h1,h2]
  · have h1:¬ n≤0:=by omega
    have w1:IntKind.i64.wrap (n+16)=n+16:=wrap_in (by omega) (by omega)
    have w2:IntKind.i64.wrap (n+16 - 1)=n+15:=by rw [wrap_in (by omega) (by omega)]; omega
    have w3:IntKind.i64.wrap ((n+15).tdiv 16)=(n+15) / 16:=by rw [Int.tdiv_eq_ediv_of_nonneg (by omega),wrap_in (by omega) (by omega)]
    simp [w1,w2,w3,blocksFor,h1]
    omega
theorem blocksFor_spec_c (n:Int) (h:Hp):ACall Try.prog 68 [.int .i64 n] h fun r h'=>r=.int .i64 (blocksFor n)∧h'=h:=by
  refine acall mixed Try.func68 rfl (by kernel_rfl) ?_
  simp [Try.f68]
  refine aSI (fun hb=>?_) (fun hb=>?_) <;> simp at hb <;> simp [hb]
  · simp [blocksFor,hb]
  refine aSI (fun hc=>?_) (fun hc=>?_) <;> simp at hc <;> simp [hc]
  · have h1:¬ n≤0:=by omega
    simp [blocksFor,h1,hc]
  · have h1:¬ n≤0:=by omega
    have h2:¬ 80≤n:=by omega
    have w1:IntKind.i64.wrap (n+16)=n+16:=wrap_in (by omega) (by omega)
    have w2:IntKind.i64.wrap (n+16 - 1)=n+15:=by rw [wrap_in (by omega) (by omega)]; omega
    have w3:IntKind.i64.wrap ((n+15).tdiv 16)=(n+15) / 16:=by rw [Int.tdiv_eq_ediv_of_nonneg (by omega),wrap_in (by omega) (by omega)]
    simp [w1,w2,w3,blocksFor,h1,h2]
theorem contains_take {xs:List Int} {v:Int} {k:Nat} (hk:k<xs.length) (h:(xs.take k).contains v=false) (hne:¬ v=xs[k]):(xs.take (k+1)).contains v=false:=by
  rw [List.take_succ_eq_append_getElem hk]
  simp only [List.contains_eq_mem,List.mem_append,List.mem_singleton,decide_eq_false_iff_not,not_or] at *
  exact ⟨h,hne⟩
theorem indexInt_c (xs:List Int) (v:Int) (a:Option Addr) (F:List Nat) (w:Bool) (t:TypeId) (h:Hp) (hr:slR w t intE h xs a F) (hl:xs.length≤1048576) :
    ACall Try.prog 106 [.slice a xs.length xs.length,.int .i64 v] h fun r h'=>h'=h∧∃ i:Int,r=.int .i64 i∧decide (0≤i)=xs.contains v:=by
  refine acall mixed Try.func106 rfl (by kernel_rfl) ?_
  simp [Try.f106]
  refine aloop mixed [0,1,7,8] (fun (k:Nat)=>[.slice a xs.length xs.length,.int .i64 v,.int .i64 xs.length,.int .i64 k]) (fun _=>h) (fun k=>k≤xs.length∧(xs.take k).contains v=false) (fun k=>xs.length - k) 0 ⟨by omega,by simp⟩ rfl rfl ?_
  rintro k ⟨hk,he⟩
  simp [mkF]
  refine aSI (fun hb=>?_) (fun hb=>?_) <;> simp at hb <;> simp [hb]
  · obtain ⟨o,off,rfl,c0⟩:=intEAt hr hb
    simp [hb,c0]
    refine aSI (fun hc=>?_) (fun hc=>?_) <;> simp at hc <;> simp [hc]
    exact anext (k+1) ⟨hb,by simpa using contains_take hb he hc⟩ (by omega) (by simp [pickF,wS (show k<9223372036854775807 by omega)]) rfl (by simp)
  · obtain rfl:k=xs.length:=by omega
    simpa using he
theorem containsInt_c (xs:List Int) (v:Int) (a:Option Addr) (F:List Nat) (w:Bool) (t:TypeId) (h:Hp) (hr:slR w t intE h xs a F) (hl:xs.length≤1048576) :
    ACall Try.prog 92 [.slice a xs.length xs.length,.int .i64 v] h fun r h'=>h'=h∧r=.bool (xs.contains v):=by
  refine acall mixed Try.func92 rfl (by kernel_rfl) ?_
  simp [Try.f92]
  refine cK (indexInt_c xs v a F w t h hr hl) ?_
  rintro _ _ ⟨rfl,i,rfl,hi⟩
  simp at hi
  simp [hi]
theorem l1Has_c (xs:List Int) (v:Int) (a:Option Addr) (F:List Nat) (w:Bool) (t:TypeId) (h:Hp) (hr:slR w t intE h xs a F) (hl:xs.length≤1048576) :
    ACall Try.prog 69 [.slice a xs.length xs.length,.int .i64 v] h fun r h'=>h'=h∧r=.bool (xs.contains v):=by
  refine acall mixed Try.func69 rfl (by kernel_rfl) ?_
  simp [Try.f69]
  refine aloop mixed [0,1,5] (fun (k:Nat)=>[.slice a xs.length xs.length,.int .i64 v,.int .i64 k]) (fun _=>h) (fun k=>k≤xs.length∧(xs.take k).contains v=false) (fun k=>xs.length - k) 0 ⟨by omega,by simp⟩ rfl rfl ?_
  rintro k ⟨hk,he⟩
  simp [mkF]
  refine aSI (fun hb=>?_) (fun hb=>?_) <;> simp at hb <;> simp [hb]
  · obtain ⟨o,off,rfl,c0⟩:=intEAt hr hb
    simp [hb,c0]
    refine aSI (fun hc=>?_) (fun hc=>?_) <;> simp at hc <;> simp [hc]
    · simp [← hc]
    · exact anext (k+1) ⟨hb,by simpa using contains_take hb he (fun e=>hc e.symm)⟩ (by omega) (by simp [pickF,wS (show k<9223372036854775807 by omega)]) rfl (by simp)
  · obtain rfl:k=xs.length:=by omega
    simpa using he
def blkOk:List Int→List Int→Bool
  | _,[]=>true
  | seen,b :: bs=>inR b 0 35 && !(seen.contains b) && blkOk (seen++[b]) bs
theorem blkOk_drop (xs:List Int) (k:Nat) (hk:k<xs.length):blkOk (xs.take k) (xs.drop k)=(inR xs[k] 0 35 && !((xs.take k).contains xs[k]) && blkOk (xs.take (k+1)) (xs.drop (k+1))):=by
  rw [List.drop_eq_getElem_cons hk,List.take_succ_eq_append_getElem hk]; rfl
def badDir (n:Node):Bool:=n.kind == 2 && (n.gen != 0 || n.time != 0)
def badLen (n:Node):Bool:=(n.blocks.length:Int) != blocksFor n.size
def nodeOk (n:Node):Bool :=
  if n.kind == 0 then n.gen == 0 && n.time == 0 && n.size == 0 && (n.blocks.length:Int) == 0
  else inR n.kind 1 3 && inR n.gen 0 1000000 && inR n.time 0 100000 && inR n.size 0 80 && !badDir n && !badLen n && blkOk [] n.blocks
set_option maxHeartbeats 2000000 in
theorem nodeOk_impl_c (x:Node) (a1:Option Addr) (F1:List Nat) (w:Bool) (h:Hp) (k1:slR w 3 intE h x.blocks a1 F1) (hl:x.lim) :
    ACall Try.prog 62 [.agg #[.int .i64 x.kind,.int .i64 x.gen,.int .i64 x.time,.int .i64 x.size,.slice a1 x.blocks.length x.blocks.length]] h fun r h'=>(∃ t,h'=h++t)∧r=.bool (nodeOk x):=by
  refine acall mixed Try.func62 rfl (by kernel_rfl) ?_
  have hlim:x.blocks.length≤1048576:=hl
  simp [Try.f62]
  refine aSI (fun h0=>?_) (fun h0=>?_) <;> simp only [h0] <;> simp
  · refine aSI (fun h1=>?_) (fun h1=>?_) <;> simp [h1,nodeOk,h0]
    refine aSI (fun h2=>?_) (fun h2=>?_) <;> simp [h2,h1]
    refine aSI (fun h3=>?_) (fun h3=>?_) <;> simp [h3]
  refine cK (withinR x.kind 1 3 _) ?_
  rintro _ _ ⟨rfl,rfl⟩
  cases e1:inR x.kind 1 3
  · simp [nodeOk,h0,e1]
  simp
  refine cK (withinR x.gen 0 1000000 _) ?_
  rintro _ _ ⟨rfl,rfl⟩
  cases e2:inR x.gen 0 1000000
  · simp [nodeOk,h0,e1,e2]
  simp
  refine cK (withinR x.time 0 100000 _) ?_
  rintro _ _ ⟨rfl,rfl⟩
  cases e3:inR x.time 0 100000
  · simp [nodeOk,h0,e1,e2,e3]
  simp
  refine cK (withinR x.size 0 80 _) ?_
  rintro _ _ ⟨rfl,rfl⟩
  cases e4:inR x.size 0 80
  · simp [nodeOk,h0,e1,e2,e3,e4]
  simp
  refine drawK true (by kernel_rfl) ?_
  simp
  have fin:nodeOk x=(!badDir x && !badLen x && blkOk [] x.blocks):=by simp [nodeOk,h0,e1,e2,e3,e4]
  refine aSI (fun h5=>?_) (fun h5=>?_) <;> simp [h5]
  · refine aSI (fun h6=>?_) (fun h6=>?_) <;> simp [h6]
    · have hb:badDir x=true:=by rw [badDir,h5,h6]; rfl
      rw [fin,hb]; rfl
    refine aSI (fun h7=>?_) (fun h7=>?_) <;> simp [h7]
    · have hb:badDir x=true:=by rw [badDir,h5,h6,h7]; rfl
      rw [fin,hb]; rfl
    have hb:badDir x=false:=by rw [badDir,h5,h6,h7]; rfl
    rw [hb] at fin
    refine callK (blocksFor_impl_c x.size _) ?_
    rintro _ _ ⟨rfl,rfl⟩
    refine ⟨fun _=>Ext.refl _,?_⟩
    simp
    refine aSI (fun h8=>?_) (fun h8=>?_) <;> simp [h8]
    · have hc:badLen x=true:=h8
      rw [fin,hc]; rfl
    have hc:badLen x=false:=h8
    rw [hc] at fin
    simp at fin
    rw [fin]
    refine aloop mixed [1,72,73,74] (fun (k:Nat)=>[.pointer (some ⟨h.length,0,none⟩),.slice a1 x.blocks.length x.blocks.length,.int .i64 x.blocks.length,.int .i64 k]) (fun _=>_) (fun k=>k≤x.blocks.length∧blkOk (x.blocks.take k) (x.blocks.drop k)=blkOk [] x.blocks) (fun k=>x.blocks.length - k) 0 ⟨by omega,by simp⟩ rfl rfl ?_
    rintro k ⟨hk,he⟩
    simp [mkF]
    refine aSI (fun hd=>?_) (fun hd=>?_) <;> simp at hd <;> simp [hd]
    · have he2:=blkOk_drop x.blocks k hd
      obtain ⟨o,off,rfl,c0⟩:=intEAt (k1.ext (Ext.push h [⟨true,true,49,[.int .i64 x.kind,.int .i64 x.gen,.int .i64 x.time,.int .i64 x.size,.slice a1 x.blocks.length x.blocks.length]⟩])) hd
      simp [hd,c0]
      refine cK (withinR x.blocks[k] 0 35 _) ?_
      rintro _ _ ⟨rfl,rfl⟩
      cases e5:inR x.blocks[k] 0 35
      · rw [e5] at he2
        simp [← he,he2]
      have kk:=k1.ext (Ext.push h [⟨true,true,49,[.int .i64 x.kind,.int .i64 x.gen,.int .i64 x.time,.int .i64 x.size,.slice (some ⟨o,off,none⟩) x.blocks.length x.blocks.length]⟩])
      have hel:=kk.el
      obtain ⟨G,hp,_⟩:=kk.part 0 k (by omega) (by omega)
      simp only [List.drop_zero,Nat.zero_mul,Nat.add_zero] at hp
      have hlen:(x.blocks.take k).length=k:=by simp; omega
      have hcf:=containsInt_c (x.blocks.take k) x.blocks[k] _ G w _ _ hp (by omega)
      rw [hlen] at hcf
      simp [asl2_j,hel,Nat.le_of_lt hd]
      refine cK (hcf.cap (Nat.le_of_lt hd)) ?_
      rintro _ _ ⟨rfl,rfl⟩
      cases e6:(x.blocks.take k).contains x.blocks[k]
      · simp
        rw [e5,e6] at he2
        exact anext (k+1) ⟨hd,by rw [← he,he2]; rfl⟩ (by omega) (by simp [pickF,wS (show k<9223372036854775807 by omega)]) rfl (by simp)
      · rw [e5,e6] at he2
        simp [← he,he2]
    · obtain rfl:k=x.blocks.length:=by omega
      simpa [blkOk] using he
  · have hb:badDir x=false:=by rw [badDir,h5]; rfl
    rw [hb] at fin
    refine callK (blocksFor_impl_c x.size _) ?_
    rintro _ _ ⟨rfl,rfl⟩
    refine ⟨fun _=>Ext.refl _,?_⟩
    simp
    refine aSI (fun h8=>?_) (fun h8=>?_) <;> simp [h8]
    · have hc:badLen x=true:=h8
      rw [fin,hc]; rfl
    have hc:badLen x=false:=h8
    rw [hc] at fin
    simp at fin
    rw [fin]
    refine aloop mixed [1,72,73,74] (fun (k:Nat)=>[.pointer (some ⟨h.length,0,none⟩),.slice a1 x.blocks.length x.blocks.length,.int .i64 x.blocks.length,.int .i64 k]) (fun _=>_) (fun k=>k≤x.blocks.length∧blkOk (x.blocks.take k) (x.blocks.drop k)=blkOk [] x.blocks) (fun k=>x.blocks.length - k) 0 ⟨by omega,by simp⟩ rfl rfl ?_
    rintro k ⟨hk,he⟩
    simp [mkF]
    refine aSI (fun hd=>?_) (fun hd=>?_) <;> simp at hd <;> simp [hd]
    · have he2:=blkOk_drop x.blocks k hd
      obtain ⟨o,off,rfl,c0⟩:=intEAt (k1.ext (Ext.push h [⟨true,true,49,[.int .i64 x.kind,.int .i64 x.gen,.int .i64 x.time,.int .i64 x.size,.slice a1 x.blocks.length x.blocks.length]⟩])) hd
      simp [hd,c0]
      refine cK (withinR x.blocks[k] 0 35 _) ?_
      rintro _ _ ⟨rfl,rfl⟩
      cases e5:inR x.blocks[k] 0 35
      · rw [e5] at he2
        simp [← he,he2]
      have kk:=k1.ext (Ext.push h [⟨true,true,49,[.int .i64 x.kind,.int .i64 x.gen,.int .i64 x.time,.int .i64 x.size,.slice (some ⟨o,off,none⟩) x.blocks.length x.blocks.length]⟩])
      have hel:=kk.el
      obtain ⟨G,hp,_⟩:=kk.part 0 k (by omega) (by omega)
      simp only [List.drop_zero,Nat.zero_mul,Nat.add_zero] at hp
      have hlen:(x.blocks.take k).length=k:=by simp; omega
      have hcf:=containsInt_c (x.blocks.take k) x.blocks[k] _ G w _ _ hp (by omega)
      rw [hlen] at hcf
      simp [asl2_j,hel,Nat.le_of_lt hd]
      refine cK (hcf.cap (Nat.le_of_lt hd)) ?_
      rintro _ _ ⟨rfl,rfl⟩
      cases e6:(x.blocks.take k).contains x.blocks[k]
      · simp
        rw [e5,e6] at he2
        exact anext (k+1) ⟨hd,by rw [← he,he2]; rfl⟩ (by omega) (by simp [pickF,wS (show k<9223372036854775807 by omega)]) rfl (by simp)
      · rw [e5,e6] at he2
        simp [← he,he2]
    · obtain rfl:k=x.blocks.length:=by omega
      simpa [blkOk] using he
set_option maxHeartbeats 2000000 in
theorem nodeOk_spec_c (x:Node) (a1:Option Addr) (F1:List Nat) (w:Bool) (h:Hp) (k1:slR w 3 intE h x.blocks a1 F1) (hl:x.lim) :
    ACall Try.prog 44 [.agg #[.int .i64 x.kind,.int .i64 x.gen,.int .i64 x.time,.int .i64 x.size,.slice a1 x.blocks.length x.blocks.length]] h fun r h'=>(∃ t,h'=h++t)∧r=.bool (nodeOk x):=by
  refine acall mixed Try.func44 rfl (by kernel_rfl) ?_
  have hlim:x.blocks.length≤1048576:=hl
  simp [Try.f44]
  refine aSI (fun h0=>?_) (fun h0=>?_) <;> simp only [h0] <;> simp
  · refine aSI (fun h1=>?_) (fun h1=>?_) <;> simp [h1,nodeOk,h0]
    refine aSI (fun h2=>?_) (fun h2=>?_) <;> simp [h2,h1]
    refine aSI (fun h3=>?_) (fun h3=>?_) <;> simp [h3]
  refine drawK true (by kernel_rfl) ?_
  simp
  refine callK (l1InR x.kind 1 3 _) ?_
  rintro _ _ ⟨rfl,rfl⟩
  refine ⟨fun _=>Ext.refl _,?_⟩
  cases e1:inR x.kind 1 3
  · simp [nodeOk,h0,e1]
  simp
  refine callK (l1InR x.gen 0 1000000 _) ?_
  rintro _ _ ⟨rfl,rfl⟩
  refine ⟨fun _=>Ext.refl _,?_⟩
  cases e2:inR x.gen 0 1000000
  · simp [nodeOk,h0,e1,e2]
  simp
  refine callK (l1InR x.time 0 100000 _) ?_
  rintro _ _ ⟨rfl,rfl⟩
  refine ⟨fun _=>Ext.refl _,?_⟩
  cases e3:inR x.time 0 100000
  · simp [nodeOk,h0,e1,e2,e3]
  simp
  refine callK (l1InR x.size 0 80 _) ?_
  rintro _ _ ⟨rfl,rfl⟩
  refine ⟨fun _=>Ext.refl _,?_⟩
  cases e4:inR x.size 0 80
  · simp [nodeOk,h0,e1,e2,e3,e4]
  simp
  have fin:nodeOk x=(!badDir x && !badLen x && blkOk [] x.blocks):=by simp [nodeOk,h0,e1,e2,e3,e4]
  refine callK (blocksFor_spec_c x.size _) ?_
  rintro _ _ ⟨rfl,rfl⟩
  refine ⟨fun _=>Ext.refl _,?_⟩
  simp
  refine aSI (fun h8=>?_) (fun h8=>?_) <;> simp [h8]
  · have hc:badLen x=true:=h8
    rw [fin,hc]; simp
  have hc:badLen x=false:=h8
  rw [hc] at fin
  refine aSI (fun h5=>?_) (fun h5=>?_) <;> simp [h5]
  · refine aSI (fun h6=>?_) (fun h6=>?_) <;> simp [h6]
    · have hb:badDir x=true:=by rw [badDir,h5,h6]; rfl
      rw [fin,hb]; rfl
    refine aSI (fun h7=>?_) (fun h7=>?_) <;> simp [h7]
    · have hb:badDir x=true:=by rw [badDir,h5,h6,h7]; rfl
      rw [fin,hb]; rfl
    have hb:badDir x=false:=by rw [badDir,h5,h6,h7]; rfl
    rw [hb] at fin
    simp at fin
    rw [fin]
    refine aloop mixed [1,3] (fun (k:Nat)=>[.pointer (some ⟨h.length,0,none⟩),.int .i64 k]) (fun _=>h++[⟨true,true,49,[.int .i64 x.kind,.int .i64 x.gen,.int .i64 x.time,.int .i64 x.size,.slice a1 x.blocks.length x.blocks.length]⟩]) (fun k=>k≤x.blocks.length∧blkOk (x.blocks.take k) (x.blocks.drop k)=blkOk [] x.blocks) (fun k=>x.blocks.length - k) 0 ⟨by omega,by simp⟩ rfl rfl ?_
    rintro k ⟨hk,he⟩
    simp [mkF]
    refine aSI (fun hd=>?_) (fun hd=>?_) <;> simp at hd <;> simp [hd]
    · have he2:=blkOk_drop x.blocks k hd
      obtain ⟨o,off,rfl,c0⟩:=intEAt (k1.ext (Ext.push h [⟨true,true,49,[.int .i64 x.kind,.int .i64 x.gen,.int .i64 x.time,.int .i64 x.size,.slice a1 x.blocks.length x.blocks.length]⟩])) hd
      refine drawK true (by kernel_rfl) ?_
      simp [hd,c0]
      refine callK (l1InR x.blocks[k] 0 35 _) ?_
      rintro _ _ ⟨rfl,rfl⟩
      refine ⟨fun _=>Ext.refl _,?_⟩
      cases e5:inR x.blocks[k] 0 35
      · rw [e5] at he2
        simp [← he,he2]
      have kk:=k1.ext (Ext.push h [⟨true,true,49,[.int .i64 x.kind,.int .i64 x.gen,.int .i64 x.time,.int .i64 x.size,.slice (some ⟨o,off,none⟩) x.blocks.length x.blocks.length]⟩])
      have hel:=kk.el
      obtain ⟨G,hp,_⟩:=kk.part 0 k (by omega) (by omega)
      simp only [List.drop_zero,Nat.zero_mul,Nat.add_zero] at hp
      have hlen:(x.blocks.take k).length=k:=by simp; omega
      have hcf:=l1Has_c (x.blocks.take k) x.blocks[k] _ G w _ _ hp (by omega)
      rw [hlen] at hcf
      simp [asl2_j,hel,Nat.le_of_lt hd,hd,c0]
      refine callK (hcf.cap (Nat.le_of_lt hd)) ?_
      rintro _ _ ⟨rfl,rfl⟩
      refine ⟨fun _=>Ext.refl _,?_⟩
      cases e6:(x.blocks.take k).contains x.blocks[k]
      · simp
        rw [e5,e6] at he2
        exact anext (k+1) ⟨hd,by rw [← he,he2]; rfl⟩ (by omega) (by simp [pickF,wS (show k<9223372036854775807 by omega)]) rfl (by simp)
      · rw [e5,e6] at he2
        simp [← he,he2]
    · obtain rfl:k=x.blocks.length:=by omega
      simpa [blkOk] using he
  · have hb:badDir x=false:=by rw [badDir,h5]; rfl
    rw [hb] at fin
    simp at fin
    rw [fin]
    refine aloop mixed [1,3] (fun (k:Nat)=>[.pointer (some ⟨h.length,0,none⟩),.int .i64 k]) (fun _=>h++[⟨true,true,49,[.int .i64 x.kind,.int .i64 x.gen,.int .i64 x.time,.int .i64 x.size,.slice a1 x.blocks.length x.blocks.length]⟩]) (fun k=>k≤x.blocks.length∧blkOk (x.blocks.take k) (x.blocks.drop k)=blkOk [] x.blocks) (fun k=>x.blocks.length - k) 0 ⟨by omega,by simp⟩ rfl rfl ?_
    rintro k ⟨hk,he⟩
    simp [mkF]
    refine aSI (fun hd=>?_) (fun hd=>?_) <;> simp at hd <;> simp [hd]
    · have he2:=blkOk_drop x.blocks k hd
      obtain ⟨o,off,rfl,c0⟩:=intEAt (k1.ext (Ext.push h [⟨true,true,49,[.int .i64 x.kind,.int .i64 x.gen,.int .i64 x.time,.int .i64 x.size,.slice a1 x.blocks.length x.blocks.length]⟩])) hd
      refine drawK true (by kernel_rfl) ?_
      simp [hd,c0]
      refine callK (l1InR x.blocks[k] 0 35 _) ?_
      rintro _ _ ⟨rfl,rfl⟩
      refine ⟨fun _=>Ext.refl _,?_⟩
      cases e5:inR x.blocks[k] 0 35
      · rw [e5] at he2
        simp [← he,he2]
      have kk:=k1.ext (Ext.push h [⟨true,true,49,[.int .i64 x.kind,.int .i64 x.gen,.int .i64 x.time,.int .i64 x.size,.slice (some ⟨o,off,none⟩) x.blocks.length x.blocks.length]⟩])
      have hel:=kk.el
      obtain ⟨G,hp,_⟩:=kk.part 0 k (by omega) (by omega)
      simp only [List.drop_zero,Nat.zero_mul,Nat.add_zero] at hp
      have hlen:(x.blocks.take k).length=k:=by simp; omega
      have hcf:=l1Has_c (x.blocks.take k) x.blocks[k] _ G w _ _ hp (by omega)
      rw [hlen] at hcf
      simp [asl2_j,hel,Nat.le_of_lt hd,hd,c0]
      refine callK (hcf.cap (Nat.le_of_lt hd)) ?_
      rintro _ _ ⟨rfl,rfl⟩
      refine ⟨fun _=>Ext.refl _,?_⟩
      cases e6:(x.blocks.take k).contains x.blocks[k]
      · simp
        rw [e5,e6] at he2
        exact anext (k+1) ⟨hd,by rw [← he,he2]; rfl⟩ (by omega) (by simp [pickF,wS (show k<9223372036854775807 by omega)]) rfl (by simp)
      · rw [e5,e6] at he2
        simp [← he,he2]
    · obtain rfl:k=x.blocks.length:=by omega
      simpa [blkOk] using he
theorem byteAt {h:Hp} {w:Bool} {t:TypeId} {es:Str} {a:Option Addr} {F:List Nat} (k:slR w t byteE h es a F) {i:Nat} (hi:i<es.length):∃ o off,a=some ⟨o,off,none⟩∧cellAt h o (off+i)=some (.int .u8 es[i].toNat):=by
  obtain ⟨o,off,c,Fi,rfl,⟨rfl,_⟩,-,hc⟩:=k.at_ (List.getElem?_eq_getElem hi)
  have:=hc 0 (by decide)
  exact ⟨o,off,rfl,by simpa [byteE,flatE] using this⟩
theorem lev_cvBSc {P:Program} {w:Bool} {h:Hp} {e:TypeId} {xs:Str} {o off:Nat} {F:List Nat} (k:slR w e byteE h xs (some ⟨o,off,none⟩) F) (ρ:Operand→Value) (s d:TypeId) (x:Operand) (c:Nat) (hx:ρ x=.slice (some ⟨o,off,none⟩) xs.length c) (h1:strOf P d=true) (h2:(elemOf P s).bind (intOf' P)=some .u8):lev P h ρ (.convert s d x)=some (.string (S xs)):=by
  have:=lev_cvBS (P:=P) k (fun _=>.slice (some ⟨o,off,none⟩) xs.length xs.length) s d x rfl h1 h2
  simp only [lev,h1,h2] at this
  simp only [lev,hx,h1,h2]
  exact this
theorem abin_shlN (t:TypeId) (m k:Nat) (hm:m<128) (hk:k<5):abin Try.prog .shl t (.int .i64 m) (.int .i64 (7 * (k:Int)))=some (.int .i64 ((m * 2 ^ (7 * k):Nat):Int)):=by
  have hb:¬ (7 * (k:Int)<0):=by omega
  have ht:(7 * (k:Int)).toNat=7 * k:=by omega
  have hmin:min (7 * k) 64=7 * k:=by omega
  have hp:2 ^ (7 * k)≤2 ^ 28:=Nat.pow_le_pow_right (by decide) (by omega)
  have hm2:m * 2 ^ (7 * k)≤127 * 2 ^ 28:=Nat.mul_le_mul (by omega) hp
  have e:(m:Int) * 2 ^ (7 * k)=((m * 2 ^ (7 * k):Nat):Int):=by simp
  simp only [abin,hb,if_false,ht,IntKind.bits,hmin]
  rw [e,wrap_in (by omega) (by omega)]
theorem abin_orN (t:TypeId) (n m:Nat) (hn:n<2 ^ 35) (hm:m<2 ^ 35):abin Try.prog .or t (.int .i64 n) (.int .i64 m)=some (.int .i64 ((n ||| m:Nat):Int)):=by
  have h1:(BitVec.ofInt 64 (n:Int)).toNat=n:=by rw [BitVec.toNat_ofInt]; omega
  have h2:(BitVec.ofInt 64 (m:Int)).toNat=m:=by rw [BitVec.toNat_ofInt]; omega
  have h3:n ||| m<2 ^ 35:=Nat.or_lt_two_pow hn hm
  show (if (IntKind.i64≠IntKind.i64) then none else some (Value.int .i64 (IntKind.i64.wrap ((BitVec.ofInt 64 (n:Int) ||| BitVec.ofInt 64 (m:Int)).toNat:Nat))))=_
  rw [if_neg (by simp),BitVec.toNat_or,h1,h2,wrap_in (by omega) (by omega)]
def gnF (b:Str) (at_:Nat):Nat→Nat→Nat→Option (Nat × Nat)
  | 0,_,_=>none
  | fuel+1,k,n =>
    match b[at_+k]? with
    | none=>none
    | some x =>
      if 128≤x.toNat then gnF b at_ fuel (k+1) (n ||| x.toNat % 128 * 2 ^ (7 * k))
      else if (0<k∧x.toNat=0)∨2147483647<(n ||| x.toNat % 128 * 2 ^ (7 * k)) then none
      else some (n ||| x.toNat % 128 * 2 ^ (7 * k),at_+k+1)
def getNum (b:Str) (at_:Nat):Option (Nat × Nat):=gnF b at_ 5 0 0
def gnV:Option (Nat × Nat)→Value
  | none=>.tuple #[.int .i64 0,.int .i64 0,.bool false]
  | some (n,e)=>.tuple #[.int .i64 n,.int .i64 e,.bool true]
theorem gnF_out {b:Str} {at_ k:Nat} (h:b.length≤at_+k):∀ fuel n,gnF b at_ fuel k n=none
  | 0,_=>rfl
  | fuel+1,n=>by simp [gnF,List.getElem?_eq_none h]
theorem gn_lt {n y k:Nat} (hn:n<2 ^ (7 * k)) (hy:y<128):n ||| y * 2 ^ (7 * k)<2 ^ (7 * (k+1)):=by
  have e:2 ^ (7 * (k+1))=128 * 2 ^ (7 * k):=by rw [Nat.mul_add,Nat.pow_add,Nat.mul_comm]
  have hp:0<2 ^ (7 * k):=Nat.two_pow_pos _
  refine Nat.or_lt_two_pow ?_ ?_
  · rw [e]; omega
  · rw [e]; exact Nat.mul_lt_mul_of_pos_right hy hp
theorem gnF_bound (b:Str) (at_:Nat):∀ (fuel k n m e:Nat),gnF b at_ fuel k n=some (m,e)→m≤2147483647∧at_<e∧e≤b.length
  | 0,_,_,_,_,h=>by cases h
  | fuel+1,k,n,m,e,h=>by
    simp only [gnF] at h
    split at h
    · cases h
    · rename_i x hx
      have hlt:=(List.getElem?_eq_some_iff.1 hx).1
      split at h
      · exact gnF_bound b at_ fuel _ _ m e h
      · split at h
        · cases h
        · rename_i hc
          simp only [Option.some.injEq,Prod.mk.injEq] at h
          obtain ⟨rfl,rfl⟩:=h
          omega
set_option maxHeartbeats 2000000 in
theorem getNum_impl_c (b:Str) (at_:Nat) (a:Option Addr) (F:List Nat) (w:Bool) (t:TypeId) (h:Hp) (hr:slR w t byteE h b a F) (hl:b.length≤1048576) (ha:at_≤1048576) :
    ACall Try.prog 28 [.slice a b.length b.length,.int .i64 at_] h fun r h'=>(∃ t,h'=h++t)∧r=gnV (getNum b at_):=by
  refine acall mixed Try.func28 rfl (by kernel_rfl) ?_
  simp [Try.f28]
  refine cK (withinR at_ 0 b.length _) ?_
  rintro _ h ⟨rfl,rfl⟩
  cases e1:inR at_ 0 b.length
  · have hlt:b.length≤at_+0:=by
      by_cases hc:at_≤b.length
      · rw [inR_iff.2 ⟨by omega,by omega⟩] at e1; cases e1
      · omega
    have hg:getNum b at_=none:=gnF_out hlt 5 0
    simp [hg,gnV]
  simp
  refine aloop mixed [0,1,7,8] (fun (x:Nat × Nat)=>[.slice a b.length b.length,.int .i64 at_,.int .i64 x.2,.int .i64 x.1]) (fun _=>h) (fun x=>x.1≤5∧x.2<2 ^ (7 * x.1)∧gnF b at_ (5 - x.1) x.1 x.2=getNum b at_) (fun x=>5 - x.1) (0,0) ⟨by simp,by simp,rfl⟩ (by simp [pickF]) rfl ?_
  rintro ⟨k,n⟩ ⟨hk,hn,he⟩
  simp only at hk hn he
  simp [mkF]
  refine aSI (fun hb=>?_) (fun hb=>?_) <;> simp at hb <;> simp [hb]
  rotate_left
  · obtain rfl:k=5:=by omega
    rw [← he]
    simp [gnF,gnV]
  have wk:IntKind.i64.wrap ((at_:Int)+k)=(at_:Int)+k:=wrap_in (by omega) (by omega)
  simp [wk]
  refine aSI (fun hc=>?_) (fun hc=>?_) <;> simp at hc <;> simp [hc]
  rotate_left
  · rw [← he,gnF_out (by omega)]; rfl
  have hlt:at_+k<b.length:=by omega
  obtain ⟨o,off,rfl,c0⟩:=byteAt hr hlt
  have hx:b[at_+k].toNat<256:=by have:=b[at_+k].toNat_lt; omega
  have hstep:gnF b at_ (5 - k) k n=(if 128≤b[at_+k].toNat then gnF b at_ (5 - (k+1)) (k+1) (n ||| b[at_+k].toNat % 128 * 2 ^ (7 * k))
      else if (0<k∧b[at_+k].toNat=0)∨2147483647<(n ||| b[at_+k].toNat % 128 * 2 ^ (7 * k)) then none
      else some (n ||| b[at_+k].toNat % 128 * 2 ^ (7 * k),at_+k+1)):=by
    rw [show 5 - k=(5 - (k+1))+1 by omega]
    simp only [gnF,List.getElem?_eq_getElem hlt]
  rw [hstep] at he
  generalize b[at_+k].toNat=x at c0 hx he
  obtain ⟨y,hy⟩:∃ y,y=x % 128:=⟨_,rfl⟩
  have hy2:y<128:=by omega
  have a1:abin Try.prog .and 3 (.int .i64 (x:Int)) (.int .i64 127)=some (.int .i64 (y:Int)):=by
    rw [abin_and127 _ (x:Int) (by omega) (by omega),hy]; rfl
  have a2:=abin_shlN 3 y k hy2 (by omega)
  have hlt2:=gn_lt hn hy2
  have hp35:2 ^ (7 * (k+1))≤2 ^ 35:=Nat.pow_le_pow_right (by decide) (by omega)
  have hz:y * 2 ^ (7 * k)<2 ^ 35:=by
    have h1:y * 2 ^ (7 * k)≤n ||| y * 2 ^ (7 * k):=Nat.right_le_or
    omega
  have hn35:n<2 ^ 35:=by
    have h1:n≤n ||| y * 2 ^ (7 * k):=Nat.left_le_or
    omega
  have a3:=abin_orN 3 n (y * 2 ^ (7 * k)) hn35 hz
  rw [← hy] at he
  generalize y * 2 ^ (7 * k)=z at a2 a3 he hlt2
  obtain ⟨n',hn'⟩:∃ n',n'=n ||| z:=⟨_,rfl⟩
  rw [← hn'] at a3 he hlt2
  have w7:IntKind.i64.wrap (7 * (k:Int))=7 * (k:Int):=wrap_in (by omega) (by omega)
  have wx:IntKind.i64.wrap (x:Int)=(x:Int):=wrap_in (by omega) (by omega)
  have hto:((at_:Int)+k).toNat=at_+k:=by omega
  have hge:(0:Int)≤(at_:Int)+k:=by omega
  simp [wk,hc,hge,hto,c0,wx,a1,w7,a2,a3]
  have wa:IntKind.i64.wrap (at_:Int)=at_:=wrap_in (by omega) (by omega)
  have wa1:IntKind.i64.wrap ((at_:Int)+1)=(at_:Int)+1:=wrap_in (by omega) (by omega)
  have wk1:IntKind.i64.wrap ((at_:Int)+k+1)=(at_:Int)+k+1:=wrap_in (by omega) (by omega)
  refine aSI (fun h5=>?_) (fun h5=>?_) <;> (have h5':=h5; simp at h5; simp [h5,h5'])
  · have h5n:128≤x:=by omega
    simp only [h5n,if_true] at he
    exact anext (k+1,n') ⟨by simp only; omega,hlt2,he⟩ (by simp only; omega) (by simp [pickF,wS (show k<9223372036854775807 by omega)]) rfl (by simp)
  have h5n:¬ 128≤x:=by omega
  simp only [h5n,if_false] at he
  refine aSI (fun h6=>?_) (fun h6=>?_) <;> (have h6':=h6; simp at h6; simp [h6,h6'])
  · refine aSI (fun h7=>?_) (fun h7=>?_) <;> (have h7':=h7; simp at h7; simp [h7,h7'])
    · have hc1:(0<k∧x=0)∨2147483647<n':=.inl ⟨by omega,by omega⟩
      rw [if_pos hc1] at he
      rw [← he]; rfl
    refine aSI (fun h8=>?_) (fun h8=>?_) <;> (have h8':=h8; simp at h8; simp [h8,h8'])
    · have hc1:(0<k∧x=0)∨2147483647<n':=.inr (by omega)
      rw [if_pos hc1] at he
      rw [← he]; rfl
    · have hc1:¬ ((0<k∧x=0)∨2147483647<n'):=by omega
      rw [if_neg hc1] at he
      rw [← he]
      simp [gnV,wk,wk1,wa,wa1] <;> omega
  · refine aSI (fun h8=>?_) (fun h8=>?_) <;> (have h8':=h8; simp at h8; simp [h8,h8'])
    · have hc1:(0<k∧x=0)∨2147483647<n':=.inr (by omega)
      rw [if_pos hc1] at he
      rw [← he]; rfl
    · have hc1:¬ ((0<k∧x=0)∨2147483647<n'):=by omega
      rw [if_neg hc1] at he
      rw [← he]
      simp [gnV,wk,wk1,wa,wa1] <;> omega
set_option maxHeartbeats 2000000 in
theorem getNum_spec_c (b:Str) (at_:Nat) (a:Option Addr) (F:List Nat) (w:Bool) (t:TypeId) (h:Hp) (hr:slR w t byteE h b a F) (hl:b.length≤1048576) (ha:at_≤1048576) :
    ACall Try.prog 55 [.slice a b.length b.length,.int .i64 at_] h fun r h'=>(∃ t,h'=h++t)∧r=gnV (getNum b at_):=by
  refine acall mixed Try.func55 rfl (by kernel_rfl) ?_
  simp [Try.f55]
  refine aloop mixed [0,1,7,8] (fun (x:Nat × Nat)=>[.slice a b.length b.length,.int .i64 at_,.int .i64 x.2,.int .i64 x.1]) (fun _=>h) (fun x=>x.1≤5∧x.2<2 ^ (7 * x.1)∧gnF b at_ (5 - x.1) x.1 x.2=getNum b at_) (fun x=>5 - x.1) (0,0) ⟨by simp,by simp,rfl⟩ (by simp [pickF]) rfl ?_
  rintro ⟨k,n⟩ ⟨hk,hn,he⟩
  simp only at hk hn he
  simp [mkF]
  refine aSI (fun hb=>?_) (fun hb=>?_) <;> simp at hb <;> simp [hb]
  rotate_left
  · obtain rfl:k=5:=by omega
    rw [← he]
    simp [gnF,gnV]
  have hneg:¬ ((at_:Int)<0):=by omega
  have ws:IntKind.i64.wrap ((b.length:Int) - k)=(b.length:Int) - k:=wrap_in (by omega) (by omega)
  have wk:IntKind.i64.wrap ((at_:Int)+k)=(at_:Int)+k:=wrap_in (by omega) (by omega)
  simp [hneg,ws]
  refine aSI (fun hc=>?_) (fun hc=>?_) <;> (have hc':=hc; simp at hc; simp [hc,hc'])
  · rw [← he,gnF_out (by omega)]; rfl
  have hlt:at_+k<b.length:=by omega
  obtain ⟨o,off,rfl,c0⟩:=byteAt hr hlt
  have hx:b[at_+k].toNat<256:=by have:=b[at_+k].toNat_lt; omega
  have hstep:gnF b at_ (5 - k) k n=(if 128≤b[at_+k].toNat then gnF b at_ (5 - (k+1)) (k+1) (n ||| b[at_+k].toNat % 128 * 2 ^ (7 * k))
      else if (0<k∧b[at_+k].toNat=0)∨2147483647<(n ||| b[at_+k].toNat % 128 * 2 ^ (7 * k)) then none
      else some (n ||| b[at_+k].toNat % 128 * 2 ^ (7 * k),at_+k+1)):=by
    rw [show 5 - k=(5 - (k+1))+1 by omega]
    simp only [gnF,List.getElem?_eq_getElem hlt]
  rw [hstep] at he
  generalize b[at_+k].toNat=x at c0 hx he
  obtain ⟨y,hy⟩:∃ y,y=x % 128:=⟨_,rfl⟩
  have hy2:y<128:=by omega
  have a1:(x:Int).tmod 128=(y:Int):=by rw [Int.tmod_eq_emod_of_nonneg (by omega)]; omega
  have a2:=abin_shlN 3 y k hy2 (by omega)
  have hlt2:=gn_lt hn hy2
  have hp35:2 ^ (7 * (k+1))≤2 ^ 35:=Nat.pow_le_pow_right (by decide) (by omega)
  have hz:y * 2 ^ (7 * k)<2 ^ 35:=by
    have h1:y * 2 ^ (7 * k)≤n ||| y * 2 ^ (7 * k):=Nat.right_le_or
    omega
  have hn35:n<2 ^ 35:=by
    have h1:n≤n ||| y * 2 ^ (7 * k):=Nat.left_le_or
    omega
  have a3:=abin_orN 3 n (y * 2 ^ (7 * k)) hn35 hz
  rw [← hy] at he
  generalize y * 2 ^ (7 * k)=z at a2 a3 he hlt2
  obtain ⟨n',hn'⟩:∃ n',n'=n ||| z:=⟨_,rfl⟩
  rw [← hn'] at a3 he hlt2
  have w7:IntKind.i64.wrap (7 * (k:Int))=7 * (k:Int):=wrap_in (by omega) (by omega)
  have wx:IntKind.i64.wrap (x:Int)=(x:Int):=wrap_in (by omega) (by omega)
  have hto:((at_:Int)+k).toNat=at_+k:=by omega
  have hge:(0:Int)≤(at_:Int)+k:=by omega
  have hcc:(at_:Int)+k<(b.length:Int):=by omega
  simp [wk,hcc,hge,hto,c0,wx,a1,w7,a2,a3]
  have wa:IntKind.i64.wrap (at_:Int)=at_:=wrap_in (by omega) (by omega)
  have wa1:IntKind.i64.wrap ((at_:Int)+1)=(at_:Int)+1:=wrap_in (by omega) (by omega)
  have wk1:IntKind.i64.wrap ((at_:Int)+k+1)=(at_:Int)+k+1:=wrap_in (by omega) (by omega)
  refine aSI (fun h5=>?_) (fun h5=>?_) <;> (have h5':=h5; simp at h5; simp [h5,h5'])
  rotate_left
  · have h5n:128≤x:=by omega
    simp only [h5n,if_true] at he
    exact anext (k+1,n') ⟨by simp only; omega,hlt2,he⟩ (by simp only; omega) (by simp [pickF,wS (show k<9223372036854775807 by omega)]) rfl (by simp)
  have h5n:¬ 128≤x:=by omega
  simp only [h5n,if_false] at he
  refine aSI (fun h6=>?_) (fun h6=>?_) <;> (have h6':=h6; simp at h6; simp [h6,h6'])
  · refine aSI (fun h7=>?_) (fun h7=>?_) <;> (have h7':=h7; simp at h7; simp [h7,h7'])
    · have hc1:(0<k∧x=0)∨2147483647<n':=.inl ⟨by omega,by omega⟩
      rw [if_pos hc1] at he
      rw [← he]; rfl
    refine aSI (fun h8=>?_) (fun h8=>?_) <;> (have h8':=h8; simp at h8; simp [h8,h8'])
    · have hc1:(0<k∧x=0)∨2147483647<n':=.inr (by omega)
      rw [if_pos hc1] at he
      rw [← he]; rfl
    · have hc1:¬ ((0<k∧x=0)∨2147483647<n'):=by omega
      rw [if_neg hc1] at he
      rw [← he]
      simp [gnV,wk,wk1,wa,wa1] <;> omega
  · refine aSI (fun h8=>?_) (fun h8=>?_) <;> (have h8':=h8; simp at h8; simp [h8,h8'])
    · have hc1:(0<k∧x=0)∨2147483647<n':=.inr (by omega)
      rw [if_pos hc1] at he
      rw [← he]; rfl
    · have hc1:¬ ((0<k∧x=0)∨2147483647<n'):=by omega
      rw [if_neg hc1] at he
      rw [← he]
      simp [gnV,wk,wk1,wa,wa1] <;> omega
def getText (b:Str) (at_:Nat):Option (Str × Nat) :=
  match getNum b at_ with
  | none=>none
  | some (n,e)=>if b.length<n+e then none else some ((b.take (e+n)).drop e,e+n)
def gtV:Option (Str × Nat)→Value
  | none=>.tuple #[.string (S []),.int .i64 0,.bool false]
  | some (s,e)=>.tuple #[.string (S s),.int .i64 e,.bool true]
theorem getNum_bound {b:Str} {at_ n e:Nat} (h:getNum b at_=some (n,e)):n≤2147483647∧at_<e∧e≤b.length:=gnF_bound b at_ _ _ _ _ _ h
set_option maxHeartbeats 1000000 in
theorem getText_spec_c (b:Str) (at_:Nat) (a:Option Addr) (F:List Nat) (w:Bool) (t:TypeId) (h:Hp) (hr:slR w t byteE h b a F) (ht:t=5) (hl:b.length≤1048576) (ha:at_≤1048576) :
    ACall Try.prog 115 [.slice a b.length b.length,.int .i64 at_] h fun r h'=>(∃ t,h'=h++t)∧r=gtV (getText b at_):=by
  subst ht
  refine acall mixed Try.func115 rfl (by kernel_rfl) ?_
  simp [Try.f115]
  refine cK (getNum_spec_c b at_ a F w _ h hr hl ha) ?_
  rintro _ _ ⟨⟨t1,rfl⟩,rfl⟩
  cases hg:getNum b at_ with
  | none =>
    have hgt:getText b at_=none:=by simp [getText,hg]
    simp [gnV,hgt,gtV]
  | some p =>
    obtain ⟨n,e⟩:=p
    have hb:=getNum_bound hg
    have w1:IntKind.i64.wrap ((b.length:Int) - e)=(b.length:Int) - e:=wrap_in (by omega) (by omega)
    have w2:IntKind.i64.wrap ((e:Int)+n)=(e:Int)+n:=wrap_in (by omega) (by omega)
    simp [gnV,w1]
    refine aSI (fun h5=>?_) (fun h5=>?_) <;> (have h5':=h5; simp at h5; simp [h5,h5'])
    · have hgt:getText b at_=none:=by simp only [getText,hg]; rw [if_pos (by omega)]
      rw [hgt]; rfl
    · have hgt:getText b at_=some ((b.take (e+n)).drop e,e+n):=by simp only [getText,hg]; rw [if_neg (by omega)]
      have hne:b≠[]:=by rintro rfl; simp at hb; omega
      obtain ⟨o,off,rfl,-⟩:=byteAt hr (i:=0) (by have:=List.length_pos_iff.2 hne; omega)
      have hel:=(hr.to (h':=h++t1) ⟨t1,rfl⟩).el
      obtain ⟨G,hp,_⟩:=(hr.to (h':=h++t1) ⟨t1,rfl⟩).part e (e+n) (by omega) (by omega)
      have hp:slR w 5 byteE (h++t1) ((b.take (e+n)).drop e) (some ⟨o,off+e * 1,none⟩) G:=hp
      rw [Nat.mul_one] at hp
      have hpl:((b.take (e+n)).drop e).length=n:=by simp; omega
      have hle1:(e:Int)≤(e:Int)+n:=by omega
      have hle2:(e:Int)+n≤(b.length:Int):=by omega
      have hto:((e:Int)+n).toNat=e+n:=by omega
      have hen:e+n - e=n:=by omega
      rw [hgt]
      simp [w2,asl2_ij,hel,hle1,hle2,hto,hen]
      rw [lev_cvBSc hp _ _ _ _ (b.length - e) (by rw [hpl]; rfl) (by simp) (by simp)]
      simp [w2,gtV]
section
variable {P:Program} {α:Type} {h0 h:Hp} {e:TypeId} {xs:List α} {a:Option Addr} {F:List Nat} {n:Nat} {f:α→List Value} {hn:∀ x,(f x).length=n} {hok:∀ x,(f x).all okCell=true}
theorem Own.append1K (k:Own h0 e (flatE n f hn hok) h xs a F) (x:α) {cs:List Value} (hx:cs=f x) {st xt:TypeId} {bt:Nat} {z:List Value} (hsl:isSlice P xt=true) (hel:elOf P st=some (e,n,bt,z)) (hs1:xs.length+1≤big) (hs2:(xs.length+1) * bt≤big) :
    ∃ a' h' F',aappend P (h++[⟨true,true,e,cs⟩]) st xt (.slice a xs.length xs.length) (.slice (some ⟨h.length,0,none⟩) 1 1)=some (.slice a' (xs.length+1) (xs.length+1),h')∧Own h0 e (flatE n f hn hok) h' (xs++[x]) a' F' ∧
      (∀ q,q<h.length→q ∉ F→h'[q]?=h[q]?)∧(∀ q∈F',q∈F∨h.length≤q):=by
  subst hx
  have hl:slR true e (flatE n f hn hok) (h++[⟨true,true,e,f x⟩]) [x] (some ⟨h.length,0,none⟩) [h.length]:=by
    have:=(Own.lit (h0:=h) (h:=h) (e:=e) (A:=flatE n f hn hok) (xs:=[x]) (css:=[f x]) (Fs:=[[]]) (Ext.refl h) ⟨⟨rfl,rfl⟩,trivial⟩ (by simp) (by simp)).sl
    simpa using this
  obtain ⟨cs,h1,h2,css,Fs,rfl,h4,_⟩:=hl.cells
  have hF:=flat_nil h4.flat.2
  obtain ⟨a',h',F',e1,e2,e3,e4,e5,_⟩:=(k.grow (Ext.push h [⟨true,true,e,f x⟩])).append (P:=P) (st:=st) (xt:=xt) (x:=.slice (some ⟨h.length,0,none⟩) 1 1) (css:=css) (Fs:=Fs) (ys:=[x]) (by
    have h1':cellsAt (h++[⟨true,true,e,f x⟩]) h.length 0 (1 * n)=some css.flatten:=h1
    show srcOf P _ n xt _=_
    rw [Nat.one_mul] at h1'
    simp [srcOf,hsl,h1']) h4 hel hs1 hs2 (by rw [hF]; simp) (by rw [hF]; simp)
  refine ⟨a',h',F',e1,e2,fun q hq hm=>?_,fun q hq=>?_⟩
  · rw [e3 q (by simp; omega) hm,List.getElem?_append_left hq]
  · rcases e5 q hq with h | h | h
    · exact .inl h
    · rw [hF] at h; cases h
    · simp at h; exact .inr (by omega)
end
theorem sumL_append {α:Type} (f:α→Nat):∀ (xs ys:List α),sumL f (xs++ys)=sumL f xs+sumL f ys
  | [],ys=>by simp [sumL]
  | x :: xs,ys=>by
    have:=sumL_append f xs ys
    simp only [List.cons_append,sumL,this]; omega
def scanF (b:Str):Nat→Nat→List Ent→Option (List Ent)
  | 0,_,_=>none
  | fuel+1,at_,acc =>
    if b.length≤at_ then some acc else
    match getText b at_ with
    | none=>none
    | some (s,e) =>
      match getNum b e with
      | none=>none
      | some (n,e2)=>scanF b fuel e2 (acc++[⟨s,(n:Int)⟩])
def dirOf (b:Str):List Ent × Bool :=
  match scanF b (b.length+1) 0 [] with
  | none=>([],false)
  | some es=>if entriesOk es then (es,true) else ([],false)
theorem getText_bound2 {b s:Str} {at_ e:Nat} (h:getText b at_=some (s,e)):at_+1+s.length≤e∧e≤b.length:=by
  unfold getText at h
  split at h
  · cases h
  · rename_i n e0 hg
    have hb:=getNum_bound hg
    split at h
    · cases h
    · simp only [Option.some.injEq,Prod.mk.injEq] at h
      obtain ⟨rfl,rfl⟩:=h
      simp
      omega
theorem scan_len (b:Str):∀ (fuel at_:Nat) (acc es:List Ent),at_≤b.length→acc.length+sumL Ent.nl acc≤at_→scanF b fuel at_ acc=some es→es.length+sumL Ent.nl es≤b.length
  | 0,_,_,_,_,_,h=>by cases h
  | fuel+1,at_,acc,es,h1,h2,h=>by
    simp only [scanF] at h
    split at h
    · injection h with h; subst h; omega
    · split at h
      · cases h
      · rename_i s e hg
        have hb:=getText_bound2 hg
        split at h
        · cases h
        · rename_i n e2 hn
          have hb2:=getNum_bound hn
          refine scan_len b fuel e2 _ es (by omega) ?_ h
          have:sumL Ent.nl (acc++[⟨s,(n:Int)⟩])=sumL Ent.nl acc+s.length:=by
            rw [sumL_append]; simp [sumL,Ent.nl]
          rw [this]; simp; omega
theorem dirOf_len (b:Str):(dirOf b).1.length≤b.length:=by
  unfold dirOf
  split
  · simp
  · rename_i es h
    have:=scan_len b _ 0 [] es (by omega) (by simp [sumL]) h
    split <;> simp
    omega
structure ScanI (b:Str) (h:Hp) (at_:Nat) (acc:List Ent) (a:Option Addr) (H:Hp):Prop where
  le:at_≤b.length
  sz:acc.length+sumL Ent.nl acc≤at_
  scan:∃ fuel,b.length<at_+fuel∧scanF b fuel at_ acc=scanF b (b.length+1) 0 []
  own:∃ F,Own h 124 entE H acc a F∧h.length+1 ∉ F
  bytes:slR true 5 byteE H b (some ⟨h.length+1,0,none⟩) [h.length+1]
theorem ScanI.start (b:Str) (h:Hp):ScanI b h 0 [] (some ⟨h.length,0,none⟩) (h++[⟨true,true,124,[]⟩,⟨true,true,5,bytesL (S b)⟩]) where
  le:=by omega
  sz:=by simp [sumL]
  scan:=⟨b.length+1,by omega,rfl⟩
  own:=by
    have:=(empty1 entE h 124).grow (Ext.push _ [⟨true,true,5,bytesL (S b)⟩])
    simp only [List.append_assoc,List.cons_append,List.nil_append] at this
    exact ⟨_,this,by simp⟩
  bytes:=by
    have:=bytesR (h++[⟨true,true,124,[]⟩]) 5 b
    simpa using this
theorem ScanI.more {b:Str} {h:Hp} {at_:Nat} {acc:List Ent} {a:Option Addr} {H:Hp} (k:ScanI b h at_ acc a H) (t:Hp):ScanI b h at_ acc a (H++t):=by
  obtain ⟨k1,k2,k3,⟨F,k4,k5⟩,k6⟩:=k
  exact ⟨k1,k2,k3,⟨F,k4.grow (Ext.push _ _),k5⟩,k6.ext (Ext.push _ _)⟩
theorem ScanI.step {b:Str} {h:Hp} {at_:Nat} {acc:List Ent} {a:Option Addr} {H:Hp} (k:ScanI b h at_ acc a H) (hlt:at_<b.length) (hbl:b.length≤1048576) {s:Str} {e n e2:Nat} (h1:getText b at_=some (s,e)) (h2:getNum b e=some (n,e2)) :
    ∃ a' H',aappend Try.prog (H++[⟨true,true,124,[.string (S s),.int .i64 n]⟩]) 108 108 (.slice a acc.length acc.length) (.slice (some ⟨H.length,0,none⟩) 1 1)=some (.slice a' (acc.length+1) (acc.length+1),H')∧ScanI b h e2 (acc++[⟨s,(n:Int)⟩]) a' H'∧at_<e2:=by
  obtain ⟨k1,k2,⟨fuel,k3,k3'⟩,⟨F,k4,k5⟩,k6⟩:=k
  have hb:=getText_bound2 h1
  have hb2:=getNum_bound h2
  obtain ⟨a',H',F',eq,own',keep,sub⟩:=k4.append1K (P:=Try.prog) ⟨s,(n:Int)⟩ (cs:=[.string (S s),.int .i64 n]) rfl (st:=108) (xt:=108) (bt:=24) (z:=[.string (S []),.int .i64 0]) (by simp) (by simp) (by unfold big; omega) (by unfold big; omega)
  refine ⟨a',H',eq,⟨by omega,?_,?_,⟨F',own',fun hm=>?_⟩,k6.frame fun q hq=>?_⟩,by omega⟩
  · have:sumL Ent.nl (acc++[⟨s,(n:Int)⟩])=sumL Ent.nl acc+s.length:=by
      rw [sumL_append]; simp [sumL,Ent.nl]
    rw [this]; simp; omega
  · match fuel,k3,k3' with
    | 0,k3,_=>omega
    | fuel+1,k3,k3' =>
      refine ⟨fuel,by omega,?_⟩
      rw [← k3']
      have:¬ (b.length≤at_):=by omega
      conv=>rhs; unfold scanF
      simp [this,h1,h2]
  · have hl:=k6.lt _ (List.mem_cons_self)
    rcases sub _ hm with hh | hh
    · exact k5 hh
    · omega
  · have hq':q=h.length+1:=by simpa using hq
    subst hq'
    exact keep _ (k6.lt _ hq) k5
theorem ScanI.done {b:Str} {h:Hp} {at_:Nat} {acc:List Ent} {a:Option Addr} {H:Hp} (k:ScanI b h at_ acc a H) (hge:b.length≤at_):scanF b (b.length+1) 0 []=some acc:=by
  obtain ⟨k1,k2,⟨fuel,k3,k3'⟩,_,_⟩:=k
  rw [← k3']
  match fuel,k3 with
  | 0,k3=>omega
  | fuel+1,k3=>simp [scanF,hge]
theorem ScanI.fail {b:Str} {h:Hp} {at_:Nat} {acc:List Ent} {a:Option Addr} {H:Hp} (k:ScanI b h at_ acc a H) (hlt:at_<b.length) (hf:getText b at_=none∨∃ s e,getText b at_=some (s,e)∧getNum b e=none):dirOf b=([],false):=by
  obtain ⟨k1,k2,⟨fuel,k3,k3'⟩,_,_⟩:=k
  have:scanF b (b.length+1) 0 []=none:=by
    rw [← k3']
    have hn:¬ (b.length≤at_):=by omega
    match fuel,k3 with
    | 0,k3=>omega
    | fuel+1,k3 =>
      rcases hf with hf | ⟨s,e,hf1,hf2⟩
      · simp [scanF,hn,hf]
      · simp [scanF,hn,hf1,hf2]
  simp [dirOf,this]
set_option maxHeartbeats 2000000 in
theorem dirOf_spec_c (b:Str) (h:Hp) (hbl:b.length≤1048576) :
    ACall Try.prog 109 [.string (S b)] h fun r h'=>∃ a' F',r=.tuple #[.slice a' (dirOf b).1.length (dirOf b).1.length,.bool (dirOf b).2]∧Own h 124 entE h' (dirOf b).1 a' F':=by
  refine acall mixed Try.func109 rfl (by kernel_rfl) ?_
  have start:=ScanI.start b h
  simp [Try.f109]
  refine aloop mixed [4,5,6] (fun (x:Nat × List Ent × Option Addr × Hp)=>[.slice x.2.2.1 x.2.1.length x.2.1.length,.slice (some ⟨h.length+1,0,none⟩) b.length b.length,.int .i64 x.1]) (fun x=>x.2.2.2) (fun x=>ScanI b h x.1 x.2.1 x.2.2.1 x.2.2.2) (fun x=>b.length - x.1) (0,[],some ⟨h.length,0,none⟩,_) start (by simp [pickF]) rfl ?_
  rintro ⟨at_,acc,a,H⟩ inv
  simp only at inv
  simp [mkF]
  have nil_:∀ (t:Hp),Own h 124 entE (H++t++[⟨true,true,124,[]⟩]) [] (some ⟨(H++t).length,0,none⟩) [(H++t).length]:=fun t=>by
    obtain ⟨F,k4,_⟩:=inv.own
    exact Own.of_new (k4.ext.app t) (empty1 entE (H++t) 124)
  refine aSI (fun hb=>?_) (fun hb=>?_) <;> simp at hb <;> simp [hb]
  · refine cK (getText_spec_c b at_ _ _ true _ H inv.bytes rfl hbl (by omega)) ?_
    rintro _ _ ⟨⟨t1,rfl⟩,rfl⟩
    have inv1:=inv.more t1
    cases hg:getText b at_ with
    | none =>
      have hf:=inv.fail hb (.inl hg)
      have hnl:=nil_ t1
      simp at hnl
      simp [gtV,hf]
      exact ⟨_,hnl⟩
    | some p =>
      obtain ⟨s,e⟩:=p
      have hb2:=getText_bound2 hg
      simp [gtV]
      refine cK (getNum_spec_c b e _ _ true _ _ inv1.bytes hbl (by omega)) ?_
      rintro _ _ ⟨⟨t2,rfl⟩,rfl⟩
      cases hn:getNum b e with
      | none =>
        have hf:=inv.fail hb (.inr ⟨s,e,hg,hn⟩)
        have hnl:=nil_ (t1++t2)
        simp at hnl
        simp [gnV,hf]
        exact ⟨_,hnl⟩
      | some p =>
        obtain ⟨n,e2⟩:=p
        obtain ⟨a',H',eq,inv',hlt⟩:=(inv.more (t1++t2)).step hb hbl hg hn
        simp at eq
        simp [gnV,eq]
        exact anext (e2,acc++[⟨s,(n:Int)⟩],a',H') inv' (by simp only; have:=inv'.le; omega) (by simp [pickF]) rfl (by simp)
  · have hd:=inv.done hb
    obtain ⟨F,own,_⟩:=inv.own
    have hsz:=inv.sz
    have hle:=inv.le
    refine cK (entriesOk_spec_c acc a F true _ H own.sl (by omega) (by omega)) ?_
    rintro _ _ ⟨⟨t1,rfl⟩,rfl⟩
    cases ho:entriesOk acc
    · have hf:dirOf b=([],false):=by simp [dirOf,hd,ho]
      have hnl:=nil_ t1
      simp at hnl
      rw [hf]
      simp
      exact ⟨_,hnl⟩
    · have hf:dirOf b=(acc,true):=by simp [dirOf,hd,ho]
      rw [hf]
      simp
      exact ⟨_,own.grow (Ext.push _ _)⟩
theorem nodup_count:∀ (l:List Int),l.Nodup↔∀ b,l.count b≤1
  | []=>by simp
  | a :: l=>by
    rw [List.nodup_cons,nodup_count l]
    constructor
    · rintro ⟨h1,h2⟩ b
      rw [List.count_cons]
      by_cases e:a=b
      · subst e; rw [List.count_eq_zero.2 h1]; simp
      · have:=h2 b; simp [e]; exact this
    · intro h
      refine ⟨fun hm=>?_,fun b=>?_⟩
      · have:=h a
        rw [List.count_cons_self] at this
        have h0:=List.count_pos_iff.2 hm
        omega
      · have:=h b
        rw [List.count_cons] at this
        omega
def held (ns:List Node):List Int:=ns.flatMap (·.blocks)
def OwnOk (f:Fs):Prop:=(∀ b∈held f.nodes,0≤b∧b<f.data.length)∧(held f.nodes).Nodup
instance (f:Fs):Decidable (OwnOk f):=by unfold OwnOk; exact inferInstance
theorem held_take (ns:List Node) (i:Nat) (hi:i<ns.length):held (ns.take (i+1))=held (ns.take i)++ns[i].blocks:=by
  rw [List.take_succ_eq_append_getElem hi]; unfold held; rw [List.flatMap_append]; simp
theorem held_split (ns:List Node) (i j:Nat) (hi:i<ns.length) (hj:j<ns[i].blocks.length) :
    ∃ rest,held ns=(held (ns.take i)++ns[i].blocks.take j)++ns[i].blocks[j] :: rest:=by
  have e1:ns=ns.take i++ns[i] :: ns.drop (i+1):=by rw [List.getElem_cons_drop]; exact (List.take_append_drop i ns).symm
  have e2:ns[i].blocks=ns[i].blocks.take j++ns[i].blocks[j] :: ns[i].blocks.drop (j+1):=by rw [List.getElem_cons_drop]; exact (List.take_append_drop j _).symm
  refine ⟨ns[i].blocks.drop (j+1)++held (ns.drop (i+1)),?_⟩
  have e3:held ns=held (ns.take i)++(ns[i].blocks++held (ns.drop (i+1))):=by
    have:held (ns.take i++ns[i] :: ns.drop (i+1))=held (ns.take i)++(ns[i].blocks++held (ns.drop (i+1))):=by
      unfold held; rw [List.flatMap_append,List.flatMap_cons]
    rw [← this,← e1]
  rw [e3,List.append_assoc]
  congr 1
  have:ns[i].blocks++held (ns.drop (i+1))=(ns[i].blocks.take j++ns[i].blocks[j] :: ns[i].blocks.drop (j+1))++held (ns.drop (i+1)):=by rw [← e2]
  exact this.trans (by rw [List.append_assoc,List.cons_append])
theorem ownBad {f:Fs} {P rest:List Int} {b:Int} (e:held f.nodes=P++b :: rest) (h:¬ (b<f.data.length)∨b∈P):¬ OwnOk f:=by
  rintro ⟨h1,h2⟩
  rw [e] at h1 h2
  rcases h with h | h
  · exact h (h1 b (by simp)).2
  · rw [List.nodup_append] at h2
    exact h2.2.2 b h b (by simp) rfl
def OwnInv (f:Fs) (P:List Int) (os:List Int):Prop :=
  os.length=f.data.length∧(∀ b∈P,0≤b∧b<f.data.length)∧P.Nodup∧∀ (k:Nat) (hk:k<os.length),decide (0≤os[k])=decide ((k:Int)∈P)
theorem OwnInv.start (f:Fs):OwnInv f [] (List.replicate f.data.length (-1)):=⟨by simp,by simp,List.nodup_nil,fun k hk=>by simp⟩
theorem OwnInv.step {f:Fs} {P os:List Int} (k:OwnInv f P os) {b i:Int} (h0:0≤b) (h1:b<f.data.length) (h2:b ∉ P) (hi:0≤i):OwnInv f (P++[b]) (os.set b.toNat i):=by
  obtain ⟨k1,k2,k3,k4⟩:=k
  refine ⟨by simp [k1],?_,?_,?_⟩
  · intro c hc
    rcases List.mem_append.1 hc with hc | hc
    · exact k2 c hc
    · simp at hc; subst hc; exact ⟨h0,h1⟩
  · rw [List.nodup_append]
    refine ⟨k3,by simp,?_⟩
    rintro c hc d hd rfl
    simp at hd; subst hd
    exact h2 hc
  · intro q hq
    simp only [List.length_set] at hq
    rw [List.getElem_set]
    by_cases e:b.toNat=q
    · have:(q:Int)=b:=by omega
      simp [e,hi,this]
    · have:(q:Int)≠b:=by omega
      simp only [e,if_false,k4 q hq]
      simp [this]
theorem OwnInv.done {f:Fs} {os:List Int} (k:OwnInv f (held f.nodes) os):OwnOk f:=⟨k.2.1,k.2.2.1⟩
def UsedInv (f:Fs) (P us:List Int):Prop :=
  us.length=f.data.length+1∧(∀ (k:Nat) (hk:k<f.data.length) (hu:k<us.length),us[k]=P.count (k:Int))∧(∀ hu:f.data.length<us.length,us[f.data.length]=P.countP fun b=>!(inR b 0 (f.data.length - 1)))
theorem UsedInv.start (f:Fs):UsedInv f [] (List.replicate (f.data.length+1) 0):=⟨by simp,fun k hk hu=>by simp,fun hu=>by simp⟩
theorem UsedInv.inn {f:Fs} {P us:List Int} (k:UsedInv f P us) {b:Int} (hb:inR b 0 (f.data.length - 1)=true) (hlt:b.toNat<us.length):UsedInv f (P++[b]) (us.set b.toNat (us[b.toNat]+1)):=by
  obtain ⟨k1,k2,k3⟩:=k
  have hb':=inR_iff.1 hb
  refine ⟨by simp [k1],fun q hq hu=>?_,fun hu=>?_⟩
  · simp only [List.length_set] at hu
    rw [List.getElem_set]
    by_cases e:b.toNat=q
    · have e2:(q:Int)=b:=by omega
      subst e
      simp only [if_true,List.count_append]
      rw [k2 b.toNat hq hu,e2]
      simp
    · have e2:¬ (b=(q:Int)):=by omega
      simp only [e,if_false,k2 q hq hu,List.count_append]
      have:List.count (q:Int) [b]=0:=by simp [List.count_cons,e2]
      rw [this]; simp
  · simp only [List.length_set] at hu
    rw [List.getElem_set,if_neg (by omega),k3 hu,List.countP_append]
    simp [hb]
theorem UsedInv.out {f:Fs} {P us:List Int} (k:UsedInv f P us) {b:Int} (hb:inR b 0 (f.data.length - 1)=false) (hlt:f.data.length<us.length):UsedInv f (P++[b]) (us.set f.data.length (us[f.data.length]+1)):=by
  obtain ⟨k1,k2,k3⟩:=k
  have hb':¬ (0≤b∧b≤f.data.length - 1):=fun h=>by rw [inR_iff.2 h] at hb; cases hb
  refine ⟨by simp [k1],fun q hq hu=>?_,fun hu=>?_⟩
  · simp only [List.length_set] at hu
    have e2:¬ (b=(q:Int)):=by omega
    rw [List.getElem_set,if_neg (by omega),k2 q hq hu,List.count_append]
    have:List.count (q:Int) [b]=0:=by simp [List.count_cons,e2]
    rw [this]; simp
  · rw [List.getElem_set,if_pos rfl,k3 hlt,List.countP_append]
    simp [hb]
theorem UsedInv.done {f:Fs} {us:List Int} (k:UsedInv f (held f.nodes) us) (h0:∀ b∈held f.nodes,0≤b) (hlt:f.data.length<us.length) :
    OwnOk f↔(us[f.data.length]=0∧∀ (q:Nat) (hq:q<f.data.length) (hu:q<us.length),us[q]≤1):=by
  obtain ⟨k1,k2,k3⟩:=k
  have hall:us[f.data.length]=0↔∀ b∈held f.nodes,0≤b∧b<f.data.length:=by
    rw [k3 hlt]
    constructor
    · intro h b hb
      have:List.countP (fun b=>!(inR b 0 (f.data.length - 1))) (held f.nodes)=0:=by omega
      rw [List.countP_eq_zero] at this
      have:=this b hb
      simp at this
      have:=inR_iff.1 this
      omega
    · intro h
      have:List.countP (fun b=>!(inR b 0 (f.data.length - 1))) (held f.nodes)=0:=by
        rw [List.countP_eq_zero]
        intro b hb
        have:=h b hb
        have:inR b 0 (f.data.length - 1)=true:=inR_iff.2 ⟨by omega,by omega⟩
        simp [this]
      omega
  constructor
  · rintro ⟨h1,h2⟩
    refine ⟨hall.2 h1,fun q hq hu=>?_⟩
    rw [k2 q hq hu]
    have:=(nodup_count _).1 h2 (q:Int)
    omega
  · rintro ⟨h1,h2⟩
    have h3:=hall.1 h1
    refine ⟨h3,(nodup_count _).2 fun b=>?_⟩
    by_cases hb:b∈held f.nodes
    · have:=h3 b hb
      have hq:b.toNat<f.data.length:=by omega
      have h4:=h2 b.toNat hq (by omega)
      rw [k2 b.toNat hq (by omega)] at h4
      have e:((b.toNat:Nat):Int)=b:=by omega
      rw [e] at h4
      omega
    · rw [List.count_eq_zero.2 hb]; omega
theorem cell_up {B H:Hp} (x:Ext B H) {o i:Nat} {v:Value} (c:cellAt B o i=some v):cellAt H o i=some v:=by
  obtain ⟨ob,ho,_⟩:=cellAt_some c
  rw [cellAt_ext x (List.getElem?_eq_some_iff.1 ho).1]
  exact c
theorem mem_held {ns:List Node} {i j:Nat} (hi:i<ns.length) (hj:j<ns[i].blocks.length):ns[i].blocks[j]∈held ns:=by
  obtain ⟨rest,e⟩:=held_split ns i j hi hj
  rw [e]; simp
set_option maxHeartbeats 2000000 in
theorem owners_c (f:Fs) (a1 a2:Option Addr) (F1 F2:List Nat) (w:Bool) (tNode:TypeId) (h:Hp) (k1:slR w tNode (nodeE w) h f.nodes a1 F1) (k2:slR w 9 strE h f.data a2 F2) (hl:f.nl≤1048576) (hd1:1≤f.data.length) (h0:∀ b∈held f.nodes,0≤b) :
    ACall Try.prog 41 [.agg #[.slice a1 f.nodes.length f.nodes.length,.slice a2 f.data.length f.data.length]] h fun r h'=>(∃ t,h'=h++t) ∧
      ((OwnOk f∧∃ os a F,r=.tuple #[.slice a f.data.length f.data.length,.bool true]∧OwnInv f (held f.nodes) os∧Own h 3 intE h' os a F)∨(¬ OwnOk f∧r=.tuple #[.slice none 0 0,.bool false])):=by
  refine acall mixed Try.func41 rfl (by kernel_rfl) ?_
  have hlim:=Fs.lim_of f hl
  have hN:f.data.length≤1048576:=hlim.2.2
  have hM:f.nodes.length≤1048576:=hlim.1
  simp [Try.f41]
  have hlit:slR true 3 intE (h++[⟨true,true,26,[.slice a1 f.nodes.length f.nodes.length,.slice a2 f.data.length f.data.length]⟩,⟨true,true,3,[.int .i64 (-1)]⟩]) [-1] (some ⟨h.length+1,0,none⟩) [h.length+1]:=by
    have:=(Own.lit (h0:=h++[⟨true,true,26,[.slice a1 f.nodes.length f.nodes.length,.slice a2 f.data.length f.data.length]⟩]) (e:=3) (A:=intE) (xs:=[-1]) (css:=[[.int .i64 (-1)]]) (Fs:=[[]]) (Ext.refl _) ⟨⟨rfl,rfl⟩,trivial⟩ (by simp) (by simp)).sl
    simpa using this
  refine cK (repeat_c f.data.length hd1 hN _ _ true _ _ hlit) ?_
  rintro _ H0 ⟨a,F0,rfl,own0⟩
  generalize hBd:(⟨true,true,26,[.slice a1 f.nodes.length f.nodes.length,.slice a2 f.data.length f.data.length]⟩:Ob)=box at own0
  have hx0:Ext (h++[box]) H0:=by
    have:=own0.ext
    refine Ext.trans ?_ this
    have e:h++[box,(⟨true,true,3,[.int .i64 (-1)]⟩:Ob)]=(h++[box])++[(⟨true,true,3,[.int .i64 (-1)]⟩:Ob)]:=by simp
    rw [e]; exact Ext.push _ _
  have own0':Own (h++[box]) 3 intE H0 (List.replicate f.data.length (-1)) a F0:=⟨hx0,own0.sl,own0.nd,fun q hq=>by have:=own0.new q hq; simp at this ⊢; omega⟩
  have hbx0:cellAt (h++[box]) h.length 0=some (.slice a1 f.nodes.length f.nodes.length):=by rw [← hBd]; simp
  have hbx1:cellAt (h++[box]) h.length 1=some (.slice a2 f.data.length f.data.length):=by rw [← hBd]; simp
  simp [cell_up hx0 hbx0]
  have fin:∀ {H:Hp},Ext (h++[box]) H→∃ t,H=h++t:=fun hx=>by
    obtain ⟨t,rfl⟩:=hx.pre
    exact ⟨box :: t,by simp⟩
  refine aloop mixed [1,4,15,16,17] (fun (x:Nat × List Int × Hp)=>[.pointer (some ⟨h.length,0,none⟩),.slice a f.data.length f.data.length,.slice a1 f.nodes.length f.nodes.length,.int .i64 f.nodes.length,.int .i64 x.1]) (fun x=>x.2.2)
    (fun x=>x.1≤f.nodes.length∧OwnInv f (held (f.nodes.take x.1)) x.2.1∧∃ F,Own (h++[box]) 3 intE x.2.2 x.2.1 a F) (fun x=>f.nodes.length - x.1) (0,List.replicate f.data.length (-1),H0) ⟨by simp,by simpa [held] using OwnInv.start f,F0,own0'⟩ (by simp [pickF]) rfl ?_
  rintro ⟨i,os,H⟩ ⟨hi,inv,F,own⟩
  simp only at hi inv own
  simp [mkF]
  refine aSI (fun hb=>?_) (fun hb=>?_) <;> simp at hb <;> simp [hb]
  · obtain ⟨o,off,b1,G1,rfl,c0,c1,c2,c3,c4,kb,-⟩:=nodeAt (k1.ext (Ext.push h [box])) hb
    simp [hb,cell_up own.ext c0,cell_up own.ext c1,cell_up own.ext c2,cell_up own.ext c3,cell_up own.ext c4]
    have own1:=own.grow (Ext.push H [⟨true,true,49,[.int .i64 f.nodes[i].kind,.int .i64 f.nodes[i].gen,.int .i64 f.nodes[i].time,.int .i64 f.nodes[i].size,.slice b1 f.nodes[i].blocks.length f.nodes[i].blocks.length]⟩])
    refine aloop mixed [1,4,5,15,16,17,23,24,25] (fun (x:Nat × List Int × Hp)=>[.pointer (some ⟨h.length,0,none⟩),.slice a f.data.length f.data.length,.int .i64 i,.slice (some ⟨o,off,none⟩) f.nodes.length f.nodes.length,.int .i64 f.nodes.length,.int .i64 i,.slice b1 f.nodes[i].blocks.length f.nodes[i].blocks.length,.int .i64 f.nodes[i].blocks.length,.int .i64 x.1]) (fun x=>x.2.2)
      (fun x=>x.1≤f.nodes[i].blocks.length∧OwnInv f (held (f.nodes.take i)++f.nodes[i].blocks.take x.1) x.2.1∧∃ F,Own (h++[box]) 3 intE x.2.2 x.2.1 a F) (fun x=>f.nodes[i].blocks.length - x.1) (0,os,_) ⟨by simp,by simpa using inv,F,own1⟩ (by simp [pickF]) rfl ?_
    rintro ⟨j,os',H'⟩ ⟨hj,inv',F',own'⟩
    simp only at hj inv' own'
    simp [mkF]
    have hbl:f.nodes[i].blocks.length≤1048576:=hlim.2.1 _ (List.getElem_mem hb)
    refine aSI (fun hc=>?_) (fun hc=>?_) <;> simp at hc <;> simp [hc]
    · obtain ⟨ob,offb,rfl,cb⟩:=intEAt kb hc
      obtain ⟨rest,hsp⟩:=held_split f.nodes i j hb hc
      have hpos:=h0 _ (mem_held hb hc)
      simp [hc,cell_up own'.ext cb,cell_up own'.ext hbx1]
      refine aSI (fun hd=>?_) (fun hd=>?_) <;> (have hd':=hd; simp at hd; simp [hd,hd'])
      · exact ⟨fin own'.ext,ownBad hsp (.inl (by omega))⟩
      obtain ⟨il,ib,ind,iv⟩:=inv'
      have hq:f.nodes[i].blocks[j].toNat<os'.length:=by omega
      have hqe:((f.nodes[i].blocks[j].toNat:Nat):Int)=f.nodes[i].blocks[j]:=by omega
      obtain ⟨oa,offa,rfl,ca⟩:=intEAt own'.sl hq
      have ivq:=iv _ hq
      rw [hqe] at ivq
      simp [hpos,hd,ca]
      refine aSI (fun he=>?_) (fun he=>?_) <;> (have he':=he; simp at he; simp [he,he'])
      · rw [he'] at ivq
        exact ⟨fin own'.ext,ownBad hsp (.inr (by simpa using ivq.symm))⟩
      · rw [he'] at ivq
        have hni:f.nodes[i].blocks[j] ∉ held (f.nodes.take i)++f.nodes[i].blocks.take j:=by simpa using ivq.symm
        obtain ⟨hcan,F2',own2⟩:=own'.putFlat (i:=f.nodes[i].blocks[j].toNat) hq (i:Int) 0 [.int .i64 i] (by simp) (by simp)
        simp at hcan own2
        have step:=OwnInv.step ⟨il,ib,ind,iv⟩ hpos hd hni (i:=(i:Int)) (by omega)
        rw [List.append_assoc,← List.take_succ_eq_append_getElem hc] at step
        simp [hpos,hd,hcan]
        exact anext (j+1,_,_) ⟨hc,step,F2',own2⟩ (by simp only; omega) (by simp [pickF,wS (show j<9223372036854775807 by omega)]) rfl (by simp)
    · obtain rfl:j=f.nodes[i].blocks.length:=by omega
      rw [List.take_length,← held_take _ _ hb] at inv'
      exact anext (i+1,os',H') ⟨hb,inv',F',own'⟩ (by simp only; omega) (by simp [pickF,wS (show i<9223372036854775807 by omega)]) rfl (by simp)
  · obtain rfl:i=f.nodes.length:=by omega
    rw [List.take_length] at inv
    exact ⟨fin own.ext,inv.done,os,inv,F,own.of_new (Ext.push h [box])⟩
theorem held_len:∀ (ns:List Node),(held ns).length≤sumL Node.nl ns
  | []=>by simp [held]
  | n :: ns=>by
    have:=held_len ns
    have e:held (n :: ns)=n.blocks++held ns:=by simp [held]
    have e2:sumL Node.nl (n :: ns)=n.blocks.length+sumL Node.nl ns:=rfl
    rw [e,List.length_append,e2]
    omega
theorem UsedInv.le {f:Fs} {P us:List Int} (k:UsedInv f P us) {q:Nat} (hq:q<us.length):0≤us[q]∧us[q]≤P.length:=by
  obtain ⟨k1,k2,k3⟩:=k
  by_cases e:q<f.data.length
  · rw [k2 q e hq]
    have:=List.count_le_length (a:=(q:Int)) (l:=P)
    omega
  · obtain rfl:q=f.data.length:=by omega
    rw [k3 hq]
    have:=List.countP_le_length (p:=fun b=>!(inR b 0 (f.data.length - 1))) (l:=P)
    omega
set_option maxHeartbeats 2000000 in
theorem l6Used_c (f:Fs) (a1 a2:Option Addr) (F1 F2:List Nat) (w:Bool) (tNode:TypeId) (h:Hp) (k1:slR w tNode (nodeE w) h f.nodes a1 F1) (k2:slR w 9 strE h f.data a2 F2) (hl:f.nl≤1048576) :
    ACall Try.prog 45 [.agg #[.slice a1 f.nodes.length f.nodes.length,.slice a2 f.data.length f.data.length]] h fun r h'=>∃ us a F,r=.slice a us.length us.length∧UsedInv f (held f.nodes) us∧Own h 3 intE h' us a F:=by
  refine acall mixed Try.func45 rfl (by kernel_rfl) ?_
  have hlim:=Fs.lim_of f hl
  have hN:f.data.length≤1048576:=hlim.2.2
  have hM:f.nodes.length≤1048576:=hlim.1
  have hH:(held f.nodes).length≤1048576:=by
    have:=held_len f.nodes
    have e:f.nl=f.nodes.length+sumL Node.nl f.nodes+f.data.length+sumL List.length f.data:=rfl
    omega
  obtain ⟨M,hMe⟩:∃ M:Nat,M=f.data.length+1:=⟨_,rfl⟩
  have wN:IntKind.i64.wrap ((f.data.length:Int)+1)=(M:Int):=by rw [wrap_in (by omega) (by omega)]; omega
  have hb1:(M:Int) * 8≤(big:Int):=by unfold big; omega
  have hb2:M≤big:=by unfold big; omega
  simp [Try.f45,wN,hb1,hb2]
  have own0:=Own.rep (A:=intE) (h++[⟨true,true,26,[.slice a1 f.nodes.length f.nodes.length,.slice a2 f.data.length f.data.length]⟩]) 3 M (z:=0) (zs:=[.int .i64 0]) ⟨rfl,rfl⟩
  generalize hBd:(⟨true,true,26,[.slice a1 f.nodes.length f.nodes.length,.slice a2 f.data.length f.data.length]⟩:Ob)=box at own0
  have hlen:(h++[box]).length=h.length+1:=by simp
  simp only [hlen,List.append_assoc,List.cons_append,List.nil_append] at own0
  have hbx0:cellAt (h++[box]) h.length 0=some (.slice a1 f.nodes.length f.nodes.length):=by rw [← hBd]; simp
  have hbx1:cellAt (h++[box]) h.length 1=some (.slice a2 f.data.length f.data.length):=by rw [← hBd]; simp
  have up:∀ {H:Hp} {us:List Int} {F:List Nat},Own (h++[box]) 3 intE H us (some ⟨h.length+1,0,none⟩) F→Own h 3 intE H us (some ⟨h.length+1,0,none⟩) F:=fun k=>⟨(Ext.push h [box]).trans k.ext,k.sl,k.nd,fun q hq=>by have:=k.new q hq; simp at this; omega⟩
  refine aloop mixed [1,3,4] (fun (x:Nat × List Int × Hp)=>[.pointer (some ⟨h.length,0,none⟩),.slice (some ⟨h.length+1,0,none⟩) M M,.int .i64 x.1]) (fun x=>x.2.2)
    (fun x=>x.1≤f.nodes.length∧UsedInv f (held (f.nodes.take x.1)) x.2.1∧∃ F,Own (h++[box]) 3 intE x.2.2 x.2.1 (some ⟨h.length+1,0,none⟩) F) (fun x=>f.nodes.length - x.1) (0,List.replicate M 0,_) ⟨by simp,by rw [hMe]; simpa [held] using UsedInv.start f,_,own0⟩ (by simp [pickF]) rfl ?_
  rintro ⟨i,us,H⟩ ⟨hi,inv,F,own⟩
  simp only at hi inv own
  simp [mkF,cell_up own.ext hbx0]
  refine aSI (fun hb=>?_) (fun hb=>?_) <;> simp at hb <;> simp [hb]
  · obtain ⟨o,off,b1,G1,rfl,c0,c1,c2,c3,c4,kb,-⟩:=nodeAt (k1.ext (Ext.push h [box])) hb
    refine aloop mixed [1,3,4,5] (fun (x:Nat × List Int × Hp)=>[.pointer (some ⟨h.length,0,none⟩),.slice (some ⟨h.length+1,0,none⟩) M M,.int .i64 i,.int .i64 x.1]) (fun x=>x.2.2)
      (fun x=>x.1≤f.nodes[i].blocks.length∧UsedInv f (held (f.nodes.take i)++f.nodes[i].blocks.take x.1) x.2.1∧∃ F,Own (h++[box]) 3 intE x.2.2 x.2.1 (some ⟨h.length+1,0,none⟩) F) (fun x=>f.nodes[i].blocks.length - x.1) (0,us,H) ⟨by simp,by simpa using inv,F,own⟩ (by simp [pickF]) rfl ?_
    rintro ⟨j,us',H'⟩ ⟨hj,inv',F',own'⟩
    simp only at hj inv' own'
    have hbl:f.nodes[i].blocks.length≤1048576:=hlim.2.1 _ (List.getElem_mem hb)
    simp [mkF,cell_up own'.ext hbx0,hb,cell_up own'.ext c4]
    refine aSI (fun hc=>?_) (fun hc=>?_) <;> simp at hc <;> simp [hc]
    · obtain ⟨ob,offb,rfl,cb⟩:=intEAt kb hc
      obtain ⟨rest,hsp⟩:=held_split f.nodes i j hb hc
      have wl:IntKind.i64.wrap ((f.data.length:Int) - 1)=(f.data.length:Int) - 1:=wrap_in (by omega) (by omega)
      simp [cell_up own'.ext hbx0,hb,cell_up own'.ext c4,hc,cell_up own'.ext cb,cell_up own'.ext hbx1,wl]
      refine cK (l1InR f.nodes[i].blocks[j] 0 (f.data.length - 1) _) ?_
      rintro _ H' ⟨rfl,rfl⟩
      have hul:=inv'.1
      have hle:=fun {q:Nat} (hq:q<us'.length)=>inv'.le hq
      have hPl:(held (f.nodes.take i)++f.nodes[i].blocks.take j).length≤1048576:=by
        have:(held f.nodes).length=(held (f.nodes.take i)++f.nodes[i].blocks.take j).length+(rest.length+1):=by rw [hsp]; simp; omega
        omega
      cases hin:inR f.nodes[i].blocks[j] 0 (f.data.length - 1)
      · have hq:f.data.length<us'.length:=by omega
        have hqM:f.data.length<M:=by omega
        obtain ⟨oa,offa,ea,ca⟩:=intEAt own'.sl hq
        obtain ⟨rfl,rfl⟩:h.length+1=oa∧0=offa:=by simpa using ea
        have hv:=hle hq
        have wv:IntKind.i64.wrap (us'[f.data.length]+1)=us'[f.data.length]+1:=wrap_in (by omega) (by omega)
        simp only [Nat.zero_add] at ca
        obtain ⟨hcan,F2',own2⟩:=own'.putFlat (i:=f.data.length) hq (us'[f.data.length]+1) 0 [.int .i64 (us'[f.data.length]+1)] (by simp) (by simp)
        simp at hcan own2
        have step:=inv'.out hin hq
        rw [List.append_assoc,← List.take_succ_eq_append_getElem hc] at step
        simp
        refine drawK false (by kernel_rfl) ?_
        simp [cell_up own'.ext hbx1,hqM,ca,wv,hcan]
        exact anext (j+1,_,_) ⟨hc,step,F2',own2⟩ (by simp only; omega) (by simp [pickF,wS (show j<9223372036854775807 by omega)]) rfl (by simp)
      · have hin':=inR_iff.1 hin
        have hq:f.nodes[i].blocks[j].toNat<us'.length:=by omega
        have hqM:f.nodes[i].blocks[j]<(M:Int):=by omega
        obtain ⟨oa,offa,ea,ca⟩:=intEAt own'.sl hq
        obtain ⟨rfl,rfl⟩:h.length+1=oa∧0=offa:=by simpa using ea
        have hv:=hle hq
        have wv:IntKind.i64.wrap (us'[f.nodes[i].blocks[j].toNat]+1)=us'[f.nodes[i].blocks[j].toNat]+1:=wrap_in (by omega) (by omega)
        simp only [Nat.zero_add] at ca
        obtain ⟨hcan,F2',own2⟩:=own'.putFlat (i:=f.nodes[i].blocks[j].toNat) hq (us'[f.nodes[i].blocks[j].toNat]+1) 0 [.int .i64 (us'[f.nodes[i].blocks[j].toNat]+1)] (by simp) (by simp)
        simp at hcan own2
        have step:=inv'.inn hin hq
        rw [List.append_assoc,← List.take_succ_eq_append_getElem hc] at step
        simp [hin'.1,hqM,ca,wv,hcan]
        exact anext (j+1,_,_) ⟨hc,step,F2',own2⟩ (by simp only; omega) (by simp [pickF,wS (show j<9223372036854775807 by omega)]) rfl (by simp)
    · obtain rfl:j=f.nodes[i].blocks.length:=by omega
      rw [List.take_length,← held_take _ _ hb] at inv'
      exact anext (i+1,us',H') ⟨hb,inv',F',own'⟩ (by simp only; omega) (by simp [pickF,wS (show i<9223372036854775807 by omega)]) rfl (by simp)
  · obtain rfl:i=f.nodes.length:=by omega
    rw [List.take_length] at inv
    have e:M=us.length:=by have:=inv.1; omega
    rw [e]
    exact ⟨us,_,⟨rfl,rfl⟩,inv,F,up own⟩
theorem indexFuncNode_c (es:List Node) (a:Option Addr) (F:List Nat) (w:Bool) (t:TypeId) (h:Hp) (hr:slR w t (nodeE w) h es a F) (hl:es.length≤1048576) (p:Node→Bool) (g:FuncId) (cap:Array Value)
    (hg:∀ (k:Nat) (hk:k<es.length) (b1:Option Addr) (G1:List Nat) (t:Hp),slR w 3 intE (h++t) es[k].blocks b1 G1→ACall Try.prog g (.agg #[.int .i64 es[k].kind,.int .i64 es[k].gen,.int .i64 es[k].time,.int .i64 es[k].size,.slice b1 es[k].blocks.length es[k].blocks.length] :: cap.toList) (h++t) fun r h'=>(∃ t',h'=h++t++t')∧r=.bool (p es[k])) :
    ACall Try.prog 90 [.slice a es.length es.length,.func (.func g) #[] cap] h fun r h'=>(∃ t,h'=h++t)∧r=.int .i64 (findI p es 0):=by
  refine acall mixed Try.func90 rfl (by kernel_rfl) ?_
  simp [Try.f90]
  refine aloop mixed [0,1,7,8] (fun (x:Nat × Hp)=>[.slice a es.length es.length,.func (.func g) #[] cap,.int .i64 es.length,.int .i64 x.1]) (fun x=>h++x.2) (fun x=>x.1≤es.length∧findI p (es.drop x.1) x.1=findI p es 0) (fun x=>es.length - x.1) (0,[]) ⟨by simp,by simp⟩ (by simp [pickF]) (by simp) ?_
  rintro ⟨k,t'⟩ ⟨hk,he⟩
  simp only at hk he
  simp [mkF]
  refine aSI (fun hb=>?_) (fun hb=>?_) <;> simp at hb <;> simp [hb]
  · obtain ⟨o,off,b1,G1,rfl,c0,c1,c2,c3,c4,kb,-⟩:=nodeAt (hr.ext (Ext.push h t')) hb
    rw [findI_drop p es k hb] at he
    simp [hb,c0,c1,c2,c3,c4]
    refine cK (hg k hb b1 G1 t' kb) ?_
    rintro _ _ ⟨⟨t2,rfl⟩,rfl⟩
    simp
    refine aSI (fun hc=>?_) (fun hc=>?_) <;> simp [hc] at he <;> simp [he]
    exact anext (k+1,t'++t2) ⟨hb,he⟩ (by simp only; omega) (by simp [pickF,wS (show k<9223372036854775807 by omega)]) (by simp) (by simp)
  · obtain rfl:k=es.length:=by omega
    simpa [findI] using he
theorem findI_any {α:Type} (p:α→Bool) (xs:List α):decide (0≤findI p xs 0)=xs.any p:=by
  rcases findI_spec p xs 0 with ⟨h1,h2⟩ | ⟨j,hj,h1,h2,_⟩
  · have:xs.any p=false:=by rw [List.any_eq_false]; intro x hx; simp [h2 x hx]
    simp [h1,this]
  · have:xs.any p=true:=List.any_eq_true.2 ⟨xs[j],List.getElem_mem hj,h2⟩
    have h3:(0:Int)≤((0+j:Nat):Int):=by omega
    rw [h1,this]
    simp
theorem containsFuncNode_c (es:List Node) (a:Option Addr) (F:List Nat) (w:Bool) (t:TypeId) (h:Hp) (hr:slR w t (nodeE w) h es a F) (hl:es.length≤1048576) (p:Node→Bool) (g:FuncId) (cap:Array Value)
    (hg:∀ (k:Nat) (hk:k<es.length) (b1:Option Addr) (G1:List Nat) (t:Hp),slR w 3 intE (h++t) es[k].blocks b1 G1→ACall Try.prog g (.agg #[.int .i64 es[k].kind,.int .i64 es[k].gen,.int .i64 es[k].time,.int .i64 es[k].size,.slice b1 es[k].blocks.length es[k].blocks.length] :: cap.toList) (h++t) fun r h'=>(∃ t',h'=h++t++t')∧r=.bool (p es[k])) :
    ACall Try.prog 60 [.slice a es.length es.length,.func (.func g) #[] cap] h fun r h'=>(∃ t,h'=h++t)∧r=.bool (es.any p):=by
  refine acall mixed Try.func60 rfl (by kernel_rfl) ?_
  simp [Try.f60]
  refine cK (indexFuncNode_c es a F w t h hr hl p g cap hg) ?_
  rintro _ _ ⟨⟨t1,rfl⟩,rfl⟩
  have:=findI_any p es
  simp [this]
theorem shapeOk1_c (x:Node) (a1:Option Addr) (F1:List Nat) (w:Bool) (h:Hp) (k1:slR w 3 intE h x.blocks a1 F1) (hl:x.lim) :
    ACall Try.prog 61 [.agg #[.int .i64 x.kind,.int .i64 x.gen,.int .i64 x.time,.int .i64 x.size,.slice a1 x.blocks.length x.blocks.length]] h fun r h'=>(∃ t',h'=h++t')∧r=.bool !(nodeOk x):=by
  refine acall mixed Try.func61 rfl (by kernel_rfl) ?_
  simp [Try.f61]
  refine cK (nodeOk_impl_c x a1 F1 w _ (k1.to (by simp)) hl) ?_
  rintro _ _ ⟨⟨t1,rfl⟩,rfl⟩
  simp
theorem amin_ii (x y:Int):amin .min [.int .i64 x,.int .i64 y]=some (.int .i64 (min x y)):=by
  simp only [amin,if_true]
  congr 2
  split <;> omega
def dlen (f:Fs) (b:Int):Int:=((f.data[b.toNat]?).getD []).length
def NodeLens (f:Fs) (n:Node):Prop:=∀ (j:Nat) (hj:j<n.blocks.length),dlen f n.blocks[j]=min (n.size - 16 * j) 16
def DataOk (f:Fs):Prop:=∀ (k:Nat) (hk:k<f.data.length),f.data[k].length≤16∧((k:Int)∈held f.nodes∨f.data[k]=[])
structure ShapeOk (f:Fs):Prop where
  nodes:inR f.nodes.length 2 10=true
  data:inR f.data.length 1 36=true
  root:∀ hk:0<f.nodes.length,f.nodes[0].kind=2
  ok:∀ n∈f.nodes,nodeOk n=true
  own:OwnOk f
  blocks:DataOk f
  lens:∀ n∈f.nodes,NodeLens f n
open Classical in
noncomputable def shapeOk (f:Fs):Bool:=decide (ShapeOk f)
theorem shapeOk_t {f:Fs} (h:ShapeOk f):shapeOk f=true:=by simp [shapeOk,h]
theorem shapeOk_f {f:Fs} (h:¬ ShapeOk f):shapeOk f=false:=by simp [shapeOk,h]
theorem shapeOk_iff {f:Fs}:shapeOk f=true↔ShapeOk f:=by simp [shapeOk]
theorem blkOk_mem:∀ (bs seen:List Int),blkOk seen bs=true→∀ b∈bs,0≤b∧b≤35
  | [],_,_,b,hb=>by cases hb
  | c :: bs,seen,h,b,hb=>by
    simp only [blkOk,Bool.and_eq_true] at h
    rcases List.mem_cons.1 hb with rfl | hb
    · exact inR_iff.1 h.1.1
    · exact blkOk_mem bs _ h.2 b hb
theorem nodeOk_blocks {n:Node} (h:nodeOk n=true):∀ b∈n.blocks,0≤b∧b≤35:=by
  intro b hb
  unfold nodeOk at h
  split at h
  · have:n.blocks.length=0:=by
      simp only [Bool.and_eq_true,beq_iff_eq] at h
      omega
    rw [List.eq_nil_of_length_eq_zero this] at hb
    cases hb
  · simp only [Bool.and_eq_true] at h
    exact blkOk_mem _ _ h.2 b hb
theorem held_pos {f:Fs} (h:∀ n∈f.nodes,nodeOk n=true):∀ b∈held f.nodes,0≤b:=by
  intro b hb
  obtain ⟨n,hn,hb⟩:=List.mem_flatMap.1 hb
  exact (nodeOk_blocks (h n hn) b hb).1
theorem nodeOk_size {n:Node} (h:nodeOk n=true):0≤n.size∧n.size≤80∧n.blocks.length≤5:=by
  unfold nodeOk at h
  split at h
  · simp only [Bool.and_eq_true,beq_iff_eq] at h
    omega
  · simp only [Bool.and_eq_true,Bool.not_eq_true'] at h
    have h1:=inR_iff.1 h.1.1.1.2
    have h2:=h.1.2
    simp only [badLen,bne_eq_false_iff_eq] at h2
    unfold blocksFor at h2
    refine ⟨h1.1,h1.2,?_⟩
    split at h2
    · omega
    · split at h2 <;> omega
set_option maxHeartbeats 4000000 in
theorem shapeOk_impl_c (f:Fs) (a1 a2:Option Addr) (F1 F2:List Nat) (w:Bool) (tNode:TypeId) (h:Hp) (k1:slR w tNode (nodeE w) h f.nodes a1 F1) (k2:slR w 9 strE h f.data a2 F2) (hl:f.nl≤1048576) :
    ACall Try.prog 31 [.agg #[.slice a1 f.nodes.length f.nodes.length,.slice a2 f.data.length f.data.length]] h fun r h'=>(∃ t,h'=h++t)∧r=.bool (shapeOk f):=by
  refine acall mixed Try.func31 rfl (by kernel_rfl) ?_
  have hlim:=Fs.lim_of f hl
  have hN:f.data.length≤1048576:=hlim.2.2
  have hM:f.nodes.length≤1048576:=hlim.1
  simp [Try.f31]
  refine cK (withinR f.nodes.length 2 10 _) ?_
  rintro _ _ ⟨rfl,rfl⟩
  cases e1:inR f.nodes.length 2 10
  · simp [shapeOk_f (fun s=>by rw [s.nodes] at e1; cases e1)]
  simp
  refine cK (withinR f.data.length 1 36 _) ?_
  rintro _ _ ⟨rfl,rfl⟩
  cases e2:inR f.data.length 1 36
  · simp [shapeOk_f (fun s=>by rw [s.data] at e2; cases e2)]
  have hn0:0<f.nodes.length:=by have:=inR_iff.1 e1; omega
  have hd1:1≤f.data.length:=by have:=inR_iff.1 e2; omega
  obtain ⟨o,off,b1,G1,ea1,c0,-,-,-,-,-,-⟩:=nodeAt (k1.ext (Ext.push h [⟨true,true,26,[.slice a1 f.nodes.length f.nodes.length,.slice a2 f.data.length f.data.length]⟩])) hn0
  have c0':=c0
  simp only [Nat.zero_mul,Nat.add_zero] at c0'
  subst ea1
  simp [hn0,c0']
  refine aSI (fun h3=>?_) (fun h3=>?_) <;> (have h3':=h3; simp at h3; simp [h3,h3'])
  · exact (shapeOk_f (fun s=>h3 (s.root hn0)))
  refine cK (containsFuncNode_c f.nodes _ F1 w _ _ (k1.to (by simp)) hM (fun n=>!(nodeOk n)) 61 #[] (fun k hk b1 G1 t hb=>by
    refine (shapeOk1_c f.nodes[k] b1 G1 w _ hb (hlim.2.1 _ (List.getElem_mem hk))).mono ?_
    simp)) ?_
  rintro _ _ ⟨⟨t1,rfl⟩,rfl⟩
  simp
  cases e4:(f.nodes.any fun n=>!(nodeOk n))
  rotate_left
  · obtain ⟨n,hn,hb⟩:=List.any_eq_true.1 e4
    simp
    refine shapeOk_f (fun s=>?_)
    rw [s.ok n hn] at hb
    cases hb
  have hok:∀ n∈f.nodes,nodeOk n=true:=fun n hn=>by
    have:=List.any_eq_false.1 e4 n hn
    simpa using this
  have hpos:=held_pos hok
  simp
  refine cK (owners_c f _ a2 F1 F2 w tNode _ (k1.to (by simp)) (k2.to (by simp)) hl hd1 hpos) ?_
  rintro _ _ ⟨⟨t2,rfl⟩,ho⟩
  rcases ho with ⟨hown,os,ao,Fo,rfl,inv,oo⟩ | ⟨hown,rfl⟩
  rotate_left
  · simp
    exact shapeOk_f (fun s=>hown s.own)
  have sl:=oo.sl
  obtain ⟨il,ib,ind,iv⟩:=inv
  simp
  refine aloop mixed [1,3,43,44,45] (fun (k:Nat)=>[.pointer (some ⟨h.length,0,none⟩),.slice ao f.data.length f.data.length,.slice a2 f.data.length f.data.length,.int .i64 f.data.length,.int .i64 k]) (fun _=>_) (fun k=>k≤f.data.length∧∀ (q:Nat) (hq:q<f.data.length),q<k→f.data[q].length≤16∧((q:Int)∈held f.nodes∨f.data[q]=[])) (fun k=>f.data.length - k) 0 ⟨by omega,by omega⟩ rfl rfl ?_
  rintro k ⟨hk,hdo⟩
  simp [mkF]
  refine aSI (fun hb=>?_) (fun hb=>?_) <;> simp at hb <;> simp [hb]
  · obtain ⟨od,offd,ed,cd⟩:=strEAt (k2.to (h':=h++(⟨true,true,26,[.slice (some ⟨o,off,none⟩) f.nodes.length f.nodes.length,.slice a2 f.data.length f.data.length]⟩ :: (t1++t2))) (by simp)) hb
    have hko:k<os.length:=by omega
    obtain ⟨oo,offo,eo,co⟩:=intEAt sl hko
    have ivk:=iv k hko
    subst ed
    subst eo
    simp at co
    simp [hb,cd,co]
    refine aSI (fun h5=>?_) (fun h5=>?_) <;> (have h5':=h5; simp at h5; simp [h5,h5',hb,co])
    · exact shapeOk_f (fun s=>by have:=(s.blocks k hb).1; omega)
    have more:((k:Int)∈held f.nodes∨f.data[k]=[])→∀ (q:Nat) (hq:q<f.data.length),q<k+1→f.data[q].length≤16∧((q:Int)∈held f.nodes∨f.data[q]=[]):=fun hh q hq hlt=>by
      by_cases e:q<k
      · exact hdo q hq e
      · obtain rfl:q=k:=by omega
        exact ⟨by omega,hh⟩
    refine aSI (fun h6=>?_) (fun h6=>?_) <;> (have h6':=h6; simp at h6; simp [h6,h6',hb,cd])
    · have hni:(k:Int) ∉ held f.nodes:=by
        intro hm
        have h7:decide ((k:Int)∈held f.nodes)=true:=by simpa using hm
        rw [h7] at ivk
        have:=of_decide_eq_true ivk
        omega
      refine aSI (fun h7=>?_) (fun h7=>?_) <;> (have h7':=h7; simp at h7; simp [h7,h7'])
      · exact anext (k+1) ⟨hb,more (.inr h7)⟩ (by omega) (by simp [pickF,wS (show k<9223372036854775807 by omega)]) rfl (by simp)
      · exact shapeOk_f (fun s => by rcases (s.blocks k hb).2 with h8 | h8
                                     · exact hni h8
                                     · exact h7 h8)
    · have hi:(k:Int)∈held f.nodes:=by
        have h7:decide (0≤os[k])=true:=by simpa using h6
        rw [h7] at ivk
        exact of_decide_eq_true ivk.symm
      exact anext (k+1) ⟨hb,more (.inl hi)⟩ (by omega) (by simp [pickF,wS (show k<9223372036854775807 by omega)]) rfl (by simp)
  obtain rfl:k=f.data.length:=by omega
  have hblocks:DataOk f:=fun q hq=>hdo q hq hq
  have all:(∀ n∈f.nodes,NodeLens f n)→shapeOk f=true:=fun hh=>shapeOk_t ⟨e1,e2,fun _=>h3,hok,hown,hblocks,hh⟩
  refine aloop mixed [1,66,67,68] (fun (x:Nat × Hp)=>[.pointer (some ⟨h.length,0,none⟩),.slice (some ⟨o,off,none⟩) f.nodes.length f.nodes.length,.int .i64 f.nodes.length,.int .i64 x.1]) (fun x=>h++(⟨true,true,26,[.slice (some ⟨o,off,none⟩) f.nodes.length f.nodes.length,.slice a2 f.data.length f.data.length]⟩ :: x.2)) (fun x=>x.1≤f.nodes.length∧∀ (q:Nat) (hq:q<f.nodes.length),q<x.1→NodeLens f f.nodes[q]) (fun x=>f.nodes.length - x.1) (0,t1++t2) ⟨by simp,by simp only; omega⟩ (by simp [pickF]) rfl ?_
  rintro ⟨i,T⟩ ⟨hi,hle⟩
  simp only at hi hle
  simp [mkF]
  refine aSI (fun hb=>?_) (fun hb=>?_) <;> simp at hb <;> simp [hb]
  · obtain ⟨o',off',b1,G1,e1',c0,c1,c2,c3,c4,kb,-⟩:=nodeAt (k1.to (h':=h++(⟨true,true,26,[.slice (some ⟨o,off,none⟩) f.nodes.length f.nodes.length,.slice a2 f.data.length f.data.length]⟩ :: T)) (by simp)) hb
    obtain ⟨rfl,rfl⟩:o=o'∧off=off':=by simpa using e1'
    simp [hb,c0,c1,c2,c3,c4]
    have hnk:=hok _ (List.getElem_mem hb)
    obtain ⟨hs0,hs1,hs2⟩:=nodeOk_size hnk
    refine aloop mixed [1,9,66,67,68,75,76,77] (fun (j:Nat)=>[.pointer (some ⟨h.length,0,none⟩),.int .i64 (f.nodes[i].size - 16 * j),.slice (some ⟨o,off,none⟩) f.nodes.length f.nodes.length,.int .i64 f.nodes.length,.int .i64 i,.slice b1 f.nodes[i].blocks.length f.nodes[i].blocks.length,.int .i64 f.nodes[i].blocks.length,.int .i64 j]) (fun _=>h++(⟨true,true,26,[.slice (some ⟨o,off,none⟩) f.nodes.length f.nodes.length,.slice a2 f.data.length f.data.length]⟩ :: (T++[(⟨true,true,49,[.int .i64 f.nodes[i].kind,.int .i64 f.nodes[i].gen,.int .i64 f.nodes[i].time,.int .i64 f.nodes[i].size,.slice b1 f.nodes[i].blocks.length f.nodes[i].blocks.length]⟩:Ob)]))) (fun j=>j≤f.nodes[i].blocks.length∧∀ (q:Nat) (hq:q<f.nodes[i].blocks.length),q<j→dlen f f.nodes[i].blocks[q]=min (f.nodes[i].size - 16 * q) 16) (fun j=>f.nodes[i].blocks.length - j) 0 ⟨by omega,by omega⟩ (by simp [pickF]) (by simp) ?_
    rintro j ⟨hj,hjl⟩
    simp [mkF]
    refine aSI (fun hc=>?_) (fun hc=>?_) <;> simp at hc <;> simp [hc]
    · obtain ⟨ob,offb,eb,cb⟩:=intEAt (kb.to (h':=h++(⟨true,true,26,[.slice (some ⟨o,off,none⟩) f.nodes.length f.nodes.length,.slice a2 f.data.length f.data.length]⟩ :: (T++[(⟨true,true,49,[.int .i64 f.nodes[i].kind,.int .i64 f.nodes[i].gen,.int .i64 f.nodes[i].time,.int .i64 f.nodes[i].size,.slice b1 f.nodes[i].blocks.length f.nodes[i].blocks.length]⟩:Ob)]))) (by simp)) hc
      have hbm:=hown.1 _ (mem_held hb hc)
      have hq:f.nodes[i].blocks[j].toNat<f.data.length:=by omega
      obtain ⟨od,offd,ed,cd⟩:=strEAt (k2.to (h':=h++(⟨true,true,26,[.slice (some ⟨o,off,none⟩) f.nodes.length f.nodes.length,.slice a2 f.data.length f.data.length]⟩ :: (T++[(⟨true,true,49,[.int .i64 f.nodes[i].kind,.int .i64 f.nodes[i].gen,.int .i64 f.nodes[i].time,.int .i64 f.nodes[i].size,.slice b1 f.nodes[i].blocks.length f.nodes[i].blocks.length]⟩:Ob)]))) (by simp)) hq
      have hdl:dlen f f.nodes[i].blocks[j]=f.data[f.nodes[i].blocks[j].toNat].length:=by simp [dlen,hq]
      subst eb
      subst ed
      have w16:IntKind.i64.wrap (f.nodes[i].size - 16 * j - 16)=f.nodes[i].size - 16 * ((j+1:Nat):Int):=by rw [wrap_in (by omega) (by omega)]; omega
      simp [hc,cb,hbm.1,hbm.2,cd,amin_ii]
      refine aSI (fun h8=>?_) (fun h8=>?_) <;> (have h8':=h8; simp at h8; simp [h8,h8'])
      · refine shapeOk_f (fun s=>h8 ?_)
        have:=s.lens _ (List.getElem_mem hb) j hc
        rw [hdl] at this
        exact this
      · refine anext (j+1) ⟨hc,fun q hq hlt=>?_⟩ (by omega) (by simp [pickF,wS (show j<9223372036854775807 by omega),w16]) rfl (by simp)
        by_cases e:q<j
        · exact hjl q hq e
        · obtain rfl:q=j:=by omega
          rw [hdl]; exact h8
    · obtain rfl:j=f.nodes[i].blocks.length:=by omega
      refine anext (i+1,_) ⟨hb,fun q hq hlt=>?_⟩ (by simp only; omega) (by simp [pickF,wS (show i<9223372036854775807 by omega)]) rfl (by simp)
      by_cases e:q<i
      · exact hle q hq e
      · obtain rfl:q=i:=by simp only at hlt; omega
        exact fun q' hq'=>hjl q' hq' hq'
  · obtain rfl:i=f.nodes.length:=by omega
    exact all fun n hn=>by
      obtain ⟨q,hq,rfl⟩:=List.mem_iff_getElem.1 hn
      exact hle q hq hq
theorem l1Min_c (x y:Int) (h:Hp):ACall Try.prog 70 [.int .i64 x,.int .i64 y] h fun r h'=>r=.int .i64 (min x y)∧h'=h:=by
  refine acall mixed Try.func70 rfl (by kernel_rfl) ?_
  simp [Try.f70]
  refine aSI (fun hb=>?_) (fun hb=>?_) <;> simp at hb <;> simp [hb] <;> omega
theorem l6Long_c (size k:Int) (h:Hp) (h1:0≤k) (h2:k≤1048576) (h3:0≤size) (h4:size≤1048576):ACall Try.prog 46 [.int .i64 size,.int .i64 k] h fun r h'=>r=.int .i64 (min (size - 16 * k) 16)∧h'=h:=by
  refine acall mixed Try.func46 rfl (by kernel_rfl) ?_
  have w1:IntKind.i64.wrap (k * 16)=k * 16:=wrap_in (by omega) (by omega)
  have w2:IntKind.i64.wrap (size - k * 16)=size - 16 * k:=by rw [wrap_in (by omega) (by omega)]; omega
  simp [Try.f46,w1,w2]
  refine cK (l1Min_c 16 (size - 16 * k) _) ?_
  rintro _ _ ⟨rfl,rfl⟩
  simp
  omega
set_option maxHeartbeats 4000000 in
theorem shapeOk_spec_c (f:Fs) (a1 a2:Option Addr) (F1 F2:List Nat) (w:Bool) (tNode:TypeId) (h:Hp) (k1:slR w tNode (nodeE w) h f.nodes a1 F1) (k2:slR w 9 strE h f.data a2 F2) (hl:f.nl≤1048576) :
    ACall Try.prog 17 [.agg #[.slice a1 f.nodes.length f.nodes.length,.slice a2 f.data.length f.data.length]] h fun r h'=>(∃ t,h'=h++t)∧r=.bool (shapeOk f):=by
  refine acall mixed Try.func17 rfl (by kernel_rfl) ?_
  have hlim:=Fs.lim_of f hl
  have hN:f.data.length≤1048576:=hlim.2.2
  have hM:f.nodes.length≤1048576:=hlim.1
  simp [Try.f17]
  refine cK (l1InR f.nodes.length 2 10 _) ?_
  rintro _ _ ⟨rfl,rfl⟩
  cases e1:inR f.nodes.length 2 10
  · simp [shapeOk_f (fun s=>by rw [s.nodes] at e1; cases e1)]
  simp
  refine cK (l1InR f.data.length 1 36 _) ?_
  rintro _ _ ⟨rfl,rfl⟩
  cases e2:inR f.data.length 1 36
  · simp [shapeOk_f (fun s=>by rw [s.data] at e2; cases e2)]
  have hn0:0<f.nodes.length:=by have:=inR_iff.1 e1; omega
  have hd1:1≤f.data.length:=by have:=inR_iff.1 e2; omega
  obtain ⟨o,off,b1,G1,ea1,c0,-,-,-,-,-,-⟩:=nodeAt (k1.ext (Ext.push h [⟨true,true,26,[.slice a1 f.nodes.length f.nodes.length,.slice a2 f.data.length f.data.length]⟩])) hn0
  have c0':=c0
  simp only [Nat.zero_mul,Nat.add_zero] at c0'
  subst ea1
  simp [hn0,c0']
  refine aSI (fun h3=>?_) (fun h3=>?_) <;> (have h3':=h3; simp at h3; simp [h3,h3'])
  · exact (shapeOk_f (fun s=>h3 (s.root hn0)))
  refine aloop mixed [1,3] (fun (x:Nat × Hp)=>[.pointer (some ⟨h.length,0,none⟩),.int .i64 x.1]) (fun x=>h++(⟨true,true,26,[.slice (some ⟨o,off,none⟩) f.nodes.length f.nodes.length,.slice a2 f.data.length f.data.length]⟩ :: x.2)) (fun x=>x.1≤f.nodes.length∧∀ (q:Nat) (hq:q<f.nodes.length),q<x.1→nodeOk f.nodes[q]=true) (fun x=>f.nodes.length - x.1) (0,[]) ⟨by simp,by simp only; omega⟩ (by simp [pickF]) rfl ?_
  rintro ⟨i,T⟩ ⟨hi,hle⟩
  simp only at hi hle
  simp [mkF]
  refine aSI (fun hb=>?_) (fun hb=>?_) <;> simp at hb <;> simp [hb]
  · obtain ⟨o',off',b1,G1,e1',c0,c1,c2,c3,c4,kb,-⟩:=nodeAt (k1.to (h':=h++(⟨true,true,26,[.slice (some ⟨o,off,none⟩) f.nodes.length f.nodes.length,.slice a2 f.data.length f.data.length]⟩ :: T)) (by simp)) hb
    obtain ⟨rfl,rfl⟩:o=o'∧off=off':=by simpa using e1'
    simp [hb,c0,c1,c2,c3,c4]
    refine cK (nodeOk_spec_c f.nodes[i] b1 G1 w _ kb (hlim.2.1 _ (List.getElem_mem hb))) ?_
    rintro _ _ ⟨⟨t3,rfl⟩,rfl⟩
    simp
    refine aSI (fun h5=>?_) (fun h5=>?_) <;> simp [h5]
    · refine anext (i+1,T++t3) ⟨hb,fun q hq hlt=>?_⟩ (by simp only; omega) (by simp [pickF,wS (show i<9223372036854775807 by omega)]) (by simp) (by simp)
      by_cases e:q<i
      · exact hle q hq e
      · obtain rfl:q=i:=by simp only at hlt; omega
        exact h5
    · exact shapeOk_f (fun s=>by rw [s.ok _ (List.getElem_mem hb)] at h5; cases h5)
  obtain rfl:i=f.nodes.length:=by omega
  have hok:∀ n∈f.nodes,nodeOk n=true:=fun n hn=>by
    obtain ⟨q,hq,rfl⟩:=List.mem_iff_getElem.1 hn
    exact hle q hq hq
  have hpos:=held_pos hok
  refine cK (l6Used_c f _ a2 F1 F2 w tNode _ (k1.to (by simp)) (k2.to (by simp)) hl) ?_
  rintro _ _ ⟨us,au,Fu,rfl,inv,own⟩
  obtain ⟨t2,rfl⟩:=own.ext.pre
  have sl:=own.sl
  have il:=inv.1
  have hlt:f.data.length<us.length:=by omega
  have hdone:=inv.done hpos hlt
  obtain ⟨ou,offu,eu,cu⟩:=intEAt sl hlt
  subst eu
  simp at cu sl
  simp [hlt,cu]
  have cnt:∀ (q:Nat) (hq:q<f.data.length),us[q]'(by omega)=(held f.nodes).count (q:Int):=fun q hq=>inv.2.1 q hq (by omega)
  have hu0:=(inv.le hlt).1
  refine aSI (fun h6=>?_) (fun h6=>?_) <;> (have h6':=h6; simp at h6; simp [h6,h6'])
  · exact shapeOk_f (fun s=>by have:=(hdone.1 s.own).1; omega)
  refine aloop mixed [1,4,5] (fun (k:Nat)=>[.pointer (some ⟨h.length,0,none⟩),.slice (some ⟨ou,offu,none⟩) us.length us.length,.int .i64 k]) (fun _=>h++(⟨true,true,26,[.slice (some ⟨o,off,none⟩) f.nodes.length f.nodes.length,.slice a2 f.data.length f.data.length]⟩ :: (T++t2))) (fun k=>k≤f.data.length∧∀ (q:Nat) (hq:q<f.data.length),q<k→(held f.nodes).count (q:Int)≤1∧f.data[q].length≤16∧((q:Int)∈held f.nodes∨f.data[q]=[])) (fun k=>f.data.length - k) 0 ⟨by omega,by omega⟩ (by simp [pickF]) (by simp) ?_
  rintro k ⟨hk,hdo⟩
  simp [mkF]
  refine aSI (fun hb=>?_) (fun hb=>?_) <;> simp at hb <;> simp [hb]
  · obtain ⟨od,offd,ed,cd⟩:=strEAt (k2.to (h':=h++(⟨true,true,26,[.slice (some ⟨o,off,none⟩) f.nodes.length f.nodes.length,.slice a2 f.data.length f.data.length]⟩ :: (T++t2))) (by simp)) hb
    have hku:k<us.length:=by omega
    obtain ⟨oo,offo,eo,co⟩:=intEAt sl hku
    obtain ⟨rfl,rfl⟩:ou=oo∧offu=offo:=by simpa using eo
    have ck:=cnt k hb
    subst ed
    simp [hb,hku,cd,co]
    refine aSI (fun h7=>?_) (fun h7=>?_) <;> (have h7':=h7; simp at h7; simp [h7,h7',hku,co])
    · exact shapeOk_f (fun s=>by have:=(hdone.1 s.own).2 k hb hku; omega)
    have more:f.data[k].length≤16→((k:Int)∈held f.nodes∨f.data[k]=[])→∀ (q:Nat) (hq:q<f.data.length),q<k+1→(held f.nodes).count (q:Int)≤1∧f.data[q].length≤16∧((q:Int)∈held f.nodes∨f.data[q]=[]):=fun hh1 hh q hq hlt=>by
      by_cases e:q<k
      · exact hdo q hq e
      · obtain rfl:q=k:=by omega
        exact ⟨by omega,hh1,hh⟩
    refine aSI (fun h8=>?_) (fun h8=>?_) <;> (have h8':=h8; simp at h8; simp [h8,h8',hb,cd])
    · have hni:(k:Int) ∉ held f.nodes:=List.count_eq_zero.1 (by omega)
      refine aSI (fun h9=>?_) (fun h9=>?_) <;> (have h9':=h9; simp at h9; simp [h9,h9',hb,cd])
      · exact anext (k+1) ⟨hb,more (by simp [h9]) (.inr h9)⟩ (by omega) (by simp [pickF,wS (show k<9223372036854775807 by omega)]) rfl (by simp)
      · exact shapeOk_f (fun s => by rcases (s.blocks k hb).2 with h8 | h8
                                     · exact hni h8
                                     · exact h9 h8)
    · have hi:(k:Int)∈held f.nodes:=by
        refine List.count_pos_iff.1 ?_
        omega
      refine aSI (fun h10=>?_) (fun h10=>?_) <;> (have h10':=h10; simp at h10; simp [h10,h10'])
      · exact shapeOk_f (fun s=>by have:=(s.blocks k hb).1; omega)
      · exact anext (k+1) ⟨hb,more (by omega) (.inl hi)⟩ (by omega) (by simp [pickF,wS (show k<9223372036854775807 by omega)]) rfl (by simp)
  obtain rfl:k=f.data.length:=by omega
  have hblocks:DataOk f:=fun q hq=>(hdo q hq hq).2
  have hown:OwnOk f:=hdone.2 ⟨by omega,fun q hq hu=>by rw [inv.2.1 q hq hu]; have:=(hdo q hq hq).1; omega⟩
  have all:(∀ n∈f.nodes,NodeLens f n)→shapeOk f=true:=fun hh=>shapeOk_t ⟨e1,e2,fun _=>h3,hok,hown,hblocks,hh⟩
  refine aloop mixed [1,6] (fun (x:Nat × Hp)=>[.pointer (some ⟨h.length,0,none⟩),.int .i64 x.1]) (fun x=>h++(⟨true,true,26,[.slice (some ⟨o,off,none⟩) f.nodes.length f.nodes.length,.slice a2 f.data.length f.data.length]⟩ :: x.2)) (fun x=>x.1≤f.nodes.length∧∀ (q:Nat) (hq:q<f.nodes.length),q<x.1→NodeLens f f.nodes[q]) (fun x=>f.nodes.length - x.1) (0,T++t2) ⟨by simp,by simp only; omega⟩ (by simp [pickF]) rfl ?_
  rintro ⟨i,T⟩ ⟨hi,hle⟩
  simp only at hi hle
  simp [mkF]
  refine aSI (fun hb=>?_) (fun hb=>?_) <;> simp at hb <;> simp [hb]
  · obtain ⟨o',off',b1,G1,e1',c0,c1,c2,c3,c4,kb,-⟩:=nodeAt (k1.to (h':=h++(⟨true,true,26,[.slice (some ⟨o,off,none⟩) f.nodes.length f.nodes.length,.slice a2 f.data.length f.data.length]⟩ :: T)) (by simp)) hb
    obtain ⟨rfl,rfl⟩:o=o'∧off=off':=by simpa using e1'
    simp [hb,c0,c1,c2,c3,c4]
    have hnk:=hok _ (List.getElem_mem hb)
    obtain ⟨hs0,hs1,hs2⟩:=nodeOk_size hnk
    refine aloop mixed [1,6,7,8] (fun (j:Nat)=>[.pointer (some ⟨h.length,0,none⟩),.int .i64 i,.pointer (some ⟨h.length+(T.length+1),0,none⟩),.int .i64 j]) (fun _=>h++(⟨true,true,26,[.slice (some ⟨o,off,none⟩) f.nodes.length f.nodes.length,.slice a2 f.data.length f.data.length]⟩ :: (T++[(⟨true,true,49,[.int .i64 f.nodes[i].kind,.int .i64 f.nodes[i].gen,.int .i64 f.nodes[i].time,.int .i64 f.nodes[i].size,.slice b1 f.nodes[i].blocks.length f.nodes[i].blocks.length]⟩:Ob)]))) (fun j=>j≤f.nodes[i].blocks.length∧∀ (q:Nat) (hq:q<f.nodes[i].blocks.length),q<j→dlen f f.nodes[i].blocks[q]=min (f.nodes[i].size - 16 * q) 16) (fun j=>f.nodes[i].blocks.length - j) 0 ⟨by omega,by omega⟩ (by simp [pickF]) (by simp) ?_
    rintro j ⟨hj,hjl⟩
    simp [mkF]
    refine aSI (fun hc=>?_) (fun hc=>?_) <;> simp at hc <;> simp [hc]
    · obtain ⟨ob,offb,eb,cb⟩:=intEAt (kb.to (h':=h++(⟨true,true,26,[.slice (some ⟨o,off,none⟩) f.nodes.length f.nodes.length,.slice a2 f.data.length f.data.length]⟩ :: (T++[(⟨true,true,49,[.int .i64 f.nodes[i].kind,.int .i64 f.nodes[i].gen,.int .i64 f.nodes[i].time,.int .i64 f.nodes[i].size,.slice b1 f.nodes[i].blocks.length f.nodes[i].blocks.length]⟩:Ob)]))) (by simp)) hc
      have hbm:=hown.1 _ (mem_held hb hc)
      have hq:f.nodes[i].blocks[j].toNat<f.data.length:=by omega
      obtain ⟨od,offd,ed,cd⟩:=strEAt (k2.to (h':=h++(⟨true,true,26,[.slice (some ⟨o,off,none⟩) f.nodes.length f.nodes.length,.slice a2 f.data.length f.data.length]⟩ :: (T++[(⟨true,true,49,[.int .i64 f.nodes[i].kind,.int .i64 f.nodes[i].gen,.int .i64 f.nodes[i].time,.int .i64 f.nodes[i].size,.slice b1 f.nodes[i].blocks.length f.nodes[i].blocks.length]⟩:Ob)]))) (by simp)) hq
      have hdl:dlen f f.nodes[i].blocks[j]=f.data[f.nodes[i].blocks[j].toNat].length:=by simp [dlen,hq]
      subst eb
      subst ed
      refine drawK true (by kernel_rfl) ?_
      simp [hc,cb,hbm.1,hbm.2,cd]
      refine callK (l6Long_c f.nodes[i].size j _ (by omega) (by omega) (by omega) (by omega)) ?_
      rintro _ _ ⟨rfl,rfl⟩
      refine ⟨fun _=>Ext.refl _,?_⟩
      simp
      refine aSI (fun h8=>?_) (fun h8=>?_) <;> (have h8':=h8; simp at h8; simp [h8,h8'])
      · refine shapeOk_f (fun s=>h8 ?_)
        have:=s.lens _ (List.getElem_mem hb) j hc
        rw [hdl] at this
        exact this
      · refine anext (j+1) ⟨hc,fun q hq hlt=>?_⟩ (by omega) (by simp [pickF,wS (show j<9223372036854775807 by omega)]) rfl (by simp)
        by_cases e:q<j
        · exact hjl q hq e
        · obtain rfl:q=j:=by omega
          rw [hdl]; exact h8
    · obtain rfl:j=f.nodes[i].blocks.length:=by omega
      refine anext (i+1,_) ⟨hb,fun q hq hlt=>?_⟩ (by simp only; omega) (by simp [pickF,wS (show i<9223372036854775807 by omega)]) rfl (by simp)
      by_cases e:q<i
      · exact hle q hq e
      · obtain rfl:q=i:=by simp only at hlt; omega
        exact fun q' hq'=>hjl q' hq' hq'
  · obtain rfl:i=f.nodes.length:=by omega
    exact all fun n hn=>by
      obtain ⟨q,hq,rfl⟩:=List.mem_iff_getElem.1 hn
      exact hle q hq hq
def dat (f:Fs) (b:Int):Str:=(f.data[b.toNat]?).getD []
def contentOf (f:Fs) (bs:List Int):Str:=(bs.map (dat f)).flatten
def nA_ (f:Fs) (i:Int):Node:=(f.nodes[i.toNat]?).getD ⟨0,0,0,0,[]⟩
noncomputable def usable (f:Fs) (i:Int):Bool:=shapeOk f && (inR i 0 (f.nodes.length - 1) && (nA_ f i).kind != 0)
theorem contentOf_take (f:Fs) (bs:List Int) (j:Nat) (hj:j<bs.length):contentOf f (bs.take (j+1))=contentOf f (bs.take j)++dat f bs[j]:=by
  unfold contentOf
  rw [List.take_succ_eq_append_getElem hj,List.map_append,List.flatten_append]
  simp only [List.map_cons,List.map_nil,List.flatten_cons,List.flatten_nil,List.append_nil]
theorem dat_le {f:Fs} (s:ShapeOk f) (b:Int):(dat f b).length≤16:=by
  unfold dat
  by_cases hb:b.toNat<f.data.length
  · simp only [List.getElem?_eq_getElem hb,Option.getD_some]
    exact (s.blocks _ hb).1
  · simp [List.getElem?_eq_none (by omega:f.data.length≤b.toNat)]
theorem contentOf_le {f:Fs} (s:ShapeOk f):∀ (bs:List Int),(contentOf f bs).length≤16 * bs.length
  | []=>by simp [contentOf]
  | b :: bs=>by
    have h1:=contentOf_le s bs
    have h2:=dat_le s b
    have e:contentOf f (b :: bs)=dat f b++contentOf f bs:=by simp [contentOf]
    rw [e,List.length_append,List.length_cons]
    omega
theorem nodeAtI_get {f:Fs} {i:Nat} (hi:i<f.nodes.length):nA_ f i=f.nodes[i]:=by
  simp [nA_,hi]
set_option maxHeartbeats 2000000 in
theorem l7Read_c (f:Fs) (a1 a2:Option Addr) (F1 F2:List Nat) (w:Bool) (tNode:TypeId) (h:Hp) (k1:slR w tNode (nodeE w) h f.nodes a1 F1) (k2:slR w 9 strE h f.data a2 F2) (hl:f.nl≤1048576) (s:ShapeOk f) (i:Nat) (hi:i<f.nodes.length) :
    ACall Try.prog 110 [.agg #[.slice a1 f.nodes.length f.nodes.length,.slice a2 f.data.length f.data.length],.int .i64 i] h fun r h'=>(∃ t,h'=h++t)∧r=.string (S (contentOf f (f.nodes[i].blocks))):=by
  refine acall mixed Try.func110 rfl (by kernel_rfl) ?_
  have hlim:=Fs.lim_of f hl
  have hbl:f.nodes[i].blocks.length≤1048576:=hlim.2.1 _ (List.getElem_mem hi)
  obtain ⟨o,off,b1,G1,ea,c0,c1,c2,c3,c4,kb,-⟩:=nodeAt (k1.ext (Ext.push h [⟨true,true,26,[.slice a1 f.nodes.length f.nodes.length,.slice a2 f.data.length f.data.length]⟩])) hi
  subst ea
  simp [Try.f110]
  refine aloop mixed [1,2,5,6] (fun (j:Nat)=>[.int .i64 i,.pointer (some ⟨h.length,0,none⟩),.string (S (contentOf f (f.nodes[i].blocks.take j))),.int .i64 j]) (fun _=>h++[⟨true,true,26,[.slice (some ⟨o,off,none⟩) f.nodes.length f.nodes.length,.slice a2 f.data.length f.data.length]⟩]) (fun j=>j≤f.nodes[i].blocks.length) (fun j=>f.nodes[i].blocks.length - j) 0 (by omega) (by simp [pickF,contentOf]) (by simp) ?_
  rintro j hj
  simp [mkF,hi,c4]
  refine aSI (fun hb=>?_) (fun hb=>?_) <;> simp at hb <;> simp [hb]
  · obtain ⟨ob,offb,eb,cb⟩:=intEAt kb hb
    subst eb
    have hbm:=s.own.1 _ (mem_held hi hb)
    have hq:f.nodes[i].blocks[j].toNat<f.data.length:=by omega
    obtain ⟨od,offd,ed,cd⟩:=strEAt (k2.ext (Ext.push h [⟨true,true,26,[.slice (some ⟨o,off,none⟩) f.nodes.length f.nodes.length,.slice a2 f.data.length f.data.length]⟩])) hq
    subst ed
    have hd:f.data[f.nodes[i].blocks[j].toNat]=dat f f.nodes[i].blocks[j]:=by simp [dat,hq]
    rw [hd] at cd
    have h1:=contentOf_le s (f.nodes[i].blocks.take j)
    have h2:=dat_le s f.nodes[i].blocks[j]
    have h3:(f.nodes[i].blocks.take j).length≤1048576:=by simp; omega
    have h4:(contentOf f (f.nodes[i].blocks.take j)).length+(dat f f.nodes[i].blocks[j]).length≤9223372036854775807:=by omega
    refine drawK false (by kernel_rfl) ?_
    simp [hb,hi,c4,cb,hbm.1,hbm.2,cd,h4]
    exact anext (j+1) hb (by omega) (by simp [pickF,wS (show j<9223372036854775807 by omega),contentOf_take f _ _ hb]) rfl (by simp)
  · obtain rfl:j=f.nodes[i].blocks.length:=by omega
    simp
theorem usable_spec_c (f:Fs) (a1 a2:Option Addr) (F1 F2:List Nat) (w:Bool) (tNode:TypeId) (h:Hp) (k1:slR w tNode (nodeE w) h f.nodes a1 F1) (k2:slR w 9 strE h f.data a2 F2) (hl:f.nl≤1048576) (i:Int) :
    ACall Try.prog 113 [.agg #[.slice a1 f.nodes.length f.nodes.length,.slice a2 f.data.length f.data.length],.int .i64 i] h fun r h'=>(∃ t,h'=h++t)∧r=.bool (usable f i):=by
  refine acall mixed Try.func113 rfl (by kernel_rfl) ?_
  have hlim:=Fs.lim_of f hl
  have hM:f.nodes.length≤1048576:=hlim.1
  have w1:IntKind.i64.wrap ((f.nodes.length:Int) - 1)=(f.nodes.length:Int) - 1:=wrap_in (by omega) (by omega)
  simp [Try.f113]
  refine cK (shapeOk_spec_c f a1 a2 F1 F2 w tNode _ (k1.to (by simp)) (k2.to (by simp)) hl) ?_
  rintro _ _ ⟨⟨t1,rfl⟩,rfl⟩
  cases e1:shapeOk f
  · simp [usable,e1]
  simp [w1]
  refine cK (l1InR i 0 (f.nodes.length - 1) _) ?_
  rintro _ _ ⟨rfl,rfl⟩
  cases e2:inR i 0 (f.nodes.length - 1)
  · simp [usable,e1,e2]
  have e2':=inR_iff.1 e2
  have hi:i.toNat<f.nodes.length:=by omega
  obtain ⟨m,rfl⟩:=Int.eq_ofNat_of_zero_le e2'.1
  have hi:m<f.nodes.length:=by omega
  obtain ⟨o,off,b1,G1,ea,c0,-,-,-,-,-,-⟩:=nodeAt (k1.ext (Ext.push h (⟨true,true,26,[.slice a1 f.nodes.length f.nodes.length,.slice a2 f.data.length f.data.length]⟩ :: t1))) hi
  subst ea
  simp [hi,c0,usable,e1,e2,nodeAtI_get hi]
end Go.Proofs.Ytmpgpkdijfcfhaa.Hz
