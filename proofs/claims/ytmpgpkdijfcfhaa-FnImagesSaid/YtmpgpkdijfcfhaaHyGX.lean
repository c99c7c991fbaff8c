/- Texts of the calculus and of the program's functions, merged: DW DE. -/
import Derived.Test.YtmpgpkdijfcfhaaHyGE
import Derived.Test.YtmpgpkdijfcfhaaHyGC
import Derived.Test.YtmpgpkdijfcfhaaHyGD
import Derived.Test.YtmpgpkdijfcfhaaHyGP
namespace Go.Proofs.Ytmpgpkdijfcfhaa.Hz
open Go.RowKit
set_option linter.unusedVariables false
set_option linter.unusedSimpArgs false
set_option maxRecDepth 20000
def anB (a b:Int):Int:=IntKind.i64.wrap (BitVec.ofInt 64 a &&& BitVec.ofInt 64 b).toNat
def xoB (a b:Int):Int:=IntKind.i64.wrap (BitVec.ofInt 64 a ^^^ BitVec.ofInt 64 b).toNat
def shB (a b:Int):Int:=a.fdiv (2 ^ (min b.toNat 64))
theorem abin_anB (P:Program) (t:TypeId) (a b:Int):abin P .and t (.int .i64 a) (.int .i64 b)=some (.int .i64 (anB a b)):=by simp [abin]; rfl
theorem abin_xoB (P:Program) (t:TypeId) (a b:Int):abin P .xor t (.int .i64 a) (.int .i64 b)=some (.int .i64 (xoB a b)):=by simp [abin]; rfl
theorem abin_shB (P:Program) (t:TypeId) (k:IntKind) (a b:Int) (hb:0≤b):abin P .shr t (.int .i64 a) (.int k b)=some (.int .i64 (shB a b)):=by
  have:¬ b<0:=by omega
  simp [abin,this]; rfl
theorem anB_255 (a:Int):0≤anB a 255∧anB a 255≤255:=by
  have h:(BitVec.ofInt 64 a &&& BitVec.ofInt 64 255).toNat≤255:=by
    rw [BitVec.toNat_and]
    exact Nat.le_trans Nat.and_le_right (by decide)
  unfold anB
  rw [wrap_in (by omega) (by omega)]
  omega
def Draw (h:Hp) (c:Nat):Prop:=∃ (code:Str) (a:Option Addr) (F:List Nat) (w:Bool) (t:TypeId) (p s:Int),h[c]?=some ⟨true,true,81,[.slice a code.length code.length,.int .i64 p,.int .i64 s]⟩∧slR w t byteE h code a F∧(∀ q∈F,q<c)∧0≤p∧p≤code.length∧code.length≤1048576
def Dr (c:Nat) (h h':Hp):Prop:=h.length≤h'.length∧∀ q,q<h.length→q≠c→h'[q]?=h[q]?
theorem Dr.refl (c:Nat) (h:Hp):Dr c h h:=⟨Nat.le_refl _,fun _ _ _=>rfl⟩
theorem Dr.trans {c:Nat} {a b d:Hp} (x:Dr c a b) (y:Dr c b d):Dr c a d:=⟨Nat.le_trans x.1 y.1,fun q hq hc=>(y.2 q (by have:=x.1; omega) hc).trans (x.2 q hq hc)⟩
theorem Dr.of_ext {c:Nat} {a b:Hp} (x:Ext a b):Dr c a b:=⟨x.1,fun q hq _=>x.2 q hq⟩
theorem Dr.ext {c:Nat} {B a b:Hp} (x:Dr c a b) (e:Ext B a) (hc:B.length≤c):Ext B b:=⟨Nat.le_trans e.1 x.1,fun q hq=>(x.2 q (by have:=e.1; omega) (by omega)).trans (e.2 q hq)⟩
theorem Dr.sl {c:Nat} {a b:Hp} {w:Bool} {t:TypeId} {α:Type} {A:Enc α} {xs:List α} {ad:Option Addr} {F:List Nat} (x:Dr c a b) (k:slR w t A a xs ad F) (hc:c ∉ F):slR w t A b xs ad F:=k.frame fun q hq=>x.2 q (k.lt q hq) (fun e=>hc (e ▸ hq))
theorem Draw.ext {c:Nat} {a b:Hp} (x:Ext a b) (d:Draw a c):Draw b c:=by
  obtain ⟨code,ad,F,w,t,p,s,h1,h2,h3,h4⟩:=d
  exact ⟨code,ad,F,w,t,p,s,(x.2 c ((List.getElem?_eq_some_iff.1 h1).1)).trans h1,h2.ext x,h3,h4⟩
theorem Draw.frame {c:Nat} {a b:Hp} (d:Draw a c) (x:∀ q,q≤c→b[q]?=a[q]?):Draw b c:=by
  obtain ⟨code,ad,F,w,t,p,s,h1,h2,h3,h4⟩:=d
  exact ⟨code,ad,F,w,t,p,s,(x c (Nat.le_refl _)).trans h1,h2.frame fun q hq=>x q (by have:=h3 q hq; omega),h3,h4⟩
theorem Draw.lt {c:Nat} {h:Hp} (d:Draw h c):c<h.length:=by
  obtain ⟨code,ad,F,w,t,p,s,h1,h2,h3,h4⟩:=d
  exact (List.getElem?_eq_some_iff.1 h1).1
theorem l1New_c (code:Str) (a:Option Addr) (F:List Nat) (w:Bool) (t:TypeId) (h:Hp) (k:slR w t byteE h code a F) (hn:code.length≤1048576) :
    ACall Try.prog 39 [.slice a code.length code.length] h fun r h'=>r=.pointer (some ⟨h.length,0,none⟩)∧Ext h h'∧Draw h' h.length:=by
  refine acall mixed Try.func39 rfl (by kernel_rfl) ?_
  simp [Try.f39]
  have mk:∀ s:Int,Draw (h++[⟨true,true,81,[.slice a code.length code.length,.int .i64 0,.int .i64 s]⟩]) h.length:=fun s =>
    ⟨code,a,F,w,t,0,s,by simp,k.ext (Ext.push _ _),fun q hq=>k.lt q hq,Int.le_refl _,by omega,hn⟩
  refine aloop mixed [0,3,4] (fun (y:Nat × Int)=>[.slice a code.length code.length,.int .i64 y.2,.int .i64 y.1]) (fun _=>h) (fun y=>y.1≤code.length) (fun y=>code.length - y.1) (0,_) (by simp) rfl rfl ?_
  rintro ⟨i,s⟩ hi
  simp only at hi
  simp [mkF]
  by_cases hb:i<code.length
  · by_cases hb2:i<4000
    · obtain ⟨o,off,rfl,cu⟩:=byteAt k hb
      have hb2':(i:Int)<4000:=by omega
      simp [hb,hb2,hb2',cu,abin_anB]
      exact anext (i+1,anB (IntKind.i64.wrap (IntKind.i64.wrap (IntKind.i64.wrap (s * 131)+IntKind.i64.wrap code[i].toNat)+7)) 1073741823) hb (by simp only; omega) (by simp [pickF,wS (show i<9223372036854775807 by omega)]) rfl (by simp)
    · have hb2':¬ (i:Int)<4000:=by omega
      simp [hb,hb2,hb2']
      exact ⟨Ext.push _ _,mk s⟩
  · simp [hb]
    exact ⟨Ext.push _ _,mk s⟩
theorem cur_set {h:Hp} {c:Nat} {cs:List Value} {e:TypeId} {i:Nat} {v:Value} (h1:h[c]?=some ⟨true,true,e,cs⟩):(sA_ h c i [v])[c]?=some ⟨true,true,e,cs.set i v⟩:=by
  rw [sAg,if_pos rfl,h1]; rfl
theorem l1Byte_c (c:Nat) (h:Hp) (d:Draw h c) :
    ACall Try.prog 89 [.pointer (some ⟨c,0,none⟩)] h fun r h'=>Dr c h h'∧Draw h' c∧∃ z:Int,r=.int .i64 z∧0≤z∧z≤255:=by
  refine acall mixed Try.func89 rfl (by kernel_rfl) ?_
  obtain ⟨code,a,F,w,t,p,s,h1,k,hF,hp0,hp1,hn⟩:=d
  have hc:c ∉ F:=fun hm=>by have:=hF c hm; omega
  simp [Try.f89]
  have g2:cellAt h c 2=some (.int .i64 s):=by simp [cellAt,h1]
  have cs:cS_ h c 2 1=true:=by simp [cS_,h1]
  simp [g2,cs]
  generalize IntKind.i64.wrap (IntKind.i64.wrap (s * 6364136223846793005)+1442695040888963407)=s'
  have h2:=cur_set (i:=2) (v:=.int .i64 s') h1
  have d2:Dr c h (sA_ h c 2 [.int .i64 s']):=⟨by rw [sAl]; exact Nat.le_refl _,fun q hq hn=>by rw [sAg,if_neg (fun e=>hn e.symm)]⟩
  have e0:setAt h c 2 (.int .i64 s')=sA_ h c 2 [.int .i64 s']:=rfl
  try rw [e0]
  generalize sA_ h c 2 [.int .i64 s']=H at h2 d2 ⊢
  simp at h2
  have k2:=d2.sl k hc
  have g0:cellAt H c 0=some (.slice a code.length code.length):=by simp [cellAt,h2]
  have g1:cellAt H c 1=some (.int .i64 p):=by simp [cellAt,h2]
  have g2:cellAt H c 2=some (.int .i64 s'):=by simp [cellAt,h2]
  have cs:cS_ H c 1 1=true:=by simp [cS_,h2]
  refine drawK true (by kernel_rfl) ?_
  simp [g2,abin_shB,abin_xoB,abin_anB]
  have hz:=anB_255 (xoB (shB s' 33) (shB s' 45))
  generalize anB (xoB (shB s' 33) (shB s' 45)) 255=z at hz ⊢
  refine drawK true (by kernel_rfl) ?_
  simp [g0,g1]
  refine aSI (fun hb=>?_) (fun hb=>?_) <;> simp at hb <;> simp [hb]
  · obtain ⟨pn,rfl⟩:∃ pn:Nat,p=pn:=⟨p.toNat,by omega⟩
    have hpn:pn<code.length:=by omega
    obtain ⟨o,off,rfl,cu⟩:=byteAt k2 hpn
    refine drawK true (by kernel_rfl) ?_
    simp [g0,g1,cu,hpn,abin_anB]
    have hz2:=anB_255 (IntKind.i64.wrap (z+IntKind.i64.wrap code[pn].toNat))
    generalize anB (IntKind.i64.wrap (z+IntKind.i64.wrap code[pn].toNat)) 255=z2 at hz2 ⊢
    have wp:IntKind.i64.wrap ((pn:Int)+1)=(pn:Int)+1:=wrap_in (by omega) (by omega)
    simp [g1,cs,wp]
    have h3:=cur_set (i:=1) (v:=.int .i64 ((pn:Int)+1)) h2
    have d3:Dr c H (sA_ H c 1 [.int .i64 ((pn:Int)+1)]):=⟨by rw [sAl]; exact Nat.le_refl _,fun q hq hn=>by rw [sAg,if_neg (fun e=>hn e.symm)]⟩
    simp at h3
    exact ⟨d2.trans d3,⟨code,_,F,w,t,_,s',h3,d3.sl k2 hc,hF,by omega,by omega,hn⟩,hz2⟩
  · exact ⟨d2,⟨code,a,F,w,t,p,s',h2,k2,hF,hp0,hp1,hn⟩,hz⟩
theorem l1Below_c (n:Int) (c:Nat) (h:Hp) (d:Draw h c) :
    ACall Try.prog 52 [.pointer (some ⟨c,0,none⟩),.int .i64 n] h fun r h'=>Dr c h h'∧Draw h' c∧∃ z:Int,r=.int .i64 z∧0≤z∧(0<n→z<n)∧(n≤0→z=0):=by
  refine acall mixed Try.func52 rfl (by kernel_rfl) ?_
  simp [Try.f52]
  refine aSI (fun hb=>?_) (fun hb=>?_) <;> simp at hb <;> simp [hb]
  · exact ⟨Dr.refl _ _,d⟩
  have hn0:n≠0:=by omega
  have hmod:∀ x:Int,0≤x→0≤x.tmod n∧x.tmod n<n:=fun x hx=>by
    rw [Int.tmod_eq_emod_of_nonneg hx]
    exact ⟨Int.emod_nonneg _ hn0,Int.emod_lt_of_pos _ (by omega)⟩
  refine aSI (fun hb2=>?_) (fun hb2=>?_) <;> simp at hb2 <;> simp [hb2]
  · refine cK (l1Byte_c c h d) ?_
    rintro _ H ⟨dr,d1,z,rfl,hz0,hz1⟩
    simp [hn0]
    exact ⟨dr,d1,(hmod z hz0).1,(hmod z hz0).2,fun h=>by omega⟩
  · refine cK (l1Byte_c c h d) ?_
    rintro _ H1 ⟨r1,d1,z1,rfl,y10,y11⟩
    simp
    refine cK (l1Byte_c c H1 d1) ?_
    rintro _ H2 ⟨r2,d2,z2,rfl,y20,y21⟩
    simp
    refine cK (l1Byte_c c H2 d2) ?_
    rintro _ H3 ⟨r3,d3,z3,rfl,y30,y31⟩
    simp
    refine cK (l1Byte_c c H3 d3) ?_
    rintro _ H4 ⟨r4,d4,z4,rfl,y40,y41⟩
    have w1:IntKind.i64.wrap (z1 * 16777216)=z1 * 16777216:=wrap_in (by omega) (by omega)
    have w2:IntKind.i64.wrap (z2 * 65536)=z2 * 65536:=wrap_in (by omega) (by omega)
    have w3:IntKind.i64.wrap (z3 * 256)=z3 * 256:=wrap_in (by omega) (by omega)
    have w4:IntKind.i64.wrap (z1 * 16777216+z2 * 65536)=z1 * 16777216+z2 * 65536:=wrap_in (by omega) (by omega)
    have w5:IntKind.i64.wrap (z1 * 16777216+z2 * 65536+z3 * 256)=z1 * 16777216+z2 * 65536+z3 * 256:=wrap_in (by omega) (by omega)
    have w6:IntKind.i64.wrap (z1 * 16777216+z2 * 65536+z3 * 256+z4)=z1 * 16777216+z2 * 65536+z3 * 256+z4:=wrap_in (by omega) (by omega)
    simp [w1,w2,w3,w4,w5,w6,hn0]
    have hm:=hmod (z1 * 16777216+z2 * 65536+z3 * 256+z4) (by omega)
    exact ⟨r1.trans (r2.trans (r3.trans r4)),d4,hm.1,hm.2,fun h=>by omega⟩
section
variable (c:Nat) (h:Hp) (a:Option Addr) (F:List Nat) (w:Bool) (t:TypeId)
theorem l1Pick_c (xs:List Str) (hx:slR w t strE h xs a F) (hc:c ∉ F) (h1:1≤xs.length) (h2:xs.length≤256) (d:Draw h c) :
    ACall Try.prog 54 [.pointer (some ⟨c,0,none⟩),.slice a xs.length xs.length] h fun r h'=>Dr c h h'∧Draw h' c∧∃ x∈xs,r=.string (S x):=by
  refine acall mixed Try.func54 rfl (by kernel_rfl) ?_
  simp [Try.f54]
  refine cK (l1Below_c xs.length c h d) ?_
  rintro _ H ⟨dr,d1,z,rfl,hz0,hz1,-⟩
  have hz1:=hz1 (by omega)
  obtain ⟨k,rfl⟩:∃ k:Nat,z=k:=⟨z.toNat,by omega⟩
  have hk:k<xs.length:=by omega
  obtain ⟨o,off,rfl,cu⟩:=strEAt (dr.sl hx hc) hk
  simp [hk,cu]
  exact ⟨dr,d1⟩
theorem l1PickInt_c (xs:List Int) (hx:slR w t intE h xs a F) (hc:c ∉ F) (h1:1≤xs.length) (h2:xs.length≤256) (d:Draw h c) :
    ACall Try.prog 84 [.pointer (some ⟨c,0,none⟩),.slice a xs.length xs.length] h fun r h'=>Dr c h h'∧Draw h' c∧∃ x∈xs,r=.int .i64 x:=by
  refine acall mixed Try.func84 rfl (by kernel_rfl) ?_
  simp [Try.f84]
  refine cK (l1Below_c xs.length c h d) ?_
  rintro _ H ⟨dr,d1,z,rfl,hz0,hz1,-⟩
  have hz1:=hz1 (by omega)
  obtain ⟨k,rfl⟩:∃ k:Nat,z=k:=⟨z.toNat,by omega⟩
  have hk:k<xs.length:=by omega
  obtain ⟨o,off,rfl,cu⟩:=intEAt (dr.sl hx hc) hk
  simp [hk,cu]
  exact ⟨dr,d1⟩
end
structure DEnts (h:Hp) (c:Nat) (h':Hp) (es:List Ent) (a:Option Addr) (F:List Nat):Prop where
  dr:Dr c h h'
  d:Draw h' c
  sl:slR true 124 entE h' es a F
  nd:F.Nodup
  new:∀ q∈F,h.length≤q
theorem DEnts.no {h:Hp} {c:Nat} {h':Hp} {es:List Ent} {a:Option Addr} {F:List Nat} (k:DEnts h c h' es a F) (hc:c<h.length):c ∉ F:=fun hm=>by have:=k.new _ hm; omega
theorem DEnts.step {h:Hp} {c:Nat} {h' h2:Hp} {es:List Ent} {a:Option Addr} {F:List Nat} (k:DEnts h c h' es a F) (hc:c<h.length) (x:Dr c h' h2) (d:Draw h2 c):DEnts h c h2 es a F :=
  ⟨k.dr.trans x,d,x.sl k.sl (k.no hc),k.nd,k.new⟩
theorem DEnts.own {h:Hp} {c:Nat} {h' h2:Hp} {es fs:List Ent} {a b:Option Addr} {F G:List Nat} (k:DEnts h c h' es a F) (o:Own h' 124 entE h2 fs b G):DEnts h c h2 fs b G :=
  ⟨k.dr.trans (Dr.of_ext o.ext),k.d.ext o.ext,o.sl,o.nd,fun q hq=>Nat.le_trans k.dr.1 (o.new q hq)⟩
section
variable {P:Program} {α:Type} {h0 h:Hp} {e:TypeId} {xs:List α} {a:Option Addr} {F:List Nat} {n:Nat} {f:α→List Value} {hn:∀ x,(f x).length=n} {hok:∀ x,(f x).all okCell=true}
theorem Own.append1D (k:Own h0 e (flatE n f hn hok) h xs a F) (x:α) {cs:List Value} (hx:cs=f x) {st xt:TypeId} {bt:Nat} {z:List Value} (hsl:isSlice P xt=true) (hel:elOf P st=some (e,n,bt,z)) (hs1:xs.length+1≤big) (hs2:(xs.length+1) * bt≤big) :
    ∃ a' h' F',aappend P (h++[⟨true,true,e,cs⟩]) st xt (.slice a xs.length xs.length) (.slice (some ⟨h.length,0,none⟩) 1 1)=some (.slice a' (xs.length+1) (xs.length+1),h')∧Own h0 e (flatE n f hn hok) h' (xs++[x]) a' F' ∧
      (∀ q,q<h.length→q ∉ F→h'[q]?=h[q]?)∧(∀ q∈F',q∈F∨h.length≤q)∧h.length≤h'.length:=by
  subst hx
  have hl:slR true e (flatE n f hn hok) (h++[⟨true,true,e,f x⟩]) [x] (some ⟨h.length,0,none⟩) [h.length]:=by
    have:=(Own.lit (h0:=h) (h:=h) (e:=e) (A:=flatE n f hn hok) (xs:=[x]) (css:=[f x]) (Fs:=[[]]) (Ext.refl h) ⟨⟨rfl,rfl⟩,trivial⟩ (by simp) (by simp)).sl
    simpa using this
  obtain ⟨cs,h1,h2,css,Fs,rfl,h4,_⟩:=hl.cells
  have hF:=flat_nil h4.flat.2
  obtain ⟨a',h',F',e1,e2,e3,e4,e5,_⟩:=(k.grow (Ext.push h [⟨true,true,e,f x⟩])).append (P:=P) (st:=st) (xt:=xt) (x:=.slice (some ⟨h.length,0,none⟩) 1 1) (css:=css) (Fs:=Fs) (ys:=[x]) (by
    have h1':cellsAt (h++[⟨true,true,e,f x⟩]) h.length 0 (1 * n)=some css.flatten:=h1
    show srcOf P _ n xt _=_
    rw [Nat.one_mul] at h1'
    simp [srcOf,hsl,h1']) h4 hel hs1 hs2 (by rw [hF]; simp) (by rw [hF]; simp)
  refine ⟨a',h',F',e1,e2,fun q hq hm=>?_,fun q hq=>?_,by simp at e4; omega⟩
  · rw [e3 q (by simp; omega) hm,List.getElem?_append_left hq]
  · rcases e5 q hq with h | h | h
    · exact .inl h
    · rw [hF] at h; cases h
    · simp at h; exact .inr (by omega)
end
theorem DEnts.app {h:Hp} {c:Nat} {H:Hp} {es:List Ent} {a:Option Addr} {F:List Nat} (k:DEnts h c H es a F) (hc:c<h.length) (x:Ent) (hl:es.length≤1000) :
    ∃ a' H' F',aappend Try.prog (H++[⟨true,true,124,[.string (S x.name),.int .i64 x.node]⟩]) 108 108 (.slice a es.length es.length) (.slice (some ⟨H.length,0,none⟩) 1 1)=some (.slice a' (es.length+1) (es.length+1),H')∧DEnts h c H' (es++[x]) a' F':=by
  obtain ⟨a',H',F',eq,own,keep,sub,len⟩:=(Own.any k.sl k.nd).append1D (P:=Try.prog) x (cs:=[.string (S x.name),.int .i64 x.node]) rfl (st:=108) (xt:=108) (bt:=24) (z:=[.string (S []),.int .i64 0]) (by simp) (by simp) (by unfold big; omega) (by unfold big; omega)
  refine ⟨a',H',F',eq,⟨Nat.le_trans k.dr.1 len,fun q hq hn=>(keep q (by have:=k.dr.1; omega) (fun hm=>by have:=k.new q hm; omega)).trans (k.dr.2 q hq hn)⟩,?_,own.sl,own.nd,fun q hq=>(sub q hq).elim (k.new q) (fun e=>Nat.le_trans k.dr.1 e)⟩
  have:=k.dr.1
  exact k.d.frame (fun q hq=>keep q (by omega) (fun hm=>by have:=k.new q hm; omega))
end Go.Proofs.Ytmpgpkdijfcfhaa.Hz
