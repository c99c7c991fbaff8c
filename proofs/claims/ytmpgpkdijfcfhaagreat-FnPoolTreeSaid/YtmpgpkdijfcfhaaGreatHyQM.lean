/- PoolTree: the program's two slices, side by side. -/
import Derived.Test.YtmpgpkdijfcfhaaGreatHyHG
namespace Go.Proofs.YtmpgpkdijfcfhaaGreat.Hz
open Go.RowKit
set_option linter.unusedVariables false
set_option linter.unusedSimpArgs false
set_option maxRecDepth 20000
structure PT (h0 H:Hp) (B:Nat) (ts:List Item) (gs:List Int) (a ga:Option Addr) (G K:List Nat):Prop where
  ai:AI h0 H B ts a G
  gsl:slR true 3 intE H gs ga K
  knd:K.Nodup
  knw:∀ q∈K,B<q
  dis:∀ q∈K,q ∉ G
def Sd (B:Nat) (G K:List Nat) (H H':Hp):Prop:=H.length≤H'.length∧∀ q,q<H.length→q ∉ G→q ∉ K→q≠B→H'[q]?=H[q]?
theorem Sd.sl {B:Nat} {G K:List Nat} {H H':Hp} (s:Sd B G K H H') {w:Bool} {t:TypeId} {α:Type} {A:Enc α} {xs:List α} {a:Option Addr} {F:List Nat} (k:slR w t A H xs a F) (hd:∀ q∈F,q ∉ G∧q ∉ K∧q≠B):slR w t A H' xs a F:=k.frame fun q hq=>s.2 q (k.lt q hq) (hd q hq).1 (hd q hq).2.1 (hd q hq).2.2
section
variable {h0 H H2:Hp} {B:Nat} {ts:List Item} {gs:List Int} {a ga:Option Addr} {G K:List Nat}
theorem PT.grow (k:PT h0 H B ts gs a ga G K) (x:Ext H H2):PT h0 H2 B ts gs a ga G K:=⟨k.ai.grow x,k.gsl.ext x,k.knd,k.knw,k.dis⟩
theorem PT.to (k:PT h0 H B ts gs a ga G K) (q:∃ l,H2=H++l):PT h0 H2 B ts gs a ga G K:=by
  obtain ⟨l,rfl⟩:=q
  exact k.grow (Ext.push _ _)
theorem PT.app (k:PT h0 H B ts gs a ga G K) (x:Item) (g:Int) (hl:ts.length≤100000000) (hg:gs.length≤100000000) :
    ∃ a' H1,aappend Tryz.prog (H++[⟨true,true,38,[.string (S x.path),.int .i64 x.kind,.string (S x.data),.int .i64 x.time]⟩]) 30 30 (.slice a ts.length ts.length) (.slice (some ⟨H.length,0,none⟩) 1 1)=some (.slice a' (ts.length+1) (ts.length+1),H1)∧cS_ H1 B 0 1=true ∧
      ∃ ga' H3,aappend Tryz.prog (sA_ H1 B 0 [.slice a' (ts.length+1) (ts.length+1)]++[⟨true,true,3,[.int .i64 g]⟩]) 58 58 (.slice ga gs.length gs.length) (.slice (some ⟨(sA_ H1 B 0 [.slice a' (ts.length+1) (ts.length+1)]).length,0,none⟩) 1 1)=some (.slice ga' (gs.length+1) (gs.length+1),H3) ∧
      ∃ G' K',PT h0 H3 B (ts++[x]) (gs++[g]) a' ga' G' K'∧Sd B G K H H3∧(∀ q∈G',q∈G∨H.length≤q)∧∀ q∈K',q∈K∨H.length≤q:=by
  obtain ⟨a',H1,G',e1,p⟩:=PutR.app k.ai.sl k.ai.nd x hl
  have hln:=k.ai.len
  have hlo:=k.ai.lo
  have g2:H1[B]?=some ⟨true,true,32,[.slice a ts.length ts.length]⟩:=by
    rw [p.kp.2 _ (by omega) (fun hm=>by have:=k.ai.nw _ hm; omega)]; exact k.ai.ab
  have hne:∀ q,q≠B→(sA_ H1 B 0 [.slice a' (ts.length+1) (ts.length+1)])[q]?=H1[q]?:=fun q hq=>by rw [sAg,if_neg (fun e=>hq e.symm)]
  have hself:(sA_ H1 B 0 [.slice a' (ts.length+1) (ts.length+1)])[B]?=some ⟨true,true,32,[.slice a' (ts.length+1) (ts.length+1)]⟩:=by
    rw [sAg,if_pos rfl,g2]; simp [setL]
  have hG:∀ q∈G',B<q:=fun q hq=>(p.sub q hq).elim (fun h1=>k.ai.nw q h1) (fun h1=>by omega)
  have hl2:(sA_ H1 B 0 [.slice a' (ts.length+1) (ts.length+1)]).length=H1.length:=sAl _ _ _ _
  have hH1:=p.kp.1
  refine ⟨a',H1,e1,by simp [cS_,g2],?_⟩
  generalize sA_ H1 B 0 [.slice a' (ts.length+1) (ts.length+1)]=X at hne hself hl2 ⊢
  have gX:slR true 3 intE X gs ga K:=k.gsl.frame fun q hq=>by
    have h1:=k.knw q hq
    have h2:=k.gsl.lt q hq
    rw [hne q (by omega),p.kp.2 q h2 (k.dis q hq)]
  obtain ⟨ga',H3,K',e2,o2,e3,e4,e5⟩:=(Own.any gX k.knd).append1L (P:=Tryz.prog) g (cs:=[.int .i64 g]) rfl (st:=58) (xt:=58) (bt:=8) (z:=[.int .i64 0]) (by simp) (by simp) (by unfold big; omega) (by unfold big; omega)
  have hKG:∀ q∈G',q ∉ K:=fun q hq hm=>by
    rcases p.sub q hq with h1 | h1
    · exact k.dis q hm h1
    · have:=k.gsl.lt q hm; omega
  have slX:slR true 38 itemE X (ts++[x]) a' G':=p.sl.frame fun q hq=>hne q (by have:=hG q hq; omega)
  refine ⟨ga',H3,e2,G',K',⟨⟨⟨by have:=k.ai.ext.1; omega,fun q hq=>?_⟩,k.ai.lo,by omega,?_,slX.frame fun q hq=>e3 q (slX.lt q hq) (hKG q hq),p.nd,hG⟩,o2.sl,o2.nd,fun q hq=>?_,fun q hq hm=>?_⟩,⟨by omega,fun q hq h1 h2 h3=>?_⟩,p.sub,fun q hq=>?_⟩
  · have:=k.ai.ext.1
    rw [e3 q (by omega) (fun hm=>by have:=k.knw q hm; omega),hne q (by omega),p.kp.2 q (by omega) (fun hm=>by have:=k.ai.nw _ hm; omega)]
    exact k.ai.ext.2 q hq
  · rw [e3 B (by omega) (fun hm=>by have:=k.knw B hm; omega),hself]
    simp
  · rcases e4 q hq with h1 | h1
    · exact k.knw q h1
    · omega
  · rcases e4 q hq with h1 | h1
    · exact hKG q hm h1
    · have:=slX.lt q hm; omega
  · rw [e3 q (by omega) h2,hne q h3]
    exact p.kp.2 q hq h1
  · rcases e4 q hq with h1 | h1
    · exact .inl h1
    · exact .inr (by omega)
theorem PT.put {o off o' off':Nat} (k:PT h0 H B ts gs (some ⟨o,off,none⟩) (some ⟨o',off',none⟩) G K) (x:Item) (g:Int) {i:Nat} (hi:i<ts.length) (hj:i<gs.length) :
    cS_ H o (off+i * 4) 4=true∧cS_ (sA_ H o (off+i * 4) [.string (S x.path),.int .i64 x.kind,.string (S x.data),.int .i64 x.time]) o' (off'+i) 1=true ∧
      PT h0 (sA_ (sA_ H o (off+i * 4) [.string (S x.path),.int .i64 x.kind,.string (S x.data),.int .i64 x.time]) o' (off'+i) [.int .i64 g]) B (ts.set i x) (gs.set i g) (some ⟨o,off,none⟩) (some ⟨o',off',none⟩) G K∧Sd B G K H (sA_ (sA_ H o (off+i * 4) [.string (S x.path),.int .i64 x.kind,.string (S x.data),.int .i64 x.time]) o' (off'+i) [.int .i64 g]):=by
  have oi:=Own.any k.ai.sl k.ai.nd
  have og:=Own.any k.gsl k.knd
  have hGo:G=[o]:=oi.flatF
  have hKo:K=[o']:=og.flatF
  obtain ⟨c1,F1,p1⟩:=oi.putFlat hi x 0 [.string (S x.path),.int .i64 x.kind,.string (S x.data),.int .i64 x.time] (by show 0+4≤4; omega) (by simp [setL,Item.cs])
  have hF1:F1=[o]:=p1.flatF
  have hoo:o'≠o:=fun e=>k.dis o' (by rw [hKo]; simp) (by rw [hGo,e]; simp)
  have hBo:B<o:=k.ai.nw o (by rw [hGo]; simp)
  have hBo':B<o':=k.knw o' (by rw [hKo]; simp)
  simp only [Nat.add_zero,List.length_cons,List.length_nil] at c1 p1
  have ne1:∀ q,q≠o→(sA_ H o (off+i * 4) [.string (S x.path),.int .i64 x.kind,.string (S x.data),.int .i64 x.time])[q]?=H[q]?:=fun q hq=>by rw [sAg,if_neg (fun e=>hq e.symm)]
  have len1:(sA_ H o (off+i * 4) [.string (S x.path),.int .i64 x.kind,.string (S x.data),.int .i64 x.time]).length=H.length:=sAl _ _ _ _
  refine ⟨c1,?_⟩
  generalize sA_ H o (off+i * 4) [.string (S x.path),.int .i64 x.kind,.string (S x.data),.int .i64 x.time]=X at p1 ne1 len1 ⊢
  have gX:slR true 3 intE X gs (some ⟨o',off',none⟩) K:=k.gsl.frame fun q hq=>ne1 q (by rw [hKo] at hq; simp at hq; omega)
  obtain ⟨c2,F2,p2⟩:=(Own.any gX k.knd).putFlat hj g 0 [.int .i64 g] (by show 0+1≤1; omega) (by simp [setL])
  have hF2:F2=[o']:=p2.flatF
  simp only [Nat.add_zero,Nat.mul_one,List.length_cons,List.length_nil] at c2 p2
  have ne2:∀ q,q≠o'→(sA_ X o' (off'+i) [.int .i64 g])[q]?=X[q]?:=fun q hq=>by rw [sAg,if_neg (fun e=>hq e.symm)]
  have len2:(sA_ X o' (off'+i) [.int .i64 g]).length=X.length:=sAl _ _ _ _
  refine ⟨c2,?_⟩
  generalize sA_ X o' (off'+i) [.int .i64 g]=Y at p2 ne2 len2 ⊢
  have hB:=k.ai.lo
  have hx:=k.ai.ext.1
  refine ⟨⟨⟨⟨by omega,fun q hq=>?_⟩,k.ai.lo,by have:=k.ai.len; omega,?_,?_,k.ai.nd,k.ai.nw⟩,?_,k.knd,k.knw,k.dis⟩,⟨by omega,fun q hq h1 h2 h3=>?_⟩⟩
  · rw [ne2 q (by omega),ne1 q (by omega)]; exact k.ai.ext.2 q hq
  · rw [ne2 B (by omega),ne1 B (by omega),k.ai.ab]; simp
  · have s:=p1.sl
    rw [hF1,← hGo] at s
    exact s.frame fun q hq=>ne2 q (by rw [hGo] at hq; simp at hq; omega)
  · have s:=p2.sl
    rw [hF2,← hKo] at s
    exact s
  · rw [ne2 q (fun e=>h2 (by rw [hKo,e]; simp)),ne1 q (fun e=>h1 (by rw [hGo,e]; simp))]
end
end Go.Proofs.YtmpgpkdijfcfhaaGreat.Hz
