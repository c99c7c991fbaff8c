/- Texts of the calculus and of the program's functions, merged: PT DF. -/
import Derived.Test.YtmpgpkdijfcfhaaHyT
import Derived.Test.YtmpgpkdijfcfhaaHyGC
import Derived.Test.YtmpgpkdijfcfhaaHyGD
import Derived.Test.YtmpgpkdijfcfhaaHyGV
import Derived.Test.YtmpgpkdijfcfhaaHyGE
namespace Go.Proofs.Ytmpgpkdijfcfhaa.Hz
open Go.RowKit
set_option linter.unusedVariables false
set_option linter.unusedSimpArgs false
set_option maxRecDepth 20000
structure Put where
  at_:Int
  data:Str
  deriving DecidableEq
def Put.nl (e:Put):Nat:=e.data.length
def Put.cs (e:Put):List Value:=[.int .i64 e.at_,.string (S e.data)]
def Put.v (e:Put):Value:=.agg #[.int .i64 e.at_,.string (S e.data)]
def putE:Enc Put:=flatE 2 Put.cs (fun _=>rfl) (fun _=>rfl)
section
variable {h:Hp} {w:Bool} {t:TypeId} {es:List Put} {a:Option Addr} {F:List Nat}
theorem putAt (k:slR w t putE h es a F) {i:Nat} (hi:i<es.length):∃ o off,a=some ⟨o,off,none⟩∧cellAt h o (off+i * 2)=some (.int .i64 es[i].at_)∧cellAt h o (off+i * 2+1)=some (.string (S es[i].data)):=by
  obtain ⟨o,off,c,Fi,rfl,⟨rfl,_⟩,-,hc⟩:=k.at_ (List.getElem?_eq_getElem hi)
  exact ⟨o,off,rfl,hc 0 (by decide),hc 1 (by decide)⟩
end
def diffUp (xs ys:List Str):Nat→List Put
  | 0=>[]
  | k+1=>diffUp xs ys k++if xs[k]?.getD []≠ys[k]?.getD [] then [⟨(k:Int),ys[k]?.getD []⟩] else []
theorem diffUp_len (xs ys:List Str):∀ k,(diffUp xs ys k).length≤k
  | 0=>by simp [diffUp]
  | k+1=>by
    have:=diffUp_len xs ys k
    rw [diffUp,List.length_append]
    split <;> simp <;> omega
noncomputable def diff (x y:Fs):List Put:=if (fsBlocks x).length=(fsBlocks y).length then diffUp (fsBlocks x) (fsBlocks y) (fsBlocks x).length else []
theorem diff_len (x y:Fs):(diff x y).length≤1048576:=by
  unfold diff
  split
  · exact Nat.le_trans (diffUp_len _ _ _) (fsBlocks_len x)
  · simp
theorem fsBlocks_pos {f:Fs} (h:shapeOk f=true):2≤(fsBlocks f).length:=by simp [fsBlocks,h]
theorem diff_bad {x y:Fs} (h:shapeOk x=false∨shapeOk y=false):diff x y=[]:=by
  unfold diff
  rcases h with h | h
  · have e:fsBlocks x=[]:=by simp [fsBlocks,h]
    rw [e]; split <;> rfl
  · have e:fsBlocks y=[]:=by simp [fsBlocks,h]
    rw [e]
    split
    · rename_i h2
      rw [h2]; rfl
    · rfl
theorem blocks_some {h:Hp} {f:Fs} {a:Option Addr} {F:List Nat} {t:TypeId} {w:Bool} (k:slR w t strE h (fsBlocks f) a F) (e:shapeOk f=true):∃ p,a=some p:=by
  cases a with
  | none =>
    obtain ⟨e2,_⟩:=k
    have:=fsBlocks_pos e
    rw [e2] at this; simp at this
  | some p=>exact ⟨p,rfl⟩
section
variable (x y:Fs) (a1 a2:Option Addr) (F1 F2:List Nat) (w:Bool) (tNode:TypeId) (c1 c2:Option Addr) (G1 G2:List Nat) (w':Bool) (tNode':TypeId) (h:Hp) (k1:slR w tNode (nodeE w) h x.nodes a1 F1) (k2:slR w 9 strE h x.data a2 F2) (hl:x.nl≤1048576) (j1:slR w' tNode' (nodeE w') h y.nodes c1 G1) (j2:slR w' 9 strE h y.data c2 G2) (hl':y.nl≤1048576)
include k1 k2 hl j1 j2 hl'
set_option maxHeartbeats 4000000 in
theorem diff_impl_c :
    ACall Try.prog 20 [.agg #[.slice a1 x.nodes.length x.nodes.length,.slice a2 x.data.length x.data.length],.agg #[.slice c1 y.nodes.length y.nodes.length,.slice c2 y.data.length y.data.length]] h fun r h'=>∃ a F,r=.slice a (diff x y).length (diff x y).length∧Own h 44 putE h' (diff x y) a F:=by
  refine acall mixed Try.func20 rfl (by kernel_rfl) ?_
  simp [Try.f20]
  have hbx:=fsBlocks_len x
  have hby:=fsBlocks_len y
  obtain ⟨B0,hB0⟩:∃ B0,B0=h++[(⟨true,true,26,[.slice a1 x.nodes.length x.nodes.length,.slice a2 x.data.length x.data.length]⟩:Ob),(⟨true,true,26,[.slice c1 y.nodes.length y.nodes.length,.slice c2 y.data.length y.data.length]⟩:Ob)]:=⟨_,rfl⟩
  have eh:Ext h B0:=by rw [hB0]; exact Ext.push _ _
  have bx0:cellAt B0 h.length 0=some (.slice a1 x.nodes.length x.nodes.length):=by rw [hB0]; simp
  have bx1:cellAt B0 h.length 1=some (.slice a2 x.data.length x.data.length):=by rw [hB0]; simp
  have by0:cellAt B0 (h.length+1) 0=some (.slice c1 y.nodes.length y.nodes.length):=by rw [hB0]; simp
  have by1:cellAt B0 (h.length+1) 1=some (.slice c2 y.data.length y.data.length):=by rw [hB0]; simp
  rw [← hB0]
  clear hB0
  refine drawK true (by kernel_rfl) ?_
  simp [bx0,bx1]
  refine callK (fsBlocks_impl_c x a1 a2 F1 F2 w tNode _ (k1.ext eh) (k2.ext eh) hl) ?_
  rintro _ H1 ⟨ax,Fx,nx,rfl,ox⟩
  refine ⟨fun _=>ox.ext,?_⟩
  simp [cell_up ox.ext by0,cell_up ox.ext by1]
  refine callK (fsBlocks_impl_c y c1 c2 G1 G2 w' tNode' _ (j1.ext (eh.trans ox.ext)) (j2.ext (eh.trans ox.ext)) hl') ?_
  rintro _ H2 ⟨ay,Fy,ny,rfl,oy⟩
  refine ⟨fun _=>oy.ext,?_⟩
  have sx:=ox.sl.ext oy.ext
  have sy:=oy.sl
  have e2:Ext h H2:=eh.trans (ox.ext.trans oy.ext)
  cases ex:shapeOk x
  · obtain rfl:=nx ex
    rw [diff_bad (.inl ex)]
    simp
    exact ⟨_,Own.nil e2⟩
  obtain ⟨px,rfl⟩:=blocks_some sx ex
  cases ey:shapeOk y
  · obtain rfl:=ny ey
    rw [diff_bad (.inr ey)]
    simp
    exact ⟨_,Own.nil e2⟩
  obtain ⟨py,rfl⟩:=blocks_some sy ey
  simp
  refine aSI (fun hb=>?_) (fun hb=>?_) <;> simp at hb <;> simp [hb]
  · have hd:diff x y=[]:=by unfold diff; rw [if_neg (by omega)]
    rw [hd]
    simp
    exact ⟨_,Own.nil e2⟩
  have hd:diff x y=diffUp (fsBlocks x) (fsBlocks y) (fsBlocks x).length:=by unfold diff; rw [if_pos (by omega)]
  have o0:=empty1 putE H2 44
  have hxy:(fsBlocks x).length=(fsBlocks y).length:=by omega
  refine aloop mixed [5,7,28,29,30] (fun (z:Nat × Option Addr × Hp)=>[.slice (some px) (fsBlocks x).length (fsBlocks x).length,.slice z.2.1 (diffUp (fsBlocks x) (fsBlocks y) z.1).length (diffUp (fsBlocks x) (fsBlocks y) z.1).length,.slice (some py) (fsBlocks y).length (fsBlocks y).length,.int .i64 (fsBlocks y).length,.int .i64 z.1]) (fun z=>z.2.2)
    (fun z=>z.1≤(fsBlocks y).length∧∃ F,Own H2 44 putE z.2.2 (diffUp (fsBlocks x) (fsBlocks y) z.1) z.2.1 F) (fun z=>(fsBlocks y).length - z.1) (0,some ⟨H2.length,0,none⟩,_) ⟨by simp,_,o0⟩ rfl rfl ?_
  rintro ⟨k,a,H⟩ ⟨hk,F,own⟩
  simp only at hk own
  simp [mkF]
  refine aSI (fun hc=>?_) (fun hc=>?_) <;> simp at hc <;> simp [hc]
  · have hcx:k<(fsBlocks x).length:=by omega
    obtain ⟨o,off,e1,cx⟩:=strEAt (sx.ext own.ext) hcx
    obtain ⟨o',off',e2,cy⟩:=strEAt (sy.ext own.ext) hc
    obtain rfl:=Option.some.inj e1
    obtain rfl:=Option.some.inj e2
    have hgx:(fsBlocks x)[k]?.getD []=(fsBlocks x)[k]:=by rw [List.getElem?_eq_getElem hcx]; rfl
    have hgy:(fsBlocks y)[k]?.getD []=(fsBlocks y)[k]:=by rw [List.getElem?_eq_getElem hc]; rfl
    simp [hc,hcx,cx,cy]
    refine aSI (fun hn=>?_) (fun hn=>?_) <;> simp at hn <;> simp [hn]
    · have hs:diffUp (fsBlocks x) (fsBlocks y) (k+1)=diffUp (fsBlocks x) (fsBlocks y) k:=by rw [diffUp,hgx,hgy,if_neg (by simp; exact hn.symm)]; simp
      exact anext (k+1,a,H) ⟨hc,F,by simp only; rw [hs]; exact own⟩ (by simp only; omega) (by simp [pickF,hs,wS (show k<9223372036854775807 by omega)]) rfl (by simp)
    · have hlk:=diffUp_len (fsBlocks x) (fsBlocks y) k
      have hs:diffUp (fsBlocks x) (fsBlocks y) (k+1)=diffUp (fsBlocks x) (fsBlocks y) k++[⟨(k:Int),(fsBlocks y)[k]⟩]:=by rw [diffUp,hgx,hgy,if_pos (fun e=>hn e.symm)]
      obtain ⟨a2,H3,F3,eq3,own3⟩:=own.append1 (P:=Try.prog) ⟨(k:Int),(fsBlocks y)[k]⟩ (cs:=[.int .i64 k,.string (S (fsBlocks y)[k])]) rfl (st:=41) (xt:=41) (bt:=24) (z:=[.int .i64 0,.string (S [])]) (by simp) (by simp) (by unfold big; omega) (by unfold big; omega)
      rw [← hs] at own3
      have hsl:(diffUp (fsBlocks x) (fsBlocks y) k).length+1=(diffUp (fsBlocks x) (fsBlocks y) (k+1)).length:=by rw [hs]; simp
      rw [hsl] at eq3
      simp [eq3]
      exact anext (k+1,a2,H3) ⟨hc,F3,own3⟩ (by simp only; omega) (by simp [pickF,wS (show k<9223372036854775807 by omega)]) rfl (by simp)
  · obtain rfl:k=(fsBlocks y).length:=by omega
    rw [hd,hxy]
    exact ⟨_,⟨rfl,rfl⟩,_,own.of_new e2⟩
end
end Go.Proofs.Ytmpgpkdijfcfhaa.Hz
