/- Texts of the calculus and of the program's functions, merged: PL. -/
import Derived.Test.YtmpgpkdijfcfhaaGreatHyGD
namespace Go.Proofs.YtmpgpkdijfcfhaaGreat.Hz
open Go.RowKit
set_option linter.unusedVariables false
set_option linter.unusedSimpArgs false
set_option maxRecDepth 20000
structure Branch where
  mode:Int
  fs:Fs
  deriving DecidableEq
def Branch.nl (x:Branch):Nat:=x.fs.nl
def Branch.bd (x:Branch):Prop:=x.fs.bd
def Branch.lim (x:Branch):Prop:=x.fs.lim
def branchE (w:Bool) (tNode:TypeId):Enc Branch where
  n:=3
  R h x cs F:=∃ a1 F1 a2 F2,cs=[.int .i64 x.mode,.slice a1 x.fs.nodes.length x.fs.nodes.length,.slice a2 x.fs.data.length x.fs.data.length]∧F=F1++F2∧slR w tNode (nodeE w) h x.fs.nodes a1 F1∧slR w 9 strE h x.fs.data a2 F2
  len:=by rintro h x cs F ⟨a1,F1,a2,F2,rfl,_⟩; rfl
  ok:=by rintro h x cs F ⟨a1,F1,a2,F2,rfl,_⟩; rfl
  frame:=by rintro h h' x cs F ⟨a1,F1,a2,F2,rfl,rfl,k1,k2⟩ hf; exact ⟨a1,_,a2,_,rfl,rfl,k1.frame fun q hq=>hf q (by simp [hq]),k2.frame fun q hq=>hf q (by simp [hq])⟩
  lt:=by
    rintro h x cs F ⟨a1,F1,a2,F2,rfl,rfl,k1,k2⟩ q hq
    simp only [List.mem_append] at hq
    rcases hq with hq | hq
    · exact k1.lt q hq
    · exact k2.lt q hq
theorem Branch.lim_of (x:Branch) (h:x.nl≤1048576):x.lim:=Fs.lim_of _ (by simp only [Branch.nl] at h; omega)
theorem branchAt {h:Hp} {w:Bool} {t tNode:TypeId} {es:List Branch} {a:Option Addr} {F:List Nat} (k:slR w t (branchE w tNode) h es a F) {i:Nat} (hi:i<es.length):∃ o off b1 G1 b2 G2,a=some ⟨o,off,none⟩∧cellAt h o (off+i * 3)=some (.int .i64 es[i].mode)∧cellAt h o (off+i * 3+1)=some (.slice b1 es[i].fs.nodes.length es[i].fs.nodes.length)∧cellAt h o (off+i * 3+2)=some (.slice b2 es[i].fs.data.length es[i].fs.data.length)∧slR w tNode (nodeE w) h es[i].fs.nodes b1 G1∧slR w 9 strE h es[i].fs.data b2 G2∧(∀ q∈G1,q∈F)∧(∀ q∈G2,q∈F):=by
  obtain ⟨o,off,c,Fi,rfl,⟨b1,G1,b2,G2,rfl,rfl,k1,k2⟩,hq,hc⟩:=k.at_ (List.getElem?_eq_getElem hi)
  exact ⟨o,off,b1,_,b2,_,rfl,hc 0 (by show _<3; omega),hc 1 (by show _<3; omega),hc 2 (by show _<3; omega),k1,k2,fun q hq'=>hq q (by simp [hq']),fun q hq'=>hq q (by simp [hq'])⟩
structure Move where
  on:Bool
  clean:Bool
  src:Int
  dst:Int
  path:Str
  gen:Int
  done:Int
  deriving DecidableEq
def Move.nl (x:Move):Nat:=x.path.length
def Move.bd (x:Move):Prop:=x.path.length≤maxLen
def Move.cs (e:Move):List Value:=[.bool e.on,.bool e.clean,.int .i64 e.src,.int .i64 e.dst,.string (S e.path),.int .i64 e.gen,.int .i64 e.done]
def Move.v (e:Move):Value:=.agg #[.bool e.on,.bool e.clean,.int .i64 e.src,.int .i64 e.dst,.string (S e.path),.int .i64 e.gen,.int .i64 e.done]
structure Pool where
  policy:Int
  minFree:Int
  branches:List Branch
  move:Move
  deriving DecidableEq
def Pool.nl (x:Pool):Nat:=x.branches.length+sumL Branch.nl x.branches+x.move.nl
def Pool.bd (x:Pool):Prop:=x.branches.length≤maxLen∧(∀ y∈x.branches,y.bd)∧x.move.bd
def Pool.lim (x:Pool):Prop:=x.branches.length≤1048576∧(∀ y∈x.branches,y.lim)
theorem Pool.lim_of (x:Pool) (h:x.nl≤1048576):x.lim:=⟨show x.branches.length≤1048576 by simp only [Pool.nl] at h; omega,fun y hy=>Branch.lim_of y (by have:=sumL_mem Branch.nl hy; simp only [Pool.nl] at h; omega)⟩
end Go.Proofs.YtmpgpkdijfcfhaaGreat.Hz
