/- Texts of the calculus and of the program's functions, merged: PL. -/
import Derived.Test.YtmpgpkdijfcfhaaHyGD
namespace Go.Proofs.Ytmpgpkdijfcfhaa.Hz
open Go.RowKit
set_option linter.unusedVariables false
set_option linter.unusedSimpArgs false
set_option maxRecDepth 20000
structure Branch where
  mode:Int
  fs:Fs
  deriving DecidableEq
def Branch.nl (x:Branch):Nat:=x.fs.nl
def Branch.bd (x:Branch):Prop:=x.fs.bd
def Branch.lim (x:Branch):Prop:=x.fs.lim
theorem Branch.lim_of (x:Branch) (h:x.nl≤1048576):x.lim:=Fs.lim_of _ (by simp only [Branch.nl] at h; omega)
structure Move where
  on:Bool
  clean:Bool
  src:Int
  dst:Int
  path:Str
  gen:Int
  done:Int
  deriving DecidableEq
def Move.nl (x:Move):Nat:=x.path.length
def Move.bd (x:Move):Prop:=x.path.length≤maxLen
def Move.cs (e:Move):List Value:=[.bool e.on,.bool e.clean,.int .i64 e.src,.int .i64 e.dst,.string (S e.path),.int .i64 e.gen,.int .i64 e.done]
def Move.v (e:Move):Value:=.agg #[.bool e.on,.bool e.clean,.int .i64 e.src,.int .i64 e.dst,.string (S e.path),.int .i64 e.gen,.int .i64 e.done]
structure Pool where
  policy:Int
  minFree:Int
  branches:List Branch
  move:Move
  deriving DecidableEq
def Pool.nl (x:Pool):Nat:=x.branches.length+sumL Branch.nl x.branches+x.move.nl
def Pool.bd (x:Pool):Prop:=x.branches.length≤maxLen∧(∀ y∈x.branches,y.bd)∧x.move.bd
def Pool.lim (x:Pool):Prop:=x.branches.length≤1048576∧(∀ y∈x.branches,y.lim)
theorem Pool.lim_of (x:Pool) (h:x.nl≤1048576):x.lim:=⟨show x.branches.length≤1048576 by simp only [Pool.nl] at h; omega,fun y hy=>Branch.lim_of y (by have:=sumL_mem Branch.nl hy; simp only [Pool.nl] at h; omega)⟩
end Go.Proofs.Ytmpgpkdijfcfhaa.Hz
