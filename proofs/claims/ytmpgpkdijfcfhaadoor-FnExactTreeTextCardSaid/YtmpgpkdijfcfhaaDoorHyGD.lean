/- Texts of the calculus and of the program's functions, merged: U NM DT EO EI F1 MU RP. -/
import Derived.Test.YtmpgpkdijfcfhaaDoorHyGC
import Derived.Test.YtmpgpkdijfcfhaaDoorHyT
import Derived.Shelf.Bits.Mul64
/- Finding an entry: the program's way. -/
namespace Go.Proofs.YtmpgpkdijfcfhaaDoor.Hz
open Go.RowKit
set_option linter.unusedVariables false
set_option linter.unusedSimpArgs false
set_option maxRecDepth 20000
end Go.Proofs.YtmpgpkdijfcfhaaDoor.Hz
/- Names: both programs. -/
namespace Go.Proofs.YtmpgpkdijfcfhaaDoor.Hz
open Go.RowKit
set_option linter.unusedVariables false
set_option linter.unusedSimpArgs false
set_option maxRecDepth 20000
def okC (c:UInt8):Bool:=decide ((97≤c.toNat∧c.toNat≤122)∨(48≤c.toNat∧c.toNat≤57))
def nameOk (s:Str):Bool:=decide (1≤s.length∧s.length≤6) && s.all okC
end Go.Proofs.YtmpgpkdijfcfhaaDoor.Hz
/- The text of a directory: both programs. -/
namespace Go.Proofs.YtmpgpkdijfcfhaaDoor.Hz
open Go.RowKit
set_option linter.unusedVariables false
set_option linter.unusedSimpArgs false
set_option maxRecDepth 20000
section
variable (es:List Ent) (a:Option Addr) (F:List Nat) (w:Bool) (t:TypeId) (h:Hp) (hr:slR w t entE h es a F) (hl:es.length≤4194304) (hn:sumL Ent.nl es≤4194304)
include hr hl hn
end
end Go.Proofs.YtmpgpkdijfcfhaaDoor.Hz
/- Entries that are in order: both programs. -/
namespace Go.Proofs.YtmpgpkdijfcfhaaDoor.Hz
open Go.RowKit
set_option linter.unusedVariables false
set_option linter.unusedSimpArgs false
set_option maxRecDepth 20000
def nameH (s:Str):Bool:=s == [126] || nameOk s
def okAt (es:List Ent) (i:Nat) (e:Ent):Bool :=
  nameH e.name && decide (1≤e.node∧e.node≤9) && (match i with | 0=>true | j+1=>match es[j]? with | some x=>Op.bytesLess x.name e.name | none=>true) && (es.take i).all (fun x=>!(x.node == e.node))
section
variable (es:List Ent) (a:Option Addr) (F:List Nat) (w:Bool) (t:TypeId) (h:Hp) (hr:slR w t entE h es a F) (hl:es.length≤4194304) (hn:sumL Ent.nl es≤4194304)
include hr hl hn
end
end Go.Proofs.YtmpgpkdijfcfhaaDoor.Hz
/- Entries that are in order: the program,and the law. -/
namespace Go.Proofs.YtmpgpkdijfcfhaaDoor.Hz
open Go.RowKit
set_option linter.unusedVariables false
set_option linter.unusedSimpArgs false
set_option maxRecDepth 20000
set_option maxHeartbeats 1000000
section
end
end Go.Proofs.YtmpgpkdijfcfhaaDoor.Hz
/- Slices of integers and of texts,nodes and branches' images: the laws' helpers. -/
namespace Go.Proofs.YtmpgpkdijfcfhaaDoor.Hz
open Go.RowKit
set_option linter.unusedVariables false
set_option linter.unusedSimpArgs false
set_option maxRecDepth 20000
structure Node where
  kind:Int
  gen:Int
  time:Int
  size:Int
  blocks:List Int
  deriving DecidableEq
def Node.nl (x:Node):Nat:=x.blocks.length
def Node.bd (x:Node):Prop:=x.blocks.length≤maxLen
def Node.lim (x:Node):Prop:=x.blocks.length≤1048576
theorem Node.lim_of (x:Node) (h:x.nl≤1048576):x.lim:=show x.blocks.length≤1048576 by simp only [Node.nl] at h; omega
structure Fs where
  nodes:List Node
  data:List Str
  deriving DecidableEq
def Fs.nl (x:Fs):Nat:=x.nodes.length+sumL Node.nl x.nodes+x.data.length+sumL List.length x.data
def Fs.bd (x:Fs):Prop:=x.nodes.length≤maxLen∧(∀ y∈x.nodes,y.bd)∧x.data.length≤maxLen∧(∀ s∈x.data,s.length≤maxLen)
def Fs.lim (x:Fs):Prop:=x.nodes.length≤1048576∧(∀ y∈x.nodes,y.lim)∧x.data.length≤1048576
theorem Fs.lim_of (x:Fs) (h:x.nl≤1048576):x.lim:=⟨show x.nodes.length≤1048576 by simp only [Fs.nl] at h; omega,fun y hy=>Node.lim_of y (by have:=sumL_mem Node.nl hy; simp only [Fs.nl] at h; omega),show x.data.length≤1048576 by simp only [Fs.nl] at h; omega⟩
end Go.Proofs.YtmpgpkdijfcfhaaDoor.Hz
/- math/bits.Mul of small numbers,by the library's proved summary of Mul64. -/
namespace Go.Proofs.YtmpgpkdijfcfhaaDoor.Hz
open Go.RowKit
set_option linter.unusedVariables false
set_option linter.unusedSimpArgs false
set_option maxRecDepth 20000
def plainV:Value→Bool
  | .int _ _ | .string _ | .bool _=>true
  | _=>false
theorem relV_plain {φ:Inj} {a v:Value} (h:plainV a=true) (r:RelV φ a v):v=a:=by
  cases a <;> simp [plainV] at h <;> exact r
theorem all2_plain {φ:Inj}:∀ {xs vs:List Value},xs.all plainV=true→All2 (RelV φ) xs vs→vs=xs
  | [],_,_,r=>by rw [All2.nil_iff] at r; exact r
  | a :: xs,vs,h,r=>by
    obtain ⟨b,bs,rfl,h1,h2⟩:=All2.cons_iff.1 r
    simp only [List.all_cons,Bool.and_eq_true] at h
    rw [relV_plain h.1 h1,all2_plain h.2 h2]
theorem ACall.same {P:Program} {f:FuncId} {fn:Func} {c:Code} {args:List Value} {h:Hp} {v:Value} (hf:P.funcs[f]?=some fn) (hb:fn.body=some c) (hn:(fn.name == "runtime.NumGoroutine")=false)
    (hs:args.all plainV=true) (hv:∀ φ,RelV φ v v) (k:∀ w,Calls P f args.toArray w fun e w'=>e=.returned v∧w'=w):ACall P f args h fun r h'=>h'=h∧r=v:=by
  intro B w0 φ w args' R ha
  obtain rfl:=all2_plain hs ha
  have hen:(callFunc f args'.toArray).run P w=.ok (.enter f args'.toArray) w:=by
    unfold callFunc
    simp only [Sem.run_bind,run_program,Result.andThen_ok,hf]
    simp [hn,hb]
  unfold CallsV
  rw [hen]
  refine (k w).mono ?_
  rintro e w' ⟨rfl,rfl⟩
  exact ⟨v,rfl,φ,v,h,List.prefix_rfl,R,hv φ,rfl,rfl⟩
end Go.Proofs.YtmpgpkdijfcfhaaDoor.Hz
/- slices.Repeat of one integer. -/
namespace Go.Proofs.YtmpgpkdijfcfhaaDoor.Hz
open Go.RowKit
set_option linter.unusedVariables false
set_option linter.unusedSimpArgs false
set_option maxRecDepth 20000
end Go.Proofs.YtmpgpkdijfcfhaaDoor.Hz
