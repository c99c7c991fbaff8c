/- Texts of the calculus and of the program's functions, merged: A B C D E F G H. -/
import Derived.Below
import Derived.Orders
import Derived.Laws.Sem
import Derived.Laws.World
import Derived.Lib.LaidTab
import Derived.Laws.StructEq
import Derived.Laws.BytesArg
import Derived.Deep.AppendSrc
import Derived.Lib.ConvBytes
import Derived.Laws.MakeOwn
namespace Go.Proofs.Ytmpgpkdijfcfhaa.Hz
open Go.RowKit
set_option linter.unusedVariables false
set_option linter.unusedSimpArgs false
structure Ob where
  live:Bool
  rw:Bool
  elem:TypeId
  cells:List Value
abbrev Hp:=List Ob
def junk:Value:=.chan none
def scal:Value→Bool
  | .bool _ | .int _ _ | .string _ | .nilFunc | .nilIface=>true
  | .pointer none=>true
  | .slice none 0 0=>true
  | _=>false
def cst (v:Value):Value :=
  match v with
  | .agg cs=>if cs.all scal then .agg cs else junk
  | .tuple cs=>if cs.isEmpty then .tuple #[] else junk
  | v=>if scal v then v else junk
def ev (tm:List Value):Operand→Value
  | .tmp t=>(tm[t]?).getD undef
  | .const v=>cst v
  | .global _=>junk
  | .func f=>.func (.func f) #[] #[]
def cellAt (h:Hp) (o i:Nat):Option Value :=
  match h[o]? with
  | some ob=>if ob.live then ob.cells[i]? else none
  | none=>none
def cellsAt (h:Hp) (o i:Nat):Nat→Option (List Value)
  | 0=>some []
  | n+1=>(cellAt h o i).bind fun v=>(cellsAt h o (i+1) n).map fun vs=>v :: vs
def elAt (h:Hp) (o:Nat):Option TypeId:=(h[o]?).map (·.elem)
def setAt (h:Hp) (o i:Nat) (v:Value):Hp:=h.modify o fun ob=>{ ob with cells:=ob.cells.set i v }
def sA_ (h:Hp) (o i:Nat):List Value→Hp
  | []=>h
  | v :: vs=>sA_ (setAt h o i v) o (i+1) vs
def cS_ (h:Hp) (o i n:Nat):Bool :=
  match h[o]? with
  | some ob=>ob.live && ob.rw && decide (i+n≤ob.cells.length)
  | none=>false
def kill (h:Hp) (o:Nat):Hp:=h.modify o fun ob=>{ ob with live:=false }
section
variable (P:Program)
def szOf (t:TypeId):Option Nat:=(P.info? t).map (·.size)
def byOf (t:TypeId):Option Nat:=(P.info? t).map (·.bytes)
def zeroOf (t:TypeId):Option Value:=(P.info? t).bind (·.zero)
def aggOf (t:TypeId):Option Bool:=(P.underlying t).map fun
  | .struct _ | .array _ _=>true
  | _=>false
def elemOf (t:TypeId):Option TypeId :=
  match P.underlying t with
  | some (.slice e)=>some e
  | _=>none
def strOf (t:TypeId):Bool :=
  match P.underlying t with
  | some .string=>true
  | _=>false
def intOf' (t:TypeId):Option IntKind :=
  match P.underlying t with
  | some (.int k)=>some k
  | _=>none
def fldOf (t:TypeId) (f:Nat):Option (Nat × TypeId) :=
  match P.underlying t with
  | some (.struct fs)=>(fs[f]?).map fun x=>(x.offset,x.type)
  | _=>none
end
def cellsL:Value→List Value
  | .agg cs=>cs.toList
  | v=>[v]
def okCell:Value→Bool
  | .bool _ | .int _ _ | .string _ | .pointer _ | .slice _ _ _ | .func _ _ _ | .nilFunc | .nilIface=>true
  | _=>false
def capOk:Value→Bool
  | .bool _ | .int _ _ | .string _ | .pointer _ | .slice _ _ _=>true
  | _=>false
def cellsO:Value→Option (List Value)
  | .agg cs=>some cs.toList
  | v=>if okCell v then some [v] else none
def setL (cs:List Value) (off:Nat):List Value→List Value
  | []=>cs
  | v :: vs=>setL (cs.set off v) (off+1) vs
def fillL (place:Nat→Option (Nat × Nat)) (cs:List Value):List (Nat × Value)→Option (List Value)
  | []=>some cs
  | (i,v) :: rest =>
    match place i with
    | none=>none
    | some (off,size)=>(cellsO v).bind fun vs=>if vs.length=size∧off+size≤cs.length then fillL place (setL cs off vs) rest else none
def rep (n:Nat) (zs:List Value):List Value:=(List.replicate n zs).flatten
def bytesL (s:ByteArray):List Value:=s.data.toList.map fun b=>.int .u8 b.toNat
def strL:List Value→Option (List UInt8)
  | []=>some []
  | .int .u8 n :: vs=>(strL vs).map fun bs=>UInt8.ofNat n.toNat :: bs
  | _=>none
inductive Sc where
  | bool | int | str
section
variable (P:Program)
def scOf (t:TypeId):Option Sc :=
  match P.underlying t with
  | some .bool=>some .bool
  | some (.int _)=>some .int
  | some .string=>some .str
  | _=>none
def ksOf:List Field→Nat→Option (List Sc)
  | [],_=>some []
  | f :: fs,i=>if f.name≠"_"∧f.offset=i then (scOf P f.type).bind fun s=>(ksOf fs (i+1)).map fun ss=>s :: ss else none
def eqKs (t:TypeId):Option (List Sc) :=
  if !P.eqGuardType P.depth t && !P.stoodInHeld t then
    match P.underlying t with
    | some (.struct fs)=>ksOf P fs.toList 0
    | _=>none
  else none
def eqCell:Sc→Value→Value→Option Bool
  | .bool,.bool a,.bool b=>some (a == b)
  | .int,.int k a,.int k' b=>if k=k' then some (a == b) else none
  | .str,.string a,.string b=>some (a.toList == b.toList)
  | _,_,_=>none
def eqCells:List Sc→List Value→List Value→Option Bool
  | [],[],[]=>some true
  | k :: ks,a :: as,b :: bs=>(eqCell k a b).bind fun x=>(eqCells ks as bs).map fun y=>x && y
  | _,_,_=>none
def isBool (t:TypeId):Bool:=match P.underlying t with | some .bool=>true | _=>false
def isSlice (t:TypeId):Bool:=match P.underlying t with | some (.slice _)=>true | _=>false
def abin (op:BinOp) (t:TypeId) (x y:Value):Option Value :=
  match x,y with
  | .int k a,.int k' b =>
    match op with
    | .shl=>if b<0 then none else some (.int k (k.wrap (a * 2 ^ (min b.toNat k.bits))))
    | .shr=>if b<0 then none else some (.int k (a.fdiv (2 ^ (min b.toNat k.bits))))
    | op=>if k≠k' then none else
      match op with
      | .add=>some (.int k (k.wrap (a+b)))
      | .sub=>some (.int k (k.wrap (a - b)))
      | .mul=>some (.int k (k.wrap (a * b)))
      | .quo=>if b=0 then none else some (.int k (k.wrap (a.tdiv b)))
      | .rem=>if b=0 then none else some (.int k (a.tmod b))
      | .and=>some (.int k (k.wrap (BitVec.ofInt k.bits a &&& BitVec.ofInt k.bits b).toNat))
      | .or=>some (.int k (k.wrap (BitVec.ofInt k.bits a ||| BitVec.ofInt k.bits b).toNat))
      | .xor=>some (.int k (k.wrap (BitVec.ofInt k.bits a ^^^ BitVec.ofInt k.bits b).toNat))
      | .eql=>some (.bool (a == b))
      | .neq=>some (.bool (a != b))
      | .lss=>some (.bool (decide (a<b)))
      | .leq=>some (.bool (decide (a≤b)))
      | .gtr=>some (.bool (decide (a > b)))
      | .geq=>some (.bool (decide (a ≥ b)))
      | _=>none
  | .string a,.string b =>
    match op with
    | .add=>if a.size+b.size≤9223372036854775807 then some (.string (a++b)) else none
    | .eql=>some (.bool (a.toList == b.toList))
    | .neq=>some (.bool !(a.toList == b.toList))
    | .lss=>some (.bool (Op.bytesLess a.toList b.toList))
    | .leq=>some (.bool (Op.bytesLess a.toList b.toList || a.toList == b.toList))
    | .gtr=>some (.bool !(Op.bytesLess a.toList b.toList || a.toList == b.toList))
    | .geq=>some (.bool !(Op.bytesLess a.toList b.toList))
    | _=>none
  | .bool a,.bool b=>if isBool P t then (match op with | .eql=>some (.bool (a == b)) | .neq=>some (.bool !(a == b)) | _=>none) else none
  | .slice a _ _,.slice none 0 0=>if isSlice P t then (match op with | .eql=>some (.bool a.isNone) | .neq=>some (.bool !a.isNone) | _=>none) else none
  | .agg xs,.agg ys=>(eqKs P t).bind fun ks=>(match op with | .eql=>(eqCells ks xs.toList ys.toList).map fun b=>.bool b | .neq=>(eqCells ks xs.toList ys.toList).map fun b=>.bool !b | _=>none)
  | _,_=>none
def aun (op:UnOp) (x:Value):Option Value :=
  match op,x with
  | .neg,.int k n=>some (.int k (k.wrap (0 - n)))
  | .not,.bool b=>some (.bool !b)
  | _,_=>none
def bound (d:Int):Option Value→Option Int
  | none=>some d
  | some (.int _ i)=>some i
  | some _=>none
def asl (t:TypeId) (x:Value) (lo hi mx:Option Value):Option Value :=
  match x with
  | .string s =>
    if !strOf P t || mx.isSome then none else
    (bound 0 lo).bind fun l=>(bound s.size hi).bind fun h=>if 0≤l∧l≤h∧h≤s.size then some (.string (s.extract l.toNat h.toNat)) else none
  | .slice none 0 0=>(elemOf P t).bind fun e=>(szOf P e).bind fun _=>(bound 0 lo).bind fun l=>(bound 0 hi).bind fun h=>if l=0∧h=0∧mx.isNone then some (.slice none 0 0) else none
  | _=>none
def asl2 (h:Hp) (t:TypeId) (x:Value) (lo hi mx:Option Value):Option Value :=
  match x with
  | .slice (some a) n c =>
    (elemOf P t).bind fun e=>(szOf P e).bind fun sz=>if elAt h a.block=some e then
      (bound 0 lo).bind fun l=>(bound n hi).bind fun h =>
      (match mx with
      | none=>if 0≤l∧l≤h∧h≤max n c then some (.slice (some ⟨a.block,a.off+l.toNat * sz,none⟩) (h.toNat - l.toNat) (max n c - l.toNat)) else none
      | some (.int _ m)=>if hi.isSome∧0≤l∧l≤h∧h≤m∧m≤max n c then some (.slice (some ⟨a.block,a.off+l.toNat * sz,none⟩) (h.toNat - l.toNat) (m.toNat - l.toNat)) else none
      | _=>none) else none
  | x=>asl P t x lo hi mx
def afield (t:TypeId) (x:Value) (f:Nat):Option Value :=
  match x with
  | .agg cs=>(fldOf P t f).bind fun (off,ft)=>(aggOf P ft).bind fun g =>
      if g then (szOf P ft).map fun sz=>.agg (cs.extract off (off+sz)) else cs[off]?
  | _=>none
def placesOf (t:TypeId):Option (List (Nat × Nat)) :=
  match P.underlying t with
  | some (.struct fs)=>fs.toList.mapM fun f=>(szOf P f.type).map fun n=>(f.offset,n)
  | _=>none
def abuild (t:TypeId) (parts:List (Nat × Value)):Option Value :=
  (placesOf P t).bind fun pl=>(zeroOf P t).bind fun z=>if (cellsL z).all scal then (fillL (fun i=>pl[i]?) (cellsL z) parts).map fun cs=>.agg cs.toArray else none
def aidx (t:TypeId) (x i:Value):Option Value :=
  match x,i with
  | .slice (some a) n _,.int _ i=>(elemOf P t).bind fun e=>(szOf P e).bind fun sz=>if 0≤i∧i<n then some (.pointer (some ⟨a.block,a.off+i.toNat * sz,none⟩)) else none
  | _,_=>none
def astr (t:TypeId) (x i:Value):Option Value :=
  match x,i with
  | .string s,.int _ i=>if strOf P t && decide (0≤i) then (s.data[i.toNat]?).map fun b=>.int .u8 b.toNat else none
  | _,_=>none
def amin (op:Builtin) (args:List Value):Option Value :=
  match op,args with
  | .min,[.int k x,.int k' y]=>if k=k' then some (.int k (if y<x then y else x)) else none
  | .max,[.int k x,.int k' y]=>if k=k' then some (.int k (if y > x then y else x)) else none
  | _,_=>none
def alen (t:TypeId) (x:Value):Option Value :=
  match x with
  | .string s=>if strOf P t then some (.int .i64 s.size) else none
  | .slice _ n _=>if isSlice P t then some (.int .i64 n) else none
  | _=>none
def qev (ρ:Operand→Value):Op→Option Value
  | .move x | .assign x=>some (ρ x)
  | .pick c a b=>match ρ c with | .bool t=>some (if t then ρ a else ρ b) | _=>none
  | .nilCheck x=>match ρ x with | .pointer (some a)=>some (.pointer (some a)) | _=>none
  | .binOp op t x y _=>abin P op t (ρ x) (ρ y)
  | .unOp op _ x=>aun op (ρ x)
  | .convert s d x=>match intOf' P s,intOf' P d,ρ x with
      | some _,some k,.int _ n=>some (.int k (k.wrap n))
      | _,_,.string b=>if strOf P s && strOf P d then some (.string b) else none
      | _,_,_=>none
  | .makeFunc (.func g) first cap=>if first.isEmpty && (cap.toList.map ρ).all capOk then some (.func (.func g) #[] (cap.map ρ)) else none
  | .slice t x lo hi mx=>if strOf P t then asl P t (ρ x) (lo.map ρ) (hi.map ρ) (mx.map ρ) else none
  | .fieldAddr t x f=>match ρ x with
      | .pointer (some a)=>(fldOf P t f).bind fun (off,ft)=>if szOf P ft=some 0 then none else (szOf P ft).map fun _=>.pointer (some ⟨a.block,a.off+off,none⟩)
      | _=>none
  | .field t x f=>afield P t (ρ x) f
  | .build t parts=>abuild P t (parts.toList.map fun p=>(p.1,ρ p.2))
  | .indexAddr t x i=>aidx P t (ρ x) (ρ i)
  | .index t x i=>astr P t (ρ x) (ρ i)
  | .extract x i=>match ρ x with | .tuple vs=>vs[i]? | _=>none
  | .call { callee:=.builtin .len,args,argTypes }=>match argTypes.toList,args.toList with | [t],[x]=>alen P t (ρ x) | _,_=>none
  | .call { callee:=.builtin .min,args,.. }=>amin .min (args.toList.map ρ)
  | .call { callee:=.builtin .max,args,.. }=>amin .max (args.toList.map ρ)
  | _=>none
def lev (h:Hp) (ρ:Operand→Value):Op→Option Value
  | .slice t x lo hi mx=>if strOf P t then none else asl2 P h t (ρ x) (lo.map ρ) (hi.map ρ) (mx.map ρ)
  | .load t x=>match ρ x with
      | .pointer (some a)=>(aggOf P t).bind fun g=>if g then (szOf P t).bind fun n=>(cellsAt h a.block a.off n).map fun cs=>.agg cs.toArray else cellAt h a.block a.off
      | _=>none
  | .convert s d x=>if strOf P d && ((elemOf P s).bind (intOf' P) == some .u8) then (match ρ x with
      | .slice none 0 0=>some (.string ⟨#[]⟩)
      | .slice (some a) n _=>(cellsAt h a.block a.off n).bind fun cs=>(strL cs).map fun bs=>.string ⟨bs.toArray⟩
      | _=>none) else none
  | _=>none
def srcOf (h:Hp) (sz:Nat) (t:TypeId):Value→Option (List Value × Nat)
  | .slice none 0 0=>if isSlice P t then some ([],0) else none
  | .slice (some b) m _=>if isSlice P t then (cellsAt h b.block b.off (m * sz)).map fun cs=>(cs,m) else none
  | .string s=>if strOf P t && (sz == 1) then some (bytesL s,s.size) else none
  | _=>none
def big:Nat:=70368744177664   -- 2^46
def elOf (t:TypeId):Option (TypeId × Nat × Nat × List Value) :=
  (elemOf P t).bind fun e=>(szOf P e).bind fun sz=>(byOf P e).bind fun bt=>(zeroOf P e).bind fun z =>
    if (cellsL z).all scal∧(cellsL z).length=sz∧0<sz then some (e,sz,bt,cellsL z) else none
def aappend (h:Hp) (st xt:TypeId) (s x:Value):Option (Value × Hp) :=
  (elOf P st).bind fun (e,sz,bt,_)=>(srcOf P h sz xt x).bind fun (xs,m) =>
    match s with
    | .slice none 0 0=>if m=0 then some (s,h) else
        if m≤big∧m * bt≤big then some (.slice (some ⟨h.length,0,none⟩) m m,h++[⟨true,true,e,xs⟩]) else none
    | .slice (some a) n c=>if m=0 then some (s,h) else if elAt h a.block≠some e then none else
        if n+m≤c then (if cS_ h a.block (a.off+n * sz) (m * sz) then some (.slice (some a) (n+m) c,sA_ h a.block (a.off+n * sz) xs) else none) else
        if n+m≤big∧(n+m) * bt≤big∧cS_ h a.block a.off 0 then
          (cellsAt h a.block a.off (n * sz)).map fun old=>(.slice (some ⟨h.length,0,none⟩) (n+m) (n+m),kill h a.block++[⟨true,true,e,old++xs⟩])
        else none
    | _=>none
def aclear (h:Hp) (t:TypeId) (x:Value):Option (Value × Hp) :=
  (elOf P t).bind fun (e,sz,_,zs) =>
    match x with
    | .slice none 0 0=>some (undef,h)
    | .slice (some a) n _=>if n=0 then some (undef,h) else if elAt h a.block=some e∧cS_ h a.block a.off (n * sz) then some (undef,sA_ h a.block a.off (rep n zs)) else none
    | _=>none
def acopy (h:Hp) (t:TypeId) (d s:Value):Option (Value × Hp) :=
  (elOf P t).bind fun (e,sz,_,_) =>
    match d,s with
    | .slice none 0 0,.slice none 0 0=>some (.int .i64 0,h)
    | .slice none 0 0,.slice (some _) _ _=>some (.int .i64 0,h)
    | .slice (some _) _ _,.slice none 0 0=>some (.int .i64 0,h)
    | .slice (some a) n _,.slice (some b) m _ =>
      if min m n=0 then some (.int .i64 0,h) else
      if cS_ h a.block a.off (min m n * sz) then (cellsAt h b.block b.off (min m n * sz)).map fun cs=>(.int .i64 (min m n:Nat),sA_ h a.block a.off cs) else none
    | _,_=>none
def eev (h:Hp) (ρ:Operand→Value):Op→Option (Value × Hp)
  | .box t x=>(cellsO (ρ x)).bind fun cs=>if cs.all okCell then (szOf P t).map fun _=>(.pointer (some ⟨h.length,0,none⟩),h++[⟨true,true,t,cs⟩]) else none
  | .alloc t=>(zeroOf P t).bind fun z=>if (cellsL z).all scal then (szOf P t).map fun _=>(.pointer (some ⟨h.length,0,none⟩),h++[⟨true,true,t,cellsL z⟩]) else none
  | .store t x y=>match ρ x with
      | .pointer (some a)=>(cellsO (ρ y)).bind fun cs=>if some cs.length=szOf P t∧cs.all okCell∧cS_ h a.block a.off cs.length then some (undef,sA_ h a.block a.off cs) else none
      | _=>none
  | .buildSlice t n parts=>(elOf P t).bind fun (e,sz,_,zs) =>
      if n * sz≤4096 then
        (fillL (fun i=>some (i * sz,sz)) (rep n zs) (parts.toList.map fun p=>(p.1,ρ p.2))).bind fun cs=>if cs.all okCell then some (.slice (some ⟨h.length,0,none⟩) n n,h++[⟨true,true,e,cs⟩]) else none
      else none
  | .makeSlice t l c=>match ρ l,ρ c with
      | .int .i64 n,.int .i64 m=>(elOf P t).bind fun (e,_,bt,zs) =>
          if n=m∧0≤n∧n * bt≤big∧n≤big then
            some (.slice (some ⟨h.length,0,none⟩) n.toNat n.toNat,h++[⟨true,true,e,rep n.toNat zs⟩])
          else none
      | _,_=>none
  | .convert s d x=>match ρ x with
      | .string b=>(elemOf P d).bind fun e=>if strOf P s && (intOf' P e == some .u8) && (szOf P e == some 1) then some (.slice (some ⟨h.length,0,none⟩) b.size b.size,h++[⟨true,true,e,bytesL b⟩]) else none
      | .slice (some a) n c=>if s=d∧(elemOf P d).bind (intOf' P)=some .u8∧0<n∧elAt h a.block=elemOf P d∧cS_ h a.block a.off 0=true then some (.slice (some a) n c,h) else none
      | _=>none
  | .call { callee:=.builtin .append,args,argTypes }=>match argTypes.toList,args.toList with
      | [st,xt],[s,x]=>aappend P h st xt (ρ s) (ρ x)
      | _,_=>none
  | .call { callee:=.builtin .clear,args,argTypes }=>match argTypes.toList,args.toList with
      | [t],[x]=>aclear P h t (ρ x)
      | _,_=>none
  | .call { callee:=.builtin .copy,args,argTypes }=>match argTypes.toList,args.toList with
      | [t,_],[d,s]=>acopy P h t (ρ d) (ρ s)
      | _,_=>none
  | _=>none
inductive Kd where
  | pure | load | weak | strong | call
  deriving DecidableEq
def kdOf:Op→Kd
  | .load ..=>.load
  | .slice t ..=>if strOf P t then .pure else .load
  | .convert s d _=>if strOf P d then (if strOf P s then .pure else if (intOf' P s).isSome then .pure else .load) else if strOf P s then .weak else if (elemOf P d).isSome then .weak else .pure
  | .box .. | .alloc _ | .buildSlice .. | .makeSlice ..=>.weak
  | .store ..=>.strong
  | .call { callee:=.builtin .append,.. }=>.strong
  | .call { callee:=.builtin .clear,.. }=>.strong
  | .call { callee:=.builtin .copy,.. }=>.strong
  | .call { callee:=.builtin _,.. }=>.pure
  | .call { callee:=.value _,.. }=>.call
  | _=>.pure
end
end Go.Proofs.Ytmpgpkdijfcfhaa.Hz
namespace Go.Proofs.Ytmpgpkdijfcfhaa.Hz
open Go.RowKit
set_option linter.unusedVariables false
set_option linter.unusedSimpArgs false
def All2 {α β:Type} (R:α→β→Prop):List α→List β→Prop
  | [],[]=>True
  | a :: as,b :: bs=>R a b∧All2 R as bs
  | _,_=>False
namespace All2
variable {α β:Type} {R S:α→β→Prop}
theorem length:∀ {as:List α} {bs:List β},All2 R as bs→as.length=bs.length
  | [],[],_=>rfl
  | _ :: _,_ :: _,h=>by simp [length h.2]
  | [],_ :: _,h=>h.elim
  | _ :: _,[],h=>h.elim
theorem mono (f:∀ a b,R a b→S a b):∀ {as:List α} {bs:List β},All2 R as bs→All2 S as bs
  | [],[],_=>trivial
  | _ :: _,_ :: _,h=>⟨f _ _ h.1,mono f h.2⟩
  | [],_ :: _,h=>h.elim
  | _ :: _,[],h=>h.elim
theorem get:∀ {as:List α} {bs:List β} (_:All2 R as bs) (i:Nat) (a:α),as[i]?=some a→∃ b,bs[i]?=some b∧R a b
  | [],[],_,_,_,e=>by simp at e
  | _ :: _,b :: _,h,0,a,e=>by simp at e; subst e; exact ⟨b,rfl,h.1⟩
  | _ :: as,_ :: bs,h,i+1,a,e=>by simpa using get h.2 i a (by simpa using e)
  | [],_ :: _,h,_,_,_=>h.elim
  | _ :: _,[],h,_,_,_=>h.elim
theorem set:∀ {as:List α} {bs:List β} (_:All2 R as bs) (i:Nat) {a:α} {b:β},R a b→All2 R (as.set i a) (bs.set i b)
  | [],[],_,_,_,_,_=>trivial
  | _ :: _,_ :: _,h,0,_,_,r=>⟨r,h.2⟩
  | _ :: _,_ :: _,h,i+1,_,_,r=>⟨h.1,set h.2 i r⟩
  | [],_ :: _,h,_,_,_,_=>h.elim
  | _ :: _,[],h,_,_,_,_=>h.elim
theorem append:∀ {as:List α} {bs:List β} {cs:List α} {ds:List β},All2 R as bs→All2 R cs ds→All2 R (as++cs) (bs++ds)
  | [],[],_,_,_,h=>h
  | _ :: _,_ :: _,_,_,h,k=>⟨h.1,append h.2 k⟩
  | [],_ :: _,_,_,h,_=>h.elim
  | _ :: _,[],_,_,h,_=>h.elim
theorem drop:∀ {as:List α} {bs:List β} (_:All2 R as bs) (n:Nat),All2 R (as.drop n) (bs.drop n)
  | [],[],_,n=>by simp [All2]
  | _ :: _,_ :: _,h,0=>h
  | _ :: _,_ :: _,h,n+1=>drop h.2 n
  | [],_ :: _,h,_=>h.elim
  | _ :: _,[],h,_=>h.elim
theorem take:∀ {as:List α} {bs:List β} (_:All2 R as bs) (n:Nat),All2 R (as.take n) (bs.take n)
  | [],[],_,n=>by simp [All2]
  | _ :: _,_ :: _,_,0=>trivial
  | _ :: _,_ :: _,h,n+1=>⟨h.1,take h.2 n⟩
  | [],_ :: _,h,_=>h.elim
  | _ :: _,[],h,_=>h.elim
theorem refl {α:Type} {R:α→α→Prop}:∀ {as:List α},(∀ a∈as,R a a)→All2 R as as
  | [],_=>trivial
  | _ :: _,h=>⟨h _ (by simp),refl fun a ha=>h a (by simp [ha])⟩
theorem map2 {γ:Type} {T:α→β→Prop} (f:γ→α) (g:γ→β):∀ {cs:List γ},(∀ c∈cs,T (f c) (g c))→All2 T (cs.map f) (cs.map g)
  | [],_=>trivial
  | _ :: _,h=>⟨h _ (by simp),map2 f g fun c hc=>h c (by simp [hc])⟩
theorem nil_iff {bs:List β}:All2 R [] bs↔bs=[]:=by cases bs <;> simp [All2]
theorem cons_iff {a:α} {as:List α} {bs:List β}:All2 R (a :: as) bs↔∃ b bs',bs=b :: bs'∧R a b∧All2 R as bs':=by
  cases bs with
  | nil=>simp [All2]
  | cons b bs =>
    constructor
    · rintro ⟨h,k⟩; exact ⟨b,bs,rfl,h,k⟩
    · rintro ⟨_,_,e,h,k⟩; injection e with e1 e2; subst e1; subst e2; exact ⟨h,k⟩
end All2
structure Pl where
  block:Nat
  off:Nat
  size:Nat
  esz:Nat
  rw:Bool
abbrev Inj:=List Pl
def RelC0 (φ:Inj) (v v':Value):Prop :=
  match v with
  | .pointer (some a)=>∃ p,φ[a.block]?=some p∧a.spot=none∧v'=.pointer (some ⟨p.block,p.off+a.off,none⟩)
  | .slice (some a) n c=>∃ p c' a',φ[a.block]?=some p∧a.spot=none∧c≤c'∧n≤c'∧v'=.slice (some a') n c' ∧
      ((a'=⟨p.block,p.off+a.off,none⟩∧(p.rw=true→p.off+a.off+c' * p.esz≤p.size))∨(n=0∧c'=0))
  | .slice none n c=>n=0∧c=0∧v'=.slice none 0 0
  | .chan _=>True
  | .agg _ | .tuple _ | .func _ _ _ | .map _ | .iface _ _ | .float _ _ | .complex _ _ _=>False
  | v=>v'=v
def RelC (φ:Inj) (v v':Value):Prop :=
  match v with
  | .func (.func g) f cap=>f=#[]∧∃ cap',v'=.func (.func g) #[] cap'∧All2 (RelC0 φ) cap.toList cap'.toList
  | v=>RelC0 φ v v'
def RelV1 (φ:Inj) (v v':Value):Prop :=
  match v with
  | .agg cs=>∃ cs',v'=.agg cs'∧All2 (RelC φ) cs.toList cs'.toList
  | v=>RelC φ v v'
def RelV (φ:Inj) (v v':Value):Prop :=
  match v with
  | .tuple vs=>∃ vs',v'=.tuple vs'∧All2 (RelV1 φ) vs.toList vs'.toList
  | v=>RelV1 φ v v'
theorem get_pre {φ φ':Inj} (h:φ <+: φ') {o:Nat} {p:Pl} (e:φ[o]?=some p):φ'[o]?=some p:=by
  obtain ⟨t,rfl⟩:=h
  rw [List.getElem?_append_left (List.getElem?_eq_some_iff.1 e).1]
  exact e
theorem RelC0.mono {φ φ':Inj} (h:φ <+: φ') {v v':Value} (r:RelC0 φ v v'):RelC0 φ' v v':=by
  unfold RelC0 at *
  split at r
  · obtain ⟨p,e,s⟩:=r; exact ⟨p,get_pre h e,s⟩
  · obtain ⟨p,c',a',e,s⟩:=r; exact ⟨p,c',a',get_pre h e,s⟩
  all_goals first | exact r | trivial
theorem RelC.mono {φ φ':Inj} (h:φ <+: φ') {v v':Value} (r:RelC φ v v'):RelC φ' v v':=by
  unfold RelC at *
  split at r
  · obtain ⟨e,c,k,s⟩:=r; exact ⟨e,c,k,s.mono fun _ _ x=>x.mono h⟩
  · exact RelC0.mono h r
theorem RelV1.mono {φ φ':Inj} (h:φ <+: φ') {v v':Value} (r:RelV1 φ v v'):RelV1 φ' v v':=by
  unfold RelV1 at *
  split at r
  · obtain ⟨c,k,s⟩:=r; exact ⟨c,k,s.mono fun _ _ x=>x.mono h⟩
  · exact RelC.mono h r
theorem RelV.mono {φ φ':Inj} (h:φ <+: φ') {v v':Value} (r:RelV φ v v'):RelV φ' v v':=by
  unfold RelV at *
  split at r
  · obtain ⟨c,k,s⟩:=r; exact ⟨c,k,s.mono fun _ _ x=>x.mono h⟩
  · exact RelV1.mono h r
theorem relC0_scal {φ:Inj} {v:Value} (h:scal v=true):RelC0 φ v v:=by
  unfold scal at h
  split at h <;> simp_all [RelC0]
theorem relC_scal {φ:Inj} {v:Value} (h:scal v=true):RelC φ v v:=by
  unfold RelC
  split
  · simp [scal] at h
  · exact relC0_scal h
theorem relV1_of {φ:Inj} {v v':Value} (h:RelC φ v v'):RelV1 φ v v':=by
  unfold RelV1
  split
  · simp [RelC,RelC0] at h
  · exact h
theorem relV_of1 {φ:Inj} {v v':Value} (h:RelV1 φ v v'):RelV φ v v':=by
  unfold RelV
  split
  · simp [RelV1,RelC,RelC0] at h
  · exact h
theorem relV_of {φ:Inj} {v v':Value} (h:RelC φ v v'):RelV φ v v':=relV_of1 (relV1_of h)
theorem relV_junk (φ:Inj) (v':Value):RelV φ junk v':=relV_of (by simp [junk,RelC,RelC0])
theorem relV_undef (φ:Inj):RelV φ undef undef:=⟨#[],rfl,trivial⟩
theorem relV_cst {φ:Inj} (v:Value):RelV φ (cst v) v:=by
  unfold cst
  split
  · rename_i cs
    split
    · rename_i h
      exact ⟨cs,rfl,All2.refl fun a ha=>relC_scal (by simpa using (Array.all_eq_true_iff_forall_mem.1 h) a (by simpa using ha))⟩
    · exact relV_junk _ _
  · rename_i cs
    split
    · rename_i h
      obtain rfl:cs=#[]:=by simpa using h
      exact relV_undef φ
    · exact relV_junk _ _
  · split
    · rename_i h
      exact relV_of (relC_scal h)
    · exact relV_junk _ _
theorem relV_ok {φ:Inj} {v v':Value} (h:RelV φ v v') (k:okCell v=true):RelC φ v v'∧v'.cells=#[v']∧v'.oneCell'=true:=by
  have hv:RelC φ v v':=by
    cases v <;> first | exact h | simp [okCell] at k
  refine ⟨hv,?_⟩
  cases v with
  | func fn f c=>cases fn <;> simp [RelC,RelC0] at hv; obtain ⟨_,c',rfl,_⟩:=hv; exact ⟨rfl,rfl⟩
  | pointer a=>cases a <;> simp [RelC,RelC0] at hv; (subst hv; exact ⟨rfl,rfl⟩); (obtain ⟨p,_,_,rfl⟩:=hv; exact ⟨rfl,rfl⟩)
  | slice a n c=>cases a <;> simp [RelC,RelC0] at hv; (obtain ⟨_,_,rfl⟩:=hv; exact ⟨rfl,rfl⟩); (obtain ⟨p,_,_,c',_,_,a',rfl,_⟩:=hv; exact ⟨rfl,rfl⟩)
  | _=>first | (simp [okCell] at k; done) | (simp [RelC,RelC0] at hv; subst hv; exact ⟨rfl,rfl⟩)
theorem relV_cellsO {φ:Inj} {v v':Value} {cs:List Value} (h:RelV φ v v') (k:cellsO v=some cs):All2 (RelC φ) cs v'.cells.toList:=by
  unfold cellsO at k
  split at k
  · obtain ⟨cs',rfl,r⟩:=h
    injection k with k; subst k
    exact r
  · split at k
    · rename_i ok
      injection k with k; subst k
      obtain ⟨r,e,_⟩:=relV_ok h ok
      rw [e]
      exact ⟨r,trivial⟩
    · cases k
theorem okCell_scal {v:Value} (h:scal v=true):okCell v=true:=by
  cases v <;> simp_all [scal,okCell]
theorem relC_one {φ:Inj} {v v':Value} (h:RelC φ v v') (k:okCell v=true):v'.oneCell'=true:=(relV_ok (relV_of h) k).2.2
theorem all_one {φ:Inj}:∀ {vs vs':List Value},All2 (RelC φ) vs vs'→vs.all okCell=true→∀ v∈vs',v.oneCell'=true
  | [],vs',h,_,v,hv=>by rw [All2.nil_iff] at h; subst h; simp at hv
  | a :: as,vs',h,k,v,hv=>by
    obtain ⟨b,bs,rfl,h1,h2⟩:=All2.cons_iff.1 h
    simp only [List.all_cons,Bool.and_eq_true] at k
    rcases List.mem_cons.1 hv with rfl | hv
    · exact relC_one h1 k.1
    · exact all_one h2 k.2 v hv
structure Bd where
  n:Nat
  d:List Nat
def Bd.free (B:Bd) (b:Nat):Prop:=B.n≤b∧b ∉ B.d
structure Kept (B:Bd) (w w':World):Prop where
  below:Below B.n w w'
  more:∀ b∈B.d,w'.heap[b]?=w.heap[b]?
theorem Kept.refl (B:Bd) (w:World):Kept B w w:=⟨Below.refl _ _,fun _ _=>rfl⟩
theorem Kept.trans {B:Bd} {a b c:World} (h:Kept B a b) (k:Kept B b c):Kept B a c:=⟨h.below.trans k.below,fun x hx=>(k.more x hx).trans (h.more x hx)⟩
theorem Kept.setCell {B:Bd} {a w:World} (h:Kept B a w) {p:Addr} (hp:B.free p.block) (u:Value):Kept B a (w.setCell p u) :=
  ⟨h.below.setCell hp.1 u,fun x hx=>(Below.heap_setCell w p u x fun e=>hp.2 (e ▸ hx)).trans (h.more x hx)⟩
structure ObRel (P:Program) (B:Bd) (φ:Inj) (w:World) (ob:Ob) (p:Pl):Prop where
  rw:p.rw=ob.rw
  ok:ob.cells.all okCell=true
  cell:∀ (j:Nat) (v:Value),ob.cells[j]?=some v→∃ v',w.cell? ⟨p.block,p.off+j,none⟩=some v'∧RelC φ v v'
  own:ob.rw=true→B.free p.block∧p.off+ob.cells.length≤p.size ∧
    ∃ cs fr,w.heap[p.block]?=some (.cells cs ob.elem fr)∧cs.size=p.size∧(∀ i,i<p.size→¬ (fr.1≤i∧i<fr.2))
  arg:ob.rw=false→p.block<B.n∨ob.cells=[]
  mark:ob.rw=true→(∀ cs e fr,w.heap[p.block]?=some (.cells cs e fr)→fr.1≤fr.2)∧(intOf' P ob.elem=some .u8∨w.frozen? ⟨p.block,p.size,none⟩=false)
def needTab (P:Program):Bool:=(P.globalNamed "internal/strconv.uint64pow10").isSome
def TabOk (P:Program) (B:Bd) (w0:World):Prop:=needTab P=true→∀ w,Kept B w0 w→Lib.TabIs P w "internal/strconv.uint64pow10" .u64 ((List.range 20).map fun i=>((10 ^ i:Nat):Int))
theorem TabOk.hide {P:Program} {B:Bd} {w0 w1:World} {x:Nat} (h:TabOk P B w0) (k:Kept B w0 w1):TabOk P ⟨B.n,x :: B.d⟩ w1 :=
  fun hn w kw=>h hn w (k.trans ⟨kw.below,fun b hb=>kw.more b (List.mem_cons_of_mem _ hb)⟩)
structure Rel (P:Program) (B:Bd) (w0:World) (φ:Inj) (h:Hp) (w:World):Prop where
  below:Kept B w0 w
  base:B.n≤w0.heap.size∧(∀ b∈B.d,b<w0.heap.size)∧TabOk P B w0
  len:φ.length=h.length
  esz:∀ (o:Nat) (ob:Ob) (p:Pl),h[o]?=some ob→φ[o]?=some p→szOf P ob.elem=some p.esz
  obj:∀ (o:Nat) (ob:Ob) (p:Pl),h[o]?=some ob→φ[o]?=some p→ob.live=true→ObRel P B φ w ob p
  apart:∀ (o o':Nat) (ob ob':Ob) (p p':Pl),h[o]?=some ob→h[o']?=some ob'→φ[o]?=some p→φ[o']?=some p'→ob.live=true→ob'.live=true→ob.rw=true→ob'.rw=true→o≠o'→p.block≠p'.block
section
variable {P:Program} {B:Bd} {w0 w:World} {φ:Inj} {h:Hp}
theorem Rel.pl (R:Rel P B w0 φ h w) {o:Nat} {ob:Ob} (e:h[o]?=some ob):∃ p,φ[o]?=some p:=by
  have:=(List.getElem?_eq_some_iff.1 e).1
  exact ⟨φ[o]'(by rw [R.len]; exact this),List.getElem?_eq_getElem _⟩
theorem cellAt_some {o i:Nat} {v:Value} (e:cellAt h o i=some v):∃ ob,h[o]?=some ob∧ob.live=true∧ob.cells[i]?=some v:=by
  unfold cellAt at e
  split at e
  · rename_i ob hob
    split at e
    · exact ⟨ob,hob,by assumption,e⟩
    · cases e
  · cases e
theorem Rel.cell (R:Rel P B w0 φ h w) {o i:Nat} {v:Value} (e:cellAt h o i=some v) {p:Pl} (hp:φ[o]?=some p):∃ v',w.cell? ⟨p.block,p.off+i,none⟩=some v'∧RelC φ v v':=by
  obtain ⟨ob,ho,hl,hc⟩:=cellAt_some e
  exact (R.obj o ob p ho hp hl).cell i v hc
theorem addr_add (b o n:Nat):(⟨b,o,none⟩:Addr).add n=⟨b,o+n,none⟩:=by
  unfold Addr.add
  split <;> simp_all
theorem run_loadFrom (b o:Nat):∀ (n i:Nat) (acc:Array Value) (vs:List Value),vs.length=n→(∀ j v,vs[j]?=some v→w.cell? ⟨b,o+i+j,none⟩=some v)→(loadCellsFrom ⟨b,o,none⟩ i n acc).run P w=.ok (acc++vs.toArray) w
  | 0,_,acc,vs,hl,_=>by
    obtain rfl:=List.eq_nil_of_length_eq_zero hl
    simp [loadCellsFrom]
  | n+1,i,acc,[],hl,_=>by simp at hl
  | n+1,i,acc,v :: vs,hl,hc=>by
    have h0:=hc 0 v rfl
    simp only [loadCellsFrom,Sem.run_bind,run_load,addr_add]
    rw [show o+i=o+i+0 from rfl,h0]
    simp only [Result.andThen_ok]
    rw [run_loadFrom b o n (i+1) (acc.push v) vs (by simpa using hl) (fun j u hj=>by have:=hc (j+1) u (by simpa using hj); rw [show o+(i+1)+j=o+i+(j+1) by omega]; exact this)]
    simp
theorem Rel.cells (R:Rel P B w0 φ h w) {o:Nat} {p:Pl} (hp:φ[o]?=some p):∀ (n i:Nat) (vs:List Value),cellsAt h o i n=some vs→∃ vs',vs'.length=n∧(∀ j v,vs'[j]?=some v→w.cell? ⟨p.block,p.off+i+j,none⟩=some v)∧All2 (RelC φ) vs vs'
  | 0,i,vs,e=>by
    injection e with e; subst e
    exact ⟨[],rfl,fun j v hj=>by simp at hj,trivial⟩
  | n+1,i,vs,e=>by
    simp only [cellsAt,Option.bind_eq_some_iff,Option.map_eq_some_iff] at e
    obtain ⟨v,hv,us,hus,rfl⟩:=e
    obtain ⟨v',h1,h2⟩:=R.cell hv hp
    obtain ⟨us',k1,k2,k3⟩:=R.cells hp n (i+1) us hus
    refine ⟨v' :: us',by simp [k1],fun j u hj=>?_,h2,k3⟩
    cases j with
    | zero=>simp at hj; subst hj; exact h1
    | succ j=>have:=k2 j u (by simpa using hj); rw [show p.off+i+(j+1)=p.off+(i+1)+j by omega]; exact this
theorem Rel.run_load (R:Rel P B w0 φ h w) {o:Nat} {p:Pl} (hp:φ[o]?=some p) {n i:Nat} {vs:List Value} (e:cellsAt h o i n=some vs):∃ vs',(loadCells ⟨p.block,p.off+i,none⟩ n).run P w=.ok vs'.toArray w∧All2 (RelC φ) vs vs':=by
  obtain ⟨vs',k1,k2,k3⟩:=R.cells hp n i vs e
  refine ⟨vs',?_,k3⟩
  unfold loadCells
  rw [run_loadFrom p.block (p.off+i) n 0 #[] vs' k1 (fun j v hj=>k2 j v hj)]
  simp
end
end Go.Proofs.Ytmpgpkdijfcfhaa.Hz
namespace Go.Proofs.Ytmpgpkdijfcfhaa.Hz
open Go.RowKit
set_option linter.unusedVariables false
set_option linter.unusedSimpArgs false
section
variable {P:Program} {φ:Inj}
theorem relTm_ev {tm:List Value} {tmps:Array Value} (h:All2 (RelV φ) tm tmps.toList) (d:List Deferred) (x:Operand):RelV φ (ev tm x) ((⟨tmps,d⟩:Act).eval x):=by
  cases x with
  | tmp t =>
    simp only [ev,Act.eval]
    cases e:tm[t]? with
    | none =>
      have hl:=h.length
      have:tmps[t]?=none:=by
        rw [List.getElem?_eq_none_iff] at e
        rw [Array.getElem?_eq_none_iff]
        rw [hl] at e
        simpa using e
      simp [Array.getD_eq_getD_getElem?,this,relV_undef]
    | some v =>
      obtain ⟨v',k,r⟩:=h.get t v e
      have:tmps[t]?=some v':=by simpa using k
      simp [Array.getD_eq_getD_getElem?,this,r]
  | const v=>exact relV_cst v
  | global g=>exact relV_junk _ _
  | func f=>exact relV_of (v:=.func (.func f) #[] #[]) ⟨rfl,#[],rfl,trivial⟩
theorem und {t:TypeId} {d:TypeDesc} (h:P.underlying t=some d) (w:World):(underlying t).run P w=.ok d w:=by simp [underlying,h]
theorem szR {t:TypeId} {n:Nat} (h:szOf P t=some n) (w:World):(sizeOf t).run P w=.ok n w:=by
  simp only [szOf,Option.map_eq_some_iff] at h
  obtain ⟨i,hi,rfl⟩:=h
  simp [sizeOf,typeInfo,hi]
theorem zeroR {t:TypeId} {z:Value} (h:zeroOf P t=some z) (w:World):(zeroValue t).run P w=.ok z w:=by
  simp only [zeroOf,Option.bind_eq_some_iff] at h
  obtain ⟨i,hi,hz⟩:=h
  simp [zeroValue,typeInfo,hi,hz]
theorem aggR {t:TypeId} {b:Bool} (h:aggOf P t=some b) (w:World):(isAgg t).run P w=.ok b w:=by
  simp only [aggOf,Option.map_eq_some_iff] at h
  obtain ⟨d,hd,rfl⟩:=h
  simp only [isAgg,Sem.run_bind,und hd,Result.andThen_ok]
  cases d <;> rfl
theorem elemR {t e:TypeId} (h:elemOf P t=some e):P.underlying t=some (.slice e):=by
  unfold elemOf at h
  split at h
  · rename_i e' he; injection h with h; subst h; exact he
  · cases h
theorem strR {t:TypeId} (h:strOf P t=true):P.underlying t=some .string:=by
  unfold strOf at h
  split at h
  · assumption
  · cases h
theorem intR {t:TypeId} {k:IntKind} (h:intOf' P t=some k):P.underlying t=some (.int k):=by
  unfold intOf' at h
  split at h
  · rename_i e' he; injection h with h; subst h; exact he
  · cases h
theorem sliceR {t:TypeId} (h:isSlice P t=true):∃ e,P.underlying t=some (.slice e):=by
  unfold isSlice at h
  split at h
  · exact ⟨_,by assumption⟩
  · cases h
theorem boolR {t:TypeId} (h:isBool P t=true):P.underlying t=some .bool:=by
  unfold isBool at h
  split at h
  · assumption
  · cases h
theorem fldR {t:TypeId} {f off:Nat} {ft:TypeId} (h:fldOf P t f=some (off,ft)):∃ fs x,P.underlying t=some (.struct fs)∧fs[f]?=some x∧x.offset=off∧x.type=ft:=by
  unfold fldOf at h
  split at h
  · rename_i fs hfs
    simp only [Option.map_eq_some_iff,Prod.mk.injEq] at h
    obtain ⟨x,hx,h1,h2⟩:=h
    exact ⟨fs,x,hfs,hx,h1,h2⟩
  · cases h
theorem rInt {k:IntKind} {n:Int} {v':Value} (h:RelV φ (.int k n) v'):v'=.int k n:=h
theorem rBool {b:Bool} {v':Value} (h:RelV φ (.bool b) v'):v'=.bool b:=h
theorem rStr {s:ByteArray} {v':Value} (h:RelV φ (.string s) v'):v'=.string s:=h
theorem mkV {v:Value} (h:scal v=true):RelV φ v v:=relV_of (relC_scal h)
theorem rel_eqCell {k:Sc} {a b a' b':Value} {x:Bool} (e:eqCell k a b=some x) (ha:RelC φ a a') (hb:RelC φ b b'):a'=a∧b'=b:=by
  unfold eqCell at e
  split at e
  all_goals first | (cases e; done) | exact ⟨ha,hb⟩
theorem rel_eqCells:∀ {ks:List Sc} {xs ys xs' ys':List Value} {b:Bool},eqCells ks xs ys=some b→All2 (RelC φ) xs xs'→All2 (RelC φ) ys ys'→eqCells ks xs' ys'=some b
  | [],[],[],xs',ys',b,e,hx,hy=>by
    rw [All2.nil_iff] at hx hy; subst hx; subst hy; exact e
  | k :: ks,a :: as,c :: cs,xs',ys',b,e,hx,hy=>by
    obtain ⟨a',as',rfl,h1,h2⟩:=All2.cons_iff.1 hx
    obtain ⟨c',cs',rfl,k1,k2⟩:=All2.cons_iff.1 hy
    simp only [eqCells,Option.bind_eq_some_iff,Option.map_eq_some_iff] at e ⊢
    obtain ⟨x,ex,y,ey,rfl⟩:=e
    obtain ⟨rfl,rfl⟩:=rel_eqCell ex h1 k1
    exact ⟨x,ex,y,rel_eqCells ey h2 k2,rfl⟩
  | [],_ :: _,_,_,_,_,e,_,_=>by simp [eqCells] at e
  | [],[],_ :: _,_,_,_,e,_,_=>by simp [eqCells] at e
  | _ :: _,[],_,_,_,_,e,_,_=>by simp [eqCells] at e
  | _ :: _,_ :: _,[],_,_,_,e,_,_=>by simp [eqCells] at e
theorem scOf_agg {t:TypeId} {k:Sc} (ht:scOf P t=some k):aggOf P t=some false:=by
  unfold scOf at ht
  unfold aggOf
  split at ht <;> first | (rename_i hh; rw [hh]; rfl) | cases ht
theorem part_scal {t:TypeId} {k:Sc} (ht:scOf P t=some k) {cs:Array Value} {i:Nat} {v:Value} (hv:cs[i]?=some v) (w:World):(part t cs i).run P w=.ok v w:=by
  simp [part,aggR (scOf_agg ht),hv]
theorem equal_scal {t:TypeId} {k:Sc} (ht:scOf P t=some k) {a b:Value} {x:Bool} (h:eqCell k a b=some x) (d:Nat) (w:World):(Op.equalIn (d+1) t a b).run P w=.ok x w:=by
  unfold scOf at ht
  split at ht
  all_goals first | (cases ht; done) | skip
  all_goals (injection ht with ht; subst ht; rename_i hu)
  all_goals (unfold eqCell at h; split at h; all_goals first | (cases h; done) | skip)
  all_goals (try contradiction)
  · injection h with h; subst h; exact run_equalIn_bool' w d t _ _ hu
  · split at h
    · rename_i hk; injection h with h; subst h; subst hk; exact run_equalIn_int w d t _ _ _ _ hu
    · cases h
  · injection h with h; subst h; exact run_equalIn_string w d t _ _ hu
theorem eqFields_run (d:Nat) (xs ys:Array Value) (w:World):∀ (fs:List Field) (i:Nat) (ks:List Sc) (as bs:List Value) (b:Bool),ksOf P fs i=some ks→eqCells ks as bs=some b→xs.toList.drop i=as→ys.toList.drop i=bs→(Op.eqFields (d+1) xs ys fs).run P w=.ok b w
  | [],i,ks,as,bs,b,hk,he,_,_=>by
    injection hk with hk; subst hk
    cases as <;> cases bs <;> simp [eqCells] at he
    subst he; rfl
  | f :: fs,i,ks,as,bs,b,hk,he,hx,hy=>by
    simp only [ksOf] at hk
    split at hk
    · rename_i hf
      simp only [Option.bind_eq_some_iff,Option.map_eq_some_iff] at hk
      obtain ⟨k,k1,ks',k2,rfl⟩:=hk
      cases as with
      | nil=>cases bs <;> simp [eqCells] at he
      | cons a as =>
      cases bs with
      | nil=>simp [eqCells] at he
      | cons c bs =>
      simp only [eqCells,Option.bind_eq_some_iff,Option.map_eq_some_iff] at he
      obtain ⟨x,ex,y,ey,rfl⟩:=he
      have ha:xs[i]?=some a:=by
        have:=congrArg (fun l=>l[0]?) hx
        simpa using this
      have hc:ys[i]?=some c:=by
        have:=congrArg (fun l=>l[0]?) hy
        simpa using this
      have hx':xs.toList.drop (i+1)=as:=by
        have:=congrArg (List.drop 1) hx
        simpa [List.drop_drop,Nat.add_comm] using this
      have hy':ys.toList.drop (i+1)=bs:=by
        have:=congrArg (List.drop 1) hy
        simpa [List.drop_drop,Nat.add_comm] using this
      simp only [Op.eqFields,if_pos hf.1,Sem.run_bind,hf.2,part_scal k1 ha,part_scal k1 hc,Result.andThen_ok,equal_scal k1 ex,Sem.run_ite,Sem.run_pure,eqFields_run d xs ys w fs (i+1) ks' as bs y k2 ey hx' hy']
      cases x <;> simp
    · cases hk
theorem eqKs_spec {t:TypeId} {ks:List Sc} (h:eqKs P t=some ks):P.eqGuardType P.depth t=false∧P.stoodInHeld t=false∧∃ fs,P.underlying t=some (.struct fs)∧ksOf P fs.toList 0=some ks:=by
  unfold eqKs at h
  split at h
  · rename_i hg
    simp only [Bool.and_eq_true,Bool.not_eq_true'] at hg
    split at h
    · rename_i fs hfs; exact ⟨hg.1,hg.2,fs,hfs,h⟩
    · cases h
  · cases h
theorem run_eqStruct {t:TypeId} {ks:List Sc} (h:eqKs P t=some ks) {xs ys:Array Value} {b:Bool} (he:eqCells ks xs.toList ys.toList=some b) (w:World):(Op.equalIn 10000 t (.agg xs) (.agg ys)).run P w=.ok b w:=by
  obtain ⟨_,h2,fs,hu,hk⟩:=eqKs_spec h
  have hf:P.fieldsOf t=fs:=by simp [Program.fieldsOf,hu]
  rw [show (10000:Nat)=9999+1 from rfl,run_equalIn_struct w 9999 t xs ys (by rw [hf]; exact hu) h2,hf,show (9999:Nat)=9998+1 from rfl]
  exact eqFields_run 9998 xs ys w fs.toList 0 ks _ _ b hk he rfl rfl
def Q1 (P:Program) (φ:Inj) (s:Sem Value) (v:Value):Prop:=∃ v',(∀ w,s.run P w=.ok v' w)∧RelV φ v v'
theorem q_eqGuard (op:BinOp) (t:TypeId) (x y:Operand) {a b:Value} (h:(∀ p,a≠.agg p)∨P.eqGuardType P.depth t=false) (h':a≠.nilIface) (w:World):(eqGuard op t x y a b).run P w=.ok () w:=by
  cases a with
  | nilIface=>exact absurd rfl h'
  | agg p =>
    rcases h with h | h
    · exact absurd rfl (h p)
    · cases b with
      | agg q=>exact run_eqGuard_agg w op t x y p q h
      | _=>cases op <;> rfl
  | _=>cases op <;> rfl
theorem eq_slice_nil (d:Nat) {t el:TypeId} (hel:P.underlying t=some (.slice el)) (a:Option Addr) (n c:Nat) (w:World):(Op.equalIn (d+1) t (.slice a n c) (.slice none 0 0)).run P w=.ok a.isNone w:=by
  cases a <;> simp [Op.equalIn,und hel]
theorem q_bin {op:BinOp} {t:TypeId} {x y v x' y':Value} (e:abin P op t x y=some v) (hx:RelV φ x x') (hy:RelV φ y y') (xo yo:Operand):Q1 P φ (do eqGuard op t xo yo x' y'; binOp op t x' y') v:=by
  unfold abin at e
  split at e
  · obtain rfl:=rInt hx; obtain rfl:=rInt hy
    rename_i k a k' b
    have hg:=fun w=>q_eqGuard (P:=P) op t xo yo (a:=.int k a) (b:=.int k' b) (.inl (by simp)) (by simp) w
    split at e
    · split at e
      · cases e
      · rename_i hb; injection e with e; subst e
        exact ⟨_,fun w=>by simp only [Sem.run_bind,hg,Result.andThen_ok,binOp,Op.shift,if_neg hb]; rfl,mkV rfl⟩
    · split at e
      · cases e
      · rename_i hb; injection e with e; subst e
        exact ⟨_,fun w=>by simp only [Sem.run_bind,hg,Result.andThen_ok,binOp,Op.shift,if_neg hb]; rfl,mkV rfl⟩
    · rename_i h1 h2
      split at e
      · cases e
      · rename_i hk
        have hk':k=k':=Decidable.of_not_not hk
        subst hk'
        split at e
        all_goals first | (cases e; done) | skip
        all_goals first | (injection e with e; subst e; exact ⟨_,fun w=>by simp only [Sem.run_bind,hg,Result.andThen_ok]; simp [binOp,Op.intArith,Op.intCmp,Op.intBits]; try rfl,mkV rfl⟩) | (split at e <;> first | (cases e; done) | (rename_i hb; injection e with e; subst e; exact ⟨_,fun w=>by simp only [Sem.run_bind,hg,Result.andThen_ok]; simp [binOp,Op.intDiv,hb]; try rfl,mkV rfl⟩))
  · obtain rfl:=rStr hx; obtain rfl:=rStr hy
    rename_i a b
    have hg:=fun w=>q_eqGuard (P:=P) op t xo yo (a:=.string a) (b:=.string b) (.inl (by simp)) (by simp) w
    split at e
    all_goals first | (cases e; done) | skip
    · split at e
      · rename_i hs; injection e with e; subst e
        refine ⟨_,fun w=>?_,mkV rfl⟩
        have:¬ (((a.size+b.size:Nat):Int) > IntKind.i64.max):=by
          have:IntKind.i64.max=9223372036854775807:=by decide
          rw [this]; omega
        simp only [Sem.run_bind,hg,Result.andThen_ok,binOp,Op.stringOp,if_neg this]
        rfl
      · cases e
    all_goals (injection e with e; subst e; exact ⟨_,fun w=>by simp only [Sem.run_bind,hg,Result.andThen_ok,binOp,Op.stringOp]; rfl,mkV rfl⟩)
  · obtain rfl:=rBool hx; obtain rfl:=rBool hy
    rename_i a b
    have hg:=fun w=>q_eqGuard (P:=P) op t xo yo (a:=.bool a) (b:=.bool b) (.inl (by simp)) (by simp) w
    split at e
    · rename_i hb
      have hr:=fun w=>run_equalIn_bool' (P:=P) w 9999 t a b (boolR hb)
      split at e
      all_goals first | (cases e; done) | skip
      all_goals (injection e with e; subst e; exact ⟨_,fun w=>by simp only [Sem.run_bind,hg,Result.andThen_ok,binOp,Op.equal,Op.maxDepth,hr,Sem.run_pure],mkV rfl⟩)
    · cases e
  · rename_i a n c
    have hy':y'=.slice none 0 0:=hy.2.2
    subst hy'
    split at e
    · rename_i hs
      obtain ⟨el,hel⟩:=sliceR hs
      have key:∃ x'',x'=x''∧(∀ w,(Op.equalIn 10000 t x' (.slice none 0 0)).run P w=.ok a.isNone w)∧(∀ p,x'≠.agg p)∧x'≠.nilIface:=by
        cases a with
        | none =>
          obtain ⟨_,_,rfl⟩:=hx
          exact ⟨_,rfl,fun w=>eq_slice_nil 9999 hel _ _ _ w,by simp,by simp⟩
        | some a =>
          obtain ⟨p,c',a',_,_,_,_,rfl,_⟩:=hx
          exact ⟨_,rfl,fun w=>eq_slice_nil 9999 hel _ _ _ w,by simp,by simp⟩
      obtain ⟨_,_,hr,ha,hn⟩:=key
      have hg:=fun w=>q_eqGuard (P:=P) op t xo yo (a:=x') (b:=.slice none 0 0) (.inl ha) hn w
      have hbin:∀ w,(binOp .eql t x' (.slice none 0 0)).run P w=.ok (.bool a.isNone) w∧(binOp .neq t x' (.slice none 0 0)).run P w=.ok (.bool !a.isNone) w:=by
        intro w
        cases a with
        | none=>obtain ⟨_,_,rfl⟩:=hx; simp only [binOp,Op.equal,Op.maxDepth,Sem.run_bind,hr,Result.andThen_ok,Sem.run_pure,and_self]
        | some a=>obtain ⟨p,c',a',_,_,_,_,rfl,_⟩:=hx; simp only [binOp,Op.equal,Op.maxDepth,Sem.run_bind,hr,Result.andThen_ok,Sem.run_pure,and_self]
      split at e
      all_goals first | (cases e; done) | skip
      · injection e with e; subst e; exact ⟨_,fun w=>by simp only [Sem.run_bind,hg,Result.andThen_ok,(hbin w).1],mkV rfl⟩
      · injection e with e; subst e; exact ⟨_,fun w=>by simp only [Sem.run_bind,hg,Result.andThen_ok,(hbin w).2],mkV rfl⟩
    · cases e
  · rename_i xs ys
    obtain ⟨xs',rfl,rx⟩:=hx
    obtain ⟨ys',rfl,ry⟩:=hy
    simp only [Option.bind_eq_some_iff] at e
    obtain ⟨ks,hks,e⟩:=e
    obtain ⟨h1,_,_⟩:=eqKs_spec hks
    have hg:=fun w=>q_eqGuard (P:=P) op t xo yo (a:=.agg xs') (b:=.agg ys') (.inr h1) (by simp) w
    split at e
    all_goals first | (cases e; done) | skip
    all_goals (simp only [Option.map_eq_some_iff] at e; obtain ⟨b,he,rfl⟩:=e)
    · exact ⟨_,fun w=>by simp only [Sem.run_bind,hg,Result.andThen_ok,run_eql_struct,run_eqStruct hks (rel_eqCells he rx ry)],mkV rfl⟩
    · exact ⟨_,fun w=>by simp only [Sem.run_bind,hg,Result.andThen_ok,run_neq_struct,run_eqStruct hks (rel_eqCells he rx ry)],mkV rfl⟩
  · cases e
end
section
variable {P:Program} {φ:Inj}
theorem foldl_setL (off:Nat):∀ (l:List Value) (k:Nat) (cells:Array Value),((l.zipIdx k).foldl (fun (cs:Array Value) (x:Value × Nat)=>cs.setIfInBounds (off+x.2) x.1) cells).toList=setL cells.toList (off+k) l
  | [],k,cells=>rfl
  | v :: vs,k,cells=>by
    simp only [List.zipIdx_cons,List.foldl_cons,setL]
    rw [foldl_setL off vs (k+1)]
    simp [Nat.add_assoc]
theorem zipFold (off:Nat) (vs cells:Array Value):(vs.zipIdx.foldl (fun (cs:Array Value) (x:Value × Nat)=>cs.setIfInBounds (off+x.2) x.1) cells).toList=setL cells.toList off vs.toList:=by
  rw [← Array.foldl_toList,Array.toList_zipIdx]
  exact foldl_setL off vs.toList 0 cells
theorem rel_setL:∀ {vs vs' cs cs':List Value} (off:Nat),All2 (RelC φ) vs vs'→All2 (RelC φ) cs cs'→All2 (RelC φ) (setL cs off vs) (setL cs' off vs')
  | [],[],_,_,_,_,h=>h
  | _ :: _,_ :: _,_,_,off,h,k=>rel_setL (off+1) h.2 (k.set off h.1)
  | [],_ :: _,_,_,_,h,_=>h.elim
  | _ :: _,[],_,_,_,h,_=>h.elim
theorem rel_fill {place:Nat→Option (Nat × Nat)}:∀ {parts:List (Nat × Value)} {parts':List (Nat × Value)} {cs cs2:List Value} {cells:Array Value},
    All2 (fun p q=>p.1=q.1∧RelV φ p.2 q.2) parts parts'→All2 (RelC φ) cs cells.toList→fillL place cs parts=some cs2→∃ cells2,Instr.fill place cells parts'=some cells2∧All2 (RelC φ) cs2 cells2.toList
  | [],[],cs,cs2,cells,_,h,e=>by
    injection e with e; subst e
    exact ⟨cells,rfl,h⟩
  | (i,v) :: ps,(i',v') :: qs,cs,cs2,cells,hp,h,e=>by
    obtain ⟨⟨hi,hv⟩,hr⟩:=hp
    simp only at hi hv
    subst hi
    simp only [fillL] at e
    split at e
    · cases e
    · rename_i off size hpl
      simp only [Option.bind_eq_some_iff] at e
      obtain ⟨vs,hvs,e⟩:=e
      split at e
      · rename_i hc
        have r:=relV_cellsO hv hvs
        have l1:=r.length
        have l2:=h.length
        simp only [Array.length_toList] at l1 l2
        simp only [Instr.fill,hpl]
        rw [if_neg (by simp; omega)]
        exact rel_fill hr (by rw [zipFold]; exact rel_setL off r h) e
      · cases e
  | [],_ :: _,_,_,_,h,_,_=>h.elim
  | _ :: _,[],_,_,_,h,_,_=>h.elim
theorem rel_zero {z:Value} (h:(cellsL z).all scal=true):All2 (RelC φ) (cellsL z) z.cells.toList:=by
  have:z.cells.toList=cellsL z:=by cases z <;> rfl
  rw [this]
  exact All2.refl fun a ha=>relC_scal (by simpa using List.all_eq_true.1 h a ha)
def RO (φ:Inj) (x x':Option Value):Prop:=match x,x' with | none,none=>True | some v,some v'=>RelV φ v v' | _,_=>False
theorem RO.map {ρ ρ':Operand→Value} (hρ:∀ x,RelV φ (ρ x) (ρ' x)) (o:Option Operand):RO φ (o.map ρ) (o.map ρ'):=by cases o <;> simp [RO,hρ]
theorem q_bound {x:Option Value} {x':Option Value} {d i:Int} (e:bound d x=some i) (r:RO φ x x') :
    (x=none∧x'=none∧i=d)∨(∃ k,x=some (.int k i)∧x'=some (.int k i)):=by
  cases x with
  | none=>cases x' with
    | none=>injection e with e; exact .inl ⟨rfl,rfl,e.symm⟩
    | some _=>exact r.elim
  | some v=>cases x' with
    | none=>exact r.elim
    | some v' =>
      unfold bound at e
      split at e
      · rename_i h; cases h
      · rename_i k j h; injection h with h; subst h; injection e with e; subst e
        exact .inr ⟨k,rfl,by rw [rInt (φ:=φ) r]⟩
      · cases e
theorem sBound {k:IntKind} {i:Int} {y:Nat} {code:BoundsCode} (h0:0≤i) (h1:i≤y) (w:World):(Instr.sliceBound (.int k i) y code).run P w=.ok i.toNat w:=by
  simp [Instr.sliceBound,asIntOf,h0,h1]
theorem q_bounds {b:Bool} {n c:Nat} {lo hi lo' hi':Option Value} {l h:Int}
    (hl:(lo=none∧lo'=none∧l=0)∨(∃ k,lo=some (.int k l)∧lo'=some (.int k l))) (hh:(hi=none∧hi'=none∧h=n)∨(∃ k,hi=some (.int k h)∧hi'=some (.int k h)))
    (h1:0≤l) (h2:l≤h) (h3:h≤c) (w:World):(Instr.sliceBounds b n c lo' hi' none).run P w=.ok (l.toNat,h.toNat,c) w:=by
  unfold Instr.sliceBounds
  rcases hh with ⟨rfl,rfl,rfl⟩ | ⟨kh,rfl,rfl⟩ <;> rcases hl with ⟨rfl,rfl,rfl⟩ | ⟨kl,rfl,rfl⟩
  · simp
  · simp [sBound h1 h2]
  · simp [sBound (show (0:Int)≤h by omega) h3]
  · simp [sBound (show (0:Int)≤h by omega) h3,sBound h1 (show l≤(h.toNat:Int) by omega)]
theorem q_bounds3 {b:Bool} {n c:Nat} {lo hi lo' hi':Option Value} {l h m:Int} {km:IntKind}
    (hl:(lo=none∧lo'=none∧l=0)∨(∃ k,lo=some (.int k l)∧lo'=some (.int k l))) (hh:∃ k,hi=some (.int k h)∧hi'=some (.int k h))
    (h1:0≤l) (h2:l≤h) (h3:h≤m) (h4:m≤c) (w:World):(Instr.sliceBounds b n c lo' hi' (some (.int km m))).run P w=.ok (l.toNat,h.toNat,m.toNat) w:=by
  unfold Instr.sliceBounds
  obtain ⟨kh,rfl,rfl⟩:=hh
  rcases hl with ⟨rfl,rfl,rfl⟩ | ⟨kl,rfl,rfl⟩
  · simp [sBound (show (0:Int)≤m by omega) h4,sBound (show (0:Int)≤h by omega) (show h≤(m.toNat:Int) by omega)]
  · simp [sBound (show (0:Int)≤m by omega) h4,sBound (show (0:Int)≤h by omega) (show h≤(m.toNat:Int) by omega),sBound h1 (show l≤(h.toNat:Int) by omega)]
theorem sliceAt_eq {t:TypeId} {d:TypeDesc} (h:P.underlying t=some d) (hd:∀ n e,d≠.array n e) (x:Value) (lo hi mx:Option Value) (w:World):(Instr.sliceAt t x lo hi mx).run P w=(Instr.slice t x lo hi mx).run P w:=by
  unfold Instr.sliceAt
  simp only [Sem.run_bind,und h,Result.andThen_ok]
  all_goals (cases d <;> first | rfl | exact absurd rfl (hd _ _))
theorem none_of {x':Option Value} (h:RO φ none x'):x'=none:=by cases x' <;> simp_all [RO]
theorem q_slice {t:TypeId} {x v x':Value} {lo hi mx lo' hi' mx':Option Value} (e:asl P t x lo hi mx=some v) (hx:RelV φ x x') (hlo:RO φ lo lo') (hhi:RO φ hi hi') (hmx:RO φ mx mx'):Q1 P φ (Instr.sliceAt t x' lo' hi' mx') v:=by
  unfold asl at e
  split at e
  · obtain rfl:=rStr hx
    rename_i s
    split at e
    · cases e
    · rename_i hs
      simp only [Bool.or_eq_true,Bool.not_eq_true',not_or,Bool.not_eq_false,Bool.not_eq_true] at hs
      have hmx0:mx=none:=by cases mx <;> simp_all
      subst hmx0
      obtain rfl:=none_of hmx
      simp only [Option.bind_eq_some_iff] at e
      obtain ⟨l,el,h,eh,e⟩:=e
      split at e
      · rename_i hc
        injection e with e; subst e
        refine ⟨_,fun w=>?_,mkV rfl⟩
        rw [sliceAt_eq (strR hs.1) (by simp)]
        unfold Instr.slice
        simp only [Sem.run_bind,und (strR hs.1),Result.andThen_ok,Option.isSome_none,Bool.false_eq_true,if_false,Sem.run_pure,q_bounds (b:=false) (q_bound el hlo) (q_bound eh hhi) hc.1 hc.2.1 hc.2.2]
      · cases e
  · obtain ⟨_,_,rfl⟩:=hx
    simp only [Option.bind_eq_some_iff] at e
    obtain ⟨el,hel,sz,hsz,l,el',h,eh,e⟩:=e
    have hu:=elemR hel
    split at e
    · rename_i hc
      obtain ⟨rfl,rfl,hmn⟩:=hc
      have hmx0:mx=none:=by cases mx <;> simp_all
      subst hmx0
      obtain rfl:=none_of hmx
      injection e with e; subst e
      refine ⟨_,fun w=>?_,mkV rfl⟩
      rw [sliceAt_eq hu (by simp)]
      unfold Instr.slice
      have hb:=q_bounds (P:=P) (b:=true) (n:=0) (c:=0) (q_bound el' hlo) (q_bound eh hhi) (Int.le_refl 0) (Int.le_refl 0) (Int.le_refl 0) w
      simp only [Sem.run_bind,und hu,Result.andThen_ok,hb,szR hsz,Sem.run_pure]
      simp
    · cases e
  · cases e
theorem slice_cap {off c l sz size:Nat} (h:off+c * sz≤size) (hl:l≤c):off+l * sz+(c - l) * sz≤size:=by
  have:l * sz+(c - l) * sz=c * sz:=by rw [← Nat.add_mul]; congr 1; omega
  omega
theorem q_slice2 {B:Bd} {w0 w:World} {h:Hp} (R:Rel P B w0 φ h w) {t:TypeId} {x v x':Value} {lo hi mx lo' hi' mx':Option Value} (e:asl2 P h t x lo hi mx=some v) (hx:RelV φ x x') (hlo:RO φ lo lo') (hhi:RO φ hi hi') (hmx:RO φ mx mx'):Q1 P φ (Instr.sliceAt t x' lo' hi' mx') v:=by
  unfold asl2 at e
  split at e
  · rename_i a n c
    obtain ⟨p,c',a',hp,hsp,hcc,hnc,rfl,hor⟩:=hx
    simp only [Option.bind_eq_some_iff] at e
    obtain ⟨el,hel,sz,hsz,e⟩:=e
    split at e
    · rename_i hea
      simp only [elAt,Option.map_eq_some_iff] at hea
      obtain ⟨ob,hob,rfl⟩:=hea
      have hz:=R.esz _ ob p hob hp
      rw [hsz] at hz
      injection hz with hz
      simp only [Option.bind_eq_some_iff] at e
      obtain ⟨l,el',h,eh,e⟩:=e
      have hu:=elemR hel
      split at e
      · obtain rfl:=none_of hmx
        split at e
        · rename_i hc
          injection e with e; subst e
          have hh:h≤(c':Int):=by omega
          refine ⟨.slice (if c'=l.toNat then some a' else some (a'.add (l.toNat * sz))) (h.toNat - l.toNat) (c' - l.toNat),fun w=>?_,?_⟩
          · rw [sliceAt_eq hu (by simp)]
            unfold Instr.slice
            simp only [Sem.run_bind,und hu,Result.andThen_ok,q_bounds (b:=true) (q_bound el' hlo) (q_bound eh hhi) hc.1 hc.2.1 hh,szR hsz,Sem.run_pure]
            simp
          · refine ⟨p,c' - l.toNat,if c'=l.toNat then a' else a'.add (l.toNat * sz),hp,rfl,by omega,by omega,by split <;> rfl,?_⟩
            by_cases hcl:c'=l.toNat
            · right; omega
            · rcases hor with ⟨rfl,hcap⟩ | ⟨h1,h2⟩
              · left
                rw [if_neg hcl,addr_add]
                refine ⟨by simp [Nat.add_assoc],fun hr=>?_⟩
                subst hz
                have:=slice_cap (l:=l.toNat) (hcap hr) (by omega)
                simpa [Nat.add_assoc] using this
              · omega
        · cases e
      · rename_i km m
        have hm':mx'=some (.int km m):=by
          cases mx' with
          | none=>exact hmx.elim
          | some v=>rw [rInt (φ:=φ) hmx]
        subst hm'
        split at e
        · rename_i hc
          injection e with e; subst e
          have hh:m≤(c':Int):=by omega
          have hhi':∃ k,hi=some (.int k h)∧hi'=some (.int k h):=by
            rcases q_bound eh hhi with ⟨rfl,_⟩ | h
            · simp at hc
            · exact h
          refine ⟨.slice (if m.toNat=l.toNat then some a' else some (a'.add (l.toNat * sz))) (h.toNat - l.toNat) (m.toNat - l.toNat),fun w=>?_,?_⟩
          · rw [sliceAt_eq hu (by simp)]
            unfold Instr.slice
            simp only [Sem.run_bind,und hu,Result.andThen_ok,q_bounds3 (b:=true) (q_bound el' hlo) hhi' hc.2.1 hc.2.2.1 hc.2.2.2.1 hh,szR hsz,Sem.run_pure]
            simp
          · refine ⟨p,m.toNat - l.toNat,if m.toNat=l.toNat then a' else a'.add (l.toNat * sz),hp,rfl,by omega,by omega,by split <;> rfl,?_⟩
            by_cases hcl:m.toNat=l.toNat
            · right; omega
            · rcases hor with ⟨rfl,hcap⟩ | ⟨h1,h2⟩
              · left
                rw [if_neg hcl,addr_add]
                refine ⟨by simp [Nat.add_assoc],fun hr=>?_⟩
                subst hz
                have h3:=slice_cap (l:=l.toNat) (hcap hr) (by omega)
                have h4:(m.toNat - l.toNat) * p.esz≤(c' - l.toNat) * p.esz:=Nat.mul_le_mul_right _ (by omega)
                simp only [Nat.add_assoc] at h3 ⊢
                omega
              · omega
        · cases e
      · cases e
    · cases e
  · exact q_slice e hx hlo hhi hmx
theorem q_index {t:TypeId} {x i v x' i':Value} (e:aidx P t x i=some v) (hx:RelV φ x x') (hi:RelV φ i i'):Q1 P φ (Instr.indexAt t x' i') v:=by
  unfold aidx at e
  split at e
  · obtain ⟨p,c',a',hp,hsp,hcc,hnc,rfl,hor⟩:=hx
    obtain rfl:=rInt (φ:=φ) hi
    simp only [Option.bind_eq_some_iff] at e
    obtain ⟨el,hel,sz,hsz,e⟩:=e
    split at e
    · rename_i hc
      injection e with e; subst e
      have hu:=elemR hel
      rcases hor with ⟨rfl,_⟩ | ⟨h1,_⟩
      · refine ⟨_,fun w=>?_,relV_of ⟨p,hp,rfl,rfl⟩⟩
        simp only [Instr.indexAt,asIntOf,Sem.run_bind,Sem.run_pure,Result.andThen_ok,und hu,if_pos hc,szR hsz,addr_add]
        simp [Nat.add_assoc]
      · omega
    · cases e
  · cases e
theorem q_str {t:TypeId} {x i v x' i':Value} (e:astr P t x i=some v) (hx:RelV φ x x') (hi:RelV φ i i'):Q1 P φ (Instr.index t x' i') v:=by
  unfold astr at e
  split at e
  · rename_i s k i
    obtain rfl:=rStr (φ:=φ) hx
    obtain rfl:=rInt (φ:=φ) hi
    split at e
    · rename_i hc
      simp only [Bool.and_eq_true,decide_eq_true_eq] at hc
      simp only [Option.map_eq_some_iff] at e
      obtain ⟨b,hb,rfl⟩:=e
      refine ⟨_,fun w=>?_,mkV rfl⟩
      have hb':s[i.toNat]?=some b:=hb
      simp only [Instr.index,asIntOf,Sem.run_bind,Sem.run_pure,Result.andThen_ok,und (strR hc.1),if_pos hc.2,hb']
    · cases e
  · cases e
theorem q_field {t:TypeId} {x v x':Value} {f:Nat} (e:afield P t x f=some v) (hx:RelV φ x x'):Q1 P φ (Instr.field t x' f) v:=by
  unfold afield at e
  split at e
  · rename_i cs
    obtain ⟨cs',rfl,r⟩:=hx
    simp only [Option.bind_eq_some_iff,Prod.exists] at e
    obtain ⟨off,ft,hf,g,hg,e⟩:=e
    obtain ⟨fs,fd,hu,hfd,rfl,rfl⟩:=fldR hf
    split at e
    · rename_i hgt
      subst hgt
      simp only [Option.map_eq_some_iff] at e
      obtain ⟨sz,hsz,rfl⟩:=e
      refine ⟨.agg (cs'.extract fd.offset (fd.offset+sz)),fun w=>?_,⟨_,rfl,?_⟩⟩
      · simp only [Instr.field,Sem.run_bind,und hu,Result.andThen_ok,hfd,asAgg,Sem.run_pure,part,aggR hg,szR hsz,if_true]
      · simp only [Array.toList_extract,List.extract_eq_take_drop]
        exact (r.drop _).take _
    · rename_i hgf
      have hgf':g=false:=by simpa using hgf
      subst hgf'
      obtain ⟨v',hv',rv⟩:=r.get _ _ (by simpa using e)
      refine ⟨v',fun w=>?_,relV_of rv⟩
      have hv2:cs'[fd.offset]?=some v':=by simpa using hv'
      simp only [Instr.field,Sem.run_bind,und hu,Result.andThen_ok,hfd,asAgg,Sem.run_pure,part,aggR hg,Bool.false_eq_true,if_false,hv2]
  · cases e
theorem mapM_some {α β:Type} (f:α→Option β) (g:α→Sem β) (w:World) (hfg:∀ a b,f a=some b→(g a).run P w=.ok b w):∀ (l:List α) (r:List β),l.mapM f=some r→(l.mapM g).run P w=.ok r w
  | [],r,e=>by simp at e; subst e; simp
  | a :: l,r,e=>by
    simp only [List.mapM_cons,Option.bind_eq_bind,Option.bind_eq_some_iff,Option.pure_def,Option.some.injEq] at e
    obtain ⟨b,hb,r',hr,rfl⟩:=e
    simp [hfg a b hb,mapM_some f g w hfg l r' hr]
theorem q_build {t:TypeId} {parts:List (Nat × Value)} {parts':Array (Nat × Value)} {v:Value} (e:abuild P t parts=some v) (h:All2 (fun p q=>p.1=q.1∧RelV φ p.2 q.2) parts parts'.toList):Q1 P φ (Instr.build t parts') v:=by
  unfold abuild at e
  simp only [Option.bind_eq_some_iff] at e
  obtain ⟨pl,hpl,z,hz,e⟩:=e
  unfold placesOf at hpl
  split at hpl
  · rename_i fs hu
    split at e
    · rename_i hs
      simp only [Option.map_eq_some_iff] at e
      obtain ⟨cs,hcs,rfl⟩:=e
      obtain ⟨cells2,hf,r⟩:=rel_fill (cells:=z.cells) h (rel_zero hs) hcs
      refine ⟨.agg cells2,fun w=>?_,⟨_,rfl,by simpa using r⟩⟩
      have hm:(fs.mapM fun f=>do pure (f.offset,← sizeOf f.type):Sem (Array (Nat × Nat))).run P w=.ok pl.toArray w:=by
        rw [Array.mapM_eq_mapM_toList]
        simp only [Sem.run_map]
        rw [mapM_some _ _ w (fun a b hab=>?_) fs.toList pl hpl]
        · rfl
        · simp only [Option.map_eq_some_iff] at hab
          obtain ⟨n,hn,rfl⟩:=hab
          simp [szR hn]
      simp only [Instr.build,Sem.run_bind,zeroR hz,Result.andThen_ok,und hu,hm]
      have hpl':(fun (x:Nat)=>pl.toArray[x]?)=fun (i:Nat)=>pl[i]?:=by funext i; simp
      rw [hpl',hf]
      rfl
    · cases e
  · cases hpl
theorem q_un {op:UnOp} {x v x':Value} (e:aun op x=some v) (hx:RelV φ x x'):Q1 P φ (Op.unary op x') v:=by
  unfold aun at e
  split at e
  · obtain rfl:=rInt (φ:=φ) hx; injection e with e; subst e; exact ⟨_,fun w=>rfl,mkV rfl⟩
  · obtain rfl:=rBool (φ:=φ) hx; injection e with e; subst e; exact ⟨_,fun w=>rfl,mkV rfl⟩
  · cases e
theorem q_len {t ty:TypeId} {x v x':Value} (e:alen P t x=some v) (hx:RelV φ x x'):Q1 P φ (Builtin.len_ #[t] ty #[x']) v:=by
  unfold alen at e
  split at e
  · obtain rfl:=rStr (φ:=φ) hx
    split at e
    · rename_i hs; injection e with e; subst e
      exact ⟨_,fun w=>by simp [Builtin.len_,und (strR hs),goInt],mkV rfl⟩
    · cases e
  · rename_i a n c
    split at e
    · rename_i hs; injection e with e; subst e
      obtain ⟨el,hel⟩:=sliceR hs
      refine ⟨.int .i64 n,fun w=>?_,mkV rfl⟩
      cases a with
      | none=>obtain ⟨rfl,_,rfl⟩:=hx; simp [Builtin.len_,und hel,goInt]
      | some a=>obtain ⟨p,c',a',_,_,_,_,rfl,_⟩:=hx; simp [Builtin.len_,und hel,goInt]
    · cases e
  · cases e
theorem q_min {op:Builtin} {ts:Array TypeId} {ty:TypeId} {args args':List Value} {v:Value} (e:amin op args=some v) (h:All2 (RelV φ) args args') :
    (op=.min∧Q1 P φ (Builtin.min_ ts ty args'.toArray) v)∨(op=.max∧Q1 P φ (Builtin.max_ ts ty args'.toArray) v):=by
  unfold amin at e
  split at e
  · obtain ⟨x',l,rfl,hx,h⟩:=All2.cons_iff.1 h
    obtain ⟨y',l,rfl,hy,h⟩:=All2.cons_iff.1 h
    rw [All2.nil_iff] at h; subst h
    obtain rfl:=rInt (φ:=φ) hx; obtain rfl:=rInt (φ:=φ) hy
    split at e
    · injection e with e; subst e; exact .inl ⟨rfl,_,fun w=>rfl,mkV rfl⟩
    · cases e
  · obtain ⟨x',l,rfl,hx,h⟩:=All2.cons_iff.1 h
    obtain ⟨y',l,rfl,hy,h⟩:=All2.cons_iff.1 h
    rw [All2.nil_iff] at h; subst h
    obtain rfl:=rInt (φ:=φ) hx; obtain rfl:=rInt (φ:=φ) hy
    split at e
    · injection e with e; subst e; exact .inr ⟨rfl,_,fun w=>rfl,mkV rfl⟩
    · cases e
  · cases e
theorem Q1.next {s:Sem Value} {v:Value} (h:Q1 P φ s v):∃ v',(∀ w,(do pure (.value (← s)):Sem Next).run P w=.ok (.value v') w)∧RelV φ v v':=by
  obtain ⟨v',h,r⟩:=h
  exact ⟨v',fun w=>by simp [h],r⟩
theorem relC0_cap {v v':Value} (h:RelV φ v v') (k:capOk v=true):RelC0 φ v v':=by
  cases v <;> first | exact h | simp [capOk] at k
theorem qev_sound {ρ ρ':Operand→Value} {o:Oper} {v:Value} (hρ:∀ x,RelV φ (ρ x) (ρ' x)) (e:qev P ρ o.op=some v):∃ v',(∀ w,(execOp ρ' o).run P w=.ok (.value v') w)∧RelV φ v v':=by
  obtain ⟨dst,op,type,pos,after,guard⟩:=o
  unfold qev at e
  simp only at e
  split at e
  · injection e with e; subst e; exact ⟨_,fun w=>rfl,hρ _⟩
  · injection e with e; subst e; exact ⟨_,fun w=>rfl,hρ _⟩
  · rename_i c a b
    split at e
    · rename_i t ht
      have hc:=hρ c
      rw [ht] at hc
      injection e with e; subst e
      refine ⟨if t then ρ' a else ρ' b,fun w=>?_,by split <;> exact hρ _⟩
      simp only [execOp,rBool (φ:=φ) hc,asBool,Sem.run_bind,Sem.run_pure,Result.andThen_ok]
    · cases e
  · rename_i x
    split at e
    · rename_i a ht
      have hc:=hρ x
      rw [ht] at hc
      injection e with e; subst e
      obtain ⟨p,hp,hs,hx⟩:=hc
      exact ⟨_,fun w=>by simp only [execOp,hx]; rfl,relV_of ⟨p,hp,hs,rfl⟩⟩
    · cases e
  · exact (q_bin e (hρ _) (hρ _) _ _).next
  · exact (q_un e (hρ _)).next
  · rename_i s d x
    split at e
    · rename_i k1 k n hs hd hx
      have hc:=hρ x
      rw [hx] at hc
      injection e with e; subst e
      exact ⟨_,fun w=>by simp [execOp,rInt (φ:=φ) hc,convert,und (intR hs),und (intR hd),Conv.intToInt],mkV rfl⟩
    · rename_i b _ hx
      have hc:=hρ x
      rw [hx] at hc
      split at e
      · rename_i hb
        simp only [Bool.and_eq_true] at hb
        injection e with e; subst e
        exact ⟨_,fun w=>by simp [execOp,rStr (φ:=φ) hc,convert,und (strR hb.1),und (strR hb.2)],mkV rfl⟩
      · cases e
    · cases e
  · rename_i g first cap
    split at e
    · rename_i hf
      simp only [Bool.and_eq_true] at hf
      obtain rfl:first=#[]:=by simpa using hf.1
      injection e with e; subst e
      refine ⟨_,fun w=>by simp only [execOp,Instr.makeFunc]; rfl,relV_of ⟨rfl,cap.map ρ',by simp,?_⟩⟩
      rw [Array.toList_map,Array.toList_map]
      exact All2.map2 _ _ fun c hc=>relC0_cap (hρ c) (List.all_eq_true.1 hf.2 _ (List.mem_map_of_mem hc))
    · cases e
  · split at e
    · exact (q_slice e (hρ _) (RO.map hρ _) (RO.map hρ _) (RO.map hρ _)).next
    · cases e
  · rename_i t x f
    split at e
    · rename_i a ha
      have hc:=hρ x
      rw [ha] at hc
      obtain ⟨p,hp,hsp,hx⟩:=hc
      simp only [Option.bind_eq_some_iff,Prod.exists] at e
      obtain ⟨off,ft,hf,e⟩:=e
      split at e
      · cases e
      · rename_i hn
        simp only [Option.map_eq_some_iff] at e
        obtain ⟨sz,hsz,rfl⟩:=e
        obtain ⟨fs,fd,hu,hfd,rfl,rfl⟩:=fldR hf
        refine Q1.next ⟨_,fun w=>?_,relV_of ⟨p,hp,rfl,rfl⟩⟩
        have hne:¬ sz=0:=fun h=>hn (by rw [hsz,h])
        simp only [Instr.fieldAt,Sem.run_bind,und hu,Result.andThen_ok,hfd,hx,Instr.sureAddr,Sem.run_pure,fieldPlace,szR hsz,if_neg hne,addr_add,Nat.add_assoc]
    · cases e
  · exact (q_field e (hρ _)).next
  · rename_i t parts
    refine (q_build (parts':=parts.map fun (i,x)=>(i,ρ' x)) e ?_).next
    rw [Array.toList_map]
    exact All2.map2 _ _ fun c _=>⟨rfl,hρ _⟩
  · exact (q_index e (hρ _) (hρ _)).next
  · exact (q_str e (hρ _) (hρ _)).next
  · rename_i x i
    split at e
    · rename_i vs hx
      have hc:=hρ x
      rw [hx] at hc
      obtain ⟨vs',hv,r⟩:=hc
      obtain ⟨v',k1,k2⟩:=r.get i v (by simpa using e)
      refine Q1.next ⟨v',fun w=>?_,relV_of1 k2⟩
      have k1':vs'[i]?=some v':=by simpa using k1
      simp only [Instr.extract,hv,k1',Sem.run_pure]
    · cases e
  · rename_i args argTypes
    split at e
    · rename_i t x ht hx
      obtain rfl:argTypes=#[t]:=by rw [← Array.toList_inj]; exact ht
      obtain rfl:args=#[x]:=by rw [← Array.toList_inj]; exact hx
      obtain ⟨v',h1,h2⟩:=(q_len (ty:=type) e (hρ x)).next
      exact ⟨v',fun w=>by have:=h1 w; simpa [execOp,resolve,invoke,builtin] using this,h2⟩
    · cases e
  · rename_i args argTypes
    have ha:All2 (RelV φ) (args.toList.map ρ) (args.toList.map ρ'):=All2.map2 _ _ fun c _=>hρ c
    rcases q_min (P:=P) (ts:=argTypes) (ty:=type) e ha with ⟨_,hq⟩ | ⟨h,_⟩
    · obtain ⟨v',h1,h2⟩:=hq.next
      refine ⟨v',fun w=>?_,h2⟩
      have:=h1 w
      have h3:(args.toList.map ρ').toArray=args.map ρ':=by rw [← Array.toList_map]
      rw [h3] at this
      simpa [execOp,resolve,invoke,builtin] using this
    · cases h
  · rename_i args argTypes
    have ha:All2 (RelV φ) (args.toList.map ρ) (args.toList.map ρ'):=All2.map2 _ _ fun c _=>hρ c
    rcases q_min (P:=P) (ts:=argTypes) (ty:=type) e ha with ⟨h,_⟩ | ⟨_,hq⟩
    · cases h
    · obtain ⟨v',h1,h2⟩:=hq.next
      refine ⟨v',fun w=>?_,h2⟩
      have:=h1 w
      have h3:(args.toList.map ρ').toArray=args.map ρ':=by rw [← Array.toList_map]
      rw [h3] at this
      simpa [execOp,resolve,invoke,builtin] using this
  · cases e
end
section
variable {P:Program} {B:Bd} {w0 w w':World} {φ:Inj} {h:Hp}
theorem cell_of {b:Nat} {cs:Array Value} {e:TypeId} {fr:Nat × Nat} (k:w.heap[b]?=some (.cells cs e fr)) (i:Nat):w.cell? ⟨b,i,none⟩=cs[i]?:=by
  unfold World.cell?
  simp only [k,Option.isSome_none,Bool.false_eq_true,if_false]
theorem cell_same {b b':Nat} (k:w'.heap[b]?=w.heap[b']?) (i:Nat):w'.cell? ⟨b,i,none⟩=w.cell? ⟨b',i,none⟩:=by
  unfold World.cell?
  simp only [k]
theorem setCell_same {b:Nat} {cs:Array Value} {e:TypeId} {fr:Nat × Nat} (k:w.heap[b]?=some (.cells cs e fr)) (i:Nat) (v:Value):(w.setCell ⟨b,i,none⟩ v).heap[b]?=some (.cells (cs.setIfInBounds i v) e fr):=by
  simp [World.setCell,Array.getElem?_modify,k]
theorem frozen_no {b:Nat} {cs:Array Value} {e:TypeId} {fr:Nat × Nat} (k:w.heap[b]?=some (.cells cs e fr)) {i:Nat} (hf:¬ (fr.1≤i∧i<fr.2)):w.frozen? ⟨b,i,none⟩=false:=by
  unfold World.frozen?
  simp only [k]
  simpa using hf
theorem frozen_same {b b':Nat} (k:w'.heap[b]?=w.heap[b']?) (i:Nat):w'.frozen? ⟨b,i,none⟩=w.frozen? ⟨b',i,none⟩:=by
  unfold World.frozen?
  simp only [k]
theorem cell_block {a:Addr} {v:Value} (k:w.cell? a=some v):a.block<w.heap.size:=World.block_lt_of_cell? w a k
theorem ObRel.step {ob:Ob} {p:Pl} (r:ObRel P B φ w ob p) (k:w'.heap[p.block]?=w.heap[p.block]?):ObRel P B φ w' ob p where
  rw:=r.rw
  ok:=r.ok
  cell j v hj:=by
    obtain ⟨v',h1,h2⟩:=r.cell j v hj
    exact ⟨v',by rw [cell_same k]; exact h1,h2⟩
  own ho:=by
    obtain ⟨h1,h2,cs,fr,h3,h4⟩:=r.own ho
    exact ⟨h1,h2,cs,fr,by rw [k]; exact h3,h4⟩
  arg:=r.arg
  mark ho:=by rw [frozen_same k,k]; exact r.mark ho
theorem ObRel.mono {ob:Ob} {p:Pl} {φ':Inj} (hφ:φ <+: φ') (r:ObRel P B φ w ob p):ObRel P B φ' w ob p where
  rw:=r.rw
  ok:=r.ok
  cell j v hj:=by
    obtain ⟨v',h1,h2⟩:=r.cell j v hj
    exact ⟨v',h1,h2.mono hφ⟩
  own:=r.own
  arg:=r.arg
  mark:=r.mark
theorem ObRel.stepR {ob:Ob} {p:Pl} (r:ObRel P B φ w ob p) (hr:ob.rw=false) (hb:Kept B w w'):ObRel P B φ w' ob p:=by
  rcases r.arg hr with h | h
  · exact r.step (hb.below.block _ h)
  · exact ⟨r.rw,r.ok,fun j v hj=>(by rw [h] at hj; simp at hj),fun ho=>(by rw [hr] at ho; cases ho),r.arg,fun ho=>(by rw [hr] at ho; cases ho)⟩
theorem ObRel.block_lt {ob:Ob} {p:Pl} (r:ObRel P B φ w ob p) (ho:ob.rw=true):p.block<w.heap.size:=by
  obtain ⟨_,_,cs,fr,h3,_⟩:=r.own ho
  exact (Array.getElem?_eq_some_iff.1 h3).1
theorem Rel.world (R:Rel P B w0 φ h w) (hb:Kept B w w') (b:Nat) (hk:∀ k,k≠b→k<w.heap.size→w'.heap[k]?=w.heap[k]?)
    (hd:∀ (o:Nat) (ob:Ob) (p:Pl),h[o]?=some ob→φ[o]?=some p→ob.live=true→ob.rw=true→p.block≠b):Rel P B w0 φ h w' where
  below:=R.below.trans hb
  base:=R.base
  len:=R.len
  esz:=R.esz
  obj o ob p ho hp hl:=by
    have r:=R.obj o ob p ho hp hl
    cases hr:ob.rw with
    | true=>exact r.step (hk _ (hd o ob p ho hp hl hr) (r.block_lt hr))
    | false=>exact r.stepR hr hb
  apart:=R.apart
theorem Rel.free (R:Rel P B w0 φ h w):B.free w.heap.size :=
  ⟨Nat.le_trans R.base.1 R.below.below.size,fun hm=>by have:=R.base.2.1 _ hm; have:=R.below.below.size; omega⟩
theorem Rel.kept (R:Rel P B w0 φ h w) (hb:Below w.heap.size w w'):Kept B w w' :=
  ⟨hb.mono R.free.1,fun b hm=>hb.block b (by have:=R.base.2.1 _ hm; have:=R.below.below.size; omega)⟩
theorem Rel.grow (R:Rel P B w0 φ h w) (hb:Below w.heap.size w w'):Rel P B w0 φ h w':=by
  refine R.world (R.kept hb) w.heap.size (fun k _ hk=>hb.block k hk) fun o ob p ho hp hl hr=>?_
  have:=(R.obj o ob p ho hp hl).block_lt hr
  omega
theorem Rel.drew (R:Rel P B w0 φ h w) (n:Nat):Rel P B w0 φ h { w with drawn:=n } :=
  R.grow ⟨rfl,rfl,rfl,Nat.le_refl _,fun _ _=>rfl⟩
theorem Rel.adopt (R:Rel P B w0 φ h w) (ob:Ob) (p:Pl) (hz:szOf P ob.elem=some p.esz) (r:ObRel P B φ w ob p)
    (hd:∀ (o:Nat) (ob':Ob) (p':Pl),h[o]?=some ob'→φ[o]?=some p'→ob'.live=true→ob'.rw=true→p'.block≠p.block):Rel P B w0 (φ++[p]) (h++[ob]) w where
  below:=R.below
  base:=R.base
  len:=by simp [R.len]
  esz o ob' p' ho hp:=by
    by_cases hlt:o<h.length
    · rw [List.getElem?_append_left hlt] at ho
      rw [List.getElem?_append_left (by rw [R.len]; exact hlt)] at hp
      exact R.esz o ob' p' ho hp
    · have h1:o=h.length:=by
        have:=(List.getElem?_eq_some_iff.1 ho).1
        simp at this; omega
      subst h1
      rw [List.getElem?_append_right (Nat.le_refl _)] at ho
      rw [List.getElem?_append_right (by rw [R.len]; exact Nat.le_refl _)] at hp
      simp [R.len] at ho hp
      subst ho; subst hp; exact hz
  obj o ob' p' ho hp hl:=by
    by_cases hlt:o<h.length
    · rw [List.getElem?_append_left hlt] at ho
      rw [List.getElem?_append_left (by rw [R.len]; exact hlt)] at hp
      exact (R.obj o ob' p' ho hp hl).mono (List.prefix_append _ _)
    · have h1:o=h.length:=by
        have:=(List.getElem?_eq_some_iff.1 ho).1
        simp at this; omega
      subst h1
      rw [List.getElem?_append_right (Nat.le_refl _)] at ho
      rw [List.getElem?_append_right (by rw [R.len]; exact Nat.le_refl _)] at hp
      simp [R.len] at ho hp
      subst ho; subst hp; exact r.mono (List.prefix_append _ _)
  apart o o' ob1 ob2 p1 p2 ho ho' hp hp' hl hl' hr hr' hne:=by
    have key:∀ (o:Nat) (ob':Ob) (p':Pl),(h++[ob])[o]?=some ob'→(φ++[p])[o]?=some p'→(o<h.length∧h[o]?=some ob'∧φ[o]?=some p')∨(o=h.length∧ob'=ob∧p'=p):=by
      intro o ob' p' ho hp
      by_cases hlt:o<h.length
      · rw [List.getElem?_append_left hlt] at ho
        rw [List.getElem?_append_left (by rw [R.len]; exact hlt)] at hp
        exact .inl ⟨hlt,ho,hp⟩
      · have h1:o=h.length:=by
          have:=(List.getElem?_eq_some_iff.1 ho).1
          simp at this; omega
        subst h1
        rw [List.getElem?_append_right (Nat.le_refl _)] at ho
        rw [List.getElem?_append_right (by rw [R.len]; exact Nat.le_refl _)] at hp
        simp [R.len] at ho hp
        exact .inr ⟨rfl,ho.symm,hp.symm⟩
    rcases key o ob1 p1 ho hp with ⟨_,a1,b1⟩ | ⟨e1,rfl,rfl⟩ <;> rcases key o' ob2 p2 ho' hp' with ⟨_,a2,b2⟩ | ⟨e2,rfl,rfl⟩
    · exact R.apart o o' ob1 ob2 p1 p2 a1 a2 b1 b2 hl hl' hr hr' hne
    · exact hd o ob1 p1 a1 b1 hl hr
    · exact (hd o' ob2 p2 a2 b2 hl' hr').symm
    · omega
theorem Rel.new (R:Rel P B w0 φ h w) {e:TypeId} {esz:Nat} {cells:List Value} {cs:Array Value} {fr:Nat × Nat} (hb:Below w.heap.size w w') (hz:szOf P e=some esz)
    (hk:w'.heap[w.heap.size]?=some (.cells cs e fr)) (hfr:fr.1≤fr.2) (hm:intOf' P e=some .u8∨¬ (fr.1≤cs.size∧cs.size<fr.2)) (hf:∀ i,i<cs.size→¬ (fr.1≤i∧i<fr.2)) {rest:List Value} (hok:cells.all okCell=true) (hc:∃ l,cs.toList=l++rest∧All2 (RelC φ) cells l) :
    Rel P B w0 (φ++[⟨w.heap.size,0,cs.size,esz,true⟩]) (h++[⟨true,true,e,cells⟩]) w':=by
  have hB:B.free w.heap.size:=R.free
  obtain ⟨l,hl,ha⟩:=hc
  have hlen:cells.length≤cs.size:=by
    have h1:=ha.length
    have h2:=congrArg List.length hl
    simp at h2; omega
  refine (R.grow hb).adopt ⟨true,true,e,cells⟩ ⟨w.heap.size,0,cs.size,esz,true⟩ hz ⟨rfl,hok,fun j v hj=>?_,fun _=>⟨hB,by simpa using hlen,cs,fr,hk,rfl,hf⟩,fun hh=>(by cases hh),fun _=>⟨fun cs2 e2 fr2 h2=>(by rw [hk] at h2; cases h2; exact hfr),hm.imp id fun hm=>by unfold World.frozen?; simp only [hk]; simpa using hm⟩⟩ fun o ob p ho hp hlv hrw=>?_
  · obtain ⟨v',h1,h2⟩:=ha.get j v hj
    refine ⟨v',?_,h2⟩
    rw [cell_of hk]
    have hj':j<l.length:=(List.getElem?_eq_some_iff.1 h1).1
    have:cs.toList[j]?=some v':=by rw [hl,List.getElem?_append_left hj']; exact h1
    simpa using this
  · have:=(R.obj o ob p ho hp hlv).block_lt hrw
    show p.block≠w.heap.size
    omega
theorem getElem?_modify' {α:Type} (l:List α) (f:α→α) (i j:Nat):(l.modify i f)[j]?=if i=j then (l[j]?).map f else l[j]?:=by
  rw [List.getElem?_modify]
  split <;> cases l[j]? <;> simp_all
theorem Rel.kill (R:Rel P B w0 φ h w) (o:Nat):Rel P B w0 φ (Hz.kill h o) w where
  below:=R.below
  base:=R.base
  len:=by simp [Hz.kill,R.len]
  esz o' ob p ho hp:=by
    simp only [Hz.kill,getElem?_modify'] at ho
    split at ho
    · simp only [Option.map_eq_some_iff] at ho
      obtain ⟨ob',h1,rfl⟩:=ho
      exact R.esz o' ob' p h1 hp
    · exact R.esz o' ob p ho hp
  obj o' ob p ho hp hl:=by
    simp only [Hz.kill,getElem?_modify'] at ho
    split at ho
    · simp only [Option.map_eq_some_iff] at ho
      obtain ⟨ob',h1,rfl⟩:=ho
      cases hl
    · exact R.obj o' ob p ho hp hl
  apart o1 o2 ob1 ob2 p1 p2 ho1 ho2 hp1 hp2 hl1 hl2 hr1 hr2 hne:=by
    simp only [Hz.kill,getElem?_modify'] at ho1 ho2
    split at ho1
    · simp only [Option.map_eq_some_iff] at ho1
      obtain ⟨ob',h1,rfl⟩:=ho1
      cases hl1
    · split at ho2
      · simp only [Option.map_eq_some_iff] at ho2
        obtain ⟨ob',h1,rfl⟩:=ho2
        cases hl2
      · exact R.apart o1 o2 ob1 ob2 p1 p2 ho1 ho2 hp1 hp2 hl1 hl2 hr1 hr2 hne
theorem canSet_some {o i n:Nat} (e:cS_ h o i n=true):∃ ob,h[o]?=some ob∧ob.live=true∧ob.rw=true∧i+n≤ob.cells.length:=by
  unfold cS_ at e
  split at e
  · rename_i ob ho
    simp only [Bool.and_eq_true,decide_eq_true_eq] at e
    exact ⟨ob,ho,e.1.1,e.1.2,e.2⟩
  · cases e
theorem all_set {l:List Value} {i:Nat} {v:Value} (h:l.all okCell=true) (hv:okCell v=true):(l.set i v).all okCell=true:=by
  rw [List.all_eq_true] at h ⊢
  intro x hx
  rcases List.mem_or_eq_of_mem_set hx with hx | rfl
  · exact h x hx
  · exact hv
theorem Rel.set (R:Rel P B w0 φ h w) {o i:Nat} {p:Pl} {v v':Value} (hp:φ[o]?=some p) (hc:cS_ h o i 1=true) (rv:RelC φ v v') (hv:okCell v=true) :
    Rel P B w0 φ (setAt h o i v) (w.setCell ⟨p.block,p.off+i,none⟩ v'):=by
  obtain ⟨ob,ho,hl,hr,hi⟩:=canSet_some hc
  have r:=R.obj o ob p ho hp hl
  obtain ⟨hB,hsz,cs,fr,hk,hcs,hf⟩:=r.own hr
  have hlt:p.block<w.heap.size:=(Array.getElem?_eq_some_iff.1 hk).1
  have hbelow:Kept B w (w.setCell ⟨p.block,p.off+i,none⟩ v'):=(Kept.refl B w).setCell (p:=⟨p.block,p.off+i,none⟩) hB v'
  have hsame:(w.setCell ⟨p.block,p.off+i,none⟩ v').heap[p.block]?=some (.cells (cs.setIfInBounds (p.off+i) v') ob.elem fr):=setCell_same hk _ _
  refine ⟨R.below.trans hbelow,R.base,by simp [setAt,R.len],fun o' ob' p' ho' hp'=>?_,fun o' ob' p' ho' hp' hl'=>?_,fun o1 o2 ob1 ob2 p1 p2 ho1 ho2 hp1 hp2 hl1 hl2 hr1 hr2 hne=>?_⟩
  · simp only [setAt,getElem?_modify'] at ho'
    split at ho'
    · simp only [Option.map_eq_some_iff] at ho'
      obtain ⟨ob2,h1,rfl⟩:=ho'
      exact R.esz o' ob2 p' h1 hp'
    · exact R.esz o' ob' p' ho' hp'
  · simp only [setAt,getElem?_modify'] at ho'
    split at ho'
    · rename_i he
      subst he
      rw [ho] at ho'
      rw [hp] at hp'
      injection hp' with hp'
      subst hp'
      injection ho' with ho'
      subst ho'
      refine ⟨r.rw,all_set r.ok hv,fun j u hj=>?_,fun _=>⟨hB,by simpa using hsz,_,fr,hsame,by simpa using hcs,hf⟩,fun hh=>(by simp [hr] at hh),fun _=>⟨fun cs2 e2 fr2 h2=>(by rw [hsame] at h2; cases h2; exact (r.mark hr).1 _ _ _ hk),by rw [World.frozen?_setCell]; exact (r.mark hr).2⟩⟩
      rw [cell_of hsame]
      by_cases hij:i=j
      · subst hij
        have:u=v:=by
          rw [List.getElem?_set_self (by omega)] at hj
          injection hj with hj; exact hj.symm
        subst this
        refine ⟨v',?_,rv⟩
        rw [Array.getElem?_setIfInBounds_self_of_lt (by omega)]
      · rw [List.getElem?_set_ne hij] at hj
        obtain ⟨u',h1,h2⟩:=r.cell j u hj
        refine ⟨u',?_,h2⟩
        rw [Array.getElem?_setIfInBounds_ne (by omega)]
        rw [cell_of hk] at h1
        exact h1
    · rename_i hne
      have r':=R.obj o' ob' p' ho' hp' hl'
      cases hr':ob'.rw with
      | true=>exact r'.step (Below.heap_setCell w _ v' _ (R.apart o' o ob' ob p' p ho' ho hp' hp hl' hl hr' hr (Ne.symm hne)))
      | false=>exact r'.stepR hr' hbelow
  · have key:∀ (o':Nat) (ob':Ob),(setAt h o i v)[o']?=some ob'→∃ ob2,h[o']?=some ob2∧ob2.live=ob'.live∧ob2.rw=ob'.rw:=by
      intro o' ob' ho'
      simp only [setAt,getElem?_modify'] at ho'
      split at ho'
      · simp only [Option.map_eq_some_iff] at ho'
        obtain ⟨ob2,h1,rfl⟩:=ho'
        exact ⟨ob2,h1,rfl,rfl⟩
      · exact ⟨ob',ho',rfl,rfl⟩
    obtain ⟨a1,b1,c1,d1⟩:=key o1 ob1 ho1
    obtain ⟨a2,b2,c2,d2⟩:=key o2 ob2 ho2
    exact R.apart o1 o2 a1 a2 p1 p2 b1 b2 hp1 hp2 (c1.trans hl1) (c2.trans hl2) (d1.trans hr1) (d2.trans hr2) hne
def wset (w:World) (b i:Nat):List Value→World
  | []=>w
  | v :: vs=>wset (w.setCell ⟨b,i,none⟩ v) b (i+1) vs
theorem canSet_setAt {o i j n:Nat} {v:Value} (e:cS_ h o j n=true):cS_ (setAt h o i v) o j n=true:=by
  obtain ⟨ob,ho,hl,hr,hi⟩:=canSet_some e
  unfold cS_
  simp only [setAt,getElem?_modify',if_true,ho,Option.map_some]
  simp [hl,hr,hi]
theorem Rel.sets {p:Pl} {o:Nat} (hp:φ[o]?=some p):∀ (vs vs':List Value) (i:Nat) (h:Hp) (w:World),Rel P B w0 φ h w→cS_ h o i vs.length=true→All2 (RelC φ) vs vs'→vs.all okCell=true→Rel P B w0 φ (sA_ h o i vs) (wset w p.block (p.off+i) vs')
  | [],[],_,_,_,R,_,_,_=>R
  | v :: vs,v' :: vs',i,h,w,R,hc,ha,hv=>by
    simp only [List.all_cons,Bool.and_eq_true] at hv
    obtain ⟨ob,ho,hl,hr,hi⟩:=canSet_some hc
    simp only [List.length_cons] at hi
    have h1:cS_ h o i 1=true:=by unfold cS_; simp [ho,hl,hr]; omega
    have h2:cS_ h o (i+1) vs.length=true:=by unfold cS_; simp [ho,hl,hr]; omega
    exact Rel.sets hp vs vs' (i+1) _ _ (R.set hp h1 ha.1 hv.1) (canSet_setAt h2) ha.2 hv.2
  | [],_ :: _,_,_,_,_,_,ha,_=>ha.elim
  | _ :: _,[],_,_,_,_,_,ha,_=>ha.elim
theorem run_stores:∀ {vs:List Value} (i b o:Nat) {w:World} {cs:Array Value} {e:TypeId} {fr:Nat × Nat},w.heap[b]?=some (.cells cs e fr)→(∀ j,j<cs.size→¬ (fr.1≤j∧j<fr.2))→o+i+vs.length≤cs.size→(∀ v∈vs,v.oneCell'=true) →
    (storeCells ⟨b,o,none⟩ vs i).run P w=.ok () (wset w b (o+i) vs)
  | [],_,_,_,_,_,_,_,_,_,_,_=>rfl
  | v :: vs,i,b,o,w,cs,e,fr,hk,hf,hl,hv=>by
    simp only [List.length_cons] at hl
    have hc:∃ u,w.cell? ⟨b,o+i,none⟩=some u:=by
      rw [cell_of hk]
      exact ⟨cs[o+i],Array.getElem?_eq_getElem (by omega)⟩
    obtain ⟨u,hu⟩:=hc
    have hfz:=frozen_no hk (hf (o+i) (by omega))
    simp only [storeCells,Sem.run_bind,addr_add,run_store P w _ v _ (hv v (by simp)),hu,hfz,Bool.false_eq_true,if_false,Result.andThen_ok]
    exact run_stores (i+1) b o (setCell_same hk (o+i) v) (by simpa using hf) (by simp; omega) (fun x hx=>hv x (by simp [hx]))
theorem wset_heap:∀ {vs:List Value} (i b:Nat) {w:World} {cs:Array Value} {e:TypeId} {fr:Nat × Nat},w.heap[b]?=some (.cells cs e fr)→∃ cs',(wset w b i vs).heap[b]?=some (.cells cs' e fr)∧cs'.toList=setL cs.toList i vs
  | [],_,_,_,_,_,_,hk=>⟨_,hk,rfl⟩
  | v :: vs,i,b,w,cs,e,fr,hk=>by
    obtain ⟨cs',h1,h2⟩:=wset_heap (vs:=vs) (i+1) b (setCell_same hk i v)
    exact ⟨cs',h1,by rw [h2]; simp [setL]⟩
theorem wset_below {b:Nat} (hB:B.free b):∀ {vs:List Value} (i:Nat) {w:World},Kept B w (wset w b i vs)
  | [],_,_=>Kept.refl _ _
  | v :: _,i,w=>((Kept.refl B w).setCell (p:=⟨b,i,none⟩) hB v).trans (wset_below hB (i+1))
theorem wset_other {b k:Nat} (hk:k≠b):∀ {vs:List Value} (i:Nat) {w:World},(wset w b i vs).heap[k]?=w.heap[k]?
  | [],_,_=>rfl
  | v :: _,i,w=>(wset_other hk (i+1)).trans (Below.heap_setCell w ⟨b,i,none⟩ v k hk)
theorem Rel.freeze (R:Rel P B w0 φ h w) {o:Nat} {ob:Ob} {p:Pl} (ho:h[o]?=some ob) (hp:φ[o]?=some p) (hl:ob.live=true) (hr:ob.rw=true) (hu:intOf' P ob.elem=some .u8):Rel P B w0 φ h (w.freeze ⟨p.block,p.size,none⟩ 1):=by
  have r:=R.obj o ob p ho hp hl
  obtain ⟨hB,hsz,cs,fr,hk,hcs,hf⟩:=r.own hr
  have hfr:=(r.mark hr).1 _ _ _ hk
  obtain ⟨lo,hi⟩:=fr
  simp only at hf hfr
  obtain ⟨fr2,hfr2,hk2⟩:∃ fr2:Nat × Nat,((∀ i,i<p.size→¬ (fr2.1≤i∧i<fr2.2))∧fr2.1≤fr2.2)∧(w.freeze ⟨p.block,p.size,none⟩ 1).heap[p.block]?=some (.cells cs ob.elem fr2):=by
    refine ⟨if lo == hi then (p.size,p.size+1) else (min lo p.size,max hi (p.size+1)),?_,?_⟩
    · by_cases he:lo=hi
      · simp [he]
        omega
      · have hlo:p.size≤lo:=by
          rcases Nat.lt_or_ge lo p.size with hlt | hge
          · exact absurd ⟨Nat.le_refl _,by omega⟩ (hf lo hlt)
          · exact hge
        rw [if_neg (by simpa using he)]
        refine ⟨fun i hi' h12=>?_,?_⟩
        · simp only at h12
          omega
        · simp only
          omega
    · simp only [World.freeze,if_neg (show ¬ (1=0) by decide),Array.getElem?_modify,if_true,hk,Option.map_some]
  have other:∀ k,k≠p.block→(w.freeze ⟨p.block,p.size,none⟩ 1).heap[k]?=w.heap[k]?:=fun k hne=>by
    simp only [World.freeze,if_neg (show ¬ (1=0) by decide),Array.getElem?_modify,if_neg (Ne.symm hne)]
  have hsize:(w.freeze ⟨p.block,p.size,none⟩ 1).heap.size=w.heap.size:=by simp [World.freeze]
  have hbelow:Kept B w (w.freeze ⟨p.block,p.size,none⟩ 1):=⟨⟨rfl,rfl,rfl,by rw [hsize]; exact Nat.le_refl _,fun k hk=>other k (by have:=hB.1; omega)⟩,fun b hb=>other b fun e=>hB.2 (e ▸ hb)⟩
  refine ⟨R.below.trans hbelow,R.base,R.len,R.esz,fun o' ob' p' ho' hp' hl'=>?_,R.apart⟩
  have r':=R.obj o' ob' p' ho' hp' hl'
  by_cases he:o'=o
  · subst he
    rw [ho] at ho'
    rw [hp] at hp'
    injection ho' with ho'
    injection hp' with hp'
    subst ho'
    subst hp'
    refine ⟨r.rw,r.ok,fun j v hj=>?_,fun _=>⟨hB,hsz,cs,fr2,hk2,hcs,hfr2.1⟩,r.arg,fun _=>⟨fun cs3 e3 fr3 h3=>(by rw [hk2] at h3; cases h3; exact hfr2.2),.inl hu⟩⟩
    obtain ⟨v',h1,h2⟩:=r.cell j v hj
    rw [cell_of hk] at h1
    exact ⟨v',by rw [cell_of hk2]; exact h1,h2⟩
  · cases hr':ob'.rw with
    | true=>exact r'.step (other _ (R.apart o' o ob' ob p' p ho' ho hp' hp hl' hl hr' hr he))
    | false=>exact r'.stepR hr' hbelow
end
section
variable {P:Program} {B:Bd} {w0 w w':World} {φ:Inj} {h:Hp}
theorem cellsAt_len:∀ {n i o:Nat} {vs:List Value},cellsAt h o i n=some vs→vs.length=n
  | 0,_,_,_,e=>by injection e with e; subst e; rfl
  | n+1,i,o,vs,e=>by
    simp only [cellsAt,Option.bind_eq_some_iff,Option.map_eq_some_iff] at e
    obtain ⟨v,_,us,hus,rfl⟩:=e
    simp [cellsAt_len hus]
theorem run_load0 (a:Addr):(loadCells a 0).run P w=.ok #[] w:=rfl
theorem strL_spec:∀ {cs cs':List Value} {bs:List UInt8},strL cs=some bs→All2 (RelC φ) cs cs'→∃ xs:List Int,cs'=xs.map (Value.int .u8)∧bs=xs.map fun n=>UInt8.ofNat n.toNat
  | [],cs',bs,e,ha=>by
    rw [All2.nil_iff] at ha; subst ha
    injection e with e; subst e
    exact ⟨[],rfl,rfl⟩
  | v :: vs,cs',bs,e,ha=>by
    obtain ⟨v',vs',rfl,h1,h2⟩:=All2.cons_iff.1 ha
    cases v with
    | int k n =>
      cases k with
      | u8 =>
        simp only [strL,Option.map_eq_some_iff] at e
        obtain ⟨b2,hb,rfl⟩:=e
        obtain ⟨xs,rfl,rfl⟩:=strL_spec hb h2
        have:v'=.int .u8 n:=h1
        subst this
        exact ⟨n :: xs,rfl,rfl⟩
      | _=>simp [strL] at e
    | _=>simp [strL] at e
theorem lev_sound (R:Rel P B w0 φ h w) {ρ ρ':Operand→Value} {o:Oper} {v:Value} (hρ:∀ x,RelV φ (ρ x) (ρ' x)) (e:lev P h ρ o.op=some v):∃ v',(execOp ρ' o).run P w=.ok (.value v') w∧RelV φ v v':=by
  obtain ⟨dst,op,type,pos,after,guard⟩:=o
  unfold lev at e
  simp only at e
  split at e
  · split at e
    · cases e
    · obtain ⟨v',h1,h2⟩:=(q_slice2 R e (hρ _) (RO.map hρ _) (RO.map hρ _) (RO.map hρ _)).next
      exact ⟨v',h1 w,h2⟩
  · rename_i t x
    split at e
    · rename_i a ha
      have hc:=hρ x
      rw [ha] at hc
      obtain ⟨p,hp,hsp,hx⟩:=hc
      simp only [Option.bind_eq_some_iff] at e
      obtain ⟨g,hg,e⟩:=e
      split at e
      · rename_i hgt
        subst hgt
        simp only [Option.bind_eq_some_iff,Option.map_eq_some_iff] at e
        obtain ⟨n,hn,cs,hcs,rfl⟩:=e
        obtain ⟨vs',k1,k2⟩:=R.run_load hp hcs
        refine ⟨.agg vs'.toArray,?_,⟨_,rfl,by simpa using k2⟩⟩
        simp only [execOp,Instr.loadAt,hx,Instr.sureAddr,Sem.run_bind,Sem.run_pure,Result.andThen_ok,loadVar,aggR hg,if_true,szR hn,k1]
      · rename_i hgf
        have hgf':g=false:=by simpa using hgf
        subst hgf'
        obtain ⟨v',k1,k2⟩:=R.cell e hp
        refine ⟨v',?_,relV_of k2⟩
        simp only [execOp,Instr.loadAt,hx,Instr.sureAddr,Sem.run_bind,Sem.run_pure,Result.andThen_ok,loadVar,aggR hg,Bool.false_eq_true,if_false,run_load,k1]
    · cases e
  · rename_i s d x
    split at e
    · rename_i hb
      simp only [Bool.and_eq_true,beq_iff_eq,Option.bind_eq_some_iff] at hb
      obtain ⟨hd,el,hel,hek⟩:=hb
      have hc:=hρ x
      split at e
      · rename_i hx
        rw [hx] at hc
        injection e with e; subst e
        have hx':ρ' x=.slice none 0 0:=hc.2.2
        refine ⟨.string ⟨#[]⟩,?_,mkV rfl⟩
        have:=run_convert_bytes_nil (P:=P) w s el (elemR hel) (intR hek) 0 0 d (strR hd)
        simp only [execOp,hx',Sem.run_bind,this,Result.andThen_ok,Sem.run_pure]
        rfl
      · rename_i a n c hx
        rw [hx] at hc
        simp only [Option.bind_eq_some_iff,Option.map_eq_some_iff] at e
        obtain ⟨cs,hcs,bs,hbs,rfl⟩:=e
        obtain ⟨p,c',a',hp,hsp,hcc,hnc,hx',hor⟩:=hc
        rcases hor with ⟨rfl,_⟩ | ⟨h1,h2⟩
        · obtain ⟨vs',k1,k2,k3⟩:=R.cells hp n a.off cs hcs
          obtain ⟨xs,rfl,rfl⟩:=strL_spec hbs k3
          refine ⟨.string (strOfNums xs),?_,mkV rfl⟩
          have:=run_convert_bytes_arg (P:=P) w s el (elemR hel) (intR hek) p.block (p.off+a.off) n c' xs (by simpa using k1) (fun i hi=>by
            refine k2 i _ ?_
            have hi':i<xs.length:=by simp at k1; omega
            simp [List.getElem?_map,List.getElem?_eq_getElem hi']) d (strR hd)
          simp only [execOp,hx',Sem.run_bind,this,Result.andThen_ok,Sem.run_pure]
        · subst h1
          injection hcs with hcs; subst hcs
          injection hbs with hbs; subst hbs
          refine ⟨.string (strOfNums []),?_,mkV rfl⟩
          have:=run_convert_bytes_arg (P:=P) w s el (elemR hel) (intR hek) a'.block a'.off 0 c' [] rfl (fun i hi=>by omega) d (strR hd)
          have hsp':(convert s d (.slice (some a') 0 c')).run P w=.ok (.string (strOfNums [])) w:=by
            unfold convert
            simp only [Sem.run_bind,und (elemR hel),und (strR hd),und (intR hek),Result.andThen_ok,Conv.bytesToString,run_load0]
            rfl
          simp only [execOp,hx',Sem.run_bind,hsp',Result.andThen_ok,Sem.run_pure]
      · cases e
    · cases e
  · cases e
theorem Rel.okAt (R:Rel P B w0 φ h w) {o i:Nat} {v:Value} (e:cellAt h o i=some v):okCell v=true:=by
  obtain ⟨ob,ho,hl,hc⟩:=cellAt_some e
  obtain ⟨p,hp⟩:=R.pl ho
  exact List.all_eq_true.1 (R.obj o ob p ho hp hl).ok v (List.mem_of_getElem? hc)
theorem Rel.okCells (R:Rel P B w0 φ h w):∀ {n i o:Nat} {vs:List Value},cellsAt h o i n=some vs→vs.all okCell=true
  | 0,_,_,_,e=>by injection e with e; subst e; rfl
  | n+1,i,o,vs,e=>by
    simp only [cellsAt,Option.bind_eq_some_iff,Option.map_eq_some_iff] at e
    obtain ⟨v,hv,us,hus,rfl⟩:=e
    simp [R.okAt hv,R.okCells hus]
theorem src_sound (R:Rel P B w0 φ h w) {sz m:Nat} {xt:TypeId} {x x':Value} {xs:List Value} (e:srcOf P h sz xt x=some (xs,m)) (hx:RelV φ x x') :
    xs.all okCell=true∧∃ xs',Src P sz xt x' m xs' w∧All2 (RelC φ) xs xs':=by
  unfold srcOf at e
  split at e
  · obtain ⟨_,_,rfl⟩:=hx
    split at e
    · rename_i hs
      obtain ⟨el,hel⟩:=sliceR hs
      injection e with e; injection e with e1 e2; subst e1; subst e2
      exact ⟨rfl,[],Src.ofNil w hel 0,trivial⟩
    · cases e
  · rename_i b n c
    split at e
    · rename_i hs
      obtain ⟨el,hel⟩:=sliceR hs
      simp only [Option.map_eq_some_iff,Prod.mk.injEq] at e
      obtain ⟨cs,hcs,rfl,rfl⟩:=e
      have hok:=R.okCells hcs
      obtain ⟨p,c',a',hp,hsp,hcc,hnc,rfl,hor⟩:=hx
      obtain ⟨vs',k1,k2,k3⟩:=R.cells hp _ _ cs hcs
      refine ⟨hok,vs',?_,k3⟩
      rcases hor with ⟨rfl,_⟩ | ⟨rfl,_⟩
      · exact Src.ofSlice w hel _ n c' vs' k1 (fun j u hj=>by rw [addr_add]; exact k2 j u hj) (all_one k3 hok)
      · have:vs'=[]:=List.eq_nil_of_length_eq_zero (by simpa using k1)
        subst this
        exact Src.ofSlice w hel _ 0 c' [] (by simp) (fun j u hj=>by simp at hj) (by simp)
    · cases e
  · rename_i s
    obtain rfl:=rStr (φ:=φ) hx
    split at e
    · rename_i hs
      simp only [Bool.and_eq_true,beq_iff_eq] at hs
      obtain ⟨hs1,rfl⟩:=hs
      injection e with e; injection e with e1 e2; subst e1; subst e2
      have hsc:∀ a∈bytesL s,scal a=true:=fun a ha=>by
        simp only [bytesL,List.mem_map] at ha
        obtain ⟨b,_,rfl⟩:=ha
        rfl
      exact ⟨List.all_eq_true.2 fun a ha=>okCell_scal (hsc a ha),bytesL s,Src.ofString w (strR hs1) s,All2.refl fun a ha=>relC_scal (hsc a ha)⟩
    · cases e
  · cases e
end
section
variable {P:Program} {B:Bd} {w0 w w':World} {φ:Inj} {h:Hp}
theorem setL_get:∀ (vs l:List Value) (i k:Nat),i+vs.length≤l.length→(setL l i vs)[k]?=if i≤k∧k<i+vs.length then vs[k - i]? else l[k]?
  | [],l,i,k,_=>by
    simp only [setL,List.length_nil,Nat.add_zero]
    rw [if_neg (by omega)]
  | v :: vs,l,i,k,hl=>by
    simp only [List.length_cons] at hl ⊢
    simp only [setL]
    rw [setL_get vs (l.set i v) (i+1) k (by simp; omega)]
    by_cases h1:k=i
    · subst h1
      rw [if_neg (by omega),if_pos (by omega),List.getElem?_set_self (by omega),Nat.sub_self]
      rfl
    · by_cases h2:i+1≤k∧k<i+1+vs.length
      · rw [if_pos h2,if_pos (by omega),show k - i=(k - (i+1))+1 by omega,List.getElem?_cons_succ]
      · rw [if_neg h2,if_neg (by omega),List.getElem?_set_ne (by omega)]
def Ends (P:Program) (B:Bd) (w0:World) (φ:Inj) (w:World) (s:Sem Next) (v:Value) (h2:Hp):Prop :=
  ∃ φ' v' w',(s.run P w=.ok (.value v') w'∨(s.run P w=.ok .skip w'∧v'=undef))∧φ <+: φ'∧Rel P B w0 φ' h2 w'∧RelV φ' v v'
def EndsV (P:Program) (B:Bd) (w0:World) (φ:Inj) (w:World) (s:Sem Value) (v:Value) (h2:Hp):Prop :=
  ∃ φ' v' w',s.run P w=.ok v' w'∧φ <+: φ'∧Rel P B w0 φ' h2 w'∧RelV φ' v v'
theorem EndsV.next {s:Sem Value} {v:Value} {h2:Hp} (k:EndsV P B w0 φ w s v h2):Ends P B w0 φ w (do pure (.value (← s)):Sem Next) v h2:=by
  obtain ⟨φ',v',w',h1,r⟩:=k
  exact ⟨φ',v',w',.inl (by simp [h1]),r⟩
theorem Rel.made (R:Rel P B w0 φ h w) {e:TypeId} {esz:Nat} {cells:List Value} {cs:Array Value} (hz:szOf P e=some esz) (hok:cells.all okCell=true) {rest l:List Value} (hl:cs.toList=l++rest) (ha:All2 (RelC φ) cells l) (d:Nat) :
    Rel P B w0 (φ++[⟨w.heap.size,0,cs.size,esz,true⟩]) (h++[⟨true,true,e,cells⟩]) { w with heap:=w.heap.push (.cells cs e),drawn:=d } :=
  R.new (fr:=(0,0)) ⟨rfl,rfl,rfl,by simp,fun k hk=>by
    show (w.heap.push _)[k]?=_
    rw [Array.getElem?_push,if_neg (by omega)]⟩ hz (by simp) (Nat.le_refl _) (.inr (by simp)) (fun i _=>by simp) hok ⟨l,hl,ha⟩
theorem at_end (R:Rel P B w0 φ h w) (p:Pl):(φ++[p])[h.length]?=some p:=by
  rw [List.getElem?_append_right (by rw [R.len]; exact Nat.le_refl _)]
  simp [R.len]
theorem relV_new (R:Rel P B w0 φ h w) (p:Pl):RelV (φ++[p]) (.pointer (some ⟨h.length,0,none⟩)) (.pointer (some ⟨p.block,p.off,none⟩)) :=
  relV_of ⟨p,at_end R p,rfl,by simp⟩
theorem relV_row (R:Rel P B w0 φ h w) (p:Pl) {n c c':Nat} (h1:c≤c') (h2:n≤c') (h3:p.rw=true→p.off+c' * p.esz≤p.size):RelV (φ++[p]) (.slice (some ⟨h.length,0,none⟩) n c) (.slice (some ⟨p.block,p.off,none⟩) n c') :=
  relV_of ⟨p,c',_,at_end R p,rfl,h1,h2,rfl,.inl ⟨by simp,fun hr=>by simpa using h3 hr⟩⟩
theorem elOf_spec {t e:TypeId} {sz bt:Nat} {zs:List Value} (k:elOf P t=some (e,sz,bt,zs)):P.underlying t=some (.slice e)∧szOf P e=some sz∧byOf P e=some bt∧∃ z,zeroOf P e=some z∧zs=z.cells.toList∧zs.all scal=true∧zs.length=sz∧0<sz:=by
  simp only [elOf,Option.bind_eq_some_iff] at k
  obtain ⟨e',he,sz',hsz,bt',hbt,z,hz,k⟩:=k
  split at k
  · rename_i hc
    simp only [Option.some.injEq,Prod.mk.injEq] at k
    obtain ⟨rfl,rfl,rfl,rfl⟩:=k
    have hzl:cellsL z=z.cells.toList:=by cases z <;> rfl
    exact ⟨elemR he,hsz,hbt,z,hz,hzl,hc.1,hc.2.1,hc.2.2⟩
  · cases k
theorem infoR {t:TypeId} {sz bt:Nat} {z:Value} (h1:szOf P t=some sz) (h2:byOf P t=some bt) (h3:zeroOf P t=some z):∃ i,P.info? t=some i∧i.size=sz∧i.bytes=bt∧i.zero=some z:=by
  simp only [szOf,byOf,zeroOf,Option.map_eq_some_iff,Option.bind_eq_some_iff] at h1 h2 h3
  obtain ⟨i,hi,a⟩:=h1
  obtain ⟨j,hj,b⟩:=h2
  obtain ⟨k,hk,c⟩:=h3
  rw [hi] at hj hk
  injection hj with hj; subst hj
  injection hk with hk; subst hk
  exact ⟨i,hi,a,b,c⟩
theorem append_grows {h2:Hp} {st xt e:TypeId} {sz bt m n c':Nat} {zs:List Value} (hel:elOf P st=some (e,sz,bt,zs))
    (R2:Rel P B w0 φ h2 w) {x':Value} {base:Option Addr} {old xs old' xs':List Value} (hsrc:Src P sz xt x' m xs' w) (hxs:All2 (RelC φ) xs xs') (hok:xs.all okCell=true)
    (ho:(Builtin.firstCells sz n (.slice base n c')).run P w.drew=.ok old'.toArray w.drew) (hos:All2 (RelC φ) old old') (hook:old.all okCell=true) (hol:old.length=n * sz) (ty:TypeId)
    (hc:¬ n+m≤c') (hb:n+m≤big) (hb2:(n+m) * bt≤big) :
    EndsV P B w0 φ w (Builtin.append_ #[st,xt] ty #[.slice base n c',x']) (.slice (some ⟨h2.length,0,none⟩) (n+m) (n+m)) (h2++[⟨true,true,e,old++xs⟩]):=by
  have hbig:big=70368744177664:=rfl
  obtain ⟨hu,hsz,hbt,z,hz,rfl,_,hzs,_⟩:=elOf_spec hel
  have hzc:z.cells.size=sz:=by simpa using hzs
  obtain ⟨i,hi,rfl,rfl,hiz⟩:=infoR hsz hbt hz
  have hrun:=run_append_grow_src (P:=P) w st xt ty e i z hu hi hiz base n c' old' ho x' m xs' hsrc (by omega) (by omega) (growslice_fits (by omega) (by omega))
  have hge:=grownCap_ge w (n+m) c' e
  have h1:=hos.length
  have h2l:=hsrc.newsLen
  have hcs:((old'++xs').toArray++Builtin.zeroCells z.cells (grownCap w (n+m) c' e - (n+m))).size=grownCap w (n+m) c' e * i.size:=by
    have h3:(grownCap w (n+m) c' e - (n+m)) * i.size+(n+m) * i.size=grownCap w (n+m) c' e * i.size:=by rw [← Nat.add_mul]; congr 1; omega
    have h4:(n+m) * i.size=n * i.size+m * i.size:=Nat.add_mul _ _ _
    simp only [Array.size_append,List.size_toArray,size_zeroCells,hzc,List.length_append]
    omega
  have R3:=R2.made (e:=e) (cells:=old++xs) (cs:=(old'++xs').toArray++Builtin.zeroCells z.cells (grownCap w (n+m) c' e - (n+m))) hsz (by simp [hook,hok]) (rest:=(Builtin.zeroCells z.cells (grownCap w (n+m) c' e - (n+m))).toList) (l:=old'++xs') (by simp) (hos.append hxs) (w.drawn+1)
  refine ⟨_,.slice (some ⟨w.heap.size,0,none⟩) (n+m) (grownCap w (n+m) c' e),_,hrun,List.prefix_append _ _,R3,?_⟩
  refine relV_row R2 ⟨w.heap.size,0,_,i.size,true⟩ hge hge fun _=>?_
  rw [hcs]; simp
theorem wset_eq:∀ (vs:List Value) (i b:Nat) (w:World),w.setCells b i vs=wset w b i vs
  | [],_,_,_=>rfl
  | _ :: vs,i,b,_=>wset_eq vs (i+1) b _
theorem rep_get (l:List Value):∀ (n i:Nat),i<n * l.length→(rep n l)[i]?=l[i % l.length]?
  | 0,i,h=>by simp at h
  | n+1,i,h=>by
    have e:rep (n+1) l=l++rep n l:=by simp [rep,List.replicate_succ]
    rw [e]
    by_cases hi:i<l.length
    · rw [List.getElem?_append_left hi,Nat.mod_eq_of_lt hi]
    · rw [List.getElem?_append_right (by omega),rep_get l n (i - l.length) (by rw [Nat.add_mul] at h; omega)]
      congr 1
      exact (Nat.mod_eq_sub_mod (by omega)).symm
theorem rep_length (l:List Value) (n:Nat):(rep n l).length=n * l.length:=by
  simp [rep,List.length_flatten,List.map_replicate,List.sum_replicate_nat]
theorem madeRow (n:Nat) (z:Array Value):((Array.range (n * z.size)).map (fun i=>z[i % z.size]!)).toList=rep n z.toList:=by
  apply List.ext_getElem?
  intro i
  by_cases hi:i<n * z.size
  · rw [rep_get z.toList n i (by simpa using hi)]
    have hz:0<z.size:=by
      rcases Nat.eq_zero_or_pos z.size with h0 | h0
      · rw [h0] at hi; simp at hi
      · exact h0
    have hm:i % z.size<z.size:=Nat.mod_lt _ hz
    simp [hi,hm]
  · rw [List.getElem?_eq_none (by simp; omega),List.getElem?_eq_none (by rw [rep_length]; simp; omega)]
theorem rep_scal {zs:List Value} (h:zs.all scal=true) (n:Nat):(rep n zs).all scal=true:=by
  refine List.all_eq_true.2 fun a ha=>?_
  simp only [rep,List.mem_flatten,List.mem_replicate] at ha
  obtain ⟨l,⟨_,rfl⟩,ha⟩:=ha
  exact List.all_eq_true.1 h a ha
theorem all_ok {zs:List Value} (h:zs.all scal=true):zs.all okCell=true:=List.all_eq_true.2 fun a ha=>okCell_scal (List.all_eq_true.1 h a ha)
theorem relC_scals {zs:List Value} (h:zs.all scal=true):All2 (RelC φ) zs zs:=All2.refl fun a ha=>relC_scal (List.all_eq_true.1 h a ha)
theorem append_sound (R:Rel P B w0 φ h w) {st xt:TypeId} {s x s' x' v:Value} {h2:Hp} (e:aappend P h st xt s x=some (v,h2)) (hs:RelV φ s s') (hx:RelV φ x x') (ty:TypeId) :
    EndsV P B w0 φ w (Builtin.append_ #[st,xt] ty #[s',x']) v h2:=by
  unfold aappend at e
  simp only [Option.bind_eq_some_iff,Prod.exists] at e
  obtain ⟨el,sz,bt,zs,hel,xs,m,hsrc,e⟩:=e
  obtain ⟨hok,xs',hS,hxs⟩:=src_sound R hsrc hx
  obtain ⟨hu,hsz,hbt,z,hz,rfl,hzsc,hzs,hpos⟩:=elOf_spec hel
  obtain ⟨i,hi,rfl,rfl,hiz⟩:=infoR hsz hbt hz
  have hxl:xs.length=m * i.size:=by rw [hxs.length]; exact hS.newsLen
  have none_:∀ (base:Option Addr) (n c':Nat),m=0→n≤c'→(Builtin.append_ #[st,xt] ty #[.slice base n c',x']).run P w=.ok (.slice base n c') w:=by
    intro base n c' hm hn
    subst hm
    have hx0:xs'=[]:=List.eq_nil_of_length_eq_zero (by simpa using hS.newsLen)
    have hc0:=hS.cells
    rw [hx0] at hc0
    cases base with
    | some a=>rcases hS.kind with ⟨e',hk⟩ | hk <;> simp [Builtin.append_,und hu,und hk,sizeOf,typeInfo,hi,hS.len,hn,hc0,storeCells]
    | none=>rcases hS.kind with ⟨e',hk⟩ | hk <;> simp [Builtin.append_,und hu,und hk,sizeOf,typeInfo,hi,hS.len,hn,hc0]
  split at e
  · obtain ⟨_,_,rfl⟩:=hs
    split at e
    · rename_i hm
      injection e with e; injection e with e1 e2; subst e1; subst e2
      exact ⟨φ,_,w,none_ none 0 0 hm (Nat.le_refl _),List.prefix_refl _,R,mkV rfl⟩
    · rename_i hm
      split at e
      · rename_i hb
        injection e with e; injection e with e1 e2; subst e1; subst e2
        have:=append_grows (P:=P) (n:=0) (c':=0) (base:=none) (old:=[]) (old':=[]) hel R hS hxs hok (run_firstCells_none w.drew _ 0 0 0) trivial rfl (by simp) ty (by omega) (by omega) (by simpa using hb.2)
        simpa using this
      · cases e
  · rename_i a n c
    obtain ⟨p,c',a',hp,hsp,hcc,hnc,rfl,hor⟩:=hs
    split at e
    · rename_i hm
      injection e with e; injection e with e1 e2; subst e1; subst e2
      exact ⟨φ,_,w,none_ (some a') n c' hm hnc,List.prefix_refl _,R,relV_of ⟨p,c',a',hp,hsp,hcc,hnc,rfl,hor⟩⟩
    · rename_i hm
      split at e
      · cases e
      · rename_i hea
        have hea':elAt h a.block=some el:=Decidable.of_not_not hea
        simp only [elAt,Option.map_eq_some_iff] at hea'
        obtain ⟨ob,hob,rfl⟩:=hea'
        have hze:=R.esz _ ob p hob hp
        rw [hsz] at hze
        injection hze with hze
        split at e
        · rename_i hfit
          split at e
          · rename_i hcs
            injection e with e; injection e with e1 e2; subst e1; subst e2
            rcases hor with ⟨rfl,hcap⟩ | ⟨_,hc0⟩
            · obtain ⟨ob1,ho1,hl1,hr1,hi1⟩:=canSet_some hcs
              rw [hob] at ho1
              injection ho1 with ho1; subst ho1
              obtain ⟨hB,hsize,cs,fr,hk,hcsz,hf⟩:=(R.obj _ ob p hob hp hl1).own hr1
              have hnl:=hS.newsLen
              have hrun:=run_append_room_src (P:=P) w st xt ty ob.elem i hu hi p.block (p.off+a.off) n c' x' m xs' hS (by omega)
                (fun j hj=>by rw [cell_of hk]; rw [Array.getElem?_eq_getElem (by omega)]; rfl) (fun j hj=>frozen_no hk (hf _ (by omega)))
              refine ⟨φ,_,_,hrun,List.prefix_refl _,?_,relV_of ⟨p,c',_,hp,hsp,by omega,by omega,rfl,.inl ⟨rfl,hcap⟩⟩⟩
              rw [wset_eq,show p.off+a.off+n * i.size=p.off+(a.off+n * i.size) by omega]
              exact Rel.sets hp xs xs' _ h w R (by rw [hxl]; exact hcs) hxs hok
            · omega
          · cases e
        · rename_i hfit
          split at e
          · rename_i hb
            obtain ⟨hb1,hb2,hcs⟩:=hb
            obtain ⟨ob1,ho1,hl1,hr1,hi1⟩:=canSet_some hcs
            rw [hob] at ho1
            injection ho1 with ho1; subst ho1
            simp only [Option.map_eq_some_iff,Prod.mk.injEq] at e
            obtain ⟨old,hold,rfl,rfl⟩:=e
            obtain ⟨old',k1,k2,k3⟩:=R.cells hp _ _ old hold
            have hook:=R.okCells hold
            have Rk:=R.kill a.block
            have hkl:(kill h a.block).length=h.length:=by simp [kill]
            by_cases hfit':n+m≤c'
            · -- in place
              rcases hor with ⟨rfl,hcap⟩ | ⟨_,hc0⟩
              · obtain ⟨hB,hsize,cs,fr,hk,hcsz,hf⟩:=(R.obj _ ob p hob hp hl1).own hr1
                have hrw:p.rw=true:=(R.obj _ ob p hob hp hl1).rw.trans hr1
                have hcap':=hcap hrw
                rw [← hze] at hcap'
                have hnl:=hS.newsLen
                have hmul:(n+m) * i.size≤c' * i.size:=Nat.mul_le_mul_right _ hfit'
                rw [Nat.add_mul] at hmul
                have hrun:=run_append_room_src (P:=P) w st xt ty ob.elem i hu hi p.block (p.off+a.off) n c' x' m xs' hS hfit'
                  (fun j hj=>by rw [cell_of hk]; rw [Array.getElem?_eq_getElem (by omega)]; rfl) (fun j hj=>frozen_no hk (hf _ (by omega)))
                rw [wset_eq] at hrun
                have hdead:∀ (o:Nat) (ob':Ob) (p':Pl),(kill h a.block)[o]?=some ob'→φ[o]?=some p'→ob'.live=true→ob'.rw=true→p'.block≠p.block:=by
                  intro o ob' p' ho' hp' hl' hr'
                  simp only [kill,getElem?_modify'] at ho'
                  split at ho'
                  · simp only [Option.map_eq_some_iff] at ho'
                    obtain ⟨ob2,_,rfl⟩:=ho'
                    cases hl'
                  · rename_i hne
                    exact R.apart o a.block ob' ob p' p ho' hob hp' hp hl' hl1 hr' hr1 (Ne.symm hne)
                have Rw:=Rk.world (wset_below (vs:=xs') hB (p.off+a.off+n * i.size)) p.block (fun k hk' _=>wset_other hk' _) hdead
                obtain ⟨cs2,hk2,hcl⟩:=wset_heap (vs:=xs') (p.off+a.off+n * i.size) p.block hk
                have hcs2:cs2.size=cs.size:=by
                  have:=congrArg List.length hcl
                  have hs:∀ (vs l:List Value) (i:Nat),(setL l i vs).length=l.length:=by
                    intro vs
                    induction vs with
                    | nil=>intro l i; rfl
                    | cons v vs ih=>intro l i; simp [setL,ih]
                  rw [hs] at this
                  simpa using this
                have hollen:=k3.length
                have Rn:=Rw.adopt ⟨true,true,ob.elem,old++xs⟩ ⟨p.block,p.off+a.off,p.size,i.size,true⟩ hsz ⟨rfl,by simp [hook,hok],fun j v hj=>?_,fun _=>⟨hB,?_,cs2,fr,hk2,hcs2.trans hcsz,hf⟩,fun hh=>(by cases hh),fun _=>⟨fun cs3 e3 fr3 h3=>(by rw [hk2] at h3; cases h3; exact ((R.obj _ ob p hob hp hl1).mark hr1).1 _ _ _ hk),((R.obj _ ob p hob hp hl1).mark hr1).2.imp id fun hm=>by unfold World.frozen? at hm ⊢; simp only [hk2]; simp only [hk] at hm; exact hm⟩⟩ hdead
                · refine ⟨_,_,_,hrun,List.prefix_append _ _,Rn,?_⟩
                  have:=relV_row Rw ⟨p.block,p.off+a.off,p.size,i.size,true⟩ (n:=n+m) (c:=n+m) (c':=c') hfit' hfit' (fun _=>hcap')
                  rw [hkl] at this
                  exact this
                · -- a cell of the new object
                  obtain ⟨v',hv1,hv2⟩:=(k3.append hxs).get j v hj
                  refine ⟨v',?_,hv2⟩
                  rw [cell_of hk2]
                  have hget:=setL_get xs' cs.toList (p.off+a.off+n * i.size) (p.off+a.off+j) (by simp; omega)
                  have h4:cs2[p.off+a.off+j]?=cs2.toList[p.off+a.off+j]?:=by simp
                  rw [h4,hcl,hget]
                  by_cases hj2:j<n * i.size
                  · rw [if_neg (by omega)]
                    rw [List.getElem?_append_left (by omega)] at hv1
                    have:=k2 j v' hv1
                    rw [cell_of hk] at this
                    simpa using this
                  · rw [List.getElem?_append_right (by omega)] at hv1
                    have hjl:j - old'.length<xs'.length:=(List.getElem?_eq_some_iff.1 hv1).1
                    rw [if_pos (by omega),show p.off+a.off+j - (p.off+a.off+n * i.size)=j - old'.length by omega]
                    exact hv1
                · show p.off+a.off+(old++xs).length≤p.size
                  simp only [List.length_append]
                  omega
              · omega
            · -- a new array
              have hfc:(Builtin.firstCells i.size n (.slice (some a') n c')).run P w.drew=.ok old'.toArray w.drew:=by
                rcases hor with ⟨rfl,_⟩ | ⟨rfl,_⟩
                · exact run_firstCells_some w.drew i.size n _ n c' old' k1 (fun j u hj=>by rw [addr_add]; exact k2 j u hj)
                · have:old'=[]:=List.eq_nil_of_length_eq_zero (by simpa using k1)
                  subst this
                  exact run_firstCells_some w.drew i.size 0 _ 0 c' [] (by simp) (fun j u hj=>by simp at hj)
              have:=append_grows (P:=P) (base:=some a') hel Rk hS hxs hok hfc k3 hook (cellsAt_len hold) ty hfit' hb1 hb2
              rw [hkl] at this
              exact this
          · cases e
  · cases e
theorem clear_sound (R:Rel P B w0 φ h w) {t:TypeId} {x x' v:Value} {h2:Hp} (e:aclear P h t x=some (v,h2)) (hx:RelV φ x x') (ty:TypeId) :
    EndsV P B w0 φ w (Builtin.clear_ #[t] ty #[x']) v h2:=by
  unfold aclear at e
  simp only [Option.bind_eq_some_iff,Prod.exists] at e
  obtain ⟨el,sz,bt,zs,hel,e⟩:=e
  obtain ⟨hu,hsz,hbt,z,hz,rfl,hzsc,hzs,hpos⟩:=elOf_spec hel
  have hzc:z.cells.size=sz:=by simpa using hzs
  split at e
  · obtain ⟨_,_,rfl⟩:=hx
    injection e with e; injection e with e1 e2; subst e1; subst e2
    exact ⟨φ,undef,w,by simp [Builtin.clear_,und hu,undef],List.prefix_refl _,R,relV_undef φ⟩
  · rename_i a n c
    obtain ⟨p,c',a',hp,hsp,hcc,hnc,rfl,hor⟩:=hx
    split at e
    · rename_i hn
      subst hn
      injection e with e; injection e with e1 e2; subst e1; subst e2
      exact ⟨φ,undef,w,by simp [Builtin.clear_,und hu,undef],List.prefix_refl _,R,relV_undef φ⟩
    · rename_i hn
      split at e
      · rename_i hcond
        obtain ⟨hea,hcan⟩:=hcond
        injection e with e; injection e with e1 e2; subst e1; subst e2
        rcases hor with ⟨rfl,hcap⟩ | ⟨h0,_⟩
        · have hz2:Builtin.zeroCells z.cells n=(Builtin.zeroCells z.cells n).toList.toArray:=by simp
          have hrow:(Builtin.zeroCells z.cells n).toList=rep n z.cells.toList:=madeRow n z.cells
          have hok:(rep n z.cells.toList).all okCell=true:=all_ok (rep_scal hzsc n)
          have hl:(rep n z.cells.toList).length=n * sz:=by rw [rep_length]; simp [hzc]
          obtain ⟨ob,ho,hlv,hr,hi⟩:=canSet_some hcan
          obtain ⟨hB,hsize,cw,fr,hk,hcsz,hf⟩:=(R.obj _ ob p ho hp hlv).own hr
          have hst:=run_stores (P:=P) (vs:=rep n z.cells.toList) 0 p.block (p.off+a.off) hk (by simpa [hcsz] using hf) (by omega) (all_one (φ:=φ) (relC_scals (rep_scal hzsc n)) hok)
          refine ⟨φ,.tuple #[],wset w p.block (p.off+a.off) (rep n z.cells.toList),?_,List.prefix_refl _,Rel.sets hp _ _ _ _ _ R (by rw [hl]; exact hcan) (relC_scals (rep_scal hzsc n)) hok,relV_undef φ⟩
          cases n with
          | zero=>exact absurd rfl hn
          | succ n =>
            simp only [Builtin.clear_,Sem.run_bind,und hu,Result.andThen_ok,zeroR hz,hrow,Option.toList]
            simp only [Nat.add_zero] at hst
            simp [hst,und hu,zeroR hz,hrow]
        · exact absurd h0 hn
      · cases e
  · cases e
theorem copy_sound (R:Rel P B w0 φ h w) {t st:TypeId} {d s d' s' v:Value} {h2:Hp} (e:acopy P h t d s=some (v,h2)) (hd:RelV φ d d') (hs:RelV φ s s') (ty:TypeId) :
    EndsV P B w0 φ w (Builtin.copy_ #[t,st] ty #[d',s']) v h2:=by
  unfold acopy at e
  simp only [Option.bind_eq_some_iff,Prod.exists] at e
  obtain ⟨el,sz,bt,zs,hel,e⟩:=e
  obtain ⟨hu,hsz,hbt,z,hz,rfl,hzsc,hzs,hpos⟩:=elOf_spec hel
  have len:∀ (a:Option Addr) (n c:Nat),(Builtin.lenOf (.slice a n c)).run P w=.ok n w:=fun _ _ _=>rfl
  have nothing:∀ (b:Addr) (m c:Nat),(Builtin.firstCells sz 0 (.slice (some b) m c)).run P w=.ok #[] w:=fun b m c=>by
    have:=run_firstCells_some (P:=P) w sz 0 b m c [] (by simp) (fun j u hj=>by simp at hj)
    simpa using this
  split at e
  · obtain ⟨_,_,rfl⟩:=hd
    obtain ⟨_,_,rfl⟩:=hs
    injection e with e; injection e with e1 e2; subst e1; subst e2
    exact ⟨φ,.int .i64 0,w,by simp [Builtin.copy_,und hu,len,szR hsz,run_firstCells_none]; rfl,List.prefix_refl _,R,mkV rfl⟩
  · obtain ⟨_,_,rfl⟩:=hd
    obtain ⟨p,c',a',hp,hsp,hcc,hnc,rfl,hor⟩:=hs
    injection e with e; injection e with e1 e2; subst e1; subst e2
    exact ⟨φ,.int .i64 0,w,by simp [Builtin.copy_,und hu,len,szR hsz,nothing]; rfl,List.prefix_refl _,R,mkV rfl⟩
  · obtain ⟨p,c',a',hp,hsp,hcc,hnc,rfl,hor⟩:=hd
    obtain ⟨_,_,rfl⟩:=hs
    injection e with e; injection e with e1 e2; subst e1; subst e2
    exact ⟨φ,.int .i64 0,w,by simp [Builtin.copy_,und hu,len,szR hsz,run_firstCells_none,storeCells]; rfl,List.prefix_refl _,R,mkV rfl⟩
  · rename_i a n c b m c2
    obtain ⟨p,c',a',hp,hsp,hcc,hnc,rfl,hor⟩:=hd
    obtain ⟨p2,c2',b',hp2,hsp2,hcc2,hnc2,rfl,hor2⟩:=hs
    split at e
    · rename_i h0
      injection e with e; injection e with e1 e2; subst e1; subst e2
      have h0':Nat.min m n=0:=h0
      exact ⟨φ,.int .i64 0,w,by simp [Builtin.copy_,und hu,len,szR hsz,h0,h0',nothing,storeCells]; rfl,List.prefix_refl _,R,mkV rfl⟩
    · rename_i h0
      split at e
      · rename_i hcan
        simp only [Option.map_eq_some_iff,Prod.mk.injEq] at e
        obtain ⟨cs,hcs,rfl,rfl⟩:=e
        have hok:=R.okCells hcs
        obtain ⟨vs',k1,k2,k3⟩:=R.cells hp2 _ _ cs hcs
        rcases hor with ⟨rfl,hcap⟩ | ⟨hn0,_⟩
        rotate_left
        · omega
        rcases hor2 with ⟨rfl,_⟩ | ⟨hm0,_⟩
        rotate_left
        · omega
        have hfc:=run_firstCells_some (P:=P) w sz (min m n) ⟨p2.block,p2.off+b.off,none⟩ m c2' vs' k1 (fun j u hj=>by rw [addr_add]; exact k2 j u hj)
        obtain ⟨ob,ho,hlv,hr,hi⟩:=canSet_some hcan
        obtain ⟨hB,hsize,cw,fr,hk,hcsz,hf⟩:=(R.obj _ ob p ho hp hlv).own hr
        have hl:=cellsAt_len hcs
        have hst:=run_stores (P:=P) (vs:=vs') 0 p.block (p.off+a.off) hk (by simpa [hcsz] using hf) (by omega) (all_one k3 hok)
        simp only [Nat.add_zero] at hst
        refine ⟨φ,.int .i64 (min m n:Nat),wset w p.block (p.off+a.off) vs',?_,List.prefix_refl _,Rel.sets hp _ _ _ _ _ R (by rw [hl]; exact hcan) k3 hok,mkV rfl⟩
        have hfc':(Builtin.firstCells sz (Nat.min m n) (.slice (some ⟨p2.block,p2.off+b.off,none⟩) m c2')).run P w=.ok vs'.toArray w:=hfc
        simp [Builtin.copy_,und hu,len,szR hsz,hfc',hst]
        rfl
      · cases e
  · cases e
end
end Go.Proofs.Ytmpgpkdijfcfhaa.Hz
namespace Go.Proofs.Ytmpgpkdijfcfhaa.Hz
open Go.RowKit Go.Lib
set_option linter.unusedVariables false
set_option linter.unusedSimpArgs false
section
variable {P:Program} {B:Bd} {w0 w w':World} {φ:Inj} {h:Hp}
theorem eev_sound (R:Rel P B w0 φ h w) {ρ ρ':Operand→Value} {o:Oper} {v:Value} {h2:Hp} (hρ:∀ x,RelV φ (ρ x) (ρ' x)) (e:eev P h ρ o.op=some (v,h2)):Ends P B w0 φ w (execOp ρ' o) v h2:=by
  obtain ⟨dst,op,type,pos,after,guard⟩:=o
  unfold eev at e
  simp only at e
  split at e
  · -- box
    rename_i t x
    simp only [Option.bind_eq_some_iff] at e
    obtain ⟨cs,hcs,e⟩:=e
    split at e
    · rename_i hok
      simp only [Option.map_eq_some_iff,Prod.mk.injEq] at e
      obtain ⟨sz,hsz,rfl,rfl⟩:=e
      have r:=relV_cellsO (hρ x) hcs
      have R2:=R.made (cs:=(ρ' x).cells) hsz hok (rest:=[]) (by simp) r w.drawn
      refine EndsV.next ⟨_,.pointer (some ⟨w.heap.size,0,none⟩),_,?_,List.prefix_append _ _,R2,relV_new R _⟩
      simp [Instr.box,newVar,newRow]
    · cases e
  · -- alloc
    rename_i t
    simp only [Option.bind_eq_some_iff] at e
    obtain ⟨z,hz,e⟩:=e
    split at e
    · rename_i hsc
      simp only [Option.map_eq_some_iff,Prod.mk.injEq] at e
      obtain ⟨sz,hsz,rfl,rfl⟩:=e
      have R2:=R.made (cs:=z.cells) hsz (all_ok hsc) (rest:=[]) (by simp) (rel_zero hsc) w.drawn
      refine EndsV.next ⟨_,.pointer (some ⟨w.heap.size,0,none⟩),_,?_,List.prefix_append _ _,R2,relV_new R _⟩
      simp [Instr.alloc,newVar,newRow,zeroR hz]
    · cases e
  · -- store
    rename_i t x y
    split at e
    · rename_i a ha
      have hc:=hρ x
      rw [ha] at hc
      obtain ⟨p,hp,hsp,hx⟩:=hc
      simp only [Option.bind_eq_some_iff] at e
      obtain ⟨cs,hcs,e⟩:=e
      split at e
      · rename_i hcond
        obtain ⟨hsz,hok,hcan⟩:=hcond
        injection e with e; injection e with e1 e2; subst e1; subst e2
        have r:=relV_cellsO (hρ y) hcs
        obtain ⟨ob,ho,hl,hr,hi⟩:=canSet_some hcan
        obtain ⟨hB,hsize,cw,fr,hk,hcsz,hf⟩:=(R.obj _ ob p ho hp hl).own hr
        have hrl:=r.length
        have hst:=run_stores (P:=P) (vs:=(ρ' y).cells.toList) 0 p.block (p.off+a.off) hk (by simpa [hcsz] using hf) (by omega) (all_one r hok)
        have hcell:(ρ' y).cells.size=cs.length:=by simpa using hrl.symm
        have hgo:(Instr.storeAt t (ρ' x) (ρ' y)).run P w=.ok () (wset w p.block (p.off+a.off) (ρ' y).cells.toList):=by
          simp only [Instr.storeAt,hx,Instr.sureAddr,Sem.run_bind,Sem.run_pure,Result.andThen_ok,storeVar,szR hsz.symm,hcell]
          simpa using hst
        have hgo2:(execOp ρ' { dst:=dst,op:=.store t x y,type:=type,pos:=pos,after:=after,guard:=guard }).run P w=.ok .skip (wset w p.block (p.off+a.off) (ρ' y).cells.toList):=by
          simp only [execOp,Sem.run_bind,hgo,Result.andThen_ok]
          rfl
        exact ⟨φ,undef,_,.inr ⟨hgo2,rfl⟩,List.prefix_refl _,Rel.sets hp _ _ _ _ _ R hcan r hok,relV_undef φ⟩
      · cases e
    · cases e
  · -- a slice literal
    rename_i t n parts
    simp only [Option.bind_eq_some_iff,Prod.exists] at e
    obtain ⟨el,sz,bt,zs,hel,e⟩:=e
    obtain ⟨hu,hsz,hbt,z,hz,rfl,hzsc,hzs,hpos⟩:=elOf_spec hel
    have hzc:z.cells.size=sz:=by simpa using hzs
    split at e
    · rename_i hb
      simp only [Option.bind_eq_some_iff] at e
      obtain ⟨cs,hcs,e⟩:=e
      split at e
      · rename_i hok
        injection e with e; injection e with e1 e2; subst e1; subst e2
        have hstart:All2 (RelC φ) (rep n z.cells.toList) ((Array.range (n * z.cells.size)).map (fun i=>z.cells[i % z.cells.size]!)).toList:=by
          rw [madeRow]
          exact relC_scals (rep_scal hzsc n)
        obtain ⟨cells2,hf,r⟩:=rel_fill (φ:=φ) (parts':=parts.toList.map fun (i,x)=>(i,ρ' x)) (All2.map2 (T:=fun (p q:Nat × Value)=>p.1=q.1∧RelV φ p.2 q.2) (fun p:Nat × Operand=>(p.1,ρ p.2)) _ fun c _=>⟨rfl,hρ _⟩) hstart hcs
        have R2:=R.made (cs:=cells2) hsz hok (rest:=[]) (by simp) r w.drawn
        have hfl:∀ {place:Nat→Option (Nat × Nat)} (ps:List (Nat × Value)) (c c2:Array Value),Instr.fill place c ps=some c2→c2.size=c.size:=by
          intro place ps
          induction ps with
          | nil=>intro c c2 k; injection k with k; rw [k]
          | cons q ps ih =>
            intro c c2 k
            obtain ⟨i,v⟩:=q
            simp only [Instr.fill] at k
            split at k
            · cases k
            · split at k
              · cases k
              · have:=ih _ _ k
                rw [this]
                rename_i off size _ _
                have hs:∀ (vs l:List Value) (i:Nat),(setL l i vs).length=l.length:=by
                  intro vs
                  induction vs with
                  | nil=>intro l i; rfl
                  | cons v vs ih=>intro l i; simp [setL,ih]
                have hz:=congrArg List.length (zipFold off v.cells c)
                rw [hs] at hz
                simpa using hz
        have hsz2:cells2.size=n * sz:=by
          rw [hfl _ _ _ hf]
          simp [hzc]
        refine EndsV.next ⟨_,.slice (some ⟨w.heap.size,0,none⟩) n n,_,?_,List.prefix_append _ _,R2,relV_row R _ (Nat.le_refl _) (Nat.le_refl _) fun _=>?_⟩
        · have hbig:¬ (n * sz > 2 ^ 24):=by omega
          unfold Instr.buildSlice
          simp only [Sem.run_bind,und hu,Result.andThen_ok,szR hsz,hbig,if_false]
          by_cases h0:n * sz=0
          · rw [if_pos h0,pure_bind]
            have he:(Array.map (fun x=>(#[]:Array Value)[x % (#[]:Array Value).size]!) (Array.range (n * sz)))=(Array.range (n * z.cells.size)).map (fun i=>z.cells[i % z.cells.size]!):=by
              rw [hzc,h0]; simp
            rw [he,Array.toList_map,hf]
            simp [newRow]
          · rw [if_neg h0]
            simp only [Sem.run_bind,zeroR hz,Result.andThen_ok,pure_bind]
            rw [hzc] at hf
            rw [hzc,Array.toList_map,hf]
            simp [newRow]
        · show 0+n * sz≤cells2.size
          omega
      · cases e
    · cases e
  · -- make
    rename_i t l c
    split at e
    · rename_i n m hl hc
      simp only [Option.bind_eq_some_iff,Prod.exists] at e
      obtain ⟨el,sz,bt,zs,hel,e⟩:=e
      obtain ⟨hu,hsz,hbt,z,hz,rfl,hzsc,hzs,hpos⟩:=elOf_spec hel
      have hzc:z.cells.size=sz:=by simpa using hzs
      split at e
      · rename_i hcond
        obtain ⟨rfl,h0,hb1,hb2⟩:=hcond
        injection e with e; injection e with e1 e2; subst e1; subst e2
        obtain ⟨k,rfl⟩:=Int.eq_ofNat_of_zero_le h0
        have hbig:big=70368744177664:=rfl
        have hok:=all_ok (rep_scal hzsc k)
        have R2:=R.made (e:=el) (cells:=rep k z.cells.toList) (cs:=(Array.range (k * z.cells.size)).map (fun i=>z.cells[i % z.cells.size]!)) hsz hok (rest:=[]) (by rw [madeRow]; simp) (relC_scals (rep_scal hzsc k)) w.drawn
        have hl':=hρ l
        have hc':=hρ c
        rw [hl] at hl'
        rw [hc] at hc'
        obtain ⟨i,hi,rfl,rfl,hiz⟩:=infoR hsz hbt hz
        have hmul:k * i.bytes=i.bytes * k:=Nat.mul_comm _ _
        have hrun:=run_make (P:=P) w t el i z hu hi hiz .i64 .i64 (k:Int) (k:Int) h0 (Int.le_refl _) (by omega) (by omega)
        simp only [Int.toNat_natCast] at hrun
        have hrow:=relV_row R ⟨w.heap.size,0,((Array.range (k * z.cells.size)).map (fun i=>z.cells[i % z.cells.size]!)).size,i.size,true⟩ (n:=k) (Nat.le_refl k) (Nat.le_refl k) fun _=>by
          show 0+k * i.size≤_
          simp [hzc]
        refine EndsV.next ⟨_,.slice (some ⟨w.heap.size,0,none⟩) k k,_,?_,List.prefix_append _ _,R2,hrow⟩
        rw [rInt (φ:=φ) hl',rInt (φ:=φ) hc',hrun,← hzc]
        rfl
      · cases e
    · cases e
  · -- []byte(s)
    rename_i s d x
    split at e
    · rename_i b hx
      have hc:=hρ x
      rw [hx] at hc
      simp only [Option.bind_eq_some_iff] at e
      obtain ⟨el,hel,e⟩:=e
      split at e
      · rename_i hcond
        simp only [Bool.and_eq_true,beq_iff_eq] at hcond
        obtain ⟨⟨hs,hk⟩,hsz⟩:=hcond
        injection e with e; injection e with e1 e2; subst e1; subst e2
        have hrun:=run_convert_string_bytes (P:=P) w s d el b (strR hs) (elemR hel) (intR hk)
        have hge:=grownCap_ge w b.size 0 el
        have hsc:(bytesL b).all scal=true:=List.all_eq_true.2 fun a ha=>by
          simp only [bytesL,List.mem_map] at ha
          obtain ⟨c,_,rfl⟩:=ha
          rfl
        have hsize:(bytesCells w el b).size=grownCap w b.size 0 el:=by
          have:b.data.size=b.size:=rfl
          simp only [bytesCells,Array.size_append,Array.size_map,Array.size_replicate,this]
          omega
        have R2:=R.new (w':=bytesWorld w el b) (e:=el) (esz:=1) (cells:=bytesL b) ⟨rfl,rfl,rfl,by rw [bytesWorld_size]; omega,fun k hk=>bytesWorld_at_old w el b k hk⟩ hsz (bytesWorld_at_new w el b) (Nat.le_succ _) (.inl hk) (fun i hi=>by omega) (all_ok hsc)
          (rest:=(Array.replicate (grownCap w b.size 0 el - b.size) (Value.int .u8 0)).toList) ⟨bytesL b,by simp only [bytesCells,Array.toList_append,Array.toList_map]; rfl,relC_scals hsc⟩
        refine EndsV.next ⟨_,_,_,?_,List.prefix_append _ _,R2,relV_row R ⟨w.heap.size,0,(bytesCells w el b).size,1,true⟩ hge hge fun _=>?_⟩
        · rw [rStr (φ:=φ) hc]; exact hrun
        · show 0+_ * 1≤(bytesCells w el b).size
          omega
      · cases e
    · rename_i a n c hx
      have hc:=hρ x
      rw [hx] at hc
      split at e
      · rename_i hcond
        obtain ⟨rfl,hk,hn,hea,hcan⟩:=hcond
        injection e with e; injection e with e1 e2; subst e1; subst e2
        obtain ⟨p,c',a',hp,hsp,hcc,hnc,hxe,hor⟩:=hc
        rcases hor with ⟨rfl,hcap⟩ | ⟨h0,_⟩
        rotate_left
        · omega
        obtain ⟨ob,ho,hl,hr,-⟩:=canSet_some hcan
        simp only [Option.bind_eq_some_iff] at hk
        obtain ⟨el,hel,hel2⟩:=hk
        have hoe:ob.elem=el:=by
          rw [hel] at hea
          simpa [elAt,ho] using hea
        have hu:intOf' P ob.elem=some .u8:=by rw [hoe]; exact hel2
        obtain ⟨hB,hsz,cs,fr,hk2,hcs,hf⟩:=(R.obj _ ob p ho hp hl).own hr
        have R2:=R.freeze ho hp hl hr hu
        refine EndsV.next ⟨φ,ρ' x,w.freeze ⟨p.block,p.size,none⟩ 1,?_,List.prefix_refl _,R2,?_⟩
        · have hsh:w.shape? p.block=some (ob.elem,p.size):=by simp [World.shape?,hk2,hcs]
          rw [hxe]
          simp [convert,und (elemR hel),und (intR hel2),markStringish,shape,Sem.run,hsh]
        · rw [hxe]
          exact ⟨p,c',_,hp,hsp,hcc,hnc,rfl,.inl ⟨rfl,hcap⟩⟩
      · cases e
    · cases e
  · rename_i args argTypes
    split at e
    · rename_i st xt s x ht hx
      obtain rfl:argTypes=#[st,xt]:=by rw [← Array.toList_inj]; exact ht
      obtain rfl:args=#[s,x]:=by rw [← Array.toList_inj]; exact hx
      obtain ⟨φ',v',w',h1,h3⟩:=append_sound R e (hρ s) (hρ x) type
      refine ⟨φ',v',w',.inl ?_,h3⟩
      simp [execOp,resolve,invoke,builtin,h1]
    · cases e
  · rename_i args argTypes
    split at e
    · rename_i t x ht hx
      obtain rfl:argTypes=#[t]:=by rw [← Array.toList_inj]; exact ht
      obtain rfl:args=#[x]:=by rw [← Array.toList_inj]; exact hx
      obtain ⟨φ',v',w',h1,h3⟩:=clear_sound R e (hρ x) type
      refine ⟨φ',v',w',.inl ?_,h3⟩
      simp [execOp,resolve,invoke,builtin,h1]
    · cases e
  · rename_i args argTypes
    split at e
    · rename_i t st d s ht hx
      obtain rfl:argTypes=#[t,st]:=by rw [← Array.toList_inj]; exact ht
      obtain rfl:args=#[d,s]:=by rw [← Array.toList_inj]; exact hx
      obtain ⟨φ',v',w',h1,h3⟩:=copy_sound (st:=st) R e (hρ d) (hρ s) type
      refine ⟨φ',v',w',.inl ?_,h3⟩
      simp [execOp,resolve,invoke,builtin,h1]
    · cases e
  · cases e
end
end Go.Proofs.Ytmpgpkdijfcfhaa.Hz
