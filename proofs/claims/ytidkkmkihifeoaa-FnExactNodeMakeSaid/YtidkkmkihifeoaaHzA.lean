/- The plain heap: objects of cells, frames, and what each operation of the loaded code does to them. No world, no tape. -/
import Derived.Below
import Derived.Orders
import Derived.Laws.Sem
import Derived.Laws.World
namespace Go.Proofs.Ytidkkmkihifeoaa.Hz
open Go.RowKit
set_option linter.unusedVariables false
set_option linter.unusedSimpArgs false

/-- An object: is it still there (an append uses its source up), is it the call's own, its elements' type, its cells. -/
structure Ob where
  live : Bool
  rw : Bool
  elem : TypeId
  cells : List Value
abbrev Hp := List Ob
structure St where
  tm : List Value
  hp : Hp

/-- A value of which nothing is known. -/
def junk : Value := .chan none

/-- A constant as it stands for itself. -/
def scal : Value → Bool
  | .bool _ | .int _ _ | .string _ | .nilFunc | .nilIface => true
  | .pointer none => true
  | .slice none 0 0 => true
  | _ => false
def cst (v : Value) : Value :=
  match v with
  | .agg cs => if cs.all scal then .agg cs else junk
  | .tuple cs => if cs.isEmpty then .tuple #[] else junk
  | v => if scal v then v else junk

def ev (tm : List Value) : Operand → Value
  | .tmp t => (tm[t]?).getD undef
  | .const v => cst v
  | .global _ => junk
  | .func f => .func (.func f) #[] #[]

def cellAt (h : Hp) (o i : Nat) : Option Value :=
  match h[o]? with
  | some ob => if ob.live then ob.cells[i]? else none
  | none => none
def cellsAt (h : Hp) (o i : Nat) : Nat → Option (List Value)
  | 0 => some []
  | n + 1 => (cellAt h o i).bind fun v => (cellsAt h o (i + 1) n).map fun vs => v :: vs

def elAt (h : Hp) (o : Nat) : Option TypeId := (h[o]?).map (·.elem)
/-- A store of one cell. -/
def setAt (h : Hp) (o i : Nat) (v : Value) : Hp := h.modify o fun ob => { ob with cells := ob.cells.set i v }
def setsAt (h : Hp) (o i : Nat) : List Value → Hp
  | [] => h
  | v :: vs => setsAt (setAt h o i v) o (i + 1) vs
def canSet (h : Hp) (o i n : Nat) : Bool :=
  match h[o]? with
  | some ob => ob.live && ob.rw && decide (i + n ≤ ob.cells.length)
  | none => false
def kill (h : Hp) (o : Nat) : Hp := h.modify o fun ob => { ob with live := false }

section
variable (P : Program)
def szOf (t : TypeId) : Option Nat := (P.info? t).map (·.size)
def byOf (t : TypeId) : Option Nat := (P.info? t).map (·.bytes)
def zeroOf (t : TypeId) : Option Value := (P.info? t).bind (·.zero)
def aggOf (t : TypeId) : Option Bool := (P.underlying t).map fun
  | .struct _ | .array _ _ => true
  | _ => false
def elemOf (t : TypeId) : Option TypeId :=
  match P.underlying t with
  | some (.slice e) => some e
  | _ => none
def strOf (t : TypeId) : Bool :=
  match P.underlying t with
  | some .string => true
  | _ => false
def intOf' (t : TypeId) : Option IntKind :=
  match P.underlying t with
  | some (.int k) => some k
  | _ => none
/-- A field: where it begins, its type. -/
def fldOf (t : TypeId) (f : Nat) : Option (Nat × TypeId) :=
  match P.underlying t with
  | some (.struct fs) => (fs[f]?).map fun x => (x.offset, x.type)
  | _ => none
end

/-! ### What the operations do -/
def cellsL : Value → List Value
  | .agg cs => cs.toList
  | v => [v]
/-- What may stand in a cell. -/
def okCell : Value → Bool
  | .bool _ | .int _ _ | .string _ | .pointer _ | .slice _ _ _ | .func _ _ _ | .nilFunc | .nilIface => true
  | _ => false
def capOk : Value → Bool
  | .bool _ | .int _ _ | .string _ | .pointer _ | .slice _ _ _ => true
  | _ => false
def cellsO : Value → Option (List Value)
  | .agg cs => some cs.toList
  | v => if okCell v then some [v] else none
def setL (cs : List Value) (off : Nat) : List Value → List Value
  | [] => cs
  | v :: vs => setL (cs.set off v) (off + 1) vs
def fillL (place : Nat → Option (Nat × Nat)) (cs : List Value) : List (Nat × Value) → Option (List Value)
  | [] => some cs
  | (i, v) :: rest =>
    match place i with
    | none => none
    | some (off, size) => (cellsO v).bind fun vs => if vs.length = size ∧ off + size ≤ cs.length then fillL place (setL cs off vs) rest else none
def rep (n : Nat) (zs : List Value) : List Value := (List.replicate n zs).flatten
def bytesL (s : ByteArray) : List Value := s.data.toList.map fun b => .int .u8 b.toNat
def strL : List Value → Option (List UInt8)
  | [] => some []
  | .int .u8 n :: vs => (strL vs).map fun bs => UInt8.ofNat n.toNat :: bs
  | _ => none

inductive Sc where
  | bool | int | str
section
variable (P : Program)

def scOf (t : TypeId) : Option Sc :=
  match P.underlying t with
  | some .bool => some .bool
  | some (.int _) => some .int
  | some .string => some .str
  | _ => none
def ksOf : List Field → Nat → Option (List Sc)
  | [], _ => some []
  | f :: fs, i => if f.name ≠ "_" ∧ f.offset = i then (scOf P f.type).bind fun s => (ksOf fs (i + 1)).map fun ss => s :: ss else none
/-- A struct type whose fields are plain cells, that the model compares field by field: the fields' kinds. -/
def eqKs (t : TypeId) : Option (List Sc) :=
  if !P.eqGuardType P.depth t && !P.stoodInHeld t then
    match P.underlying t with
    | some (.struct fs) => ksOf P fs.toList 0
    | _ => none
  else none
def eqCell : Sc → Value → Value → Option Bool
  | .bool, .bool a, .bool b => some (a == b)
  | .int, .int k a, .int k' b => if k = k' then some (a == b) else none
  | .str, .string a, .string b => some (a.toList == b.toList)
  | _, _, _ => none
def eqCells : List Sc → List Value → List Value → Option Bool
  | [], [], [] => some true
  | k :: ks, a :: as, b :: bs => (eqCell k a b).bind fun x => (eqCells ks as bs).map fun y => x && y
  | _, _, _ => none
def isBool (t : TypeId) : Bool := match P.underlying t with | some .bool => true | _ => false
def isSlice (t : TypeId) : Bool := match P.underlying t with | some (.slice _) => true | _ => false

def abin (op : BinOp) (t : TypeId) (x y : Value) : Option Value :=
  match x, y with
  | .int k a, .int k' b =>
    match op with
    | .shl => if b < 0 then none else some (.int k (k.wrap (a * 2 ^ (min b.toNat k.bits))))
    | .shr => if b < 0 then none else some (.int k (a.fdiv (2 ^ (min b.toNat k.bits))))
    | op => if k ≠ k' then none else
      match op with
      | .add => some (.int k (k.wrap (a + b)))
      | .sub => some (.int k (k.wrap (a - b)))
      | .mul => some (.int k (k.wrap (a * b)))
      | .quo => if b = 0 then none else some (.int k (k.wrap (a.tdiv b)))
      | .rem => if b = 0 then none else some (.int k (a.tmod b))
      | .and => some (.int k (k.wrap (BitVec.ofInt k.bits a &&& BitVec.ofInt k.bits b).toNat))
      | .or => some (.int k (k.wrap (BitVec.ofInt k.bits a ||| BitVec.ofInt k.bits b).toNat))
      | .xor => some (.int k (k.wrap (BitVec.ofInt k.bits a ^^^ BitVec.ofInt k.bits b).toNat))
      | .eql => some (.bool (a == b))
      | .neq => some (.bool (a != b))
      | .lss => some (.bool (decide (a < b)))
      | .leq => some (.bool (decide (a ≤ b)))
      | .gtr => some (.bool (decide (a > b)))
      | .geq => some (.bool (decide (a ≥ b)))
      | _ => none
  | .string a, .string b =>
    match op with
    | .add => if a.size + b.size ≤ 9223372036854775807 then some (.string (a ++ b)) else none
    | .eql => some (.bool (a.toList == b.toList))
    | .neq => some (.bool !(a.toList == b.toList))
    | .lss => some (.bool (Op.bytesLess a.toList b.toList))
    | .leq => some (.bool (Op.bytesLess a.toList b.toList || a.toList == b.toList))
    | .gtr => some (.bool !(Op.bytesLess a.toList b.toList || a.toList == b.toList))
    | .geq => some (.bool !(Op.bytesLess a.toList b.toList))
    | _ => none
  | .bool a, .bool b => if isBool P t then (match op with | .eql => some (.bool (a == b)) | .neq => some (.bool !(a == b)) | _ => none) else none
  | .slice a _ _, .slice none 0 0 => if isSlice P t then (match op with | .eql => some (.bool a.isNone) | .neq => some (.bool !a.isNone) | _ => none) else none
  | .agg xs, .agg ys => (eqKs P t).bind fun ks => (match op with | .eql => (eqCells ks xs.toList ys.toList).map fun b => .bool b | .neq => (eqCells ks xs.toList ys.toList).map fun b => .bool !b | _ => none)
  | _, _ => none

def aun (op : UnOp) (x : Value) : Option Value :=
  match op, x with
  | .neg, .int k n => some (.int k (k.wrap (0 - n)))
  | .not, .bool b => some (.bool !b)
  | _, _ => none

def bound (d : Int) : Option Value → Option Int
  | none => some d
  | some (.int _ i) => some i
  | some _ => none

def asl (t : TypeId) (x : Value) (lo hi mx : Option Value) : Option Value :=
  match x with
  | .string s =>
    if !strOf P t || mx.isSome then none else
    (bound 0 lo).bind fun l => (bound s.size hi).bind fun h => if 0 ≤ l ∧ l ≤ h ∧ h ≤ s.size then some (.string (s.extract l.toNat h.toNat)) else none
  | .slice none 0 0 => (elemOf P t).bind fun e => (szOf P e).bind fun _ => (bound 0 lo).bind fun l => (bound 0 hi).bind fun h => if l = 0 ∧ h = 0 ∧ mx.isNone then some (.slice none 0 0) else none
  | _ => none

/-- A cut of a slice that is not nil: the object's elements are asked for. -/
def asl2 (h : Hp) (t : TypeId) (x : Value) (lo hi mx : Option Value) : Option Value :=
  match x with
  | .slice (some a) n c =>
    (elemOf P t).bind fun e => (szOf P e).bind fun sz => if elAt h a.block = some e then
      (bound 0 lo).bind fun l => (bound n hi).bind fun h =>
      (match mx with
      | none => if 0 ≤ l ∧ l ≤ h ∧ h ≤ max n c then some (.slice (some ⟨a.block, a.off + l.toNat * sz, none⟩) (h.toNat - l.toNat) (max n c - l.toNat)) else none
      | some (.int _ m) => if hi.isSome ∧ 0 ≤ l ∧ l ≤ h ∧ h ≤ m ∧ m ≤ max n c then some (.slice (some ⟨a.block, a.off + l.toNat * sz, none⟩) (h.toNat - l.toNat) (m.toNat - l.toNat)) else none
      | _ => none) else none
  | x => asl P t x lo hi mx

def afield (t : TypeId) (x : Value) (f : Nat) : Option Value :=
  match x with
  | .agg cs => (fldOf P t f).bind fun (off, ft) => (aggOf P ft).bind fun g =>
      if g then (szOf P ft).map fun sz => .agg (cs.extract off (off + sz)) else cs[off]?
  | _ => none

def placesOf (t : TypeId) : Option (List (Nat × Nat)) :=
  match P.underlying t with
  | some (.struct fs) => fs.toList.mapM fun f => (szOf P f.type).map fun n => (f.offset, n)
  | _ => none
def abuild (t : TypeId) (parts : List (Nat × Value)) : Option Value :=
  (placesOf P t).bind fun pl => (zeroOf P t).bind fun z => if (cellsL z).all scal then (fillL (fun i => pl[i]?) (cellsL z) parts).map fun cs => .agg cs.toArray else none

def aidx (t : TypeId) (x i : Value) : Option Value :=
  match x, i with
  | .slice (some a) n _, .int _ i => (elemOf P t).bind fun e => (szOf P e).bind fun sz => if 0 ≤ i ∧ i < n then some (.pointer (some ⟨a.block, a.off + i.toNat * sz, none⟩)) else none
  | _, _ => none

def astr (t : TypeId) (x i : Value) : Option Value :=
  match x, i with
  | .string s, .int _ i => if strOf P t && decide (0 ≤ i) then (s.data[i.toNat]?).map fun b => .int .u8 b.toNat else none
  | _, _ => none

def amin (op : Builtin) (args : List Value) : Option Value :=
  match op, args with
  | .min, [.int k x, .int k' y] => if k = k' then some (.int k (if y < x then y else x)) else none
  | .max, [.int k x, .int k' y] => if k = k' then some (.int k (if y > x then y else x)) else none
  | _, _ => none

def alen (t : TypeId) (x : Value) : Option Value :=
  match x with
  | .string s => if strOf P t then some (.int .i64 s.size) else none
  | .slice _ n _ => if isSlice P t then some (.int .i64 n) else none
  | _ => none

/-- Operations that ask nothing of the heap. -/
def qev (ρ : Operand → Value) : Op → Option Value
  | .move x | .assign x => some (ρ x)
  | .pick c a b => match ρ c with | .bool t => some (if t then ρ a else ρ b) | _ => none
  | .nilCheck x => match ρ x with | .pointer (some a) => some (.pointer (some a)) | _ => none
  | .binOp op t x y _ => abin P op t (ρ x) (ρ y)
  | .unOp op _ x => aun op (ρ x)
  | .convert s d x => match intOf' P s, intOf' P d, ρ x with
      | some _, some k, .int _ n => some (.int k (k.wrap n))
      | _, _, .string b => if strOf P s && strOf P d then some (.string b) else none
      | _, _, _ => none
  | .makeFunc (.func g) first cap => if first.isEmpty && (cap.toList.map ρ).all capOk then some (.func (.func g) #[] (cap.map ρ)) else none
  | .slice t x lo hi mx => if strOf P t then asl P t (ρ x) (lo.map ρ) (hi.map ρ) (mx.map ρ) else none
  | .fieldAddr t x f => match ρ x with
      | .pointer (some a) => (fldOf P t f).bind fun (off, ft) => if szOf P ft = some 0 then none else (szOf P ft).map fun _ => .pointer (some ⟨a.block, a.off + off, none⟩)
      | _ => none
  | .field t x f => afield P t (ρ x) f
  | .build t parts => abuild P t (parts.toList.map fun p => (p.1, ρ p.2))
  | .indexAddr t x i => aidx P t (ρ x) (ρ i)
  | .index t x i => astr P t (ρ x) (ρ i)
  | .extract x i => match ρ x with | .tuple vs => vs[i]? | _ => none
  | .call { callee := .builtin .len, args, argTypes } => match argTypes.toList, args.toList with | [t], [x] => alen P t (ρ x) | _, _ => none
  | .call { callee := .builtin .min, args, .. } => amin .min (args.toList.map ρ)
  | .call { callee := .builtin .max, args, .. } => amin .max (args.toList.map ρ)
  | _ => none

/-- Operations that read the heap. -/
def lev (h : Hp) (ρ : Operand → Value) : Op → Option Value
  | .slice t x lo hi mx => if strOf P t then none else asl2 P h t (ρ x) (lo.map ρ) (hi.map ρ) (mx.map ρ)
  | .load t x => match ρ x with
      | .pointer (some a) => (aggOf P t).bind fun g => if g then (szOf P t).bind fun n => (cellsAt h a.block a.off n).map fun cs => .agg cs.toArray else cellAt h a.block a.off
      | _ => none
  | .convert s d x => if strOf P d && ((elemOf P s).bind (intOf' P) == some .u8) then (match ρ x with
      | .slice none 0 0 => some (.string ⟨#[]⟩)
      | .slice (some a) n _ => (cellsAt h a.block a.off n).bind fun cs => (strL cs).map fun bs => .string ⟨bs.toArray⟩
      | _ => none) else none
  | _ => none

/-- What is appended: its cells, and how many elements. -/
def srcOf (h : Hp) (sz : Nat) (t : TypeId) : Value → Option (List Value × Nat)
  | .slice none 0 0 => if isSlice P t then some ([], 0) else none
  | .slice (some b) m _ => if isSlice P t then (cellsAt h b.block b.off (m * sz)).map fun cs => (cs, m) else none
  | .string s => if strOf P t && (sz == 1) then some (bytesL s, s.size) else none
  | _ => none
def big : Nat := 70368744177664   -- 2^46
/-- A slice type's elements: their type, cells, bytes, zero cells. -/
def elOf (t : TypeId) : Option (TypeId × Nat × Nat × List Value) :=
  (elemOf P t).bind fun e => (szOf P e).bind fun sz => (byOf P e).bind fun bt => (zeroOf P e).bind fun z =>
    if (cellsL z).all scal ∧ (cellsL z).length = sz ∧ 0 < sz then some (e, sz, bt, cellsL z) else none
def aappend (h : Hp) (st xt : TypeId) (s x : Value) : Option (Value × Hp) :=
  (elOf P st).bind fun (e, sz, bt, _) => (srcOf P h sz xt x).bind fun (xs, m) =>
    match s with
    | .slice none 0 0 => if m = 0 then some (s, h) else
        if m ≤ big ∧ m * bt ≤ big then some (.slice (some ⟨h.length, 0, none⟩) m m, h ++ [⟨true, true, e, xs⟩]) else none
    | .slice (some a) n c => if m = 0 then some (s, h) else if elAt h a.block ≠ some e then none else
        if n + m ≤ c then (if canSet h a.block (a.off + n * sz) (m * sz) then some (.slice (some a) (n + m) c, setsAt h a.block (a.off + n * sz) xs) else none) else
        if n + m ≤ big ∧ (n + m) * bt ≤ big ∧ canSet h a.block a.off 0 then
          (cellsAt h a.block a.off (n * sz)).map fun old => (.slice (some ⟨h.length, 0, none⟩) (n + m) (n + m), kill h a.block ++ [⟨true, true, e, old ++ xs⟩])
        else none
    | _ => none

def aclear (h : Hp) (t : TypeId) (x : Value) : Option (Value × Hp) :=
  (elOf P t).bind fun (e, sz, _, zs) =>
    match x with
    | .slice none 0 0 => some (undef, h)
    | .slice (some a) n _ => if n = 0 then some (undef, h) else if elAt h a.block = some e ∧ canSet h a.block a.off (n * sz) then some (undef, setsAt h a.block a.off (rep n zs)) else none
    | _ => none

def acopy (h : Hp) (t : TypeId) (d s : Value) : Option (Value × Hp) :=
  (elOf P t).bind fun (e, sz, _, _) =>
    match d, s with
    | .slice none 0 0, .slice none 0 0 => some (.int .i64 0, h)
    | .slice none 0 0, .slice (some _) _ _ => some (.int .i64 0, h)
    | .slice (some _) _ _, .slice none 0 0 => some (.int .i64 0, h)
    | .slice (some a) n _, .slice (some b) m _ =>
      if min m n = 0 then some (.int .i64 0, h) else
      if canSet h a.block a.off (min m n * sz) then (cellsAt h b.block b.off (min m n * sz)).map fun cs => (.int .i64 (min m n : Nat), setsAt h a.block a.off cs) else none
    | _, _ => none

/-- Operations that change the heap. -/
def eev (h : Hp) (ρ : Operand → Value) : Op → Option (Value × Hp)
  | .box t x => (cellsO (ρ x)).bind fun cs => if cs.all okCell then (szOf P t).map fun _ => (.pointer (some ⟨h.length, 0, none⟩), h ++ [⟨true, true, t, cs⟩]) else none
  | .alloc t => (zeroOf P t).bind fun z => if (cellsL z).all scal then (szOf P t).map fun _ => (.pointer (some ⟨h.length, 0, none⟩), h ++ [⟨true, true, t, cellsL z⟩]) else none
  | .store t x y => match ρ x with
      | .pointer (some a) => (cellsO (ρ y)).bind fun cs => if some cs.length = szOf P t ∧ cs.all okCell ∧ canSet h a.block a.off cs.length then some (undef, setsAt h a.block a.off cs) else none
      | _ => none
  | .buildSlice t n parts => (elOf P t).bind fun (e, sz, _, zs) =>
      if n * sz ≤ 4096 then
        (fillL (fun i => some (i * sz, sz)) (rep n zs) (parts.toList.map fun p => (p.1, ρ p.2))).bind fun cs => if cs.all okCell then some (.slice (some ⟨h.length, 0, none⟩) n n, h ++ [⟨true, true, e, cs⟩]) else none
      else none
  | .makeSlice t l c => match ρ l, ρ c with
      | .int .i64 n, .int .i64 m => (elOf P t).bind fun (e, _, bt, zs) =>
          if n = m ∧ 0 ≤ n ∧ n * bt ≤ big ∧ n ≤ big then
            some (.slice (some ⟨h.length, 0, none⟩) n.toNat n.toNat, h ++ [⟨true, true, e, rep n.toNat zs⟩])
          else none
      | _, _ => none
  | .convert s d x => match ρ x with
      | .string b => (elemOf P d).bind fun e => if strOf P s && (intOf' P e == some .u8) && (szOf P e == some 1) then some (.slice (some ⟨h.length, 0, none⟩) b.size b.size, h ++ [⟨true, true, e, bytesL b⟩]) else none
      | _ => none
  | .call { callee := .builtin .append, args, argTypes } => match argTypes.toList, args.toList with
      | [st, xt], [s, x] => aappend P h st xt (ρ s) (ρ x)
      | _, _ => none
  | .call { callee := .builtin .clear, args, argTypes } => match argTypes.toList, args.toList with
      | [t], [x] => aclear P h t (ρ x)
      | _, _ => none
  | .call { callee := .builtin .copy, args, argTypes } => match argTypes.toList, args.toList with
      | [t, _], [d, s] => acopy P h t (ρ d) (ρ s)
      | _, _ => none
  | _ => none

inductive Kd where
  | pure | load | weak | strong | call
  deriving DecidableEq
def kdOf : Op → Kd
  | .load .. => .load
  | .slice t .. => if strOf P t then .pure else .load
  | .convert s d _ => if strOf P d then (if strOf P s then .pure else if (intOf' P s).isSome then .pure else .load) else if strOf P s then .weak else .pure
  | .box .. | .alloc _ | .buildSlice .. | .makeSlice .. => .weak
  | .store .. => .strong
  | .call { callee := .builtin .append, .. } => .strong
  | .call { callee := .builtin .clear, .. } => .strong
  | .call { callee := .builtin .copy, .. } => .strong
  | .call { callee := .builtin _, .. } => .pure
  | .call { callee := .value _, .. } => .call
  | _ => .pure
end
end Go.Proofs.Ytidkkmkihifeoaa.Hz
