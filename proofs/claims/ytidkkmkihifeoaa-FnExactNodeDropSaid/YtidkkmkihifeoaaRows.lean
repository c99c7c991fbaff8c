/-
  No cell of these rows narrows 'for every input' (looked for: loops, veiled, ifaces, maps, wideKeys, modest, calm, conditions, laid).
  DERIVED. THE GIVEN ROWS OF THIS SEAT. 12 by the template 'for every input the law returns true; each argument reads behind the call as it read before'; 0 by the template 'total and deterministic' (their statements: YtidkkmkihifeoaaTotals.lean).
  GIVEN WITH THE SEED: the statements are not yours to turn. If you find one false, say at which input.
  Laid BY PROGRAM, IN A SANDBOX (cutbox-rows.mjs): the forced cells as the released guide's own fill.sh prints them over the translation 17a9292d1f1f2e03… (all of the seat's roots in one cut). By AI agents, Wed Nov 11 2026. No macro, syntax, notation, axiom, sorry.
-/
import Derived.Test.YtidkkmkihifeoaaChecked
import GoSem.Claim
import GoSem.ClaimJoined
import GoSem.ClaimMapViews
import Derived.JoinedTies
import Derived.KernelRfl
namespace Go.Proofs.Ytidkkmkihifeoaa
/- THE CELL 'sum', in the pinned program and in every row, IS THE sha256 OF THE DUMP (.gsa) THAT YtidkkmkihifeoaaProg.lean LOADS. Nothing in Lean hashes anything: it is a label: what it is worth is what the hold of that sum in a sandbox is worth. -/
noncomputable def Try.pinned : Pinned := { name := "ytidkkmkihifeoaa", sum := "17a9292d1f1f2e0385197a02b4e23d916c06acbdd79b1a0abfbe8178ad274506", checked := Try.checked }
namespace Rows
def none {H : Type} : Left H := { results := [], args := [] }

/-- 'laws.FnExactDirDrop': WHATEVER THE INPUT: true; the input reads as it did. -/
def fnExactDirDropSpec : ChangeSpec := { name := "fnExactDirDrop", fn := fun _ => fun
  | [d1, d2] => { results := [.lit (.bool true)], args := [d1, d2] }
  | _ => none }
def fnExactDirDropRow : OpenClaim := { program := "ytidkkmkihifeoaa", sum := "17a9292d1f1f2e0385197a02b4e23d916c06acbdd79b1a0abfbe8178ad274506", func := "loop.example/g00483/laws.FnExactDirDrop", spec := "fnExactDirDrop", unfollowed := true, recurses := true, apart := false }
def FnExactDirDropSaid : Prop := fnExactDirDropRow.holds Try.pinned (OpenSpec.ofChange fnExactDirDropSpec)

/-- ITS FALSE NEIGHBOUR: 'it returns false'. Refute it at one input. -/
def fnExactDirDropWrong : ChangeSpec := { name := "fnExactDirDrop", fn := fun _ => fun
  | [d1, d2] => { results := [.lit (.bool false)], args := [d1, d2] }
  | _ => none }
def FnExactDirDropWrongFalsely : Prop := fnExactDirDropRow.holds Try.pinned (OpenSpec.ofChange fnExactDirDropWrong)

/-- 'laws.FnExactDirOf': WHATEVER THE INPUT: true; the input reads as it did. -/
def fnExactDirOfSpec : ChangeSpec := { name := "fnExactDirOf", fn := fun _ => fun
  | [d] => { results := [.lit (.bool true)], args := [d] }
  | _ => none }
def fnExactDirOfRow : OpenClaim := { program := "ytidkkmkihifeoaa", sum := "17a9292d1f1f2e0385197a02b4e23d916c06acbdd79b1a0abfbe8178ad274506", func := "loop.example/g00483/laws.FnExactDirOf", spec := "fnExactDirOf", unfollowed := true, recurses := true, apart := false }
def FnExactDirOfSaid : Prop := fnExactDirOfRow.holds Try.pinned (OpenSpec.ofChange fnExactDirOfSpec)

/-- ITS FALSE NEIGHBOUR: 'it returns false'. Refute it at one input. -/
def fnExactDirOfWrong : ChangeSpec := { name := "fnExactDirOf", fn := fun _ => fun
  | [d] => { results := [.lit (.bool false)], args := [d] }
  | _ => none }
def FnExactDirOfWrongFalsely : Prop := fnExactDirOfRow.holds Try.pinned (OpenSpec.ofChange fnExactDirOfWrong)

/-- 'laws.FnExactDirAdd': WHATEVER THE INPUT: true; the input reads as it did. -/
def fnExactDirAddSpec : ChangeSpec := { name := "fnExactDirAdd", fn := fun _ => fun
  | [d1, d2, d3] => { results := [.lit (.bool true)], args := [d1, d2, d3] }
  | _ => none }
def fnExactDirAddRow : OpenClaim := { program := "ytidkkmkihifeoaa", sum := "17a9292d1f1f2e0385197a02b4e23d916c06acbdd79b1a0abfbe8178ad274506", func := "loop.example/g00483/laws.FnExactDirAdd", spec := "fnExactDirAdd", inPlace := ["slices.overlaps[loop.example/g00483/impl.Entry]"], unfollowed := true, recurses := true, apart := false }
def FnExactDirAddSaid : Prop := fnExactDirAddRow.holds Try.pinned (OpenSpec.ofChange fnExactDirAddSpec)

/-- ITS FALSE NEIGHBOUR: 'it returns false'. Refute it at one input. -/
def fnExactDirAddWrong : ChangeSpec := { name := "fnExactDirAdd", fn := fun _ => fun
  | [d1, d2, d3] => { results := [.lit (.bool false)], args := [d1, d2, d3] }
  | _ => none }
def FnExactDirAddWrongFalsely : Prop := fnExactDirAddRow.holds Try.pinned (OpenSpec.ofChange fnExactDirAddWrong)

/-- 'laws.FnExactTreeOk': WHATEVER THE INPUT: true; the input reads as it did. -/
def fnExactTreeOkSpec : ChangeSpec := { name := "fnExactTreeOk", fn := fun _ => fun
  | [d] => { results := [.lit (.bool true)], args := [d] }
  | _ => none }
def fnExactTreeOkRow : OpenClaim := { program := "ytidkkmkihifeoaa", sum := "17a9292d1f1f2e0385197a02b4e23d916c06acbdd79b1a0abfbe8178ad274506", func := "loop.example/g00483/laws.FnExactTreeOk", spec := "fnExactTreeOk", inPlace := ["internal/abi.NoEscape", "internal/bytealg.MakeNoZero"], unfollowed := true, recurses := true, apart := false }
def FnExactTreeOkSaid : Prop := fnExactTreeOkRow.holds Try.pinned (OpenSpec.ofChange fnExactTreeOkSpec)

/-- ITS FALSE NEIGHBOUR: 'it returns false'. Refute it at one input. -/
def fnExactTreeOkWrong : ChangeSpec := { name := "fnExactTreeOk", fn := fun _ => fun
  | [d] => { results := [.lit (.bool false)], args := [d] }
  | _ => none }
def FnExactTreeOkWrongFalsely : Prop := fnExactTreeOkRow.holds Try.pinned (OpenSpec.ofChange fnExactTreeOkWrong)

/-- 'laws.FnExactPoolSame': WHATEVER THE INPUT: true; the input reads as it did. -/
def fnExactPoolSameSpec : ChangeSpec := { name := "fnExactPoolSame", fn := fun _ => fun
  | [d1, d2] => { results := [.lit (.bool true)], args := [d1, d2] }
  | _ => none }
def fnExactPoolSameRow : OpenClaim := { program := "ytidkkmkihifeoaa", sum := "17a9292d1f1f2e0385197a02b4e23d916c06acbdd79b1a0abfbe8178ad274506", func := "loop.example/g00483/laws.FnExactPoolSame", spec := "fnExactPoolSame", unfollowed := true, recurses := true, apart := false }
def FnExactPoolSameSaid : Prop := fnExactPoolSameRow.holds Try.pinned (OpenSpec.ofChange fnExactPoolSameSpec)

/-- ITS FALSE NEIGHBOUR: 'it returns false'. Refute it at one input. -/
def fnExactPoolSameWrong : ChangeSpec := { name := "fnExactPoolSame", fn := fun _ => fun
  | [d1, d2] => { results := [.lit (.bool false)], args := [d1, d2] }
  | _ => none }
def FnExactPoolSameWrongFalsely : Prop := fnExactPoolSameRow.holds Try.pinned (OpenSpec.ofChange fnExactPoolSameWrong)

/-- 'laws.FnEntries': WHATEVER THE INPUT: true; the input reads as it did. -/
def fnEntriesSpec : ChangeSpec := { name := "fnEntries", fn := fun _ => fun
  | [d] => { results := [.lit (.bool true)], args := [d] }
  | _ => none }
def fnEntriesRow : OpenClaim := { program := "ytidkkmkihifeoaa", sum := "17a9292d1f1f2e0385197a02b4e23d916c06acbdd79b1a0abfbe8178ad274506", func := "loop.example/g00483/laws.FnEntries", spec := "fnEntries", inPlace := ["slices.overlaps[loop.example/g00483/impl.Entry]"], unfollowed := true, recurses := true, apart := false }
def FnEntriesSaid : Prop := fnEntriesRow.holds Try.pinned (OpenSpec.ofChange fnEntriesSpec)

/-- ITS FALSE NEIGHBOUR: 'it returns false'. Refute it at one input. -/
def fnEntriesWrong : ChangeSpec := { name := "fnEntries", fn := fun _ => fun
  | [d] => { results := [.lit (.bool false)], args := [d] }
  | _ => none }
def FnEntriesWrongFalsely : Prop := fnEntriesRow.holds Try.pinned (OpenSpec.ofChange fnEntriesWrong)

/-- 'laws.FnExactNodeRead': WHATEVER THE INPUT: true; the input reads as it did. -/
def fnExactNodeReadSpec : ChangeSpec := { name := "fnExactNodeRead", fn := fun _ => fun
  | [d1, d2] => { results := [.lit (.bool true)], args := [d1, d2] }
  | _ => none }
def fnExactNodeReadRow : OpenClaim := { program := "ytidkkmkihifeoaa", sum := "17a9292d1f1f2e0385197a02b4e23d916c06acbdd79b1a0abfbe8178ad274506", func := "loop.example/g00483/laws.FnExactNodeRead", spec := "fnExactNodeRead", unfollowed := true, recurses := true, apart := false }
def FnExactNodeReadSaid : Prop := fnExactNodeReadRow.holds Try.pinned (OpenSpec.ofChange fnExactNodeReadSpec)

/-- ITS FALSE NEIGHBOUR: 'it returns false'. Refute it at one input. -/
def fnExactNodeReadWrong : ChangeSpec := { name := "fnExactNodeRead", fn := fun _ => fun
  | [d1, d2] => { results := [.lit (.bool false)], args := [d1, d2] }
  | _ => none }
def FnExactNodeReadWrongFalsely : Prop := fnExactNodeReadRow.holds Try.pinned (OpenSpec.ofChange fnExactNodeReadWrong)

/-- 'laws.FnExactTreeNames': WHATEVER THE INPUT: true; the input reads as it did. -/
def fnExactTreeNamesSpec : ChangeSpec := { name := "fnExactTreeNames", fn := fun _ => fun
  | [d1, d2] => { results := [.lit (.bool true)], args := [d1, d2] }
  | _ => none }
def fnExactTreeNamesRow : OpenClaim := { program := "ytidkkmkihifeoaa", sum := "17a9292d1f1f2e0385197a02b4e23d916c06acbdd79b1a0abfbe8178ad274506", func := "loop.example/g00483/laws.FnExactTreeNames", spec := "fnExactTreeNames", inPlace := ["internal/abi.NoEscape", "internal/bytealg.MakeNoZero"], unfollowed := true, recurses := true, apart := false }
def FnExactTreeNamesSaid : Prop := fnExactTreeNamesRow.holds Try.pinned (OpenSpec.ofChange fnExactTreeNamesSpec)

/-- ITS FALSE NEIGHBOUR: 'it returns false'. Refute it at one input. -/
def fnExactTreeNamesWrong : ChangeSpec := { name := "fnExactTreeNames", fn := fun _ => fun
  | [d1, d2] => { results := [.lit (.bool false)], args := [d1, d2] }
  | _ => none }
def FnExactTreeNamesWrongFalsely : Prop := fnExactTreeNamesRow.holds Try.pinned (OpenSpec.ofChange fnExactTreeNamesWrong)

/-- 'laws.FnExactFsBlocks': WHATEVER THE INPUT: true; the input reads as it did. -/
def fnExactFsBlocksSpec : ChangeSpec := { name := "fnExactFsBlocks", fn := fun _ => fun
  | [d] => { results := [.lit (.bool true)], args := [d] }
  | _ => none }
def fnExactFsBlocksRow : OpenClaim := { program := "ytidkkmkihifeoaa", sum := "17a9292d1f1f2e0385197a02b4e23d916c06acbdd79b1a0abfbe8178ad274506", func := "loop.example/g00483/laws.FnExactFsBlocks", spec := "fnExactFsBlocks", unfollowed := true, recurses := true, apart := false }
def FnExactFsBlocksSaid : Prop := fnExactFsBlocksRow.holds Try.pinned (OpenSpec.ofChange fnExactFsBlocksSpec)

/-- ITS FALSE NEIGHBOUR: 'it returns false'. Refute it at one input. -/
def fnExactFsBlocksWrong : ChangeSpec := { name := "fnExactFsBlocks", fn := fun _ => fun
  | [d] => { results := [.lit (.bool false)], args := [d] }
  | _ => none }
def FnExactFsBlocksWrongFalsely : Prop := fnExactFsBlocksRow.holds Try.pinned (OpenSpec.ofChange fnExactFsBlocksWrong)

/-- 'laws.FnExactNodeMake': WHATEVER THE INPUT: true; the input reads as it did. -/
def fnExactNodeMakeSpec : ChangeSpec := { name := "fnExactNodeMake", fn := fun _ => fun
  | [d1, d2] => { results := [.lit (.bool true)], args := [d1, d2] }
  | _ => none }
def fnExactNodeMakeRow : OpenClaim := { program := "ytidkkmkihifeoaa", sum := "17a9292d1f1f2e0385197a02b4e23d916c06acbdd79b1a0abfbe8178ad274506", func := "loop.example/g00483/laws.FnExactNodeMake", spec := "fnExactNodeMake", unfollowed := true, recurses := true, apart := false }
def FnExactNodeMakeSaid : Prop := fnExactNodeMakeRow.holds Try.pinned (OpenSpec.ofChange fnExactNodeMakeSpec)

/-- ITS FALSE NEIGHBOUR: 'it returns false'. Refute it at one input. -/
def fnExactNodeMakeWrong : ChangeSpec := { name := "fnExactNodeMake", fn := fun _ => fun
  | [d1, d2] => { results := [.lit (.bool false)], args := [d1, d2] }
  | _ => none }
def FnExactNodeMakeWrongFalsely : Prop := fnExactNodeMakeRow.holds Try.pinned (OpenSpec.ofChange fnExactNodeMakeWrong)

/-- 'laws.FnExactNodeDrop': WHATEVER THE INPUT: true; the input reads as it did. -/
def fnExactNodeDropSpec : ChangeSpec := { name := "fnExactNodeDrop", fn := fun _ => fun
  | [d1, d2] => { results := [.lit (.bool true)], args := [d1, d2] }
  | _ => none }
def fnExactNodeDropRow : OpenClaim := { program := "ytidkkmkihifeoaa", sum := "17a9292d1f1f2e0385197a02b4e23d916c06acbdd79b1a0abfbe8178ad274506", func := "loop.example/g00483/laws.FnExactNodeDrop", spec := "fnExactNodeDrop", unfollowed := true, recurses := true, apart := false }
def FnExactNodeDropSaid : Prop := fnExactNodeDropRow.holds Try.pinned (OpenSpec.ofChange fnExactNodeDropSpec)

/-- ITS FALSE NEIGHBOUR: 'it returns false'. Refute it at one input. -/
def fnExactNodeDropWrong : ChangeSpec := { name := "fnExactNodeDrop", fn := fun _ => fun
  | [d1, d2] => { results := [.lit (.bool false)], args := [d1, d2] }
  | _ => none }
def FnExactNodeDropWrongFalsely : Prop := fnExactNodeDropRow.holds Try.pinned (OpenSpec.ofChange fnExactNodeDropWrong)

/-- 'laws.FnExactNodeWrite': WHATEVER THE INPUT: true; the input reads as it did. -/
def fnExactNodeWriteSpec : ChangeSpec := { name := "fnExactNodeWrite", fn := fun _ => fun
  | [d1, d2, d3] => { results := [.lit (.bool true)], args := [d1, d2, d3] }
  | _ => none }
def fnExactNodeWriteRow : OpenClaim := { program := "ytidkkmkihifeoaa", sum := "17a9292d1f1f2e0385197a02b4e23d916c06acbdd79b1a0abfbe8178ad274506", func := "loop.example/g00483/laws.FnExactNodeWrite", spec := "fnExactNodeWrite", unfollowed := true, recurses := true, apart := false }
def FnExactNodeWriteSaid : Prop := fnExactNodeWriteRow.holds Try.pinned (OpenSpec.ofChange fnExactNodeWriteSpec)

/-- ITS FALSE NEIGHBOUR: 'it returns false'. Refute it at one input. -/
def fnExactNodeWriteWrong : ChangeSpec := { name := "fnExactNodeWrite", fn := fun _ => fun
  | [d1, d2, d3] => { results := [.lit (.bool false)], args := [d1, d2, d3] }
  | _ => none }
def FnExactNodeWriteWrongFalsely : Prop := fnExactNodeWriteRow.holds Try.pinned (OpenSpec.ofChange fnExactNodeWriteWrong)

/- THE SECOND FORM. 'bulk': how many values and letters a reading holds, each counted each time it is reached (what is shared counts as often as it is met; a slice's spare places count too). A statement '..UptoSaid' is the law's where the arguments, and the package variables that the reading takes, are together of bulk at most 1048576: NARROWER than '..Said'. Prove '..Said' where nothing that the law and all that it calls make is longer than what came in: it says more and counts as full. Else prove '..UptoSaid'. A law counts once. -/
mutual
def uptoBulk {H : Type} : DataW H → Nat
  | .lit (.string bytes) => bytes.length + 1
  | .lit _ => 1
  | .nil => 1
  | .ptr d => uptoBulk d + 1
  | .slice elems spare => uptoBulkAll elems + uptoBulkAll spare + 1
  | .agg parts => uptoBulkAll parts + 1
  | .iface _ d => uptoBulk d + 1
  | .map entries => uptoBulkEntries entries + 1
  | .held _ => 1
def uptoBulkAll {H : Type} : List (DataW H) → Nat
  | [] => 0
  | d :: r => uptoBulk d + uptoBulkAll r
def uptoBulkEntries {H : Type} : List (Lit × DataW H) → Nat
  | [] => 0
  | x :: r => uptoBulkEntry x + uptoBulkEntries r
def uptoBulkEntry {H : Type} : Lit × DataW H → Nat
  | (.string bytes, d) => bytes.length + uptoBulk d + 1
  | (_, d) => uptoBulk d + 1
 end
def uptoSmall : (H : Type) → List (DataW H) → Bool := fun _ ds => decide (uptoBulkAll ds ≤ 1048576)
def OpenSpec.upto (s : _root_.Go.ChangeSpec) : _root_.Go.OpenSpec := { _root_.Go.OpenSpec.ofChange s with cond := some uptoSmall }

/-- 'laws.FnExactDirDrop', WHERE WHAT IT READS IS OF BULK AT MOST 1048576: true; the input reads as it did. -/
def fnExactDirDropUptoRow : OpenClaim := { program := "ytidkkmkihifeoaa", sum := "17a9292d1f1f2e0385197a02b4e23d916c06acbdd79b1a0abfbe8178ad274506", func := "loop.example/g00483/laws.FnExactDirDrop", spec := "fnExactDirDrop", unfollowed := true, recurses := true, apart := false, narrowed := true }
def FnExactDirDropUptoSaid : Prop := fnExactDirDropUptoRow.holds Try.pinned (OpenSpec.upto fnExactDirDropSpec)

/-- 'laws.FnExactDirOf', WHERE WHAT IT READS IS OF BULK AT MOST 1048576: true; the input reads as it did. -/
def fnExactDirOfUptoRow : OpenClaim := { program := "ytidkkmkihifeoaa", sum := "17a9292d1f1f2e0385197a02b4e23d916c06acbdd79b1a0abfbe8178ad274506", func := "loop.example/g00483/laws.FnExactDirOf", spec := "fnExactDirOf", unfollowed := true, recurses := true, apart := false, narrowed := true }
def FnExactDirOfUptoSaid : Prop := fnExactDirOfUptoRow.holds Try.pinned (OpenSpec.upto fnExactDirOfSpec)

/-- 'laws.FnExactDirAdd', WHERE WHAT IT READS IS OF BULK AT MOST 1048576: true; the input reads as it did. -/
def fnExactDirAddUptoRow : OpenClaim := { program := "ytidkkmkihifeoaa", sum := "17a9292d1f1f2e0385197a02b4e23d916c06acbdd79b1a0abfbe8178ad274506", func := "loop.example/g00483/laws.FnExactDirAdd", spec := "fnExactDirAdd", inPlace := ["slices.overlaps[loop.example/g00483/impl.Entry]"], unfollowed := true, recurses := true, apart := false, narrowed := true }
def FnExactDirAddUptoSaid : Prop := fnExactDirAddUptoRow.holds Try.pinned (OpenSpec.upto fnExactDirAddSpec)

/-- 'laws.FnExactTreeOk', WHERE WHAT IT READS IS OF BULK AT MOST 1048576: true; the input reads as it did. -/
def fnExactTreeOkUptoRow : OpenClaim := { program := "ytidkkmkihifeoaa", sum := "17a9292d1f1f2e0385197a02b4e23d916c06acbdd79b1a0abfbe8178ad274506", func := "loop.example/g00483/laws.FnExactTreeOk", spec := "fnExactTreeOk", inPlace := ["internal/abi.NoEscape", "internal/bytealg.MakeNoZero"], unfollowed := true, recurses := true, apart := false, narrowed := true }
def FnExactTreeOkUptoSaid : Prop := fnExactTreeOkUptoRow.holds Try.pinned (OpenSpec.upto fnExactTreeOkSpec)

/-- 'laws.FnExactPoolSame', WHERE WHAT IT READS IS OF BULK AT MOST 1048576: true; the input reads as it did. -/
def fnExactPoolSameUptoRow : OpenClaim := { program := "ytidkkmkihifeoaa", sum := "17a9292d1f1f2e0385197a02b4e23d916c06acbdd79b1a0abfbe8178ad274506", func := "loop.example/g00483/laws.FnExactPoolSame", spec := "fnExactPoolSame", unfollowed := true, recurses := true, apart := false, narrowed := true }
def FnExactPoolSameUptoSaid : Prop := fnExactPoolSameUptoRow.holds Try.pinned (OpenSpec.upto fnExactPoolSameSpec)

/-- 'laws.FnEntries', WHERE WHAT IT READS IS OF BULK AT MOST 1048576: true; the input reads as it did. -/
def fnEntriesUptoRow : OpenClaim := { program := "ytidkkmkihifeoaa", sum := "17a9292d1f1f2e0385197a02b4e23d916c06acbdd79b1a0abfbe8178ad274506", func := "loop.example/g00483/laws.FnEntries", spec := "fnEntries", inPlace := ["slices.overlaps[loop.example/g00483/impl.Entry]"], unfollowed := true, recurses := true, apart := false, narrowed := true }
def FnEntriesUptoSaid : Prop := fnEntriesUptoRow.holds Try.pinned (OpenSpec.upto fnEntriesSpec)

/-- 'laws.FnExactNodeRead', WHERE WHAT IT READS IS OF BULK AT MOST 1048576: true; the input reads as it did. -/
def fnExactNodeReadUptoRow : OpenClaim := { program := "ytidkkmkihifeoaa", sum := "17a9292d1f1f2e0385197a02b4e23d916c06acbdd79b1a0abfbe8178ad274506", func := "loop.example/g00483/laws.FnExactNodeRead", spec := "fnExactNodeRead", unfollowed := true, recurses := true, apart := false, narrowed := true }
def FnExactNodeReadUptoSaid : Prop := fnExactNodeReadUptoRow.holds Try.pinned (OpenSpec.upto fnExactNodeReadSpec)

/-- 'laws.FnExactTreeNames', WHERE WHAT IT READS IS OF BULK AT MOST 1048576: true; the input reads as it did. -/
def fnExactTreeNamesUptoRow : OpenClaim := { program := "ytidkkmkihifeoaa", sum := "17a9292d1f1f2e0385197a02b4e23d916c06acbdd79b1a0abfbe8178ad274506", func := "loop.example/g00483/laws.FnExactTreeNames", spec := "fnExactTreeNames", inPlace := ["internal/abi.NoEscape", "internal/bytealg.MakeNoZero"], unfollowed := true, recurses := true, apart := false, narrowed := true }
def FnExactTreeNamesUptoSaid : Prop := fnExactTreeNamesUptoRow.holds Try.pinned (OpenSpec.upto fnExactTreeNamesSpec)

/-- 'laws.FnExactFsBlocks', WHERE WHAT IT READS IS OF BULK AT MOST 1048576: true; the input reads as it did. -/
def fnExactFsBlocksUptoRow : OpenClaim := { program := "ytidkkmkihifeoaa", sum := "17a9292d1f1f2e0385197a02b4e23d916c06acbdd79b1a0abfbe8178ad274506", func := "loop.example/g00483/laws.FnExactFsBlocks", spec := "fnExactFsBlocks", unfollowed := true, recurses := true, apart := false, narrowed := true }
def FnExactFsBlocksUptoSaid : Prop := fnExactFsBlocksUptoRow.holds Try.pinned (OpenSpec.upto fnExactFsBlocksSpec)

/-- 'laws.FnExactNodeMake', WHERE WHAT IT READS IS OF BULK AT MOST 1048576: true; the input reads as it did. -/
def fnExactNodeMakeUptoRow : OpenClaim := { program := "ytidkkmkihifeoaa", sum := "17a9292d1f1f2e0385197a02b4e23d916c06acbdd79b1a0abfbe8178ad274506", func := "loop.example/g00483/laws.FnExactNodeMake", spec := "fnExactNodeMake", unfollowed := true, recurses := true, apart := false, narrowed := true }
def FnExactNodeMakeUptoSaid : Prop := fnExactNodeMakeUptoRow.holds Try.pinned (OpenSpec.upto fnExactNodeMakeSpec)

/-- 'laws.FnExactNodeDrop', WHERE WHAT IT READS IS OF BULK AT MOST 1048576: true; the input reads as it did. -/
def fnExactNodeDropUptoRow : OpenClaim := { program := "ytidkkmkihifeoaa", sum := "17a9292d1f1f2e0385197a02b4e23d916c06acbdd79b1a0abfbe8178ad274506", func := "loop.example/g00483/laws.FnExactNodeDrop", spec := "fnExactNodeDrop", unfollowed := true, recurses := true, apart := false, narrowed := true }
def FnExactNodeDropUptoSaid : Prop := fnExactNodeDropUptoRow.holds Try.pinned (OpenSpec.upto fnExactNodeDropSpec)

/-- 'laws.FnExactNodeWrite', WHERE WHAT IT READS IS OF BULK AT MOST 1048576: true; the input reads as it did. -/
def fnExactNodeWriteUptoRow : OpenClaim := { program := "ytidkkmkihifeoaa", sum := "17a9292d1f1f2e0385197a02b4e23d916c06acbdd79b1a0abfbe8178ad274506", func := "loop.example/g00483/laws.FnExactNodeWrite", spec := "fnExactNodeWrite", unfollowed := true, recurses := true, apart := false, narrowed := true }
def FnExactNodeWriteUptoSaid : Prop := fnExactNodeWriteUptoRow.holds Try.pinned (OpenSpec.upto fnExactNodeWriteSpec)

end Rows
end Go.Proofs.Ytidkkmkihifeoaa
