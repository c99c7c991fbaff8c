/-
  No cell of these rows narrows 'for every input' (looked for: loops, veiled, ifaces, maps, wideKeys, modest, calm, conditions, laid).
  DERIVED. THE GIVEN ROWS OF THIS SEAT. 12 by the template 'for every input the law returns true; each argument reads behind the call as it read before'; 0 by the template 'total and deterministic' (their statements: YtoknpbmcpaaalaaTotals.lean).
  GIVEN WITH THE SEED: the statements are not yours to turn. If you find one false, say at which input.
  Laid BY PROGRAM, IN A SANDBOX (cutbox-rows.mjs): the forced cells as the released guide's own fill.sh prints them over the translation 1b0cf577e1e31159… (all of the seat's roots in one cut). By AI agents, Wed Nov 11 2026. No macro, syntax, notation, axiom, sorry.
-/
import Derived.Test.YtoknpbmcpaaalaaChecked
import GoSem.Claim
import GoSem.ClaimJoined
import GoSem.ClaimMapViews
import Derived.JoinedTies
import Derived.KernelRfl
namespace Go.Proofs.Ytoknpbmcpaaalaa
/- THE CELL 'sum', in the pinned program and in every row, IS THE sha256 OF THE DUMP (.gsa) THAT YtoknpbmcpaaalaaProg.lean LOADS. Nothing in Lean hashes anything: it is a label: what it is worth is what the hold of that sum in a sandbox is worth. -/
noncomputable def Try.pinned : Pinned := { name := "ytoknpbmcpaaalaa", sum := "1b0cf577e1e311594c4a9ab1658526f5c9320de79b837bf2e93557bb71d5962d", checked := Try.checked }
namespace Rows
def none {H : Type} : Left H := { results := [], args := [] }

/-- 'laws.FnExactTreeOk': WHATEVER THE INPUT: true; the input reads as it did. -/
def fnExactTreeOkSpec : ChangeSpec := { name := "fnExactTreeOk", fn := fun _ => fun
  | [d] => { results := [.lit (.bool true)], args := [d] }
  | _ => none }
def fnExactTreeOkRow : OpenClaim := { program := "ytoknpbmcpaaalaa", sum := "1b0cf577e1e311594c4a9ab1658526f5c9320de79b837bf2e93557bb71d5962d", func := "loop.example/g00483/laws.FnExactTreeOk", spec := "fnExactTreeOk", inPlace := ["internal/abi.NoEscape", "internal/bytealg.MakeNoZero"], unfollowed := true, recurses := true, apart := false }
def FnExactTreeOkSaid : Prop := fnExactTreeOkRow.holds Try.pinned (OpenSpec.ofChange fnExactTreeOkSpec)

/-- ITS FALSE NEIGHBOUR: 'it returns false'. Refute it at one input. -/
def fnExactTreeOkWrong : ChangeSpec := { name := "fnExactTreeOk", fn := fun _ => fun
  | [d] => { results := [.lit (.bool false)], args := [d] }
  | _ => none }
def FnExactTreeOkWrongFalsely : Prop := fnExactTreeOkRow.holds Try.pinned (OpenSpec.ofChange fnExactTreeOkWrong)

/-- 'laws.FnExactTreeNames': WHATEVER THE INPUT: true; the input reads as it did. -/
def fnExactTreeNamesSpec : ChangeSpec := { name := "fnExactTreeNames", fn := fun _ => fun
  | [d1, d2] => { results := [.lit (.bool true)], args := [d1, d2] }
  | _ => none }
def fnExactTreeNamesRow : OpenClaim := { program := "ytoknpbmcpaaalaa", sum := "1b0cf577e1e311594c4a9ab1658526f5c9320de79b837bf2e93557bb71d5962d", func := "loop.example/g00483/laws.FnExactTreeNames", spec := "fnExactTreeNames", inPlace := ["internal/abi.NoEscape", "internal/bytealg.MakeNoZero"], unfollowed := true, recurses := true, apart := false }
def FnExactTreeNamesSaid : Prop := fnExactTreeNamesRow.holds Try.pinned (OpenSpec.ofChange fnExactTreeNamesSpec)

/-- ITS FALSE NEIGHBOUR: 'it returns false'. Refute it at one input. -/
def fnExactTreeNamesWrong : ChangeSpec := { name := "fnExactTreeNames", fn := fun _ => fun
  | [d1, d2] => { results := [.lit (.bool false)], args := [d1, d2] }
  | _ => none }
def FnExactTreeNamesWrongFalsely : Prop := fnExactTreeNamesRow.holds Try.pinned (OpenSpec.ofChange fnExactTreeNamesWrong)

/-- 'laws.FnExactDirAdd': WHATEVER THE INPUT: true; the input reads as it did. -/
def fnExactDirAddSpec : ChangeSpec := { name := "fnExactDirAdd", fn := fun _ => fun
  | [d1, d2, d3] => { results := [.lit (.bool true)], args := [d1, d2, d3] }
  | _ => none }
def fnExactDirAddRow : OpenClaim := { program := "ytoknpbmcpaaalaa", sum := "1b0cf577e1e311594c4a9ab1658526f5c9320de79b837bf2e93557bb71d5962d", func := "loop.example/g00483/laws.FnExactDirAdd", spec := "fnExactDirAdd", inPlace := ["slices.overlaps[loop.example/g00483/impl.Entry]"], unfollowed := true, recurses := true, apart := false }
def FnExactDirAddSaid : Prop := fnExactDirAddRow.holds Try.pinned (OpenSpec.ofChange fnExactDirAddSpec)

/-- ITS FALSE NEIGHBOUR: 'it returns false'. Refute it at one input. -/
def fnExactDirAddWrong : ChangeSpec := { name := "fnExactDirAdd", fn := fun _ => fun
  | [d1, d2, d3] => { results := [.lit (.bool false)], args := [d1, d2, d3] }
  | _ => none }
def FnExactDirAddWrongFalsely : Prop := fnExactDirAddRow.holds Try.pinned (OpenSpec.ofChange fnExactDirAddWrong)

/-- 'laws.FnExactFsBlocks': WHATEVER THE INPUT: true; the input reads as it did. -/
def fnExactFsBlocksSpec : ChangeSpec := { name := "fnExactFsBlocks", fn := fun _ => fun
  | [d] => { results := [.lit (.bool true)], args := [d] }
  | _ => none }
def fnExactFsBlocksRow : OpenClaim := { program := "ytoknpbmcpaaalaa", sum := "1b0cf577e1e311594c4a9ab1658526f5c9320de79b837bf2e93557bb71d5962d", func := "loop.example/g00483/laws.FnExactFsBlocks", spec := "fnExactFsBlocks", unfollowed := true, recurses := true, apart := false }
def FnExactFsBlocksSaid : Prop := fnExactFsBlocksRow.holds Try.pinned (OpenSpec.ofChange fnExactFsBlocksSpec)

/-- ITS FALSE NEIGHBOUR: 'it returns false'. Refute it at one input. -/
def fnExactFsBlocksWrong : ChangeSpec := { name := "fnExactFsBlocks", fn := fun _ => fun
  | [d] => { results := [.lit (.bool false)], args := [d] }
  | _ => none }
def FnExactFsBlocksWrongFalsely : Prop := fnExactFsBlocksRow.holds Try.pinned (OpenSpec.ofChange fnExactFsBlocksWrong)

/-- 'laws.FnExactNodeWrite': WHATEVER THE INPUT: true; the input reads as it did. -/
def fnExactNodeWriteSpec : ChangeSpec := { name := "fnExactNodeWrite", fn := fun _ => fun
  | [d1, d2, d3] => { results := [.lit (.bool true)], args := [d1, d2, d3] }
  | _ => none }
def fnExactNodeWriteRow : OpenClaim := { program := "ytoknpbmcpaaalaa", sum := "1b0cf577e1e311594c4a9ab1658526f5c9320de79b837bf2e93557bb71d5962d", func := "loop.example/g00483/laws.FnExactNodeWrite", spec := "fnExactNodeWrite", unfollowed := true, recurses := true, apart := false }
def FnExactNodeWriteSaid : Prop := fnExactNodeWriteRow.holds Try.pinned (OpenSpec.ofChange fnExactNodeWriteSpec)

/-- ITS FALSE NEIGHBOUR: 'it returns false'. Refute it at one input. -/
def fnExactNodeWriteWrong : ChangeSpec := { name := "fnExactNodeWrite", fn := fun _ => fun
  | [d1, d2, d3] => { results := [.lit (.bool false)], args := [d1, d2, d3] }
  | _ => none }
def FnExactNodeWriteWrongFalsely : Prop := fnExactNodeWriteRow.holds Try.pinned (OpenSpec.ofChange fnExactNodeWriteWrong)

/-- 'laws.FnExactFsOk': WHATEVER THE INPUT: true; the input reads as it did. -/
def fnExactFsOkSpec : ChangeSpec := { name := "fnExactFsOk", fn := fun _ => fun
  | [d] => { results := [.lit (.bool true)], args := [d] }
  | _ => none }
def fnExactFsOkRow : OpenClaim := { program := "ytoknpbmcpaaalaa", sum := "1b0cf577e1e311594c4a9ab1658526f5c9320de79b837bf2e93557bb71d5962d", func := "loop.example/g00483/laws.FnExactFsOk", spec := "fnExactFsOk", unfollowed := true, recurses := true, apart := false }
def FnExactFsOkSaid : Prop := fnExactFsOkRow.holds Try.pinned (OpenSpec.ofChange fnExactFsOkSpec)

/-- ITS FALSE NEIGHBOUR: 'it returns false'. Refute it at one input. -/
def fnExactFsOkWrong : ChangeSpec := { name := "fnExactFsOk", fn := fun _ => fun
  | [d] => { results := [.lit (.bool false)], args := [d] }
  | _ => none }
def FnExactFsOkWrongFalsely : Prop := fnExactFsOkRow.holds Try.pinned (OpenSpec.ofChange fnExactFsOkWrong)

/-- 'laws.FnExactHiddenOf': WHATEVER THE INPUT: true; the input reads as it did. -/
def fnExactHiddenOfSpec : ChangeSpec := { name := "fnExactHiddenOf", fn := fun _ => fun
  | [d] => { results := [.lit (.bool true)], args := [d] }
  | _ => none }
def fnExactHiddenOfRow : OpenClaim := { program := "ytoknpbmcpaaalaa", sum := "1b0cf577e1e311594c4a9ab1658526f5c9320de79b837bf2e93557bb71d5962d", func := "loop.example/g00483/laws.FnExactHiddenOf", spec := "fnExactHiddenOf", unfollowed := true, recurses := true, apart := false }
def FnExactHiddenOfSaid : Prop := fnExactHiddenOfRow.holds Try.pinned (OpenSpec.ofChange fnExactHiddenOfSpec)

/-- ITS FALSE NEIGHBOUR: 'it returns false'. Refute it at one input. -/
def fnExactHiddenOfWrong : ChangeSpec := { name := "fnExactHiddenOf", fn := fun _ => fun
  | [d] => { results := [.lit (.bool false)], args := [d] }
  | _ => none }
def FnExactHiddenOfWrongFalsely : Prop := fnExactHiddenOfRow.holds Try.pinned (OpenSpec.ofChange fnExactHiddenOfWrong)

/-- 'laws.FnExactWalk': WHATEVER THE INPUT: true; the input reads as it did. -/
def fnExactWalkSpec : ChangeSpec := { name := "fnExactWalk", fn := fun _ => fun
  | [d1, d2] => { results := [.lit (.bool true)], args := [d1, d2] }
  | _ => none }
def fnExactWalkRow : OpenClaim := { program := "ytoknpbmcpaaalaa", sum := "1b0cf577e1e311594c4a9ab1658526f5c9320de79b837bf2e93557bb71d5962d", func := "loop.example/g00483/laws.FnExactWalk", spec := "fnExactWalk", unfollowed := true, recurses := true, apart := false }
def FnExactWalkSaid : Prop := fnExactWalkRow.holds Try.pinned (OpenSpec.ofChange fnExactWalkSpec)

/-- ITS FALSE NEIGHBOUR: 'it returns false'. Refute it at one input. -/
def fnExactWalkWrong : ChangeSpec := { name := "fnExactWalk", fn := fun _ => fun
  | [d1, d2] => { results := [.lit (.bool false)], args := [d1, d2] }
  | _ => none }
def FnExactWalkWrongFalsely : Prop := fnExactWalkRow.holds Try.pinned (OpenSpec.ofChange fnExactWalkWrong)

/-- 'laws.FnExactGenAt': WHATEVER THE INPUT: true; the input reads as it did. -/
def fnExactGenAtSpec : ChangeSpec := { name := "fnExactGenAt", fn := fun _ => fun
  | [d1, d2] => { results := [.lit (.bool true)], args := [d1, d2] }
  | _ => none }
def fnExactGenAtRow : OpenClaim := { program := "ytoknpbmcpaaalaa", sum := "1b0cf577e1e311594c4a9ab1658526f5c9320de79b837bf2e93557bb71d5962d", func := "loop.example/g00483/laws.FnExactGenAt", spec := "fnExactGenAt", unfollowed := true, recurses := true, apart := false }
def FnExactGenAtSaid : Prop := fnExactGenAtRow.holds Try.pinned (OpenSpec.ofChange fnExactGenAtSpec)

/-- ITS FALSE NEIGHBOUR: 'it returns false'. Refute it at one input. -/
def fnExactGenAtWrong : ChangeSpec := { name := "fnExactGenAt", fn := fun _ => fun
  | [d1, d2] => { results := [.lit (.bool false)], args := [d1, d2] }
  | _ => none }
def FnExactGenAtWrongFalsely : Prop := fnExactGenAtRow.holds Try.pinned (OpenSpec.ofChange fnExactGenAtWrong)

/-- 'laws.FnExactKindAt': WHATEVER THE INPUT: true; the input reads as it did. -/
def fnExactKindAtSpec : ChangeSpec := { name := "fnExactKindAt", fn := fun _ => fun
  | [d1, d2] => { results := [.lit (.bool true)], args := [d1, d2] }
  | _ => none }
def fnExactKindAtRow : OpenClaim := { program := "ytoknpbmcpaaalaa", sum := "1b0cf577e1e311594c4a9ab1658526f5c9320de79b837bf2e93557bb71d5962d", func := "loop.example/g00483/laws.FnExactKindAt", spec := "fnExactKindAt", unfollowed := true, recurses := true, apart := false }
def FnExactKindAtSaid : Prop := fnExactKindAtRow.holds Try.pinned (OpenSpec.ofChange fnExactKindAtSpec)

/-- ITS FALSE NEIGHBOUR: 'it returns false'. Refute it at one input. -/
def fnExactKindAtWrong : ChangeSpec := { name := "fnExactKindAt", fn := fun _ => fun
  | [d1, d2] => { results := [.lit (.bool false)], args := [d1, d2] }
  | _ => none }
def FnExactKindAtWrongFalsely : Prop := fnExactKindAtRow.holds Try.pinned (OpenSpec.ofChange fnExactKindAtWrong)

/-- 'laws.FnExactDiff': WHATEVER THE INPUT: true; the input reads as it did. -/
def fnExactDiffSpec : ChangeSpec := { name := "fnExactDiff", fn := fun _ => fun
  | [d1, d2] => { results := [.lit (.bool true)], args := [d1, d2] }
  | _ => none }
def fnExactDiffRow : OpenClaim := { program := "ytoknpbmcpaaalaa", sum := "1b0cf577e1e311594c4a9ab1658526f5c9320de79b837bf2e93557bb71d5962d", func := "loop.example/g00483/laws.FnExactDiff", spec := "fnExactDiff", unfollowed := true, recurses := true, apart := false }
def FnExactDiffSaid : Prop := fnExactDiffRow.holds Try.pinned (OpenSpec.ofChange fnExactDiffSpec)

/-- ITS FALSE NEIGHBOUR: 'it returns false'. Refute it at one input. -/
def fnExactDiffWrong : ChangeSpec := { name := "fnExactDiff", fn := fun _ => fun
  | [d1, d2] => { results := [.lit (.bool false)], args := [d1, d2] }
  | _ => none }
def FnExactDiffWrongFalsely : Prop := fnExactDiffRow.holds Try.pinned (OpenSpec.ofChange fnExactDiffWrong)

/-- 'laws.FnExactFsOf': WHATEVER THE INPUT: true; the input reads as it did. -/
def fnExactFsOfSpec : ChangeSpec := { name := "fnExactFsOf", fn := fun _ => fun
  | [d] => { results := [.lit (.bool true)], args := [d] }
  | _ => none }
def fnExactFsOfRow : OpenClaim := { program := "ytoknpbmcpaaalaa", sum := "1b0cf577e1e311594c4a9ab1658526f5c9320de79b837bf2e93557bb71d5962d", func := "loop.example/g00483/laws.FnExactFsOf", spec := "fnExactFsOf", unfollowed := true, recurses := true, apart := false }
def FnExactFsOfSaid : Prop := fnExactFsOfRow.holds Try.pinned (OpenSpec.ofChange fnExactFsOfSpec)

/-- ITS FALSE NEIGHBOUR: 'it returns false'. Refute it at one input. -/
def fnExactFsOfWrong : ChangeSpec := { name := "fnExactFsOf", fn := fun _ => fun
  | [d] => { results := [.lit (.bool false)], args := [d] }
  | _ => none }
def FnExactFsOfWrongFalsely : Prop := fnExactFsOfRow.holds Try.pinned (OpenSpec.ofChange fnExactFsOfWrong)

/- THE SECOND FORM. 'bulk': how many values and letters a reading holds, each counted each time it is reached (what is shared counts as often as it is met; a slice's spare places count too). A statement '..UptoSaid' is the law's where the arguments, and the package variables that the reading takes, are together of bulk at most 1048576: NARROWER than '..Said'. Prove '..Said' where nothing that the law and all that it calls make is longer than what came in: it says more and counts as full. Else prove '..UptoSaid'. A law counts once. -/
mutual
def uptoBulk {H : Type} : DataW H → Nat
  | .lit (.string bytes) => bytes.length + 1
  | .lit _ => 1
  | .nil => 1
  | .ptr d => uptoBulk d + 1
  | .slice elems spare => uptoBulkAll elems + uptoBulkAll spare + 1
  | .agg parts => uptoBulkAll parts + 1
  | .iface _ d => uptoBulk d + 1
  | .map entries => uptoBulkEntries entries + 1
  | .held _ => 1
def uptoBulkAll {H : Type} : List (DataW H) → Nat
  | [] => 0
  | d :: r => uptoBulk d + uptoBulkAll r
def uptoBulkEntries {H : Type} : List (Lit × DataW H) → Nat
  | [] => 0
  | x :: r => uptoBulkEntry x + uptoBulkEntries r
def uptoBulkEntry {H : Type} : Lit × DataW H → Nat
  | (.string bytes, d) => bytes.length + uptoBulk d + 1
  | (_, d) => uptoBulk d + 1
 end
def uptoSmall : (H : Type) → List (DataW H) → Bool := fun _ ds => decide (uptoBulkAll ds ≤ 1048576)
def OpenSpec.upto (s : _root_.Go.ChangeSpec) : _root_.Go.OpenSpec := { _root_.Go.OpenSpec.ofChange s with cond := some uptoSmall }

/-- 'laws.FnExactTreeOk', WHERE WHAT IT READS IS OF BULK AT MOST 1048576: true; the input reads as it did. -/
def fnExactTreeOkUptoRow : OpenClaim := { program := "ytoknpbmcpaaalaa", sum := "1b0cf577e1e311594c4a9ab1658526f5c9320de79b837bf2e93557bb71d5962d", func := "loop.example/g00483/laws.FnExactTreeOk", spec := "fnExactTreeOk", inPlace := ["internal/abi.NoEscape", "internal/bytealg.MakeNoZero"], unfollowed := true, recurses := true, apart := false, narrowed := true }
def FnExactTreeOkUptoSaid : Prop := fnExactTreeOkUptoRow.holds Try.pinned (OpenSpec.upto fnExactTreeOkSpec)

/-- 'laws.FnExactTreeNames', WHERE WHAT IT READS IS OF BULK AT MOST 1048576: true; the input reads as it did. -/
def fnExactTreeNamesUptoRow : OpenClaim := { program := "ytoknpbmcpaaalaa", sum := "1b0cf577e1e311594c4a9ab1658526f5c9320de79b837bf2e93557bb71d5962d", func := "loop.example/g00483/laws.FnExactTreeNames", spec := "fnExactTreeNames", inPlace := ["internal/abi.NoEscape", "internal/bytealg.MakeNoZero"], unfollowed := true, recurses := true, apart := false, narrowed := true }
def FnExactTreeNamesUptoSaid : Prop := fnExactTreeNamesUptoRow.holds Try.pinned (OpenSpec.upto fnExactTreeNamesSpec)

/-- 'laws.FnExactDirAdd', WHERE WHAT IT READS IS OF BULK AT MOST 1048576: true; the input reads as it did. -/
def fnExactDirAddUptoRow : OpenClaim := { program := "ytoknpbmcpaaalaa", sum := "1b0cf577e1e311594c4a9ab1658526f5c9320de79b837bf2e93557bb71d5962d", func := "loop.example/g00483/laws.FnExactDirAdd", spec := "fnExactDirAdd", inPlace := ["slices.overlaps[loop.example/g00483/impl.Entry]"], unfollowed := true, recurses := true, apart := false, narrowed := true }
def FnExactDirAddUptoSaid : Prop := fnExactDirAddUptoRow.holds Try.pinned (OpenSpec.upto fnExactDirAddSpec)

/-- 'laws.FnExactFsBlocks', WHERE WHAT IT READS IS OF BULK AT MOST 1048576: true; the input reads as it did. -/
def fnExactFsBlocksUptoRow : OpenClaim := { program := "ytoknpbmcpaaalaa", sum := "1b0cf577e1e311594c4a9ab1658526f5c9320de79b837bf2e93557bb71d5962d", func := "loop.example/g00483/laws.FnExactFsBlocks", spec := "fnExactFsBlocks", unfollowed := true, recurses := true, apart := false, narrowed := true }
def FnExactFsBlocksUptoSaid : Prop := fnExactFsBlocksUptoRow.holds Try.pinned (OpenSpec.upto fnExactFsBlocksSpec)

/-- 'laws.FnExactNodeWrite', WHERE WHAT IT READS IS OF BULK AT MOST 1048576: true; the input reads as it did. -/
def fnExactNodeWriteUptoRow : OpenClaim := { program := "ytoknpbmcpaaalaa", sum := "1b0cf577e1e311594c4a9ab1658526f5c9320de79b837bf2e93557bb71d5962d", func := "loop.example/g00483/laws.FnExactNodeWrite", spec := "fnExactNodeWrite", unfollowed := true, recurses := true, apart := false, narrowed := true }
def FnExactNodeWriteUptoSaid : Prop := fnExactNodeWriteUptoRow.holds Try.pinned (OpenSpec.upto fnExactNodeWriteSpec)

/-- 'laws.FnExactFsOk', WHERE WHAT IT READS IS OF BULK AT MOST 1048576: true; the input reads as it did. -/
def fnExactFsOkUptoRow : OpenClaim := { program := "ytoknpbmcpaaalaa", sum := "1b0cf577e1e311594c4a9ab1658526f5c9320de79b837bf2e93557bb71d5962d", func := "loop.example/g00483/laws.FnExactFsOk", spec := "fnExactFsOk", unfollowed := true, recurses := true, apart := false, narrowed := true }
def FnExactFsOkUptoSaid : Prop := fnExactFsOkUptoRow.holds Try.pinned (OpenSpec.upto fnExactFsOkSpec)

/-- 'laws.FnExactHiddenOf', WHERE WHAT IT READS IS OF BULK AT MOST 1048576: true; the input reads as it did. -/
def fnExactHiddenOfUptoRow : OpenClaim := { program := "ytoknpbmcpaaalaa", sum := "1b0cf577e1e311594c4a9ab1658526f5c9320de79b837bf2e93557bb71d5962d", func := "loop.example/g00483/laws.FnExactHiddenOf", spec := "fnExactHiddenOf", unfollowed := true, recurses := true, apart := false, narrowed := true }
def FnExactHiddenOfUptoSaid : Prop := fnExactHiddenOfUptoRow.holds Try.pinned (OpenSpec.upto fnExactHiddenOfSpec)

/-- 'laws.FnExactWalk', WHERE WHAT IT READS IS OF BULK AT MOST 1048576: true; the input reads as it did. -/
def fnExactWalkUptoRow : OpenClaim := { program := "ytoknpbmcpaaalaa", sum := "1b0cf577e1e311594c4a9ab1658526f5c9320de79b837bf2e93557bb71d5962d", func := "loop.example/g00483/laws.FnExactWalk", spec := "fnExactWalk", unfollowed := true, recurses := true, apart := false, narrowed := true }
def FnExactWalkUptoSaid : Prop := fnExactWalkUptoRow.holds Try.pinned (OpenSpec.upto fnExactWalkSpec)

/-- 'laws.FnExactGenAt', WHERE WHAT IT READS IS OF BULK AT MOST 1048576: true; the input reads as it did. -/
def fnExactGenAtUptoRow : OpenClaim := { program := "ytoknpbmcpaaalaa", sum := "1b0cf577e1e311594c4a9ab1658526f5c9320de79b837bf2e93557bb71d5962d", func := "loop.example/g00483/laws.FnExactGenAt", spec := "fnExactGenAt", unfollowed := true, recurses := true, apart := false, narrowed := true }
def FnExactGenAtUptoSaid : Prop := fnExactGenAtUptoRow.holds Try.pinned (OpenSpec.upto fnExactGenAtSpec)

/-- 'laws.FnExactKindAt', WHERE WHAT IT READS IS OF BULK AT MOST 1048576: true; the input reads as it did. -/
def fnExactKindAtUptoRow : OpenClaim := { program := "ytoknpbmcpaaalaa", sum := "1b0cf577e1e311594c4a9ab1658526f5c9320de79b837bf2e93557bb71d5962d", func := "loop.example/g00483/laws.FnExactKindAt", spec := "fnExactKindAt", unfollowed := true, recurses := true, apart := false, narrowed := true }
def FnExactKindAtUptoSaid : Prop := fnExactKindAtUptoRow.holds Try.pinned (OpenSpec.upto fnExactKindAtSpec)

/-- 'laws.FnExactDiff', WHERE WHAT IT READS IS OF BULK AT MOST 1048576: true; the input reads as it did. -/
def fnExactDiffUptoRow : OpenClaim := { program := "ytoknpbmcpaaalaa", sum := "1b0cf577e1e311594c4a9ab1658526f5c9320de79b837bf2e93557bb71d5962d", func := "loop.example/g00483/laws.FnExactDiff", spec := "fnExactDiff", unfollowed := true, recurses := true, apart := false, narrowed := true }
def FnExactDiffUptoSaid : Prop := fnExactDiffUptoRow.holds Try.pinned (OpenSpec.upto fnExactDiffSpec)

/-- 'laws.FnExactFsOf', WHERE WHAT IT READS IS OF BULK AT MOST 1048576: true; the input reads as it did. -/
def fnExactFsOfUptoRow : OpenClaim := { program := "ytoknpbmcpaaalaa", sum := "1b0cf577e1e311594c4a9ab1658526f5c9320de79b837bf2e93557bb71d5962d", func := "loop.example/g00483/laws.FnExactFsOf", spec := "fnExactFsOf", unfollowed := true, recurses := true, apart := false, narrowed := true }
def FnExactFsOfUptoSaid : Prop := fnExactFsOfUptoRow.holds Try.pinned (OpenSpec.upto fnExactFsOfSpec)

end Rows
end Go.Proofs.Ytoknpbmcpaaalaa
