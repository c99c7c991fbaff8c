/-
  No cell of these rows narrows 'for every input' (looked for: loops, veiled, ifaces, maps, wideKeys, modest, calm, conditions, laid).
  DERIVED. THE GIVEN ROWS OF THIS SEAT. 5 by the template 'for every input the law returns true; each argument reads behind the call as it read before'; 0 by the template 'total and deterministic' (their statements: YtcndiilogcembaaTotals.lean).
  GIVEN WITH THE SEED: the statements are not yours to turn. If you find one false, say at which input.
  Laid BY PROGRAM, IN A SANDBOX (cutbox-rows.mjs): the forced cells as the released guide's own fill.sh prints them over the translation 7b35e00ac9e813d8… (all of the seat's roots in one cut). By AI agents, Wed Nov 11 2026. No macro, syntax, notation, axiom, sorry.
-/
import Derived.Test.YtcndiilogcembaaChecked
import GoSem.Claim
import GoSem.ClaimJoined
import GoSem.ClaimMapViews
import Derived.JoinedTies
import Derived.KernelRfl
namespace Go.Proofs.Ytcndiilogcembaa
/- THE CELL 'sum', in the pinned program and in every row, IS THE sha256 OF THE DUMP (.gsa) THAT YtcndiilogcembaaProg.lean LOADS. Nothing in Lean hashes anything: it is a label: what it is worth is what the hold of that sum in a sandbox is worth. -/
noncomputable def Try.pinned : Pinned := { name := "ytcndiilogcembaa", sum := "7b35e00ac9e813d841283821ee1ba504bfee3108dd40143ab8d637a6191528c6", checked := Try.checked }
namespace Rows
def none {H : Type} : Left H := { results := [], args := [] }

/-- 'laws.FnExactDirAdd': WHATEVER THE INPUT: true; the input reads as it did. -/
def fnExactDirAddSpec : ChangeSpec := { name := "fnExactDirAdd", fn := fun _ => fun
  | [d1, d2, d3] => { results := [.lit (.bool true)], args := [d1, d2, d3] }
  | _ => none }
def fnExactDirAddRow : OpenClaim := { program := "ytcndiilogcembaa", sum := "7b35e00ac9e813d841283821ee1ba504bfee3108dd40143ab8d637a6191528c6", func := "loop.example/g00483/laws.FnExactDirAdd", spec := "fnExactDirAdd", inPlace := ["slices.overlaps[loop.example/g00483/impl.Entry]"], unfollowed := true, recurses := true, apart := false }
def FnExactDirAddSaid : Prop := fnExactDirAddRow.holds Try.pinned (OpenSpec.ofChange fnExactDirAddSpec)

/-- ITS FALSE NEIGHBOUR: 'it returns false'. Refute it at one input. -/
def fnExactDirAddWrong : ChangeSpec := { name := "fnExactDirAdd", fn := fun _ => fun
  | [d1, d2, d3] => { results := [.lit (.bool false)], args := [d1, d2, d3] }
  | _ => none }
def FnExactDirAddWrongFalsely : Prop := fnExactDirAddRow.holds Try.pinned (OpenSpec.ofChange fnExactDirAddWrong)

/-- 'laws.FnEntries': WHATEVER THE INPUT: true; the input reads as it did. -/
def fnEntriesSpec : ChangeSpec := { name := "fnEntries", fn := fun _ => fun
  | [d] => { results := [.lit (.bool true)], args := [d] }
  | _ => none }
def fnEntriesRow : OpenClaim := { program := "ytcndiilogcembaa", sum := "7b35e00ac9e813d841283821ee1ba504bfee3108dd40143ab8d637a6191528c6", func := "loop.example/g00483/laws.FnEntries", spec := "fnEntries", inPlace := ["slices.overlaps[loop.example/g00483/impl.Entry]"], unfollowed := true, recurses := true, apart := false }
def FnEntriesSaid : Prop := fnEntriesRow.holds Try.pinned (OpenSpec.ofChange fnEntriesSpec)

/-- ITS FALSE NEIGHBOUR: 'it returns false'. Refute it at one input. -/
def fnEntriesWrong : ChangeSpec := { name := "fnEntries", fn := fun _ => fun
  | [d] => { results := [.lit (.bool false)], args := [d] }
  | _ => none }
def FnEntriesWrongFalsely : Prop := fnEntriesRow.holds Try.pinned (OpenSpec.ofChange fnEntriesWrong)

/-- 'laws.FnExactFsBlocks': WHATEVER THE INPUT: true; the input reads as it did. -/
def fnExactFsBlocksSpec : ChangeSpec := { name := "fnExactFsBlocks", fn := fun _ => fun
  | [d] => { results := [.lit (.bool true)], args := [d] }
  | _ => none }
def fnExactFsBlocksRow : OpenClaim := { program := "ytcndiilogcembaa", sum := "7b35e00ac9e813d841283821ee1ba504bfee3108dd40143ab8d637a6191528c6", func := "loop.example/g00483/laws.FnExactFsBlocks", spec := "fnExactFsBlocks", unfollowed := true, recurses := true, apart := false }
def FnExactFsBlocksSaid : Prop := fnExactFsBlocksRow.holds Try.pinned (OpenSpec.ofChange fnExactFsBlocksSpec)

/-- ITS FALSE NEIGHBOUR: 'it returns false'. Refute it at one input. -/
def fnExactFsBlocksWrong : ChangeSpec := { name := "fnExactFsBlocks", fn := fun _ => fun
  | [d] => { results := [.lit (.bool false)], args := [d] }
  | _ => none }
def FnExactFsBlocksWrongFalsely : Prop := fnExactFsBlocksRow.holds Try.pinned (OpenSpec.ofChange fnExactFsBlocksWrong)

/-- 'laws.FnExactDiff': WHATEVER THE INPUT: true; the input reads as it did. -/
def fnExactDiffSpec : ChangeSpec := { name := "fnExactDiff", fn := fun _ => fun
  | [d1, d2] => { results := [.lit (.bool true)], args := [d1, d2] }
  | _ => none }
def fnExactDiffRow : OpenClaim := { program := "ytcndiilogcembaa", sum := "7b35e00ac9e813d841283821ee1ba504bfee3108dd40143ab8d637a6191528c6", func := "loop.example/g00483/laws.FnExactDiff", spec := "fnExactDiff", unfollowed := true, recurses := true, apart := false }
def FnExactDiffSaid : Prop := fnExactDiffRow.holds Try.pinned (OpenSpec.ofChange fnExactDiffSpec)

/-- ITS FALSE NEIGHBOUR: 'it returns false'. Refute it at one input. -/
def fnExactDiffWrong : ChangeSpec := { name := "fnExactDiff", fn := fun _ => fun
  | [d1, d2] => { results := [.lit (.bool false)], args := [d1, d2] }
  | _ => none }
def FnExactDiffWrongFalsely : Prop := fnExactDiffRow.holds Try.pinned (OpenSpec.ofChange fnExactDiffWrong)

/-- 'laws.FnExactFsOf': WHATEVER THE INPUT: true; the input reads as it did. -/
def fnExactFsOfSpec : ChangeSpec := { name := "fnExactFsOf", fn := fun _ => fun
  | [d] => { results := [.lit (.bool true)], args := [d] }
  | _ => none }
def fnExactFsOfRow : OpenClaim := { program := "ytcndiilogcembaa", sum := "7b35e00ac9e813d841283821ee1ba504bfee3108dd40143ab8d637a6191528c6", func := "loop.example/g00483/laws.FnExactFsOf", spec := "fnExactFsOf", unfollowed := true, recurses := true, apart := false }
def FnExactFsOfSaid : Prop := fnExactFsOfRow.holds Try.pinned (OpenSpec.ofChange fnExactFsOfSpec)

/-- ITS FALSE NEIGHBOUR: 'it returns false'. Refute it at one input. -/
def fnExactFsOfWrong : ChangeSpec := { name := "fnExactFsOf", fn := fun _ => fun
  | [d] => { results := [.lit (.bool false)], args := [d] }
  | _ => none }
def FnExactFsOfWrongFalsely : Prop := fnExactFsOfRow.holds Try.pinned (OpenSpec.ofChange fnExactFsOfWrong)

/- THE SECOND FORM. 'bulk': how many values and letters a reading holds, each counted each time it is reached (what is shared counts as often as it is met; a slice's spare places count too). A statement '..UptoSaid' is the law's where the arguments, and the package variables that the reading takes, are together of bulk at most 1048576: NARROWER than '..Said'. Prove '..Said' where nothing that the law and all that it calls make is longer than what came in: it says more and counts as full. Else prove '..UptoSaid'. A law counts once. -/
mutual
def uptoBulk {H : Type} : DataW H → Nat
  | .lit (.string bytes) => bytes.length + 1
  | .lit _ => 1
  | .nil => 1
  | .ptr d => uptoBulk d + 1
  | .slice elems spare => uptoBulkAll elems + uptoBulkAll spare + 1
  | .agg parts => uptoBulkAll parts + 1
  | .iface _ d => uptoBulk d + 1
  | .map entries => uptoBulkEntries entries + 1
  | .held _ => 1
def uptoBulkAll {H : Type} : List (DataW H) → Nat
  | [] => 0
  | d :: r => uptoBulk d + uptoBulkAll r
def uptoBulkEntries {H : Type} : List (Lit × DataW H) → Nat
  | [] => 0
  | x :: r => uptoBulkEntry x + uptoBulkEntries r
def uptoBulkEntry {H : Type} : Lit × DataW H → Nat
  | (.string bytes, d) => bytes.length + uptoBulk d + 1
  | (_, d) => uptoBulk d + 1
 end
def uptoSmall : (H : Type) → List (DataW H) → Bool := fun _ ds => decide (uptoBulkAll ds ≤ 1048576)
def OpenSpec.upto (s : _root_.Go.ChangeSpec) : _root_.Go.OpenSpec := { _root_.Go.OpenSpec.ofChange s with cond := some uptoSmall }

/-- 'laws.FnExactDirAdd', WHERE WHAT IT READS IS OF BULK AT MOST 1048576: true; the input reads as it did. -/
def fnExactDirAddUptoRow : OpenClaim := { program := "ytcndiilogcembaa", sum := "7b35e00ac9e813d841283821ee1ba504bfee3108dd40143ab8d637a6191528c6", func := "loop.example/g00483/laws.FnExactDirAdd", spec := "fnExactDirAdd", inPlace := ["slices.overlaps[loop.example/g00483/impl.Entry]"], unfollowed := true, recurses := true, apart := false, narrowed := true }
def FnExactDirAddUptoSaid : Prop := fnExactDirAddUptoRow.holds Try.pinned (OpenSpec.upto fnExactDirAddSpec)

/-- 'laws.FnEntries', WHERE WHAT IT READS IS OF BULK AT MOST 1048576: true; the input reads as it did. -/
def fnEntriesUptoRow : OpenClaim := { program := "ytcndiilogcembaa", sum := "7b35e00ac9e813d841283821ee1ba504bfee3108dd40143ab8d637a6191528c6", func := "loop.example/g00483/laws.FnEntries", spec := "fnEntries", inPlace := ["slices.overlaps[loop.example/g00483/impl.Entry]"], unfollowed := true, recurses := true, apart := false, narrowed := true }
def FnEntriesUptoSaid : Prop := fnEntriesUptoRow.holds Try.pinned (OpenSpec.upto fnEntriesSpec)

/-- 'laws.FnExactFsBlocks', WHERE WHAT IT READS IS OF BULK AT MOST 1048576: true; the input reads as it did. -/
def fnExactFsBlocksUptoRow : OpenClaim := { program := "ytcndiilogcembaa", sum := "7b35e00ac9e813d841283821ee1ba504bfee3108dd40143ab8d637a6191528c6", func := "loop.example/g00483/laws.FnExactFsBlocks", spec := "fnExactFsBlocks", unfollowed := true, recurses := true, apart := false, narrowed := true }
def FnExactFsBlocksUptoSaid : Prop := fnExactFsBlocksUptoRow.holds Try.pinned (OpenSpec.upto fnExactFsBlocksSpec)

/-- 'laws.FnExactDiff', WHERE WHAT IT READS IS OF BULK AT MOST 1048576: true; the input reads as it did. -/
def fnExactDiffUptoRow : OpenClaim := { program := "ytcndiilogcembaa", sum := "7b35e00ac9e813d841283821ee1ba504bfee3108dd40143ab8d637a6191528c6", func := "loop.example/g00483/laws.FnExactDiff", spec := "fnExactDiff", unfollowed := true, recurses := true, apart := false, narrowed := true }
def FnExactDiffUptoSaid : Prop := fnExactDiffUptoRow.holds Try.pinned (OpenSpec.upto fnExactDiffSpec)

/-- 'laws.FnExactFsOf', WHERE WHAT IT READS IS OF BULK AT MOST 1048576: true; the input reads as it did. -/
def fnExactFsOfUptoRow : OpenClaim := { program := "ytcndiilogcembaa", sum := "7b35e00ac9e813d841283821ee1ba504bfee3108dd40143ab8d637a6191528c6", func := "loop.example/g00483/laws.FnExactFsOf", spec := "fnExactFsOf", unfollowed := true, recurses := true, apart := false, narrowed := true }
def FnExactFsOfUptoSaid : Prop := fnExactFsOfUptoRow.holds Try.pinned (OpenSpec.upto fnExactFsOfSpec)

end Rows
end Go.Proofs.Ytcndiilogcembaa
