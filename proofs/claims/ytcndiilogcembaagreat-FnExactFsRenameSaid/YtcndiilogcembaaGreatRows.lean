/-
  No cell of these rows narrows 'for every input' (looked for: loops, veiled, ifaces, maps, wideKeys, modest, calm, conditions, laid).
  DERIVED. THE GIVEN ROWS OF THIS SEAT. 6 by the template 'for every input the law returns true; each argument reads behind the call as it read before'; 0 by the template 'total and deterministic' (their statements: YtcndiilogcembaaGreatTotals.lean).
  GIVEN WITH THE SEED: the statements are not yours to turn. If you find one false, say at which input.
  Laid BY PROGRAM, IN A SANDBOX (cutbox-rows.mjs): the forced cells as the released guide's own fill.sh prints them over the translation 687eb94342bde862… (all of the seat's roots in one cut). By AI agents, Wed Nov 11 2026. No macro, syntax, notation, axiom, sorry.
-/
import Derived.Test.YtcndiilogcembaaGreatChecked
import GoSem.Claim
import GoSem.ClaimJoined
import GoSem.ClaimMapViews
import Derived.JoinedTies
import Derived.KernelRfl
namespace Go.Proofs.YtcndiilogcembaaGreat
/- THE CELL 'sum', in the pinned program and in every row, IS THE sha256 OF THE DUMP (.gsa) THAT YtcndiilogcembaaGreatProg.lean LOADS. Nothing in Lean hashes anything: it is a label: what it is worth is what the hold of that sum in a sandbox is worth. -/
noncomputable def Tryz.pinned : Pinned := { name := "ytcndiilogcembaagreat", sum := "687eb94342bde862a37cdefa1215295ca3f350582f5a2ef00f313a8f6f53e72b", checked := Tryz.checked }
namespace Rows
def none {H : Type} : Left H := { results := [], args := [] }

/-- 'laws.FnExactFsHide': WHATEVER THE INPUT: true; the input reads as it did. -/
def fnExactFsHideSpec : ChangeSpec := { name := "fnExactFsHide", fn := fun _ => fun
  | [d1, d2] => { results := [.lit (.bool true)], args := [d1, d2] }
  | _ => none }
def fnExactFsHideRow : OpenClaim := { program := "ytcndiilogcembaagreat", sum := "687eb94342bde862a37cdefa1215295ca3f350582f5a2ef00f313a8f6f53e72b", func := "loop.example/g00483/laws.FnExactFsHide", spec := "fnExactFsHide", inPlace := ["slices.overlaps[loop.example/g00483/impl.Entry]"], unfollowed := true, recurses := true, apart := false }
def FnExactFsHideSaid : Prop := fnExactFsHideRow.holds Tryz.pinned (OpenSpec.ofChange fnExactFsHideSpec)

/-- ITS FALSE NEIGHBOUR: 'it returns false'. Refute it at one input. -/
def fnExactFsHideWrong : ChangeSpec := { name := "fnExactFsHide", fn := fun _ => fun
  | [d1, d2] => { results := [.lit (.bool false)], args := [d1, d2] }
  | _ => none }
def FnExactFsHideWrongFalsely : Prop := fnExactFsHideRow.holds Tryz.pinned (OpenSpec.ofChange fnExactFsHideWrong)

/-- 'laws.FnExactFsMake': WHATEVER THE INPUT: true; the input reads as it did. -/
def fnExactFsMakeSpec : ChangeSpec := { name := "fnExactFsMake", fn := fun _ => fun
  | [d1, d2, d3, d4, d5, d6] => { results := [.lit (.bool true)], args := [d1, d2, d3, d4, d5, d6] }
  | _ => none }
def fnExactFsMakeRow : OpenClaim := { program := "ytcndiilogcembaagreat", sum := "687eb94342bde862a37cdefa1215295ca3f350582f5a2ef00f313a8f6f53e72b", func := "loop.example/g00483/laws.FnExactFsMake", spec := "fnExactFsMake", inPlace := ["slices.overlaps[loop.example/g00483/impl.Entry]"], unfollowed := true, recurses := true, apart := false }
def FnExactFsMakeSaid : Prop := fnExactFsMakeRow.holds Tryz.pinned (OpenSpec.ofChange fnExactFsMakeSpec)

/-- ITS FALSE NEIGHBOUR: 'it returns false'. Refute it at one input. -/
def fnExactFsMakeWrong : ChangeSpec := { name := "fnExactFsMake", fn := fun _ => fun
  | [d1, d2, d3, d4, d5, d6] => { results := [.lit (.bool false)], args := [d1, d2, d3, d4, d5, d6] }
  | _ => none }
def FnExactFsMakeWrongFalsely : Prop := fnExactFsMakeRow.holds Tryz.pinned (OpenSpec.ofChange fnExactFsMakeWrong)

/-- 'laws.FnExactTreeOf': WHATEVER THE INPUT: true; the input reads as it did. -/
def fnExactTreeOfSpec : ChangeSpec := { name := "fnExactTreeOf", fn := fun _ => fun
  | [d] => { results := [.lit (.bool true)], args := [d] }
  | _ => none }
def fnExactTreeOfRow : OpenClaim := { program := "ytcndiilogcembaagreat", sum := "687eb94342bde862a37cdefa1215295ca3f350582f5a2ef00f313a8f6f53e72b", func := "loop.example/g00483/laws.FnExactTreeOf", spec := "fnExactTreeOf", inPlace := ["internal/abi.NoEscape", "internal/bytealg.MakeNoZero", "internal/bytealg.abigen_runtime_cmpstring"], unfollowed := true, recurses := true, apart := false }
def FnExactTreeOfSaid : Prop := fnExactTreeOfRow.holds Tryz.pinned (OpenSpec.ofChange fnExactTreeOfSpec)

/-- ITS FALSE NEIGHBOUR: 'it returns false'. Refute it at one input. -/
def fnExactTreeOfWrong : ChangeSpec := { name := "fnExactTreeOf", fn := fun _ => fun
  | [d] => { results := [.lit (.bool false)], args := [d] }
  | _ => none }
def FnExactTreeOfWrongFalsely : Prop := fnExactTreeOfRow.holds Tryz.pinned (OpenSpec.ofChange fnExactTreeOfWrong)

/-- 'laws.FnExactFsPlace': WHATEVER THE INPUT: true; the input reads as it did. -/
def fnExactFsPlaceSpec : ChangeSpec := { name := "fnExactFsPlace", fn := fun _ => fun
  | [d1, d2, d3, d4, d5, d6] => { results := [.lit (.bool true)], args := [d1, d2, d3, d4, d5, d6] }
  | _ => none }
def fnExactFsPlaceRow : OpenClaim := { program := "ytcndiilogcembaagreat", sum := "687eb94342bde862a37cdefa1215295ca3f350582f5a2ef00f313a8f6f53e72b", func := "loop.example/g00483/laws.FnExactFsPlace", spec := "fnExactFsPlace", inPlace := ["slices.overlaps[loop.example/g00483/impl.Entry]"], unfollowed := true, recurses := true, apart := false }
def FnExactFsPlaceSaid : Prop := fnExactFsPlaceRow.holds Tryz.pinned (OpenSpec.ofChange fnExactFsPlaceSpec)

/-- ITS FALSE NEIGHBOUR: 'it returns false'. Refute it at one input. -/
def fnExactFsPlaceWrong : ChangeSpec := { name := "fnExactFsPlace", fn := fun _ => fun
  | [d1, d2, d3, d4, d5, d6] => { results := [.lit (.bool false)], args := [d1, d2, d3, d4, d5, d6] }
  | _ => none }
def FnExactFsPlaceWrongFalsely : Prop := fnExactFsPlaceRow.holds Tryz.pinned (OpenSpec.ofChange fnExactFsPlaceWrong)

/-- 'laws.FnExactFsRename': WHATEVER THE INPUT: true; the input reads as it did. -/
def fnExactFsRenameSpec : ChangeSpec := { name := "fnExactFsRename", fn := fun _ => fun
  | [d1, d2, d3, d4] => { results := [.lit (.bool true)], args := [d1, d2, d3, d4] }
  | _ => none }
def fnExactFsRenameRow : OpenClaim := { program := "ytcndiilogcembaagreat", sum := "687eb94342bde862a37cdefa1215295ca3f350582f5a2ef00f313a8f6f53e72b", func := "loop.example/g00483/laws.FnExactFsRename", spec := "fnExactFsRename", inPlace := ["internal/abi.NoEscape", "internal/bytealg.MakeNoZero", "slices.overlaps[loop.example/g00483/impl.Entry]"], unfollowed := true, recurses := true, apart := false }
def FnExactFsRenameSaid : Prop := fnExactFsRenameRow.holds Tryz.pinned (OpenSpec.ofChange fnExactFsRenameSpec)

/-- ITS FALSE NEIGHBOUR: 'it returns false'. Refute it at one input. -/
def fnExactFsRenameWrong : ChangeSpec := { name := "fnExactFsRename", fn := fun _ => fun
  | [d1, d2, d3, d4] => { results := [.lit (.bool false)], args := [d1, d2, d3, d4] }
  | _ => none }
def FnExactFsRenameWrongFalsely : Prop := fnExactFsRenameRow.holds Tryz.pinned (OpenSpec.ofChange fnExactFsRenameWrong)

/-- 'laws.FnExactPoolOk': WHATEVER THE INPUT: true; the input reads as it did. -/
def fnExactPoolOkSpec : ChangeSpec := { name := "fnExactPoolOk", fn := fun _ => fun
  | [d] => { results := [.lit (.bool true)], args := [d] }
  | _ => none }
def fnExactPoolOkRow : OpenClaim := { program := "ytcndiilogcembaagreat", sum := "687eb94342bde862a37cdefa1215295ca3f350582f5a2ef00f313a8f6f53e72b", func := "loop.example/g00483/laws.FnExactPoolOk", spec := "fnExactPoolOk", inPlace := ["internal/abi.NoEscape", "internal/bytealg.MakeNoZero", "internal/bytealg.abigen_runtime_cmpstring"], unfollowed := true, recurses := true, apart := false }
def FnExactPoolOkSaid : Prop := fnExactPoolOkRow.holds Tryz.pinned (OpenSpec.ofChange fnExactPoolOkSpec)

/-- ITS FALSE NEIGHBOUR: 'it returns false'. Refute it at one input. -/
def fnExactPoolOkWrong : ChangeSpec := { name := "fnExactPoolOk", fn := fun _ => fun
  | [d] => { results := [.lit (.bool false)], args := [d] }
  | _ => none }
def FnExactPoolOkWrongFalsely : Prop := fnExactPoolOkRow.holds Tryz.pinned (OpenSpec.ofChange fnExactPoolOkWrong)

/- THE SECOND FORM. 'bulk': how many values and letters a reading holds, each counted each time it is reached (what is shared counts as often as it is met; a slice's spare places count too). A statement '..UptoSaid' is the law's where the arguments, and the package variables that the reading takes, are together of bulk at most 1048576: NARROWER than '..Said'. Prove '..Said' where nothing that the law and all that it calls make is longer than what came in: it says more and counts as full. Else prove '..UptoSaid'. A law counts once. -/
mutual
def uptoBulk {H : Type} : DataW H → Nat
  | .lit (.string bytes) => bytes.length + 1
  | .lit _ => 1
  | .nil => 1
  | .ptr d => uptoBulk d + 1
  | .slice elems spare => uptoBulkAll elems + uptoBulkAll spare + 1
  | .agg parts => uptoBulkAll parts + 1
  | .iface _ d => uptoBulk d + 1
  | .map entries => uptoBulkEntries entries + 1
  | .held _ => 1
def uptoBulkAll {H : Type} : List (DataW H) → Nat
  | [] => 0
  | d :: r => uptoBulk d + uptoBulkAll r
def uptoBulkEntries {H : Type} : List (Lit × DataW H) → Nat
  | [] => 0
  | x :: r => uptoBulkEntry x + uptoBulkEntries r
def uptoBulkEntry {H : Type} : Lit × DataW H → Nat
  | (.string bytes, d) => bytes.length + uptoBulk d + 1
  | (_, d) => uptoBulk d + 1
 end
def uptoSmall : (H : Type) → List (DataW H) → Bool := fun _ ds => decide (uptoBulkAll ds ≤ 1048576)
def OpenSpec.upto (s : _root_.Go.ChangeSpec) : _root_.Go.OpenSpec := { _root_.Go.OpenSpec.ofChange s with cond := some uptoSmall }

/-- 'laws.FnExactFsHide', WHERE WHAT IT READS IS OF BULK AT MOST 1048576: true; the input reads as it did. -/
def fnExactFsHideUptoRow : OpenClaim := { program := "ytcndiilogcembaagreat", sum := "687eb94342bde862a37cdefa1215295ca3f350582f5a2ef00f313a8f6f53e72b", func := "loop.example/g00483/laws.FnExactFsHide", spec := "fnExactFsHide", inPlace := ["slices.overlaps[loop.example/g00483/impl.Entry]"], unfollowed := true, recurses := true, apart := false, narrowed := true }
def FnExactFsHideUptoSaid : Prop := fnExactFsHideUptoRow.holds Tryz.pinned (OpenSpec.upto fnExactFsHideSpec)

/-- 'laws.FnExactFsMake', WHERE WHAT IT READS IS OF BULK AT MOST 1048576: true; the input reads as it did. -/
def fnExactFsMakeUptoRow : OpenClaim := { program := "ytcndiilogcembaagreat", sum := "687eb94342bde862a37cdefa1215295ca3f350582f5a2ef00f313a8f6f53e72b", func := "loop.example/g00483/laws.FnExactFsMake", spec := "fnExactFsMake", inPlace := ["slices.overlaps[loop.example/g00483/impl.Entry]"], unfollowed := true, recurses := true, apart := false, narrowed := true }
def FnExactFsMakeUptoSaid : Prop := fnExactFsMakeUptoRow.holds Tryz.pinned (OpenSpec.upto fnExactFsMakeSpec)

/-- 'laws.FnExactTreeOf', WHERE WHAT IT READS IS OF BULK AT MOST 1048576: true; the input reads as it did. -/
def fnExactTreeOfUptoRow : OpenClaim := { program := "ytcndiilogcembaagreat", sum := "687eb94342bde862a37cdefa1215295ca3f350582f5a2ef00f313a8f6f53e72b", func := "loop.example/g00483/laws.FnExactTreeOf", spec := "fnExactTreeOf", inPlace := ["internal/abi.NoEscape", "internal/bytealg.MakeNoZero", "internal/bytealg.abigen_runtime_cmpstring"], unfollowed := true, recurses := true, apart := false, narrowed := true }
def FnExactTreeOfUptoSaid : Prop := fnExactTreeOfUptoRow.holds Tryz.pinned (OpenSpec.upto fnExactTreeOfSpec)

/-- 'laws.FnExactFsPlace', WHERE WHAT IT READS IS OF BULK AT MOST 1048576: true; the input reads as it did. -/
def fnExactFsPlaceUptoRow : OpenClaim := { program := "ytcndiilogcembaagreat", sum := "687eb94342bde862a37cdefa1215295ca3f350582f5a2ef00f313a8f6f53e72b", func := "loop.example/g00483/laws.FnExactFsPlace", spec := "fnExactFsPlace", inPlace := ["slices.overlaps[loop.example/g00483/impl.Entry]"], unfollowed := true, recurses := true, apart := false, narrowed := true }
def FnExactFsPlaceUptoSaid : Prop := fnExactFsPlaceUptoRow.holds Tryz.pinned (OpenSpec.upto fnExactFsPlaceSpec)

/-- 'laws.FnExactFsRename', WHERE WHAT IT READS IS OF BULK AT MOST 1048576: true; the input reads as it did. -/
def fnExactFsRenameUptoRow : OpenClaim := { program := "ytcndiilogcembaagreat", sum := "687eb94342bde862a37cdefa1215295ca3f350582f5a2ef00f313a8f6f53e72b", func := "loop.example/g00483/laws.FnExactFsRename", spec := "fnExactFsRename", inPlace := ["internal/abi.NoEscape", "internal/bytealg.MakeNoZero", "slices.overlaps[loop.example/g00483/impl.Entry]"], unfollowed := true, recurses := true, apart := false, narrowed := true }
def FnExactFsRenameUptoSaid : Prop := fnExactFsRenameUptoRow.holds Tryz.pinned (OpenSpec.upto fnExactFsRenameSpec)

/-- 'laws.FnExactPoolOk', WHERE WHAT IT READS IS OF BULK AT MOST 1048576: true; the input reads as it did. -/
def fnExactPoolOkUptoRow : OpenClaim := { program := "ytcndiilogcembaagreat", sum := "687eb94342bde862a37cdefa1215295ca3f350582f5a2ef00f313a8f6f53e72b", func := "loop.example/g00483/laws.FnExactPoolOk", spec := "fnExactPoolOk", inPlace := ["internal/abi.NoEscape", "internal/bytealg.MakeNoZero", "internal/bytealg.abigen_runtime_cmpstring"], unfollowed := true, recurses := true, apart := false, narrowed := true }
def FnExactPoolOkUptoSaid : Prop := fnExactPoolOkUptoRow.holds Tryz.pinned (OpenSpec.upto fnExactPoolOkSpec)

end Rows
end Go.Proofs.YtcndiilogcembaaGreat
