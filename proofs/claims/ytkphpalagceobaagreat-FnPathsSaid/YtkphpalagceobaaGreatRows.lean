/-
  No cell of these rows narrows 'for every input' (looked for: loops, veiled, ifaces, maps, wideKeys, modest, calm, conditions, laid).
  DERIVED. THE GIVEN ROWS OF THIS SEAT. 8 by the template 'for every input the law returns true; each argument reads behind the call as it read before'; 0 by the template 'total and deterministic' (their statements: YtkphpalagceobaaGreatTotals.lean).
  GIVEN WITH THE SEED: the statements are not yours to turn. If you find one false, say at which input.
  Laid BY PROGRAM, IN A SANDBOX (cutbox-rows.mjs): the forced cells as the released guide's own fill.sh prints them over the translation f1d8a49fb299757d… (all of the seat's roots in one cut). By AI agents, Wed Nov 11 2026. No macro, syntax, notation, axiom, sorry.
-/
import Derived.Test.YtkphpalagceobaaGreatChecked
import GoSem.Claim
import GoSem.ClaimJoined
import GoSem.ClaimMapViews
import Derived.JoinedTies
import Derived.KernelRfl
namespace Go.Proofs.YtkphpalagceobaaGreat
/- THE CELL 'sum', in the pinned program and in every row, IS THE sha256 OF THE DUMP (.gsa) THAT YtkphpalagceobaaGreatProg.lean LOADS. Nothing in Lean hashes anything: it is a label: what it is worth is what the hold of that sum in a sandbox is worth. -/
noncomputable def Tryz.pinned : Pinned := { name := "ytkphpalagceobaagreat", sum := "f1d8a49fb299757d739dbf5b58a0f333c49bb84fd42479cc5ca705c8026e0d0d", checked := Tryz.checked }
namespace Rows
def none {H : Type} : Left H := { results := [], args := [] }

/-- 'laws.FnPaths': WHATEVER THE INPUT: true; the input reads as it did. -/
def fnPathsSpec : ChangeSpec := { name := "fnPaths", fn := fun _ => fun
  | [d] => { results := [.lit (.bool true)], args := [d] }
  | _ => none }
def fnPathsRow : OpenClaim := { program := "ytkphpalagceobaagreat", sum := "f1d8a49fb299757d739dbf5b58a0f333c49bb84fd42479cc5ca705c8026e0d0d", func := "loop.example/g00483/laws.FnPaths", spec := "fnPaths", inPlace := ["internal/abi.NoEscape", "internal/bytealg.MakeNoZero", "internal/bytealg.abigen_runtime_cmpstring"], unfollowed := true, recurses := true, apart := false }
def FnPathsSaid : Prop := fnPathsRow.holds Tryz.pinned (OpenSpec.ofChange fnPathsSpec)

/-- ITS FALSE NEIGHBOUR: 'it returns false'. Refute it at one input. -/
def fnPathsWrong : ChangeSpec := { name := "fnPaths", fn := fun _ => fun
  | [d] => { results := [.lit (.bool false)], args := [d] }
  | _ => none }
def FnPathsWrongFalsely : Prop := fnPathsRow.holds Tryz.pinned (OpenSpec.ofChange fnPathsWrong)

/-- 'laws.FnPoolTree': WHATEVER THE INPUT: true; the input reads as it did. -/
def fnPoolTreeSpec : ChangeSpec := { name := "fnPoolTree", fn := fun _ => fun
  | [d] => { results := [.lit (.bool true)], args := [d] }
  | _ => none }
def fnPoolTreeRow : OpenClaim := { program := "ytkphpalagceobaagreat", sum := "f1d8a49fb299757d739dbf5b58a0f333c49bb84fd42479cc5ca705c8026e0d0d", func := "loop.example/g00483/laws.FnPoolTree", spec := "fnPoolTree", inPlace := ["internal/abi.NoEscape", "internal/bytealg.MakeNoZero", "internal/bytealg.abigen_runtime_cmpstring"], unfollowed := true, recurses := true, apart := false }
def FnPoolTreeSaid : Prop := fnPoolTreeRow.holds Tryz.pinned (OpenSpec.ofChange fnPoolTreeSpec)

/-- ITS FALSE NEIGHBOUR: 'it returns false'. Refute it at one input. -/
def fnPoolTreeWrong : ChangeSpec := { name := "fnPoolTree", fn := fun _ => fun
  | [d] => { results := [.lit (.bool false)], args := [d] }
  | _ => none }
def FnPoolTreeWrongFalsely : Prop := fnPoolTreeRow.holds Tryz.pinned (OpenSpec.ofChange fnPoolTreeWrong)

/-- 'laws.FnRenamed': WHATEVER THE INPUT: true; the input reads as it did. -/
def fnRenamedSpec : ChangeSpec := { name := "fnRenamed", fn := fun _ => fun
  | [d] => { results := [.lit (.bool true)], args := [d] }
  | _ => none }
def fnRenamedRow : OpenClaim := { program := "ytkphpalagceobaagreat", sum := "f1d8a49fb299757d739dbf5b58a0f333c49bb84fd42479cc5ca705c8026e0d0d", func := "loop.example/g00483/laws.FnRenamed", spec := "fnRenamed", inPlace := ["internal/abi.NoEscape", "internal/bytealg.MakeNoZero", "slices.overlaps[loop.example/g00483/impl.Entry]", "internal/bytealg.abigen_runtime_cmpstring"], unfollowed := true, recurses := true, apart := false }
def FnRenamedSaid : Prop := fnRenamedRow.holds Tryz.pinned (OpenSpec.ofChange fnRenamedSpec)

/-- ITS FALSE NEIGHBOUR: 'it returns false'. Refute it at one input. -/
def fnRenamedWrong : ChangeSpec := { name := "fnRenamed", fn := fun _ => fun
  | [d] => { results := [.lit (.bool false)], args := [d] }
  | _ => none }
def FnRenamedWrongFalsely : Prop := fnRenamedRow.holds Tryz.pinned (OpenSpec.ofChange fnRenamedWrong)

/-- 'laws.FnSetOnly': WHATEVER THE INPUT: true; the input reads as it did. -/
def fnSetOnlySpec : ChangeSpec := { name := "fnSetOnly", fn := fun _ => fun
  | [d] => { results := [.lit (.bool true)], args := [d] }
  | _ => none }
def fnSetOnlyRow : OpenClaim := { program := "ytkphpalagceobaagreat", sum := "f1d8a49fb299757d739dbf5b58a0f333c49bb84fd42479cc5ca705c8026e0d0d", func := "loop.example/g00483/laws.FnSetOnly", spec := "fnSetOnly", inPlace := ["internal/abi.NoEscape", "internal/bytealg.MakeNoZero", "internal/bytealg.abigen_runtime_cmpstring"], unfollowed := true, recurses := true, apart := false }
def FnSetOnlySaid : Prop := fnSetOnlyRow.holds Tryz.pinned (OpenSpec.ofChange fnSetOnlySpec)

/-- ITS FALSE NEIGHBOUR: 'it returns false'. Refute it at one input. -/
def fnSetOnlyWrong : ChangeSpec := { name := "fnSetOnly", fn := fun _ => fun
  | [d] => { results := [.lit (.bool false)], args := [d] }
  | _ => none }
def FnSetOnlyWrongFalsely : Prop := fnSetOnlyRow.holds Tryz.pinned (OpenSpec.ofChange fnSetOnlyWrong)

/-- 'laws.FnRoom': WHATEVER THE INPUT: true; the input reads as it did. -/
def fnRoomSpec : ChangeSpec := { name := "fnRoom", fn := fun _ => fun
  | [d] => { results := [.lit (.bool true)], args := [d] }
  | _ => none }
def fnRoomRow : OpenClaim := { program := "ytkphpalagceobaagreat", sum := "f1d8a49fb299757d739dbf5b58a0f333c49bb84fd42479cc5ca705c8026e0d0d", func := "loop.example/g00483/laws.FnRoom", spec := "fnRoom", inPlace := ["internal/abi.NoEscape", "internal/bytealg.MakeNoZero", "internal/bytealg.abigen_runtime_cmpstring"], unfollowed := true, recurses := true, apart := false }
def FnRoomSaid : Prop := fnRoomRow.holds Tryz.pinned (OpenSpec.ofChange fnRoomSpec)

/-- ITS FALSE NEIGHBOUR: 'it returns false'. Refute it at one input. -/
def fnRoomWrong : ChangeSpec := { name := "fnRoom", fn := fun _ => fun
  | [d] => { results := [.lit (.bool false)], args := [d] }
  | _ => none }
def FnRoomWrongFalsely : Prop := fnRoomRow.holds Tryz.pinned (OpenSpec.ofChange fnRoomWrong)

/-- 'laws.FnWinner': WHATEVER THE INPUT: true; the input reads as it did. -/
def fnWinnerSpec : ChangeSpec := { name := "fnWinner", fn := fun _ => fun
  | [d] => { results := [.lit (.bool true)], args := [d] }
  | _ => none }
def fnWinnerRow : OpenClaim := { program := "ytkphpalagceobaagreat", sum := "f1d8a49fb299757d739dbf5b58a0f333c49bb84fd42479cc5ca705c8026e0d0d", func := "loop.example/g00483/laws.FnWinner", spec := "fnWinner", inPlace := ["internal/abi.NoEscape", "internal/bytealg.MakeNoZero", "internal/bytealg.abigen_runtime_cmpstring"], unfollowed := true, recurses := true, apart := false }
def FnWinnerSaid : Prop := fnWinnerRow.holds Tryz.pinned (OpenSpec.ofChange fnWinnerSpec)

/-- ITS FALSE NEIGHBOUR: 'it returns false'. Refute it at one input. -/
def fnWinnerWrong : ChangeSpec := { name := "fnWinner", fn := fun _ => fun
  | [d] => { results := [.lit (.bool false)], args := [d] }
  | _ => none }
def FnWinnerWrongFalsely : Prop := fnWinnerRow.holds Tryz.pinned (OpenSpec.ofChange fnWinnerWrong)

/-- 'laws.FnHidden': WHATEVER THE INPUT: true; the input reads as it did. -/
def fnHiddenSpec : ChangeSpec := { name := "fnHidden", fn := fun _ => fun
  | [d] => { results := [.lit (.bool true)], args := [d] }
  | _ => none }
def fnHiddenRow : OpenClaim := { program := "ytkphpalagceobaagreat", sum := "f1d8a49fb299757d739dbf5b58a0f333c49bb84fd42479cc5ca705c8026e0d0d", func := "loop.example/g00483/laws.FnHidden", spec := "fnHidden", inPlace := ["slices.overlaps[loop.example/g00483/impl.Entry]", "internal/abi.NoEscape", "internal/bytealg.MakeNoZero", "internal/bytealg.abigen_runtime_cmpstring"], unfollowed := true, recurses := true, apart := false }
def FnHiddenSaid : Prop := fnHiddenRow.holds Tryz.pinned (OpenSpec.ofChange fnHiddenSpec)

/-- ITS FALSE NEIGHBOUR: 'it returns false'. Refute it at one input. -/
def fnHiddenWrong : ChangeSpec := { name := "fnHidden", fn := fun _ => fun
  | [d] => { results := [.lit (.bool false)], args := [d] }
  | _ => none }
def FnHiddenWrongFalsely : Prop := fnHiddenRow.holds Tryz.pinned (OpenSpec.ofChange fnHiddenWrong)

/-- 'laws.FnMade': WHATEVER THE INPUT: true; the input reads as it did. -/
def fnMadeSpec : ChangeSpec := { name := "fnMade", fn := fun _ => fun
  | [d] => { results := [.lit (.bool true)], args := [d] }
  | _ => none }
def fnMadeRow : OpenClaim := { program := "ytkphpalagceobaagreat", sum := "f1d8a49fb299757d739dbf5b58a0f333c49bb84fd42479cc5ca705c8026e0d0d", func := "loop.example/g00483/laws.FnMade", spec := "fnMade", inPlace := ["slices.overlaps[loop.example/g00483/impl.Entry]", "internal/abi.NoEscape", "internal/bytealg.MakeNoZero", "internal/bytealg.abigen_runtime_cmpstring"], unfollowed := true, recurses := true, apart := false }
def FnMadeSaid : Prop := fnMadeRow.holds Tryz.pinned (OpenSpec.ofChange fnMadeSpec)

/-- ITS FALSE NEIGHBOUR: 'it returns false'. Refute it at one input. -/
def fnMadeWrong : ChangeSpec := { name := "fnMade", fn := fun _ => fun
  | [d] => { results := [.lit (.bool false)], args := [d] }
  | _ => none }
def FnMadeWrongFalsely : Prop := fnMadeRow.holds Tryz.pinned (OpenSpec.ofChange fnMadeWrong)

/- THE SECOND FORM. 'bulk': how many values and letters a reading holds, each counted each time it is reached (what is shared counts as often as it is met; a slice's spare places count too). A statement '..UptoSaid' is the law's where the arguments, and the package variables that the reading takes, are together of bulk at most 1048576: NARROWER than '..Said'. Prove '..Said' where nothing that the law and all that it calls make is longer than what came in: it says more and counts as full. Else prove '..UptoSaid'. A law counts once. -/
mutual
def uptoBulk {H : Type} : DataW H → Nat
  | .lit (.string bytes) => bytes.length + 1
  | .lit _ => 1
  | .nil => 1
  | .ptr d => uptoBulk d + 1
  | .slice elems spare => uptoBulkAll elems + uptoBulkAll spare + 1
  | .agg parts => uptoBulkAll parts + 1
  | .iface _ d => uptoBulk d + 1
  | .map entries => uptoBulkEntries entries + 1
  | .held _ => 1
def uptoBulkAll {H : Type} : List (DataW H) → Nat
  | [] => 0
  | d :: r => uptoBulk d + uptoBulkAll r
def uptoBulkEntries {H : Type} : List (Lit × DataW H) → Nat
  | [] => 0
  | x :: r => uptoBulkEntry x + uptoBulkEntries r
def uptoBulkEntry {H : Type} : Lit × DataW H → Nat
  | (.string bytes, d) => bytes.length + uptoBulk d + 1
  | (_, d) => uptoBulk d + 1
 end
def uptoSmall : (H : Type) → List (DataW H) → Bool := fun _ ds => decide (uptoBulkAll ds ≤ 1048576)
def OpenSpec.upto (s : _root_.Go.ChangeSpec) : _root_.Go.OpenSpec := { _root_.Go.OpenSpec.ofChange s with cond := some uptoSmall }

/-- 'laws.FnPaths', WHERE WHAT IT READS IS OF BULK AT MOST 1048576: true; the input reads as it did. -/
def fnPathsUptoRow : OpenClaim := { program := "ytkphpalagceobaagreat", sum := "f1d8a49fb299757d739dbf5b58a0f333c49bb84fd42479cc5ca705c8026e0d0d", func := "loop.example/g00483/laws.FnPaths", spec := "fnPaths", inPlace := ["internal/abi.NoEscape", "internal/bytealg.MakeNoZero", "internal/bytealg.abigen_runtime_cmpstring"], unfollowed := true, recurses := true, apart := false, narrowed := true }
def FnPathsUptoSaid : Prop := fnPathsUptoRow.holds Tryz.pinned (OpenSpec.upto fnPathsSpec)

/-- 'laws.FnPoolTree', WHERE WHAT IT READS IS OF BULK AT MOST 1048576: true; the input reads as it did. -/
def fnPoolTreeUptoRow : OpenClaim := { program := "ytkphpalagceobaagreat", sum := "f1d8a49fb299757d739dbf5b58a0f333c49bb84fd42479cc5ca705c8026e0d0d", func := "loop.example/g00483/laws.FnPoolTree", spec := "fnPoolTree", inPlace := ["internal/abi.NoEscape", "internal/bytealg.MakeNoZero", "internal/bytealg.abigen_runtime_cmpstring"], unfollowed := true, recurses := true, apart := false, narrowed := true }
def FnPoolTreeUptoSaid : Prop := fnPoolTreeUptoRow.holds Tryz.pinned (OpenSpec.upto fnPoolTreeSpec)

/-- 'laws.FnRenamed', WHERE WHAT IT READS IS OF BULK AT MOST 1048576: true; the input reads as it did. -/
def fnRenamedUptoRow : OpenClaim := { program := "ytkphpalagceobaagreat", sum := "f1d8a49fb299757d739dbf5b58a0f333c49bb84fd42479cc5ca705c8026e0d0d", func := "loop.example/g00483/laws.FnRenamed", spec := "fnRenamed", inPlace := ["internal/abi.NoEscape", "internal/bytealg.MakeNoZero", "slices.overlaps[loop.example/g00483/impl.Entry]", "internal/bytealg.abigen_runtime_cmpstring"], unfollowed := true, recurses := true, apart := false, narrowed := true }
def FnRenamedUptoSaid : Prop := fnRenamedUptoRow.holds Tryz.pinned (OpenSpec.upto fnRenamedSpec)

/-- 'laws.FnSetOnly', WHERE WHAT IT READS IS OF BULK AT MOST 1048576: true; the input reads as it did. -/
def fnSetOnlyUptoRow : OpenClaim := { program := "ytkphpalagceobaagreat", sum := "f1d8a49fb299757d739dbf5b58a0f333c49bb84fd42479cc5ca705c8026e0d0d", func := "loop.example/g00483/laws.FnSetOnly", spec := "fnSetOnly", inPlace := ["internal/abi.NoEscape", "internal/bytealg.MakeNoZero", "internal/bytealg.abigen_runtime_cmpstring"], unfollowed := true, recurses := true, apart := false, narrowed := true }
def FnSetOnlyUptoSaid : Prop := fnSetOnlyUptoRow.holds Tryz.pinned (OpenSpec.upto fnSetOnlySpec)

/-- 'laws.FnRoom', WHERE WHAT IT READS IS OF BULK AT MOST 1048576: true; the input reads as it did. -/
def fnRoomUptoRow : OpenClaim := { program := "ytkphpalagceobaagreat", sum := "f1d8a49fb299757d739dbf5b58a0f333c49bb84fd42479cc5ca705c8026e0d0d", func := "loop.example/g00483/laws.FnRoom", spec := "fnRoom", inPlace := ["internal/abi.NoEscape", "internal/bytealg.MakeNoZero", "internal/bytealg.abigen_runtime_cmpstring"], unfollowed := true, recurses := true, apart := false, narrowed := true }
def FnRoomUptoSaid : Prop := fnRoomUptoRow.holds Tryz.pinned (OpenSpec.upto fnRoomSpec)

/-- 'laws.FnWinner', WHERE WHAT IT READS IS OF BULK AT MOST 1048576: true; the input reads as it did. -/
def fnWinnerUptoRow : OpenClaim := { program := "ytkphpalagceobaagreat", sum := "f1d8a49fb299757d739dbf5b58a0f333c49bb84fd42479cc5ca705c8026e0d0d", func := "loop.example/g00483/laws.FnWinner", spec := "fnWinner", inPlace := ["internal/abi.NoEscape", "internal/bytealg.MakeNoZero", "internal/bytealg.abigen_runtime_cmpstring"], unfollowed := true, recurses := true, apart := false, narrowed := true }
def FnWinnerUptoSaid : Prop := fnWinnerUptoRow.holds Tryz.pinned (OpenSpec.upto fnWinnerSpec)

/-- 'laws.FnHidden', WHERE WHAT IT READS IS OF BULK AT MOST 1048576: true; the input reads as it did. -/
def fnHiddenUptoRow : OpenClaim := { program := "ytkphpalagceobaagreat", sum := "f1d8a49fb299757d739dbf5b58a0f333c49bb84fd42479cc5ca705c8026e0d0d", func := "loop.example/g00483/laws.FnHidden", spec := "fnHidden", inPlace := ["slices.overlaps[loop.example/g00483/impl.Entry]", "internal/abi.NoEscape", "internal/bytealg.MakeNoZero", "internal/bytealg.abigen_runtime_cmpstring"], unfollowed := true, recurses := true, apart := false, narrowed := true }
def FnHiddenUptoSaid : Prop := fnHiddenUptoRow.holds Tryz.pinned (OpenSpec.upto fnHiddenSpec)

/-- 'laws.FnMade', WHERE WHAT IT READS IS OF BULK AT MOST 1048576: true; the input reads as it did. -/
def fnMadeUptoRow : OpenClaim := { program := "ytkphpalagceobaagreat", sum := "f1d8a49fb299757d739dbf5b58a0f333c49bb84fd42479cc5ca705c8026e0d0d", func := "loop.example/g00483/laws.FnMade", spec := "fnMade", inPlace := ["slices.overlaps[loop.example/g00483/impl.Entry]", "internal/abi.NoEscape", "internal/bytealg.MakeNoZero", "internal/bytealg.abigen_runtime_cmpstring"], unfollowed := true, recurses := true, apart := false, narrowed := true }
def FnMadeUptoSaid : Prop := fnMadeUptoRow.holds Tryz.pinned (OpenSpec.upto fnMadeSpec)

end Rows
end Go.Proofs.YtkphpalagceobaaGreat
