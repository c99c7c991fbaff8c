/-
  No cell of these rows narrows 'for every input' (looked for: loops, veiled, ifaces, maps, wideKeys, modest, calm, conditions, laid).
  DERIVED. THE GIVEN ROWS OF THIS SEAT. 4 by the template 'for every input the law returns true; each argument reads behind the call as it read before'; 0 by the template 'total and deterministic' (their statements: YtmpgpkdijfcfhaaGreatTotals.lean).
  GIVEN WITH THE SEED: the statements are not yours to turn. If you find one false, say at which input.
  Laid BY PROGRAM, IN A SANDBOX (cutbox-rows.mjs): the forced cells as the released guide's own fill.sh prints them over the translation a426dea5fecb05ab… (all of the seat's roots in one cut). By AI agents, Wed Nov 11 2026. No macro, syntax, notation, axiom, sorry.
-/
import Derived.Test.YtmpgpkdijfcfhaaGreatChecked
import GoSem.Claim
import GoSem.ClaimJoined
import GoSem.ClaimMapViews
import Derived.JoinedTies
import Derived.KernelRfl
namespace Go.Proofs.YtmpgpkdijfcfhaaGreat
/- THE CELL 'sum', in the pinned program and in every row, IS THE sha256 OF THE DUMP (.gsa) THAT YtmpgpkdijfcfhaaGreatProg.lean LOADS. Nothing in Lean hashes anything: it is a label: what it is worth is what the hold of that sum in a sandbox is worth. -/
noncomputable def Tryz.pinned : Pinned := { name := "ytmpgpkdijfcfhaagreat", sum := "a426dea5fecb05ab098209af19a52a0a6c2bef68cd51a113dcdde59e896b61c8", checked := Tryz.checked }
namespace Rows
def none {H : Type} : Left H := { results := [], args := [] }

/-- 'laws.FnPoolTree': WHATEVER THE INPUT: true; the input reads as it did. -/
def fnPoolTreeSpec : ChangeSpec := { name := "fnPoolTree", fn := fun _ => fun
  | [d] => { results := [.lit (.bool true)], args := [d] }
  | _ => none }
def fnPoolTreeRow : OpenClaim := { program := "ytmpgpkdijfcfhaagreat", sum := "a426dea5fecb05ab098209af19a52a0a6c2bef68cd51a113dcdde59e896b61c8", func := "loop.example/g00483/laws.FnPoolTree", spec := "fnPoolTree", inPlace := ["internal/abi.NoEscape", "internal/bytealg.MakeNoZero", "internal/bytealg.abigen_runtime_cmpstring"], unfollowed := true, recurses := true, apart := false }
def FnPoolTreeSaid : Prop := fnPoolTreeRow.holds Tryz.pinned (OpenSpec.ofChange fnPoolTreeSpec)

/-- ITS FALSE NEIGHBOUR: 'it returns false'. Refute it at one input. -/
def fnPoolTreeWrong : ChangeSpec := { name := "fnPoolTree", fn := fun _ => fun
  | [d] => { results := [.lit (.bool false)], args := [d] }
  | _ => none }
def FnPoolTreeWrongFalsely : Prop := fnPoolTreeRow.holds Tryz.pinned (OpenSpec.ofChange fnPoolTreeWrong)

/-- 'laws.FnRenamed': WHATEVER THE INPUT: true; the input reads as it did. -/
def fnRenamedSpec : ChangeSpec := { name := "fnRenamed", fn := fun _ => fun
  | [d] => { results := [.lit (.bool true)], args := [d] }
  | _ => none }
def fnRenamedRow : OpenClaim := { program := "ytmpgpkdijfcfhaagreat", sum := "a426dea5fecb05ab098209af19a52a0a6c2bef68cd51a113dcdde59e896b61c8", func := "loop.example/g00483/laws.FnRenamed", spec := "fnRenamed", inPlace := ["internal/abi.NoEscape", "internal/bytealg.MakeNoZero", "slices.overlaps[loop.example/g00483/impl.Entry]", "internal/bytealg.abigen_runtime_cmpstring"], unfollowed := true, recurses := true, apart := false }
def FnRenamedSaid : Prop := fnRenamedRow.holds Tryz.pinned (OpenSpec.ofChange fnRenamedSpec)

/-- ITS FALSE NEIGHBOUR: 'it returns false'. Refute it at one input. -/
def fnRenamedWrong : ChangeSpec := { name := "fnRenamed", fn := fun _ => fun
  | [d] => { results := [.lit (.bool false)], args := [d] }
  | _ => none }
def FnRenamedWrongFalsely : Prop := fnRenamedRow.holds Tryz.pinned (OpenSpec.ofChange fnRenamedWrong)

/-- 'laws.FnRoom': WHATEVER THE INPUT: true; the input reads as it did. -/
def fnRoomSpec : ChangeSpec := { name := "fnRoom", fn := fun _ => fun
  | [d] => { results := [.lit (.bool true)], args := [d] }
  | _ => none }
def fnRoomRow : OpenClaim := { program := "ytmpgpkdijfcfhaagreat", sum := "a426dea5fecb05ab098209af19a52a0a6c2bef68cd51a113dcdde59e896b61c8", func := "loop.example/g00483/laws.FnRoom", spec := "fnRoom", inPlace := ["internal/abi.NoEscape", "internal/bytealg.MakeNoZero", "internal/bytealg.abigen_runtime_cmpstring"], unfollowed := true, recurses := true, apart := false }
def FnRoomSaid : Prop := fnRoomRow.holds Tryz.pinned (OpenSpec.ofChange fnRoomSpec)

/-- ITS FALSE NEIGHBOUR: 'it returns false'. Refute it at one input. -/
def fnRoomWrong : ChangeSpec := { name := "fnRoom", fn := fun _ => fun
  | [d] => { results := [.lit (.bool false)], args := [d] }
  | _ => none }
def FnRoomWrongFalsely : Prop := fnRoomRow.holds Tryz.pinned (OpenSpec.ofChange fnRoomWrong)

/-- 'laws.FnWinner': WHATEVER THE INPUT: true; the input reads as it did. -/
def fnWinnerSpec : ChangeSpec := { name := "fnWinner", fn := fun _ => fun
  | [d] => { results := [.lit (.bool true)], args := [d] }
  | _ => none }
def fnWinnerRow : OpenClaim := { program := "ytmpgpkdijfcfhaagreat", sum := "a426dea5fecb05ab098209af19a52a0a6c2bef68cd51a113dcdde59e896b61c8", func := "loop.example/g00483/laws.FnWinner", spec := "fnWinner", inPlace := ["internal/abi.NoEscape", "internal/bytealg.MakeNoZero", "internal/bytealg.abigen_runtime_cmpstring"], unfollowed := true, recurses := true, apart := false }
def FnWinnerSaid : Prop := fnWinnerRow.holds Tryz.pinned (OpenSpec.ofChange fnWinnerSpec)

/-- ITS FALSE NEIGHBOUR: 'it returns false'. Refute it at one input. -/
def fnWinnerWrong : ChangeSpec := { name := "fnWinner", fn := fun _ => fun
  | [d] => { results := [.lit (.bool false)], args := [d] }
  | _ => none }
def FnWinnerWrongFalsely : Prop := fnWinnerRow.holds Tryz.pinned (OpenSpec.ofChange fnWinnerWrong)

/- THE SECOND FORM. 'bulk': how many values and letters a reading holds, each counted each time it is reached (what is shared counts as often as it is met; a slice's spare places count too). A statement '..UptoSaid' is the law's where the arguments, and the package variables that the reading takes, are together of bulk at most 1048576: NARROWER than '..Said'. Prove '..Said' where nothing that the law and all that it calls make is longer than what came in: it says more and counts as full. Else prove '..UptoSaid'. A law counts once. -/
mutual
def uptoBulk {H : Type} : DataW H → Nat
  | .lit (.string bytes) => bytes.length + 1
  | .lit _ => 1
  | .nil => 1
  | .ptr d => uptoBulk d + 1
  | .slice elems spare => uptoBulkAll elems + uptoBulkAll spare + 1
  | .agg parts => uptoBulkAll parts + 1
  | .iface _ d => uptoBulk d + 1
  | .map entries => uptoBulkEntries entries + 1
  | .held _ => 1
def uptoBulkAll {H : Type} : List (DataW H) → Nat
  | [] => 0
  | d :: r => uptoBulk d + uptoBulkAll r
def uptoBulkEntries {H : Type} : List (Lit × DataW H) → Nat
  | [] => 0
  | x :: r => uptoBulkEntry x + uptoBulkEntries r
def uptoBulkEntry {H : Type} : Lit × DataW H → Nat
  | (.string bytes, d) => bytes.length + uptoBulk d + 1
  | (_, d) => uptoBulk d + 1
 end
def uptoSmall : (H : Type) → List (DataW H) → Bool := fun _ ds => decide (uptoBulkAll ds ≤ 1048576)
def OpenSpec.upto (s : _root_.Go.ChangeSpec) : _root_.Go.OpenSpec := { _root_.Go.OpenSpec.ofChange s with cond := some uptoSmall }

/-- 'laws.FnPoolTree', WHERE WHAT IT READS IS OF BULK AT MOST 1048576: true; the input reads as it did. -/
def fnPoolTreeUptoRow : OpenClaim := { program := "ytmpgpkdijfcfhaagreat", sum := "a426dea5fecb05ab098209af19a52a0a6c2bef68cd51a113dcdde59e896b61c8", func := "loop.example/g00483/laws.FnPoolTree", spec := "fnPoolTree", inPlace := ["internal/abi.NoEscape", "internal/bytealg.MakeNoZero", "internal/bytealg.abigen_runtime_cmpstring"], unfollowed := true, recurses := true, apart := false, narrowed := true }
def FnPoolTreeUptoSaid : Prop := fnPoolTreeUptoRow.holds Tryz.pinned (OpenSpec.upto fnPoolTreeSpec)

/-- 'laws.FnRenamed', WHERE WHAT IT READS IS OF BULK AT MOST 1048576: true; the input reads as it did. -/
def fnRenamedUptoRow : OpenClaim := { program := "ytmpgpkdijfcfhaagreat", sum := "a426dea5fecb05ab098209af19a52a0a6c2bef68cd51a113dcdde59e896b61c8", func := "loop.example/g00483/laws.FnRenamed", spec := "fnRenamed", inPlace := ["internal/abi.NoEscape", "internal/bytealg.MakeNoZero", "slices.overlaps[loop.example/g00483/impl.Entry]", "internal/bytealg.abigen_runtime_cmpstring"], unfollowed := true, recurses := true, apart := false, narrowed := true }
def FnRenamedUptoSaid : Prop := fnRenamedUptoRow.holds Tryz.pinned (OpenSpec.upto fnRenamedSpec)

/-- 'laws.FnRoom', WHERE WHAT IT READS IS OF BULK AT MOST 1048576: true; the input reads as it did. -/
def fnRoomUptoRow : OpenClaim := { program := "ytmpgpkdijfcfhaagreat", sum := "a426dea5fecb05ab098209af19a52a0a6c2bef68cd51a113dcdde59e896b61c8", func := "loop.example/g00483/laws.FnRoom", spec := "fnRoom", inPlace := ["internal/abi.NoEscape", "internal/bytealg.MakeNoZero", "internal/bytealg.abigen_runtime_cmpstring"], unfollowed := true, recurses := true, apart := false, narrowed := true }
def FnRoomUptoSaid : Prop := fnRoomUptoRow.holds Tryz.pinned (OpenSpec.upto fnRoomSpec)

/-- 'laws.FnWinner', WHERE WHAT IT READS IS OF BULK AT MOST 1048576: true; the input reads as it did. -/
def fnWinnerUptoRow : OpenClaim := { program := "ytmpgpkdijfcfhaagreat", sum := "a426dea5fecb05ab098209af19a52a0a6c2bef68cd51a113dcdde59e896b61c8", func := "loop.example/g00483/laws.FnWinner", spec := "fnWinner", inPlace := ["internal/abi.NoEscape", "internal/bytealg.MakeNoZero", "internal/bytealg.abigen_runtime_cmpstring"], unfollowed := true, recurses := true, apart := false, narrowed := true }
def FnWinnerUptoSaid : Prop := fnWinnerUptoRow.holds Tryz.pinned (OpenSpec.upto fnWinnerSpec)

end Rows
end Go.Proofs.YtmpgpkdijfcfhaaGreat
