/-
  No cell of these rows narrows 'for every input' (looked for: loops, veiled, ifaces, maps, wideKeys, modest, calm, conditions, laid).
  DERIVED. THE GIVEN ROWS OF THIS SEAT. 6 by the template 'for every input the law returns true; each argument reads behind the call as it read before'; 0 by the template 'total and deterministic' (their statements: YtgfilbekfkhjjaaGreatTotals.lean).
  GIVEN WITH THE SEED: the statements are not yours to turn. If you find one false, say at which input.
  Laid BY PROGRAM, IN A SANDBOX (cutbox-rows.mjs): the forced cells as the released guide's own fill.sh prints them over the translation 964c65916bca2cad… (all of the seat's roots in one cut). By AI agents, Wed Nov 11 2026. No macro, syntax, notation, axiom, sorry.
-/
import Derived.Test.YtgfilbekfkhjjaaGreatChecked
import GoSem.Claim
import GoSem.ClaimJoined
import GoSem.ClaimMapViews
import Derived.JoinedTies
import Derived.KernelRfl
namespace Go.Proofs.YtgfilbekfkhjjaaGreat
/- THE CELL 'sum', in the pinned program and in every row, IS THE sha256 OF THE DUMP (.gsa) THAT YtgfilbekfkhjjaaGreatProg.lean LOADS. Nothing in Lean hashes anything: it is a label: what it is worth is what the hold of that sum in a sandbox is worth. -/
noncomputable def Tryz.pinned : Pinned := { name := "ytgfilbekfkhjjaagreat", sum := "964c65916bca2cad37fb1e9aba5c08652a245e47c3f38c4861451bfa35acecc9", checked := Tryz.checked }
namespace Rows
def none {H : Type} : Left H := { results := [], args := [] }

/-- 'laws.FnExactTreeOf': WHATEVER THE INPUT: true; the input reads as it did. -/
def fnExactTreeOfSpec : ChangeSpec := { name := "fnExactTreeOf", fn := fun _ => fun
  | [d] => { results := [.lit (.bool true)], args := [d] }
  | _ => none }
def fnExactTreeOfRow : OpenClaim := { program := "ytgfilbekfkhjjaagreat", sum := "964c65916bca2cad37fb1e9aba5c08652a245e47c3f38c4861451bfa35acecc9", func := "loop.example/g00483/laws.FnExactTreeOf", spec := "fnExactTreeOf", inPlace := ["internal/abi.NoEscape", "internal/bytealg.MakeNoZero", "internal/bytealg.abigen_runtime_cmpstring"], unfollowed := true, recurses := true, apart := false }
def FnExactTreeOfSaid : Prop := fnExactTreeOfRow.holds Tryz.pinned (OpenSpec.ofChange fnExactTreeOfSpec)

/-- ITS FALSE NEIGHBOUR: 'it returns false'. Refute it at one input. -/
def fnExactTreeOfWrong : ChangeSpec := { name := "fnExactTreeOf", fn := fun _ => fun
  | [d] => { results := [.lit (.bool false)], args := [d] }
  | _ => none }
def FnExactTreeOfWrongFalsely : Prop := fnExactTreeOfRow.holds Tryz.pinned (OpenSpec.ofChange fnExactTreeOfWrong)

/-- 'laws.FnExactPoolOk': WHATEVER THE INPUT: true; the input reads as it did. -/
def fnExactPoolOkSpec : ChangeSpec := { name := "fnExactPoolOk", fn := fun _ => fun
  | [d] => { results := [.lit (.bool true)], args := [d] }
  | _ => none }
def fnExactPoolOkRow : OpenClaim := { program := "ytgfilbekfkhjjaagreat", sum := "964c65916bca2cad37fb1e9aba5c08652a245e47c3f38c4861451bfa35acecc9", func := "loop.example/g00483/laws.FnExactPoolOk", spec := "fnExactPoolOk", inPlace := ["internal/abi.NoEscape", "internal/bytealg.MakeNoZero", "internal/bytealg.abigen_runtime_cmpstring"], unfollowed := true, recurses := true, apart := false }
def FnExactPoolOkSaid : Prop := fnExactPoolOkRow.holds Tryz.pinned (OpenSpec.ofChange fnExactPoolOkSpec)

/-- ITS FALSE NEIGHBOUR: 'it returns false'. Refute it at one input. -/
def fnExactPoolOkWrong : ChangeSpec := { name := "fnExactPoolOk", fn := fun _ => fun
  | [d] => { results := [.lit (.bool false)], args := [d] }
  | _ => none }
def FnExactPoolOkWrongFalsely : Prop := fnExactPoolOkRow.holds Tryz.pinned (OpenSpec.ofChange fnExactPoolOkWrong)

/-- 'laws.FnExactPoolFree': WHATEVER THE INPUT: true; the input reads as it did. -/
def fnExactPoolFreeSpec : ChangeSpec := { name := "fnExactPoolFree", fn := fun _ => fun
  | [d] => { results := [.lit (.bool true)], args := [d] }
  | _ => none }
def fnExactPoolFreeRow : OpenClaim := { program := "ytgfilbekfkhjjaagreat", sum := "964c65916bca2cad37fb1e9aba5c08652a245e47c3f38c4861451bfa35acecc9", func := "loop.example/g00483/laws.FnExactPoolFree", spec := "fnExactPoolFree", inPlace := ["internal/abi.NoEscape", "internal/bytealg.MakeNoZero", "internal/bytealg.abigen_runtime_cmpstring"], unfollowed := true, recurses := true, apart := false }
def FnExactPoolFreeSaid : Prop := fnExactPoolFreeRow.holds Tryz.pinned (OpenSpec.ofChange fnExactPoolFreeSpec)

/-- ITS FALSE NEIGHBOUR: 'it returns false'. Refute it at one input. -/
def fnExactPoolFreeWrong : ChangeSpec := { name := "fnExactPoolFree", fn := fun _ => fun
  | [d] => { results := [.lit (.bool false)], args := [d] }
  | _ => none }
def FnExactPoolFreeWrongFalsely : Prop := fnExactPoolFreeRow.holds Tryz.pinned (OpenSpec.ofChange fnExactPoolFreeWrong)

/-- 'laws.FnExactWinner': WHATEVER THE INPUT: true; the input reads as it did. -/
def fnExactWinnerSpec : ChangeSpec := { name := "fnExactWinner", fn := fun _ => fun
  | [d1, d2] => { results := [.lit (.bool true)], args := [d1, d2] }
  | _ => none }
def fnExactWinnerRow : OpenClaim := { program := "ytgfilbekfkhjjaagreat", sum := "964c65916bca2cad37fb1e9aba5c08652a245e47c3f38c4861451bfa35acecc9", func := "loop.example/g00483/laws.FnExactWinner", spec := "fnExactWinner", inPlace := ["internal/abi.NoEscape", "internal/bytealg.MakeNoZero", "internal/bytealg.abigen_runtime_cmpstring"], unfollowed := true, recurses := true, apart := false }
def FnExactWinnerSaid : Prop := fnExactWinnerRow.holds Tryz.pinned (OpenSpec.ofChange fnExactWinnerSpec)

/-- ITS FALSE NEIGHBOUR: 'it returns false'. Refute it at one input. -/
def fnExactWinnerWrong : ChangeSpec := { name := "fnExactWinner", fn := fun _ => fun
  | [d1, d2] => { results := [.lit (.bool false)], args := [d1, d2] }
  | _ => none }
def FnExactWinnerWrongFalsely : Prop := fnExactWinnerRow.holds Tryz.pinned (OpenSpec.ofChange fnExactWinnerWrong)

/-- 'laws.FnExactHolders': WHATEVER THE INPUT: true; the input reads as it did. -/
def fnExactHoldersSpec : ChangeSpec := { name := "fnExactHolders", fn := fun _ => fun
  | [d1, d2] => { results := [.lit (.bool true)], args := [d1, d2] }
  | _ => none }
def fnExactHoldersRow : OpenClaim := { program := "ytgfilbekfkhjjaagreat", sum := "964c65916bca2cad37fb1e9aba5c08652a245e47c3f38c4861451bfa35acecc9", func := "loop.example/g00483/laws.FnExactHolders", spec := "fnExactHolders", inPlace := ["internal/abi.NoEscape", "internal/bytealg.MakeNoZero", "internal/bytealg.abigen_runtime_cmpstring"], unfollowed := true, recurses := true, apart := false }
def FnExactHoldersSaid : Prop := fnExactHoldersRow.holds Tryz.pinned (OpenSpec.ofChange fnExactHoldersSpec)

/-- ITS FALSE NEIGHBOUR: 'it returns false'. Refute it at one input. -/
def fnExactHoldersWrong : ChangeSpec := { name := "fnExactHolders", fn := fun _ => fun
  | [d1, d2] => { results := [.lit (.bool false)], args := [d1, d2] }
  | _ => none }
def FnExactHoldersWrongFalsely : Prop := fnExactHoldersRow.holds Tryz.pinned (OpenSpec.ofChange fnExactHoldersWrong)

/-- 'laws.FnExactPoolTree': WHATEVER THE INPUT: true; the input reads as it did. -/
def fnExactPoolTreeSpec : ChangeSpec := { name := "fnExactPoolTree", fn := fun _ => fun
  | [d] => { results := [.lit (.bool true)], args := [d] }
  | _ => none }
def fnExactPoolTreeRow : OpenClaim := { program := "ytgfilbekfkhjjaagreat", sum := "964c65916bca2cad37fb1e9aba5c08652a245e47c3f38c4861451bfa35acecc9", func := "loop.example/g00483/laws.FnExactPoolTree", spec := "fnExactPoolTree", inPlace := ["internal/abi.NoEscape", "internal/bytealg.MakeNoZero", "internal/bytealg.abigen_runtime_cmpstring"], unfollowed := true, recurses := true, apart := false }
def FnExactPoolTreeSaid : Prop := fnExactPoolTreeRow.holds Tryz.pinned (OpenSpec.ofChange fnExactPoolTreeSpec)

/-- ITS FALSE NEIGHBOUR: 'it returns false'. Refute it at one input. -/
def fnExactPoolTreeWrong : ChangeSpec := { name := "fnExactPoolTree", fn := fun _ => fun
  | [d] => { results := [.lit (.bool false)], args := [d] }
  | _ => none }
def FnExactPoolTreeWrongFalsely : Prop := fnExactPoolTreeRow.holds Tryz.pinned (OpenSpec.ofChange fnExactPoolTreeWrong)

/- THE SECOND FORM. 'bulk': how many values and letters a reading holds, each counted each time it is reached (what is shared counts as often as it is met; a slice's spare places count too). A statement '..UptoSaid' is the law's where the arguments, and the package variables that the reading takes, are together of bulk at most 1048576: NARROWER than '..Said'. Prove '..Said' where nothing that the law and all that it calls make is longer than what came in: it says more and counts as full. Else prove '..UptoSaid'. A law counts once. -/
mutual
def uptoBulk {H : Type} : DataW H → Nat
  | .lit (.string bytes) => bytes.length + 1
  | .lit _ => 1
  | .nil => 1
  | .ptr d => uptoBulk d + 1
  | .slice elems spare => uptoBulkAll elems + uptoBulkAll spare + 1
  | .agg parts => uptoBulkAll parts + 1
  | .iface _ d => uptoBulk d + 1
  | .map entries => uptoBulkEntries entries + 1
  | .held _ => 1
def uptoBulkAll {H : Type} : List (DataW H) → Nat
  | [] => 0
  | d :: r => uptoBulk d + uptoBulkAll r
def uptoBulkEntries {H : Type} : List (Lit × DataW H) → Nat
  | [] => 0
  | x :: r => uptoBulkEntry x + uptoBulkEntries r
def uptoBulkEntry {H : Type} : Lit × DataW H → Nat
  | (.string bytes, d) => bytes.length + uptoBulk d + 1
  | (_, d) => uptoBulk d + 1
 end
def uptoSmall : (H : Type) → List (DataW H) → Bool := fun _ ds => decide (uptoBulkAll ds ≤ 1048576)
def OpenSpec.upto (s : _root_.Go.ChangeSpec) : _root_.Go.OpenSpec := { _root_.Go.OpenSpec.ofChange s with cond := some uptoSmall }

/-- 'laws.FnExactTreeOf', WHERE WHAT IT READS IS OF BULK AT MOST 1048576: true; the input reads as it did. -/
def fnExactTreeOfUptoRow : OpenClaim := { program := "ytgfilbekfkhjjaagreat", sum := "964c65916bca2cad37fb1e9aba5c08652a245e47c3f38c4861451bfa35acecc9", func := "loop.example/g00483/laws.FnExactTreeOf", spec := "fnExactTreeOf", inPlace := ["internal/abi.NoEscape", "internal/bytealg.MakeNoZero", "internal/bytealg.abigen_runtime_cmpstring"], unfollowed := true, recurses := true, apart := false, narrowed := true }
def FnExactTreeOfUptoSaid : Prop := fnExactTreeOfUptoRow.holds Tryz.pinned (OpenSpec.upto fnExactTreeOfSpec)

/-- 'laws.FnExactPoolOk', WHERE WHAT IT READS IS OF BULK AT MOST 1048576: true; the input reads as it did. -/
def fnExactPoolOkUptoRow : OpenClaim := { program := "ytgfilbekfkhjjaagreat", sum := "964c65916bca2cad37fb1e9aba5c08652a245e47c3f38c4861451bfa35acecc9", func := "loop.example/g00483/laws.FnExactPoolOk", spec := "fnExactPoolOk", inPlace := ["internal/abi.NoEscape", "internal/bytealg.MakeNoZero", "internal/bytealg.abigen_runtime_cmpstring"], unfollowed := true, recurses := true, apart := false, narrowed := true }
def FnExactPoolOkUptoSaid : Prop := fnExactPoolOkUptoRow.holds Tryz.pinned (OpenSpec.upto fnExactPoolOkSpec)

/-- 'laws.FnExactPoolFree', WHERE WHAT IT READS IS OF BULK AT MOST 1048576: true; the input reads as it did. -/
def fnExactPoolFreeUptoRow : OpenClaim := { program := "ytgfilbekfkhjjaagreat", sum := "964c65916bca2cad37fb1e9aba5c08652a245e47c3f38c4861451bfa35acecc9", func := "loop.example/g00483/laws.FnExactPoolFree", spec := "fnExactPoolFree", inPlace := ["internal/abi.NoEscape", "internal/bytealg.MakeNoZero", "internal/bytealg.abigen_runtime_cmpstring"], unfollowed := true, recurses := true, apart := false, narrowed := true }
def FnExactPoolFreeUptoSaid : Prop := fnExactPoolFreeUptoRow.holds Tryz.pinned (OpenSpec.upto fnExactPoolFreeSpec)

/-- 'laws.FnExactWinner', WHERE WHAT IT READS IS OF BULK AT MOST 1048576: true; the input reads as it did. -/
def fnExactWinnerUptoRow : OpenClaim := { program := "ytgfilbekfkhjjaagreat", sum := "964c65916bca2cad37fb1e9aba5c08652a245e47c3f38c4861451bfa35acecc9", func := "loop.example/g00483/laws.FnExactWinner", spec := "fnExactWinner", inPlace := ["internal/abi.NoEscape", "internal/bytealg.MakeNoZero", "internal/bytealg.abigen_runtime_cmpstring"], unfollowed := true, recurses := true, apart := false, narrowed := true }
def FnExactWinnerUptoSaid : Prop := fnExactWinnerUptoRow.holds Tryz.pinned (OpenSpec.upto fnExactWinnerSpec)

/-- 'laws.FnExactHolders', WHERE WHAT IT READS IS OF BULK AT MOST 1048576: true; the input reads as it did. -/
def fnExactHoldersUptoRow : OpenClaim := { program := "ytgfilbekfkhjjaagreat", sum := "964c65916bca2cad37fb1e9aba5c08652a245e47c3f38c4861451bfa35acecc9", func := "loop.example/g00483/laws.FnExactHolders", spec := "fnExactHolders", inPlace := ["internal/abi.NoEscape", "internal/bytealg.MakeNoZero", "internal/bytealg.abigen_runtime_cmpstring"], unfollowed := true, recurses := true, apart := false, narrowed := true }
def FnExactHoldersUptoSaid : Prop := fnExactHoldersUptoRow.holds Tryz.pinned (OpenSpec.upto fnExactHoldersSpec)

/-- 'laws.FnExactPoolTree', WHERE WHAT IT READS IS OF BULK AT MOST 1048576: true; the input reads as it did. -/
def fnExactPoolTreeUptoRow : OpenClaim := { program := "ytgfilbekfkhjjaagreat", sum := "964c65916bca2cad37fb1e9aba5c08652a245e47c3f38c4861451bfa35acecc9", func := "loop.example/g00483/laws.FnExactPoolTree", spec := "fnExactPoolTree", inPlace := ["internal/abi.NoEscape", "internal/bytealg.MakeNoZero", "internal/bytealg.abigen_runtime_cmpstring"], unfollowed := true, recurses := true, apart := false, narrowed := true }
def FnExactPoolTreeUptoSaid : Prop := fnExactPoolTreeUptoRow.holds Tryz.pinned (OpenSpec.upto fnExactPoolTreeSpec)

end Rows
end Go.Proofs.YtgfilbekfkhjjaaGreat
