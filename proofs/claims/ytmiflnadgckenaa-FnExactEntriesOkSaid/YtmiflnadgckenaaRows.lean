/-
  No cell of these rows narrows 'for every input' (looked for: loops, veiled, ifaces, maps, wideKeys, modest, calm, conditions, laid).
  DERIVED. THE GIVEN ROWS OF THIS SEAT. 11 by the template 'for every input the law returns true; each argument reads behind the call as it read before'; 0 by the template 'total and deterministic' (their statements: YtmiflnadgckenaaTotals.lean).
  GIVEN WITH THE SEED: the statements are not yours to turn. If you find one false, say at which input.
  Laid BY PROGRAM, IN A SANDBOX (cutbox-rows.mjs): the forced cells as the released guide's own fill.sh prints them over the translation 8efaae69c05fa788… (all of the seat's roots in one cut). By AI agents, Wed Nov 11 2026. No macro, syntax, notation, axiom, sorry.
-/
import Derived.Test.YtmiflnadgckenaaChecked
import GoSem.Claim
import GoSem.ClaimJoined
import GoSem.ClaimMapViews
import Derived.JoinedTies
import Derived.KernelRfl
namespace Go.Proofs.Ytmiflnadgckenaa
/- THE CELL 'sum', in the pinned program and in every row, IS THE sha256 OF THE DUMP (.gsa) THAT YtmiflnadgckenaaProg.lean LOADS. Nothing in Lean hashes anything: it is a label: what it is worth is what the hold of that sum in a sandbox is worth. -/
noncomputable def Try.pinned : Pinned := { name := "ytmiflnadgckenaa", sum := "8efaae69c05fa78891ba51c0ae18e5d1378e2d15ca691a53fc9a8cc6c11ff13c", checked := Try.checked }
namespace Rows
def none {H : Type} : Left H := { results := [], args := [] }

/-- 'laws.FnExactPolicyText': WHATEVER THE INPUT: true; the input reads as it did. -/
def fnExactPolicyTextSpec : ChangeSpec := { name := "fnExactPolicyText", fn := fun _ => fun
  | [d] => { results := [.lit (.bool true)], args := [d] }
  | _ => none }
def fnExactPolicyTextRow : OpenClaim := { program := "ytmiflnadgckenaa", sum := "8efaae69c05fa78891ba51c0ae18e5d1378e2d15ca691a53fc9a8cc6c11ff13c", func := "loop.example/g00483/laws.FnExactPolicyText", spec := "fnExactPolicyText", apart := false }
def FnExactPolicyTextSaid : Prop := fnExactPolicyTextRow.holds Try.pinned (OpenSpec.ofChange fnExactPolicyTextSpec)

/-- ITS FALSE NEIGHBOUR: 'it returns false'. Refute it at one input. -/
def fnExactPolicyTextWrong : ChangeSpec := { name := "fnExactPolicyText", fn := fun _ => fun
  | [d] => { results := [.lit (.bool false)], args := [d] }
  | _ => none }
def FnExactPolicyTextWrongFalsely : Prop := fnExactPolicyTextRow.holds Try.pinned (OpenSpec.ofChange fnExactPolicyTextWrong)

/-- 'laws.FnExactDirFind': WHATEVER THE INPUT: true; the input reads as it did. -/
def fnExactDirFindSpec : ChangeSpec := { name := "fnExactDirFind", fn := fun _ => fun
  | [d1, d2] => { results := [.lit (.bool true)], args := [d1, d2] }
  | _ => none }
def fnExactDirFindRow : OpenClaim := { program := "ytmiflnadgckenaa", sum := "8efaae69c05fa78891ba51c0ae18e5d1378e2d15ca691a53fc9a8cc6c11ff13c", func := "loop.example/g00483/laws.FnExactDirFind", spec := "fnExactDirFind", unfollowed := true, recurses := true, apart := false }
def FnExactDirFindSaid : Prop := fnExactDirFindRow.holds Try.pinned (OpenSpec.ofChange fnExactDirFindSpec)

/-- ITS FALSE NEIGHBOUR: 'it returns false'. Refute it at one input. -/
def fnExactDirFindWrong : ChangeSpec := { name := "fnExactDirFind", fn := fun _ => fun
  | [d1, d2] => { results := [.lit (.bool false)], args := [d1, d2] }
  | _ => none }
def FnExactDirFindWrongFalsely : Prop := fnExactDirFindRow.holds Try.pinned (OpenSpec.ofChange fnExactDirFindWrong)

/-- 'laws.FnExactDirText': WHATEVER THE INPUT: true; the input reads as it did. -/
def fnExactDirTextSpec : ChangeSpec := { name := "fnExactDirText", fn := fun _ => fun
  | [d] => { results := [.lit (.bool true)], args := [d] }
  | _ => none }
def fnExactDirTextRow : OpenClaim := { program := "ytmiflnadgckenaa", sum := "8efaae69c05fa78891ba51c0ae18e5d1378e2d15ca691a53fc9a8cc6c11ff13c", func := "loop.example/g00483/laws.FnExactDirText", spec := "fnExactDirText", apart := false }
def FnExactDirTextSaid : Prop := fnExactDirTextRow.holds Try.pinned (OpenSpec.ofChange fnExactDirTextSpec)

/-- ITS FALSE NEIGHBOUR: 'it returns false'. Refute it at one input. -/
def fnExactDirTextWrong : ChangeSpec := { name := "fnExactDirText", fn := fun _ => fun
  | [d] => { results := [.lit (.bool false)], args := [d] }
  | _ => none }
def FnExactDirTextWrongFalsely : Prop := fnExactDirTextRow.holds Try.pinned (OpenSpec.ofChange fnExactDirTextWrong)

/-- 'laws.FnExactTreeSame': WHATEVER THE INPUT: true; the input reads as it did. -/
def fnExactTreeSameSpec : ChangeSpec := { name := "fnExactTreeSame", fn := fun _ => fun
  | [d1, d2] => { results := [.lit (.bool true)], args := [d1, d2] }
  | _ => none }
def fnExactTreeSameRow : OpenClaim := { program := "ytmiflnadgckenaa", sum := "8efaae69c05fa78891ba51c0ae18e5d1378e2d15ca691a53fc9a8cc6c11ff13c", func := "loop.example/g00483/laws.FnExactTreeSame", spec := "fnExactTreeSame", apart := false }
def FnExactTreeSameSaid : Prop := fnExactTreeSameRow.holds Try.pinned (OpenSpec.ofChange fnExactTreeSameSpec)

/-- ITS FALSE NEIGHBOUR: 'it returns false'. Refute it at one input. -/
def fnExactTreeSameWrong : ChangeSpec := { name := "fnExactTreeSame", fn := fun _ => fun
  | [d1, d2] => { results := [.lit (.bool false)], args := [d1, d2] }
  | _ => none }
def FnExactTreeSameWrongFalsely : Prop := fnExactTreeSameRow.holds Try.pinned (OpenSpec.ofChange fnExactTreeSameWrong)

/-- 'laws.FnExactTreeGet': WHATEVER THE INPUT: true; the input reads as it did. -/
def fnExactTreeGetSpec : ChangeSpec := { name := "fnExactTreeGet", fn := fun _ => fun
  | [d1, d2] => { results := [.lit (.bool true)], args := [d1, d2] }
  | _ => none }
def fnExactTreeGetRow : OpenClaim := { program := "ytmiflnadgckenaa", sum := "8efaae69c05fa78891ba51c0ae18e5d1378e2d15ca691a53fc9a8cc6c11ff13c", func := "loop.example/g00483/laws.FnExactTreeGet", spec := "fnExactTreeGet", unfollowed := true, recurses := true, apart := false }
def FnExactTreeGetSaid : Prop := fnExactTreeGetRow.holds Try.pinned (OpenSpec.ofChange fnExactTreeGetSpec)

/-- ITS FALSE NEIGHBOUR: 'it returns false'. Refute it at one input. -/
def fnExactTreeGetWrong : ChangeSpec := { name := "fnExactTreeGet", fn := fun _ => fun
  | [d1, d2] => { results := [.lit (.bool false)], args := [d1, d2] }
  | _ => none }
def FnExactTreeGetWrongFalsely : Prop := fnExactTreeGetRow.holds Try.pinned (OpenSpec.ofChange fnExactTreeGetWrong)

/-- 'laws.FnExactDirDrop': WHATEVER THE INPUT: true; the input reads as it did. -/
def fnExactDirDropSpec : ChangeSpec := { name := "fnExactDirDrop", fn := fun _ => fun
  | [d1, d2] => { results := [.lit (.bool true)], args := [d1, d2] }
  | _ => none }
def fnExactDirDropRow : OpenClaim := { program := "ytmiflnadgckenaa", sum := "8efaae69c05fa78891ba51c0ae18e5d1378e2d15ca691a53fc9a8cc6c11ff13c", func := "loop.example/g00483/laws.FnExactDirDrop", spec := "fnExactDirDrop", unfollowed := true, recurses := true, apart := false }
def FnExactDirDropSaid : Prop := fnExactDirDropRow.holds Try.pinned (OpenSpec.ofChange fnExactDirDropSpec)

/-- ITS FALSE NEIGHBOUR: 'it returns false'. Refute it at one input. -/
def fnExactDirDropWrong : ChangeSpec := { name := "fnExactDirDrop", fn := fun _ => fun
  | [d1, d2] => { results := [.lit (.bool false)], args := [d1, d2] }
  | _ => none }
def FnExactDirDropWrongFalsely : Prop := fnExactDirDropRow.holds Try.pinned (OpenSpec.ofChange fnExactDirDropWrong)

/-- 'laws.FnExactEntriesOk': WHATEVER THE INPUT: true; the input reads as it did. -/
def fnExactEntriesOkSpec : ChangeSpec := { name := "fnExactEntriesOk", fn := fun _ => fun
  | [d] => { results := [.lit (.bool true)], args := [d] }
  | _ => none }
def fnExactEntriesOkRow : OpenClaim := { program := "ytmiflnadgckenaa", sum := "8efaae69c05fa78891ba51c0ae18e5d1378e2d15ca691a53fc9a8cc6c11ff13c", func := "loop.example/g00483/laws.FnExactEntriesOk", spec := "fnExactEntriesOk", unfollowed := true, recurses := true, apart := false }
def FnExactEntriesOkSaid : Prop := fnExactEntriesOkRow.holds Try.pinned (OpenSpec.ofChange fnExactEntriesOkSpec)

/-- ITS FALSE NEIGHBOUR: 'it returns false'. Refute it at one input. -/
def fnExactEntriesOkWrong : ChangeSpec := { name := "fnExactEntriesOk", fn := fun _ => fun
  | [d] => { results := [.lit (.bool false)], args := [d] }
  | _ => none }
def FnExactEntriesOkWrongFalsely : Prop := fnExactEntriesOkRow.holds Try.pinned (OpenSpec.ofChange fnExactEntriesOkWrong)

/-- 'laws.FnExactDirOf': WHATEVER THE INPUT: true; the input reads as it did. -/
def fnExactDirOfSpec : ChangeSpec := { name := "fnExactDirOf", fn := fun _ => fun
  | [d] => { results := [.lit (.bool true)], args := [d] }
  | _ => none }
def fnExactDirOfRow : OpenClaim := { program := "ytmiflnadgckenaa", sum := "8efaae69c05fa78891ba51c0ae18e5d1378e2d15ca691a53fc9a8cc6c11ff13c", func := "loop.example/g00483/laws.FnExactDirOf", spec := "fnExactDirOf", unfollowed := true, recurses := true, apart := false }
def FnExactDirOfSaid : Prop := fnExactDirOfRow.holds Try.pinned (OpenSpec.ofChange fnExactDirOfSpec)

/-- ITS FALSE NEIGHBOUR: 'it returns false'. Refute it at one input. -/
def fnExactDirOfWrong : ChangeSpec := { name := "fnExactDirOf", fn := fun _ => fun
  | [d] => { results := [.lit (.bool false)], args := [d] }
  | _ => none }
def FnExactDirOfWrongFalsely : Prop := fnExactDirOfRow.holds Try.pinned (OpenSpec.ofChange fnExactDirOfWrong)

/-- 'laws.FnExactDirAdd': WHATEVER THE INPUT: true; the input reads as it did. -/
def fnExactDirAddSpec : ChangeSpec := { name := "fnExactDirAdd", fn := fun _ => fun
  | [d1, d2, d3] => { results := [.lit (.bool true)], args := [d1, d2, d3] }
  | _ => none }
def fnExactDirAddRow : OpenClaim := { program := "ytmiflnadgckenaa", sum := "8efaae69c05fa78891ba51c0ae18e5d1378e2d15ca691a53fc9a8cc6c11ff13c", func := "loop.example/g00483/laws.FnExactDirAdd", spec := "fnExactDirAdd", inPlace := ["slices.overlaps[loop.example/g00483/impl.Entry]"], unfollowed := true, recurses := true, apart := false }
def FnExactDirAddSaid : Prop := fnExactDirAddRow.holds Try.pinned (OpenSpec.ofChange fnExactDirAddSpec)

/-- ITS FALSE NEIGHBOUR: 'it returns false'. Refute it at one input. -/
def fnExactDirAddWrong : ChangeSpec := { name := "fnExactDirAdd", fn := fun _ => fun
  | [d1, d2, d3] => { results := [.lit (.bool false)], args := [d1, d2, d3] }
  | _ => none }
def FnExactDirAddWrongFalsely : Prop := fnExactDirAddRow.holds Try.pinned (OpenSpec.ofChange fnExactDirAddWrong)

/-- 'laws.FnExactTreeOk': WHATEVER THE INPUT: true; the input reads as it did. -/
def fnExactTreeOkSpec : ChangeSpec := { name := "fnExactTreeOk", fn := fun _ => fun
  | [d] => { results := [.lit (.bool true)], args := [d] }
  | _ => none }
def fnExactTreeOkRow : OpenClaim := { program := "ytmiflnadgckenaa", sum := "8efaae69c05fa78891ba51c0ae18e5d1378e2d15ca691a53fc9a8cc6c11ff13c", func := "loop.example/g00483/laws.FnExactTreeOk", spec := "fnExactTreeOk", inPlace := ["internal/abi.NoEscape", "internal/bytealg.MakeNoZero"], unfollowed := true, recurses := true, apart := false }
def FnExactTreeOkSaid : Prop := fnExactTreeOkRow.holds Try.pinned (OpenSpec.ofChange fnExactTreeOkSpec)

/-- ITS FALSE NEIGHBOUR: 'it returns false'. Refute it at one input. -/
def fnExactTreeOkWrong : ChangeSpec := { name := "fnExactTreeOk", fn := fun _ => fun
  | [d] => { results := [.lit (.bool false)], args := [d] }
  | _ => none }
def FnExactTreeOkWrongFalsely : Prop := fnExactTreeOkRow.holds Try.pinned (OpenSpec.ofChange fnExactTreeOkWrong)

/-- 'laws.FnExactPoolSame': WHATEVER THE INPUT: true; the input reads as it did. -/
def fnExactPoolSameSpec : ChangeSpec := { name := "fnExactPoolSame", fn := fun _ => fun
  | [d1, d2] => { results := [.lit (.bool true)], args := [d1, d2] }
  | _ => none }
def fnExactPoolSameRow : OpenClaim := { program := "ytmiflnadgckenaa", sum := "8efaae69c05fa78891ba51c0ae18e5d1378e2d15ca691a53fc9a8cc6c11ff13c", func := "loop.example/g00483/laws.FnExactPoolSame", spec := "fnExactPoolSame", unfollowed := true, recurses := true, apart := false }
def FnExactPoolSameSaid : Prop := fnExactPoolSameRow.holds Try.pinned (OpenSpec.ofChange fnExactPoolSameSpec)

/-- ITS FALSE NEIGHBOUR: 'it returns false'. Refute it at one input. -/
def fnExactPoolSameWrong : ChangeSpec := { name := "fnExactPoolSame", fn := fun _ => fun
  | [d1, d2] => { results := [.lit (.bool false)], args := [d1, d2] }
  | _ => none }
def FnExactPoolSameWrongFalsely : Prop := fnExactPoolSameRow.holds Try.pinned (OpenSpec.ofChange fnExactPoolSameWrong)

/- THE SECOND FORM. 'bulk': how many values and letters a reading holds, each counted each time it is reached (what is shared counts as often as it is met; a slice's spare places count too). A statement '..UptoSaid' is the law's where the arguments, and the package variables that the reading takes, are together of bulk at most 1048576: NARROWER than '..Said'. Prove '..Said' where nothing that the law and all that it calls make is longer than what came in: it says more and counts as full. Else prove '..UptoSaid'. A law counts once. -/
mutual
def uptoBulk {H : Type} : DataW H → Nat
  | .lit (.string bytes) => bytes.length + 1
  | .lit _ => 1
  | .nil => 1
  | .ptr d => uptoBulk d + 1
  | .slice elems spare => uptoBulkAll elems + uptoBulkAll spare + 1
  | .agg parts => uptoBulkAll parts + 1
  | .iface _ d => uptoBulk d + 1
  | .map entries => uptoBulkEntries entries + 1
  | .held _ => 1
def uptoBulkAll {H : Type} : List (DataW H) → Nat
  | [] => 0
  | d :: r => uptoBulk d + uptoBulkAll r
def uptoBulkEntries {H : Type} : List (Lit × DataW H) → Nat
  | [] => 0
  | x :: r => uptoBulkEntry x + uptoBulkEntries r
def uptoBulkEntry {H : Type} : Lit × DataW H → Nat
  | (.string bytes, d) => bytes.length + uptoBulk d + 1
  | (_, d) => uptoBulk d + 1
 end
def uptoSmall : (H : Type) → List (DataW H) → Bool := fun _ ds => decide (uptoBulkAll ds ≤ 1048576)
def OpenSpec.upto (s : _root_.Go.ChangeSpec) : _root_.Go.OpenSpec := { _root_.Go.OpenSpec.ofChange s with cond := some uptoSmall }

/-- 'laws.FnExactPolicyText', WHERE WHAT IT READS IS OF BULK AT MOST 1048576: true; the input reads as it did. -/
def fnExactPolicyTextUptoRow : OpenClaim := { program := "ytmiflnadgckenaa", sum := "8efaae69c05fa78891ba51c0ae18e5d1378e2d15ca691a53fc9a8cc6c11ff13c", func := "loop.example/g00483/laws.FnExactPolicyText", spec := "fnExactPolicyText", apart := false, narrowed := true }
def FnExactPolicyTextUptoSaid : Prop := fnExactPolicyTextUptoRow.holds Try.pinned (OpenSpec.upto fnExactPolicyTextSpec)

/-- 'laws.FnExactDirFind', WHERE WHAT IT READS IS OF BULK AT MOST 1048576: true; the input reads as it did. -/
def fnExactDirFindUptoRow : OpenClaim := { program := "ytmiflnadgckenaa", sum := "8efaae69c05fa78891ba51c0ae18e5d1378e2d15ca691a53fc9a8cc6c11ff13c", func := "loop.example/g00483/laws.FnExactDirFind", spec := "fnExactDirFind", unfollowed := true, recurses := true, apart := false, narrowed := true }
def FnExactDirFindUptoSaid : Prop := fnExactDirFindUptoRow.holds Try.pinned (OpenSpec.upto fnExactDirFindSpec)

/-- 'laws.FnExactDirText', WHERE WHAT IT READS IS OF BULK AT MOST 1048576: true; the input reads as it did. -/
def fnExactDirTextUptoRow : OpenClaim := { program := "ytmiflnadgckenaa", sum := "8efaae69c05fa78891ba51c0ae18e5d1378e2d15ca691a53fc9a8cc6c11ff13c", func := "loop.example/g00483/laws.FnExactDirText", spec := "fnExactDirText", apart := false, narrowed := true }
def FnExactDirTextUptoSaid : Prop := fnExactDirTextUptoRow.holds Try.pinned (OpenSpec.upto fnExactDirTextSpec)

/-- 'laws.FnExactTreeSame', WHERE WHAT IT READS IS OF BULK AT MOST 1048576: true; the input reads as it did. -/
def fnExactTreeSameUptoRow : OpenClaim := { program := "ytmiflnadgckenaa", sum := "8efaae69c05fa78891ba51c0ae18e5d1378e2d15ca691a53fc9a8cc6c11ff13c", func := "loop.example/g00483/laws.FnExactTreeSame", spec := "fnExactTreeSame", apart := false, narrowed := true }
def FnExactTreeSameUptoSaid : Prop := fnExactTreeSameUptoRow.holds Try.pinned (OpenSpec.upto fnExactTreeSameSpec)

/-- 'laws.FnExactTreeGet', WHERE WHAT IT READS IS OF BULK AT MOST 1048576: true; the input reads as it did. -/
def fnExactTreeGetUptoRow : OpenClaim := { program := "ytmiflnadgckenaa", sum := "8efaae69c05fa78891ba51c0ae18e5d1378e2d15ca691a53fc9a8cc6c11ff13c", func := "loop.example/g00483/laws.FnExactTreeGet", spec := "fnExactTreeGet", unfollowed := true, recurses := true, apart := false, narrowed := true }
def FnExactTreeGetUptoSaid : Prop := fnExactTreeGetUptoRow.holds Try.pinned (OpenSpec.upto fnExactTreeGetSpec)

/-- 'laws.FnExactDirDrop', WHERE WHAT IT READS IS OF BULK AT MOST 1048576: true; the input reads as it did. -/
def fnExactDirDropUptoRow : OpenClaim := { program := "ytmiflnadgckenaa", sum := "8efaae69c05fa78891ba51c0ae18e5d1378e2d15ca691a53fc9a8cc6c11ff13c", func := "loop.example/g00483/laws.FnExactDirDrop", spec := "fnExactDirDrop", unfollowed := true, recurses := true, apart := false, narrowed := true }
def FnExactDirDropUptoSaid : Prop := fnExactDirDropUptoRow.holds Try.pinned (OpenSpec.upto fnExactDirDropSpec)

/-- 'laws.FnExactEntriesOk', WHERE WHAT IT READS IS OF BULK AT MOST 1048576: true; the input reads as it did. -/
def fnExactEntriesOkUptoRow : OpenClaim := { program := "ytmiflnadgckenaa", sum := "8efaae69c05fa78891ba51c0ae18e5d1378e2d15ca691a53fc9a8cc6c11ff13c", func := "loop.example/g00483/laws.FnExactEntriesOk", spec := "fnExactEntriesOk", unfollowed := true, recurses := true, apart := false, narrowed := true }
def FnExactEntriesOkUptoSaid : Prop := fnExactEntriesOkUptoRow.holds Try.pinned (OpenSpec.upto fnExactEntriesOkSpec)

/-- 'laws.FnExactDirOf', WHERE WHAT IT READS IS OF BULK AT MOST 1048576: true; the input reads as it did. -/
def fnExactDirOfUptoRow : OpenClaim := { program := "ytmiflnadgckenaa", sum := "8efaae69c05fa78891ba51c0ae18e5d1378e2d15ca691a53fc9a8cc6c11ff13c", func := "loop.example/g00483/laws.FnExactDirOf", spec := "fnExactDirOf", unfollowed := true, recurses := true, apart := false, narrowed := true }
def FnExactDirOfUptoSaid : Prop := fnExactDirOfUptoRow.holds Try.pinned (OpenSpec.upto fnExactDirOfSpec)

/-- 'laws.FnExactDirAdd', WHERE WHAT IT READS IS OF BULK AT MOST 1048576: true; the input reads as it did. -/
def fnExactDirAddUptoRow : OpenClaim := { program := "ytmiflnadgckenaa", sum := "8efaae69c05fa78891ba51c0ae18e5d1378e2d15ca691a53fc9a8cc6c11ff13c", func := "loop.example/g00483/laws.FnExactDirAdd", spec := "fnExactDirAdd", inPlace := ["slices.overlaps[loop.example/g00483/impl.Entry]"], unfollowed := true, recurses := true, apart := false, narrowed := true }
def FnExactDirAddUptoSaid : Prop := fnExactDirAddUptoRow.holds Try.pinned (OpenSpec.upto fnExactDirAddSpec)

/-- 'laws.FnExactTreeOk', WHERE WHAT IT READS IS OF BULK AT MOST 1048576: true; the input reads as it did. -/
def fnExactTreeOkUptoRow : OpenClaim := { program := "ytmiflnadgckenaa", sum := "8efaae69c05fa78891ba51c0ae18e5d1378e2d15ca691a53fc9a8cc6c11ff13c", func := "loop.example/g00483/laws.FnExactTreeOk", spec := "fnExactTreeOk", inPlace := ["internal/abi.NoEscape", "internal/bytealg.MakeNoZero"], unfollowed := true, recurses := true, apart := false, narrowed := true }
def FnExactTreeOkUptoSaid : Prop := fnExactTreeOkUptoRow.holds Try.pinned (OpenSpec.upto fnExactTreeOkSpec)

/-- 'laws.FnExactPoolSame', WHERE WHAT IT READS IS OF BULK AT MOST 1048576: true; the input reads as it did. -/
def fnExactPoolSameUptoRow : OpenClaim := { program := "ytmiflnadgckenaa", sum := "8efaae69c05fa78891ba51c0ae18e5d1378e2d15ca691a53fc9a8cc6c11ff13c", func := "loop.example/g00483/laws.FnExactPoolSame", spec := "fnExactPoolSame", unfollowed := true, recurses := true, apart := false, narrowed := true }
def FnExactPoolSameUptoSaid : Prop := fnExactPoolSameUptoRow.holds Try.pinned (OpenSpec.upto fnExactPoolSameSpec)

end Rows
end Go.Proofs.Ytmiflnadgckenaa
