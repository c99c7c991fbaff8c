/-
  DERIVED. GIVEN WITH THE SEED: THE CARDS: each row of YtmpgpkdijfcfhaaGreatDoorRows.lean that lists a variable, with what it lists TIED to the program's text (the seventh form; the later family's looks); each row that meets fmt, with fmt's text TOLD by the authors' own Lean function (tested against real Go, not proved from fmt's source: count such statements apart). THE CARD IS WHAT COUNTS. Prove the row's statement (the work); the ties are given (YtmpgpkdijfcfhaaGreatDoorTie.lean); close each card by the builder's one call (the guide's Derived/Test/ToyasCard.lean, 'card_holds'). Laid BY PROGRAM, IN A SANDBOX (cutbox-door.mjs). By AI agents, Wed Nov 11 2026. No macro, syntax, notation, axiom, sorry.
-/
import Derived.Test.YtmpgpkdijfcfhaaGreatDoorRows
import GoSem.ClaimSeven
namespace Go.Proofs.YtmpgpkdijfcfhaaGreatDoor
namespace Rows

/-- THE TIED CARD OF 'laws.FnNamesOf'. -/
def fnNamesOfCard : Claim7 := { stood := { row := fnNamesOfRow, standIns := [], harness := (true, "f70f02b5f2f8c3eb1680669dccf09dfeb2ab270be165e4a27e1189e2bbf10f8c"), looks := false }, kinds := [], alts := [], laidByText := true, laidKinds := [.data, .data, .data], laidTests := true, laidLooks := .later }
def FnNamesOfCardSaid : Prop := Claim7.holds Tryz.pinned (.plain (OpenSpec.ofChange fnNamesOfSpec)) fnNamesOfCard

/-- THE SECOND FORM's CARD OF 'laws.FnNamesOf'. -/
def fnNamesOfUptoCard : Claim7 := { stood := { row := fnNamesOfUptoRow, standIns := [], harness := (true, "f70f02b5f2f8c3eb1680669dccf09dfeb2ab270be165e4a27e1189e2bbf10f8c"), looks := false }, kinds := [], alts := [], laidByText := true, laidKinds := [.data, .data, .data], laidTests := true, laidLooks := .later }
def FnNamesOfUptoCardSaid : Prop := Claim7.holds Tryz.pinned (.plain (OpenSpec.upto fnNamesOfSpec)) fnNamesOfUptoCard
end Rows
end Go.Proofs.YtmpgpkdijfcfhaaGreatDoor
