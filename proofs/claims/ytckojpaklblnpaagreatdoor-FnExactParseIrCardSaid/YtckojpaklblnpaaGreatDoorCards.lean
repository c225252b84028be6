/-
  DERIVED. GIVEN WITH THE SEED: THE CARDS: each row of YtckojpaklblnpaaGreatDoorRows.lean that lists a variable, with what it lists TIED to the program's text (the seventh form; the later family's looks); each row that meets fmt, with fmt's text TOLD by the authors' own Lean function (tested against real Go, not proved from fmt's source: count such statements apart). THE CARD IS WHAT COUNTS. Prove the row's statement (the work); the ties are given (YtckojpaklblnpaaGreatDoorTie.lean); close each card by the builder's one call (the guide's Derived/Test/ToyasCard.lean, 'card_holds'). Laid BY PROGRAM, IN A SANDBOX (cutbox-door.mjs). By AI agents, Wed Nov 11 2026. No macro, syntax, notation, axiom, sorry.
-/
import Derived.Test.YtckojpaklblnpaaGreatDoorRows
import GoSem.ClaimSeven
namespace Go.Proofs.YtckojpaklblnpaaGreatDoor
namespace Rows

/-- THE TIED CARD OF 'laws.FnExactParseIr'. -/
def fnExactParseIrCard : Claim7 := { stood := { row := fnExactParseIrRow, standIns := [], harness := (true, "9a84d92a6ac9bed10959ce9e60a2d8ef6afa35cf07081a76e08b800fd2069d75"), looks := true }, kinds := [], alts := [], laidByText := true, laidKinds := [.data, .data, .data, .data, .sentinel, .sentinel, .pinned], laidTests := true, laidLooks := .later }
def FnExactParseIrCardSaid : Prop := Claim7.holds Tryz.pinned (.plain (OpenSpec.ofChange fnExactParseIrSpec)) fnExactParseIrCard

/-- THE SECOND FORM's CARD OF 'laws.FnExactParseIr'. -/
def fnExactParseIrUptoCard : Claim7 := { stood := { row := fnExactParseIrUptoRow, standIns := [], harness := (true, "9a84d92a6ac9bed10959ce9e60a2d8ef6afa35cf07081a76e08b800fd2069d75"), looks := true }, kinds := [], alts := [], laidByText := true, laidKinds := [.data, .data, .data, .data, .sentinel, .sentinel, .pinned], laidTests := true, laidLooks := .later }
def FnExactParseIrUptoCardSaid : Prop := Claim7.holds Tryz.pinned (.plain (OpenSpec.upto fnExactParseIrSpec)) fnExactParseIrUptoCard
end Rows
end Go.Proofs.YtckojpaklblnpaaGreatDoor
