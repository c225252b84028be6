/-
  DERIVED. GIVEN WITH THE SEED: THE CARDS: each row of YtckojpaklblnpaaDoorRows.lean that lists a variable, with what it lists TIED to the program's text (the seventh form; the later family's looks); each row that meets fmt, with fmt's text TOLD by the authors' own Lean function (tested against real Go, not proved from fmt's source: count such statements apart). THE CARD IS WHAT COUNTS. Prove the row's statement (the work); the ties are given (YtckojpaklblnpaaDoorTie.lean); close each card by the builder's one call (the guide's Derived/Test/ToyasCard.lean, 'card_holds'). Laid BY PROGRAM, IN A SANDBOX (cutbox-door.mjs). By AI agents, Wed Nov 11 2026. No macro, syntax, notation, axiom, sorry.
-/
import Derived.Test.YtckojpaklblnpaaDoorRows
import GoSem.ClaimSeven
namespace Go.Proofs.YtckojpaklblnpaaDoor
namespace Rows

/-- THE TIED CARD OF 'laws.FnExactPrintIr'. -/
def fnExactPrintIrCard : Claim7 := { stood := { row := fnExactPrintIrRow, standIns := [], harness := (true, "dfdb64bdcb99fb8296e0bcbbc6fd53c7556b603e0a8a22c2c00fa5d6ab745823"), looks := false }, kinds := [], alts := [], laidByText := true, laidKinds := [.data, .data, .data], laidTests := true, laidLooks := .later }
def FnExactPrintIrCardSaid : Prop := Claim7.holds Tryd.pinned (.plain (OpenSpec.ofChange fnExactPrintIrSpec)) fnExactPrintIrCard

/-- THE SECOND FORM's CARD OF 'laws.FnExactPrintIr'. -/
def fnExactPrintIrUptoCard : Claim7 := { stood := { row := fnExactPrintIrUptoRow, standIns := [], harness := (true, "dfdb64bdcb99fb8296e0bcbbc6fd53c7556b603e0a8a22c2c00fa5d6ab745823"), looks := false }, kinds := [], alts := [], laidByText := true, laidKinds := [.data, .data, .data], laidTests := true, laidLooks := .later }
def FnExactPrintIrUptoCardSaid : Prop := Claim7.holds Tryd.pinned (.plain (OpenSpec.upto fnExactPrintIrSpec)) fnExactPrintIrUptoCard
end Rows
end Go.Proofs.YtckojpaklblnpaaDoor
