/-
  DERIVED. GIVEN WITH THE SEED: THE CARDS: each row of YtlclbbieacjmfaaDoorRows.lean that lists a variable, with what it lists TIED to the program's text (the seventh form; the later family's looks); each row that meets fmt, with fmt's text TOLD by the authors' own Lean function (tested against real Go, not proved from fmt's source: count such statements apart). THE CARD IS WHAT COUNTS. Prove the row's statement (the work); the ties are given (YtlclbbieacjmfaaDoorTie.lean); close each card by the builder's one call (the guide's Derived/Test/ToyasCard.lean, 'card_holds'). Laid BY PROGRAM, IN A SANDBOX (cutbox-door.mjs). By AI agents, Wed Nov 11 2026. No macro, syntax, notation, axiom, sorry.
-/
import Derived.Test.YtlclbbieacjmfaaDoorRows
import GoSem.ClaimSeven
namespace Go.Proofs.YtlclbbieacjmfaaDoor
namespace Rows

/-- THE TIED CARD OF 'gnomonlaw25.UpdateTells'. -/
def updateTellsCard : Claim7 := { stood := { row := updateTellsRow, standIns := [], harness := (true, "b264f41a6f96a44f3f9f1b71d4a9f70e0cc93c0e53b5b862c6eb633072bda0c8"), looks := false }, kinds := [], alts := [], laidByText := true, laidKinds := [.data], laidTests := true, laidLooks := .later }
def UpdateTellsCardSaid : Prop := Claim7.holds Tryd.pinned (.plain (OpenSpec.ofChange updateTellsSpec)) updateTellsCard

/-- THE SECOND FORM's CARD OF 'gnomonlaw25.UpdateTells'. -/
def updateTellsUptoCard : Claim7 := { stood := { row := updateTellsUptoRow, standIns := [], harness := (true, "b264f41a6f96a44f3f9f1b71d4a9f70e0cc93c0e53b5b862c6eb633072bda0c8"), looks := false }, kinds := [], alts := [], laidByText := true, laidKinds := [.data], laidTests := true, laidLooks := .later }
def UpdateTellsUptoCardSaid : Prop := Claim7.holds Tryd.pinned (.plain (OpenSpec.upto updateTellsSpec)) updateTellsUptoCard
end Rows
end Go.Proofs.YtlclbbieacjmfaaDoor
