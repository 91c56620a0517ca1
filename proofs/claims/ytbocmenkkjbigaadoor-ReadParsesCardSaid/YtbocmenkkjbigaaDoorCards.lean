/-
  DERIVED. GIVEN WITH THE SEED: THE CARDS: each row of YtbocmenkkjbigaaDoorRows.lean that lists a variable, with what it lists TIED to the program's text (the seventh form; the later family's looks); each row that meets fmt, with fmt's text TOLD by the authors' own Lean function (tested against real Go, not proved from fmt's source: count such statements apart). THE CARD IS WHAT COUNTS. Prove the row's statement (the work); the ties are given (YtbocmenkkjbigaaDoorTie.lean); close each card by the builder's one call (the guide's Derived/Test/ToyasCard.lean, 'card_holds'). Laid BY PROGRAM, IN A SANDBOX (cutbox-door.mjs). By AI agents, Wed Nov 11 2026. No macro, syntax, notation, axiom, sorry.
-/
import Derived.Test.YtbocmenkkjbigaaDoorRows
import GoSem.ClaimSeven
namespace Go.Proofs.YtbocmenkkjbigaaDoor
namespace Rows

/-- THE TIED CARD OF 'gnomonlaw04.ReadParses'. -/
def readParsesCard : Claim7 := { stood := { row := readParsesRow, standIns := [], harness := (true, "12adf0ebb9d285d22905482893ef80413d775dc0ad01c74e3b4c598610b084b0"), looks := true }, kinds := [], alts := [], laidByText := true, laidKinds := [.data, .data, .data, .sentinel, .sentinel], laidTests := true, laidLooks := .later }
def ReadParsesCardSaid : Prop := Claim7.holds Tryd.pinned (.plain (OpenSpec.ofChange readParsesSpec)) readParsesCard

/-- THE TIED CARD OF 'gnomonlaw04.ReadBlanks'. -/
def readBlanksCard : Claim7 := { stood := { row := readBlanksRow, standIns := [], harness := (true, "12adf0ebb9d285d22905482893ef80413d775dc0ad01c74e3b4c598610b084b0"), looks := true }, kinds := [], alts := [], laidByText := true, laidKinds := [.data, .data, .data, .sentinel, .sentinel], laidTests := true, laidLooks := .later }
def ReadBlanksCardSaid : Prop := Claim7.holds Tryd.pinned (.plain (OpenSpec.ofChange readBlanksSpec)) readBlanksCard

/-- THE TIED CARD OF 'gnomonlaw04.ReadErrors'. -/
def readErrorsCard : Claim7 := { stood := { row := readErrorsRow, standIns := [], harness := (true, "12adf0ebb9d285d22905482893ef80413d775dc0ad01c74e3b4c598610b084b0"), looks := true }, kinds := [], alts := [], laidByText := true, laidKinds := [.data, .data, .data, .sentinel, .sentinel], laidTests := true, laidLooks := .later }
def ReadErrorsCardSaid : Prop := Claim7.holds Tryd.pinned (.plain (OpenSpec.ofChange readErrorsSpec)) readErrorsCard

/-- THE TIED CARD OF 'gnomonlaw04.ReadOwn'. -/
def readOwnCard : Claim7 := { stood := { row := readOwnRow, standIns := [], harness := (true, "12adf0ebb9d285d22905482893ef80413d775dc0ad01c74e3b4c598610b084b0"), looks := true }, kinds := [], alts := [], laidByText := true, laidKinds := [.data, .data, .data, .sentinel, .sentinel], laidTests := true, laidLooks := .later }
def ReadOwnCardSaid : Prop := Claim7.holds Tryd.pinned (.plain (OpenSpec.ofChange readOwnSpec)) readOwnCard

/-- THE TIED CARD OF 'gnomonlaw04.ReadKnown'. -/
def readKnownCard : Claim7 := { stood := { row := readKnownRow, standIns := [], harness := (true, "12adf0ebb9d285d22905482893ef80413d775dc0ad01c74e3b4c598610b084b0"), looks := true }, kinds := [], alts := [], laidByText := true, laidKinds := [.data, .data, .data, .sentinel, .sentinel], laidTests := true, laidLooks := .later }
def ReadKnownCardSaid : Prop := Claim7.holds Tryd.pinned (.plain (OpenSpec.ofChange readKnownSpec)) readKnownCard

/-- THE TIED CARD OF 'gnomonlaw04.ReadJoins'. -/
def readJoinsCard : Claim7 := { stood := { row := readJoinsRow, standIns := [], harness := (true, "12adf0ebb9d285d22905482893ef80413d775dc0ad01c74e3b4c598610b084b0"), looks := true }, kinds := [], alts := [], laidByText := true, laidKinds := [.data, .data, .data, .sentinel, .sentinel], laidTests := true, laidLooks := .later }
def ReadJoinsCardSaid : Prop := Claim7.holds Tryd.pinned (.plain (OpenSpec.ofChange readJoinsSpec)) readJoinsCard

/-- THE SECOND FORM's CARD OF 'gnomonlaw04.ReadParses'. -/
def readParsesUptoCard : Claim7 := { stood := { row := readParsesUptoRow, standIns := [], harness := (true, "12adf0ebb9d285d22905482893ef80413d775dc0ad01c74e3b4c598610b084b0"), looks := true }, kinds := [], alts := [], laidByText := true, laidKinds := [.data, .data, .data, .sentinel, .sentinel], laidTests := true, laidLooks := .later }
def ReadParsesUptoCardSaid : Prop := Claim7.holds Tryd.pinned (.plain (OpenSpec.upto readParsesSpec)) readParsesUptoCard

/-- THE SECOND FORM's CARD OF 'gnomonlaw04.ReadBlanks'. -/
def readBlanksUptoCard : Claim7 := { stood := { row := readBlanksUptoRow, standIns := [], harness := (true, "12adf0ebb9d285d22905482893ef80413d775dc0ad01c74e3b4c598610b084b0"), looks := true }, kinds := [], alts := [], laidByText := true, laidKinds := [.data, .data, .data, .sentinel, .sentinel], laidTests := true, laidLooks := .later }
def ReadBlanksUptoCardSaid : Prop := Claim7.holds Tryd.pinned (.plain (OpenSpec.upto readBlanksSpec)) readBlanksUptoCard

/-- THE SECOND FORM's CARD OF 'gnomonlaw04.ReadErrors'. -/
def readErrorsUptoCard : Claim7 := { stood := { row := readErrorsUptoRow, standIns := [], harness := (true, "12adf0ebb9d285d22905482893ef80413d775dc0ad01c74e3b4c598610b084b0"), looks := true }, kinds := [], alts := [], laidByText := true, laidKinds := [.data, .data, .data, .sentinel, .sentinel], laidTests := true, laidLooks := .later }
def ReadErrorsUptoCardSaid : Prop := Claim7.holds Tryd.pinned (.plain (OpenSpec.upto readErrorsSpec)) readErrorsUptoCard

/-- THE SECOND FORM's CARD OF 'gnomonlaw04.ReadOwn'. -/
def readOwnUptoCard : Claim7 := { stood := { row := readOwnUptoRow, standIns := [], harness := (true, "12adf0ebb9d285d22905482893ef80413d775dc0ad01c74e3b4c598610b084b0"), looks := true }, kinds := [], alts := [], laidByText := true, laidKinds := [.data, .data, .data, .sentinel, .sentinel], laidTests := true, laidLooks := .later }
def ReadOwnUptoCardSaid : Prop := Claim7.holds Tryd.pinned (.plain (OpenSpec.upto readOwnSpec)) readOwnUptoCard

/-- THE SECOND FORM's CARD OF 'gnomonlaw04.ReadKnown'. -/
def readKnownUptoCard : Claim7 := { stood := { row := readKnownUptoRow, standIns := [], harness := (true, "12adf0ebb9d285d22905482893ef80413d775dc0ad01c74e3b4c598610b084b0"), looks := true }, kinds := [], alts := [], laidByText := true, laidKinds := [.data, .data, .data, .sentinel, .sentinel], laidTests := true, laidLooks := .later }
def ReadKnownUptoCardSaid : Prop := Claim7.holds Tryd.pinned (.plain (OpenSpec.upto readKnownSpec)) readKnownUptoCard

/-- THE SECOND FORM's CARD OF 'gnomonlaw04.ReadJoins'. -/
def readJoinsUptoCard : Claim7 := { stood := { row := readJoinsUptoRow, standIns := [], harness := (true, "12adf0ebb9d285d22905482893ef80413d775dc0ad01c74e3b4c598610b084b0"), looks := true }, kinds := [], alts := [], laidByText := true, laidKinds := [.data, .data, .data, .sentinel, .sentinel], laidTests := true, laidLooks := .later }
def ReadJoinsUptoCardSaid : Prop := Claim7.holds Tryd.pinned (.plain (OpenSpec.upto readJoinsSpec)) readJoinsUptoCard
end Rows
end Go.Proofs.YtbocmenkkjbigaaDoor
