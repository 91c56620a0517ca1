/-
  DERIVED. GIVEN WITH THE SEED: THE CARDS: each row of YtfnkpedipicjnaaDoorRows.lean that lists a variable, with what it lists TIED to the program's text (the seventh form; the later family's looks); each row that meets fmt, with fmt's text TOLD by the authors' own Lean function (tested against real Go, not proved from fmt's source: count such statements apart). THE CARD IS WHAT COUNTS. Prove the row's statement (the work); the ties are given (YtfnkpedipicjnaaDoorTie.lean); close each card by the builder's one call (the guide's Derived/Test/ToyasCard.lean, 'card_holds'). Laid BY PROGRAM, IN A SANDBOX (cutbox-door.mjs). By AI agents, Wed Nov 11 2026. No macro, syntax, notation, axiom, sorry.
-/
import Derived.Test.YtfnkpedipicjnaaDoorRows
import GoSem.ClaimSeven
namespace Go.Proofs.YtfnkpedipicjnaaDoor
namespace Rows

/-- THE TIED CARD OF 'gnomonlaw03.TokenLexes'. -/
def tokenLexesCard : Claim7 := { stood := { row := tokenLexesRow, standIns := [], harness := (true, "2632143c2581cb554d7b49b2f3d5f19e4d6f34e69db7128ec5bc9be4c72c0f06"), looks := true }, kinds := [], alts := [], laidByText := true, laidKinds := [.data, .data, .data, .sentinel, .sentinel], laidTests := true, laidLooks := .later }
def TokenLexesCardSaid : Prop := Claim7.holds Tryd.pinned (.plain (OpenSpec.ofChange tokenLexesSpec)) tokenLexesCard

/-- THE TIED CARD OF 'gnomonlaw03.TokenCovers'. -/
def tokenCoversCard : Claim7 := { stood := { row := tokenCoversRow, standIns := [], harness := (true, "2632143c2581cb554d7b49b2f3d5f19e4d6f34e69db7128ec5bc9be4c72c0f06"), looks := true }, kinds := [], alts := [], laidByText := true, laidKinds := [.data, .data, .data, .sentinel, .sentinel], laidTests := true, laidLooks := .later }
def TokenCoversCardSaid : Prop := Claim7.holds Tryd.pinned (.plain (OpenSpec.ofChange tokenCoversSpec)) tokenCoversCard

/-- THE TIED CARD OF 'gnomonlaw03.TokenLaid'. -/
def tokenLaidCard : Claim7 := { stood := { row := tokenLaidRow, standIns := [], harness := (true, "2632143c2581cb554d7b49b2f3d5f19e4d6f34e69db7128ec5bc9be4c72c0f06"), looks := true }, kinds := [], alts := [], laidByText := true, laidKinds := [.data, .data, .data, .sentinel, .sentinel], laidTests := true, laidLooks := .later }
def TokenLaidCardSaid : Prop := Claim7.holds Tryd.pinned (.plain (OpenSpec.ofChange tokenLaidSpec)) tokenLaidCard

/-- THE TIED CARD OF 'gnomonlaw03.TokenKnown'. -/
def tokenKnownCard : Claim7 := { stood := { row := tokenKnownRow, standIns := [], harness := (true, "2632143c2581cb554d7b49b2f3d5f19e4d6f34e69db7128ec5bc9be4c72c0f06"), looks := true }, kinds := [], alts := [], laidByText := true, laidKinds := [.data, .data, .data, .sentinel, .sentinel], laidTests := true, laidLooks := .later }
def TokenKnownCardSaid : Prop := Claim7.holds Tryd.pinned (.plain (OpenSpec.ofChange tokenKnownSpec)) tokenKnownCard

/-- THE TIED CARD OF 'gnomonlaw03.TokenJoins'. -/
def tokenJoinsCard : Claim7 := { stood := { row := tokenJoinsRow, standIns := [], harness := (true, "2632143c2581cb554d7b49b2f3d5f19e4d6f34e69db7128ec5bc9be4c72c0f06"), looks := true }, kinds := [], alts := [], laidByText := true, laidKinds := [.data, .data, .data, .sentinel, .sentinel], laidTests := true, laidLooks := .later }
def TokenJoinsCardSaid : Prop := Claim7.holds Tryd.pinned (.plain (OpenSpec.ofChange tokenJoinsSpec)) tokenJoinsCard

/-- THE SECOND FORM's CARD OF 'gnomonlaw03.TokenLexes'. -/
def tokenLexesUptoCard : Claim7 := { stood := { row := tokenLexesUptoRow, standIns := [], harness := (true, "2632143c2581cb554d7b49b2f3d5f19e4d6f34e69db7128ec5bc9be4c72c0f06"), looks := true }, kinds := [], alts := [], laidByText := true, laidKinds := [.data, .data, .data, .sentinel, .sentinel], laidTests := true, laidLooks := .later }
def TokenLexesUptoCardSaid : Prop := Claim7.holds Tryd.pinned (.plain (OpenSpec.upto tokenLexesSpec)) tokenLexesUptoCard

/-- THE SECOND FORM's CARD OF 'gnomonlaw03.TokenCovers'. -/
def tokenCoversUptoCard : Claim7 := { stood := { row := tokenCoversUptoRow, standIns := [], harness := (true, "2632143c2581cb554d7b49b2f3d5f19e4d6f34e69db7128ec5bc9be4c72c0f06"), looks := true }, kinds := [], alts := [], laidByText := true, laidKinds := [.data, .data, .data, .sentinel, .sentinel], laidTests := true, laidLooks := .later }
def TokenCoversUptoCardSaid : Prop := Claim7.holds Tryd.pinned (.plain (OpenSpec.upto tokenCoversSpec)) tokenCoversUptoCard

/-- THE SECOND FORM's CARD OF 'gnomonlaw03.TokenLaid'. -/
def tokenLaidUptoCard : Claim7 := { stood := { row := tokenLaidUptoRow, standIns := [], harness := (true, "2632143c2581cb554d7b49b2f3d5f19e4d6f34e69db7128ec5bc9be4c72c0f06"), looks := true }, kinds := [], alts := [], laidByText := true, laidKinds := [.data, .data, .data, .sentinel, .sentinel], laidTests := true, laidLooks := .later }
def TokenLaidUptoCardSaid : Prop := Claim7.holds Tryd.pinned (.plain (OpenSpec.upto tokenLaidSpec)) tokenLaidUptoCard

/-- THE SECOND FORM's CARD OF 'gnomonlaw03.TokenKnown'. -/
def tokenKnownUptoCard : Claim7 := { stood := { row := tokenKnownUptoRow, standIns := [], harness := (true, "2632143c2581cb554d7b49b2f3d5f19e4d6f34e69db7128ec5bc9be4c72c0f06"), looks := true }, kinds := [], alts := [], laidByText := true, laidKinds := [.data, .data, .data, .sentinel, .sentinel], laidTests := true, laidLooks := .later }
def TokenKnownUptoCardSaid : Prop := Claim7.holds Tryd.pinned (.plain (OpenSpec.upto tokenKnownSpec)) tokenKnownUptoCard

/-- THE SECOND FORM's CARD OF 'gnomonlaw03.TokenJoins'. -/
def tokenJoinsUptoCard : Claim7 := { stood := { row := tokenJoinsUptoRow, standIns := [], harness := (true, "2632143c2581cb554d7b49b2f3d5f19e4d6f34e69db7128ec5bc9be4c72c0f06"), looks := true }, kinds := [], alts := [], laidByText := true, laidKinds := [.data, .data, .data, .sentinel, .sentinel], laidTests := true, laidLooks := .later }
def TokenJoinsUptoCardSaid : Prop := Claim7.holds Tryd.pinned (.plain (OpenSpec.upto tokenJoinsSpec)) tokenJoinsUptoCard
end Rows
end Go.Proofs.YtfnkpedipicjnaaDoor
