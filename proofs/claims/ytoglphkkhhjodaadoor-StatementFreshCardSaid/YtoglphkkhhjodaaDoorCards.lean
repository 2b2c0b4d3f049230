/-
  DERIVED. GIVEN WITH THE SEED: THE CARDS: each row of YtoglphkkhhjodaaDoorRows.lean that lists a variable, with what it lists TIED to the program's text (the seventh form; the later family's looks); each row that meets fmt, with fmt's text TOLD by the authors' own Lean function (tested against real Go, not proved from fmt's source: count such statements apart). THE CARD IS WHAT COUNTS. Prove the row's statement (the work); the ties are given (YtoglphkkhhjodaaDoorTie.lean); close each card by the builder's one call (the guide's Derived/Test/ToyasCard.lean, 'card_holds'). Laid BY PROGRAM, IN A SANDBOX (cutbox-door.mjs). By AI agents, Wed Nov 11 2026. No macro, syntax, notation, axiom, sorry.
-/
import Derived.Test.YtoglphkkhhjodaaDoorRows
import GoSem.ClaimSeven
namespace Go.Proofs.YtoglphkkhhjodaaDoor
namespace Rows

/-- THE TIED CARD OF 'arrearslaw22.StatementFresh'. -/
def statementFreshCard : Claim7 := { stood := { row := statementFreshRow, standIns := [], harness := (true, "13e45f3ad9e4c8f66487cf117b077d77bdbf070c1dcc58aa6766320fc033c638"), looks := false }, kinds := [], alts := [], laidByText := true, laidKinds := [.data, .data, .data, .data, .data], laidTests := true, laidLooks := .later }
def StatementFreshCardSaid : Prop := Claim7.holds Tryd.pinned (.plain (OpenSpec.ofChange statementFreshSpec)) statementFreshCard

/-- THE TIED CARD OF 'arrearslaw22.StatementLines'. -/
def statementLinesCard : Claim7 := { stood := { row := statementLinesRow, standIns := [], harness := (true, "13e45f3ad9e4c8f66487cf117b077d77bdbf070c1dcc58aa6766320fc033c638"), looks := false }, kinds := [], alts := [], laidByText := true, laidKinds := [.data, .data, .data, .data, .data], laidTests := true, laidLooks := .later }
def StatementLinesCardSaid : Prop := Claim7.holds Tryd.pinned (.plain (OpenSpec.ofChange statementLinesSpec)) statementLinesCard

/-- THE SECOND FORM's CARD OF 'arrearslaw22.StatementFresh'. -/
def statementFreshUptoCard : Claim7 := { stood := { row := statementFreshUptoRow, standIns := [], harness := (true, "13e45f3ad9e4c8f66487cf117b077d77bdbf070c1dcc58aa6766320fc033c638"), looks := false }, kinds := [], alts := [], laidByText := true, laidKinds := [.data, .data, .data, .data, .data], laidTests := true, laidLooks := .later }
def StatementFreshUptoCardSaid : Prop := Claim7.holds Tryd.pinned (.plain (OpenSpec.upto statementFreshSpec)) statementFreshUptoCard

/-- THE SECOND FORM's CARD OF 'arrearslaw22.StatementLines'. -/
def statementLinesUptoCard : Claim7 := { stood := { row := statementLinesUptoRow, standIns := [], harness := (true, "13e45f3ad9e4c8f66487cf117b077d77bdbf070c1dcc58aa6766320fc033c638"), looks := false }, kinds := [], alts := [], laidByText := true, laidKinds := [.data, .data, .data, .data, .data], laidTests := true, laidLooks := .later }
def StatementLinesUptoCardSaid : Prop := Claim7.holds Tryd.pinned (.plain (OpenSpec.upto statementLinesSpec)) statementLinesUptoCard
end Rows
end Go.Proofs.YtoglphkkhhjodaaDoor
