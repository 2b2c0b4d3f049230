/-
  DERIVED. GIVEN WITH THE SEED: THE CARDS: each row of YtankpibkakfnhaaDoorRows.lean that lists a variable, with what it lists TIED to the program's text (the seventh form; the later family's looks); each row that meets fmt, with fmt's text TOLD by the authors' own Lean function (tested against real Go, not proved from fmt's source: count such statements apart). THE CARD IS WHAT COUNTS. Prove the row's statement (the work); the ties are given (YtankpibkakfnhaaDoorTie.lean); close each card by the builder's one call (the guide's Derived/Test/ToyasCard.lean, 'card_holds'). Laid BY PROGRAM, IN A SANDBOX (cutbox-door.mjs). By AI agents, Wed Nov 11 2026. No macro, syntax, notation, axiom, sorry.
-/
import Derived.Test.YtankpibkakfnhaaDoorRows
import GoSem.ClaimSeven
namespace Go.Proofs.YtankpibkakfnhaaDoor
namespace Rows

/-- THE TIED CARD OF 'arrearslaw21.ReportLetterBack'. -/
def reportLetterBackCard : Claim7 := { stood := { row := reportLetterBackRow, standIns := [], harness := (true, "abc1758612f318bcc12a9e80ef972fd860ddd6e26757563a44a827d1eef834d9"), looks := true }, kinds := [], alts := [], laidByText := true, laidKinds := [.data, .data, .data, .data, .sentinel, .sentinel], laidTests := true, laidLooks := .later }
def ReportLetterBackCardSaid : Prop := Claim7.holds Tryd.pinned (.plain (OpenSpec.ofChange reportLetterBackSpec)) reportLetterBackCard

/-- THE TIED CARD OF 'arrearslaw21.ReportLetters'. -/
def reportLettersCard : Claim7 := { stood := { row := reportLettersRow, standIns := [], harness := (true, "abc1758612f318bcc12a9e80ef972fd860ddd6e26757563a44a827d1eef834d9"), looks := true }, kinds := [], alts := [], laidByText := true, laidKinds := [.data, .data, .data, .data, .sentinel, .sentinel], laidTests := true, laidLooks := .later }
def ReportLettersCardSaid : Prop := Claim7.holds Tryd.pinned (.plain (OpenSpec.ofChange reportLettersSpec)) reportLettersCard

/-- THE SECOND FORM's CARD OF 'arrearslaw21.ReportLetterBack'. -/
def reportLetterBackUptoCard : Claim7 := { stood := { row := reportLetterBackUptoRow, standIns := [], harness := (true, "abc1758612f318bcc12a9e80ef972fd860ddd6e26757563a44a827d1eef834d9"), looks := true }, kinds := [], alts := [], laidByText := true, laidKinds := [.data, .data, .data, .data, .sentinel, .sentinel], laidTests := true, laidLooks := .later }
def ReportLetterBackUptoCardSaid : Prop := Claim7.holds Tryd.pinned (.plain (OpenSpec.upto reportLetterBackSpec)) reportLetterBackUptoCard

/-- THE SECOND FORM's CARD OF 'arrearslaw21.ReportLetters'. -/
def reportLettersUptoCard : Claim7 := { stood := { row := reportLettersUptoRow, standIns := [], harness := (true, "abc1758612f318bcc12a9e80ef972fd860ddd6e26757563a44a827d1eef834d9"), looks := true }, kinds := [], alts := [], laidByText := true, laidKinds := [.data, .data, .data, .data, .sentinel, .sentinel], laidTests := true, laidLooks := .later }
def ReportLettersUptoCardSaid : Prop := Claim7.holds Tryd.pinned (.plain (OpenSpec.upto reportLettersSpec)) reportLettersUptoCard
end Rows
end Go.Proofs.YtankpibkakfnhaaDoor
