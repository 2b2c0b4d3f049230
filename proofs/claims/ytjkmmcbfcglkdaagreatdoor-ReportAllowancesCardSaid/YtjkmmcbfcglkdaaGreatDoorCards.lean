/-
  DERIVED. GIVEN WITH THE SEED: THE CARDS: each row of YtjkmmcbfcglkdaaGreatDoorRows.lean that lists a variable, with what it lists TIED to the program's text (the seventh form; the later family's looks); each row that meets fmt, with fmt's text TOLD by the authors' own Lean function (tested against real Go, not proved from fmt's source: count such statements apart). THE CARD IS WHAT COUNTS. Prove the row's statement (the work); the ties are given (YtjkmmcbfcglkdaaGreatDoorTie.lean); close each card by the builder's one call (the guide's Derived/Test/ToyasCard.lean, 'card_holds'). Laid BY PROGRAM, IN A SANDBOX (cutbox-door.mjs). By AI agents, Wed Nov 11 2026. No macro, syntax, notation, axiom, sorry.
-/
import Derived.Test.YtjkmmcbfcglkdaaGreatDoorRows
import GoSem.ClaimSeven
namespace Go.Proofs.YtjkmmcbfcglkdaaGreatDoor
namespace Rows

/-- THE TIED CARD OF 'arrearslaw21.ReportClasses'. -/
def reportClassesCard : Claim7 := { stood := { row := reportClassesRow, standIns := [], harness := (true, "97a29e001c6d797d7783bacc0d307abce8227b263ee3340090657cc97c3ed3cc"), looks := false }, kinds := [], alts := [], laidByText := true, laidKinds := [.data], laidTests := true, laidLooks := .later }
def ReportClassesCardSaid : Prop := Claim7.holds Tryz.pinned (.plain (OpenSpec.ofChange reportClassesSpec)) reportClassesCard

/-- THE TIED CARD OF 'arrearslaw21.ReportRolls'. -/
def reportRollsCard : Claim7 := { stood := { row := reportRollsRow, standIns := [], harness := (true, "97a29e001c6d797d7783bacc0d307abce8227b263ee3340090657cc97c3ed3cc"), looks := false }, kinds := [], alts := [], laidByText := true, laidKinds := [.data], laidTests := true, laidLooks := .later }
def ReportRollsCardSaid : Prop := Claim7.holds Tryz.pinned (.plain (OpenSpec.ofChange reportRollsSpec)) reportRollsCard

/-- THE TIED CARD OF 'arrearslaw21.ReportAllowances'. -/
def reportAllowancesCard : Claim7 := { stood := { row := reportAllowancesRow, standIns := [], harness := (true, "97a29e001c6d797d7783bacc0d307abce8227b263ee3340090657cc97c3ed3cc"), looks := false }, kinds := [], alts := [], laidByText := true, laidKinds := [.data], laidTests := true, laidLooks := .later }
def ReportAllowancesCardSaid : Prop := Claim7.holds Tryz.pinned (.plain (OpenSpec.ofChange reportAllowancesSpec)) reportAllowancesCard

/-- THE SECOND FORM's CARD OF 'arrearslaw21.ReportClasses'. -/
def reportClassesUptoCard : Claim7 := { stood := { row := reportClassesUptoRow, standIns := [], harness := (true, "97a29e001c6d797d7783bacc0d307abce8227b263ee3340090657cc97c3ed3cc"), looks := false }, kinds := [], alts := [], laidByText := true, laidKinds := [.data], laidTests := true, laidLooks := .later }
def ReportClassesUptoCardSaid : Prop := Claim7.holds Tryz.pinned (.plain (OpenSpec.upto reportClassesSpec)) reportClassesUptoCard

/-- THE SECOND FORM's CARD OF 'arrearslaw21.ReportRolls'. -/
def reportRollsUptoCard : Claim7 := { stood := { row := reportRollsUptoRow, standIns := [], harness := (true, "97a29e001c6d797d7783bacc0d307abce8227b263ee3340090657cc97c3ed3cc"), looks := false }, kinds := [], alts := [], laidByText := true, laidKinds := [.data], laidTests := true, laidLooks := .later }
def ReportRollsUptoCardSaid : Prop := Claim7.holds Tryz.pinned (.plain (OpenSpec.upto reportRollsSpec)) reportRollsUptoCard

/-- THE SECOND FORM's CARD OF 'arrearslaw21.ReportAllowances'. -/
def reportAllowancesUptoCard : Claim7 := { stood := { row := reportAllowancesUptoRow, standIns := [], harness := (true, "97a29e001c6d797d7783bacc0d307abce8227b263ee3340090657cc97c3ed3cc"), looks := false }, kinds := [], alts := [], laidByText := true, laidKinds := [.data], laidTests := true, laidLooks := .later }
def ReportAllowancesUptoCardSaid : Prop := Claim7.holds Tryz.pinned (.plain (OpenSpec.upto reportAllowancesSpec)) reportAllowancesUptoCard
end Rows
end Go.Proofs.YtjkmmcbfcglkdaaGreatDoor
