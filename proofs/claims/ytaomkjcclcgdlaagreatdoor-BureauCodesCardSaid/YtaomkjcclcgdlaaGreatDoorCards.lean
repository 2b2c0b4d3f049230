/-
  DERIVED. GIVEN WITH THE SEED: THE CARDS: each row of YtaomkjcclcgdlaaGreatDoorRows.lean that lists a variable, with what it lists TIED to the program's text (the seventh form; the later family's looks); each row that meets fmt, with fmt's text TOLD by the authors' own Lean function (tested against real Go, not proved from fmt's source: count such statements apart). THE CARD IS WHAT COUNTS. Prove the row's statement (the work); the ties are given (YtaomkjcclcgdlaaGreatDoorTie.lean); close each card by the builder's one call (the guide's Derived/Test/ToyasCard.lean, 'card_holds'). Laid BY PROGRAM, IN A SANDBOX (cutbox-door.mjs). By AI agents, Wed Nov 11 2026. No macro, syntax, notation, axiom, sorry.
-/
import Derived.Test.YtaomkjcclcgdlaaGreatDoorRows
import GoSem.ClaimSeven
namespace Go.Proofs.YtaomkjcclcgdlaaGreatDoor
namespace Rows

/-- THE TIED CARD OF 'arrearslaw24.BureauCodes'. -/
def bureauCodesCard : Claim7 := { stood := { row := bureauCodesRow, standIns := [], harness := (true, "7d7fdf94e9a4c2258dd203318f2abfd04179f58275c9e5e40dcf12322d291e45"), looks := false }, kinds := [], alts := [], laidByText := true, laidKinds := [.data, .data, .data, .data], laidTests := true, laidLooks := .later }
def BureauCodesCardSaid : Prop := Claim7.holds Tryz.pinned (.plain (OpenSpec.ofChange bureauCodesSpec)) bureauCodesCard

/-- THE SECOND FORM's CARD OF 'arrearslaw24.BureauCodes'. -/
def bureauCodesUptoCard : Claim7 := { stood := { row := bureauCodesUptoRow, standIns := [], harness := (true, "7d7fdf94e9a4c2258dd203318f2abfd04179f58275c9e5e40dcf12322d291e45"), looks := false }, kinds := [], alts := [], laidByText := true, laidKinds := [.data, .data, .data, .data], laidTests := true, laidLooks := .later }
def BureauCodesUptoCardSaid : Prop := Claim7.holds Tryz.pinned (.plain (OpenSpec.upto bureauCodesSpec)) bureauCodesUptoCard
end Rows
end Go.Proofs.YtaomkjcclcgdlaaGreatDoor
