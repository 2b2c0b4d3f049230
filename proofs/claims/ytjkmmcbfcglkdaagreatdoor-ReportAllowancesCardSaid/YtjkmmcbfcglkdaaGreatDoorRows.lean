/-
  NARROWER THAN 'FOR EVERY INPUT', by the rows' own cells (each row's printed sentence says how): ReportClasses: laid · ReportRolls: laid · ReportAllowances: laid.
  DERIVED. THE GIVEN ROWS OF THIS SEAT. 3 by the template 'for every input the law returns true; each argument reads behind the call as it read before'; 0 by the template 'total and deterministic' (their statements: YtjkmmcbfcglkdaaGreatDoorTotals.lean).
  GIVEN WITH THE SEED: the statements are not yours to turn. If you find one false, say at which input.
  Laid BY PROGRAM, IN A SANDBOX (cutbox-rows.mjs): the forced cells as the released guide's own fill.sh prints them over the translation c3e2d3ac11d88e4d… (all of the seat's roots in one cut). By AI agents, Wed Nov 11 2026. No macro, syntax, notation, axiom, sorry.
-/
import Derived.Test.YtjkmmcbfcglkdaaGreatDoorChecked
import GoSem.Claim
import GoSem.ClaimJoined
import GoSem.ClaimMapViews
import Derived.JoinedTies
import Derived.KernelRfl
namespace Go.Proofs.YtjkmmcbfcglkdaaGreatDoor
/- THE CELL 'sum', in the pinned program and in every row, IS THE sha256 OF THE DUMP (.gsa) THAT YtjkmmcbfcglkdaaGreatDoorProg.lean LOADS. Nothing in Lean hashes anything: it is a label: what it is worth is what the hold of that sum in a sandbox is worth. -/
noncomputable def Tryz.pinned : Pinned := { name := "ytjkmmcbfcglkdaagreatdoor", sum := "c3e2d3ac11d88e4df664fcd351739833e74d3c5884e5b4dacc1236f24d97dc02", checked := Tryz.checked }
namespace Rows
def none {H : Type} : Left H := { results := [], args := [] }

/- WHAT THE LISTED PACKAGE-LEVEL VARIABLES READ AS WHEN THE CALL BEGINS. Each datum BY PROGRAM (the guide's laid-datum.mjs) off the statement by which the dump's own 'gosem.cut.vars' lays the variable. In a bare row this is a premise. The card (YtjkmmcbfcglkdaaGreatDoorCards.lean) ties it to the program's text. -/
def laid_arrears_ledger_sides {H : Type} : DataW H := .agg [.lit (.int .i64 1), .lit (.int .i64 1), .lit (.int .i64 1), .lit (.int .i64 1), .lit (.int .i64 (-1)), .lit (.int .i64 (-1)), .lit (.int .i64 (-1)), .lit (.int .i64 (-1)), .lit (.int .i64 (-1)), .lit (.int .i64 1), .lit (.int .i64 (-1)), .lit (.int .i64 1)]

/-- 'arrearslaw21.ReportClasses': WHATEVER THE INPUT: true; the input reads as it did. -/
def reportClassesSpec : ChangeSpec := { name := "reportClasses", fn := fun _ => fun
  | [d1, d2] => { results := [.lit (.bool true)], args := [d1, d2] }
  | _ => none }
def reportClassesRow : OpenClaim := { program := "ytjkmmcbfcglkdaagreatdoor", sum := "c3e2d3ac11d88e4df664fcd351739833e74d3c5884e5b4dacc1236f24d97dc02", func := "arrears/arrearslaw21.ReportClasses", spec := "reportClasses", inPlace := ["math/bits.Add64"], unfollowed := true, recurses := true, named := ["arrears/ledger.sides"], apart := false, laid := [("arrears/ledger.sides", laid_arrears_ledger_sides)] }
def ReportClassesSaid : Prop := reportClassesRow.holds Tryz.pinned (OpenSpec.ofChange reportClassesSpec)

/-- ITS FALSE NEIGHBOUR: 'it returns false'. Refute it at one input. -/
def reportClassesWrong : ChangeSpec := { name := "reportClasses", fn := fun _ => fun
  | [d1, d2] => { results := [.lit (.bool false)], args := [d1, d2] }
  | _ => none }
def ReportClassesWrongFalsely : Prop := reportClassesRow.holds Tryz.pinned (OpenSpec.ofChange reportClassesWrong)

/-- 'arrearslaw21.ReportRolls': WHATEVER THE INPUT: true; the input reads as it did. -/
def reportRollsSpec : ChangeSpec := { name := "reportRolls", fn := fun _ => fun
  | [d1, d2, d3] => { results := [.lit (.bool true)], args := [d1, d2, d3] }
  | _ => none }
def reportRollsRow : OpenClaim := { program := "ytjkmmcbfcglkdaagreatdoor", sum := "c3e2d3ac11d88e4df664fcd351739833e74d3c5884e5b4dacc1236f24d97dc02", func := "arrears/arrearslaw21.ReportRolls", spec := "reportRolls", inPlace := ["math/bits.Add64"], unfollowed := true, recurses := true, named := ["arrears/ledger.sides"], apart := false, laid := [("arrears/ledger.sides", laid_arrears_ledger_sides)] }
def ReportRollsSaid : Prop := reportRollsRow.holds Tryz.pinned (OpenSpec.ofChange reportRollsSpec)

/-- ITS FALSE NEIGHBOUR: 'it returns false'. Refute it at one input. -/
def reportRollsWrong : ChangeSpec := { name := "reportRolls", fn := fun _ => fun
  | [d1, d2, d3] => { results := [.lit (.bool false)], args := [d1, d2, d3] }
  | _ => none }
def ReportRollsWrongFalsely : Prop := reportRollsRow.holds Tryz.pinned (OpenSpec.ofChange reportRollsWrong)

/-- 'arrearslaw21.ReportAllowances': WHATEVER THE INPUT: true; the input reads as it did. -/
def reportAllowancesSpec : ChangeSpec := { name := "reportAllowances", fn := fun _ => fun
  | [d1, d2, d3] => { results := [.lit (.bool true)], args := [d1, d2, d3] }
  | _ => none }
def reportAllowancesRow : OpenClaim := { program := "ytjkmmcbfcglkdaagreatdoor", sum := "c3e2d3ac11d88e4df664fcd351739833e74d3c5884e5b4dacc1236f24d97dc02", func := "arrears/arrearslaw21.ReportAllowances", spec := "reportAllowances", inPlace := ["math/bits.Add64"], unfollowed := true, recurses := true, named := ["arrears/ledger.sides", "math/bits.divideError", "math/bits.overflowError"], apart := false, laid := [("arrears/ledger.sides", laid_arrears_ledger_sides)] }
def ReportAllowancesSaid : Prop := reportAllowancesRow.holds Tryz.pinned (OpenSpec.ofChange reportAllowancesSpec)

/-- ITS FALSE NEIGHBOUR: 'it returns false'. Refute it at one input. -/
def reportAllowancesWrong : ChangeSpec := { name := "reportAllowances", fn := fun _ => fun
  | [d1, d2, d3] => { results := [.lit (.bool false)], args := [d1, d2, d3] }
  | _ => none }
def ReportAllowancesWrongFalsely : Prop := reportAllowancesRow.holds Tryz.pinned (OpenSpec.ofChange reportAllowancesWrong)

/- THE SECOND FORM. 'bulk': how many values and letters a reading holds, each counted each time it is reached (what is shared counts as often as it is met; a slice's spare places count too). A statement '..UptoSaid' is the law's where the arguments, and the package variables that the reading takes, are together of bulk at most 1048576: NARROWER than '..Said'. Prove '..Said' where nothing that the law and all that it calls make is longer than what came in: it says more and counts as full. Else prove '..UptoSaid'. A law counts once. -/
mutual
def uptoBulk {H : Type} : DataW H → Nat
  | .lit (.string bytes) => bytes.length + 1
  | .lit _ => 1
  | .nil => 1
  | .ptr d => uptoBulk d + 1
  | .slice elems spare => uptoBulkAll elems + uptoBulkAll spare + 1
  | .agg parts => uptoBulkAll parts + 1
  | .iface _ d => uptoBulk d + 1
  | .map entries => uptoBulkEntries entries + 1
  | .held _ => 1
def uptoBulkAll {H : Type} : List (DataW H) → Nat
  | [] => 0
  | d :: r => uptoBulk d + uptoBulkAll r
def uptoBulkEntries {H : Type} : List (Lit × DataW H) → Nat
  | [] => 0
  | x :: r => uptoBulkEntry x + uptoBulkEntries r
def uptoBulkEntry {H : Type} : Lit × DataW H → Nat
  | (.string bytes, d) => bytes.length + uptoBulk d + 1
  | (_, d) => uptoBulk d + 1
 end
def uptoSmall : (H : Type) → List (DataW H) → Bool := fun _ ds => decide (uptoBulkAll ds ≤ 1048576)
def OpenSpec.upto (s : _root_.Go.ChangeSpec) : _root_.Go.OpenSpec := { _root_.Go.OpenSpec.ofChange s with cond := some uptoSmall }

/-- 'arrearslaw21.ReportClasses', WHERE WHAT IT READS IS OF BULK AT MOST 1048576: true; the input reads as it did. -/
def reportClassesUptoRow : OpenClaim := { program := "ytjkmmcbfcglkdaagreatdoor", sum := "c3e2d3ac11d88e4df664fcd351739833e74d3c5884e5b4dacc1236f24d97dc02", func := "arrears/arrearslaw21.ReportClasses", spec := "reportClasses", inPlace := ["math/bits.Add64"], unfollowed := true, recurses := true, named := ["arrears/ledger.sides"], apart := false, laid := [("arrears/ledger.sides", laid_arrears_ledger_sides)], narrowed := true }
def ReportClassesUptoSaid : Prop := reportClassesUptoRow.holds Tryz.pinned (OpenSpec.upto reportClassesSpec)

/-- 'arrearslaw21.ReportRolls', WHERE WHAT IT READS IS OF BULK AT MOST 1048576: true; the input reads as it did. -/
def reportRollsUptoRow : OpenClaim := { program := "ytjkmmcbfcglkdaagreatdoor", sum := "c3e2d3ac11d88e4df664fcd351739833e74d3c5884e5b4dacc1236f24d97dc02", func := "arrears/arrearslaw21.ReportRolls", spec := "reportRolls", inPlace := ["math/bits.Add64"], unfollowed := true, recurses := true, named := ["arrears/ledger.sides"], apart := false, laid := [("arrears/ledger.sides", laid_arrears_ledger_sides)], narrowed := true }
def ReportRollsUptoSaid : Prop := reportRollsUptoRow.holds Tryz.pinned (OpenSpec.upto reportRollsSpec)

/-- 'arrearslaw21.ReportAllowances', WHERE WHAT IT READS IS OF BULK AT MOST 1048576: true; the input reads as it did. -/
def reportAllowancesUptoRow : OpenClaim := { program := "ytjkmmcbfcglkdaagreatdoor", sum := "c3e2d3ac11d88e4df664fcd351739833e74d3c5884e5b4dacc1236f24d97dc02", func := "arrears/arrearslaw21.ReportAllowances", spec := "reportAllowances", inPlace := ["math/bits.Add64"], unfollowed := true, recurses := true, named := ["arrears/ledger.sides", "math/bits.divideError", "math/bits.overflowError"], apart := false, laid := [("arrears/ledger.sides", laid_arrears_ledger_sides)], narrowed := true }
def ReportAllowancesUptoSaid : Prop := reportAllowancesUptoRow.holds Tryz.pinned (OpenSpec.upto reportAllowancesSpec)

end Rows
end Go.Proofs.YtjkmmcbfcglkdaaGreatDoor
