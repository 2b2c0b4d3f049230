/- The statement ReportAllowances: the row and its card. No condition. -/
import Derived.Test.YtjkmmcbfcglkdaaGreatDoorN4
import Derived.Test.YtjkmmcbfcglkdaaGreatDoorK8
import Derived.Test.YtjkmmcbfcglkdaaGreatDoorCards
import Derived.Test.YtjkmmcbfcglkdaaGreatDoorTie
import Derived.WalkKit
import Derived.ProofKit
import Derived.Handy
import Derived.SevenTiedAt
set_option linter.all false
namespace Go.Proofs.YtjkmmcbfcglkdaaGreatDoor.reportAllowances
open Go Ar Go.Proofs.YtjkmmcbfcglkdaaGreatDoor
set_option linter.unusedVariables false
set_option autoImplicit false
set_option maxRecDepth 100000
theorem laid : laidOutB Tryz.prog = true := by kernel_rfl
theorem own : ownKnob Tryz.prog.godebug = none := by kernel_rfl
theorem law (l : List AV) (h : OfL [tyPol, .sl 7 tyOpn, .arr 5 1 (.int .i64)] l) : ∃ args', LeL l args' ∧ Pure Tryz.prog gl0 5 args' (.val (.bool true)) := by
  obtain ⟨a, b, c, rfl, h1, h2, h3⟩ := ofL3 h
  obtain ⟨p, l1, r1, w1⟩ := of_Pol h1
  obtain ⟨ops, l2, r2⟩ := of_Opns h2
  obtain ⟨rt, l3⟩ := of_R h3
  exact ⟨[encPol p, encL encOpn 7 ops, encR rt], ⟨l1.le, l2.le, l3.le, trivial⟩, law11_x p ops rt r1 w1 r2⟩
abbrev laidL : List (String × DataW Unit) := [("arrears/ledger.sides", Rows.laid_arrears_ledger_sides)]
theorem glob {W : World} (h : laidMetH Tryz.prog laidL W) : ∀ i, (R (g0 W) W (gl0 i)).v (.pointer (some ⟨i, 0, none⟩)) := by
  rw [MakeChecks.laidMetH_plain _ _ _ (by kernel_rfl)] at h
  intro i
  match i with
  | 0 => exact ints_laid (t := 167) (e := 3) sideL (by kernel_rfl) (by kernel_rfl) (by kernel_rfl) (by kernel_rfl) (by kernel_rfl) (by kernel_rfl) h
  | _ + 1 => trivial
theorem contract (H : Type) (enc : TypeId × Value → H) (W : World) (base : Nat) (args : Array Value) (ds gs : List (DataW H)) (before : List MemPlace)
    (hval : ∀ (j : Nat) t v, Tryz.f5.params[j]? = some t → args[j]? = some v → Value.okWide Tryz.prog W .any base t v)
    (hW : DataW.Whole enc Tryz.prog Tryz.f5.params.toList Rows.reportAllowancesSpec.vars false W args.toList ds gs before)
    (hwt : wOk (DataW.weightsEach Tryz.prog (Tryz.f5.params.toList ++ Rows.reportAllowancesSpec.plain.varTypes Tryz.prog) (ds ++ gs))) (hl : laidMetH Tryz.prog laidL W) :
    Calls Tryz.prog 5 args W fun e W' => ∃ v, e = .returned v ∧ Rows.reportAllowancesSpec.post enc Tryz.prog Tryz.f5 false true false false W args v W' :=
  law_calls (tb := 4) (tys := [tyPol, .sl 7 tyOpn, .arr 5 1 (.int .i64)]) laid (by kernel_rfl) (by kernel_rfl) (by kernel_rfl) (by kernel_rfl) rfl (fun ds h => by
    match ds, h with
    | [a, b, c], _ => rfl) law (glob hl) hval hW hwt
theorem lifted (os : Os) (started : os.Started) (H : Type) (enc : TypeId × Value → H) :
    ReturnsInHanded {} Tryz.checked os 5 .any (fun w args => (Rows.reportAllowancesSpec.pre enc Tryz.prog Tryz.f5 [] false w args ∧ laidMetH Tryz.prog laidL w) ∧ sizedMet enc Tryz.prog Tryz.f5 (OpenSpec.ofChange Rows.reportAllowancesSpec) false w args)
      (Rows.reportAllowancesSpec.post enc Tryz.prog Tryz.f5 false true false false) := by
  refine returnsInHanded_of_change_and (C := Tryz.checked) (X := fun w _ => laidMetH Tryz.prog laidL w) (fun _ _ _ hh h => h.of_heap hh) own started (by kernel_rfl) Tryz.func5
    (ChangeSpec.witness_shaped (enc := enc) (C := Tryz.checked) (os := os) (X := fun w _ => laidMetH Tryz.prog laidL w) false (World.laidAll Tryz.prog os laidL) #[.agg #[.int .i64 0, .int .i64 0, .int .i64 0, .int .i64 0, .int .i64 0, .int .i64 0, .int .i64 0, .int .i64 0, .int .i64 0, .int .i64 0, .int .i64 0, .int .i64 0, .int .i64 0, .int .i64 0, .int .i64 0, .int .i64 0, .int .i64 0, .slice none 0 0], .slice none 0 0, .agg #[.int .i64 0, .int .i64 0, .int .i64 0, .int .i64 0, .int .i64 0]] 8 (World.laidAll_os _ _ _)
      (World.shaped_of_ZipB (by kernel_rfl) (by kernel_rfl)) (by kernel_rfl) (by kernel_rfl) (by kernel_rfl)
      (by rw [MakeChecks.laidMetH_plain _ _ _ (by kernel_rfl)]; exact laidMet_laidAll _ (by kernel_rfl) (by kernel_rfl))) ?_
  intro W base args ds gs before hval hW _ hwt hL _
  exact contract H enc W base args ds gs before hval hW hwt hL
theorem holds : Rows.ReportAllowancesSaid :=
  OpenClaim.holds_of_wide 5 Tryz.f5 rfl rfl rfl rfl rfl rfl rfl ⟨rfl, rfl, rfl, rfl, rfl⟩ rfl rfl rfl rfl rfl (by kernel_rfl) Tryz.func5 (by kernel_rfl)
    (of_decide_eq_true (by kernel_rfl)) (by unfold Func.isWrapper; first | (rw [if_pos (by decide +kernel)]; kernel_rfl) | (rw [if_neg (by decide +kernel)]; exact ⟨rfl, rfl⟩))
    (fun os started H enc _ => lifted os started H enc)
theorem proved : Rows.ReportAllowancesCardSaid :=
  Claim7.holds_tied_plain_at .later [] [.data] true (true, "97a29e001c6d797d7783bacc0d307abce8227b263ee3340090657cc97c3ed3cc") false holds (fun _ h => by cases h) (by kernel_rfl) (fun _ h => by cases h) reportAllowances_row_tie rfl ⟨rfl, rfl⟩ (by kernel_rfl) rfl
    (fun f fn hf hfn => by
      obtain rfl : f = 5 := Option.some.inj ((show Tryz.prog.funcNamed "arrears/arrearslaw21.ReportAllowances" = some 5 by kernel_rfl).symm.trans hf) |>.symm
      obtain rfl : fn = Tryz.f5 := (Option.some.inj (Tryz.func5.symm.trans hfn)).symm
      exact ⟨by kernel_rfl, fun j t ht => by
        rw [Tryz.params5] at ht
        have hm : t ∈ [24, 25, 53] := by simpa using Array.mem_of_getElem? ht
        have hall : ([24, 25, 53].all fun u => !Tryz.prog.wantsStandIn u) = true := by kernel_rfl
        exact (show Tryz.prog.wantsStandIn t = false by simpa using List.all_eq_true.1 hall t hm)⟩)
    (by kernel_rfl)
end Go.Proofs.YtjkmmcbfcglkdaaGreatDoor.reportAllowances
