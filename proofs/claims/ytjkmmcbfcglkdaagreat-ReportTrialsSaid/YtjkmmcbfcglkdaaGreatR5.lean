/- The statement ReportTrials. No condition. -/
import Derived.Test.YtjkmmcbfcglkdaaGreatL10
import Derived.Test.YtjkmmcbfcglkdaaGreatK8
import Derived.Test.YtjkmmcbfcglkdaaGreatRows
import Derived.WalkKit
import Derived.ProofKit
set_option linter.all false
namespace Go.Proofs.YtjkmmcbfcglkdaaGreat.reportTrials
open Go Ar Go.Proofs.YtjkmmcbfcglkdaaGreat
set_option linter.unusedVariables false
set_option autoImplicit false
set_option maxRecDepth 100000

theorem laid : laidOutB Tryz.prog = true := by kernel_rfl
theorem own : ownKnob Tryz.prog.godebug = none := by kernel_rfl

theorem law (l : List AV) (h : OfL [tyPol, .sl 7 tyOpn] l) : ∃ args', LeL l args' ∧ Pure Tryz.prog (fun _ => .any) 3 args' (.val (.bool true)) := by
  obtain ⟨a, b, rfl, h1, h2⟩ := ofL2 h
  obtain ⟨p, l1, r1⟩ := of_Pol h1
  obtain ⟨ops, l2, r2⟩ := of_Opns h2
  exact ⟨[encPol p, encL encOpn 7 ops], ⟨l1.le, l2.le, trivial⟩, law_x p ops r1 r2⟩

theorem contract (H : Type) (enc : TypeId × Value → H) (W : World) (base : Nat) (args : Array Value) (ds gs : List (DataW H)) (before : List MemPlace)
    (hval : ∀ (j : Nat) t v, Tryz.f3.params[j]? = some t → args[j]? = some v → Value.okWide Tryz.prog W .any base t v)
    (hW : DataW.Whole enc Tryz.prog Tryz.f3.params.toList Rows.reportTrialsSpec.vars false W args.toList ds gs before) :
    Calls Tryz.prog 3 args W fun e W' => ∃ v, e = .returned v ∧ Rows.reportTrialsSpec.post enc Tryz.prog Tryz.f3 false true false false W args v W' :=
  law_calls (tb := 4) (tys := [tyPol, .sl 7 tyOpn]) laid (by kernel_rfl) (by kernel_rfl) (by kernel_rfl) (by kernel_rfl) rfl (fun ds h => by
    match ds, h with
    | [a, b], _ => rfl) law hval hW

theorem lifted (os : Os) (started : os.Started) (H : Type) (enc : TypeId × Value → H) :
    ReturnsInHanded {} Tryz.checked os 3 .any (Rows.reportTrialsSpec.pre6 enc Tryz.prog Tryz.f3 Rows.reportTrialsRow.domain false) (Rows.reportTrialsSpec.post enc Tryz.prog Tryz.f3 false true false false) := by
  refine returnsInHanded_of_change (C := Tryz.checked) own started (by kernel_rfl) Tryz.func3
    (ChangeSpec.witness6 (enc := enc) (C := Tryz.checked) false ⟨#[], #[.agg #[.int .i64 0, .int .i64 0, .int .i64 0, .int .i64 0, .int .i64 0, .int .i64 0, .int .i64 0, .int .i64 0, .int .i64 0, .int .i64 0, .int .i64 0, .int .i64 0, .int .i64 0, .int .i64 0, .int .i64 0, .int .i64 0, .int .i64 0, .slice none 0 0], .slice none 0 0], []⟩ 8 (by kernel_rfl) (by kernel_rfl) (by kernel_rfl) (by kernel_rfl)) ?_
  intro W base args ds gs before hval hW hcnd _
  exact contract H enc W base args ds gs before hval hW

theorem proved : Rows.ReportTrialsSaid :=
  OpenClaim.holds_of_wide 3 Tryz.f3 rfl rfl rfl rfl rfl rfl rfl ⟨rfl, rfl, rfl, rfl, rfl⟩ rfl rfl rfl rfl rfl (by kernel_rfl) Tryz.func3 (by kernel_rfl)
    (of_decide_eq_true (by kernel_rfl)) (by unfold Func.isWrapper; first | (rw [if_pos (by decide +kernel)]; kernel_rfl) | (rw [if_neg (by decide +kernel)]; exact ⟨rfl, rfl⟩))
    (fun os started H enc _ => lifted os started H enc)

end Go.Proofs.YtjkmmcbfcglkdaaGreat.reportTrials
