/- The statement BackdateClears. No condition. -/
import Derived.Test.YtjkmmcbfcglkdaaEn5
import Derived.Test.YtjkmmcbfcglkdaaFinC
namespace Go.Proofs.Ytjkmmcbfcglkdaa.clears
open Go Ar Go.Proofs.Ytjkmmcbfcglkdaa
set_option linter.unusedVariables false
set_option autoImplicit false
set_option maxRecDepth 100000

theorem law (l : List AV) (h : OfL [.sl 1 (.int .i64)] l) : ∃ args', LeL l args' ∧ Pure Try.prog (fun _ => .any) 5 args' (.val (.bool true)) := by
  obtain ⟨a, rfl, h1⟩ := ofL1 h
  obtain ⟨xs, l1, hok, hn⟩ := of_list (fun a h => by
    obtain ⟨n, rfl, hn⟩ := of_i64 h
    exact ⟨n, LeA.refl _, hn⟩) h1
  have := maxLen_lt
  exact ⟨[encL I 1 xs], ⟨l1.le, trivial⟩, clears_spec xs hok (by omega)⟩

theorem contract (H : Type) (enc : TypeId × Value → H) (W : World) (base : Nat) (args : Array Value) (ds gs : List (DataW H)) (before : List MemPlace)
    (hval : ∀ (j : Nat) t v, Try.f5.params[j]? = some t → args[j]? = some v → Value.okWide Try.prog W .any base t v)
    (hW : DataW.Whole enc Try.prog Try.f5.params.toList Rows.backdateClearsSpec.vars false W args.toList ds gs before) :
    Calls Try.prog 5 args W fun e W' => ∃ v, e = .returned v ∧ Rows.backdateClearsSpec.post enc Try.prog Try.f5 false true false false W args v W' :=
  law_calls (tb := 4) (tys := [.sl 1 (.int .i64)]) laid (by kernel_rfl) (by kernel_rfl) (by kernel_rfl) (by kernel_rfl) rfl (fun ds h => by
    match ds, h with
    | [a], _ => rfl) law hval hW

theorem lifted (os : Os) (started : os.Started) (H : Type) (enc : TypeId × Value → H) :
    ReturnsInHanded {} Try.checked os 5 .any (Rows.backdateClearsSpec.pre6 enc Try.prog Try.f5 Rows.backdateClearsRow.domain false) (Rows.backdateClearsSpec.post enc Try.prog Try.f5 false true false false) := by
  refine returnsInHanded_of_change (C := Try.checked) own started (by kernel_rfl) Try.func5
    (ChangeSpec.witness6 (enc := enc) (C := Try.checked) false ⟨#[], #[.slice none 0 0], []⟩ 8 (by kernel_rfl) (by kernel_rfl) (by kernel_rfl) (by kernel_rfl)) ?_
  intro W base args ds gs before hval hW hcnd _
  exact contract H enc W base args ds gs before hval hW

theorem proved : Rows.BackdateClearsSaid :=
  OpenClaim.holds_of_wide 5 Try.f5 rfl rfl rfl rfl rfl rfl rfl ⟨rfl, rfl, rfl, rfl, rfl⟩ rfl rfl rfl rfl rfl (by kernel_rfl) Try.func5 (by kernel_rfl)
    (of_decide_eq_true (by kernel_rfl)) (by unfold Func.isWrapper; first | (rw [if_pos (by decide +kernel)]; kernel_rfl) | (rw [if_neg (by decide +kernel)]; exact ⟨rfl, rfl⟩))
    (fun os started H enc _ => lifted os started H enc)

end Go.Proofs.Ytjkmmcbfcglkdaa.clears
