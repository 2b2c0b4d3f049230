/- The statement StatementCuts. No condition. -/
import Derived.Test.YtjkmmcbfcglkdaaCu2
import Derived.Test.YtjkmmcbfcglkdaaFinC
namespace Go.Proofs.Ytjkmmcbfcglkdaa.cuts
open Go Ar Go.Proofs.Ytjkmmcbfcglkdaa
set_option linter.unusedVariables false
set_option autoImplicit false
set_option maxRecDepth 100000

theorem law (l : List AV) (h : OfL [.sl 14 movT, .int .i64, .int .i64] l) : ∃ args', LeL l args' ∧ Pure Try.prog (fun _ => .any) 6 args' (.val (.bool true)) := by
  obtain ⟨a, b, c, rfl, h1, h2, h3⟩ := ofL3 h
  obtain ⟨xs, l1, hok, hn⟩ := of_list (fun a => of_mov) h1
  obtain ⟨u, rfl, hu⟩ := of_i64 h2
  obtain ⟨v, rfl, hv⟩ := of_i64 h3
  have := maxLen_lt
  exact ⟨[encL encM 14 xs, I u, I v], ⟨l1.le, Le.refl _, Le.refl _, trivial⟩, cuts_spec xs u v hu hv hok (by omega)⟩

theorem contract (H : Type) (enc : TypeId × Value → H) (W : World) (base : Nat) (args : Array Value) (ds gs : List (DataW H)) (before : List MemPlace)
    (hval : ∀ (j : Nat) t v, Try.f6.params[j]? = some t → args[j]? = some v → Value.okWide Try.prog W .any base t v)
    (hW : DataW.Whole enc Try.prog Try.f6.params.toList Rows.statementCutsSpec.vars false W args.toList ds gs before) :
    Calls Try.prog 6 args W fun e W' => ∃ v, e = .returned v ∧ Rows.statementCutsSpec.post enc Try.prog Try.f6 false true false false W args v W' :=
  law_calls (tb := 4) (tys := [.sl 14 movT, .int .i64, .int .i64]) laid (by kernel_rfl) (by kernel_rfl) (by kernel_rfl) (by kernel_rfl) rfl (fun ds h => by
    match ds, h with
    | [a, b, c], _ => rfl) law hval hW

theorem lifted (os : Os) (started : os.Started) (H : Type) (enc : TypeId × Value → H) :
    ReturnsInHanded {} Try.checked os 6 .any (Rows.statementCutsSpec.pre6 enc Try.prog Try.f6 Rows.statementCutsRow.domain false) (Rows.statementCutsSpec.post enc Try.prog Try.f6 false true false false) := by
  refine returnsInHanded_of_change (C := Try.checked) own started (by kernel_rfl) Try.func6
    (ChangeSpec.witness6 (enc := enc) (C := Try.checked) false ⟨#[], #[.slice none 0 0, .int .i64 0, .int .i64 0], []⟩ 8 (by kernel_rfl) (by kernel_rfl) (by kernel_rfl) (by kernel_rfl)) ?_
  intro W base args ds gs before hval hW hcnd _
  exact contract H enc W base args ds gs before hval hW

theorem proved : Rows.StatementCutsSaid :=
  OpenClaim.holds_of_wide 6 Try.f6 rfl rfl rfl rfl rfl rfl rfl ⟨rfl, rfl, rfl, rfl, rfl⟩ rfl rfl rfl rfl rfl (by kernel_rfl) Try.func6 (by kernel_rfl)
    (of_decide_eq_true (by kernel_rfl)) (by unfold Func.isWrapper; first | (rw [if_pos (by decide +kernel)]; kernel_rfl) | (rw [if_neg (by decide +kernel)]; exact ⟨rfl, rfl⟩))
    (fun os started H enc _ => lifted os started H enc)

end Go.Proofs.Ytjkmmcbfcglkdaa.cuts
