/- The statement BackdateEntries. No condition. -/
import Derived.Test.YtjkmmcbfcglkdaaEn3
import Derived.Test.YtjkmmcbfcglkdaaFinC
namespace Go.Proofs.Ytjkmmcbfcglkdaa.entries
open Go Ar Go.Proofs.Ytjkmmcbfcglkdaa
set_option linter.unusedVariables false
set_option autoImplicit false
set_option maxRecDepth 100000

theorem of_book {a : AV} (h : Of (.st (.cons (.arr 12 1 (.int .i64)) .nil)) a) : ∃ b : Nat → Int, LeA a (encB b) ∧ OkB b := by
  obtain ⟨_, rfl, _, _, rfl, ⟨f, rfl, hf⟩, rfl⟩ := h
  have hc : ∀ i, ∃ n, i < 12 → f i = I n ∧ in64 n := fun i => by
    by_cases hi : i < 12
    · obtain ⟨n, h1, h2⟩ := of_i64 (hf i hi)
      exact ⟨n, fun _ => ⟨h1, h2⟩⟩
    · exact ⟨0, fun h => absurd h hi⟩
  exact ⟨fun i => (hc i).choose, LeA.st (LeA.cons (LeA.arr fun i hi => LeA.of_eq ((hc i).choose_spec hi).1) (LeA.refl _)), fun i hi => ((hc i).choose_spec hi).2⟩

theorem law (l : List AV) (h : OfL [.st (.cons (.arr 12 1 (.int .i64)) .nil)] l) : ∃ args', LeL l args' ∧ Pure Try.prog (fun _ => .any) 4 args' (.val (.bool true)) := by
  obtain ⟨a, rfl, h1⟩ := ofL1 h
  obtain ⟨b, l1, hok⟩ := of_book h1
  exact ⟨[encB b], ⟨l1.le, trivial⟩, backdate_entries_spec b hok⟩

theorem contract (H : Type) (enc : TypeId × Value → H) (W : World) (base : Nat) (args : Array Value) (ds gs : List (DataW H)) (before : List MemPlace)
    (hval : ∀ (j : Nat) t v, Try.f4.params[j]? = some t → args[j]? = some v → Value.okWide Try.prog W .any base t v)
    (hW : DataW.Whole enc Try.prog Try.f4.params.toList Rows.backdateEntriesSpec.vars false W args.toList ds gs before) :
    Calls Try.prog 4 args W fun e W' => ∃ v, e = .returned v ∧ Rows.backdateEntriesSpec.post enc Try.prog Try.f4 false true false false W args v W' :=
  law_calls (tb := 4) (tys := [.st (.cons (.arr 12 1 (.int .i64)) .nil)]) laid (by kernel_rfl) (by kernel_rfl) (by kernel_rfl) (by kernel_rfl) rfl (fun ds h => by
    match ds, h with
    | [a], _ => rfl) law hval hW

theorem lifted (os : Os) (started : os.Started) (H : Type) (enc : TypeId × Value → H) :
    ReturnsInHanded {} Try.checked os 4 .any (Rows.backdateEntriesSpec.pre6 enc Try.prog Try.f4 Rows.backdateEntriesRow.domain false) (Rows.backdateEntriesSpec.post enc Try.prog Try.f4 false true false false) := by
  refine returnsInHanded_of_change (C := Try.checked) own started (by kernel_rfl) Try.func4
    (ChangeSpec.witness6 (enc := enc) (C := Try.checked) false ⟨#[], #[.agg #[.int .i64 0, .int .i64 0, .int .i64 0, .int .i64 0, .int .i64 0, .int .i64 0, .int .i64 0, .int .i64 0, .int .i64 0, .int .i64 0, .int .i64 0, .int .i64 0]], []⟩ 8 (by kernel_rfl) (by kernel_rfl) (by kernel_rfl) (by kernel_rfl)) ?_
  intro W base args ds gs before hval hW hcnd _
  exact contract H enc W base args ds gs before hval hW

theorem proved : Rows.BackdateEntriesSaid :=
  OpenClaim.holds_of_wide 4 Try.f4 rfl rfl rfl rfl rfl rfl rfl ⟨rfl, rfl, rfl, rfl, rfl⟩ rfl rfl rfl rfl rfl (by kernel_rfl) Try.func4 (by kernel_rfl)
    (of_decide_eq_true (by kernel_rfl)) (by unfold Func.isWrapper; first | (rw [if_pos (by decide +kernel)]; kernel_rfl) | (rw [if_neg (by decide +kernel)]; exact ⟨rfl, rfl⟩))
    (fun os started H enc _ => lifted os started H enc)

end Go.Proofs.Ytjkmmcbfcglkdaa.entries
