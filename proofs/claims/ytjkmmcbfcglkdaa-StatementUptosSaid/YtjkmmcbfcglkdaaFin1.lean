/- The statement StatementUptos. -/
import Derived.Test.YtjkmmcbfcglkdaaSp5
import Derived.Test.YtjkmmcbfcglkdaaArP
import Derived.Test.YtjkmmcbfcglkdaaRows
import Derived.WalkKit
import Derived.ProofKit
namespace Go.Proofs.Ytjkmmcbfcglkdaa.uptos
open Go Ar Go.Proofs.Ytjkmmcbfcglkdaa
set_option linter.unusedVariables false
set_option autoImplicit false
set_option maxRecDepth 100000

def movT : Ty := .st (.cons (.int .i64) (.cons (.int .i64) (.cons (.st (.cons (.arr 12 1 (.int .i64)) .nil)) .nil)))

theorem of_i64 {a : AV} (h : Of (.int .i64) a) : ∃ n, a = I n ∧ in64 n := by
  obtain ⟨n, rfl, h1, h2⟩ := h
  have e1 : IntKind.i64.min = -9223372036854775808 := by decide
  have e2 : IntKind.i64.max = 9223372036854775807 := by decide
  exact ⟨n, rfl, by rw [← e1]; exact h1, by rw [← e2]; exact h2⟩

theorem of_mov {a : AV} (h : Of movT a) : ∃ m : Mov, LeA a (encM m) ∧ OkM m := by
  obtain ⟨_, rfl, _, _, rfl, h1, _, _, rfl, h2, _, _, rfl, ⟨_, rfl, _, _, rfl, ⟨f, rfl, hf⟩, rfl⟩, rfl⟩ := h
  obtain ⟨d, rfl, hd⟩ := of_i64 h1
  obtain ⟨k, rfl, hk⟩ := of_i64 h2
  have hc : ∀ i, ∃ n, i < 12 → f i = I n ∧ in64 n := fun i => by
    by_cases hi : i < 12
    · obtain ⟨n, h1, h2⟩ := of_i64 (hf i hi)
      exact ⟨n, fun _ => ⟨h1, h2⟩⟩
    · exact ⟨0, fun h => absurd h hi⟩
  exact ⟨⟨d, k, fun i => (hc i).choose⟩, LeA.st (LeA.cons (LeA.refl _) (LeA.cons (LeA.refl _) (LeA.cons (LeA.st (LeA.cons (LeA.arr fun i hi => LeA.of_eq ((hc i).choose_spec hi).1) (LeA.refl _))) (LeA.refl _)))),
    hd, fun i hi => ((hc i).choose_spec hi).2⟩

/-- A list that comes in is a list of things that come in. -/
theorem of_list {α : Type} [Inhabited α] {e : Nat} {t : Ty} {enc : α → AV} {ok : α → Prop} (hx : ∀ a, Of t a → ∃ m, LeA a (enc m) ∧ ok m) {a : AV} (h : Of (.sl e t) a) :
    ∃ xs : List α, LeA a (encL enc e xs) ∧ (∀ x ∈ xs, ok x) ∧ xs.length ≤ maxLen := by
  obtain ⟨n, f, rfl, hn, hf⟩ := h
  have hc : ∀ i, ∃ m, i < n → LeA (f i) (enc m) ∧ ok m := fun i => by
    by_cases hi : i < n
    · obtain ⟨m, h1, h2⟩ := hx _ (hf i hi)
      exact ⟨m, fun _ => ⟨h1, h2⟩⟩
    · exact ⟨default, fun h => absurd h hi⟩
  have hl : ((List.range n).map fun i => (hc i).choose).length = n := by simp
  refine ⟨(List.range n).map fun i => (hc i).choose, ?_, fun x hx => ?_, by rw [hl]; exact hn⟩
  · unfold encL encT
    rw [hl]
    refine LeA.lst (.inl rfl) fun i hi => ?_
    rw [at_lt (by rw [hl]; exact hi)]
    simpa using ((hc i).choose_spec hi).1
  · obtain ⟨i, hi, rfl⟩ := List.mem_map.1 hx
    exact ((hc i).choose_spec (by simpa using hi)).2

theorem ofL2 {s t : Ty} {l : List AV} (h : OfL [s, t] l) : ∃ a b, l = [a, b] ∧ Of s a ∧ Of t b := by
  cases l with
  | nil => exact h.elim
  | cons a l => cases l with
    | nil => exact h.2.elim
    | cons b l => cases l with
      | nil => exact ⟨a, b, rfl, h.1, h.2.1⟩
      | cons => exact h.2.2.elim

theorem maxLen_lt : maxLen < 9223372036854775808 := by decide

theorem law (l : List AV) (h : OfL [.sl 14 movT, .int .i64] l) : ∃ args', LeL l args' ∧ Pure Try.prog (fun _ => .any) 3 args' (.val (.bool true)) := by
  obtain ⟨a, b, rfl, h1, h2⟩ := ofL2 h
  obtain ⟨xs, l1, hok, hn⟩ := of_list (fun a => of_mov) h1
  obtain ⟨d, rfl, hd⟩ := of_i64 h2
  have := maxLen_lt
  exact ⟨[encL encM 14 xs, I d], ⟨l1.le, Le.refl _, trivial⟩, law_spec xs d hd hok (by omega)⟩

theorem laid : laidOutB Try.prog = true := by kernel_rfl
theorem own : ownKnob Try.prog.godebug = none := by kernel_rfl

theorem contract (H : Type) (enc : TypeId × Value → H) (W : World) (base : Nat) (args : Array Value) (ds gs : List (DataW H)) (before : List MemPlace)
    (hval : ∀ (j : Nat) t v, Try.f3.params[j]? = some t → args[j]? = some v → Value.okWide Try.prog W .any base t v)
    (hW : DataW.Whole enc Try.prog Try.f3.params.toList Rows.statementUptosSpec.vars false W args.toList ds gs before) :
    Calls Try.prog 3 args W fun e W' => ∃ v, e = .returned v ∧ Rows.statementUptosSpec.post enc Try.prog Try.f3 false true false false W args v W' :=
  law_calls (tb := 4) (tys := [.sl 14 movT, .int .i64]) laid (by kernel_rfl) (by kernel_rfl) (by kernel_rfl) (by kernel_rfl) rfl (fun ds h => by
    match ds, h with
    | [a, b], _ => rfl) law hval hW

theorem lifted (os : Os) (started : os.Started) (H : Type) (enc : TypeId × Value → H) :
    ReturnsInHanded {} Try.checked os 3 .any (Rows.statementUptosSpec.pre6 enc Try.prog Try.f3 Rows.statementUptosRow.domain false) (Rows.statementUptosSpec.post enc Try.prog Try.f3 false true false false) := by
  refine returnsInHanded_of_change (C := Try.checked) own started (by kernel_rfl) Try.func3
    (ChangeSpec.witness6 (enc := enc) (C := Try.checked) false ⟨#[], #[.slice none 0 0, .int .i64 0], []⟩ 8 (by kernel_rfl) (by kernel_rfl) (by kernel_rfl) (by kernel_rfl)) ?_
  intro W base args ds gs before hval hW hcnd _
  exact contract H enc W base args ds gs before hval hW

theorem proved : Rows.StatementUptosSaid :=
  OpenClaim.holds_of_wide 3 Try.f3 rfl rfl rfl rfl rfl rfl rfl ⟨rfl, rfl, rfl, rfl, rfl⟩ rfl rfl rfl rfl rfl (by kernel_rfl) Try.func3 (by kernel_rfl)
    (of_decide_eq_true (by kernel_rfl)) (by unfold Func.isWrapper; first | (rw [if_pos (by decide +kernel)]; kernel_rfl) | (rw [if_neg (by decide +kernel)]; exact ⟨rfl, rfl⟩))
    (fun os started H enc _ => lifted os started H enc)

end Go.Proofs.Ytjkmmcbfcglkdaa.uptos
