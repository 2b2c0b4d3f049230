/- Words for the doors of this seat's rows. No condition. -/
import Derived.Test.YtjkmmcbfcglkdaaSp3
import Derived.Test.YtjkmmcbfcglkdaaArP
import Derived.Test.YtjkmmcbfcglkdaaRows
import Derived.WalkKit
import Derived.ProofKit
namespace Go.Proofs.Ytjkmmcbfcglkdaa
open Go Ar
set_option linter.unusedVariables false
set_option autoImplicit false
set_option maxRecDepth 100000

def movT : Ty := .st (.cons (.int .i64) (.cons (.int .i64) (.cons (.st (.cons (.arr 12 1 (.int .i64)) .nil)) .nil)))

theorem of_i64 {a : AV} (h : Of (.int .i64) a) : ∃ n, a = I n ∧ in64 n := by
  obtain ⟨n, rfl, h1, h2⟩ := h
  have e1 : IntKind.i64.min = -9223372036854775808 := by decide
  have e2 : IntKind.i64.max = 9223372036854775807 := by decide
  exact ⟨n, rfl, by rw [← e1]; exact h1, by rw [← e2]; exact h2⟩

theorem of_mov {a : AV} (h : Of movT a) : ∃ m : Mov, LeA a (encM m) ∧ OkM m := by
  obtain ⟨_, rfl, _, _, rfl, h1, _, _, rfl, h2, _, _, rfl, ⟨_, rfl, _, _, rfl, ⟨f, rfl, hf⟩, rfl⟩, rfl⟩ := h
  obtain ⟨d, rfl, hd⟩ := of_i64 h1
  obtain ⟨k, rfl, hk⟩ := of_i64 h2
  have hc : ∀ i, ∃ n, i < 12 → f i = I n ∧ in64 n := fun i => by
    by_cases hi : i < 12
    · obtain ⟨n, h1, h2⟩ := of_i64 (hf i hi)
      exact ⟨n, fun _ => ⟨h1, h2⟩⟩
    · exact ⟨0, fun h => absurd h hi⟩
  exact ⟨⟨d, k, fun i => (hc i).choose⟩, LeA.st (LeA.cons (LeA.refl _) (LeA.cons (LeA.refl _) (LeA.cons (LeA.st (LeA.cons (LeA.arr fun i hi => LeA.of_eq ((hc i).choose_spec hi).1) (LeA.refl _))) (LeA.refl _)))),
    hd, fun i hi => ((hc i).choose_spec hi).2⟩

/-- A list that comes in is a list of things that come in. -/
theorem of_list {α : Type} [Inhabited α] {e : Nat} {t : Ty} {enc : α → AV} {ok : α → Prop} (hx : ∀ a, Of t a → ∃ m, LeA a (enc m) ∧ ok m) {a : AV} (h : Of (.sl e t) a) :
    ∃ xs : List α, LeA a (encL enc e xs) ∧ (∀ x ∈ xs, ok x) ∧ xs.length ≤ maxLen := by
  obtain ⟨n, f, rfl, hn, hf⟩ := h
  have hc : ∀ i, ∃ m, i < n → LeA (f i) (enc m) ∧ ok m := fun i => by
    by_cases hi : i < n
    · obtain ⟨m, h1, h2⟩ := hx _ (hf i hi)
      exact ⟨m, fun _ => ⟨h1, h2⟩⟩
    · exact ⟨default, fun h => absurd h hi⟩
  have hl : ((List.range n).map fun i => (hc i).choose).length = n := by simp
  refine ⟨(List.range n).map fun i => (hc i).choose, ?_, fun x hx => ?_, by rw [hl]; exact hn⟩
  · unfold encL encT
    rw [hl]
    refine LeA.lst (.inl rfl) fun i hi => ?_
    rw [at_lt (by rw [hl]; exact hi)]
    simpa using ((hc i).choose_spec hi).1
  · obtain ⟨i, hi, rfl⟩ := List.mem_map.1 hx
    exact ((hc i).choose_spec (by simpa using hi)).2

theorem ofL2 {s t : Ty} {l : List AV} (h : OfL [s, t] l) : ∃ a b, l = [a, b] ∧ Of s a ∧ Of t b := by
  cases l with
  | nil => exact h.elim
  | cons a l => cases l with
    | nil => exact h.2.elim
    | cons b l => cases l with
      | nil => exact ⟨a, b, rfl, h.1, h.2.1⟩
      | cons => exact h.2.2.elim

theorem maxLen_lt : maxLen < 9223372036854775808 := by decide

theorem ofL1 {t : Ty} {l : List AV} (h : OfL [t] l) : ∃ a, l = [a] ∧ Of t a := by
  cases l with
  | nil => exact h.elim
  | cons a l => cases l with
    | nil => exact ⟨a, rfl, h.1⟩
    | cons => exact h.2.elim

theorem ofL3 {s t u : Ty} {l : List AV} (h : OfL [s, t, u] l) : ∃ a b c, l = [a, b, c] ∧ Of s a ∧ Of t b ∧ Of u c := by
  cases l with
  | nil => exact h.elim
  | cons a l =>
    obtain ⟨b, c, rfl, h2, h3⟩ := ofL2 h.2
    exact ⟨a, b, c, rfl, h.1, h2, h3⟩

theorem laid : laidOutB Try.prog = true := by kernel_rfl
theorem own : ownKnob Try.prog.godebug = none := by kernel_rfl

end Go.Proofs.Ytjkmmcbfcglkdaa
