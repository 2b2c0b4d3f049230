/- What the statement's walk shares. No condition. -/
import Derived.Test.YtaomkjcclcgdlaaGreatDoorL9
import Derived.Test.YtaomkjcclcgdlaaGreatDoorK7
import Derived.Test.YtaomkjcclcgdlaaGreatDoorM1
set_option linter.all false
namespace Go.Proofs.YtaomkjcclcgdlaaGreatDoor
open Go Ar
set_option linter.unusedVariables false
set_option autoImplicit false
set_option maxHeartbeats 4000000
set_option maxRecDepth 100000

theorem hasI_of {p : Pol} (h : rng (encPol p)) : hasI p := by
  have h1 : p.holidays.length ≤ 9223372036854775807 := h.2.2.2.2.2.2.2.2.2.2.2.2.2.2.2.2.2.1.1
  unfold hasI
  omega

theorem rng_at {α : Type} [Inhabited α] {enc : α → AV} {e : Nat} {xs : List α} (h : rng (encL enc e xs)) {i : Nat} (hi : i < xs.length) : rng (enc (at_ xs i)) := (h.2 i hi).2

abbrev QBeh (p : Pol) : AV → Prop := fun r => ∃ s, r = encStt s ∧ okS 20000000000 s ∧ rng (encStt s) ∧ (chk p = (0, 0) ∨ s.loans = [])

theorem chk_0 {p : Pol} (h : (chk p).1 = 0) : chk p = (0, 0) := by
  unfold chk at h ⊢
  split
  · rename_i h1; rw [h1] at h; cases h
  · rfl

theorem okS0 (b : Nat) (n : Int) : okS b ⟨n, [], []⟩ := ⟨Nat.zero_le _, fun x hx => (by cases hx), Nat.zero_le _, List.Pairwise.nil⟩

theorem leZS : LeA zStt (encStt ⟨0, [], []⟩) := LeA.st (LeA.cons (LeA.refl _) (LeA.cons leA_nilL (LeA.cons leA_nilL (LeA.refl _))))
theorem rngS0 {n : Int} (h : in64 n) : rng (encStt ⟨n, [], []⟩) := ⟨okI_i64.2 h, ⟨Nat.zero_le _, fun i hi => absurd hi (Nat.not_lt_zero i)⟩, ⟨Nat.zero_le _, fun i hi => absurd hi (Nat.not_lt_zero i)⟩, trivial⟩

end Go.Proofs.YtaomkjcclcgdlaaGreatDoor
