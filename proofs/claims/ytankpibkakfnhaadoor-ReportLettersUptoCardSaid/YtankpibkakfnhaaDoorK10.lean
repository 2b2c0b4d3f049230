/- A call that leaves all old memory as it was is a pure call, whatever tells of it. No condition. -/
import Derived.Test.YtankpibkakfnhaaDoorK09
import Derived.Below
set_option linter.all false
namespace Ar
open Go
set_option linter.unusedVariables false
set_option autoImplicit false

theorem pure_lib {P : Program} {gl : Nat → AV} {f : FuncId} {args : List AV} {r : AV} (ha : ∀ a ∈ args, nf a) (hr : nf r) (hgl : ∀ i, nf (gl i))
    (h : ∀ (G : Nat → Nat) (w : World) (cargs : List Value), (∀ i, (R ⟨fun _ => none, fun _ => none, G⟩ w (gl i)).v (.pointer (some ⟨i, 0, none⟩))) → RL ⟨fun _ => none, fun _ => none, G⟩ w args cargs →
      Calls P f cargs.toArray w fun x w' => ∃ u, x = .returned u ∧ Go.RowKit.Below w.heap.size w w' ∧ (R ⟨fun _ => none, fun _ => none, G⟩ w' r).v u) : Pure P gl f args r := by
  refine ⟨ha, hr, hgl, fun G w cargs h1 h2 h3 => (h G w cargs h2 h3).mono ?_⟩
  rintro x w' ⟨u, rfl, hb, hu⟩
  have hlt : ∀ b off, off < G b → b < w.heap.size := fun b off ho => by
    apply Classical.byContradiction
    intro hc
    have := h1 b (by omega)
    omega
  have hcell : ∀ b j, b < w.heap.size → w'.cell? ⟨b, j, none⟩ = w.cell? ⟨b, j, none⟩ := fun b j hlt => cell_old (hb.block b hlt)
  refine ⟨u, G, rfl, ⟨hb.size, fun b hlt _ => ⟨hb.block b hlt, rfl⟩, fun b ⟨k, x, hk, _⟩ => by simp [lookO] at hk, fun b off ho => hcell b off (hlt b off ho), fun _ => Nat.le_refl _, fun b cs ty hc => ⟨cs, by rw [cel_eq (hb.block b (lt_of_cel hc))]; exact hc, rfl⟩,
    fun b j hlt _ => hcell b j hlt, fun b j ⟨k, x, hk, _⟩ => by simp [lookO] at hk, fun _ _ => rfl, fun k ob N _ hr => ⟨ob, N, hr, Nat.le_refl _, fun _ => rfl⟩, hb.os, hb.output⟩, fun b hbig => h1 b (Nat.le_trans hb.size hbig), hu⟩

end Ar
