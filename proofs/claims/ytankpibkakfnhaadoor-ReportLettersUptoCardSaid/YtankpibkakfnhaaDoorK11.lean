/- Decimal digits: how many a number has, what they are, and its text. No condition. -/
import Derived.Test.YtankpibkakfnhaaDoorK08
set_option linter.all false
namespace Ar
open Go
set_option linter.unusedVariables false
set_option autoImplicit false

/-- Digit number 'i' of a number that is told with 'L' digits. -/
def dgt (L u i : Nat) : Nat := u / 10 ^ (L - 1 - i) % 10
def ndgF : Nat → Nat → Nat
  | 0, _ => 1
  | f + 1, u => if u < 10 then 1 else ndgF f (u / 10) + 1
/-- How many digits. -/
def ndg (u : Nat) : Nat := ndgF 20 u
structure NdIs (u L : Nat) : Prop where
  pos : 1 ≤ L
  lt : u < 10 ^ L
  ge : L = 1 ∨ 10 ^ (L - 1) ≤ u

theorem ndgF_is : ∀ (f u : Nat), u < 10 ^ (f + 1) → NdIs u (ndgF f u)
  | 0, u, h => ⟨Nat.le_refl _, h, .inl rfl⟩
  | f + 1, u, h => by
    unfold ndgF
    by_cases c : u < 10
    · rw [if_pos c]; exact ⟨Nat.le_refl _, c, .inl rfl⟩
    · rw [if_neg c]
      have h1 : u / 10 < 10 ^ (f + 1) := by
        rw [Nat.pow_succ] at h
        exact Nat.div_lt_of_lt_mul (by rw [Nat.mul_comm]; exact h)
      obtain ⟨p1, p2, p3⟩ := ndgF_is f (u / 10) h1
      refine ⟨by omega, ?_, .inr ?_⟩
      · rw [Nat.pow_succ]; omega
      · rw [Nat.add_sub_cancel]
        rcases p3 with p3 | p3
        · rw [p3]; omega
        · have : 10 ^ ndgF f (u / 10) = 10 ^ (ndgF f (u / 10) - 1) * 10 := by rw [← Nat.pow_succ]; congr 1; omega
          rw [this]; omega

theorem ndg_is {u : Nat} (h : u < 18446744073709551616) : NdIs u (ndg u) := ndgF_is 20 u (Nat.lt_trans h (by decide))

theorem NdIs.uniq {u L M : Nat} (h : NdIs u L) (h' : NdIs u M) : L = M := by
  have key : ∀ {L M : Nat}, NdIs u L → NdIs u M → ¬ L < M := fun {L M} h h' hlt => by
    rcases h'.ge with e | e
    · have := h.pos; omega
    · have h1 := h.lt
      have h2 : 10 ^ L ≤ 10 ^ (M - 1) := Nat.pow_le_pow_right (by decide) (by omega)
      omega
  have h1 := key h h'
  have h2 := key h' h
  omega

theorem ndg_le {u : Nat} (h : u < 18446744073709551616) : ndg u ≤ 20 := by
  obtain ⟨h1, h2, h3⟩ := ndg_is h
  rcases h3 with h3 | h3
  · omega
  · apply Classical.byContradiction
    intro hn
    have : 10 ^ 20 ≤ 10 ^ (ndg u - 1) := Nat.pow_le_pow_right (by decide) (by omega)
    have h4 : (10 : Nat) ^ 20 = 100000000000000000000 := by decide
    omega

/-- The text. -/
def decB (L u : Nat) : ByteArray := strOfNums ((List.range L).map fun i => ((48 + dgt L u i : Nat) : Int))
def decT (u : Nat) : ByteArray := decB (ndg u) u

def smalls : ByteArray := ⟨#[48, 48, 48, 49, 48, 50, 48, 51, 48, 52, 48, 53, 48, 54, 48, 55, 48, 56, 48, 57, 49, 48, 49, 49, 49, 50, 49, 51, 49, 52, 49, 53, 49, 54, 49, 55, 49, 56, 49, 57, 50, 48, 50, 49, 50, 50, 50, 51, 50, 52, 50, 53, 50, 54, 50, 55, 50, 56, 50, 57, 51, 48, 51, 49, 51, 50, 51, 51, 51, 52, 51, 53, 51, 54, 51, 55, 51, 56, 51, 57, 52, 48, 52, 49, 52, 50, 52, 51, 52, 52, 52, 53, 52, 54, 52, 55, 52, 56, 52, 57, 53, 48, 53, 49, 53, 50, 53, 51, 53, 52, 53, 53, 53, 54, 53, 55, 53, 56, 53, 57, 54, 48, 54, 49, 54, 50, 54, 51, 54, 52, 54, 53, 54, 54, 54, 55, 54, 56, 54, 57, 55, 48, 55, 49, 55, 50, 55, 51, 55, 52, 55, 53, 55, 54, 55, 55, 55, 56, 55, 57, 56, 48, 56, 49, 56, 50, 56, 51, 56, 52, 56, 53, 56, 54, 56, 55, 56, 56, 56, 57, 57, 48, 57, 49, 57, 50, 57, 51, 57, 52, 57, 53, 57, 54, 57, 55, 57, 56, 57, 57]⟩
def digs : ByteArray := ⟨#[48, 49, 50, 51, 52, 53, 54, 55, 56, 57, 97, 98, 99, 100, 101, 102, 103, 104, 105, 106, 107, 108, 109, 110, 111, 112, 113, 114, 115, 116, 117, 118, 119, 120, 121, 122]⟩

theorem smalls_size : smalls.size = 200 := by decide +kernel
theorem digs_size : digs.size = 36 := by decide +kernel

theorem small1 : ∀ i : Fin 10, (digs.extract i.1 (i.1 + 1)).data = (decT i.1).data := by decide +kernel
theorem small2 : ∀ i : Fin 100, 10 ≤ i.1 → (smalls.extract (i.1 * 2) (i.1 * 2 + 2)).data = (decT i.1).data := by decide +kernel
theorem smalls_hi : ∀ i : Fin 100, bt smalls (i.1 * 2) = ((48 + i.1 / 10 : Nat) : Int) := by decide +kernel
theorem smalls_lo : ∀ i : Fin 100, bt smalls (i.1 * 2 + 1) = ((48 + i.1 % 10 : Nat) : Int) := by decide +kernel

theorem leO_lent {o r : Objs} {m k : Nat} {a b : AV} (hk : Nat.ble LENT k = true) (h : lookO k o = some (.box a)) (hab : LeA a b) (hb : bnd m b) (hr : LeO o m r) : LeO o m ((k, .box b) :: r) :=
  ⟨⟨.inr (Nat.le_of_ble_eq_true hk), ⟨a, h, hab⟩, hb⟩, hr⟩

theorem dgt_lt (L u i : Nat) : dgt L u i < 10 := Nat.mod_lt _ (by decide)

end Ar
