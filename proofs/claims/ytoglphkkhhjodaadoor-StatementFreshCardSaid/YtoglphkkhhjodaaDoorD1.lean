/- Decimal digits: how many a number has, what they are, and its text. No condition. -/
import Derived.Test.YtoglphkkhhjodaaDoorA7
set_option linter.all false
namespace Ar
open Go
set_option linter.unusedVariables false
set_option autoImplicit false

/-- Digit number 'i' of a number that is told with 'L' digits. -/
def dgt (L u i : Nat) : Nat := u / 10 ^ (L - 1 - i) % 10
def ndgF : Nat → Nat → Nat
  | 0, _ => 1
  | f + 1, u => if u < 10 then 1 else ndgF f (u / 10) + 1
/-- How many digits. -/
def ndg (u : Nat) : Nat := ndgF 20 u
structure NdIs (u L : Nat) : Prop where
  pos : 1 ≤ L
  lt : u < 10 ^ L
  ge : L = 1 ∨ 10 ^ (L - 1) ≤ u

theorem ndgF_is : ∀ (f u : Nat), u < 10 ^ (f + 1) → NdIs u (ndgF f u)
  | 0, u, h => ⟨Nat.le_refl _, h, .inl rfl⟩
  | f + 1, u, h => by
    unfold ndgF
    by_cases c : u < 10
    · rw [if_pos c]; exact ⟨Nat.le_refl _, c, .inl rfl⟩
    · rw [if_neg c]
      have h1 : u / 10 < 10 ^ (f + 1) := by
        rw [Nat.pow_succ] at h
        exact Nat.div_lt_of_lt_mul (by rw [Nat.mul_comm]; exact h)
      obtain ⟨p1, p2, p3⟩ := ndgF_is f (u / 10) h1
      refine ⟨by omega, ?_, .inr ?_⟩
      · rw [Nat.pow_succ]; omega
      · rw [Nat.add_sub_cancel]
        rcases p3 with p3 | p3
        · rw [p3]; omega
        · have : 10 ^ ndgF f (u / 10) = 10 ^ (ndgF f (u / 10) - 1) * 10 := by rw [← Nat.pow_succ]; congr 1; omega
          rw [this]; omega

theorem ndg_is {u : Nat} (h : u < 18446744073709551616) : NdIs u (ndg u) := ndgF_is 20 u (Nat.lt_trans h (by decide))

theorem NdIs.uniq {u L M : Nat} (h : NdIs u L) (h' : NdIs u M) : L = M := by
  have key : ∀ {L M : Nat}, NdIs u L → NdIs u M → ¬ L < M := fun {L M} h h' hlt => by
    rcases h'.ge with e | e
    · have := h.pos; omega
    · have h1 := h.lt
      have h2 : 10 ^ L ≤ 10 ^ (M - 1) := Nat.pow_le_pow_right (by decide) (by omega)
      omega
  have h1 := key h h'
  have h2 := key h' h
  omega

theorem ndg_le {u : Nat} (h : u < 18446744073709551616) : ndg u ≤ 20 := by
  obtain ⟨h1, h2, h3⟩ := ndg_is h
  rcases h3 with h3 | h3
  · omega
  · apply Classical.byContradiction
    intro hn
    have : 10 ^ 20 ≤ 10 ^ (ndg u - 1) := Nat.pow_le_pow_right (by decide) (by omega)
    have h4 : (10 : Nat) ^ 20 = 100000000000000000000 := by decide
    omega

/-- The text. -/
def decB (L u : Nat) : ByteArray := strOfNums ((List.range L).map fun i => ((48 + dgt L u i : Nat) : Int))
def decT (u : Nat) : ByteArray := decB (ndg u) u

def smalls : ByteArray := ⟨#[48, 48, 48, 49, 48, 50, 48, 51, 48, 52, 48, 53, 48, 54, 48, 55, 48, 56, 48, 57, 49, 48, 49, 49, 49, 50, 49, 51, 49, 52, 49, 53, 49, 54, 49, 55, 49, 56, 49, 57, 50, 48, 50, 49, 50, 50, 50, 51, 50, 52, 50, 53, 50, 54, 50, 55, 50, 56, 50, 57, 51, 48, 51, 49, 51, 50, 51, 51, 51, 52, 51, 53, 51, 54, 51, 55, 51, 56, 51, 57, 52, 48, 52, 49, 52, 50, 52, 51, 52, 52, 52, 53, 52, 54, 52, 55, 52, 56, 52, 57, 53, 48, 53, 49, 53, 50, 53, 51, 53, 52, 53, 53, 53, 54, 53, 55, 53, 56, 53, 57, 54, 48, 54, 49, 54, 50, 54, 51, 54, 52, 54, 53, 54, 54, 54, 55, 54, 56, 54, 57, 55, 48, 55, 49, 55, 50, 55, 51, 55, 52, 55, 53, 55, 54, 55, 55, 55, 56, 55, 57, 56, 48, 56, 49, 56, 50, 56, 51, 56, 52, 56, 53, 56, 54, 56, 55, 56, 56, 56, 57, 57, 48, 57, 49, 57, 50, 57, 51, 57, 52, 57, 53, 57, 54, 57, 55, 57, 56, 57, 57]⟩
def digs : ByteArray := ⟨#[48, 49, 50, 51, 52, 53, 54, 55, 56, 57, 97, 98, 99, 100, 101, 102, 103, 104, 105, 106, 107, 108, 109, 110, 111, 112, 113, 114, 115, 116, 117, 118, 119, 120, 121, 122]⟩

theorem smalls_size : smalls.size = 200 := by decide +kernel
theorem digs_size : digs.size = 36 := by decide +kernel

theorem small1 : ∀ i : Fin 10, (digs.extract i.1 (i.1 + 1)).data = (decT i.1).data := by decide +kernel
theorem small2 : ∀ i : Fin 100, 10 ≤ i.1 → (smalls.extract (i.1 * 2) (i.1 * 2 + 2)).data = (decT i.1).data := by decide +kernel
theorem smalls_hi : ∀ i : Fin 100, bt smalls (i.1 * 2) = ((48 + i.1 / 10 : Nat) : Int) := by decide +kernel
theorem smalls_lo : ∀ i : Fin 100, bt smalls (i.1 * 2 + 1) = ((48 + i.1 % 10 : Nat) : Int) := by decide +kernel

theorem leO_lent {o r : Objs} {m k : Nat} {a b : AV} (hk : Nat.ble LENT k = true) (h : lookO k o = some (.box a)) (hab : LeA a b) (hb : bnd m b) (hr : LeO o m r) : LeO o m ((k, .box b) :: r) :=
  ⟨⟨.inr (Nat.le_of_ble_eq_true hk), ⟨a, h, hab⟩, hb⟩, hr⟩

theorem dgt_lt (L u i : Nat) : dgt L u i < 10 := Nat.mod_lt _ (by decide)

end Ar
namespace Ar
open Go
set_option linter.unusedVariables false
set_option autoImplicit false

/-- One in a leap year. -/
def lpN (y : Nat) : Nat := if y % 4 = 0 ∧ (y % 100 ≠ 0 ∨ y % 400 = 0) then 1 else 0
/-- The days of that many years. -/
def SB (y : Nat) : Nat := 365 * y + y / 4 - y / 100 + y / 400
theorem lpN_le (y : Nat) : lpN y ≤ 1 := by unfold lpN; split <;> omega
theorem SB_s (y : Nat) : SB (y + 1) = SB y + 365 + lpN (y + 1) := by
  have a4 : (y + 1) / 4 = y / 4 + (if (y + 1) % 4 = 0 then 1 else 0) := by split <;> omega
  have a100 : (y + 1) / 100 = y / 100 + (if (y + 1) % 100 = 0 then 1 else 0) := by split <;> omega
  have a400 : (y + 1) / 400 = y / 400 + (if (y + 1) % 400 = 0 then 1 else 0) := by split <;> omega
  have b1 : (y + 1) % 100 = 0 → (y + 1) % 4 = 0 := by omega
  have b2 : (y + 1) % 400 = 0 → (y + 1) % 100 = 0 := by omega
  have b3 : y / 100 ≤ y / 4 := by omega
  unfold SB lpN
  rw [a4, a100, a400]
  generalize y / 4 = p at b3 ⊢
  generalize y / 100 = q at b3 ⊢
  generalize y / 400 = r
  by_cases c1 : (y + 1) % 4 = 0
  · by_cases c2 : (y + 1) % 100 = 0
    · by_cases c3 : (y + 1) % 400 = 0
      · simp only [c1, c2, c3]
        simp
        omega
      · simp [c1, c2, c3]
        omega
    · have c3 : ¬ (y + 1) % 400 = 0 := fun h => c2 (b2 h)
      simp [c1, c2, c3]
      omega
  · have c2 : ¬ (y + 1) % 100 = 0 := fun h => c1 (b1 h)
    have c3 : ¬ (y + 1) % 400 = 0 := fun h => c2 (b2 h)
    simp [c1, c2, c3]
    omega
theorem SB_mono {a b : Nat} (h : a ≤ b) : SB a ≤ SB b := by
  obtain ⟨k, rfl⟩ := Nat.le.dest h
  clear h
  induction k with
  | zero => exact Nat.le_refl _
  | succ k ih => exact Nat.le_trans ih (by rw [← Nat.add_assoc, SB_s]; omega)

def ahN (m : Nat) : Nat := [0, 31, 59, 90, 120, 151, 181, 212, 243, 273, 304, 334, 365].getD m 0
/-- The days of a year ahead of a month. -/
def cm (l m : Nat) : Nat := ahN (m - 1) + if 2 < m then l else 0
theorem cm_s {l m : Nat} (hl : l ≤ 1) (h1 : 1 ≤ m) (h2 : m ≤ 12) : cm l m + 28 ≤ cm l (m + 1) ∧ cm l (m + 1) ≤ cm l m + 31 := by
  rcases (show l = 0 ∨ l = 1 by omega) with rfl | rfl <;>
    rcases (show m = 1 ∨ m = 2 ∨ m = 3 ∨ m = 4 ∨ m = 5 ∨ m = 6 ∨ m = 7 ∨ m = 8 ∨ m = 9 ∨ m = 10 ∨ m = 11 ∨ m = 12 by omega) with rfl | rfl | rfl | rfl | rfl | rfl | rfl | rfl | rfl | rfl | rfl | rfl <;> decide
theorem cm_mono {l m n : Nat} (hl : l ≤ 1) (h1 : 1 ≤ m) (h : m ≤ n) (h2 : n ≤ 13) : cm l m ≤ cm l n := by
  obtain ⟨k, rfl⟩ := Nat.le.dest h
  clear h
  induction k with
  | zero => exact Nat.le_refl _
  | succ k ih => exact Nat.le_trans (ih (by omega)) (by have := (cm_s hl (show 1 ≤ m + k by omega) (by omega)).1; rw [← Nat.add_assoc]; omega)
theorem cm_1 (l : Nat) : cm l 1 = 0 := rfl
theorem cm_13 (l : Nat) : cm l 13 = 365 + l := rfl

/-- The date of a day. -/
structure DtIs (day y m d : Nat) : Prop where
  y1 : 1 ≤ y
  m1 : 1 ≤ m
  m2 : m ≤ 12
  d1 : 1 ≤ d
  d2 : cm (lpN y) m + d ≤ cm (lpN y) (m + 1)
  h : SB (y - 1) + cm (lpN y) m + d = day

theorem DtIs.yle {day y m d y' m' d' : Nat} (a : DtIs day y m d) (b : DtIs day y' m' d') : ¬ y < y' := fun hlt => by
  have h1 := SB_s (y - 1)
  rw [Nat.sub_add_cancel a.y1] at h1
  have h2 : SB y ≤ SB (y' - 1) := SB_mono (by omega)
  have h3 := cm_mono (lpN_le y) (show 1 ≤ m + 1 by omega) (show m + 1 ≤ 13 by have := a.m2; omega) (Nat.le_refl _)
  rw [cm_13] at h3
  have := a.d2; have := a.h; have := b.h; have := b.d1
  omega

theorem DtIs.uniq {day y m d y' m' d' : Nat} (a : DtIs day y m d) (b : DtIs day y' m' d') : y = y' ∧ m = m' ∧ d = d' := by
  have e : y = y' := by
    have := a.yle b
    have := b.yle a
    omega
  subst e
  have key : ∀ {m d m' d'}, DtIs day y m d → DtIs day y m' d' → ¬ m < m' := fun {m d m' d'} a b hlt => by
    have h1 := cm_mono (lpN_le y) (show 1 ≤ m + 1 by omega) (show m + 1 ≤ m' by omega) (by have := b.m2; omega)
    have := a.d2; have := a.h; have := b.h; have := b.d1
    omega
  have e : m = m' := by
    have := key a b
    have := key b a
    omega
  subst e
  have := a.h; have := b.h
  exact ⟨rfl, rfl, by omega⟩

theorem DtIs.y2 {day y m d : Nat} (a : DtIs day y m d) (hd : day ≤ 3652059) : y ≤ 9999 := by
  apply Classical.byContradiction
  intro hn
  have h1 : SB 9999 ≤ SB (y - 1) := SB_mono (by omega)
  have h2 : SB 9999 = 3652059 := rfl
  have := a.h; have := a.d1
  omega
theorem DtIs.d3 {day y m d : Nat} (a : DtIs day y m d) : d ≤ 31 := by
  have := (cm_s (lpN_le y) a.m1 a.m2).2
  have := a.d2
  omega

/-- The year of a day by divisions. -/
theorem civ_y {n c r1 h r2 f r3 o r4 : Nat} (hc : c = n / 146097) (hr1 : r1 = n % 146097) (hh : h = min (r1 / 36524) 3) (hr2 : r2 = r1 - h * 36524) (hf : f = r2 / 1461) (hr3 : r3 = r2 % 1461) (ho : o = min (r3 / 365) 3) (hr4 : r4 = r3 - o * 365) :
    SB (400 * c + 100 * h + 4 * f + o) + r4 = n ∧ r4 < 365 + lpN (400 * c + 100 * h + 4 * f + o + 1) ∧ h ≤ 3 ∧ o ≤ 3 ∧ h * 36524 ≤ r1 ∧ o * 365 ≤ r3 := by
  have h1 : h ≤ 3 ∧ h * 36524 ≤ r1 ∧ r2 ≤ 36524 ∧ (h < 3 → r2 < 36524) := by omega
  have h2 : o ≤ 3 ∧ o * 365 ≤ r3 ∧ r4 ≤ 365 ∧ (o < 3 → r4 < 365) := by omega
  have h3 : f ≤ 24 ∧ r2 = 1461 * f + r3 := by omega
  have h4 : n = 146097 * c + r1 := by omega
  refine ⟨?_, ?_, h1.1, h2.1, h1.2.1, h2.2.1⟩
  · have e1 : (400 * c + 100 * h + 4 * f + o) / 4 = 100 * c + 25 * h + f := by omega
    have e2 : (400 * c + 100 * h + 4 * f + o) / 100 = 4 * c + h := by omega
    have e3 : (400 * c + 100 * h + 4 * f + o) / 400 = c := by omega
    unfold SB
    rw [e1, e2, e3]
    omega
  · apply Classical.byContradiction
    intro hn
    have e : o = 3 ∧ r4 = 365 := by omega
    have hl : lpN (400 * c + 100 * h + 4 * f + o + 1) = 1 := by
      unfold lpN
      refine if_pos ⟨by omega, ?_⟩
      by_cases hx : f = 24
      · right
        have : r3 = 1460 := by omega
        have : h = 3 := by omega
        omega
      · left
        omega
    omega

end Ar
