/- What the small functions compute: sums in 128 bits, sums in two halves. -/
import Derived.Test.YtjkmmcbfcglkdaaArO
import Derived.Test.YtjkmmcbfcglkdaaIc1
namespace Go.Proofs.Ytjkmmcbfcglkdaa
open Go Ar
set_option linter.unusedVariables false
set_option autoImplicit false

def gl0 : Nat → AV := fun _ => .any
theorem gl0n : ∀ i, nf (gl0 i) := fun _ => trivial
theorem mixed : Try.prog.follows .mixedOrders = true := by kernel_rfl

def wide (h l : Int) : AV := .st (.cons (U h) (.cons (U l) .nil))

/-- A sum, in 128 bits. -/
def W (S : Int) : AV := wide ((S / 18446744073709551616) % 18446744073709551616) (S % 18446744073709551616)

theorem add64 {x y c : Int} (hx : 0 ≤ x) (hy : 0 ≤ y) (hc0 : 0 ≤ c) (hc : c ≤ 1) :
    XPure Try.prog 51 [U x, U y, U c] (.tup (.cons (U ((x + y + c) % 18446744073709551616)) (.cons (U ((x + y + c) / 18446744073709551616)) .nil))) :=
  xpure_add64 Try.func51 (by kernel_rfl) (by kernel_rfl) (by kernel_rfl) (by kernel_rfl) hx hy hc0 hc

instance (n : Int) : Decidable (in64 n) := by unfold in64; infer_instance

theorem wide_eq {h l h' l' : Int} (a : h = h') (b : l = l') : wide h l = wide h' l' := by rw [a, b]

theorem shr63 {x : Int} (hx : in64 x) : IntKind.u64.wrap (x.fdiv (2 ^ min (Int.toNat 63) IntKind.i64.bits)) = if x < 0 then 18446744073709551615 else 0 := by
  obtain ⟨h1, h2⟩ := hx
  have : (2 : Int) ^ min (Int.toNat 63) IntKind.i64.bits = 9223372036854775808 := by decide
  rw [this, Int.fdiv_eq_ediv_of_nonneg _ (by omega), wrap_u64]
  split <;> omega

theorem plus_spec (S x : Int) (hx : in64 x) : Pure Try.prog gl0 36 [W S, I x] (W (S + x)) := by
  refine pure_fn mixed Try.func36 Try.ntmps36 hc36 (by simp) gl0n (by simp [W, wide, nf]) (by simp [W, wide, nf]) ?_
  have hu : IntKind.u64.wrap x = x % 18446744073709551616 := wrap_u64 x
  have hs := shr63 hx
  conv => whnf
  refine call_x (add64 (by omega) (by omega) (by omega) (by omega)) ?_
  conv => whnf
  refine ⟨by decide, ?_⟩
  conv => whnf
  refine call_x (add64 (by omega) (by rw [hs]; split <;> omega) (by omega) (by omega)) ?_
  conv => whnf
  refine Le.of_eq (wide_eq ?_ ?_)
  · rw [hs, hu]; obtain ⟨h1, h2⟩ := hx; split <;> omega
  · rw [hu]; omega

theorem cents_spec (S : Int) (hS : -170141183460469231731687303715884105728 ≤ S ∧ S < 170141183460469231731687303715884105728) : Pure Try.prog gl0 37 [W S] (.tup (.cons (I (IntKind.i64.wrap S)) (.cons (B (decide (in64 S))) .nil))) := by
  refine pure_fn mixed Try.func37 Try.ntmps37 hc37 (by simp) gl0n (by simp [W, wide, nf]) (by simp [nf]) ?_
  have hs := shr63 (wrap_in (S % 18446744073709551616))
  have hw : IntKind.i64.wrap (S % 18446744073709551616) = IntKind.i64.wrap S := by simp only [wrap_i64]; split <;> split <;> omega
  have hd : decide (IntKind.u64.wrap ((IntKind.i64.wrap (S % 18446744073709551616)).fdiv (2 ^ min (Int.toNat 63) IntKind.i64.bits)) = S / 18446744073709551616 % 18446744073709551616) = decide (in64 S) := by
    rw [hs]
    congr 1
    unfold in64
    rw [hw, wrap_i64]
    apply propext
    split <;> split <;> omega
  conv => whnf
  refine ⟨by decide, ?_⟩
  conv => whnf
  refine Le.of_eq ?_
  rw [← hw, ← hd]
  rfl

theorem high_spec (x : Int) : Pure Try.prog gl0 52 [I x] (I (x / 4294967296)) := by
  refine pure_fn mixed Try.func52 Try.ntmps52 hc52 (by simp) gl0n (by simp [nf]) (by simp [nf]) ?_
  conv => whnf
  refine ⟨by decide, ?_⟩
  conv => whnf
  refine Le.of_eq ?_
  have : (2 : Int) ^ min (Int.toNat 32) IntKind.i64.bits = 4294967296 := by decide
  show I (x.fdiv (2 ^ min (Int.toNat 32) IntKind.i64.bits)) = _
  rw [this, Int.fdiv_eq_ediv_of_nonneg _ (by omega)]

theorem low_spec (x : Int) (hx : in64 x) : Pure Try.prog gl0 53 [I x] (I (x % 4294967296)) := by
  refine pure_fn mixed Try.func53 Try.ntmps53 hc53 (by simp) gl0n (by simp [nf]) (by simp [nf]) ?_
  conv => whnf
  refine call_pure (high_spec x) (LeL.refl _) ?_
  conv => whnf
  refine Le.of_eq ?_
  obtain ⟨h1, h2⟩ := hx
  show I (IntKind.i64.wrap (x - IntKind.i64.wrap (x / 4294967296 * 4294967296))) = _
  rw [wrap_id (n := x / 4294967296 * 4294967296) (by unfold in64; omega), wrap_id (by unfold in64; omega)]
  congr 2
  omega

theorem joined_spec (h l : Int) (hh : -4611686018427387904 ≤ h ∧ h ≤ 4611686018427387904) (hl : 0 ≤ l ∧ l ≤ 4611686018427387904) :
    Pure Try.prog gl0 54 [I h, I l] (.tup (.cons (I (if in64 (h * 4294967296 + l) then h * 4294967296 + l else 0)) (.cons (B (decide (in64 (h * 4294967296 + l)))) .nil))) := by
  refine pure_fn mixed Try.func54 Try.ntmps54 hc54 (by simp) gl0n (by simp [nf]) (by simp [nf]) ?_
  have e2 : (2 : Int) ^ min (Int.toNat 32) IntKind.i64.bits = 4294967296 := by decide
  have e3 : l.fdiv (2 ^ min (Int.toNat 32) IntKind.i64.bits) = l / 4294967296 := by rw [e2, Int.fdiv_eq_ediv_of_nonneg _ (by omega)]
  have e4 : IntKind.i64.wrap (h + l / 4294967296) = h + l / 4294967296 := wrap_id (by unfold in64; omega)
  have e5 : IntKind.i64.wrap (l - IntKind.i64.wrap (l / 4294967296 * 4294967296)) = l % 4294967296 := by
    rw [wrap_id (n := l / 4294967296 * 4294967296) (by unfold in64; omega), wrap_id (by unfold in64; omega)]; omega
  conv => whnf
  refine ⟨by decide, ?_⟩
  have q1 : (decide (IntKind.i64.wrap (h + l.fdiv (2 ^ min (Int.toNat 32) IntKind.i64.bits)) < -2147483648)) = decide (h + l / 4294967296 < -2147483648) := by rw [e3, e4]
  have q2 : (decide (IntKind.i64.wrap (h + l.fdiv (2 ^ min (Int.toNat 32) IntKind.i64.bits)) > 2147483647)) = decide (h + l / 4294967296 > 2147483647) := by rw [e3, e4]
  conv => whnf
  rw [q1]
  by_cases c1 : h + l / 4294967296 < -2147483648
  · rw [decide_eq_true c1]
    conv => whnf
    have : ¬ in64 (h * 4294967296 + l) := by unfold in64; omega
    refine Le.of_eq ?_
    rw [if_neg this, decide_eq_false this]
    rfl
  · rw [decide_eq_false c1]
    conv => whnf
    rw [q2]
    by_cases c2 : h + l / 4294967296 > 2147483647
    · rw [decide_eq_true c2]
      conv => whnf
      have : ¬ in64 (h * 4294967296 + l) := by unfold in64; omega
      refine Le.of_eq ?_
      rw [if_neg this, decide_eq_false this]
      rfl
    · rw [decide_eq_false c2]
      conv => whnf
      have hin : in64 (h * 4294967296 + l) := by unfold in64; omega
      refine Le.of_eq ?_
      rw [if_pos hin, decide_eq_true hin]
      have e6 : IntKind.i64.wrap (IntKind.i64.wrap (IntKind.i64.wrap (h + l.fdiv (2 ^ min (Int.toNat 32) IntKind.i64.bits)) * 4294967296) + IntKind.i64.wrap (l - IntKind.i64.wrap (l.fdiv (2 ^ min (Int.toNat 32) IntKind.i64.bits) * 4294967296))) = h * 4294967296 + l := by
        rw [e3, e4, e5, wrap_id (n := (h + l / 4294967296) * 4294967296) (by unfold in64; omega), wrap_id (by unfold in64; omega)]
        omega
      show AV.tup (.cons (I (IntKind.i64.wrap (IntKind.i64.wrap (IntKind.i64.wrap (h + l.fdiv (2 ^ min (Int.toNat 32) IntKind.i64.bits)) * 4294967296) + IntKind.i64.wrap (l - IntKind.i64.wrap (l.fdiv (2 ^ min (Int.toNat 32) IntKind.i64.bits) * 4294967296))))) _) = _
      rw [e6]
      rfl

/-! Sums of a list, by halves. -/
def sumH (xs : List Int) : Int := (xs.map (· / 4294967296)).sum
def sumL (xs : List Int) : Int := (xs.map (· % 4294967296)).sum

theorem sum_halves (xs : List Int) : sumH xs * 4294967296 + sumL xs = xs.sum := by
  induction xs with
  | nil => rfl
  | cons a r ih => simp only [sumH, sumL, List.map_cons, List.sum_cons] at *; omega

theorem sum_bounds (xs : List Int) (h : ∀ x ∈ xs, in64 x) : -2147483648 * (xs.length : Int) ≤ sumH xs ∧ sumH xs ≤ 2147483647 * (xs.length : Int) ∧ 0 ≤ sumL xs ∧ sumL xs ≤ 4294967295 * (xs.length : Int) := by
  induction xs with
  | nil => simp [sumH, sumL]
  | cons a r ih =>
    have ih := ih (fun x hx => h x (List.mem_cons_of_mem _ hx))
    have ha := h a (List.mem_cons_self ..)
    obtain ⟨h1, h2⟩ := ha
    simp only [sumH, sumL, List.map_cons, List.sum_cons, List.length_cons] at *
    omega

theorem sumH_snoc (xs : List Int) (x : Int) : sumH (xs ++ [x]) = sumH xs + x / 4294967296 := by simp [sumH]
theorem sumL_snoc (xs : List Int) (x : Int) : sumL (xs ++ [x]) = sumL xs + x % 4294967296 := by simp [sumL]

def sumV (S : Int) : AV := .tup (.cons (I (if in64 S then S else 0)) (.cons (B (decide (in64 S))) .nil))

theorem sum_spec (xs : List Int) (h : ∀ x ∈ xs, in64 x) (hn : xs.length ≤ 100000) : Pure Try.prog gl0 38 [encL I 1 xs] (sumV xs.sum) := by
  refine pure_fn mixed Try.func38 Try.ntmps38 hc38 (by simp) gl0n (by simp [encT, nf]) (by simp [sumV, nf]) ?_
  conv => whnf
  refine loop_at mixed (fun (k : Nat) => ([(6, I k), (4, I (sumH (xs.take k))), (5, I (sumL (xs.take k))), (0, encL I 1 xs)], [], 0)) (fun k => k ≤ xs.length) (fun k => xs.length - k) 0 (Nat.zero_le _) ?_ ?_
  · refine le_st (Nat.le_refl _) ?_ trivial gl0n
    exact leE_i rfl rfl (leE_i rfl rfl (leE_i rfl rfl (leE_eq rfl ⟨fun q hq => (by cases hq), fun i => trivial⟩ trivial)))
  · intro k hk
    conv => whnf
    by_cases c : k < xs.length
    · rw [decide_eq_true (by omega : (k : Int) < xs.length)]
      conv => whnf
      refine ⟨by omega, ?_⟩
      conv => whnf
      have hx := h _ (at_mem c)
      refine call_pure (high_spec (at_ xs k)) ⟨Le.refl _, trivial⟩ ?_
      conv => whnf
      refine ⟨by omega, ?_⟩
      conv => whnf
      refine call_pure (low_spec (at_ xs k) hx) ⟨Le.refl _, trivial⟩ ?_
      conv => whnf
      have b1 := sum_bounds (xs.take (k + 1)) (fun x hm => h x (List.mem_of_mem_take hm))
      have b2 : (xs.take (k + 1)).length ≤ 100000 := by rw [List.length_take]; omega
      rw [take_at c, sumH_snoc, sumL_snoc] at b1
      rw [take_at c] at b2
      refine ⟨k + 1, c, by omega, ?_⟩
      refine le_st (Nat.le_refl _) ?_ trivial gl0n
      refine leE_i rfl ?_ (leE_i rfl ?_ (leE_i rfl ?_ (leE_eq rfl ⟨fun q hq => (by cases hq), fun i => trivial⟩ trivial)))
      · show IntKind.i64.wrap (k + 1) = _
        rw [wrap_id (by unfold in64; omega)]; omega
      · show IntKind.i64.wrap (sumH (xs.take k) + at_ xs k / 4294967296) = _
        rw [wrap_id (by unfold in64; omega), take_at c, sumH_snoc]
      · show IntKind.i64.wrap (sumL (xs.take k) + at_ xs k % 4294967296) = _
        rw [wrap_id (by unfold in64; omega), take_at c, sumL_snoc]
    · obtain rfl : k = xs.length := by omega
      rw [decide_eq_false (by omega : ¬ ((xs.length : Int) < xs.length))]
      conv => whnf
      have hb := sum_bounds xs h
      refine call_pure (joined_spec _ _ (by rw [List.take_length]; omega) (by rw [List.take_length]; omega)) (LeL.refl _) ?_
      rw [List.take_length, sum_halves]
      conv => whnf
      exact Le.refl _

end Go.Proofs.Ytjkmmcbfcglkdaa
