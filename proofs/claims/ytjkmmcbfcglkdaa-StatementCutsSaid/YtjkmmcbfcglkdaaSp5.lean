/- The law: true of all lists of movements. -/
import Derived.Test.YtjkmmcbfcglkdaaSp4
namespace Go.Proofs.Ytjkmmcbfcglkdaa
open Go Ar
set_option linter.unusedVariables false
set_option autoImplicit false

theorem eqs_true {s : Sh} {a b : AV} (h : a = b) : (eqSn false (eqS s a b) == true) = true := by rw [eqS_eq h]; rfl

theorem eqs_true' {s : Sh} {a b : AV} (h : a = b) : eqSn false (eqS s a b) = true := by rw [eqS_eq h]; rfl

theorem le_prefix (xs ys : List Mov) {k : Nat} (hk : k = xs.length) {tok : Option Nat} : LeA (.lst tok k 14 fun i => encM (at_ (xs ++ ys) i)) (encL encM 14 xs) := by
  subst hk
  exact LeA.lst (.inr rfl) fun i hi => LeA.of_eq (by rw [at_append_left hi])

theorem law_spec (xs : List Mov) (d : Int) (hd : in64 d) (h : ∀ m ∈ xs, OkM m) (hn : (xs.length : Int) < 9223372036854775808) : Pure Try.prog gl0 3 [encL encM 14 xs, I d] (B true) := by
  refine pure_fn mixed Try.func3 Try.ntmps3 hc3 (by simp) gl0n (by simp [nf_encL nf_encM, nf]) trivial ?_
  conv => whnf
  by_cases c : xs.length > 4000
  · rw [decide_eq_true (by omega : (xs.length : Int) > 4000)]
    conv => whnf
    exact Le.refl _
  · rw [decide_eq_false (by omega : ¬ (xs.length : Int) > 4000)]
    conv => whnf
    refine call_pure (copied_spec xs (by omega)) (LeL.refl _) ?_
    conv => whnf
    obtain ⟨b, ok, h1, h2⟩ : ∃ b ok, Pure Try.prog gl0 10 [encL encM 14 xs, I d] (upV b ok) ∧ Pure Try.prog gl0 11 [encL encM 14 xs, I d] (upV b ok) := by
      obtain ⟨p1, p2⟩ := upto_spec xs d hd h (by omega)
      obtain ⟨r1, r2⟩ := ref_upto_spec xs d hd h (by omega)
      by_cases hk : okU d xs
      · exact ⟨_, _, p1 hk, r1 hk⟩
      · exact ⟨_, _, p2 hk, r2 hk⟩
    refine ⟨⟨by omega, by rw [List.length_append]; omega⟩, by omega, ?_⟩
    conv => whnf
    refine call_pure h1 ⟨(le_prefix xs [mark] (by omega)).le, Le.refl _, trivial⟩ ?_
    conv => whnf
    refine call_pure h2 (LeL.refl _) ?_
    conv => whnf
    generalize hq : eqSn false (eqS _ _ _) = q
    obtain rfl : q = true := by rw [← hq]; exact (eqs_true' rfl)
    clear hq
    cases ok
    · conv => whnf
      refine call_pure (copied_spec xs (by omega)) (LeL.refl _) ?_
      conv => whnf
      refine call_pure (same_spec (xs ++ [mark]) (by rw [List.length_append]; simp; omega)) (LeL.refl _) ?_
      conv => whnf
      exact Le.refl _
    · conv => whnf
      refine call_pure (copied_spec xs (by omega)) (LeL.refl _) ?_
      conv => whnf
      refine call_pure (same_spec (xs ++ [mark]) (by rw [List.length_append]; simp; omega)) (LeL.refl _) ?_
      conv => whnf
      exact Le.refl _

end Go.Proofs.Ytjkmmcbfcglkdaa

