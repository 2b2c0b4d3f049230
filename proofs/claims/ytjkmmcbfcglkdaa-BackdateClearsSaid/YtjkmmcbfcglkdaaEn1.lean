/- What balanced, sums and sameEntries compute. -/
import Derived.Test.YtjkmmcbfcglkdaaEn0
import Derived.Test.YtjkmmcbfcglkdaaSp3
import Derived.Test.YtjkmmcbfcglkdaaIc2
namespace Go.Proofs.Ytjkmmcbfcglkdaa
open Go Ar
set_option linter.unusedVariables false
set_option autoImplicit false

def encE (e : Ent) : AV := .st (.cons (I e.d) (.cons (I e.c) (.cons (I e.n) .nil)))
theorem nf_encE (e : Ent) : nf (encE e) := ⟨trivial, trivial, trivial, trivial⟩

def minI : Int := -9223372036854775808
def OkB (b : Nat → Int) : Prop := ∀ i, i < 12 → in64 (b i)
def balP (b : Nat → Int) : Prop := (∀ i, i < 12 → b i ≠ -9223372036854775808) ∧ sumTo b 12 = 0

theorem sumTo_bound (b : Nat → Int) (h : OkB b) : ∀ n : Nat, n ≤ 12 → -9223372036854775808 * (n : Int) ≤ sumTo b n ∧ sumTo b n ≤ 9223372036854775807 * (n : Int)
  | 0, _ => by simp [sumTo]
  | n + 1, hn => by
    have := sumTo_bound b h n (by omega)
    obtain ⟨h1, h2⟩ := h n (by omega)
    simp only [sumTo]
    omega

theorem balanced_spec (b : Nat → Int) (h : OkB b) : (balP b → Pure Try.prog gl0 39 [encB b] (B true)) ∧ (¬ balP b → Pure Try.prog gl0 39 [encB b] (B false)) := by
  suffices ∀ (r : Bool), (balP b → r = true) → (¬ balP b → r = false) → Pure Try.prog gl0 39 [encB b] (B r) by
    exact ⟨fun hk => this _ (fun _ => rfl) (fun h => absurd hk h), fun hk => this _ (fun h => absurd h hk) (fun _ => rfl)⟩
  intro r hr1 hr2
  refine pure_fn mixed Try.func39 Try.ntmps39 hc39 (by simp) gl0n (by simp [nf_encB]) trivial ?_
  conv => whnf
  refine loop_at mixed (fun (k : Nat) => ([(10, I k), (9, .arr 12 1 fun i => I (b i)), (3, U ((sumTo b k / 18446744073709551616) % 18446744073709551616)), (4, U (sumTo b k % 18446744073709551616))], [], 0)) (fun k => k ≤ 12 ∧ ∀ i, i < k → b i ≠ -9223372036854775808) (fun k => 12 - k) 0 ⟨Nat.zero_le _, fun i hi => absurd hi (Nat.not_lt_zero i)⟩ ?_ ?_
  · exact le_st (le_r rfl) (leE_i rfl rfl (leE_eq rfl (bnd_nf _ fun _ => trivial) (leE_i rfl rfl (leE_i rfl rfl trivial)))) trivial gl0n
  · intro k ⟨hk, hin⟩
    conv => whnf
    by_cases c : k < 12
    · refine br_true (decide_eq_true (by omega : (k : Int) < 12)) ?_
      conv => whnf
      refine ⟨by omega, ?_⟩
      conv => whnf
      by_cases c2 : b k = -9223372036854775808
      · refine br_true (decide_eq_true c2) ?_
        conv => whnf
        rw [hr2 (fun hb => hb.1 k c c2)]
        exact Le.refl _
      · refine br_false (decide_eq_false c2) ?_
        conv => whnf
        have hu : IntKind.u64.wrap (b k) = b k % 18446744073709551616 := wrap_u64 _
        have hs := shr63 (h k c)
        refine call_x (add64 (by omega) (by show 0 ≤ IntKind.u64.wrap (b k); omega) (by omega) (by omega)) ?_
        conv => whnf
        refine ⟨by decide, ?_⟩
        conv => whnf
        refine call_x (add64 (by omega) (by show 0 ≤ IntKind.u64.wrap ((b k).fdiv (2 ^ min (Int.toNat 63) IntKind.i64.bits)); rw [hs]; split <;> omega)
          (by show 0 ≤ (sumTo b k % 18446744073709551616 + IntKind.u64.wrap (b k) + 0) / 18446744073709551616; omega)
          (by show (sumTo b k % 18446744073709551616 + IntKind.u64.wrap (b k) + 0) / 18446744073709551616 ≤ 1; omega)) ?_
        conv => whnf
        refine ⟨k + 1, ⟨c, fun i hi => ?_⟩, by omega, ?_⟩
        · by_cases e : i = k
          · rw [e]; exact c2
          · exact hin i (by omega)
        refine le_st (le_r rfl) (leE_i rfl ?_ (leE_eq rfl (bnd_nf _ fun _ => trivial) (leE_i rfl ?_ (leE_i rfl ?_ trivial)))) trivial gl0n
        · show IntKind.i64.wrap (k + 1) = _
          rw [wrap_id (by unfold in64; omega)]; omega
        · show (sumTo b k / 18446744073709551616 % 18446744073709551616 + IntKind.u64.wrap ((b k).fdiv (2 ^ min (Int.toNat 63) IntKind.i64.bits)) + (sumTo b k % 18446744073709551616 + IntKind.u64.wrap (b k) + 0) / 18446744073709551616) % 18446744073709551616 = _
          have := h k c
          unfold in64 at this
          rw [hs, hu]; simp only [sumTo]; split <;> omega
        · show (sumTo b k % 18446744073709551616 + IntKind.u64.wrap (b k) + 0) % 18446744073709551616 = _
          rw [hu]; simp only [sumTo]; omega
    · obtain rfl : k = 12 := by omega
      rw [decide_eq_false (by omega : ¬ (((12 : Nat) : Int) < 12))]
      conv => whnf
      have hb := sumTo_bound b h 12 (Nat.le_refl _)
      by_cases c2 : (sumTo b 12 / 18446744073709551616) % 18446744073709551616 = 0
      · rw [decide_eq_true c2]
        conv => whnf
        by_cases c3 : sumTo b 12 % 18446744073709551616 = 0
        · rw [hr1 ⟨hin, by omega⟩]
          exact Le.of_eq (congrArg B (decide_eq_true c3))
        · rw [hr2 (fun hx => c3 (by rw [hx.2]; rfl))]
          exact Le.of_eq (congrArg B (decide_eq_false c3))
      · rw [decide_eq_false c2]
        conv => whnf
        rw [hr2 (fun hx => c2 (by rw [hx.2]; rfl))]
        exact Le.refl _

def valsTo (b : Nat → Int) (n : Nat) : List Int := (List.range n).map b

theorem valsTo_succ (b : Nat → Int) (n : Nat) : valsTo b (n + 1) = valsTo b n ++ [b n] := by simp [valsTo, List.range_succ]

theorem valsTo_sum (b : Nat → Int) : ∀ n, (valsTo b n).sum = sumTo b n
  | 0 => rfl
  | n + 1 => by rw [valsTo_succ, List.sum_append, valsTo_sum b n]; simp [sumTo]

theorem valsTo_len (b : Nat → Int) (n : Nat) : (valsTo b n).length = n := by simp [valsTo]

theorem sums_spec (b : Nat → Int) (h : OkB b) : (balP b → Pure Try.prog gl0 40 [encB b] (B true)) ∧ (¬ balP b → Pure Try.prog gl0 40 [encB b] (B false)) := by
  suffices ∀ (r : Bool), (balP b → r = true) → (¬ balP b → r = false) → Pure Try.prog gl0 40 [encB b] (B r) by
    exact ⟨fun hk => this _ (fun _ => rfl) (fun h => absurd hk h), fun hk => this _ (fun h => absurd h hk) (fun _ => rfl)⟩
  intro r hr1 hr2
  refine pure_fn mixed Try.func40 Try.ntmps40 hc40 (by simp) gl0n (by simp [nf_encB]) trivial ?_
  conv => whnf
  refine loop_at mixed (fun (k : Nat) => ([(4, I k), (3, encT (some 1) I 1 (valsTo b k)), (1, .ptr 0 [])], [(0, .box (encB b)), (1, .room (valsTo b k).length 1 2)], 2)) (fun k => k ≤ 12 ∧ ∀ i, i < k → b i ≠ -9223372036854775808) (fun k => 12 - k) 0 ⟨Nat.zero_le _, fun i hi => absurd hi (Nat.not_lt_zero i)⟩ ?_ ?_
  · refine (le_nil 3 1 2 (fun i => I (at_ (valsTo b 0) i)) rfl).trans (le_st (le_r rfl) ?_ ?_ gl0n)
    · exact leE_i rfl rfl (leE_eq rfl (bnd_encT (fun _ => trivial) (lt_r rfl)) (leE_eq rfl (lt_r rfl) trivial))
    · exact leO_box (lt_r rfl) rfl (LeA.of_eq rfl) (bnd_nf _ (nf_encB _)) (leO_room (lt_r rfl) rfl trivial)
  · intro k ⟨hk, hin⟩
    conv => whnf
    by_cases c : k < 12
    · refine br_true (decide_eq_true (by omega : (k : Int) < 12)) ?_
      conv => whnf
      refine ⟨by omega, ?_⟩
      conv => whnf
      by_cases c2 : b k = -9223372036854775808
      · refine br_true (decide_eq_true c2) ?_
        conv => whnf
        rw [hr2 (fun hb => hb.1 k c c2)]
        exact Le.refl _
      · refine br_false (decide_eq_false c2) ?_
        conv => whnf
        refine ⟨by omega, ?_⟩
        conv => whnf
        refine ⟨rfl, by rw [valsTo_len]; simp; omega, ?_⟩
        conv => whnf
        refine ⟨k + 1, ⟨c, fun i hi => ?_⟩, by omega, ?_⟩
        · by_cases e : i = k
          · rw [e]; exact c2
          · exact hin i (by omega)
        rw [valsTo_succ]
        refine le_st (le_r rfl) (leE_i rfl ?_ (leE_le rfl ?_ (bnd_encT (fun _ => trivial) (lt_r rfl)) (leE_eq rfl (lt_r rfl) trivial)))
          (leO_box (lt_r rfl) rfl (LeA.of_eq rfl) (bnd_nf _ (nf_encB _)) (leO_room (lt_r rfl) ?_ trivial)) gl0n
        · show IntKind.i64.wrap (k + 1) = _
          rw [wrap_id (by unfold in64; omega)]; omega
        · exact (leA_snoc (xs := valsTo b k) (x := b k) (enc := I) (LeA.of_eq rfl)).le
        · rw [List.length_append]; rfl
    · obtain rfl : k = 12 := by omega
      rw [decide_eq_false (by omega : ¬ (((12 : Nat) : Int) < 12))]
      conv => whnf
      refine call_pure (sum_spec (valsTo b 12) (fun x hx => ?_) (by rw [valsTo_len]; omega)) ⟨leA_drop.le, trivial⟩ ?_
      · obtain ⟨i, hi, rfl⟩ := List.mem_map.1 hx
        exact h i (List.mem_range.1 hi)
      rw [valsTo_sum]
      conv => whnf
      by_cases c2 : in64 (sumTo b 12)
      · rw [decide_eq_true c2]
        conv => whnf
        by_cases c3 : sumTo b 12 = 0
        · rw [hr1 ⟨hin, c3⟩]
          refine Le.of_eq (congrArg B (decide_eq_true ?_))
          show (if in64 (sumTo b 12) then sumTo b 12 else 0) = 0
          rw [if_pos c2]; exact c3
        · rw [hr2 (fun hx => c3 hx.2)]
          refine Le.of_eq (congrArg B (decide_eq_false ?_))
          show ¬ (if in64 (sumTo b 12) then sumTo b 12 else 0) = 0
          rw [if_pos c2]; exact c3
      · rw [decide_eq_false c2]
        conv => whnf
        rw [hr2 (fun hx => c2 (by rw [hx.2]; unfold in64; omega))]
        exact Le.refl _

theorem sameE_spec (xs : List Ent) (hn : xs.length ≤ 100000) : Pure Try.prog gl0 15 [encL encE 3 xs, encL encE 3 xs] (B true) := by
  refine pure_fn mixed Try.func15 Try.ntmps15 hc15 (by simp) gl0n (by simp [nf_encL nf_encE]) trivial ?_
  conv => whnf
  rw [decide_eq_false (fun h => h rfl : ¬ ((xs.length : Int) ≠ xs.length))]
  conv => whnf
  refine loop_at mixed (fun (k : Nat) => ([(5, I k), (0, encL encE 3 xs), (1, encL encE 3 xs)], [], 0)) (fun k => k ≤ xs.length) (fun k => xs.length - k) 0 (Nat.zero_le _) ?_ ?_
  · exact le_st (Nat.le_refl _) (leE_i rfl rfl (leE_eq rfl (bnd_nf _ (nf_encL nf_encE)) (leE_eq rfl (bnd_nf _ (nf_encL nf_encE)) trivial))) trivial gl0n
  · intro k hk
    conv => whnf
    by_cases c : k < xs.length
    · rw [decide_eq_true (by omega : (k : Int) < xs.length)]
      conv => whnf
      refine ⟨by omega, ?_⟩
      conv => whnf
      refine ⟨by omega, ?_⟩
      conv => whnf
      refine br_false (congrArg (eqSn true) (eqS_eq rfl)) ?_
      conv => whnf
      refine ⟨k + 1, c, by omega, ?_⟩
      refine le_st (le_r rfl) (leE_i rfl ?_ (leE_eq rfl (bnd_nf _ (nf_encL nf_encE)) (leE_eq rfl (bnd_nf _ (nf_encL nf_encE)) trivial))) trivial gl0n
      show IntKind.i64.wrap (k + 1) = _
      rw [wrap_id (by unfold in64; omega)]; omega
    · obtain rfl : k = xs.length := by omega
      rw [decide_eq_false (by omega : ¬ ((xs.length : Int) < xs.length))]
      conv => whnf
      exact Le.refl _

end Go.Proofs.Ytjkmmcbfcglkdaa
