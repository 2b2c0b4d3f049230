/- What the walks share. No condition. -/
import Derived.Test.YtdjmplfjpnikkaaZIc
import Derived.Test.YtdjmplfjpnikkaaA7
import Derived.Test.YtdjmplfjpnikkaaA6
set_option linter.all false
namespace Go.Proofs.Ytdjmplfjpnikkaa
open Go Ar
set_option linter.unusedVariables false
set_option autoImplicit false
set_option maxHeartbeats 4000000

attribute [simp] nf_I nf_encBk nf_encIns nf_encTrm nf_encCse nf_encPrt nf_encNtc nf_encEty nf_encOwd nf_encPsn nf_encEvt nf_encDte nf_encLn nf_encPol nf_encOtc nf_encStt nf_encOpn nf_encWrk nfL_I nfL_Ins nfL_Ntc nfL_Ety nfL_Ln nfL_Opn nfL_Bk nf_encBf nfL_Bf

/-- Side conditions and ends, found by the same few ways everywhere. -/
theorem aI {A B : Prop} (h : B) (ha : A := by first | omega | rfl | (simp only [List.length_cons, List.length_nil]; omega) | (rw [wrap_id (by unfold in64; omega)]; omega)) : A ∧ B := ⟨ha, h⟩
theorem lfA {A B : Prop} (ha : A := by simp [packA, consL, nf]) (hb : B := by first | exact ⟨_, rfl⟩ | exact ⟨_, _, rfl⟩ | exact ⟨_, _, _, rfl⟩) : A ∧ B := ⟨ha, hb⟩

theorem inc_id {k : Nat} {m : Nat} (h : k < m) (hm : (m : Int) < 9223372036854775808) : IntKind.i64.wrap ((k : Int) + 1) = ((k + 1 : Nat) : Int) := by
  rw [wrap_id (by unfold in64; omega)]; omega

abbrev hasI (p : Pol) : Prop := (p.holidays.length : Int) < 9223372036854775808

/-- Cells that are numbers are a list of numbers. -/
theorem ints_of {tok : Option Nat} {n : Nat} {f : Nat → AV} (h : ∀ i, ∃ x, f i = I x) : ∃ xs : List Int, xs.length = n ∧ LeA (.lst tok n 1 f) (encL I 1 xs) := by
  refine ⟨(List.range n).map fun i => (h i).choose, by simp, ?_⟩
  unfold encL encT
  simp only [List.length_map, List.length_range]
  refine LeA.lst (.inr rfl) fun i hi => LeA.of_eq ?_
  rw [(h i).choose_spec]
  congr 2
  rw [at_lt (by simpa using hi)]
  simp

/-- A row of one's own has grown by a number. -/
theorem leA_grow {τ : Nat → Nat} {xs : List Int} {x : Int} {k e : Nat} {h : Nat → AV} (hk : k = xs.length + 1) (h0 : h 0 = I x) :
    LeA (.arr k e (fun i => ren τ (appF xs.length (fun i => I (at_ xs i)) h i))) (.arr (xs ++ [x]).length e (fun i => I (at_ (xs ++ [x]) i))) := by
  subst hk
  rw [List.length_append]
  refine LeA.arr fun i hi => LeA.of_eq ?_
  unfold appF
  by_cases hlt : i < xs.length
  · rw [if_pos hlt, at_append_left hlt]; rfl
  · obtain rfl : i = xs.length := by omega
    rw [if_neg hlt, at_append_right (Nat.le_refl _)]
    simp only [Nat.sub_self, h0]
    rfl

theorem le_sli {o lo a b e : Nat} {ty : TypeId} (h : a = b) : Le (.sli o lo a e ty) (.sli o lo b e ty) := h ▸ Le.refl _

end Go.Proofs.Ytdjmplfjpnikkaa
namespace Go.Proofs.Ytdjmplfjpnikkaa
open Go Ar
set_option linter.unusedVariables false
set_option autoImplicit false
set_option maxHeartbeats 4000000
set_option maxRecDepth 100000

theorem r1_high_x (x : Int) : Pure Try.prog gl0 r1_high [I x] (I (x / 4294967296)) := by
  refine pure_fn mixed fn_r1_high nt_r1_high hc_r1_high (by simp) gl0n (by simp [nf]) (by simp [nf]) ?_
  conv => whnf
  refine ⟨by omega, ?_⟩
  conv => whnf
  refine Le.of_eq ?_
  have : (2 : Int) ^ min (Int.toNat 32) IntKind.i64.bits = 4294967296 := by decide
  show I (x.fdiv (2 ^ min (Int.toNat 32) IntKind.i64.bits)) = _
  rw [this, Int.fdiv_eq_ediv_of_nonneg _ (by omega)]

theorem r1_low_x (x : Int) (hx : in64 x) : Pure Try.prog gl0 r1_lowOf [I x] (I (x % 4294967296)) := by
  refine pure_fn mixed fn_r1_lowOf nt_r1_lowOf hc_r1_lowOf (by simp) gl0n (by simp [nf]) (by simp [nf]) ?_
  conv => whnf
  refine call_pure (r1_high_x x) (LeL.refl _) ?_
  conv => whnf
  refine Le.of_eq ?_
  obtain ⟨h1, h2⟩ := hx
  show I (IntKind.i64.wrap (x - IntKind.i64.wrap (x / 4294967296 * 4294967296))) = _
  rw [wrap_id (n := x / 4294967296 * 4294967296) (by unfold in64; omega), wrap_id (by unfold in64; omega)]
  congr 2
  omega

instance (n : Int) : Decidable (in64 n) := by unfold in64; infer_instance

abbrev sumV (S : Int) : AV := tup2 (I (if in64 S then S else 0)) (B (decide (in64 S)))
theorem sumV_yes {S : Int} (h : in64 S) : sumV S = tup2 (I S) (B true) := by unfold sumV; rw [if_pos h, decide_eq_true h]
theorem sumV_no {S : Int} (h : ¬ in64 S) : sumV S = tup2 (I 0) (B false) := by unfold sumV; rw [if_neg h, decide_eq_false h]

theorem r1_joined_x (h l : Int) (hh : -4611686018427387904 ≤ h ∧ h ≤ 4611686018427387904) (hl : 0 ≤ l ∧ l ≤ 4611686018427387904) : Pure Try.prog gl0 r1_joined [I h, I l] (sumV (h * 4294967296 + l)) := by
  refine pure_fn mixed fn_r1_joined nt_r1_joined hc_r1_joined (by simp) gl0n (by simp [nf]) (by simp [nf]) ?_
  conv => whnf
  have e2 : (2 : Int) ^ min (Int.toNat 32) IntKind.i64.bits = 4294967296 := by decide
  have e3 : l.fdiv (2 ^ min (Int.toNat 32) IntKind.i64.bits) = l / 4294967296 := by rw [e2, Int.fdiv_eq_ediv_of_nonneg _ (by omega)]
  have e4 : IntKind.i64.wrap (h + l / 4294967296) = h + l / 4294967296 := wrap_id (by unfold in64; omega)
  have e5 : IntKind.i64.wrap (l - IntKind.i64.wrap (l / 4294967296 * 4294967296)) = l % 4294967296 := by
    rw [wrap_id (n := l / 4294967296 * 4294967296) (by unfold in64; omega), wrap_id (by unfold in64; omega)]; omega
  refine ⟨by omega, ?_⟩
  conv => whnf
  have q1 : (decide (IntKind.i64.wrap (h + l.fdiv (2 ^ min (Int.toNat 32) IntKind.i64.bits)) < -2147483648)) = decide (h + l / 4294967296 < -2147483648) := by rw [e3, e4]
  have q2 : (decide (IntKind.i64.wrap (h + l.fdiv (2 ^ min (Int.toNat 32) IntKind.i64.bits)) > 2147483647)) = decide (h + l / 4294967296 > 2147483647) := by rw [e3, e4]
  conv => whnf
  rw [q1]
  by_cases c1 : h + l / 4294967296 < -2147483648
  · rw [decide_eq_true c1]
    conv => whnf
    have : ¬ in64 (h * 4294967296 + l) := by unfold in64; omega
    refine Le.of_eq ?_
    rw [sumV_no this]
    rfl
  · rw [decide_eq_false c1]
    conv => whnf
    rw [q2]
    by_cases c2 : h + l / 4294967296 > 2147483647
    · rw [decide_eq_true c2]
      conv => whnf
      have : ¬ in64 (h * 4294967296 + l) := by unfold in64; omega
      refine Le.of_eq ?_
      rw [sumV_no this]
      rfl
    · rw [decide_eq_false c2]
      conv => whnf
      have hin : in64 (h * 4294967296 + l) := by unfold in64; omega
      refine Le.of_eq ?_
      rw [sumV_yes hin]
      have e6 : IntKind.i64.wrap (IntKind.i64.wrap (IntKind.i64.wrap (h + l.fdiv (2 ^ min (Int.toNat 32) IntKind.i64.bits)) * 4294967296) + IntKind.i64.wrap (l - IntKind.i64.wrap (l.fdiv (2 ^ min (Int.toNat 32) IntKind.i64.bits) * 4294967296))) = h * 4294967296 + l := by
        rw [e3, e4, e5, wrap_id (n := (h + l / 4294967296) * 4294967296) (by unfold in64; omega), wrap_id (by unfold in64; omega)]
        omega
      show AV.tup (.cons (I (IntKind.i64.wrap (IntKind.i64.wrap (IntKind.i64.wrap (h + l.fdiv (2 ^ min (Int.toNat 32) IntKind.i64.bits)) * 4294967296) + IntKind.i64.wrap (l - IntKind.i64.wrap (l.fdiv (2 ^ min (Int.toNat 32) IntKind.i64.bits) * 4294967296))))) _) = _
      rw [e6]
      rfl

/-! Sums of a list, by halves. -/
def sumH (xs : List Int) : Int := (xs.map (· / 4294967296)).sum
def sumL (xs : List Int) : Int := (xs.map (· % 4294967296)).sum

theorem sum_halves (xs : List Int) : sumH xs * 4294967296 + sumL xs = xs.sum := by
  induction xs with
  | nil => rfl
  | cons a r ih => simp only [sumH, sumL, List.map_cons, List.sum_cons] at *; omega

theorem sum_bounds (xs : List Int) (h : ∀ x ∈ xs, in64 x) : -2147483648 * (xs.length : Int) ≤ sumH xs ∧ sumH xs ≤ 2147483647 * (xs.length : Int) ∧ 0 ≤ sumL xs ∧ sumL xs ≤ 4294967295 * (xs.length : Int) := by
  induction xs with
  | nil => simp [sumH, sumL]
  | cons a r ih =>
    have ih := ih (fun x hx => h x (List.mem_cons_of_mem _ hx))
    have ha := h a (List.mem_cons_self ..)
    obtain ⟨h1, h2⟩ := ha
    simp only [sumH, sumL, List.map_cons, List.sum_cons, List.length_cons] at *
    omega

theorem sumH_snoc (xs : List Int) (x : Int) : sumH (xs ++ [x]) = sumH xs + x / 4294967296 := by simp [sumH]
theorem sumL_snoc (xs : List Int) (x : Int) : sumL (xs ++ [x]) = sumL xs + x % 4294967296 := by simp [sumL]

theorem r1_Sum_x (xs : List Int) (h : ∀ x ∈ xs, in64 x) (hn : xs.length ≤ 500000000) : Pure Try.prog gl0 r1_Sum [encL I 1 xs] (sumV xs.sum) := by
  refine pure_fn mixed fn_r1_Sum nt_r1_Sum hc_r1_Sum (by simp) gl0n (by simp [nf]) (by simp [nf]) ?_
  conv => whnf
  refine loop_at mixed (fun (k : Nat) => ([(6, I k), (4, I (sumH (xs.take k))), (5, I (sumL (xs.take k))), (0, encL I 1 xs)], [], 0)) (fun k => k ≤ xs.length) (fun k => xs.length - k) 0 (Nat.zero_le _) (le_st (le_r rfl) (leE_i rfl rfl (leE_i rfl rfl (leE_i rfl rfl (leE_eq rfl (bnd_nf _ (nfL_I _ _)) trivial)))) trivial gl0n) ?_
  intro k hk
  conv => whnf
  have hn2 : (xs.length : Int) < 9223372036854775808 := by omega
  by_cases c : k < xs.length
  · refine br_true (decide_eq_true ((by omega : (k : Int) < xs.length))) ?_
    conv => whnf
    refine ⟨by omega, ?_⟩
    conv => whnf
    have hx := h _ (at_mem c)
    refine call_pure (r1_high_x (at_ xs k)) ⟨Le.refl _, trivial⟩ ?_
    conv => whnf
    refine ⟨by omega, ?_⟩
    conv => whnf
    refine call_pure (r1_low_x (at_ xs k) hx) ⟨Le.refl _, trivial⟩ ?_
    conv => whnf
    have b1 := sum_bounds (xs.take (k + 1)) (fun x hm => h x (List.mem_of_mem_take hm))
    have b2 : (xs.take (k + 1)).length ≤ 500000000 := by rw [List.length_take]; omega
    rw [take_at c, sumH_snoc, sumL_snoc] at b1
    rw [take_at c] at b2
    refine ⟨k + 1, c, (by show xs.length - (k + 1) < xs.length - k; omega), (le_st (le_r rfl) (leE_i rfl (inc_id c hn2) (leE_i rfl ?_ (leE_i rfl ?_ (leE_eq rfl (bnd_nf _ (nfL_I _ _)) trivial)))) trivial gl0n)⟩
    · show IntKind.i64.wrap (sumH (xs.take k) + at_ xs k / 4294967296) = _
      rw [wrap_id (by unfold in64; omega), take_at c, sumH_snoc]
    · show IntKind.i64.wrap (sumL (xs.take k) + at_ xs k % 4294967296) = _
      rw [wrap_id (by unfold in64; omega), take_at c, sumL_snoc]
  · obtain rfl : k = xs.length := by omega
    refine br_false (decide_eq_false ((by omega : ¬ ((xs.length : Int) < xs.length)))) ?_
    conv => whnf
    have hb := sum_bounds xs h
    refine call_pure (r1_joined_x _ _ (by rw [List.take_length]; omega) (by rw [List.take_length]; omega)) (LeL.refl _) ?_
    rw [List.take_length, sum_halves]
    conv => whnf
    exact Le.refl _

end Go.Proofs.Ytdjmplfjpnikkaa
namespace Go.Proofs.Ytdjmplfjpnikkaa
open Go Ar
set_option linter.unusedVariables false
set_option autoImplicit false
set_option maxHeartbeats 4000000
set_option maxRecDepth 100000

abbrev IN (n : Nat) : AV := I (n : Int)
theorem nfL_N (e : Nat) (xs : List Nat) : nf (encL IN e xs) := nf_encL (fun x => trivial)
attribute [simp] nfL_N

/-- The digits of a number, the lowest first. -/
def digN (m n : Nat) : List Nat := (List.range n).map (fun k => m / 2 ^ k % 2)
theorem digN_len (m n : Nat) : (digN m n).length = n := by simp [digN]
theorem digN_at {m n k : Nat} (h : k < n) : at_ (digN m n) k = m / 2 ^ k % 2 := by rw [at_lt (by rw [digN_len]; exact h)]; simp [digN]
theorem digN_s (m n : Nat) : digN m (n + 1) = digN m n ++ [m / 2 ^ n % 2] := by simp [digN, List.range_succ]
theorem ext_at {α : Type} [Inhabited α] {xs ys : List α} (h : xs.length = ys.length) (ha : ∀ i, i < xs.length → at_ xs i = at_ ys i) : xs = ys := by
  refine List.ext_getElem h fun i h1 h2 => ?_
  have := ha i h1
  rwa [at_lt h1, at_lt h2] at this

/-- What digits come to. -/
def valN (f : Nat → Nat) : Nat → Nat
  | 0 => 0
  | n + 1 => valN f n + f n * 2 ^ n

theorem valN_congr {f g : Nat → Nat} : ∀ n, (∀ k, k < n → f k = g k) → valN f n = valN g n
  | 0, _ => rfl
  | n + 1, h => by
    unfold valN
    rw [valN_congr n (fun k hk => h k (by omega)), h n (by omega)]

theorem valN_lt {f : Nat → Nat} : ∀ n, (∀ k, k < n → f k ≤ 1) → valN f n < 2 ^ n
  | 0, _ => by simp [valN]
  | n + 1, h => by
    have h1 := valN_lt n (fun k hk => h k (by omega))
    have h2 := h n (by omega)
    unfold valN
    have : f n * 2 ^ n ≤ 1 * 2 ^ n := Nat.mul_le_mul_right _ h2
    rw [Nat.pow_succ]
    omega

theorem valN_dig (m : Nat) : ∀ n, valN (fun k => m / 2 ^ k % 2) n = m % 2 ^ n
  | 0 => by simp [valN, Nat.mod_one]
  | n + 1 => by
    unfold valN
    rw [valN_dig m n, Nat.pow_succ, Nat.mod_mul]
    rw [Nat.mul_comm (m / 2 ^ n % 2)]

theorem valN_uniq {f : Nat → Nat} : ∀ n, (∀ k, k < n → f k ≤ 1) → ∀ k, k < n → f k = valN f n / 2 ^ k % 2
  | 0, _, k, hk => absurd hk (Nat.not_lt_zero k)
  | n + 1, h, k, hk => by
    have h1 := valN_lt n (fun k hk => h k (by omega))
    have h2 := h n (by omega)
    show f k = (valN f n + f n * 2 ^ n) / 2 ^ k % 2
    by_cases c : k = n
    · subst c
      rw [Nat.add_mul_div_right _ _ (Nat.two_pow_pos k), Nat.div_eq_of_lt h1, Nat.zero_add, Nat.mod_eq_of_lt (by omega)]
    · have hkn : k < n := by omega
      have e : f n * 2 ^ n = f n * 2 ^ (n - k - 1) * 2 * 2 ^ k := by
        have e1 : n = (n - k - 1) + 1 + k := by omega
        have e2 : 2 ^ n = 2 ^ (n - k - 1) * 2 * 2 ^ k := by
          rw [← Nat.pow_succ, ← Nat.pow_add]
          congr 1
        rw [e2]
        simp only [Nat.mul_assoc]
      rw [e, Nat.add_mul_div_right _ _ (Nat.two_pow_pos k), Nat.add_mul_mod_self_right]
      exact valN_uniq n (fun k hk => h k (by omega)) k hkn

/-- Digits that come to a number are its digits. -/
theorem digN_of {xs : List Nat} {n m : Nat} (hl : xs.length = n) (h1 : ∀ k, k < n → at_ xs k ≤ 1) (hv : valN (at_ xs) n = m) : xs = digN m n := by
  refine ext_at (by rw [digN_len, hl]) fun i hi => ?_
  rw [hl] at hi
  rw [digN_at hi, ← hv]
  exact valN_uniq n h1 i hi

theorem r1_size_x (x : Int) (hx : in64 x) : PureX Try.prog gl0 r1_size [I x] (fun r => r = U (x.natAbs : Nat)) := by
  refine pure_fnX mixed fn_r1_size nt_r1_size hc_r1_size (by simp) gl0n (by simp [nf]) ?_
  conv => whnf
  by_cases c : x < 0
  · refine br_true (decide_eq_true (c)) ?_
    conv => whnf
    refine fin_e ?_
    conv => whnf
    refine ⟨trivial, congrArg (fun n => U n) ?_⟩
    unfold in64 at hx
    rw [wrap_id (n := x + 1) (by unfold in64; omega), wrap_id (n := 0 - (x + 1)) (by unfold in64; omega), wrapu_id (n := 0 - (x + 1)) (by unfold inU64; omega), wrapu_id (by unfold inU64; omega)]
    omega
  · refine br_false (decide_eq_false (c)) ?_
    conv => whnf
    refine fin_e ?_
    conv => whnf
    refine ⟨trivial, congrArg (fun n => U n) ?_⟩
    unfold in64 at hx
    rw [wrapu_id (by unfold inU64; omega)]
    omega

theorem r1_digits_x (m : Nat) (hm : m < 18446744073709551616) : PureX Try.prog gl0 r1_digits [U m] (fun r => r = encL IN 1 (digN m 64)) := by
  refine pure_fnX mixed fn_r1_digits nt_r1_digits hc_r1_digits (by simp) gl0n (by simp [nf]) ?_
  conv => whnf
  refine loop_at mixed (fun (k : Nat) => ([(4, I k), (3, encT (some 0) IN 1 (digN m k)), (0, U (m / 2 ^ k : Nat))], [(0, .room (digN m k).length 1 3)], 1)) (fun k => k ≤ 64) (fun k => 64 - k) 0 (Nat.zero_le _) ((le_nil 3 1 3 (fun i => IN (at_ ([] : List Nat) i)) rfl).trans (le_st (le_r rfl) (leE_i rfl rfl (leE_eq rfl (bnd_encT (fun x => trivial) (lt_r rfl)) (leE_i rfl ((by simp)) trivial))) (leO_room (lt_r rfl) rfl trivial) gl0n)) ?_
  intro k hk
  conv => whnf
  have hn : ((64 : Nat) : Int) < 9223372036854775808 := by decide
  have hl := digN_len m k
  by_cases c : k < 64
  · refine br_true (decide_eq_true ((by omega : (k : Int) < 64))) ?_
    conv => whnf
    have e0 : m / 2 ^ k < 18446744073709551616 := Nat.lt_of_le_of_lt (Nat.div_le_self _ _) hm
    have e1 : IntKind.i64.wrap (((m / 2 ^ k : Nat) : Int).tmod 2) = ((m / 2 ^ k % 2 : Nat) : Int) := by
      clear hm
      generalize m / 2 ^ k = q at e0 ⊢
      rw [Int.tmod_eq_emod_of_nonneg (by omega), wrap_id (by unfold in64; omega)]; omega
    have e2 : IntKind.u64.wrap (((m / 2 ^ k : Nat) : Int).tdiv 2) = ((m / 2 ^ (k + 1) : Nat) : Int) := by
      rw [Nat.pow_succ, ← Nat.div_div_eq_div_mul]
      clear hm e1
      generalize m / 2 ^ k = q at e0 ⊢
      rw [Int.tdiv_eq_ediv_of_nonneg (by omega), wrapu_id (by unfold inU64; omega)]; omega
    repeat' first
      | (refine br_dec (fun h0 => ?_) (fun h0 => ?_) <;> (conv => whnf))
      | (refine br_intro (fun hb => ?_) (fun hb => ?_) <;> ((try rw [hb]); (conv => whnf); (try simp at hb)))
      | (refine ⟨k + 1, c, by show 64 - (k + 1) < 64 - k; omega, ?_⟩; dsimp only; rw [digN_s]; exact (le_st (le_r rfl) (leE_i rfl (inc_id c hn) (leE_le rfl (leA_snoc (enc := IN) (LeA.of_eq (congrArg (fun n => I n) e1))).le (bnd_encT (fun x => trivial) (lt_r rfl)) (leE_i rfl e2 trivial))) (leO_room (lt_r rfl) (by (simp; rfl)) trivial) gl0n))
      | (refine aI ?_; (conv => whnf))
      | (refine fin_e ?_; (conv => whnf); exact lfA)
      | fail
  · refine br_false (decide_eq_false ((by omega : ¬ ((k : Int) < 64)))) ?_
    conv => whnf
    have : k = 64 := by omega
    refine fin_r (encL IN 1 (digN m 64)) (nfL_N _ _) rfl ?_
    conv => whnf
    rw [← this]
    exact leA_drop.le

end Go.Proofs.Ytdjmplfjpnikkaa
namespace Go.Proofs.Ytdjmplfjpnikkaa
open Go Ar
set_option linter.unusedVariables false
set_option autoImplicit false
set_option maxHeartbeats 4000000
set_option maxRecDepth 100000

theorem valN_set (f : Nat → Nat) (p d : Nat) : ∀ n, valN (fun k => if k = p then d else f k) n + (if p < n then f p * 2 ^ p else 0) = valN f n + (if p < n then d * 2 ^ p else 0)
  | 0 => by simp [valN]
  | n + 1 => by
    have ih := valN_set f p d n
    show valN (fun k => if k = p then d else f k) n + (if n = p then d else f n) * 2 ^ n + _ = valN f n + f n * 2 ^ n + _
    rcases Nat.lt_trichotomy n p with c | c | c
    · rw [if_neg (by omega), if_neg (by omega : ¬ p < n + 1), if_neg (by omega : ¬ p < n + 1)]
      rw [if_neg (by omega : ¬ p < n), if_neg (by omega : ¬ p < n)] at ih
      omega
    · subst c
      rw [if_pos rfl, if_pos (by omega : n < n + 1), if_pos (by omega : n < n + 1)]
      rw [if_neg (by omega : ¬ n < n), if_neg (by omega : ¬ n < n)] at ih
      omega
    · rw [if_neg (by omega), if_pos (by omega : p < n + 1), if_pos (by omega : p < n + 1)]
      rw [if_pos c, if_pos c] at ih
      omega

theorem valN_zero : ∀ n, valN (fun _ => 0) n = 0
  | 0 => rfl
  | n + 1 => by simp [valN, valN_zero n]

/-- The sum of the products up to row i, column j. -/
structure TmA (N M : Nat) (A B : Nat → Nat) (i j : Nat) (g : Nat → Nat) : Prop where
  v : valN g N = valN A i * valN B M + A i * 2 ^ i * valN B j
  b : ∀ q, g q ≤ 64 * i + j

/-- The carries up to place q. -/
structure TmC (N T : Nat) (q cy : Nat) (g : Nat → Nat) : Prop where
  v : valN g N + cy * 2 ^ q = T
  d : ∀ p, p < q → g p ≤ 1
  b : ∀ p, g p ≤ 4096
  c : cy ≤ 4096

theorem TmA.zero (N M : Nat) (A B : Nat → Nat) : TmA N M A B 0 0 (fun _ => 0) := ⟨by rw [valN_zero]; simp [valN], fun q => Nat.zero_le _⟩

theorem TmA.row {N M : Nat} {A B : Nat → Nat} {i : Nat} {g : Nat → Nat} (h : TmA N M A B i M g) (hM : M = 64) : TmA N M A B (i + 1) 0 g :=
  ⟨by rw [h.v]; simp only [valN, Nat.add_mul, Nat.mul_zero, Nat.add_zero], fun q => by have := h.b q; omega⟩

theorem TmA.step {N M : Nat} {A B : Nat → Nat} {i j : Nat} {g : Nat → Nat} (h : TmA N M A B i j g) (hij : i + j < N) (ha : A i ≤ 1) (hb : B j ≤ 1) : TmA N M A B i (j + 1) (fun k => if k = i + j then g (i + j) + A i * B j else g k) := by
  have hab : A i * B j ≤ 1 := by
    have := Nat.mul_le_mul ha hb
    omega
  refine ⟨?_, fun q => ?_⟩
  · have h1 := valN_set g (i + j) (g (i + j) + A i * B j) N
    rw [if_pos hij, if_pos hij, Nat.add_mul] at h1
    have e : valN B (j + 1) = valN B j + B j * 2 ^ j := rfl
    rw [e, Nat.mul_add, ← Nat.add_assoc, ← h.v]
    have e2 : A i * B j * 2 ^ (i + j) = A i * 2 ^ i * (B j * 2 ^ j) := by
      rw [Nat.pow_add]
      simp only [Nat.mul_assoc, Nat.mul_left_comm, Nat.mul_comm]
    rw [← e2]
    generalize g (i + j) * 2 ^ (i + j) = x at h1
    omega
  · have h1 := h.b q
    have h2 := h.b (i + j)
    split <;> omega

theorem TmA.done {N M : Nat} {A B : Nat → Nat} {g : Nat → Nat} (h : TmA N M A B M 0 g) (hM : M = 64) : TmC N (valN A M * valN B M) 0 0 g :=
  ⟨by rw [h.v]; simp [valN], fun p hp => absurd hp (Nat.not_lt_zero p), fun p => by have := h.b p; omega, Nat.zero_le _⟩

theorem TmC.step {N T q cy : Nat} {g : Nat → Nat} (h : TmC N T q cy g) (hq : q < N) : TmC N T (q + 1) ((g q + cy) / 2) (fun k => if k = q then (g q + cy) % 2 else g k) := by
  have hb := h.b q
  have hc := h.c
  refine ⟨?_, fun p hp => ?_, fun p => ?_, by omega⟩
  · have h1 := valN_set g q ((g q + cy) % 2) N
    rw [if_pos hq, if_pos hq] at h1
    rw [← h.v]
    have e1 : (g q + cy) / 2 * 2 ^ (q + 1) + (g q + cy) % 2 * 2 ^ q = g q * 2 ^ q + cy * 2 ^ q := by
      rw [Nat.pow_succ, ← Nat.mul_assoc, Nat.mul_right_comm, ← Nat.add_mul, ← Nat.add_mul]
      congr 1
      omega
    generalize (g q + cy) / 2 * 2 ^ (q + 1) = w at e1 ⊢
    generalize (g q + cy) % 2 * 2 ^ q = x at h1 e1
    generalize g q * 2 ^ q = y at h1 e1
    generalize cy * 2 ^ q = z at e1 ⊢
    omega
  · by_cases e : p = q
    · rw [if_pos e]; omega
    · rw [if_neg e]; exact h.d p (by omega)
  · have := h.b p
    split <;> omega

theorem TmC.last {N T cy : Nat} {g : Nat → Nat} (h : TmC N T N cy g) (hT : T < 2 ^ N) : (List.range N).map g = digN T N := by
  have h0 : cy = 0 := by
    have := h.v
    rcases Nat.eq_zero_or_pos cy with e | e
    · exact e
    · have h1 : 1 * 2 ^ N ≤ cy * 2 ^ N := Nat.mul_le_mul_right _ e
      omega
  have hv := h.v
  rw [h0, Nat.zero_mul, Nat.add_zero] at hv
  have hat : ∀ k, k < N → at_ ((List.range N).map g) k = g k := fun k hk => by
    rw [at_lt (by simpa using hk)]; simp
  refine digN_of (by simp) (fun k hk => by rw [hat k hk]; exact h.d k hk) ?_
  rw [← hv]
  exact valN_congr N hat

theorem leA_set {n e p q : Nat} {g : Nat → Nat} {d : Nat} {x : Int} (hx : x = (d : Int)) (hq : q = p) :
    LeA (.arr n e (fun i => selA (i = q) (I x) (I (g i : Nat)))) (.arr n e (fun i => I ((if i = p then d else g i : Nat)))) := by
  subst hx hq
  refine LeA.arr fun i hi => LeA.of_eq ?_
  rw [selA_eq]
  split <;> rfl

end Go.Proofs.Ytdjmplfjpnikkaa
namespace Go.Proofs.Ytdjmplfjpnikkaa
open Go Ar
set_option linter.unusedVariables false
set_option autoImplicit false
set_option maxHeartbeats 4000000
set_option maxRecDepth 100000

/-- Digits, each 0 or 1, of that length. -/
structure Dig (n : Nat) (xs : List Nat) : Prop where
  l : xs.length = n
  d : ∀ k, k < n → at_ xs k ≤ 1

def valD (n : Nat) (xs : List Nat) : Nat := valN (at_ xs) n

theorem dig_digN (m n : Nat) : Dig n (digN m n) := ⟨digN_len m n, fun k hk => by rw [digN_at hk]; omega⟩
theorem valD_digN {m n : Nat} (h : m < 2 ^ n) : valD n (digN m n) = m := by
  unfold valD
  rw [valN_congr n (fun k hk => digN_at hk), valN_dig, Nat.mod_eq_of_lt h]
theorem valD_lt {n : Nat} {xs : List Nat} (h : Dig n xs) : valD n xs < 2 ^ n := valN_lt n h.d

theorem leA_range (N e : Nat) (g : Nat → Nat) : LeA (.lst none N e (fun i => I (g i : Nat))) (encL IN e ((List.range N).map g)) := by
  unfold encL encT
  rw [List.length_map, List.length_range]
  refine LeA.lst (.inl rfl) (fun i hi => LeA.of_eq (congrArg (fun n : Nat => IN n) ?_))
  rw [at_lt (by simpa using hi)]
  simp

abbrev zer (k : Nat) : List Int := List.replicate k 0

theorem r1_times_x (a b : List Nat) (T : Nat) (ha : Dig 64 a) (hb : Dig 64 b) (hT : valD 64 a * valD 64 b = T) (hT2 : T < 2 ^ 128) : PureX Try.prog gl0 r1_times [encL IN 1 a, encL IN 1 b] (fun r => r = encL IN 1 (digN T 128)) := by
  refine pure_fnX mixed fn_r1_times nt_r1_times hc_r1_times (by simp) gl0n (by simp [nf]) ?_
  conv => whnf
  obtain ⟨hal, had⟩ := ha
  obtain ⟨hbl, hbd⟩ := hb
  refine loop_at mixed (fun (k : Nat) => ([(6, I k), (5, .sli 0 0 (zer k).length 1 3), (0, encL IN 1 a), (1, encL IN 1 b)], [(0, .box (.arr (zer k).length 1 fun i => I (at_ (zer k) i)))], 1)) (fun k => k ≤ 128) (fun k => 128 - k) 0 (Nat.zero_le _) ((le_nilv 5 1 3 (fun i => I (at_ ([] : List Int) i)) rfl).trans (le_st (le_r rfl) (leE_i rfl rfl (leE_eq rfl (.inl (lt_r rfl)) (leE_eq rfl (bnd_nf _ (nfL_N _ _)) (leE_eq rfl (bnd_nf _ (nfL_N _ _)) trivial)))) (leO_box (lt_r rfl) rfl (LeA.refl _) (bnd_nf _ (fun i => trivial)) trivial) gl0n)) ?_
  intro k hk
  conv => whnf
  have hn : ((128 : Nat) : Int) < 9223372036854775808 := by decide
  by_cases c : k < 128
  · refine br_true (decide_eq_true ((by omega : (k : Int) < 128))) ?_
    conv => whnf
    refine ⟨rfl, (by show ((zer k).length + 1) * 8 ≤ _; rw [List.length_replicate]; omega), ?_⟩
    conv => whnf
    refine ⟨k + 1, c, by show 128 - (k + 1) < 128 - k; omega, ?_⟩
    dsimp only
    rw [show zer (k + 1) = zer k ++ [0] from List.replicate_succ']
    exact (le_swap 0 2 gl0n).trans (le_st (le_r rfl) (leE_i rfl (inc_id c hn) (leE_le rfl (le_sli (by simp)) (.inl (lt_r rfl)) (leE_eq rfl (bnd_nf _ (nfL_N _ _)) (leE_eq rfl (bnd_nf _ (nfL_N _ _)) trivial)))) (leO_box (lt_r rfl) rfl (leA_grow rfl rfl) (fun i => trivial) trivial) gl0n)
  · refine br_false (decide_eq_false ((by omega : ¬ ((k : Int) < 128)))) ?_
    conv => whnf
    have hk2 : k = 128 := by omega
    have hzl : (zer k).length = 128 := by rw [List.length_replicate, hk2]
    refine loop_at mixed (fun (y : Nat × (Nat → Nat)) => ([(7, I y.1), (5, .sli 0 0 128 1 3), (0, encL IN 1 a), (1, encL IN 1 b)], [(0, .box (.arr 128 1 fun i => I (y.2 i : Nat)))], 1)) (fun y => y.1 ≤ 64 ∧ TmA 128 64 (at_ a) (at_ b) y.1 0 y.2) (fun y => 64 - y.1) (0, fun _ => 0) ⟨Nat.zero_le _, TmA.zero ..⟩ ?_ ?_
    · refine (le_st (le_r rfl) (leE_i rfl rfl (leE_le rfl (le_sli hzl) (.inl (lt_r rfl)) (leE_eq rfl (bnd_nf _ (nfL_N _ _)) (leE_eq rfl (bnd_nf _ (nfL_N _ _)) trivial)))) (leO_box (lt_r rfl) rfl ?_ (fun i => trivial) trivial) gl0n)
      rw [hzl]
      refine LeA.arr fun i hi => LeA.of_eq (congrArg (fun n => I n) ?_)
      rw [at_lt (by rw [hzl]; exact hi), List.getElem_replicate]
      rfl
    · rintro ⟨i, g⟩ ⟨hi, hv⟩
      dsimp only at hi hv ⊢
      conv => whnf
      have hna : (a.length : Int) < 9223372036854775808 := by omega
      by_cases c : i < 64
      · refine br_true (decide_eq_true ((by omega : (i : Int) < a.length))) ?_
        conv => whnf
        refine loop_at mixed (fun (y : Nat × (Nat → Nat)) => ([(8, I y.1), (7, I i), (5, .sli 0 0 128 1 3), (0, encL IN 1 a), (1, encL IN 1 b)], [(0, .box (.arr 128 1 fun i => I (y.2 i : Nat)))], 1)) (fun y => y.1 ≤ 64 ∧ TmA 128 64 (at_ a) (at_ b) i y.1 y.2) (fun y => 64 - y.1) (0, g) ⟨Nat.zero_le _, hv⟩ (le_st (le_r rfl) (leE_i rfl rfl (leE_i rfl rfl (leE_eq rfl (.inl (lt_r rfl)) (leE_eq rfl (bnd_nf _ (nfL_N _ _)) (leE_eq rfl (bnd_nf _ (nfL_N _ _)) trivial))))) (leO_box (lt_r rfl) rfl (LeA.refl _) (bnd_nf _ (fun i => trivial)) trivial) gl0n) ?_
        rintro ⟨j, g2⟩ ⟨hj, hv2⟩
        dsimp only at hj hv2 ⊢
        conv => whnf
        have hnb : (b.length : Int) < 9223372036854775808 := by omega
        by_cases c2 : j < 64
        · refine br_true (decide_eq_true ((by omega : (j : Int) < b.length))) ?_
          conv => whnf
          have cc : j < b.length := by omega
          have hij : IntKind.i64.wrap ((i : Int) + j) = ((i + j : Nat) : Int) := by rw [wrap_id (by unfold in64; omega)]; omega
          have h1 := had i c
          have h2 := hbd j c2
          have h3 := hv2.b (i + j)
          have h4 : at_ a i * at_ b j ≤ 1 := by have := Nat.mul_le_mul h1 h2; omega
          have e4 : IntKind.i64.wrap (((at_ a i : Nat) : Int) * ((at_ b j : Nat) : Int)) = ((at_ a i * at_ b j : Nat) : Int) := by
            rw [← Int.natCast_mul]
            generalize at_ a i * at_ b j = q at h4 ⊢
            exact wrap_id (by unfold in64; omega)
          have e5 : IntKind.i64.wrap ((g2 (i + j) : Nat) + IntKind.i64.wrap (((at_ a i : Nat) : Int) * ((at_ b j : Nat) : Int))) = ((g2 (i + j) + at_ a i * at_ b j : Nat) : Int) := by
            rw [e4]
            generalize at_ a i * at_ b j = q at h4 ⊢
            rw [wrap_id (by unfold in64; omega)]; omega
          rw [hij]
          repeat' first
            | (refine And.intro (by first | omega | (constructor <;> omega)) ?_; (conv => whnf))
          refine ⟨(j + 1, fun k => if k = i + j then g2 (i + j) + at_ a i * at_ b j else g2 k), ⟨c2, hv2.step (by omega) h1 h2⟩, (by show 64 - (j + 1) < 64 - j; omega), ?_⟩
          exact (le_st (le_r rfl) (leE_i rfl (inc_id cc hnb) (leE_i rfl rfl (leE_eq rfl (.inl (lt_r rfl)) (leE_eq rfl (bnd_nf _ (nfL_N _ _)) (leE_eq rfl (bnd_nf _ (nfL_N _ _)) trivial))))) (leO_box (lt_r rfl) rfl (leA_set (by rw [show 0 + Int.toNat ((i + j : Nat) : Int) = i + j from Nat.zero_add _]; exact e5) (Nat.zero_add _)) (fun i => trivial) trivial) gl0n)
        · refine br_false (decide_eq_false ((by omega : ¬ ((j : Int) < b.length)))) ?_
          conv => whnf
          have hj2 : j = 64 := by omega
          have ca : i < a.length := by omega
          rw [hj2] at hv2
          exact ⟨(i + 1, g2), ⟨c, hv2.row rfl⟩, (by show 64 - (i + 1) < 64 - i; omega), (le_st (le_r rfl) (leE_i rfl (inc_id ca hna) (leE_eq rfl (.inl (lt_r rfl)) (leE_eq rfl (bnd_nf _ (nfL_N _ _)) (leE_eq rfl (bnd_nf _ (nfL_N _ _)) trivial)))) (leO_box (lt_r rfl) rfl (LeA.refl _) (bnd_nf _ (fun i => trivial)) trivial) gl0n)⟩
      · refine br_false (decide_eq_false ((by omega : ¬ ((i : Int) < a.length)))) ?_
        conv => whnf
        have hi2 : i = 64 := by omega
        rw [hi2] at hv
        have hd := hv.done rfl
        rw [show valN (at_ a) 64 * valN (at_ b) 64 = T from hT] at hd
        refine loop_at mixed (fun (y : Nat × Nat × (Nat → Nat)) => ([(10, I y.1), (9, I y.2.1), (5, .sli 0 0 128 1 3)], [(0, .box (.arr 128 1 fun i => I (y.2.2 i : Nat)))], 1)) (fun y => y.1 ≤ 128 ∧ TmC 128 T y.1 y.2.1 y.2.2) (fun y => 128 - y.1) (0, 0, g) ⟨Nat.zero_le _, hd⟩ (le_st (le_r rfl) (leE_i rfl rfl (leE_i rfl rfl (leE_eq rfl (.inl (lt_r rfl)) trivial))) (leO_box (lt_r rfl) rfl (LeA.refl _) (bnd_nf _ (fun i => trivial)) trivial) gl0n) ?_
        rintro ⟨q, cy, g2⟩ ⟨hq, hv2⟩
        dsimp only at hq hv2 ⊢
        conv => whnf
        by_cases c3 : q < 128
        · refine br_true (decide_eq_true ((by omega : (q : Int) < 128))) ?_
          conv => whnf
          have h1 := hv2.b q
          have h2 := hv2.c
          have e1 : IntKind.i64.wrap (((g2 q : Nat) : Int) + (cy : Nat)) = ((g2 q + cy : Nat) : Int) := by rw [wrap_id (by unfold in64; omega)]; omega
          repeat' first
            | (refine And.intro (by first | omega | (constructor <;> omega)) ?_; (conv => whnf))
            | (rw [e1]; conv => whnf)
          have e2 : (((g2 q + cy : Nat) : Int).tmod 2) = (((g2 q + cy) % 2 : Nat) : Int) := by rw [Int.tmod_eq_emod_of_nonneg (by omega)]; omega
          have e3 : IntKind.i64.wrap (((g2 q + cy : Nat) : Int).tdiv 2) = (((g2 q + cy) / 2 : Nat) : Int) := by rw [Int.tdiv_eq_ediv_of_nonneg (by omega), wrap_id (by unfold in64; omega)]; omega
          refine ⟨(q + 1, (g2 q + cy) / 2, fun k => if k = q then (g2 q + cy) % 2 else g2 k), ⟨c3, hv2.step c3⟩, (by show 128 - (q + 1) < 128 - q; omega), ?_⟩
          exact (le_st (le_r rfl) (leE_i rfl (inc_id c3 hn) (leE_i rfl (by rw [show 0 + Int.toNat (q : Int) = q from Nat.zero_add _, e1]; exact e3) (leE_eq rfl (.inl (lt_r rfl)) trivial))) (leO_box (lt_r rfl) rfl (leA_set (by rw [show 0 + Int.toNat (q : Int) = q from Nat.zero_add _, e1]; exact e2) (Nat.zero_add _)) (fun i => trivial) trivial) gl0n)
        · refine br_false (decide_eq_false ((by omega : ¬ ((q : Int) < 128)))) ?_
          conv => whnf
          have hq2 : q = 128 := by omega
          rw [hq2] at hv2
          have hl := hv2.last hT2
          refine fin_le (le_freeze 4 0 rfl rfl) ?_
          refine fin_r (encL IN 1 (digN T 128)) (nfL_N _ _) rfl ?_
          conv => whnf
          rw [← hl]
          exact (leA_range 128 1 g2).le

end Go.Proofs.Ytdjmplfjpnikkaa
namespace Go.Proofs.Ytdjmplfjpnikkaa
open Go Ar
set_option linter.unusedVariables false
set_option autoImplicit false
set_option maxHeartbeats 4000000
set_option maxRecDepth 100000

/-- One step of the long division. -/
theorem div_step (D m j : Nat) (hm : 0 < m) :
    let x := 2 * (D / 2 ^ (j + 1) % m) + D / 2 ^ j % 2
    x < 2 * m ∧ D / 2 ^ j % m = (if x ≥ m then x - m else x) ∧ D / m / 2 ^ j % 2 = (if x ≥ m then 1 else 0) := by
  intro x
  have e0 : D / 2 ^ (j + 1) = D / 2 ^ j / 2 := by rw [Nat.pow_succ, ← Nat.div_div_eq_div_mul]
  have e1 : D / m / 2 ^ j = D / 2 ^ j / m := by rw [Nat.div_div_eq_div_mul, Nat.div_div_eq_div_mul, Nat.mul_comm]
  rw [e1]
  show 2 * (D / 2 ^ (j + 1) % m) + D / 2 ^ j % 2 < 2 * m ∧ D / 2 ^ j % m = (if 2 * (D / 2 ^ (j + 1) % m) + D / 2 ^ j % 2 ≥ m then 2 * (D / 2 ^ (j + 1) % m) + D / 2 ^ j % 2 - m else 2 * (D / 2 ^ (j + 1) % m) + D / 2 ^ j % 2) ∧ D / 2 ^ j / m % 2 = (if 2 * (D / 2 ^ (j + 1) % m) + D / 2 ^ j % 2 ≥ m then 1 else 0)
  rw [e0]
  generalize D / 2 ^ j = H
  have h1 := Nat.div_add_mod (H / 2) m
  have h2 := Nat.mod_lt (H / 2) hm
  have h3 : H = 2 * (H / 2) + H % 2 := by omega
  generalize hq : H / 2 / m = q at h1
  generalize H / 2 % m = r at h1 h2
  have hx : H = m * (2 * q) + (2 * r + H % 2) := by
    have : m * (2 * q) = 2 * (m * q) := by rw [Nat.mul_left_comm]
    omega
  generalize hb : H % 2 = b at *
  have hb2 : b < 2 := by omega
  by_cases c : 2 * r + b ≥ m
  · rw [if_pos c, if_pos c]
    have hx2 : H = m * (2 * q + 1) + (2 * r + b - m) := by rw [Nat.mul_add, Nat.mul_one]; omega
    have hlt : 2 * r + b - m < m := by omega
    refine ⟨by omega, ?_, ?_⟩
    · rw [hx2, Nat.mul_add_mod, Nat.mod_eq_of_lt hlt]
    · rw [hx2, Nat.mul_add_div hm, Nat.div_eq_of_lt hlt]; omega
  · rw [if_neg c, if_neg c]
    have hlt : 2 * r + b < m := by omega
    refine ⟨by omega, ?_, ?_⟩
    · rw [hx, Nat.mul_add_mod, Nat.mod_eq_of_lt hlt]
    · rw [hx, Nat.mul_add_div hm, Nat.div_eq_of_lt hlt]; omega

/-- The quotient's digits from place j on. -/
def qd (Q j i : Nat) : Nat := if j ≤ i then Q / 2 ^ i % 2 else 0

theorem leA_qd1 {n e p q Q : Nat} (h1 : Q / 2 ^ p % 2 = 1) (hq : q = p) :
    LeA (.arr n e (fun i => selA (i = q) (I 1) (I (qd Q (p + 1) i : Nat)))) (.arr n e (fun i => I (qd Q p i : Nat))) := by
  subst hq
  refine LeA.arr fun i hi => LeA.of_eq ?_
  rw [selA_eq]
  unfold qd
  by_cases c : i = q
  · subst c; rw [if_pos rfl, if_pos (Nat.le_refl _), h1]; rfl
  · rw [if_neg c]
    by_cases c2 : q + 1 ≤ i
    · rw [if_pos c2, if_pos (by omega)]
    · rw [if_neg c2, if_neg (by omega)]

theorem leA_qd0 {n e p Q : Nat} (h1 : Q / 2 ^ p % 2 = 0) :
    LeA (.arr n e (fun i => I (qd Q (p + 1) i : Nat))) (.arr n e (fun i => I (qd Q p i : Nat))) := by
  refine LeA.arr fun i hi => LeA.of_eq ?_
  unfold qd
  by_cases c : i = p
  · subst c; rw [if_neg (by omega), if_pos (Nat.le_refl _), h1]
  · by_cases c2 : p + 1 ≤ i
    · rw [if_pos c2, if_pos (by omega)]
    · rw [if_neg c2, if_neg (by omega)]

theorem qd_all (Q N : Nat) : (List.range N).map (qd Q 0) = digN Q N := by
  unfold digN qd
  simp

theorem div_top {D N : Nat} (h : D < 2 ^ N) (m : Nat) : D / 2 ^ N % m = 0 := by rw [Nat.div_eq_of_lt h, Nat.zero_mod]

theorem r1_over_x (D m : Nat) (hD : D < 2 ^ 128) (hm : 0 < m) (hm2 : m ≤ 9223372036854775808) : PureX Try.prog gl0 r1_over [encL IN 1 (digN D 128), U m] (fun r => r = tup2 (encL IN 1 (digN (D / m) 128)) (U (D % m : Nat))) := by
  refine pure_fnX mixed fn_r1_over nt_r1_over hc_r1_over (by simp) gl0n (by simp [nf]) ?_
  conv => whnf
  have hdl := digN_len D 128
  have hda : ∀ k, k < 128 → at_ (digN D 128) k = D / 2 ^ k % 2 := fun k hk => digN_at hk
  have htop := div_top hD m
  generalize hds : digN D 128 = d at *
  have hn : (d.length : Int) < 9223372036854775808 := by omega
  refine loop_at mixed (fun (k : Nat) => ([(7, I k), (6, .sli 0 0 (zer k).length 1 3), (0, encL IN 1 d), (1, U m)], [(0, .box (.arr (zer k).length 1 fun i => I (at_ (zer k) i)))], 1)) (fun k => k ≤ d.length) (fun k => d.length - k) 0 (Nat.zero_le _) ((le_nilv 6 1 3 (fun i => I (at_ ([] : List Int) i)) rfl).trans (le_st (le_r rfl) (leE_i rfl rfl (leE_eq rfl (.inl (lt_r rfl)) (leE_eq rfl (bnd_nf _ (nfL_N _ _)) (leE_i rfl rfl trivial)))) (leO_box (lt_r rfl) rfl (LeA.refl _) (bnd_nf _ (fun i => trivial)) trivial) gl0n)) ?_
  intro k hk
  conv => whnf
  by_cases c : k < d.length
  · refine br_true (decide_eq_true ((by omega : (k : Int) < d.length))) ?_
    conv => whnf
    refine ⟨rfl, (by show ((zer k).length + 1) * 8 ≤ _; rw [List.length_replicate]; omega), ?_⟩
    conv => whnf
    refine ⟨k + 1, c, by show d.length - (k + 1) < d.length - k; omega, ?_⟩
    dsimp only
    rw [show zer (k + 1) = zer k ++ [0] from List.replicate_succ']
    exact (le_swap 0 2 gl0n).trans (le_st (le_r rfl) (leE_i rfl (inc_id c hn) (leE_le rfl (le_sli (by simp)) (.inl (lt_r rfl)) (leE_eq rfl (bnd_nf _ (nfL_N _ _)) (leE_i rfl rfl trivial)))) (leO_box (lt_r rfl) rfl (leA_grow rfl rfl) (fun i => trivial) trivial) gl0n)
  · refine br_false (decide_eq_false ((by omega : ¬ ((k : Int) < d.length)))) ?_
    conv => whnf
    have hk2 : k = 128 := by omega
    have hzl : (zer k).length = 128 := by rw [List.length_replicate, hk2]
    refine loop_at mixed (fun (j : Nat) => ([(9, I ((j : Int) - 1)), (8, U (D / 2 ^ j % m : Nat)), (6, .sli 0 0 128 1 3), (0, encL IN 1 d), (1, U m)], [(0, .box (.arr 128 1 fun i => I (qd (D / m) j i : Nat)))], 1)) (fun j => j ≤ 128) (fun j => j) 128 (Nat.le_refl _) ?_ ?_
    · refine (le_st (le_r rfl) (leE_i rfl ?_ (leE_i rfl ?_ (leE_le rfl (le_sli hzl) (.inl (lt_r rfl)) (leE_eq rfl (bnd_nf _ (nfL_N _ _)) (leE_i rfl rfl trivial))))) (leO_box (lt_r rfl) rfl ?_ (fun i => trivial) trivial) gl0n)
      · rw [wrap_id (by unfold in64; omega)]; omega
      · rw [htop]; rfl
      · rw [hzl]
        refine LeA.arr fun i hi => LeA.of_eq (congrArg (fun n => I n) ?_)
        rw [at_lt (by rw [hzl]; exact hi), List.getElem_replicate]
        unfold qd
        rw [if_neg (by omega)]
        rfl
    · intro j hj
      conv => whnf
      by_cases c : (j : Int) - 1 ≥ 0
      · refine br_true (decide_eq_true (c)) ?_
        conv => whnf
        obtain ⟨p, rfl⟩ : ∃ p, j = p + 1 := ⟨j - 1, by omega⟩
        have hp1 : ((p + 1 : Nat) : Int) - 1 = (p : Int) := by omega
        obtain ⟨s1, s2, s3⟩ := div_step D m p hm
        have hr := Nat.mod_lt (D / 2 ^ (p + 1)) hm
        have hb : D / 2 ^ p % 2 < 2 := Nat.mod_lt _ (by decide)
        have hap := hda p (by omega)
        rw [hp1]
        refine ⟨by omega, ?_⟩
        conv => whnf
        have e1 : IntKind.u64.wrap (IntKind.u64.wrap (2 * ((D / 2 ^ (p + 1) % m : Nat) : Int)) + IntKind.u64.wrap ((at_ d p : Nat) : Int)) = ((2 * (D / 2 ^ (p + 1) % m) + D / 2 ^ p % 2 : Nat) : Int) := by
          rw [hap]
          generalize D / 2 ^ (p + 1) % m = r at hr ⊢
          generalize D / 2 ^ p % 2 = b at hb ⊢
          rw [wrapu_id (n := 2 * (r : Int)) (by unfold inU64; omega), wrapu_id (n := (b : Int)) (by unfold inU64; omega), wrapu_id (by unfold inU64; omega)]
          omega
        have e2 : IntKind.i64.wrap ((p : Int) - 1) = (p : Int) - 1 := wrap_id (by unfold in64; omega)
        by_cases c2 : 2 * (D / 2 ^ (p + 1) % m) + D / 2 ^ p % 2 ≥ m
        · refine br_true (decide_eq_true (show IntKind.u64.wrap (IntKind.u64.wrap (2 * ((D / 2 ^ (p + 1) % m : Nat) : Int)) + IntKind.u64.wrap ((at_ d p : Nat) : Int)) ≥ (m : Int) by rw [e1]; exact Int.ofNat_le.2 c2)) ?_
          conv => whnf
          rw [if_pos c2] at s2 s3
          repeat' first
            | (refine And.intro (by first | omega | (constructor <;> omega)) ?_; (conv => whnf))
          refine ⟨p, by show p ≤ 128; omega, by show p < p + 1; omega, ?_⟩
          refine (le_st (le_r rfl) (leE_i rfl e2 (leE_i rfl ?_ (leE_eq rfl (.inl (lt_r rfl)) (leE_eq rfl (bnd_nf _ (nfL_N _ _)) (leE_i rfl rfl trivial))))) (leO_box (lt_r rfl) rfl (leA_qd1 s3 (Nat.zero_add _)) (fun i => trivial) trivial) gl0n)
          show IntKind.u64.wrap (IntKind.u64.wrap (IntKind.u64.wrap (2 * ((D / 2 ^ (p + 1) % m : Nat) : Int)) + IntKind.u64.wrap ((at_ d p : Nat) : Int)) - m) = _
          rw [e1, s2]
          generalize D / 2 ^ (p + 1) % m = r at hr c2 ⊢
          generalize D / 2 ^ p % 2 = b at hb c2 ⊢
          rw [wrapu_id (by unfold inU64; omega)]
          omega
        · refine br_false (decide_eq_false (show ¬ IntKind.u64.wrap (IntKind.u64.wrap (2 * ((D / 2 ^ (p + 1) % m : Nat) : Int)) + IntKind.u64.wrap ((at_ d p : Nat) : Int)) ≥ (m : Int) by rw [e1]; omega)) ?_
          conv => whnf
          rw [if_neg c2] at s2 s3
          refine ⟨p, by show p ≤ 128; omega, by show p < p + 1; omega, ?_⟩
          exact (le_st (le_r rfl) (leE_i rfl e2 (leE_i rfl (by rw [s2]; exact e1) (leE_eq rfl (.inl (lt_r rfl)) (leE_eq rfl (bnd_nf _ (nfL_N _ _)) (leE_i rfl rfl trivial))))) (leO_box (lt_r rfl) rfl (leA_qd0 s3) (fun i => trivial) trivial) gl0n)
      · refine br_false (decide_eq_false (c)) ?_
        conv => whnf
        have hj0 : j = 0 := by omega
        subst hj0
        refine fin_le (le_freeze 4 0 rfl rfl) ?_
        refine fin_r (tup2 (encL IN 1 (digN (D / m) 128)) (U (D % m : Nat))) ⟨nfL_N _ _, trivial, trivial⟩ rfl ?_
        conv => whnf
        rw [← qd_all]
        refine (LeA.tup (LeA.cons (leA_range 128 1 (qd (D / m) 0)) (LeA.cons (LeA.of_eq (congrArg (fun n : Nat => U n) ?_)) (LeA.refl _)))).le
        simp

end Go.Proofs.Ytdjmplfjpnikkaa
namespace Go.Proofs.Ytdjmplfjpnikkaa
open Go Ar
set_option linter.unusedVariables false
set_option autoImplicit false
set_option maxHeartbeats 4000000
set_option maxRecDepth 100000

theorem more_step (Q k cy : Nat) (h : (Q + 1) / 2 ^ k = Q / 2 ^ k + cy) (hc : cy ≤ 1) :
    (Q / 2 ^ k % 2 + cy) % 2 = (Q + 1) / 2 ^ k % 2 ∧ (Q + 1) / 2 ^ (k + 1) = Q / 2 ^ (k + 1) + (Q / 2 ^ k % 2 + cy) / 2 ∧ (Q / 2 ^ k % 2 + cy) / 2 ≤ 1 := by
  have e1 : (Q + 1) / 2 ^ (k + 1) = (Q + 1) / 2 ^ k / 2 := by rw [Nat.pow_succ, ← Nat.div_div_eq_div_mul]
  have e2 : Q / 2 ^ (k + 1) = Q / 2 ^ k / 2 := by rw [Nat.pow_succ, ← Nat.div_div_eq_div_mul]
  rw [e1, e2, h]
  generalize Q / 2 ^ k = x
  omega

structure MoI (Q k cy : Nat) : Prop where
  h : (Q + 1) / 2 ^ k = Q / 2 ^ k + cy
  c : cy ≤ 1
theorem MoI.zero (Q : Nat) : MoI Q 0 1 := ⟨by simp, Nat.le_refl _⟩
theorem MoI.step {Q k cy : Nat} (h : MoI Q k cy) : MoI Q (k + 1) ((Q / 2 ^ k % 2 + cy) / 2) := ⟨(more_step Q k cy h.h h.c).2.1, (more_step Q k cy h.h h.c).2.2⟩

theorem r1_more_x (Q : Nat) : PureX Try.prog gl0 r1_more [encL IN 1 (digN Q 128)] (fun r => r = encL IN 1 (digN (Q + 1) 128)) := by
  refine pure_fnX mixed fn_r1_more nt_r1_more hc_r1_more (by simp) gl0n (by simp [nf]) ?_
  conv => whnf
  have hdl := digN_len Q 128
  have hda : ∀ k, k < 128 → at_ (digN Q 128) k = Q / 2 ^ k % 2 := fun k hk => digN_at hk
  generalize digN Q 128 = d at *
  refine loop_at mixed (fun (y : Nat × Nat) => ([(5, I y.1), (3, encT (some 0) IN 1 (digN (Q + 1) y.1)), (4, I y.2), (0, encL IN 1 d)], [(0, .room (digN (Q + 1) y.1).length 1 3)], 1)) (fun y => y.1 ≤ d.length ∧ MoI Q y.1 y.2) (fun y => d.length - y.1) (0, 1) ⟨Nat.zero_le _, MoI.zero Q⟩ ((le_nil 3 1 3 (fun i => IN (at_ ([] : List Nat) i)) rfl).trans (le_st (le_r rfl) (leE_i rfl rfl (leE_eq rfl (bnd_encT (fun x => trivial) (lt_r rfl)) (leE_i rfl rfl (leE_eq rfl (bnd_nf _ (nfL_N _ _)) trivial)))) (leO_room (lt_r rfl) rfl trivial) gl0n)) ?_
  rintro ⟨k, cy⟩ ⟨hk, hm⟩
  dsimp only at hk hm ⊢
  conv => whnf
  have hn : (d.length : Int) < 9223372036854775808 := by omega
  have hl := digN_len (Q + 1) k
  by_cases c : k < d.length
  · refine br_true (decide_eq_true ((by omega : (k : Int) < d.length))) ?_
    conv => whnf
    have hap := hda k (by omega)
    have hb : Q / 2 ^ k % 2 < 2 := Nat.mod_lt _ (by decide)
    have hcy := hm.c
    obtain ⟨s1, s2, s3⟩ := more_step Q k cy hm.h hm.c
    have e1 : IntKind.i64.wrap (((at_ d k : Nat) : Int) + (cy : Nat)) = ((Q / 2 ^ k % 2 + cy : Nat) : Int) := by
      rw [hap]
      generalize Q / 2 ^ k % 2 = b at hb ⊢
      rw [wrap_id (by unfold in64; omega)]; omega
    have e2 : ((Q / 2 ^ k % 2 + cy : Nat) : Int).tmod 2 = (((Q + 1) / 2 ^ k % 2 : Nat) : Int) := by
      rw [← s1]
      generalize Q / 2 ^ k % 2 = b at hb ⊢
      rw [Int.tmod_eq_emod_of_nonneg (by omega)]; omega
    have e3 : IntKind.i64.wrap (((Q / 2 ^ k % 2 + cy : Nat) : Int).tdiv 2) = (((Q / 2 ^ k % 2 + cy) / 2 : Nat) : Int) := by
      generalize Q / 2 ^ k % 2 = b at hb ⊢
      rw [Int.tdiv_eq_ediv_of_nonneg (by omega), wrap_id (by unfold in64; omega)]; omega
    refine ⟨by omega, ?_⟩
    conv => whnf
    repeat' first
      | (refine And.intro (by first | rfl | omega | decide | (show (_ + 1) * 8 ≤ _; omega)) ?_; (conv => whnf))
    refine ⟨(k + 1, (Q / 2 ^ k % 2 + cy) / 2), ⟨c, hm.step⟩, by show d.length - (k + 1) < d.length - k; omega, ?_⟩
    dsimp only
    rw [digN_s]
    exact (le_st (le_r rfl) (leE_i rfl (inc_id c hn) (leE_le rfl (leA_snoc (enc := IN) (LeA.of_eq (congrArg (fun n => I n) (show (IntKind.i64.wrap (((at_ d k : Nat) : Int) + (cy : Nat))).tmod 2 = _ by rw [e1]; exact e2)))).le (bnd_encT (fun x => trivial) (lt_r rfl)) (leE_i rfl (show IntKind.i64.wrap ((IntKind.i64.wrap (((at_ d k : Nat) : Int) + (cy : Nat))).tdiv 2) = _ by rw [e1]; exact e3) (leE_eq rfl (bnd_nf _ (nfL_N _ _)) trivial)))) (leO_room (lt_r rfl) (by (simp; rfl)) trivial) gl0n)
  · refine br_false (decide_eq_false ((by omega : ¬ ((k : Int) < d.length)))) ?_
    conv => whnf
    have hk2 : k = 128 := by omega
    refine fin_r (encL IN 1 (digN (Q + 1) 128)) (nfL_N _ _) rfl ?_
    conv => whnf
    rw [← hk2]
    exact leA_drop.le

/-- The number of this size and sign, if it fits. -/
def sgnV (neg : Bool) (M : Nat) : AV := match neg with
  | false => if M ≤ 9223372036854775807 then tup2 (I (M : Nat)) (B true) else tup2 (I 0) (B false)
  | true => if M ≤ 9223372036854775808 then tup2 (I (-(M : Nat))) (B true) else tup2 (I 0) (B false)

structure SgI (M k : Nat) : Prop where
  h : ∀ i, 64 ≤ i → i < k → M / 2 ^ i % 2 = 0

theorem bits_small {M : Nat} : ∀ n, (∀ i, i < n → M / 2 ^ i % 2 = 0) → M % 2 ^ n = 0
  | 0, _ => Nat.mod_one M
  | n + 1, h => by
    rw [Nat.pow_succ, Nat.mod_mul, bits_small n (fun i hi => h i (by omega)), h n (by omega)]
    simp

theorem SgI.lt {M k : Nat} (h : SgI M k) (hk : k = 128) (hM : M < 2 ^ 128) : M < 2 ^ 64 := by
  have h1 : (M / 2 ^ 64) % 2 ^ 64 = 0 := bits_small 64 (fun i hi => by
    have := h.h (64 + i) (by omega) (by omega)
    rw [Nat.pow_add, ← Nat.div_div_eq_div_mul] at this
    exact this)
  omega

theorem sg_big {M i : Nat} (h : M / 2 ^ i % 2 ≠ 0) (hi : 64 ≤ i) : 18446744073709551616 ≤ M := by
  rcases Nat.lt_or_ge M (2 ^ i) with c | c
  · rw [Nat.div_eq_of_lt c] at h; exact absurd rfl h
  · have : 2 ^ 64 ≤ 2 ^ i := Nat.pow_le_pow_right (by decide) hi
    omega

theorem r1_signed_x (b : Bool) (M : Nat) (hM : M < 2 ^ 128) : PureX Try.prog gl0 r1_signed [B b, encL IN 1 (digN M 128)] (fun r => r = sgnV b M) := by
  refine pure_fnX mixed fn_r1_signed nt_r1_signed hc_r1_signed (by simp) gl0n (by simp [nf]) ?_
  conv => whnf
  have hdl := digN_len M 128
  have hda : ∀ k, k < 128 → at_ (digN M 128) k = M / 2 ^ k % 2 := fun k hk => digN_at hk
  generalize digN M 128 = d at *
  have hn : (d.length : Int) < 9223372036854775808 := by omega
  refine loop_at mixed (fun (k : Nat) => ([(6, I k), (1, encL IN 1 d), (0, B b)], [], 0)) (fun k => (64 ≤ k ∧ k ≤ d.length) ∧ SgI M k) (fun k => d.length - k) 64 ⟨⟨by omega, by omega⟩, ⟨fun i h1 h2 => by omega⟩⟩ (le_st (le_r rfl) (leE_i rfl rfl (leE_eq rfl (bnd_nf _ (nfL_N _ _)) (leE_b rfl rfl trivial))) trivial gl0n) ?_
  rintro k ⟨⟨h64, hk⟩, hi⟩
  conv => whnf
  by_cases c : k < d.length
  · refine br_true (decide_eq_true ((by omega : (k : Int) < d.length))) ?_
    conv => whnf
    have hap := hda k (by omega)
    refine ⟨by omega, ?_⟩
    conv => whnf
    by_cases c2 : M / 2 ^ k % 2 = 0
    · refine br_false (decide_eq_false ((by rw [show at_ d (Int.toNat (k : Int)) = M / 2 ^ k % 2 from hap, c2]; simp : ¬ ((at_ d (Int.toNat (k : Int)) : Nat) : Int) ≠ 0))) ?_
      conv => whnf
      exact ⟨k + 1, ⟨⟨by omega, c⟩, ⟨fun i h1 h2 => by by_cases e : i = k; subst e; exact c2; exact hi.h i h1 (by omega)⟩⟩, by show d.length - (k + 1) < d.length - k; omega, (le_st (le_r rfl) (leE_i rfl (inc_id c hn) (leE_eq rfl (bnd_nf _ (nfL_N _ _)) (leE_b rfl rfl trivial))) trivial gl0n)⟩
    · refine br_true (decide_eq_true ((by rw [show at_ d (Int.toNat (k : Int)) = M / 2 ^ k % 2 from hap]; omega : ((at_ d (Int.toNat (k : Int)) : Nat) : Int) ≠ 0))) ?_
      conv => whnf
      refine fin_e ?_
      conv => whnf
      have := sg_big c2 h64
      refine ⟨by simp [packA, consL, nf], ?_⟩
      cases b
      · show _ = (if M ≤ 9223372036854775807 then _ else _); rw [if_neg (by omega)]; rfl
      · show _ = (if M ≤ 9223372036854775808 then _ else _); rw [if_neg (by omega)]; rfl
  · refine br_false (decide_eq_false ((by omega : ¬ ((k : Int) < d.length)))) ?_
    conv => whnf
    have hlt := hi.lt (by omega) hM
    refine loop_at mixed (fun (j : Nat) => ([(8, I ((j : Int) - 1)), (7, U (M / 2 ^ j : Nat)), (1, encL IN 1 d), (0, B b)], [], 0)) (fun j => j ≤ 64) (fun j => j) 64 (Nat.le_refl _) (le_st (le_r rfl) (leE_i rfl rfl (leE_i rfl ((by rw [Nat.div_eq_of_lt hlt]; rfl)) (leE_eq rfl (bnd_nf _ (nfL_N _ _)) (leE_b rfl rfl trivial)))) trivial gl0n) ?_
    intro j hj
    conv => whnf
    by_cases c : (j : Int) - 1 ≥ 0
    · refine br_true (decide_eq_true (c)) ?_
      conv => whnf
      obtain ⟨p, rfl⟩ : ∃ p, j = p + 1 := ⟨j - 1, by omega⟩
      have hp1 : ((p + 1 : Nat) : Int) - 1 = (p : Int) := by omega
      have hap := hda p (by omega)
      have e0 : M / 2 ^ (p + 1) = M / 2 ^ p / 2 := by rw [Nat.pow_succ, ← Nat.div_div_eq_div_mul]
      have e9 : M / 2 ^ p < 18446744073709551616 := Nat.lt_of_le_of_lt (Nat.div_le_self _ _) hlt
      rw [hp1]
      refine ⟨by omega, ?_⟩
      conv => whnf
      have e2 : IntKind.i64.wrap ((p : Int) - 1) = (p : Int) - 1 := wrap_id (by unfold in64; omega)
      refine ⟨p, by show p ≤ 64; omega, by show p < p + 1; omega, (le_st (le_r rfl) (leE_i rfl (e2) (leE_i rfl (?_) (leE_eq rfl (bnd_nf _ (nfL_N _ _)) (leE_b rfl rfl trivial)))) trivial gl0n)⟩
      show IntKind.u64.wrap (IntKind.u64.wrap (2 * ((M / 2 ^ (p + 1) : Nat) : Int)) + IntKind.u64.wrap ((at_ d p : Nat) : Int)) = _
      rw [hap, e0]
      generalize M / 2 ^ p = x at e9 ⊢
      rw [wrapu_id (n := 2 * ((x / 2 : Nat) : Int)) (by unfold inU64; omega), wrapu_id (n := ((x % 2 : Nat) : Int)) (by unfold inU64; omega), wrapu_id (by unfold inU64; omega)]
      omega
    · refine br_false (decide_eq_false (c)) ?_
      conv => whnf
      have hj0 : j = 0 := by omega
      subst hj0
      have e5 : M / 2 ^ 0 = M := by simp
      rw [e5]
      have hlt : M < 18446744073709551616 := hlt
      cases b <;> (conv => whnf)
      · repeat' first
          | (refine br_dec (fun h0 => ?_) (fun h0 => ?_) <;> (conv => whnf))
          | (refine br_intro (fun hb => ?_) (fun hb => ?_) <;> ((try rw [hb]); (conv => whnf); (try simp at hb)))
          | (refine aI ?_; (conv => whnf))
          | (refine fin_e ?_; (conv => whnf); refine ⟨by simp [packA, consL, nf], ?_⟩; show _ = (if M ≤ 9223372036854775807 then _ else _); first | (rw [if_neg (by omega)]; rfl) | (rw [if_pos (by omega)]; exact congrArg (fun n => tup2 (I n) (B true)) (wrap_id (by unfold in64; omega))))
          | fail
      · repeat' first
          | (refine br_dec (fun h0 => ?_) (fun h0 => ?_) <;> (conv => whnf))
          | (refine br_intro (fun hb => ?_) (fun hb => ?_) <;> ((try rw [hb]); (conv => whnf); (try simp at hb)))
          | (refine aI ?_; (conv => whnf))
          | (refine fin_e ?_; (conv => whnf); refine ⟨by simp [packA, consL, nf], ?_⟩; show _ = (if M ≤ 9223372036854775808 then _ else _); first | (rw [if_neg (by omega)]; rfl) | (rw [if_pos (by omega)]; exact congrArg (fun n => tup2 (I n) (B true)) (by first | omega | (rw [wrapu_id (n := (M : Int) - 1) (by unfold inU64; omega), wrap_id (n := (M : Int) - 1) (by unfold in64; omega), wrap_id (n := 0 - ((M : Int) - 1)) (by unfold in64; omega), wrap_id (by unfold in64; omega)]; omega))))
          | fail

/-- The product over a number, to the nearest, a half to the even one. -/
def mdN (a b c : Nat) : Nat := if a * b % c > c - a * b % c ∨ (a * b % c = c - a * b % c ∧ a * b / c % 2 = 1) then a * b / c + 1 else a * b / c
def mdV (a b c : Int) : AV := if c = 0 then tup2 (I 0) (B false) else sgnV ((decide (a < 0) != decide (b < 0)) != decide (c < 0)) (mdN a.natAbs b.natAbs c.natAbs)

theorem sgn_is (b : Bool) (M : Nat) : ∃ n k, sgnV b M = tup2 (I n) (B k) := by
  unfold sgnV
  cases b
  · show ∃ n k, (if M ≤ 9223372036854775807 then _ else _) = _
    split
    · exact ⟨_, _, rfl⟩
    · exact ⟨_, _, rfl⟩
  · show ∃ n k, (if M ≤ 9223372036854775808 then _ else _) = _
    split
    · exact ⟨_, _, rfl⟩
    · exact ⟨_, _, rfl⟩

theorem sgn_call {b : Bool} {M : Nat} (hM : M < 2 ^ 128) : ∃ n k, PureX Try.prog gl0 r1_signed [B b, encL IN 1 (digN M 128)] (fun r => r = tup2 (I n) (B k)) ∧ sgnV b M = tup2 (I n) (B k) := by
  obtain ⟨n, k, e⟩ := sgn_is b M
  exact ⟨n, k, (r1_signed_x b M hM).mono (fun r _ h => h.trans e), e⟩

theorem call_sgn {c : Bool} {b : Bool} {M : Nat} (hM : M < 2 ^ 128) {o : Objs} {m : Nat} {K : AV → Objs → Nat → Prop} (h : ∀ n k, sgnV b M = tup2 (I n) (B k) → K (tup2 (I n) (B k)) o m) : CallB c Try.prog gl0 r1_signed [B b, encL IN 1 (digN M 128)] o m K := by
  obtain ⟨n, k, h1, h2⟩ := sgn_call (b := b) hM
  refine call_x2 h1 (LeL.refl _) ?_
  rintro _ - rfl
  exact h n k h2

theorem abs_le {x : Int} (h : in64 x) : x.natAbs ≤ 9223372036854775808 := by unfold in64 at h; omega

theorem r1_MulDiv_x (a b c : Int) (ha : in64 a) (hb : in64 b) (hc : in64 c) : PureX Try.prog gl0 r1_MulDiv [I a, I b, I c] (fun r => r = mdV a b c) := by
  refine pure_fnX mixed fn_r1_MulDiv nt_r1_MulDiv hc_r1_MulDiv (by simp) gl0n (by simp [nf]) ?_
  conv => whnf
  unfold mdV
  by_cases c0 : c = 0
  · refine br_true (decide_eq_true (c0)) ?_
    conv => whnf
    refine fin_e ?_
    conv => whnf
    rw [if_pos c0]
    exact ⟨by simp [packA, consL, nf], rfl⟩
  · refine br_false (decide_eq_false (c0)) ?_
    conv => whnf
    rw [if_neg c0]
    have la := abs_le ha
    have lb := abs_le hb
    have lc := abs_le hc
    have lc0 : 0 < c.natAbs := by omega
    refine call_x2 (r1_size_x c hc) (LeL.refl _) ?_
    rintro _ - rfl
    conv => whnf
    refine call_x2 (r1_size_x a ha) (LeL.refl _) ?_
    rintro _ - rfl
    conv => whnf
    refine call_x2 (r1_digits_x a.natAbs (by omega)) (LeL.refl _) ?_
    rintro _ - rfl
    conv => whnf
    refine call_x2 (r1_size_x b hb) (LeL.refl _) ?_
    rintro _ - rfl
    conv => whnf
    refine call_x2 (r1_digits_x b.natAbs (by omega)) (LeL.refl _) ?_
    rintro _ - rfl
    conv => whnf
    have hP : a.natAbs * b.natAbs ≤ 9223372036854775808 * 9223372036854775808 := Nat.mul_le_mul la lb
    have hP2 : a.natAbs * b.natAbs < 2 ^ 128 := Nat.lt_of_le_of_lt hP (by decide)
    refine call_x2 (r1_times_x (digN a.natAbs 64) (digN b.natAbs 64) (a.natAbs * b.natAbs) (dig_digN _ _) (dig_digN _ _) (by rw [valD_digN (Nat.lt_of_le_of_lt la (by decide)), valD_digN (Nat.lt_of_le_of_lt lb (by decide))]) hP2) (LeL.refl _) ?_
    rintro _ - rfl
    conv => whnf
    refine call_x2 (r1_over_x (a.natAbs * b.natAbs) c.natAbs hP2 lc0 lc) (LeL.refl _) ?_
    rintro _ - rfl
    conv => whnf
    have hr := Nat.mod_lt (a.natAbs * b.natAbs) lc0
    have hQ : a.natAbs * b.natAbs / c.natAbs ≤ 9223372036854775808 * 9223372036854775808 := Nat.le_trans (Nat.div_le_self _ _) hP
    have hmd : mdN a.natAbs b.natAbs c.natAbs = if a.natAbs * b.natAbs % c.natAbs > c.natAbs - a.natAbs * b.natAbs % c.natAbs ∨ (a.natAbs * b.natAbs % c.natAbs = c.natAbs - a.natAbs * b.natAbs % c.natAbs ∧ a.natAbs * b.natAbs / c.natAbs % 2 = 1) then a.natAbs * b.natAbs / c.natAbs + 1 else a.natAbs * b.natAbs / c.natAbs := rfl
    generalize mdN a.natAbs b.natAbs c.natAbs = M at *
    generalize a.natAbs * b.natAbs / c.natAbs = Q at *
    generalize a.natAbs * b.natAbs % c.natAbs = r at *
    generalize c.natAbs = m at *
    have e1 : IntKind.u64.wrap ((m : Int) - (r : Nat)) = ((m - r : Nat) : Int) := by rw [wrapu_id (by unfold inU64; omega)]; omega
    rw [e1]
    conv => whnf
    have h0 : at_ (digN Q 128) 0 = Q % 2 := by rw [digN_at (by decide)]; simp
    have hlen := digN_len Q 128
    by_cases c1 : r > m - r
    · refine br_true (decide_eq_true ((by omega : ((r : Nat) : Int) > ((m - r : Nat) : Int)))) ?_
      conv => whnf
      rw [if_pos (.inl c1)] at hmd
      subst hmd
      refine call_x2 (r1_more_x Q) (LeL.refl _) ?_
      rintro _ - rfl
      conv => whnf
      by_cases sa : a < 0 <;> by_cases sb : b < 0 <;> by_cases sc : c < 0
      all_goals
        (repeat' first
          | (refine br_true (decide_eq_true (by assumption)) ?_; (conv => whnf))
          | (refine br_false (decide_eq_false (by assumption)) ?_; (conv => whnf)))
        refine call_sgn (by omega) ?_
        intro n k hs
        (conv => whnf)
        refine fin_e ?_
        (conv => whnf)
        refine ⟨by simp [packA, consL, nf], ?_⟩
        first
          | rw [decide_eq_true sa]
          | rw [decide_eq_false sa]
        first
          | rw [decide_eq_true sb]
          | rw [decide_eq_false sb]
        first
          | rw [decide_eq_true sc]
          | rw [decide_eq_false sc]
        exact hs.symm
    · refine br_false (decide_eq_false ((by omega : ¬ ((r : Nat) : Int) > ((m - r : Nat) : Int)))) ?_
      conv => whnf
      by_cases c2 : r = m - r
      · refine br_true (decide_eq_true ((by omega : ((r : Nat) : Int) = ((m - r : Nat) : Int)))) ?_
        conv => whnf
        refine And.intro (by rw [hlen]; constructor <;> omega) ?_
        conv => whnf
        by_cases c3 : Q % 2 = 1
        · refine br_true (decide_eq_true ((by rw [show at_ (digN Q 128) (Int.toNat 0) = Q % 2 from h0, c3]; rfl : ((at_ (digN Q 128) (Int.toNat 0) : Nat) : Int) = 1))) ?_
          conv => whnf
          rw [if_pos (.inr ⟨c2, c3⟩)] at hmd
          subst hmd
          refine call_x2 (r1_more_x Q) (LeL.refl _) ?_
          rintro _ - rfl
          conv => whnf
          by_cases sa : a < 0 <;> by_cases sb : b < 0 <;> by_cases sc : c < 0
          all_goals
            (repeat' first
              | (refine br_true (decide_eq_true (by assumption)) ?_; (conv => whnf))
              | (refine br_false (decide_eq_false (by assumption)) ?_; (conv => whnf)))
            refine call_sgn (by omega) ?_
            intro n k hs
            (conv => whnf)
            refine fin_e ?_
            (conv => whnf)
            refine ⟨by simp [packA, consL, nf], ?_⟩
            first
              | rw [decide_eq_true sa]
              | rw [decide_eq_false sa]
            first
              | rw [decide_eq_true sb]
              | rw [decide_eq_false sb]
            first
              | rw [decide_eq_true sc]
              | rw [decide_eq_false sc]
            exact hs.symm
        · refine br_false (decide_eq_false ((by rw [show at_ (digN Q 128) (Int.toNat 0) = Q % 2 from h0]; omega : ¬ ((at_ (digN Q 128) (Int.toNat 0) : Nat) : Int) = 1))) ?_
          conv => whnf
          rw [if_neg (fun h => h.elim c1 (fun h => c3 h.2))] at hmd
          subst hmd
          by_cases sa : a < 0 <;> by_cases sb : b < 0 <;> by_cases sc : c < 0
          all_goals
            (repeat' first
              | (refine br_true (decide_eq_true (by assumption)) ?_; (conv => whnf))
              | (refine br_false (decide_eq_false (by assumption)) ?_; (conv => whnf)))
            refine call_sgn (by omega) ?_
            intro n k hs
            (conv => whnf)
            refine fin_e ?_
            (conv => whnf)
            refine ⟨by simp [packA, consL, nf], ?_⟩
            first
              | rw [decide_eq_true sa]
              | rw [decide_eq_false sa]
            first
              | rw [decide_eq_true sb]
              | rw [decide_eq_false sb]
            first
              | rw [decide_eq_true sc]
              | rw [decide_eq_false sc]
            exact hs.symm
      · refine br_false (decide_eq_false ((by omega : ¬ ((r : Nat) : Int) = ((m - r : Nat) : Int)))) ?_
        conv => whnf
        rw [if_neg (fun h => h.elim c1 (fun h => c2 h.1))] at hmd
        subst hmd
        by_cases sa : a < 0 <;> by_cases sb : b < 0 <;> by_cases sc : c < 0
        all_goals
          (repeat' first
            | (refine br_true (decide_eq_true (by assumption)) ?_; (conv => whnf))
            | (refine br_false (decide_eq_false (by assumption)) ?_; (conv => whnf)))
          refine call_sgn (by omega) ?_
          intro n k hs
          (conv => whnf)
          refine fin_e ?_
          (conv => whnf)
          refine ⟨by simp [packA, consL, nf], ?_⟩
          first
            | rw [decide_eq_true sa]
            | rw [decide_eq_false sa]
          first
            | rw [decide_eq_true sb]
            | rw [decide_eq_false sb]
          first
            | rw [decide_eq_true sc]
            | rw [decide_eq_false sc]
          exact hs.symm

theorem r1_Bps_x (a b : Int) (ha : in64 a) (hb : in64 b) : PureX Try.prog gl0 r1_Bps [I a, I b] (fun r => r = mdV a b 10000) := by
  refine pure_fnX mixed fn_r1_Bps nt_r1_Bps hc_r1_Bps (by simp) gl0n (by simp [nf]) ?_
  conv => whnf
  have e : ∃ n k, mdV a b 10000 = tup2 (I n) (B k) := by
    unfold mdV
    rw [if_neg (by decide)]
    exact sgn_is _ _
  obtain ⟨n, k, e⟩ := e
  refine call_x2 ((r1_MulDiv_x a b 10000 ha hb (by decide)).mono (fun r _ h => h.trans e)) (LeL.refl _) ?_
  rintro _ - rfl
  conv => whnf
  refine fin_e ?_
  conv => whnf
  exact ⟨by simp [packA, consL, nf], e.symm⟩

end Go.Proofs.Ytdjmplfjpnikkaa
