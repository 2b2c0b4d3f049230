/- What the walks share. No condition. -/
import Derived.Test.YtoglphkkhhjodaaDoorZIc
import Derived.Test.YtoglphkkhhjodaaDoorA7
import Derived.Test.YtoglphkkhhjodaaDoorD1
set_option linter.all false
namespace Go.Proofs.YtoglphkkhhjodaaDoor
open Go Ar
set_option linter.unusedVariables false
set_option autoImplicit false
set_option maxHeartbeats 4000000

attribute [simp] nf_I nf_encBk nf_encIns nf_encTrm nf_encCse nf_encPrt nf_encNtc nf_encEty nf_encOwd nf_encPsn nf_encEvt nf_encDte nf_encLn nf_encPol nf_encOtc nf_encStt nf_encOpn nf_encWrk nfL_I nfL_Ins nfL_Ntc nfL_Ety nfL_Ln nfL_Opn nfL_Bk nf_encBf nfL_Bf

/-- Side conditions and ends, found by the same few ways everywhere. -/
theorem aI {A B : Prop} (h : B) (ha : A := by first | omega | rfl | (simp only [List.length_cons, List.length_nil]; omega) | (rw [wrap_id (by unfold in64; omega)]; omega)) : A ∧ B := ⟨ha, h⟩
theorem lfA {A B : Prop} (ha : A := by simp [packA, consL, nf]) (hb : B := by first | exact ⟨_, rfl⟩ | exact ⟨_, _, rfl⟩ | exact ⟨_, _, _, rfl⟩) : A ∧ B := ⟨ha, hb⟩

theorem inc_id {k : Nat} {m : Nat} (h : k < m) (hm : (m : Int) < 9223372036854775808) : IntKind.i64.wrap ((k : Int) + 1) = ((k + 1 : Nat) : Int) := by
  rw [wrap_id (by unfold in64; omega)]; omega

abbrev hasI (p : Pol) : Prop := (p.holidays.length : Int) < 9223372036854775808

/-- Cells that are numbers are a list of numbers. -/
theorem ints_of {tok : Option Nat} {n : Nat} {f : Nat → AV} (h : ∀ i, ∃ x, f i = I x) : ∃ xs : List Int, xs.length = n ∧ LeA (.lst tok n 1 f) (encL I 1 xs) := by
  refine ⟨(List.range n).map fun i => (h i).choose, by simp, ?_⟩
  unfold encL encT
  simp only [List.length_map, List.length_range]
  refine LeA.lst (.inr rfl) fun i hi => LeA.of_eq ?_
  rw [(h i).choose_spec]
  congr 2
  rw [at_lt (by simpa using hi)]
  simp

/-- A row of one's own has grown by a number. -/
theorem leA_grow {τ : Nat → Nat} {xs : List Int} {x : Int} {k e : Nat} {h : Nat → AV} (hk : k = xs.length + 1) (h0 : h 0 = I x) :
    LeA (.arr k e (fun i => ren τ (appF xs.length (fun i => I (at_ xs i)) h i))) (.arr (xs ++ [x]).length e (fun i => I (at_ (xs ++ [x]) i))) := by
  subst hk
  rw [List.length_append]
  refine LeA.arr fun i hi => LeA.of_eq ?_
  unfold appF
  by_cases hlt : i < xs.length
  · rw [if_pos hlt, at_append_left hlt]; rfl
  · obtain rfl : i = xs.length := by omega
    rw [if_neg hlt, at_append_right (Nat.le_refl _)]
    simp only [Nat.sub_self, h0]
    rfl

theorem le_sli {o lo a b e : Nat} {ty : TypeId} (h : a = b) : Le (.sli o lo a e ty) (.sli o lo b e ty) := h ▸ Le.refl _

end Go.Proofs.YtoglphkkhhjodaaDoor
namespace Go.Proofs.YtoglphkkhhjodaaDoor
open Go Ar
set_option linter.unusedVariables false
set_option autoImplicit false
set_option maxHeartbeats 4000000
set_option maxRecDepth 100000

theorem r1_high_x (x : Int) : Pure Tryd.prog gl0 r1_high [I x] (I (x / 4294967296)) := by
  refine pure_fn mixed fn_r1_high nt_r1_high hc_r1_high (by simp) gl0n (by simp [nf]) (by simp [nf]) ?_
  conv => whnf
  refine ⟨by omega, ?_⟩
  conv => whnf
  refine Le.of_eq ?_
  have : (2 : Int) ^ min (Int.toNat 32) IntKind.i64.bits = 4294967296 := by decide
  show I (x.fdiv (2 ^ min (Int.toNat 32) IntKind.i64.bits)) = _
  rw [this, Int.fdiv_eq_ediv_of_nonneg _ (by omega)]

theorem r1_low_x (x : Int) (hx : in64 x) : Pure Tryd.prog gl0 r1_lowOf [I x] (I (x % 4294967296)) := by
  refine pure_fn mixed fn_r1_lowOf nt_r1_lowOf hc_r1_lowOf (by simp) gl0n (by simp [nf]) (by simp [nf]) ?_
  conv => whnf
  refine call_pure (r1_high_x x) (LeL.refl _) ?_
  conv => whnf
  refine Le.of_eq ?_
  obtain ⟨h1, h2⟩ := hx
  show I (IntKind.i64.wrap (x - IntKind.i64.wrap (x / 4294967296 * 4294967296))) = _
  rw [wrap_id (n := x / 4294967296 * 4294967296) (by unfold in64; omega), wrap_id (by unfold in64; omega)]
  congr 2
  omega

instance (n : Int) : Decidable (in64 n) := by unfold in64; infer_instance

abbrev sumV (S : Int) : AV := tup2 (I (if in64 S then S else 0)) (B (decide (in64 S)))
theorem sumV_yes {S : Int} (h : in64 S) : sumV S = tup2 (I S) (B true) := by unfold sumV; rw [if_pos h, decide_eq_true h]
theorem sumV_no {S : Int} (h : ¬ in64 S) : sumV S = tup2 (I 0) (B false) := by unfold sumV; rw [if_neg h, decide_eq_false h]

theorem r1_joined_x (h l : Int) (hh : -4611686018427387904 ≤ h ∧ h ≤ 4611686018427387904) (hl : -4611686018427387904 ≤ l ∧ l ≤ 4611686018427387904) : Pure Tryd.prog gl0 r1_joined [I h, I l] (sumV (h * 4294967296 + l)) := by
  refine pure_fn mixed fn_r1_joined nt_r1_joined hc_r1_joined (by simp) gl0n (by simp [nf]) (by simp [nf]) ?_
  conv => whnf
  have e2 : (2 : Int) ^ min (Int.toNat 32) IntKind.i64.bits = 4294967296 := by decide
  have e3 : l.fdiv (2 ^ min (Int.toNat 32) IntKind.i64.bits) = l / 4294967296 := by rw [e2, Int.fdiv_eq_ediv_of_nonneg _ (by omega)]
  have e4 : IntKind.i64.wrap (h + l / 4294967296) = h + l / 4294967296 := wrap_id (by unfold in64; omega)
  have e5 : IntKind.i64.wrap (l - IntKind.i64.wrap (l / 4294967296 * 4294967296)) = l % 4294967296 := by
    rw [wrap_id (n := l / 4294967296 * 4294967296) (by unfold in64; omega), wrap_id (by unfold in64; omega)]; omega
  refine ⟨by omega, ?_⟩
  conv => whnf
  have q1 : (decide (IntKind.i64.wrap (h + l.fdiv (2 ^ min (Int.toNat 32) IntKind.i64.bits)) < -2147483648)) = decide (h + l / 4294967296 < -2147483648) := by rw [e3, e4]
  have q2 : (decide (IntKind.i64.wrap (h + l.fdiv (2 ^ min (Int.toNat 32) IntKind.i64.bits)) > 2147483647)) = decide (h + l / 4294967296 > 2147483647) := by rw [e3, e4]
  conv => whnf
  rw [q1]
  by_cases c1 : h + l / 4294967296 < -2147483648
  · rw [decide_eq_true c1]
    conv => whnf
    have : ¬ in64 (h * 4294967296 + l) := by unfold in64; omega
    refine Le.of_eq ?_
    rw [sumV_no this]
    rfl
  · rw [decide_eq_false c1]
    conv => whnf
    rw [q2]
    by_cases c2 : h + l / 4294967296 > 2147483647
    · rw [decide_eq_true c2]
      conv => whnf
      have : ¬ in64 (h * 4294967296 + l) := by unfold in64; omega
      refine Le.of_eq ?_
      rw [sumV_no this]
      rfl
    · rw [decide_eq_false c2]
      conv => whnf
      have hin : in64 (h * 4294967296 + l) := by unfold in64; omega
      refine Le.of_eq ?_
      rw [sumV_yes hin]
      have e6 : IntKind.i64.wrap (IntKind.i64.wrap (IntKind.i64.wrap (h + l.fdiv (2 ^ min (Int.toNat 32) IntKind.i64.bits)) * 4294967296) + IntKind.i64.wrap (l - IntKind.i64.wrap (l.fdiv (2 ^ min (Int.toNat 32) IntKind.i64.bits) * 4294967296))) = h * 4294967296 + l := by
        rw [e3, e4, e5, wrap_id (n := (h + l / 4294967296) * 4294967296) (by unfold in64; omega), wrap_id (by unfold in64; omega)]
        omega
      show AV.tup (.cons (I (IntKind.i64.wrap (IntKind.i64.wrap (IntKind.i64.wrap (h + l.fdiv (2 ^ min (Int.toNat 32) IntKind.i64.bits)) * 4294967296) + IntKind.i64.wrap (l - IntKind.i64.wrap (l.fdiv (2 ^ min (Int.toNat 32) IntKind.i64.bits) * 4294967296))))) _) = _
      rw [e6]
      rfl

/-! Sums of a list, by halves. -/
def sumH (xs : List Int) : Int := (xs.map (· / 4294967296)).sum
def sumL (xs : List Int) : Int := (xs.map (· % 4294967296)).sum

theorem sum_halves (xs : List Int) : sumH xs * 4294967296 + sumL xs = xs.sum := by
  induction xs with
  | nil => rfl
  | cons a r ih => simp only [sumH, sumL, List.map_cons, List.sum_cons] at *; omega

theorem sum_bounds (xs : List Int) (h : ∀ x ∈ xs, in64 x) : -2147483648 * (xs.length : Int) ≤ sumH xs ∧ sumH xs ≤ 2147483647 * (xs.length : Int) ∧ 0 ≤ sumL xs ∧ sumL xs ≤ 4294967295 * (xs.length : Int) := by
  induction xs with
  | nil => simp [sumH, sumL]
  | cons a r ih =>
    have ih := ih (fun x hx => h x (List.mem_cons_of_mem _ hx))
    have ha := h a (List.mem_cons_self ..)
    obtain ⟨h1, h2⟩ := ha
    simp only [sumH, sumL, List.map_cons, List.sum_cons, List.length_cons] at *
    omega

theorem sumH_snoc (xs : List Int) (x : Int) : sumH (xs ++ [x]) = sumH xs + x / 4294967296 := by simp [sumH]
theorem sumL_snoc (xs : List Int) (x : Int) : sumL (xs ++ [x]) = sumL xs + x % 4294967296 := by simp [sumL]

theorem r1_Sum_x (xs : List Int) (h : ∀ x ∈ xs, in64 x) (hn : xs.length ≤ 500000000) : Pure Tryd.prog gl0 r1_Sum [encL I 1 xs] (sumV xs.sum) := by
  refine pure_fn mixed fn_r1_Sum nt_r1_Sum hc_r1_Sum (by simp) gl0n (by simp [nf]) (by simp [nf]) ?_
  conv => whnf
  refine loop_at mixed (fun (k : Nat) => ([(6, I k), (4, I (sumH (xs.take k))), (5, I (sumL (xs.take k))), (0, encL I 1 xs)], [], 0)) (fun k => k ≤ xs.length) (fun k => xs.length - k) 0 (Nat.zero_le _) (le_st (le_r rfl) (leE_i rfl rfl (leE_i rfl rfl (leE_i rfl rfl (leE_eq rfl (bnd_nf _ (nfL_I _ _)) trivial)))) trivial gl0n) ?_
  intro k hk
  conv => whnf
  have hn2 : (xs.length : Int) < 9223372036854775808 := by omega
  by_cases c : k < xs.length
  · refine br_true (decide_eq_true ((by omega : (k : Int) < xs.length))) ?_
    conv => whnf
    refine ⟨by omega, ?_⟩
    conv => whnf
    have hx := h _ (at_mem c)
    refine call_pure (r1_high_x (at_ xs k)) ⟨Le.refl _, trivial⟩ ?_
    conv => whnf
    refine ⟨by omega, ?_⟩
    conv => whnf
    refine call_pure (r1_low_x (at_ xs k) hx) ⟨Le.refl _, trivial⟩ ?_
    conv => whnf
    have b1 := sum_bounds (xs.take (k + 1)) (fun x hm => h x (List.mem_of_mem_take hm))
    have b2 : (xs.take (k + 1)).length ≤ 500000000 := by rw [List.length_take]; omega
    rw [take_at c, sumH_snoc, sumL_snoc] at b1
    rw [take_at c] at b2
    refine ⟨k + 1, c, (by show xs.length - (k + 1) < xs.length - k; omega), (le_st (le_r rfl) (leE_i rfl (inc_id c hn2) (leE_i rfl ?_ (leE_i rfl ?_ (leE_eq rfl (bnd_nf _ (nfL_I _ _)) trivial)))) trivial gl0n)⟩
    · show IntKind.i64.wrap (sumH (xs.take k) + at_ xs k / 4294967296) = _
      rw [wrap_id (by unfold in64; omega), take_at c, sumH_snoc]
    · show IntKind.i64.wrap (sumL (xs.take k) + at_ xs k % 4294967296) = _
      rw [wrap_id (by unfold in64; omega), take_at c, sumL_snoc]
  · obtain rfl : k = xs.length := by omega
    refine br_false (decide_eq_false ((by omega : ¬ ((xs.length : Int) < xs.length)))) ?_
    conv => whnf
    have hb := sum_bounds xs h
    refine call_pure (r1_joined_x _ _ (by rw [List.take_length]; omega) (by rw [List.take_length]; omega)) (LeL.refl _) ?_
    rw [List.take_length, sum_halves]
    conv => whnf
    exact Le.refl _

end Go.Proofs.YtoglphkkhhjodaaDoor
namespace Go.Proofs.YtoglphkkhhjodaaDoor
open Go Ar
set_option linter.unusedVariables false
set_option autoImplicit false
set_option maxHeartbeats 4000000
set_option maxRecDepth 100000

abbrev T (s : ByteArray) : AV := .val (.string s)
theorem ba_eq {a b : ByteArray} (h : a.data = b.data) : a = b := ByteArray.ext h
theorem small1' {i : Nat} (h : i < 10) : digs.extract i (i + 1) = decT i := ba_eq (small1 ⟨i, h⟩)
theorem small2' {i : Nat} (h : i < 100) (h' : 10 ≤ i) : smalls.extract (i * 2) (i * 2 + 2) = decT i := ba_eq (small2 ⟨i, h⟩ h')

theorem small_x (i : Nat) (h : i < 100) : PureX Tryd.prog gl0 internal_strconv_small [I i] (fun r => r = T (decT i)) := by
  refine pure_fnX mixed fn_internal_strconv_small nt_internal_strconv_small hc_internal_strconv_small (by simp) gl0n (by simp [nf]) ?_
  conv => whnf
  have e1 : IntKind.i64.wrap ((i : Int) + 1) = ((i + 1 : Nat) : Int) := by rw [wrap_id (by unfold in64; omega)]; omega
  have e2 : IntKind.i64.wrap ((i : Int) * 2) = ((i * 2 : Nat) : Int) := by rw [wrap_id (by unfold in64; omega)]; omega
  have e3 : IntKind.i64.wrap (((i * 2 : Nat) : Int) + 2) = ((i * 2 + 2 : Nat) : Int) := by rw [wrap_id (by unfold in64; omega)]; omega
  by_cases c : i < 10
  · refine br_true (decide_eq_true ((by omega : (i : Int) < 10))) ?_
    conv => whnf
    rw [e1]
    repeat' first
      | (refine And.intro (by first | omega | (rw [digs_size]; constructor <;> omega) | (constructor <;> omega) | (show i ≤ i + 1; omega) | fail) ?_; (conv => whnf))
      | fail
    refine fin_e ?_
    conv => whnf
    exact ⟨trivial, congrArg (fun s => T s) (small1' c)⟩
  · refine br_false (decide_eq_false ((by omega : ¬ ((i : Int) < 10)))) ?_
    conv => whnf
    rw [e2, e3]
    repeat' first
      | (refine And.intro (by first | omega | (rw [smalls_size]; constructor <;> omega) | (constructor <;> omega) | (show i * 2 ≤ i * 2 + 2; omega) | fail) ?_; (conv => whnf))
      | fail
    refine fin_e ?_
    conv => whnf
    exact ⟨trivial, congrArg (fun s => T s) (small2' h (by omega))⟩

theorem log10_x (n : Nat) (h : n ≤ 64) : PureX Tryd.prog gl0 internal_strconv_log10Pow2 [I n] (fun r => r = I ((n * 78913 / 262144 : Nat) : Int)) := by
  refine pure_fnX mixed fn_internal_strconv_log10Pow2 nt_internal_strconv_log10Pow2 hc_internal_strconv_log10Pow2 (by simp) gl0n (by simp [nf]) ?_
  conv => whnf
  have e1 : IntKind.i64.wrap ((n : Int) * 78913) = ((n * 78913 : Nat) : Int) := by rw [wrap_id (by unfold in64; omega)]; omega
  rw [e1]
  refine And.intro (by decide) ?_
  conv => whnf
  refine fin_e ?_
  conv => whnf
  refine ⟨trivial, congrArg (fun n => I n) ?_⟩
  have : (2 : Int) ^ min (Int.toNat 18) IntKind.i64.bits = 262144 := by decide
  rw [this, Int.fdiv_eq_ediv_of_nonneg _ (by omega)]
  omega

theorem bool2_x (b : Bool) : PureX Tryd.prog gl0 internal_strconv_bool2_int_ [B b] (fun r => r = I (if b then 1 else 0)) := by
  refine pure_fnX mixed fn_internal_strconv_bool2_int_ nt_internal_strconv_bool2_int_ hc_internal_strconv_bool2_int_ (by simp) gl0n (by simp [nf]) ?_
  conv => whnf
  cases b
  · conv => whnf
    refine fin_e ?_
    conv => whnf
    exact ⟨trivial, rfl⟩
  · conv => whnf
    refine fin_e ?_
    conv => whnf
    exact ⟨trivial, rfl⟩

end Go.Proofs.YtoglphkkhhjodaaDoor
namespace Go.Proofs.YtoglphkkhhjodaaDoor
open Go Ar
set_option linter.unusedVariables false
set_option autoImplicit false
set_option maxHeartbeats 4000000
set_option maxRecDepth 100000

theorem shr32 (a : Nat) : (a : Int).fdiv (2 ^ min (Int.toNat 32) IntKind.u64.bits) = ((a / 4294967296 : Nat) : Int) := by
  have : (2 : Int) ^ min (Int.toNat 32) IntKind.u64.bits = 4294967296 := by decide
  rw [this, Int.fdiv_eq_ediv_of_nonneg _ (by omega)]
  omega

/-- The length of a number. -/
structure LenIs (x L : Nat) : Prop where
  lo : 0 < x → 1 ≤ L ∧ 2 ^ (L - 1) ≤ x
  hi : x < 2 ^ L

theorem LenIs.up {x L : Nat} (n : Nat) (h : LenIs (x / 2 ^ n) L) (hx : 2 ^ n ≤ x) : LenIs x (n + L) := by
  have hp := Nat.two_pow_pos n
  have h0 : 0 < x / 2 ^ n := Nat.div_pos hx hp
  obtain ⟨h1, h2⟩ := h.lo h0
  refine ⟨fun _ => ⟨by omega, ?_⟩, ?_⟩
  · rw [show n + L - 1 = (L - 1) + n by omega, Nat.pow_add]
    exact (Nat.le_div_iff_mul_le hp).1 h2
  · rw [Nat.add_comm, Nat.pow_add]
    exact (Nat.div_lt_iff_lt_mul hp).1 h.hi

def tab8 : ByteArray := ⟨#[0, 1, 2, 2, 3, 3, 3, 3, 4, 4, 4, 4, 4, 4, 4, 4, 5, 5, 5, 5, 5, 5, 5, 5, 5, 5, 5, 5, 5, 5, 5, 5, 6, 6, 6, 6, 6, 6, 6, 6, 6, 6, 6, 6, 6, 6, 6, 6, 6, 6, 6, 6, 6, 6, 6, 6, 6, 6, 6, 6, 6, 6, 6, 6, 7, 7, 7, 7, 7, 7, 7, 7, 7, 7, 7, 7, 7, 7, 7, 7, 7, 7, 7, 7, 7, 7, 7, 7, 7, 7, 7, 7, 7, 7, 7, 7, 7, 7, 7, 7, 7, 7, 7, 7, 7, 7, 7, 7, 7, 7, 7, 7, 7, 7, 7, 7, 7, 7, 7, 7, 7, 7, 7, 7, 7, 7, 7, 7, 8, 8, 8, 8, 8, 8, 8, 8, 8, 8, 8, 8, 8, 8, 8, 8, 8, 8, 8, 8, 8, 8, 8, 8, 8, 8, 8, 8, 8, 8, 8, 8, 8, 8, 8, 8, 8, 8, 8, 8, 8, 8, 8, 8, 8, 8, 8, 8, 8, 8, 8, 8, 8, 8, 8, 8, 8, 8, 8, 8, 8, 8, 8, 8, 8, 8, 8, 8, 8, 8, 8, 8, 8, 8, 8, 8, 8, 8, 8, 8, 8, 8, 8, 8, 8, 8, 8, 8, 8, 8, 8, 8, 8, 8, 8, 8, 8, 8, 8, 8, 8, 8, 8, 8, 8, 8, 8, 8, 8, 8, 8, 8, 8, 8, 8, 8, 8, 8, 8, 8, 8, 8, 8, 8, 8, 8, 8, 8]⟩

def len8 (x : Nat) : Nat := (tab8.data.getD x 0).toNat
theorem len8_all : ∀ x, x < 256 → (x = 0 → len8 x = 0) ∧ (0 < x → 1 ≤ len8 x ∧ 2 ^ (len8 x - 1) ≤ x) ∧ x < 2 ^ len8 x ∧ len8 x ≤ 8 := by decide +kernel
theorem len8_is {x : Nat} (h : x < 256) : LenIs x (len8 x) ∧ len8 x ≤ 8 := ⟨⟨(len8_all x h).2.1, (len8_all x h).2.2.1⟩, (len8_all x h).2.2.2⟩

theorem LenIs.cast {x L L' : Nat} (h : LenIs x L) (e : L = L') : LenIs x L' := e ▸ h
theorem wrap8 {y : Nat} (h : y < 256) : IntKind.u8.wrap ((y : Nat) : Int) = (y : Nat) := by
  simp [IntKind.wrap, IntKind.signed, IntKind.bits]; omega
theorem len_e {y : Nat} (h : y < 256) : IntKind.i64.wrap (bt tab8 y) = ((len8 y : Nat) : Int) := by
  have := (len8_is h).2
  exact wrap_id (n := ((len8 y : Nat) : Int)) (by unfold in64; omega)

theorem len_fin {x y n : Nat} {v : AV} (hy : y < 256) (h : ∀ L, LenIs y L → LenIs x (n + L) ∧ n ≤ 56) (hv : v = I ((n + len8 y : Nat) : Int)) : nf v ∧ ∃ L, v = I (L : Nat) ∧ LenIs x L ∧ L ≤ 64 := by
  obtain ⟨h1, h2⟩ := len8_is hy
  obtain ⟨h3, h4⟩ := h _ h1
  subst hv
  exact ⟨trivial, _, rfl, h3, by omega⟩

theorem bits_Len64_x (x : Nat) (hx : x < 18446744073709551616) : PureX Tryd.prog gl0 math_bits_Len64 [U (x : Nat)] (fun r => ∃ L, r = I (L : Nat) ∧ LenIs x L ∧ L ≤ 64) := by
  refine pure_fnX mixed fn_math_bits_Len64 nt_math_bits_Len64 hc_math_bits_Len64 (by simp) gl0n (by simp [nf]) ?_
  conv => whnf
  have h32 : ∀ y : Nat, ((y : Nat) : Int).fdiv (2 ^ min (Int.toNat 32) IntKind.u64.bits) = ((y / 2 ^ 32 : Nat) : Int) := fun y => shr32 y
  have h16 : ∀ y : Nat, ((y : Nat) : Int).fdiv (2 ^ min (Int.toNat 16) IntKind.u64.bits) = ((y / 2 ^ 16 : Nat) : Int) := fun y => by
    have : (2 : Int) ^ min (Int.toNat 16) IntKind.u64.bits = 65536 := by decide
    rw [this, Int.fdiv_eq_ediv_of_nonneg _ (by omega)]; omega
  have h8 : ∀ y : Nat, ((y : Nat) : Int).fdiv (2 ^ min (Int.toNat 8) IntKind.u64.bits) = ((y / 2 ^ 8 : Nat) : Int) := fun y => by
    have : (2 : Int) ^ min (Int.toNat 8) IntKind.u64.bits = 256 := by decide
    rw [this, Int.fdiv_eq_ediv_of_nonneg _ (by omega)]; omega
  by_cases c0 : 4294967296 ≤ x
  · refine br_true (decide_eq_true ((by omega : ((x : Nat) : Int) ≥ 4294967296))) ?_
    conv => whnf
    refine ⟨by decide, ?_⟩
    conv => whnf
    rw [h32]
    have k0 : ∀ L, LenIs (x / 2 ^ 32) L → LenIs x (32 + L) := fun L h => h.up 32 c0
    have b0 : x / 2 ^ 32 < 4294967296 := by omega
    generalize x / 2 ^ 32 = y0_1 at k0 b0 ⊢
    conv => whnf
    by_cases c1 : 65536 ≤ y0_1
    · refine br_true (decide_eq_true ((by omega : ((y0_1 : Nat) : Int) ≥ 65536))) ?_
      conv => whnf
      refine ⟨by decide, ?_⟩
      conv => whnf
      rw [h16]
      have k1 : ∀ L, LenIs (y0_1 / 2 ^ 16) L → LenIs y0_1 (16 + L) := fun L h => h.up 16 c1
      have b1 : y0_1 / 2 ^ 16 < 65536 := by omega
      generalize y0_1 / 2 ^ 16 = y1_2 at k1 b1 ⊢
      conv => whnf
      by_cases c2 : 256 ≤ y1_2
      · refine br_true (decide_eq_true ((by omega : ((y1_2 : Nat) : Int) ≥ 256))) ?_
        conv => whnf
        refine ⟨by decide, ?_⟩
        conv => whnf
        rw [h8]
        have k2 : ∀ L, LenIs (y1_2 / 2 ^ 8) L → LenIs y1_2 (8 + L) := fun L h => h.up 8 c2
        have b2 : y1_2 / 2 ^ 8 < 256 := by omega
        generalize y1_2 / 2 ^ 8 = y2_3 at k2 b2 ⊢
        conv => whnf
        have hu : IntKind.u8.wrap ((y2_3 : Nat) : Int) = (y2_3 : Nat) := wrap8 (by omega)
        rw [hu]
        refine ⟨⟨by omega, (by show ((y2_3 : Nat) : Int) < 256; omega)⟩, ?_⟩
        conv => whnf
        refine fin_e ?_
        conv => whnf
        refine len_fin (y := y2_3) (n := 56) (by omega) (fun L h => ⟨LenIs.cast (k0 _ (k1 _ (k2 _ (h)))) (by omega), by omega⟩) (congrArg (fun n => I n) (?_ : IntKind.i64.wrap (IntKind.i64.wrap (IntKind.i64.wrap (32 + 16) + 8) + IntKind.i64.wrap (bt tab8 y2_3)) = _))
        rw [len_e (by omega), show (IntKind.i64.wrap (IntKind.i64.wrap (32 + 16) + 8) : Int) = 56 by decide]
        have := (len8_is (x := y2_3) (by omega)).2
        rw [wrap_id (by unfold in64; omega)]
        omega
      · refine br_false (decide_eq_false ((by omega : ¬ ((y1_2 : Nat) : Int) ≥ 256))) ?_
        conv => whnf
        have hu : IntKind.u8.wrap ((y1_2 : Nat) : Int) = (y1_2 : Nat) := wrap8 (by omega)
        rw [hu]
        refine ⟨⟨by omega, (by show ((y1_2 : Nat) : Int) < 256; omega)⟩, ?_⟩
        conv => whnf
        refine fin_e ?_
        conv => whnf
        refine len_fin (y := y1_2) (n := 48) (by omega) (fun L h => ⟨LenIs.cast (k0 _ (k1 _ (h))) (by omega), by omega⟩) (congrArg (fun n => I n) (?_ : IntKind.i64.wrap (IntKind.i64.wrap (32 + 16) + IntKind.i64.wrap (bt tab8 y1_2)) = _))
        rw [len_e (by omega), show (IntKind.i64.wrap (32 + 16) : Int) = 48 by decide]
        have := (len8_is (x := y1_2) (by omega)).2
        rw [wrap_id (by unfold in64; omega)]
        omega
    · refine br_false (decide_eq_false ((by omega : ¬ ((y0_1 : Nat) : Int) ≥ 65536))) ?_
      conv => whnf
      by_cases c2 : 256 ≤ y0_1
      · refine br_true (decide_eq_true ((by omega : ((y0_1 : Nat) : Int) ≥ 256))) ?_
        conv => whnf
        refine ⟨by decide, ?_⟩
        conv => whnf
        rw [h8]
        have k2 : ∀ L, LenIs (y0_1 / 2 ^ 8) L → LenIs y0_1 (8 + L) := fun L h => h.up 8 c2
        have b2 : y0_1 / 2 ^ 8 < 256 := by omega
        generalize y0_1 / 2 ^ 8 = y2_3 at k2 b2 ⊢
        conv => whnf
        have hu : IntKind.u8.wrap ((y2_3 : Nat) : Int) = (y2_3 : Nat) := wrap8 (by omega)
        rw [hu]
        refine ⟨⟨by omega, (by show ((y2_3 : Nat) : Int) < 256; omega)⟩, ?_⟩
        conv => whnf
        refine fin_e ?_
        conv => whnf
        refine len_fin (y := y2_3) (n := 40) (by omega) (fun L h => ⟨LenIs.cast (k0 _ (k2 _ (h))) (by omega), by omega⟩) (congrArg (fun n => I n) (?_ : IntKind.i64.wrap (IntKind.i64.wrap (32 + 8) + IntKind.i64.wrap (bt tab8 y2_3)) = _))
        rw [len_e (by omega), show (IntKind.i64.wrap (32 + 8) : Int) = 40 by decide]
        have := (len8_is (x := y2_3) (by omega)).2
        rw [wrap_id (by unfold in64; omega)]
        omega
      · refine br_false (decide_eq_false ((by omega : ¬ ((y0_1 : Nat) : Int) ≥ 256))) ?_
        conv => whnf
        have hu : IntKind.u8.wrap ((y0_1 : Nat) : Int) = (y0_1 : Nat) := wrap8 (by omega)
        rw [hu]
        refine ⟨⟨by omega, (by show ((y0_1 : Nat) : Int) < 256; omega)⟩, ?_⟩
        conv => whnf
        refine fin_e ?_
        conv => whnf
        refine len_fin (y := y0_1) (n := 32) (by omega) (fun L h => ⟨LenIs.cast (k0 _ (h)) (by omega), by omega⟩) (congrArg (fun n => I n) (?_ : IntKind.i64.wrap (32 + IntKind.i64.wrap (bt tab8 y0_1)) = _))
        rw [len_e (by omega), show (32 : Int) = 32 by decide]
        have := (len8_is (x := y0_1) (by omega)).2
        rw [wrap_id (by unfold in64; omega)]
        omega
  · refine br_false (decide_eq_false ((by omega : ¬ ((x : Nat) : Int) ≥ 4294967296))) ?_
    conv => whnf
    by_cases c1 : 65536 ≤ x
    · refine br_true (decide_eq_true ((by omega : ((x : Nat) : Int) ≥ 65536))) ?_
      conv => whnf
      refine ⟨by decide, ?_⟩
      conv => whnf
      rw [h16]
      have k1 : ∀ L, LenIs (x / 2 ^ 16) L → LenIs x (16 + L) := fun L h => h.up 16 c1
      have b1 : x / 2 ^ 16 < 65536 := by omega
      generalize x / 2 ^ 16 = y1_2 at k1 b1 ⊢
      conv => whnf
      by_cases c2 : 256 ≤ y1_2
      · refine br_true (decide_eq_true ((by omega : ((y1_2 : Nat) : Int) ≥ 256))) ?_
        conv => whnf
        refine ⟨by decide, ?_⟩
        conv => whnf
        rw [h8]
        have k2 : ∀ L, LenIs (y1_2 / 2 ^ 8) L → LenIs y1_2 (8 + L) := fun L h => h.up 8 c2
        have b2 : y1_2 / 2 ^ 8 < 256 := by omega
        generalize y1_2 / 2 ^ 8 = y2_3 at k2 b2 ⊢
        conv => whnf
        have hu : IntKind.u8.wrap ((y2_3 : Nat) : Int) = (y2_3 : Nat) := wrap8 (by omega)
        rw [hu]
        refine ⟨⟨by omega, (by show ((y2_3 : Nat) : Int) < 256; omega)⟩, ?_⟩
        conv => whnf
        refine fin_e ?_
        conv => whnf
        refine len_fin (y := y2_3) (n := 24) (by omega) (fun L h => ⟨LenIs.cast (k1 _ (k2 _ (h))) (by omega), by omega⟩) (congrArg (fun n => I n) (?_ : IntKind.i64.wrap (IntKind.i64.wrap (IntKind.i64.wrap (0 + 16) + 8) + IntKind.i64.wrap (bt tab8 y2_3)) = _))
        rw [len_e (by omega), show (IntKind.i64.wrap (IntKind.i64.wrap (0 + 16) + 8) : Int) = 24 by decide]
        have := (len8_is (x := y2_3) (by omega)).2
        rw [wrap_id (by unfold in64; omega)]
        omega
      · refine br_false (decide_eq_false ((by omega : ¬ ((y1_2 : Nat) : Int) ≥ 256))) ?_
        conv => whnf
        have hu : IntKind.u8.wrap ((y1_2 : Nat) : Int) = (y1_2 : Nat) := wrap8 (by omega)
        rw [hu]
        refine ⟨⟨by omega, (by show ((y1_2 : Nat) : Int) < 256; omega)⟩, ?_⟩
        conv => whnf
        refine fin_e ?_
        conv => whnf
        refine len_fin (y := y1_2) (n := 16) (by omega) (fun L h => ⟨LenIs.cast (k1 _ (h)) (by omega), by omega⟩) (congrArg (fun n => I n) (?_ : IntKind.i64.wrap (IntKind.i64.wrap (0 + 16) + IntKind.i64.wrap (bt tab8 y1_2)) = _))
        rw [len_e (by omega), show (IntKind.i64.wrap (0 + 16) : Int) = 16 by decide]
        have := (len8_is (x := y1_2) (by omega)).2
        rw [wrap_id (by unfold in64; omega)]
        omega
    · refine br_false (decide_eq_false ((by omega : ¬ ((x : Nat) : Int) ≥ 65536))) ?_
      conv => whnf
      by_cases c2 : 256 ≤ x
      · refine br_true (decide_eq_true ((by omega : ((x : Nat) : Int) ≥ 256))) ?_
        conv => whnf
        refine ⟨by decide, ?_⟩
        conv => whnf
        rw [h8]
        have k2 : ∀ L, LenIs (x / 2 ^ 8) L → LenIs x (8 + L) := fun L h => h.up 8 c2
        have b2 : x / 2 ^ 8 < 256 := by omega
        generalize x / 2 ^ 8 = y2_3 at k2 b2 ⊢
        conv => whnf
        have hu : IntKind.u8.wrap ((y2_3 : Nat) : Int) = (y2_3 : Nat) := wrap8 (by omega)
        rw [hu]
        refine ⟨⟨by omega, (by show ((y2_3 : Nat) : Int) < 256; omega)⟩, ?_⟩
        conv => whnf
        refine fin_e ?_
        conv => whnf
        refine len_fin (y := y2_3) (n := 8) (by omega) (fun L h => ⟨LenIs.cast (k2 _ (h)) (by omega), by omega⟩) (congrArg (fun n => I n) (?_ : IntKind.i64.wrap (IntKind.i64.wrap (0 + 8) + IntKind.i64.wrap (bt tab8 y2_3)) = _))
        rw [len_e (by omega), show (IntKind.i64.wrap (0 + 8) : Int) = 8 by decide]
        have := (len8_is (x := y2_3) (by omega)).2
        rw [wrap_id (by unfold in64; omega)]
        omega
      · refine br_false (decide_eq_false ((by omega : ¬ ((x : Nat) : Int) ≥ 256))) ?_
        conv => whnf
        have hu : IntKind.u8.wrap ((x : Nat) : Int) = (x : Nat) := wrap8 (by omega)
        rw [hu]
        refine ⟨⟨by omega, (by show ((x : Nat) : Int) < 256; omega)⟩, ?_⟩
        conv => whnf
        refine fin_e ?_
        conv => whnf
        refine len_fin (y := x) (n := 0) (by omega) (fun L h => ⟨LenIs.cast (h) (by omega), by omega⟩) (congrArg (fun n => I n) (?_ : IntKind.i64.wrap (0 + IntKind.i64.wrap (bt tab8 x)) = _))
        rw [len_e (by omega), show (0 : Int) = 0 by decide]
        have := (len8_is (x := x) (by omega)).2
        rw [wrap_id (by unfold in64; omega)]
        omega


theorem p10_at : ∀ t : Fin 20, at_ p10L t.1 = ((10 ^ t.1 : Nat) : Int) := by decide +kernel
theorem len_p10 : ∀ L : Fin 65, 1 ≤ L.1 → 2 ^ L.1 ≤ 10 ^ (L.1 * 78913 / 262144 + 1) ∧ (1 ≤ L.1 * 78913 / 262144 → 10 ^ (L.1 * 78913 / 262144 - 1) ≤ 2 ^ (L.1 - 1)) ∧ L.1 * 78913 / 262144 < 20 := by decide +kernel

theorem ndg_len {u L : Nat} (h1 : 1 ≤ u) (hu : u < 18446744073709551616) (h : LenIs u L) (hL : L ≤ 64) : ndg u = L * 78913 / 262144 + (if 10 ^ (L * 78913 / 262144) ≤ u then 1 else 0) := by
  obtain ⟨h2, h3⟩ := h.lo h1
  obtain ⟨q1, q2, q3⟩ := len_p10 ⟨L, by omega⟩ h2
  simp only at q1 q2 q3
  generalize L * 78913 / 262144 = t at *
  have h4 := h.hi
  refine (ndg_is hu).uniq ?_
  by_cases c : 10 ^ t ≤ u
  · rw [if_pos c]
    exact ⟨by omega, Nat.lt_of_lt_of_le h4 q1, .inr (by rw [Nat.add_sub_cancel]; exact c)⟩
  · rw [if_neg c, Nat.add_zero]
    have ht : 1 ≤ t := by
      rcases Nat.eq_zero_or_pos t with e | e
      · subst e; simp at c; omega
      · exact e
    exact ⟨by omega, Nat.lt_of_not_le c, .inr (Nat.le_trans (q2 ht) h3)⟩

theorem numDigits_x (u : Nat) (h1 : 1 ≤ u) (hu : u < 18446744073709551616) : PureX Tryd.prog gl0 internal_strconv_numDigits [U (u : Nat)] (fun r => r = I (ndg u : Nat)) := by
  refine pure_fnX mixed fn_internal_strconv_numDigits nt_internal_strconv_numDigits hc_internal_strconv_numDigits (by simp) gl0n (by simp [nf]) ?_
  conv => whnf
  refine call_x2 (bits_Len64_x u hu) (LeL.refl _) ?_
  rintro _ - ⟨L, rfl, h2, h3⟩
  conv => whnf
  refine call_x2 (log10_x L h3) (LeL.refl _) ?_
  rintro _ - rfl
  have q := len_p10 ⟨L, by omega⟩ (h2.lo h1).1
  have h4 := ndg_len h1 hu h2 h3
  simp only at q
  generalize hgt : L * 78913 / 262144 = t at *
  conv => whnf
  refine And.intro (by constructor <;> omega) ?_
  conv => whnf
  have e : at_ p10L (Int.toNat (t : Int)) = ((10 ^ t : Nat) : Int) := p10_at ⟨t, q.2.2⟩
  rw [e]
  by_cases c : 10 ^ t ≤ u
  · refine br_true (decide_eq_true ((by omega : ((u : Nat) : Int) ≥ ((10 ^ t : Nat) : Int)))) ?_
    conv => whnf
    rw [if_pos c] at h4
    refine call_x2 (bool2_x true) (LeL.refl _) ?_
    rintro _ - rfl
    conv => whnf
    refine fin_e ?_
    conv => whnf
    exact ⟨trivial, congrArg (fun n => I n) (by rw [h4]; show IntKind.i64.wrap ((t : Int) + 1) = _; rw [wrap_id (show in64 ((t : Int) + 1) by unfold in64; omega)]; omega)⟩
  · refine br_false (decide_eq_false ((by omega : ¬ (((u : Nat) : Int) ≥ ((10 ^ t : Nat) : Int))))) ?_
    conv => whnf
    rw [if_neg c] at h4
    refine call_x2 (bool2_x false) (LeL.refl _) ?_
    rintro _ - rfl
    conv => whnf
    refine fin_e ?_
    conv => whnf
    exact ⟨trivial, congrArg (fun n => I n) (by rw [h4]; show IntKind.i64.wrap ((t : Int) + 0) = _; rw [wrap_id (show in64 ((t : Int) + 0) by unfold in64; omega)]; omega)⟩

end Go.Proofs.YtoglphkkhhjodaaDoor
