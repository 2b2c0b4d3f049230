/- Products of 128 bits by the program. No condition. -/
import Derived.Test.YtdjmplfjpnikkaaB1
import Derived.Lib.Mul64
import Derived.Laws.Bits64b
set_option linter.all false
namespace Go.Proofs.Ytdjmplfjpnikkaa
open Go Ar
set_option linter.unusedVariables false
set_option autoImplicit false
set_option maxHeartbeats 4000000
set_option maxRecDepth 100000

theorem magnitude_x (x : Int) (hx : in64 x) : PureX Try.prog gl0 money_magnitude [I x] (fun r => r = U (x.natAbs : Nat)) := by
  refine pure_fnX mixed fn_money_magnitude nt_money_magnitude hc_money_magnitude (by simp) gl0n (by simp [nf]) ?_
  conv => whnf
  unfold in64 at hx
  by_cases c : x < 0
  · refine br_true (decide_eq_true (c)) ?_
    conv => whnf
    refine fin_e ?_
    conv => whnf
    refine ⟨trivial, congrArg (fun n => U n) ?_⟩
    rw [wrap_u64, wrap_u64]
    omega
  · refine br_false (decide_eq_false (c)) ?_
    conv => whnf
    refine fin_e ?_
    conv => whnf
    refine ⟨trivial, congrArg (fun n => U n) ?_⟩
    rw [wrap_u64]
    omega

theorem withSign_x (b : Bool) (M : Nat) (hM : M < 18446744073709551616) : PureX Try.prog gl0 money_withSign [B b, U M] (fun r => r = sgnV b M) := by
  refine pure_fnX mixed fn_money_withSign nt_money_withSign hc_money_withSign (by simp) gl0n (by simp [nf]) ?_
  conv => whnf
  cases b <;> (conv => whnf)
  · repeat' first
      | (refine br_dec (fun h0 => ?_) (fun h0 => ?_) <;> (conv => whnf))
      | (refine br_intro (fun hb => ?_) (fun hb => ?_) <;> ((try rw [hb]); (conv => whnf); (try simp at hb)))
      | (refine aI ?_; (conv => whnf))
      | (refine fin_e ?_; (conv => whnf); refine ⟨by simp [packA, consL, nf], ?_⟩; show _ = (if M ≤ 9223372036854775807 then _ else _); first | (rw [if_neg (by omega)]; rfl) | (rw [if_pos (by omega)]; exact congrArg (fun n => tup2 (I n) (B true)) (wrap_id (by unfold in64; omega))))
      | fail
  · repeat' first
      | (refine br_dec (fun h0 => ?_) (fun h0 => ?_) <;> (conv => whnf))
      | (refine br_intro (fun hb => ?_) (fun hb => ?_) <;> ((try rw [hb]); (conv => whnf); (try simp at hb)))
      | (refine aI ?_; (conv => whnf))
      | (refine fin_e ?_; (conv => whnf); refine ⟨by simp [packA, consL, nf], ?_⟩; show _ = (if M ≤ 9223372036854775808 then _ else _); first | (rw [if_neg (by omega)]; rfl) | (rw [if_pos (by omega)]; exact congrArg (fun n => tup2 (I n) (B true)) (by rw [wrap_u64, wrap_i64]; split <;> omega)))
      | fail

theorem and_mask (a : Nat) (ha : a < 18446744073709551616) : IntKind.u64.wrap (BitVec.ofInt IntKind.u64.bits (a : Int) &&& BitVec.ofInt IntKind.u64.bits 4294967295).toNat = ((a % 4294967296 : Nat) : Int) := by
  have h := bits_and_u64_nat a 4294967295 ha (by omega)
  have e : a &&& 4294967295 = a % 4294967296 := Nat.and_two_pow_sub_one_eq_mod a 32
  rw [e] at h
  exact h

theorem shr32 (a : Nat) : (a : Int).fdiv (2 ^ min (Int.toNat 32) IntKind.u64.bits) = ((a / 4294967296 : Nat) : Int) := by
  have : (2 : Int) ^ min (Int.toNat 32) IntKind.u64.bits = 4294967296 := by decide
  rw [this, Int.fdiv_eq_ediv_of_nonneg _ (by omega)]
  omega

theorem mulN (a b : Nat) : (a : Int) * (b : Int) = ((a * b : Nat) : Int) := (Int.natCast_mul a b).symm
theorem addN (a b : Nat) : (a : Int) + (b : Int) = ((a + b : Nat) : Int) := (Int.natCast_add a b).symm
theorem wrapN (a : Nat) (ha : a < 18446744073709551616) : IntKind.u64.wrap (a : Int) = (a : Int) := by rw [wrap_u64]; omega
theorem wrapM (a : Nat) : IntKind.u64.wrap (a : Int) = ((a % 18446744073709551616 : Nat) : Int) := by rw [wrap_u64]; omega

theorem bits_Mul64_x (x y : Nat) (hx : x < 18446744073709551616) (hy : y < 18446744073709551616) : PureX Try.prog gl0 math_bits_Mul64 [U (x : Nat), U (y : Nat)] (fun r => r = tup2 (U (x * y / 18446744073709551616 : Nat)) (U (x * y % 18446744073709551616 : Nat))) := by
  refine pure_fnX mixed fn_math_bits_Mul64 nt_math_bits_Mul64 hc_math_bits_Mul64 (by simp) gl0n (by simp [nf]) ?_
  conv => whnf
  repeat' first
    | (refine And.intro (by decide) ?_; (conv => whnf))
  refine fin_e ?_
  conv => whnf
  refine ⟨by simp [packA, consL, nf], ?_⟩
  obtain ⟨bd, bt, bw, hhi⟩ := Lib.mul64_hi x y hx hy
  have ba := Lib.half_mul_le (a := x / 4294967296) (b := y / 4294967296) (by omega) (by omega)
  have bb := Lib.half_mul_le (a := x / 4294967296) (b := y % 4294967296) (by omega) (by omega)
  have bc := Lib.half_mul_le (a := x % 4294967296) (b := y / 4294967296) (by omega) (by omega)
  have ba' : x / 4294967296 * (y / 4294967296) < 18446744073709551616 := by omega
  have bb' : x / 4294967296 * (y % 4294967296) < 18446744073709551616 := by omega
  have bc' : x % 4294967296 * (y / 4294967296) < 18446744073709551616 := by omega
  have bh1 : x / 4294967296 * (y / 4294967296) + (x / 4294967296 * (y % 4294967296) + x % 4294967296 * (y % 4294967296) / 4294967296) / 4294967296 < 18446744073709551616 := by omega
  have bh : x / 4294967296 * (y / 4294967296) + (x / 4294967296 * (y % 4294967296) + x % 4294967296 * (y % 4294967296) / 4294967296) / 4294967296 + ((x / 4294967296 * (y % 4294967296) + x % 4294967296 * (y % 4294967296) / 4294967296) % 4294967296 + x % 4294967296 * (y / 4294967296)) / 4294967296 < 18446744073709551616 := by omega
  simp only [and_mask x hx, and_mask y hy, shr32, mulN, addN, wrapN _ bd, wrapN _ bb', wrapN _ bt, and_mask _ bt, wrapN _ bc', wrapN _ bw, wrapN _ ba', wrapN _ bh1, wrapN _ bh]
  rw [hhi, wrapM]
  rfl

end Go.Proofs.Ytdjmplfjpnikkaa
namespace Go.Proofs.Ytdjmplfjpnikkaa
open Go Ar
set_option linter.unusedVariables false
set_option autoImplicit false
set_option maxHeartbeats 4000000
set_option maxRecDepth 100000

/-- The length of a number. -/
structure LenIs (x L : Nat) : Prop where
  lo : 0 < x → 1 ≤ L ∧ 2 ^ (L - 1) ≤ x
  hi : x < 2 ^ L

theorem LenIs.up {x L : Nat} (n : Nat) (h : LenIs (x / 2 ^ n) L) (hx : 2 ^ n ≤ x) : LenIs x (n + L) := by
  have hp := Nat.two_pow_pos n
  have h0 : 0 < x / 2 ^ n := Nat.div_pos hx hp
  obtain ⟨h1, h2⟩ := h.lo h0
  refine ⟨fun _ => ⟨by omega, ?_⟩, ?_⟩
  · rw [show n + L - 1 = (L - 1) + n by omega, Nat.pow_add]
    exact (Nat.le_div_iff_mul_le hp).1 h2
  · rw [Nat.add_comm, Nat.pow_add]
    exact (Nat.div_lt_iff_lt_mul hp).1 h.hi

def tab8 : ByteArray := ⟨#[0, 1, 2, 2, 3, 3, 3, 3, 4, 4, 4, 4, 4, 4, 4, 4, 5, 5, 5, 5, 5, 5, 5, 5, 5, 5, 5, 5, 5, 5, 5, 5, 6, 6, 6, 6, 6, 6, 6, 6, 6, 6, 6, 6, 6, 6, 6, 6, 6, 6, 6, 6, 6, 6, 6, 6, 6, 6, 6, 6, 6, 6, 6, 6, 7, 7, 7, 7, 7, 7, 7, 7, 7, 7, 7, 7, 7, 7, 7, 7, 7, 7, 7, 7, 7, 7, 7, 7, 7, 7, 7, 7, 7, 7, 7, 7, 7, 7, 7, 7, 7, 7, 7, 7, 7, 7, 7, 7, 7, 7, 7, 7, 7, 7, 7, 7, 7, 7, 7, 7, 7, 7, 7, 7, 7, 7, 7, 7, 8, 8, 8, 8, 8, 8, 8, 8, 8, 8, 8, 8, 8, 8, 8, 8, 8, 8, 8, 8, 8, 8, 8, 8, 8, 8, 8, 8, 8, 8, 8, 8, 8, 8, 8, 8, 8, 8, 8, 8, 8, 8, 8, 8, 8, 8, 8, 8, 8, 8, 8, 8, 8, 8, 8, 8, 8, 8, 8, 8, 8, 8, 8, 8, 8, 8, 8, 8, 8, 8, 8, 8, 8, 8, 8, 8, 8, 8, 8, 8, 8, 8, 8, 8, 8, 8, 8, 8, 8, 8, 8, 8, 8, 8, 8, 8, 8, 8, 8, 8, 8, 8, 8, 8, 8, 8, 8, 8, 8, 8, 8, 8, 8, 8, 8, 8, 8, 8, 8, 8, 8, 8, 8, 8, 8, 8, 8, 8]⟩

def len8 (x : Nat) : Nat := (tab8.data.getD x 0).toNat
theorem len8_all : ∀ x, x < 256 → (x = 0 → len8 x = 0) ∧ (0 < x → 1 ≤ len8 x ∧ 2 ^ (len8 x - 1) ≤ x) ∧ x < 2 ^ len8 x ∧ len8 x ≤ 8 := by decide +kernel
theorem len8_is {x : Nat} (h : x < 256) : LenIs x (len8 x) ∧ len8 x ≤ 8 := ⟨⟨(len8_all x h).2.1, (len8_all x h).2.2.1⟩, (len8_all x h).2.2.2⟩

theorem LenIs.cast {x L L' : Nat} (h : LenIs x L) (e : L = L') : LenIs x L' := e ▸ h
theorem wrap8 {y : Nat} (h : y < 256) : IntKind.u8.wrap ((y : Nat) : Int) = (y : Nat) := by
  simp [IntKind.wrap, IntKind.signed, IntKind.bits]; omega
theorem len_e {y : Nat} (h : y < 256) : IntKind.i64.wrap (bt tab8 y) = ((len8 y : Nat) : Int) := by
  have := (len8_is h).2
  exact wrap_id (n := ((len8 y : Nat) : Int)) (by unfold in64; omega)

theorem len_fin {x y n : Nat} {v : AV} (hy : y < 256) (h : ∀ L, LenIs y L → LenIs x (n + L) ∧ n ≤ 56) (hv : v = I ((n + len8 y : Nat) : Int)) : nf v ∧ ∃ L, v = I (L : Nat) ∧ LenIs x L ∧ L ≤ 64 := by
  obtain ⟨h1, h2⟩ := len8_is hy
  obtain ⟨h3, h4⟩ := h _ h1
  subst hv
  exact ⟨trivial, _, rfl, h3, by omega⟩

theorem bits_Len64_x (x : Nat) (hx : x < 18446744073709551616) : PureX Try.prog gl0 math_bits_Len64 [U (x : Nat)] (fun r => ∃ L, r = I (L : Nat) ∧ LenIs x L ∧ L ≤ 64) := by
  refine pure_fnX mixed fn_math_bits_Len64 nt_math_bits_Len64 hc_math_bits_Len64 (by simp) gl0n (by simp [nf]) ?_
  conv => whnf
  have h32 : ∀ y : Nat, ((y : Nat) : Int).fdiv (2 ^ min (Int.toNat 32) IntKind.u64.bits) = ((y / 2 ^ 32 : Nat) : Int) := fun y => shr32 y
  have h16 : ∀ y : Nat, ((y : Nat) : Int).fdiv (2 ^ min (Int.toNat 16) IntKind.u64.bits) = ((y / 2 ^ 16 : Nat) : Int) := fun y => by
    have : (2 : Int) ^ min (Int.toNat 16) IntKind.u64.bits = 65536 := by decide
    rw [this, Int.fdiv_eq_ediv_of_nonneg _ (by omega)]; omega
  have h8 : ∀ y : Nat, ((y : Nat) : Int).fdiv (2 ^ min (Int.toNat 8) IntKind.u64.bits) = ((y / 2 ^ 8 : Nat) : Int) := fun y => by
    have : (2 : Int) ^ min (Int.toNat 8) IntKind.u64.bits = 256 := by decide
    rw [this, Int.fdiv_eq_ediv_of_nonneg _ (by omega)]; omega
  by_cases c0 : 4294967296 ≤ x
  · refine br_true (decide_eq_true ((by omega : ((x : Nat) : Int) ≥ 4294967296))) ?_
    conv => whnf
    refine ⟨by decide, ?_⟩
    conv => whnf
    rw [h32]
    have k0 : ∀ L, LenIs (x / 2 ^ 32) L → LenIs x (32 + L) := fun L h => h.up 32 c0
    have b0 : x / 2 ^ 32 < 4294967296 := by omega
    generalize x / 2 ^ 32 = y0_1 at k0 b0 ⊢
    conv => whnf
    by_cases c1 : 65536 ≤ y0_1
    · refine br_true (decide_eq_true ((by omega : ((y0_1 : Nat) : Int) ≥ 65536))) ?_
      conv => whnf
      refine ⟨by decide, ?_⟩
      conv => whnf
      rw [h16]
      have k1 : ∀ L, LenIs (y0_1 / 2 ^ 16) L → LenIs y0_1 (16 + L) := fun L h => h.up 16 c1
      have b1 : y0_1 / 2 ^ 16 < 65536 := by omega
      generalize y0_1 / 2 ^ 16 = y1_2 at k1 b1 ⊢
      conv => whnf
      by_cases c2 : 256 ≤ y1_2
      · refine br_true (decide_eq_true ((by omega : ((y1_2 : Nat) : Int) ≥ 256))) ?_
        conv => whnf
        refine ⟨by decide, ?_⟩
        conv => whnf
        rw [h8]
        have k2 : ∀ L, LenIs (y1_2 / 2 ^ 8) L → LenIs y1_2 (8 + L) := fun L h => h.up 8 c2
        have b2 : y1_2 / 2 ^ 8 < 256 := by omega
        generalize y1_2 / 2 ^ 8 = y2_3 at k2 b2 ⊢
        conv => whnf
        have hu : IntKind.u8.wrap ((y2_3 : Nat) : Int) = (y2_3 : Nat) := wrap8 (by omega)
        rw [hu]
        refine ⟨⟨by omega, (by show ((y2_3 : Nat) : Int) < 256; omega)⟩, ?_⟩
        conv => whnf
        refine fin_e ?_
        conv => whnf
        refine len_fin (y := y2_3) (n := 56) (by omega) (fun L h => ⟨LenIs.cast (k0 _ (k1 _ (k2 _ (h)))) (by omega), by omega⟩) (congrArg (fun n => I n) (?_ : IntKind.i64.wrap (IntKind.i64.wrap (IntKind.i64.wrap (32 + 16) + 8) + IntKind.i64.wrap (bt tab8 y2_3)) = _))
        rw [len_e (by omega), show (IntKind.i64.wrap (IntKind.i64.wrap (32 + 16) + 8) : Int) = 56 by decide]
        have := (len8_is (x := y2_3) (by omega)).2
        rw [wrap_id (by unfold in64; omega)]
        omega
      · refine br_false (decide_eq_false ((by omega : ¬ ((y1_2 : Nat) : Int) ≥ 256))) ?_
        conv => whnf
        have hu : IntKind.u8.wrap ((y1_2 : Nat) : Int) = (y1_2 : Nat) := wrap8 (by omega)
        rw [hu]
        refine ⟨⟨by omega, (by show ((y1_2 : Nat) : Int) < 256; omega)⟩, ?_⟩
        conv => whnf
        refine fin_e ?_
        conv => whnf
        refine len_fin (y := y1_2) (n := 48) (by omega) (fun L h => ⟨LenIs.cast (k0 _ (k1 _ (h))) (by omega), by omega⟩) (congrArg (fun n => I n) (?_ : IntKind.i64.wrap (IntKind.i64.wrap (32 + 16) + IntKind.i64.wrap (bt tab8 y1_2)) = _))
        rw [len_e (by omega), show (IntKind.i64.wrap (32 + 16) : Int) = 48 by decide]
        have := (len8_is (x := y1_2) (by omega)).2
        rw [wrap_id (by unfold in64; omega)]
        omega
    · refine br_false (decide_eq_false ((by omega : ¬ ((y0_1 : Nat) : Int) ≥ 65536))) ?_
      conv => whnf
      by_cases c2 : 256 ≤ y0_1
      · refine br_true (decide_eq_true ((by omega : ((y0_1 : Nat) : Int) ≥ 256))) ?_
        conv => whnf
        refine ⟨by decide, ?_⟩
        conv => whnf
        rw [h8]
        have k2 : ∀ L, LenIs (y0_1 / 2 ^ 8) L → LenIs y0_1 (8 + L) := fun L h => h.up 8 c2
        have b2 : y0_1 / 2 ^ 8 < 256 := by omega
        generalize y0_1 / 2 ^ 8 = y2_3 at k2 b2 ⊢
        conv => whnf
        have hu : IntKind.u8.wrap ((y2_3 : Nat) : Int) = (y2_3 : Nat) := wrap8 (by omega)
        rw [hu]
        refine ⟨⟨by omega, (by show ((y2_3 : Nat) : Int) < 256; omega)⟩, ?_⟩
        conv => whnf
        refine fin_e ?_
        conv => whnf
        refine len_fin (y := y2_3) (n := 40) (by omega) (fun L h => ⟨LenIs.cast (k0 _ (k2 _ (h))) (by omega), by omega⟩) (congrArg (fun n => I n) (?_ : IntKind.i64.wrap (IntKind.i64.wrap (32 + 8) + IntKind.i64.wrap (bt tab8 y2_3)) = _))
        rw [len_e (by omega), show (IntKind.i64.wrap (32 + 8) : Int) = 40 by decide]
        have := (len8_is (x := y2_3) (by omega)).2
        rw [wrap_id (by unfold in64; omega)]
        omega
      · refine br_false (decide_eq_false ((by omega : ¬ ((y0_1 : Nat) : Int) ≥ 256))) ?_
        conv => whnf
        have hu : IntKind.u8.wrap ((y0_1 : Nat) : Int) = (y0_1 : Nat) := wrap8 (by omega)
        rw [hu]
        refine ⟨⟨by omega, (by show ((y0_1 : Nat) : Int) < 256; omega)⟩, ?_⟩
        conv => whnf
        refine fin_e ?_
        conv => whnf
        refine len_fin (y := y0_1) (n := 32) (by omega) (fun L h => ⟨LenIs.cast (k0 _ (h)) (by omega), by omega⟩) (congrArg (fun n => I n) (?_ : IntKind.i64.wrap (32 + IntKind.i64.wrap (bt tab8 y0_1)) = _))
        rw [len_e (by omega), show (32 : Int) = 32 by decide]
        have := (len8_is (x := y0_1) (by omega)).2
        rw [wrap_id (by unfold in64; omega)]
        omega
  · refine br_false (decide_eq_false ((by omega : ¬ ((x : Nat) : Int) ≥ 4294967296))) ?_
    conv => whnf
    by_cases c1 : 65536 ≤ x
    · refine br_true (decide_eq_true ((by omega : ((x : Nat) : Int) ≥ 65536))) ?_
      conv => whnf
      refine ⟨by decide, ?_⟩
      conv => whnf
      rw [h16]
      have k1 : ∀ L, LenIs (x / 2 ^ 16) L → LenIs x (16 + L) := fun L h => h.up 16 c1
      have b1 : x / 2 ^ 16 < 65536 := by omega
      generalize x / 2 ^ 16 = y1_2 at k1 b1 ⊢
      conv => whnf
      by_cases c2 : 256 ≤ y1_2
      · refine br_true (decide_eq_true ((by omega : ((y1_2 : Nat) : Int) ≥ 256))) ?_
        conv => whnf
        refine ⟨by decide, ?_⟩
        conv => whnf
        rw [h8]
        have k2 : ∀ L, LenIs (y1_2 / 2 ^ 8) L → LenIs y1_2 (8 + L) := fun L h => h.up 8 c2
        have b2 : y1_2 / 2 ^ 8 < 256 := by omega
        generalize y1_2 / 2 ^ 8 = y2_3 at k2 b2 ⊢
        conv => whnf
        have hu : IntKind.u8.wrap ((y2_3 : Nat) : Int) = (y2_3 : Nat) := wrap8 (by omega)
        rw [hu]
        refine ⟨⟨by omega, (by show ((y2_3 : Nat) : Int) < 256; omega)⟩, ?_⟩
        conv => whnf
        refine fin_e ?_
        conv => whnf
        refine len_fin (y := y2_3) (n := 24) (by omega) (fun L h => ⟨LenIs.cast (k1 _ (k2 _ (h))) (by omega), by omega⟩) (congrArg (fun n => I n) (?_ : IntKind.i64.wrap (IntKind.i64.wrap (IntKind.i64.wrap (0 + 16) + 8) + IntKind.i64.wrap (bt tab8 y2_3)) = _))
        rw [len_e (by omega), show (IntKind.i64.wrap (IntKind.i64.wrap (0 + 16) + 8) : Int) = 24 by decide]
        have := (len8_is (x := y2_3) (by omega)).2
        rw [wrap_id (by unfold in64; omega)]
        omega
      · refine br_false (decide_eq_false ((by omega : ¬ ((y1_2 : Nat) : Int) ≥ 256))) ?_
        conv => whnf
        have hu : IntKind.u8.wrap ((y1_2 : Nat) : Int) = (y1_2 : Nat) := wrap8 (by omega)
        rw [hu]
        refine ⟨⟨by omega, (by show ((y1_2 : Nat) : Int) < 256; omega)⟩, ?_⟩
        conv => whnf
        refine fin_e ?_
        conv => whnf
        refine len_fin (y := y1_2) (n := 16) (by omega) (fun L h => ⟨LenIs.cast (k1 _ (h)) (by omega), by omega⟩) (congrArg (fun n => I n) (?_ : IntKind.i64.wrap (IntKind.i64.wrap (0 + 16) + IntKind.i64.wrap (bt tab8 y1_2)) = _))
        rw [len_e (by omega), show (IntKind.i64.wrap (0 + 16) : Int) = 16 by decide]
        have := (len8_is (x := y1_2) (by omega)).2
        rw [wrap_id (by unfold in64; omega)]
        omega
    · refine br_false (decide_eq_false ((by omega : ¬ ((x : Nat) : Int) ≥ 65536))) ?_
      conv => whnf
      by_cases c2 : 256 ≤ x
      · refine br_true (decide_eq_true ((by omega : ((x : Nat) : Int) ≥ 256))) ?_
        conv => whnf
        refine ⟨by decide, ?_⟩
        conv => whnf
        rw [h8]
        have k2 : ∀ L, LenIs (x / 2 ^ 8) L → LenIs x (8 + L) := fun L h => h.up 8 c2
        have b2 : x / 2 ^ 8 < 256 := by omega
        generalize x / 2 ^ 8 = y2_3 at k2 b2 ⊢
        conv => whnf
        have hu : IntKind.u8.wrap ((y2_3 : Nat) : Int) = (y2_3 : Nat) := wrap8 (by omega)
        rw [hu]
        refine ⟨⟨by omega, (by show ((y2_3 : Nat) : Int) < 256; omega)⟩, ?_⟩
        conv => whnf
        refine fin_e ?_
        conv => whnf
        refine len_fin (y := y2_3) (n := 8) (by omega) (fun L h => ⟨LenIs.cast (k2 _ (h)) (by omega), by omega⟩) (congrArg (fun n => I n) (?_ : IntKind.i64.wrap (IntKind.i64.wrap (0 + 8) + IntKind.i64.wrap (bt tab8 y2_3)) = _))
        rw [len_e (by omega), show (IntKind.i64.wrap (0 + 8) : Int) = 8 by decide]
        have := (len8_is (x := y2_3) (by omega)).2
        rw [wrap_id (by unfold in64; omega)]
        omega
      · refine br_false (decide_eq_false ((by omega : ¬ ((x : Nat) : Int) ≥ 256))) ?_
        conv => whnf
        have hu : IntKind.u8.wrap ((x : Nat) : Int) = (x : Nat) := wrap8 (by omega)
        rw [hu]
        refine ⟨⟨by omega, (by show ((x : Nat) : Int) < 256; omega)⟩, ?_⟩
        conv => whnf
        refine fin_e ?_
        conv => whnf
        refine len_fin (y := x) (n := 0) (by omega) (fun L h => ⟨LenIs.cast (h) (by omega), by omega⟩) (congrArg (fun n => I n) (?_ : IntKind.i64.wrap (0 + IntKind.i64.wrap (bt tab8 x)) = _))
        rw [len_e (by omega), show (0 : Int) = 0 by decide]
        have := (len8_is (x := x) (by omega)).2
        rw [wrap_id (by unfold in64; omega)]
        omega


end Go.Proofs.Ytdjmplfjpnikkaa
namespace Go.Proofs.Ytdjmplfjpnikkaa
open Go Ar
set_option linter.unusedVariables false
set_option autoImplicit false
set_option maxHeartbeats 4000000
set_option maxRecDepth 100000

/-- One digit of the quotient of u * B + d by a * B + b: what the guess q with the rest r is known to be. -/
structure Kn (u d a b q r : Nat) : Prop where
  e : u = q * a + r
  ge : (u * 4294967296 + d) / (a * 4294967296 + b) ≤ q
  le : q ≤ 4294967297

structure KnG (u d a b : Nat) : Prop where
  ha : 2147483648 ≤ a
  ha2 : a < 4294967296
  hb : b < 4294967296
  hd : d < 4294967296
  hu : u < a * 4294967296 + b

theorem KnG.q_lt {u d a b : Nat} (g : KnG u d a b) : (u * 4294967296 + d) / (a * 4294967296 + b) < 4294967296 := by
  have h1 := g.ha; have h2 := g.hd; have h3 := g.hu
  rw [Nat.div_lt_iff_lt_mul (by omega)]
  omega

/-- What is left over with the guess q. -/
theorem kn_rest {u d a b q r : Nat} (e : u = q * a + r) : u * 4294967296 + d + q * b = q * (a * 4294967296 + b) + (r * 4294967296 + d) := by
  subst e
  rw [Nat.mul_add, Nat.add_mul, Nat.mul_assoc]
  omega

theorem KnG.first {u d a b : Nat} (g : KnG u d a b) : Kn u d a b (u / a) (u % a) := by
  have h1 := g.ha; have h2 := g.ha2; have h3 := g.hb; have h4 := g.hd; have h5 := g.hu
  have ha0 : 0 < a := by omega
  have e := Nat.div_add_mod u a
  have hr := Nat.mod_lt u ha0
  rw [Nat.mul_comm] at e
  refine ⟨e.symm, ?_, ?_⟩
  · have k := kn_rest (d := d) (b := b) e.symm
    have h6 : u * 4294967296 + d < (u / a + 1) * (a * 4294967296 + b) := by
      rw [Nat.add_mul, Nat.one_mul]
      have : (u % a) * 4294967296 + 4294967296 ≤ a * 4294967296 := by omega
      omega
    exact Nat.le_of_lt_succ ((Nat.div_lt_iff_lt_mul (by omega : 0 < a * 4294967296 + b)).2 h6)
  · have : u < 4294967298 * a := by omega
    exact Nat.le_of_lt_succ ((Nat.div_lt_iff_lt_mul ha0).2 this)

/-- The guess is too great. -/
theorem Kn.big {u d a b q r : Nat} (g : KnG u d a b) (h : Kn u d a b q r) (hc : q ≥ 4294967296 ∨ q * b > r * 4294967296 + d) : (u * 4294967296 + d) / (a * 4294967296 + b) < q := by
  have h0 := g.q_lt
  have h1 := g.ha
  have hY : 0 < a * 4294967296 + b := by omega
  rcases hc with hc | hc
  · exact Nat.lt_of_lt_of_le h0 hc
  · have k := kn_rest (d := d) (b := b) h.e
    have h5 : u * 4294967296 + d < q * (a * 4294967296 + b) := Nat.lt_of_add_lt_add_right (n := q * b) (by rw [k]; exact Nat.add_lt_add_left hc _)
    exact (Nat.div_lt_iff_lt_mul hY).2 h5

theorem Kn.step {u d a b q r : Nat} (g : KnG u d a b) (h : Kn u d a b q r) (hc : q ≥ 4294967296 ∨ q * b > r * 4294967296 + d) : 0 < q ∧ q - 1 ≤ 4294967296 ∧ Kn u d a b (q - 1) (r + a) := by
  have h1 := h.big g hc
  have h2 := h.le
  have h0 : 0 < q := Nat.lt_of_le_of_lt (Nat.zero_le _) h1
  refine ⟨h0, by omega, ?_, Nat.le_sub_one_of_lt h1, by omega⟩
  have h3 := h.e
  obtain ⟨p, rfl⟩ : ∃ p, q = p + 1 := ⟨q - 1, by omega⟩
  rw [Nat.add_mul, Nat.one_mul] at h3
  show u = (p + 1 - 1) * a + (r + a)
  rw [Nat.add_sub_cancel]
  omega

/-- The guess fits. -/
theorem Kn.fits {u d a b q r : Nat} (g : KnG u d a b) (h : Kn u d a b q r) (hc : q * b ≤ r * 4294967296 + d) : q = (u * 4294967296 + d) / (a * 4294967296 + b) := by
  have k := kn_rest (d := d) (b := b) h.e
  have h1 := g.ha
  have h2 : q ≤ (u * 4294967296 + d) / (a * 4294967296 + b) := by
    refine (Nat.le_div_iff_mul_le (by omega)).2 ?_
    omega
  exact Nat.le_antisymm h2 h.ge

theorem Kn.wide {u d a b q r : Nat} (g : KnG u d a b) (h : Kn u d a b q r) (hq : q ≤ 4294967296) (hr : 4294967296 ≤ r) : q = (u * 4294967296 + d) / (a * 4294967296 + b) := by
  refine h.fits g ?_
  have h3 := g.hb
  have h4 : q * b ≤ 4294967296 * b := Nat.mul_le_mul_right _ hq
  omega

theorem two_digH (H d0 Y : Nat) (hY : 0 < Y) :
    (H * 4294967296 + d0) / Y = H / Y * 4294967296 + (H % Y * 4294967296 + d0) / Y ∧ (H * 4294967296 + d0) % Y = (H % Y * 4294967296 + d0) % Y := by
  have e := Nat.div_add_mod H Y
  have e2 : H * 4294967296 + d0 = Y * (H / Y * 4294967296) + (H % Y * 4294967296 + d0) := by
    have e3 : H * 4294967296 = (Y * (H / Y) + H % Y) * 4294967296 := by rw [e]
    rw [e3, Nat.add_mul, Nat.mul_assoc, Nat.add_assoc]
  refine ⟨?_, ?_⟩
  · conv => lhs; rw [e2]
    rw [Nat.mul_add_div hY]
  · conv => lhs; rw [e2]
    rw [Nat.mul_add_mod]

/-- The two digits together. -/
theorem two_digits (u d1 d0 Y : Nat) (hY : 0 < Y) :
    ((u * 4294967296 + d1) * 4294967296 + d0) / Y = (u * 4294967296 + d1) / Y * 4294967296 + ((u * 4294967296 + d1) % Y * 4294967296 + d0) / Y ∧
    ((u * 4294967296 + d1) * 4294967296 + d0) % Y = ((u * 4294967296 + d1) % Y * 4294967296 + d0) % Y := by
  exact two_digH (u * 4294967296 + d1) d0 Y hY

/-- The shift is taken back. -/
theorem shift_back (n y s : Nat) (hy : 0 < y) : n * 2 ^ s / (y * 2 ^ s) = n / y ∧ n * 2 ^ s % (y * 2 ^ s) / 2 ^ s = n % y := by
  have hp := Nat.two_pow_pos s
  refine ⟨Nat.mul_div_mul_right n y hp, ?_⟩
  rw [Nat.mul_mod_mul_right, Nat.mul_div_cancel _ hp]

end Go.Proofs.Ytdjmplfjpnikkaa
