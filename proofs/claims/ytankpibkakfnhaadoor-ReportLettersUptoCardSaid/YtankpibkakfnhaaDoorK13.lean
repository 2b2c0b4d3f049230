/- What the walks share. No condition. -/
import Derived.Test.YtankpibkakfnhaaDoorK12
import Derived.Test.YtankpibkakfnhaaDoorK07
import Derived.Test.YtankpibkakfnhaaDoorK11
set_option linter.all false
namespace Go.Proofs.YtankpibkakfnhaaDoor
open Go Ar
variable {ml : GV}
set_option linter.unusedVariables false
set_option autoImplicit false
set_option maxHeartbeats 4000000

attribute [simp] nf_I nf_encBk nf_encIns nf_encTrm nf_encCse nf_encPrt nf_encNtc nf_encEty nf_encOwd nf_encPsn nf_encEvt nf_encDte nf_encLn nf_encPol nf_encOtc nf_encStt nf_encOpn nf_encWrk nfL_I nfL_Ins nfL_Ntc nfL_Ety nfL_Ln nfL_Opn nfL_Bk nf_encBf nfL_Bf

/-- Side conditions and ends, found by the same few ways everywhere. -/
theorem aI {A B : Prop} (h : B) (ha : A := by first | omega | rfl | (simp only [List.length_cons, List.length_nil]; omega) | (rw [wrap_id (by unfold in64; omega)]; omega)) : A ∧ B := ⟨ha, h⟩
theorem lfA {A B : Prop} (ha : A := by simp [packA, consL, nf]) (hb : B := by first | exact ⟨_, rfl⟩ | exact ⟨_, _, rfl⟩ | exact ⟨_, _, _, rfl⟩) : A ∧ B := ⟨ha, hb⟩

theorem inc_id {k : Nat} {m : Nat} (h : k < m) (hm : (m : Int) < 9223372036854775808) : IntKind.i64.wrap ((k : Int) + 1) = ((k + 1 : Nat) : Int) := by
  rw [wrap_id (by unfold in64; omega)]; omega

abbrev hasI (p : Pol) : Prop := (p.holidays.length : Int) < 9223372036854775808

/-- Cells that are numbers are a list of numbers. -/
theorem ints_of {tok : Option Nat} {n : Nat} {f : Nat → AV} (h : ∀ i, ∃ x, f i = I x) : ∃ xs : List Int, xs.length = n ∧ LeA (.lst tok n 1 f) (encL I 1 xs) := by
  refine ⟨(List.range n).map fun i => (h i).choose, by simp, ?_⟩
  unfold encL encT
  simp only [List.length_map, List.length_range]
  refine LeA.lst (.inr rfl) fun i hi => LeA.of_eq ?_
  rw [(h i).choose_spec]
  congr 2
  rw [at_lt (by simpa using hi)]
  simp

/-- A row of one's own has grown by a number. -/
theorem leA_grow {τ : Nat → Nat} {xs : List Int} {x : Int} {k e : Nat} {h : Nat → AV} (hk : k = xs.length + 1) (h0 : h 0 = I x) :
    LeA (.arr k e (fun i => ren τ (appF xs.length (fun i => I (at_ xs i)) h i))) (.arr (xs ++ [x]).length e (fun i => I (at_ (xs ++ [x]) i))) := by
  subst hk
  rw [List.length_append]
  refine LeA.arr fun i hi => LeA.of_eq ?_
  unfold appF
  by_cases hlt : i < xs.length
  · rw [if_pos hlt, at_append_left hlt]; rfl
  · obtain rfl : i = xs.length := by omega
    rw [if_neg hlt, at_append_right (Nat.le_refl _)]
    simp only [Nat.sub_self, h0]
    rfl

theorem le_sli {o lo a b e : Nat} {ty : TypeId} (h : a = b) : Le (.sli o lo a e ty) (.sli o lo b e ty) := h ▸ Le.refl _

end Go.Proofs.YtankpibkakfnhaaDoor
namespace Go.Proofs.YtankpibkakfnhaaDoor
open Go Ar
variable {ml : GV}
set_option linter.unusedVariables false
set_option autoImplicit false
set_option maxHeartbeats 4000000
set_option maxRecDepth 100000

abbrev T (s : ByteArray) : AV := .val (.string s)
theorem ba_eq {a b : ByteArray} (h : a.data = b.data) : a = b := ByteArray.ext h
theorem small1' {i : Nat} (h : i < 10) : digs.extract i (i + 1) = decT i := ba_eq (small1 ⟨i, h⟩)
theorem small2' {i : Nat} (h : i < 100) (h' : 10 ≤ i) : smalls.extract (i * 2) (i * 2 + 2) = decT i := ba_eq (small2 ⟨i, h⟩ h')

theorem small_x (i : Nat) (h : i < 100) : PureX Tryd.prog (gl0 ml) internal_strconv_small [I i] (fun r => r = T (decT i)) := by
  refine pure_fnX mixed fn_internal_strconv_small nt_internal_strconv_small hc_internal_strconv_small (by simp) (gl0n ml) (by simp [nf]) ?_
  conv => whnf
  have e1 : IntKind.i64.wrap ((i : Int) + 1) = ((i + 1 : Nat) : Int) := by rw [wrap_id (by unfold in64; omega)]; omega
  have e2 : IntKind.i64.wrap ((i : Int) * 2) = ((i * 2 : Nat) : Int) := by rw [wrap_id (by unfold in64; omega)]; omega
  have e3 : IntKind.i64.wrap (((i * 2 : Nat) : Int) + 2) = ((i * 2 + 2 : Nat) : Int) := by rw [wrap_id (by unfold in64; omega)]; omega
  by_cases c : i < 10
  · refine br_true (decide_eq_true ((by omega : (i : Int) < 10))) ?_
    conv => whnf
    rw [e1]
    repeat' first
      | (refine And.intro (by first | omega | (rw [digs_size]; constructor <;> omega) | (constructor <;> omega) | (show i ≤ i + 1; omega) | fail) ?_; (conv => whnf))
      | fail
    refine fin_e ?_
    conv => whnf
    exact ⟨trivial, congrArg (fun s => T s) (small1' c)⟩
  · refine br_false (decide_eq_false ((by omega : ¬ ((i : Int) < 10)))) ?_
    conv => whnf
    rw [e2, e3]
    repeat' first
      | (refine And.intro (by first | omega | (rw [smalls_size]; constructor <;> omega) | (constructor <;> omega) | (show i * 2 ≤ i * 2 + 2; omega) | fail) ?_; (conv => whnf))
      | fail
    refine fin_e ?_
    conv => whnf
    exact ⟨trivial, congrArg (fun s => T s) (small2' h (by omega))⟩

theorem log10_x (n : Nat) (h : n ≤ 64) : PureX Tryd.prog (gl0 ml) internal_strconv_log10Pow2 [I n] (fun r => r = I ((n * 78913 / 262144 : Nat) : Int)) := by
  refine pure_fnX mixed fn_internal_strconv_log10Pow2 nt_internal_strconv_log10Pow2 hc_internal_strconv_log10Pow2 (by simp) (gl0n ml) (by simp [nf]) ?_
  conv => whnf
  have e1 : IntKind.i64.wrap ((n : Int) * 78913) = ((n * 78913 : Nat) : Int) := by rw [wrap_id (by unfold in64; omega)]; omega
  rw [e1]
  refine And.intro (by decide) ?_
  conv => whnf
  refine fin_e ?_
  conv => whnf
  refine ⟨trivial, congrArg (fun n => I n) ?_⟩
  have : (2 : Int) ^ min (Int.toNat 18) IntKind.i64.bits = 262144 := by decide
  rw [this, Int.fdiv_eq_ediv_of_nonneg _ (by omega)]
  omega

theorem bool2_x (b : Bool) : PureX Tryd.prog (gl0 ml) internal_strconv_bool2_int_ [B b] (fun r => r = I (if b then 1 else 0)) := by
  refine pure_fnX mixed fn_internal_strconv_bool2_int_ nt_internal_strconv_bool2_int_ hc_internal_strconv_bool2_int_ (by simp) (gl0n ml) (by simp [nf]) ?_
  conv => whnf
  cases b
  · conv => whnf
    refine fin_e ?_
    conv => whnf
    exact ⟨trivial, rfl⟩
  · conv => whnf
    refine fin_e ?_
    conv => whnf
    exact ⟨trivial, rfl⟩

end Go.Proofs.YtankpibkakfnhaaDoor
namespace Go.Proofs.YtankpibkakfnhaaDoor
open Go Ar
variable {ml : GV}
set_option linter.unusedVariables false
set_option autoImplicit false
set_option maxHeartbeats 4000000
set_option maxRecDepth 100000

theorem shr32 (a : Nat) : (a : Int).fdiv (2 ^ min (Int.toNat 32) IntKind.u64.bits) = ((a / 4294967296 : Nat) : Int) := by
  have : (2 : Int) ^ min (Int.toNat 32) IntKind.u64.bits = 4294967296 := by decide
  rw [this, Int.fdiv_eq_ediv_of_nonneg _ (by omega)]
  omega

/-- The length of a number. -/
structure LenIs (x L : Nat) : Prop where
  lo : 0 < x → 1 ≤ L ∧ 2 ^ (L - 1) ≤ x
  hi : x < 2 ^ L

theorem LenIs.up {x L : Nat} (n : Nat) (h : LenIs (x / 2 ^ n) L) (hx : 2 ^ n ≤ x) : LenIs x (n + L) := by
  have hp := Nat.two_pow_pos n
  have h0 : 0 < x / 2 ^ n := Nat.div_pos hx hp
  obtain ⟨h1, h2⟩ := h.lo h0
  refine ⟨fun _ => ⟨by omega, ?_⟩, ?_⟩
  · rw [show n + L - 1 = (L - 1) + n by omega, Nat.pow_add]
    exact (Nat.le_div_iff_mul_le hp).1 h2
  · rw [Nat.add_comm, Nat.pow_add]
    exact (Nat.div_lt_iff_lt_mul hp).1 h.hi

def tab8 : ByteArray := ⟨#[0, 1, 2, 2, 3, 3, 3, 3, 4, 4, 4, 4, 4, 4, 4, 4, 5, 5, 5, 5, 5, 5, 5, 5, 5, 5, 5, 5, 5, 5, 5, 5, 6, 6, 6, 6, 6, 6, 6, 6, 6, 6, 6, 6, 6, 6, 6, 6, 6, 6, 6, 6, 6, 6, 6, 6, 6, 6, 6, 6, 6, 6, 6, 6, 7, 7, 7, 7, 7, 7, 7, 7, 7, 7, 7, 7, 7, 7, 7, 7, 7, 7, 7, 7, 7, 7, 7, 7, 7, 7, 7, 7, 7, 7, 7, 7, 7, 7, 7, 7, 7, 7, 7, 7, 7, 7, 7, 7, 7, 7, 7, 7, 7, 7, 7, 7, 7, 7, 7, 7, 7, 7, 7, 7, 7, 7, 7, 7, 8, 8, 8, 8, 8, 8, 8, 8, 8, 8, 8, 8, 8, 8, 8, 8, 8, 8, 8, 8, 8, 8, 8, 8, 8, 8, 8, 8, 8, 8, 8, 8, 8, 8, 8, 8, 8, 8, 8, 8, 8, 8, 8, 8, 8, 8, 8, 8, 8, 8, 8, 8, 8, 8, 8, 8, 8, 8, 8, 8, 8, 8, 8, 8, 8, 8, 8, 8, 8, 8, 8, 8, 8, 8, 8, 8, 8, 8, 8, 8, 8, 8, 8, 8, 8, 8, 8, 8, 8, 8, 8, 8, 8, 8, 8, 8, 8, 8, 8, 8, 8, 8, 8, 8, 8, 8, 8, 8, 8, 8, 8, 8, 8, 8, 8, 8, 8, 8, 8, 8, 8, 8, 8, 8, 8, 8, 8, 8]⟩

def len8 (x : Nat) : Nat := (tab8.data.getD x 0).toNat
theorem len8_all : ∀ x, x < 256 → (x = 0 → len8 x = 0) ∧ (0 < x → 1 ≤ len8 x ∧ 2 ^ (len8 x - 1) ≤ x) ∧ x < 2 ^ len8 x ∧ len8 x ≤ 8 := by decide +kernel
theorem len8_is {x : Nat} (h : x < 256) : LenIs x (len8 x) ∧ len8 x ≤ 8 := ⟨⟨(len8_all x h).2.1, (len8_all x h).2.2.1⟩, (len8_all x h).2.2.2⟩

theorem LenIs.cast {x L L' : Nat} (h : LenIs x L) (e : L = L') : LenIs x L' := e ▸ h
theorem wrap8 {y : Nat} (h : y < 256) : IntKind.u8.wrap ((y : Nat) : Int) = (y : Nat) := by
  simp [IntKind.wrap, IntKind.signed, IntKind.bits]; omega
theorem len_e {y : Nat} (h : y < 256) : IntKind.i64.wrap (bt tab8 y) = ((len8 y : Nat) : Int) := by
  have := (len8_is h).2
  exact wrap_id (n := ((len8 y : Nat) : Int)) (by unfold in64; omega)

theorem len_fin {x y n : Nat} {v : AV} (hy : y < 256) (h : ∀ L, LenIs y L → LenIs x (n + L) ∧ n ≤ 56) (hv : v = I ((n + len8 y : Nat) : Int)) : nf v ∧ ∃ L, v = I (L : Nat) ∧ LenIs x L ∧ L ≤ 64 := by
  obtain ⟨h1, h2⟩ := len8_is hy
  obtain ⟨h3, h4⟩ := h _ h1
  subst hv
  exact ⟨trivial, _, rfl, h3, by omega⟩

theorem bits_Len64_x (x : Nat) (hx : x < 18446744073709551616) : PureX Tryd.prog (gl0 ml) math_bits_Len64 [U (x : Nat)] (fun r => ∃ L, r = I (L : Nat) ∧ LenIs x L ∧ L ≤ 64) := by
  refine pure_fnX mixed fn_math_bits_Len64 nt_math_bits_Len64 hc_math_bits_Len64 (by simp) (gl0n ml) (by simp [nf]) ?_
  conv => whnf
  have h32 : ∀ y : Nat, ((y : Nat) : Int).fdiv (2 ^ min (Int.toNat 32) IntKind.u64.bits) = ((y / 2 ^ 32 : Nat) : Int) := fun y => shr32 y
  have h16 : ∀ y : Nat, ((y : Nat) : Int).fdiv (2 ^ min (Int.toNat 16) IntKind.u64.bits) = ((y / 2 ^ 16 : Nat) : Int) := fun y => by
    have : (2 : Int) ^ min (Int.toNat 16) IntKind.u64.bits = 65536 := by decide
    rw [this, Int.fdiv_eq_ediv_of_nonneg _ (by omega)]; omega
  have h8 : ∀ y : Nat, ((y : Nat) : Int).fdiv (2 ^ min (Int.toNat 8) IntKind.u64.bits) = ((y / 2 ^ 8 : Nat) : Int) := fun y => by
    have : (2 : Int) ^ min (Int.toNat 8) IntKind.u64.bits = 256 := by decide
    rw [this, Int.fdiv_eq_ediv_of_nonneg _ (by omega)]; omega
  by_cases c0 : 4294967296 ≤ x
  · refine br_true (decide_eq_true ((by omega : ((x : Nat) : Int) ≥ 4294967296))) ?_
    conv => whnf
    refine ⟨by decide, ?_⟩
    conv => whnf
    rw [h32]
    have k0 : ∀ L, LenIs (x / 2 ^ 32) L → LenIs x (32 + L) := fun L h => h.up 32 c0
    have b0 : x / 2 ^ 32 < 4294967296 := by omega
    generalize x / 2 ^ 32 = y0_1 at k0 b0 ⊢
    conv => whnf
    by_cases c1 : 65536 ≤ y0_1
    · refine br_true (decide_eq_true ((by omega : ((y0_1 : Nat) : Int) ≥ 65536))) ?_
      conv => whnf
      refine ⟨by decide, ?_⟩
      conv => whnf
      rw [h16]
      have k1 : ∀ L, LenIs (y0_1 / 2 ^ 16) L → LenIs y0_1 (16 + L) := fun L h => h.up 16 c1
      have b1 : y0_1 / 2 ^ 16 < 65536 := by omega
      generalize y0_1 / 2 ^ 16 = y1_2 at k1 b1 ⊢
      conv => whnf
      by_cases c2 : 256 ≤ y1_2
      · refine br_true (decide_eq_true ((by omega : ((y1_2 : Nat) : Int) ≥ 256))) ?_
        conv => whnf
        refine ⟨by decide, ?_⟩
        conv => whnf
        rw [h8]
        have k2 : ∀ L, LenIs (y1_2 / 2 ^ 8) L → LenIs y1_2 (8 + L) := fun L h => h.up 8 c2
        have b2 : y1_2 / 2 ^ 8 < 256 := by omega
        generalize y1_2 / 2 ^ 8 = y2_3 at k2 b2 ⊢
        conv => whnf
        have hu : IntKind.u8.wrap ((y2_3 : Nat) : Int) = (y2_3 : Nat) := wrap8 (by omega)
        rw [hu]
        refine ⟨⟨by omega, (by show ((y2_3 : Nat) : Int) < 256; omega)⟩, ?_⟩
        conv => whnf
        refine fin_e ?_
        conv => whnf
        refine len_fin (y := y2_3) (n := 56) (by omega) (fun L h => ⟨LenIs.cast (k0 _ (k1 _ (k2 _ (h)))) (by omega), by omega⟩) (congrArg (fun n => I n) (?_ : IntKind.i64.wrap (IntKind.i64.wrap (IntKind.i64.wrap (32 + 16) + 8) + IntKind.i64.wrap (bt tab8 y2_3)) = _))
        rw [len_e (by omega), show (IntKind.i64.wrap (IntKind.i64.wrap (32 + 16) + 8) : Int) = 56 by decide]
        have := (len8_is (x := y2_3) (by omega)).2
        rw [wrap_id (by unfold in64; omega)]
        omega
      · refine br_false (decide_eq_false ((by omega : ¬ ((y1_2 : Nat) : Int) ≥ 256))) ?_
        conv => whnf
        have hu : IntKind.u8.wrap ((y1_2 : Nat) : Int) = (y1_2 : Nat) := wrap8 (by omega)
        rw [hu]
        refine ⟨⟨by omega, (by show ((y1_2 : Nat) : Int) < 256; omega)⟩, ?_⟩
        conv => whnf
        refine fin_e ?_
        conv => whnf
        refine len_fin (y := y1_2) (n := 48) (by omega) (fun L h => ⟨LenIs.cast (k0 _ (k1 _ (h))) (by omega), by omega⟩) (congrArg (fun n => I n) (?_ : IntKind.i64.wrap (IntKind.i64.wrap (32 + 16) + IntKind.i64.wrap (bt tab8 y1_2)) = _))
        rw [len_e (by omega), show (IntKind.i64.wrap (32 + 16) : Int) = 48 by decide]
        have := (len8_is (x := y1_2) (by omega)).2
        rw [wrap_id (by unfold in64; omega)]
        omega
    · refine br_false (decide_eq_false ((by omega : ¬ ((y0_1 : Nat) : Int) ≥ 65536))) ?_
      conv => whnf
      by_cases c2 : 256 ≤ y0_1
      · refine br_true (decide_eq_true ((by omega : ((y0_1 : Nat) : Int) ≥ 256))) ?_
        conv => whnf
        refine ⟨by decide, ?_⟩
        conv => whnf
        rw [h8]
        have k2 : ∀ L, LenIs (y0_1 / 2 ^ 8) L → LenIs y0_1 (8 + L) := fun L h => h.up 8 c2
        have b2 : y0_1 / 2 ^ 8 < 256 := by omega
        generalize y0_1 / 2 ^ 8 = y2_3 at k2 b2 ⊢
        conv => whnf
        have hu : IntKind.u8.wrap ((y2_3 : Nat) : Int) = (y2_3 : Nat) := wrap8 (by omega)
        rw [hu]
        refine ⟨⟨by omega, (by show ((y2_3 : Nat) : Int) < 256; omega)⟩, ?_⟩
        conv => whnf
        refine fin_e ?_
        conv => whnf
        refine len_fin (y := y2_3) (n := 40) (by omega) (fun L h => ⟨LenIs.cast (k0 _ (k2 _ (h))) (by omega), by omega⟩) (congrArg (fun n => I n) (?_ : IntKind.i64.wrap (IntKind.i64.wrap (32 + 8) + IntKind.i64.wrap (bt tab8 y2_3)) = _))
        rw [len_e (by omega), show (IntKind.i64.wrap (32 + 8) : Int) = 40 by decide]
        have := (len8_is (x := y2_3) (by omega)).2
        rw [wrap_id (by unfold in64; omega)]
        omega
      · refine br_false (decide_eq_false ((by omega : ¬ ((y0_1 : Nat) : Int) ≥ 256))) ?_
        conv => whnf
        have hu : IntKind.u8.wrap ((y0_1 : Nat) : Int) = (y0_1 : Nat) := wrap8 (by omega)
        rw [hu]
        refine ⟨⟨by omega, (by show ((y0_1 : Nat) : Int) < 256; omega)⟩, ?_⟩
        conv => whnf
        refine fin_e ?_
        conv => whnf
        refine len_fin (y := y0_1) (n := 32) (by omega) (fun L h => ⟨LenIs.cast (k0 _ (h)) (by omega), by omega⟩) (congrArg (fun n => I n) (?_ : IntKind.i64.wrap (32 + IntKind.i64.wrap (bt tab8 y0_1)) = _))
        rw [len_e (by omega), show (32 : Int) = 32 by decide]
        have := (len8_is (x := y0_1) (by omega)).2
        rw [wrap_id (by unfold in64; omega)]
        omega
  · refine br_false (decide_eq_false ((by omega : ¬ ((x : Nat) : Int) ≥ 4294967296))) ?_
    conv => whnf
    by_cases c1 : 65536 ≤ x
    · refine br_true (decide_eq_true ((by omega : ((x : Nat) : Int) ≥ 65536))) ?_
      conv => whnf
      refine ⟨by decide, ?_⟩
      conv => whnf
      rw [h16]
      have k1 : ∀ L, LenIs (x / 2 ^ 16) L → LenIs x (16 + L) := fun L h => h.up 16 c1
      have b1 : x / 2 ^ 16 < 65536 := by omega
      generalize x / 2 ^ 16 = y1_2 at k1 b1 ⊢
      conv => whnf
      by_cases c2 : 256 ≤ y1_2
      · refine br_true (decide_eq_true ((by omega : ((y1_2 : Nat) : Int) ≥ 256))) ?_
        conv => whnf
        refine ⟨by decide, ?_⟩
        conv => whnf
        rw [h8]
        have k2 : ∀ L, LenIs (y1_2 / 2 ^ 8) L → LenIs y1_2 (8 + L) := fun L h => h.up 8 c2
        have b2 : y1_2 / 2 ^ 8 < 256 := by omega
        generalize y1_2 / 2 ^ 8 = y2_3 at k2 b2 ⊢
        conv => whnf
        have hu : IntKind.u8.wrap ((y2_3 : Nat) : Int) = (y2_3 : Nat) := wrap8 (by omega)
        rw [hu]
        refine ⟨⟨by omega, (by show ((y2_3 : Nat) : Int) < 256; omega)⟩, ?_⟩
        conv => whnf
        refine fin_e ?_
        conv => whnf
        refine len_fin (y := y2_3) (n := 24) (by omega) (fun L h => ⟨LenIs.cast (k1 _ (k2 _ (h))) (by omega), by omega⟩) (congrArg (fun n => I n) (?_ : IntKind.i64.wrap (IntKind.i64.wrap (IntKind.i64.wrap (0 + 16) + 8) + IntKind.i64.wrap (bt tab8 y2_3)) = _))
        rw [len_e (by omega), show (IntKind.i64.wrap (IntKind.i64.wrap (0 + 16) + 8) : Int) = 24 by decide]
        have := (len8_is (x := y2_3) (by omega)).2
        rw [wrap_id (by unfold in64; omega)]
        omega
      · refine br_false (decide_eq_false ((by omega : ¬ ((y1_2 : Nat) : Int) ≥ 256))) ?_
        conv => whnf
        have hu : IntKind.u8.wrap ((y1_2 : Nat) : Int) = (y1_2 : Nat) := wrap8 (by omega)
        rw [hu]
        refine ⟨⟨by omega, (by show ((y1_2 : Nat) : Int) < 256; omega)⟩, ?_⟩
        conv => whnf
        refine fin_e ?_
        conv => whnf
        refine len_fin (y := y1_2) (n := 16) (by omega) (fun L h => ⟨LenIs.cast (k1 _ (h)) (by omega), by omega⟩) (congrArg (fun n => I n) (?_ : IntKind.i64.wrap (IntKind.i64.wrap (0 + 16) + IntKind.i64.wrap (bt tab8 y1_2)) = _))
        rw [len_e (by omega), show (IntKind.i64.wrap (0 + 16) : Int) = 16 by decide]
        have := (len8_is (x := y1_2) (by omega)).2
        rw [wrap_id (by unfold in64; omega)]
        omega
    · refine br_false (decide_eq_false ((by omega : ¬ ((x : Nat) : Int) ≥ 65536))) ?_
      conv => whnf
      by_cases c2 : 256 ≤ x
      · refine br_true (decide_eq_true ((by omega : ((x : Nat) : Int) ≥ 256))) ?_
        conv => whnf
        refine ⟨by decide, ?_⟩
        conv => whnf
        rw [h8]
        have k2 : ∀ L, LenIs (x / 2 ^ 8) L → LenIs x (8 + L) := fun L h => h.up 8 c2
        have b2 : x / 2 ^ 8 < 256 := by omega
        generalize x / 2 ^ 8 = y2_3 at k2 b2 ⊢
        conv => whnf
        have hu : IntKind.u8.wrap ((y2_3 : Nat) : Int) = (y2_3 : Nat) := wrap8 (by omega)
        rw [hu]
        refine ⟨⟨by omega, (by show ((y2_3 : Nat) : Int) < 256; omega)⟩, ?_⟩
        conv => whnf
        refine fin_e ?_
        conv => whnf
        refine len_fin (y := y2_3) (n := 8) (by omega) (fun L h => ⟨LenIs.cast (k2 _ (h)) (by omega), by omega⟩) (congrArg (fun n => I n) (?_ : IntKind.i64.wrap (IntKind.i64.wrap (0 + 8) + IntKind.i64.wrap (bt tab8 y2_3)) = _))
        rw [len_e (by omega), show (IntKind.i64.wrap (0 + 8) : Int) = 8 by decide]
        have := (len8_is (x := y2_3) (by omega)).2
        rw [wrap_id (by unfold in64; omega)]
        omega
      · refine br_false (decide_eq_false ((by omega : ¬ ((x : Nat) : Int) ≥ 256))) ?_
        conv => whnf
        have hu : IntKind.u8.wrap ((x : Nat) : Int) = (x : Nat) := wrap8 (by omega)
        rw [hu]
        refine ⟨⟨by omega, (by show ((x : Nat) : Int) < 256; omega)⟩, ?_⟩
        conv => whnf
        refine fin_e ?_
        conv => whnf
        refine len_fin (y := x) (n := 0) (by omega) (fun L h => ⟨LenIs.cast (h) (by omega), by omega⟩) (congrArg (fun n => I n) (?_ : IntKind.i64.wrap (0 + IntKind.i64.wrap (bt tab8 x)) = _))
        rw [len_e (by omega), show (0 : Int) = 0 by decide]
        have := (len8_is (x := x) (by omega)).2
        rw [wrap_id (by unfold in64; omega)]
        omega


theorem p10_at : ∀ t : Fin 20, at_ p10L t.1 = ((10 ^ t.1 : Nat) : Int) := by decide +kernel
theorem len_p10 : ∀ L : Fin 65, 1 ≤ L.1 → 2 ^ L.1 ≤ 10 ^ (L.1 * 78913 / 262144 + 1) ∧ (1 ≤ L.1 * 78913 / 262144 → 10 ^ (L.1 * 78913 / 262144 - 1) ≤ 2 ^ (L.1 - 1)) ∧ L.1 * 78913 / 262144 < 20 := by decide +kernel

theorem ndg_len {u L : Nat} (h1 : 1 ≤ u) (hu : u < 18446744073709551616) (h : LenIs u L) (hL : L ≤ 64) : ndg u = L * 78913 / 262144 + (if 10 ^ (L * 78913 / 262144) ≤ u then 1 else 0) := by
  obtain ⟨h2, h3⟩ := h.lo h1
  obtain ⟨q1, q2, q3⟩ := len_p10 ⟨L, by omega⟩ h2
  simp only at q1 q2 q3
  generalize L * 78913 / 262144 = t at *
  have h4 := h.hi
  refine (ndg_is hu).uniq ?_
  by_cases c : 10 ^ t ≤ u
  · rw [if_pos c]
    exact ⟨by omega, Nat.lt_of_lt_of_le h4 q1, .inr (by rw [Nat.add_sub_cancel]; exact c)⟩
  · rw [if_neg c, Nat.add_zero]
    have ht : 1 ≤ t := by
      rcases Nat.eq_zero_or_pos t with e | e
      · subst e; simp at c; omega
      · exact e
    exact ⟨by omega, Nat.lt_of_not_le c, .inr (Nat.le_trans (q2 ht) h3)⟩

theorem numDigits_x (u : Nat) (h1 : 1 ≤ u) (hu : u < 18446744073709551616) : PureX Tryd.prog (gl0 ml) internal_strconv_numDigits [U (u : Nat)] (fun r => r = I (ndg u : Nat)) := by
  refine pure_fnX mixed fn_internal_strconv_numDigits nt_internal_strconv_numDigits hc_internal_strconv_numDigits (by simp) (gl0n ml) (by simp [nf]) ?_
  conv => whnf
  refine call_x2 (bits_Len64_x u hu) (LeL.refl _) ?_
  rintro _ - ⟨L, rfl, h2, h3⟩
  conv => whnf
  refine call_x2 (log10_x L h3) (LeL.refl _) ?_
  rintro _ - rfl
  have q := len_p10 ⟨L, by omega⟩ (h2.lo h1).1
  have h4 := ndg_len h1 hu h2 h3
  simp only at q
  generalize hgt : L * 78913 / 262144 = t at *
  conv => whnf
  refine And.intro (by constructor <;> omega) ?_
  conv => whnf
  have e : at_ p10L (Int.toNat (t : Int)) = ((10 ^ t : Nat) : Int) := p10_at ⟨t, q.2.2⟩
  rw [e]
  by_cases c : 10 ^ t ≤ u
  · refine br_true (decide_eq_true ((by omega : ((u : Nat) : Int) ≥ ((10 ^ t : Nat) : Int)))) ?_
    conv => whnf
    rw [if_pos c] at h4
    refine call_x2 (bool2_x true) (LeL.refl _) ?_
    rintro _ - rfl
    conv => whnf
    refine fin_e ?_
    conv => whnf
    exact ⟨trivial, congrArg (fun n => I n) (by rw [h4]; show IntKind.i64.wrap ((t : Int) + 1) = _; rw [wrap_id (show in64 ((t : Int) + 1) by unfold in64; omega)]; omega)⟩
  · refine br_false (decide_eq_false ((by omega : ¬ (((u : Nat) : Int) ≥ ((10 ^ t : Nat) : Int))))) ?_
    conv => whnf
    rw [if_neg c] at h4
    refine call_x2 (bool2_x false) (LeL.refl _) ?_
    rintro _ - rfl
    conv => whnf
    refine fin_e ?_
    conv => whnf
    exact ⟨trivial, congrArg (fun n => I n) (by rw [h4]; show IntKind.i64.wrap ((t : Int) + 0) = _; rw [wrap_id (show in64 ((t : Int) + 0) by unfold in64; omega)]; omega)⟩

end Go.Proofs.YtankpibkakfnhaaDoor
namespace Go.Proofs.YtankpibkakfnhaaDoor
open Go Ar
variable {ml : GV}
set_option linter.unusedVariables false
set_option autoImplicit false
set_option maxHeartbeats 4000000
set_option maxRecDepth 100000

abbrev Y (n : Int) : AV := .val (.int .u8 n)
/-- The row, its digits from number 'k' on laid. -/
abbrev dgV (lo L u : Nat) (f : Nat → Int) (k j : Nat) : AV := Y (if lo + k ≤ j ∧ j < lo + L then ((48 + dgt L u (j - lo) : Nat) : Int) else f j)
abbrev dgA (lo N L u : Nat) (f : Nat → Int) (k : Nat) : AV := .arr N 1 (dgV lo L u f k)

theorem wrap_u32 {n : Nat} (h : n < 4294967296) : IntKind.u32.wrap ((n : Nat) : Int) = (n : Nat) := by
  simp [IntKind.wrap, IntKind.signed, IntKind.bits]; omega
theorem wrap_u64n {n : Nat} (h : n < 18446744073709551616) : IntKind.u64.wrap ((n : Nat) : Int) = (n : Nat) := by
  simp [IntKind.wrap, IntKind.signed, IntKind.bits]; omega
theorem tmodN (a b : Nat) : Int.tmod (a : Int) (b : Int) = ((a % b : Nat) : Int) := rfl
theorem tdivN (a b : Nat) : Int.tdiv (a : Int) (b : Int) = ((a / b : Nat) : Int) := rfl
theorem sub_i {M q : Nat} (h : q ≤ M) (hM : M ≤ 20) : IntKind.i64.wrap ((M : Int) - (q : Nat)) = ((M - q : Nat) : Int) := by
  rw [wrap_id (by unfold in64; omega)]; omega
theorem mul2_u32 {n : Nat} (h : n < 1000) : IntKind.u32.wrap (((n : Nat) : Int) * 2) = ((n * 2 : Nat) : Int) := by
  rw [show ((n : Nat) : Int) * 2 = ((n * 2 : Nat) : Int) by omega, wrap_u32 (by omega)]
theorem add1_u32 {n : Nat} (h : n < 100000) : IntKind.u32.wrap (((n : Nat) : Int) + 1) = ((n + 1 : Nat) : Int) := by
  rw [show ((n : Nat) : Int) + 1 = ((n + 1 : Nat) : Int) by omega, wrap_u32 (by omega)]

/-- Digit number 'q' from the right of what is left. -/
theorem dgt_of {L u M m : Nat} (hM : M + m = L) {q : Nat} (hq : q + 1 ≤ M) : dgt L u (M - (q + 1)) = u / 10 ^ m / 10 ^ q % 10 := by
  unfold dgt
  rw [Nat.div_div_eq_div_mul, ← Nat.pow_add]
  congr 3
  omega

/-- Two more digits are laid. -/
theorem two_i {lo L u M m : Nat} {f : Nat → Int} {p1 p2 : Nat} {b1 b2 : Int} {g g1 g2 : Nat → Int} (q : Nat) (hM : M + m = L) (hq : q + 2 ≤ M) (hp1 : p1 = lo + (M - (q + 1))) (hp2 : p2 = lo + (M - (q + 2))) (hb1 : b1 = ((48 + u / 10 ^ m / 10 ^ q % 10 : Nat) : Int)) (hb2 : b2 = ((48 + u / 10 ^ m / 10 ^ (q + 1) % 10 : Nat) : Int))
    (hg : ∀ j, g j = if lo + (M - q) ≤ j ∧ j < lo + L then ((48 + dgt L u (j - lo) : Nat) : Int) else f j) (h1 : ∀ j, g1 j = if j = p1 then b1 else g j) (h2 : ∀ j, g2 j = if j = p2 then b2 else g1 j) (j : Nat) : g2 j = if lo + (M - (q + 2)) ≤ j ∧ j < lo + L then ((48 + dgt L u (j - lo) : Nat) : Int) else f j := by
  rw [h2, h1, hg]
  by_cases c2 : j = p2
  · rw [if_pos c2, hb2, ← dgt_of hM (show q + 1 + 1 ≤ M by omega), if_pos (by omega), show j - lo = M - (q + 1 + 1) by omega]
  · rw [if_neg c2]
    by_cases c1 : j = p1
    · rw [if_pos c1, hb1, ← dgt_of hM (show q + 1 ≤ M by omega), if_pos (by omega), show j - lo = M - (q + 1) by omega]
    · rw [if_neg c1]
      by_cases c3 : lo + (M - q) ≤ j ∧ j < lo + L
      · rw [if_pos c3, if_pos (by omega)]
      · rw [if_neg c3, if_neg (by omega)]

theorem sm_hi {a : Nat} (h : a < 100) : bt smalls (Int.toNat ((a * 2 : Nat) : Int)) = ((48 + a / 10 : Nat) : Int) := smalls_hi ⟨a, h⟩
theorem sm_lo {a : Nat} (h : a < 100) : bt smalls (Int.toNat ((a * 2 + 1 : Nat) : Int)) = ((48 + a % 10 : Nat) : Int) := smalls_lo ⟨a, h⟩

theorem okN {i n e : Nat} {f : Nat → AV} : okNav [.idx i n e] (.arr n e f) = true := by simp [okNav, okP, nav]

theorem wpE_one {b : Bool} {P : Program} {gl : Nat → AV} {en : Ent} {K : Post} : wpE b P gl [en] K = stepE b P gl en K := rfl

theorem st_e {L i : Nat} {b : Int} {g g' : Nat → Int} (h : ∀ j, g' j = if j = i then b else g j) : (AV.arr L 1 fun j => selA (j = i) (Y b) (Y (g j))) = .arr L 1 fun j => Y (g' j) :=
  congrArg (AV.arr L 1) (funext fun j => by
    rw [selA_eq, h]
    by_cases c : j = i
    · rw [if_pos c, if_pos c]
    · rw [if_neg c, if_neg c])

theorem one_i {lo L u M m v d : Nat} {f g t : Nat → Int} (hM : M + m = L) (h1 : M = 1) (hv : u / 10 ^ m = v) (hv1 : v < 10) (hd : d = 48 + v) (hg : ∀ j, g j = if lo + M ≤ j ∧ j < lo + L then ((48 + dgt L u (j - lo) : Nat) : Int) else f j) (ht : ∀ j, t j = if j = lo then ((d : Nat) : Int) else g j) (j : Nat) : t j = if lo + 0 ≤ j ∧ j < lo + L then ((48 + dgt L u (j - lo) : Nat) : Int) else f j := by
  rw [ht]
  by_cases c : j = lo
  · rw [if_pos c, hd, c, if_pos (by omega)]
    have : dgt L u (lo - lo) = v := by
      unfold dgt
      rw [show L - 1 - (lo - lo) = m by omega, hv]
      omega
    rw [this]
  · rw [if_neg c, hg]
    by_cases c3 : lo + M ≤ j ∧ j < lo + L
    · rw [if_pos c3, if_pos (by omega)]
    · rw [if_neg c3, if_neg (by omega)]

theorem fmt10_i (u lo N L : Nat) (hu : u < 18446744073709551616) (hL : u < 10 ^ L) (h1 : 1 ≤ L) (h20 : L ≤ 20) (hN : lo + L ≤ N) (f : Nat → Int) : PureIX Tryd.prog (gl0 ml) internal_strconv_formatBase10 [.sli B0 lo L 1 5, U (u : Nat)] [(B0, .box (.arr N 1 (fun j => Y (f j))))] 0 (fun r o1 n1 => (nk r ∧ nf r) ∧ o1 = [(B0, .box (dgA lo N L u f 0))] ∧ n1 = 0) := by
  refine pureI_fnX mixed fn_internal_strconv_formatBase10 nt_internal_strconv_formatBase10 hc_internal_strconv_formatBase10 (by simp) (gl0n ml) ?_
  conv => whnf
  refine loop_at mixed (fun (k : Nat) => ([(4, I (L - 8 * k : Nat)), (0, .sli B0 lo L 1 5), (1, U (u / 10 ^ (8 * k) : Nat))], [(B0, .box (dgA lo N L u f (L - 8 * k)))], 0)) (fun k => 8 * k ≤ L) (fun k => L - 8 * k) 0 (Nat.zero_le _) (le_st (le_r rfl) (leE_i rfl rfl (leE_eq rfl (.inr (by decide)) (leE_i rfl ((by simp)) trivial))) (leO_lent rfl rfl (LeA.arr (fun j hj => LeA.of_eq (show Y (f j) = Y _ by rw [if_neg (by omega)])) ) (bnd_nf _ ( (fun i => trivial))) trivial) (gl0n ml)) ?_
  intro k hk
  conv => whnf
  by_cases c : 8 ≤ L - 8 * k
  · refine br_true (decide_eq_true ((by omega : ((L - 8 * k : Nat) : Int) ≥ 8))) ?_
    conv => whnf
    generalize hv : u / 10 ^ (8 * k) = v
    generalize hM : L - 8 * k = M at *
    have hv64 : v < 18446744073709551616 := by rw [← hv]; exact Nat.lt_of_le_of_lt (Nat.div_le_self _ _) hu
    refine And.intro (by decide) ?_
    conv => whnf
    rw [show IntKind.u32.wrap (Int.tmod (v : Int) 100000000) = ((v % 100000000 : Nat) : Int) from wrap_u32 (n := v % 100000000) (by omega)]
    generalize ha : v % 100000000 = a
    refine And.intro (by decide) ?_
    conv => whnf
    rw [show IntKind.u64.wrap (Int.tdiv (v : Int) 100000000) = ((v / 100000000 : Nat) : Int) from wrap_u64n (n := v / 100000000) (by omega)]
    refine And.intro (by decide) ?_
    conv => whnf
    refine And.intro (by decide) ?_
    conv => whnf
    rw [show IntKind.u32.wrap (Int.tdiv (a : Int) 10000) = ((a / 10000 : Nat) : Int) from wrap_u32 (n := a / 10000) (by omega)]
    have ha8 : a < 100000000 := by omega
    rw [show Int.tmod (a : Int) 10000 = ((a % 10000 : Nat) : Int) from rfl]
    generalize hx : a / 10000 = x
    generalize hy : a % 10000 = y
    have hx4 : x < 10000 := by omega
    have hy4 : y < 10000 := by omega
    repeat (refine And.intro (by decide) ?_; (conv => whnf))
    have hML : M ≤ L := by omega
    have hM20 : M ≤ 20 := by omega
    rw [show IntKind.u32.wrap (Int.tmod (y : Int) 100 * 2) = ((y % 100 * 2 : Nat) : Int) from mul2_u32 (n := y % 100) (by omega), show IntKind.u32.wrap (Int.tmod (x : Int) 100 * 2) = ((x % 100 * 2 : Nat) : Int) from mul2_u32 (n := x % 100) (by omega)]
    rw [show IntKind.u32.wrap (Int.tdiv (y : Int) 100) = ((y / 100 : Nat) : Int) from wrap_u32 (n := y / 100) (by omega), show IntKind.u32.wrap (Int.tdiv (x : Int) 100) = ((x / 100 : Nat) : Int) from wrap_u32 (n := x / 100) (by omega)]
    rw [mul2_u32 (n := y / 100) (by omega), mul2_u32 (n := x / 100) (by omega)]
    have w1 := fun (_ : Unit) => add1_u32 (n := y % 100 * 2) (by omega)
    have w2 := fun (_ : Unit) => add1_u32 (n := y / 100 * 2) (by omega)
    have w3 := fun (_ : Unit) => add1_u32 (n := x % 100 * 2) (by omega)
    have w4 := fun (_ : Unit) => add1_u32 (n := x / 100 * 2) (by omega)
    obtain ⟨i1, hi1⟩ : ∃ i, i = M - 1 := ⟨_, rfl⟩
    have s1 : Unit → IntKind.i64.wrap ((M : Int) - 1) = ((i1 : Nat) : Int) := fun _ => by rw [hi1]; exact sub_i (q := 1) (by omega) hM20
    obtain ⟨n1, hn1⟩ : ∃ i, i = lo + i1 := ⟨_, rfl⟩; have z1 : Unit → lo + Int.toNat ((i1 : Nat) : Int) = n1 := fun _ => by rw [hn1]; rfl
    obtain ⟨i2, hi2⟩ : ∃ i, i = M - 2 := ⟨_, rfl⟩
    have s2 : Unit → IntKind.i64.wrap ((M : Int) - 2) = ((i2 : Nat) : Int) := fun _ => by rw [hi2]; exact sub_i (q := 2) (by omega) hM20
    obtain ⟨n2, hn2⟩ : ∃ i, i = lo + i2 := ⟨_, rfl⟩; have z2 : Unit → lo + Int.toNat ((i2 : Nat) : Int) = n2 := fun _ => by rw [hn2]; rfl
    obtain ⟨i3, hi3⟩ : ∃ i, i = M - 3 := ⟨_, rfl⟩
    have s3 : Unit → IntKind.i64.wrap ((M : Int) - 3) = ((i3 : Nat) : Int) := fun _ => by rw [hi3]; exact sub_i (q := 3) (by omega) hM20
    obtain ⟨n3, hn3⟩ : ∃ i, i = lo + i3 := ⟨_, rfl⟩; have z3 : Unit → lo + Int.toNat ((i3 : Nat) : Int) = n3 := fun _ => by rw [hn3]; rfl
    obtain ⟨i4, hi4⟩ : ∃ i, i = M - 4 := ⟨_, rfl⟩
    have s4 : Unit → IntKind.i64.wrap ((M : Int) - 4) = ((i4 : Nat) : Int) := fun _ => by rw [hi4]; exact sub_i (q := 4) (by omega) hM20
    obtain ⟨n4, hn4⟩ : ∃ i, i = lo + i4 := ⟨_, rfl⟩; have z4 : Unit → lo + Int.toNat ((i4 : Nat) : Int) = n4 := fun _ => by rw [hn4]; rfl
    obtain ⟨i5, hi5⟩ : ∃ i, i = M - 5 := ⟨_, rfl⟩
    have s5 : Unit → IntKind.i64.wrap ((M : Int) - 5) = ((i5 : Nat) : Int) := fun _ => by rw [hi5]; exact sub_i (q := 5) (by omega) hM20
    obtain ⟨n5, hn5⟩ : ∃ i, i = lo + i5 := ⟨_, rfl⟩; have z5 : Unit → lo + Int.toNat ((i5 : Nat) : Int) = n5 := fun _ => by rw [hn5]; rfl
    obtain ⟨i6, hi6⟩ : ∃ i, i = M - 6 := ⟨_, rfl⟩
    have s6 : Unit → IntKind.i64.wrap ((M : Int) - 6) = ((i6 : Nat) : Int) := fun _ => by rw [hi6]; exact sub_i (q := 6) (by omega) hM20
    obtain ⟨n6, hn6⟩ : ∃ i, i = lo + i6 := ⟨_, rfl⟩; have z6 : Unit → lo + Int.toNat ((i6 : Nat) : Int) = n6 := fun _ => by rw [hn6]; rfl
    obtain ⟨i7, hi7⟩ : ∃ i, i = M - 7 := ⟨_, rfl⟩
    have s7 : Unit → IntKind.i64.wrap ((M : Int) - 7) = ((i7 : Nat) : Int) := fun _ => by rw [hi7]; exact sub_i (q := 7) (by omega) hM20
    obtain ⟨n7, hn7⟩ : ∃ i, i = lo + i7 := ⟨_, rfl⟩; have z7 : Unit → lo + Int.toNat ((i7 : Nat) : Int) = n7 := fun _ => by rw [hn7]; rfl
    obtain ⟨i8, hi8⟩ : ∃ i, i = M - 8 := ⟨_, rfl⟩
    have s8 : Unit → IntKind.i64.wrap ((M : Int) - 8) = ((i8 : Nat) : Int) := fun _ => by rw [hi8]; exact sub_i (q := 8) (by omega) hM20
    obtain ⟨n8, hn8⟩ : ∃ i, i = lo + i8 := ⟨_, rfl⟩; have z8 : Unit → lo + Int.toNat ((i8 : Nat) : Int) = n8 := fun _ => by rw [hn8]; rfl
    obtain ⟨l1, hl1⟩ : ∃ b, b = ((48 + y % 100 % 10 : Nat) : Int) := ⟨_, rfl⟩
    obtain ⟨p1, hp1⟩ : ∃ b, b = ((48 + y % 100 / 10 : Nat) : Int) := ⟨_, rfl⟩
    have v1 : Unit → bt smalls (Int.toNat ((y % 100 * 2 + 1 : Nat) : Int)) = l1 := fun _ => by rw [hl1]; exact sm_lo (a := y % 100) (by omega)
    have u1 : Unit → bt smalls (Int.toNat ((y % 100 * 2 : Nat) : Int)) = p1 := fun _ => by rw [hp1]; exact sm_hi (a := y % 100) (by omega)
    obtain ⟨l2, hl2⟩ : ∃ b, b = ((48 + y / 100 % 10 : Nat) : Int) := ⟨_, rfl⟩
    obtain ⟨p2, hp2⟩ : ∃ b, b = ((48 + y / 100 / 10 : Nat) : Int) := ⟨_, rfl⟩
    have v2 : Unit → bt smalls (Int.toNat ((y / 100 * 2 + 1 : Nat) : Int)) = l2 := fun _ => by rw [hl2]; exact sm_lo (a := y / 100) (by omega)
    have u2 : Unit → bt smalls (Int.toNat ((y / 100 * 2 : Nat) : Int)) = p2 := fun _ => by rw [hp2]; exact sm_hi (a := y / 100) (by omega)
    obtain ⟨l3, hl3⟩ : ∃ b, b = ((48 + x % 100 % 10 : Nat) : Int) := ⟨_, rfl⟩
    obtain ⟨p3, hp3⟩ : ∃ b, b = ((48 + x % 100 / 10 : Nat) : Int) := ⟨_, rfl⟩
    have v3 : Unit → bt smalls (Int.toNat ((x % 100 * 2 + 1 : Nat) : Int)) = l3 := fun _ => by rw [hl3]; exact sm_lo (a := x % 100) (by omega)
    have u3 : Unit → bt smalls (Int.toNat ((x % 100 * 2 : Nat) : Int)) = p3 := fun _ => by rw [hp3]; exact sm_hi (a := x % 100) (by omega)
    obtain ⟨l4, hl4⟩ : ∃ b, b = ((48 + x / 100 % 10 : Nat) : Int) := ⟨_, rfl⟩
    obtain ⟨p4, hp4⟩ : ∃ b, b = ((48 + x / 100 / 10 : Nat) : Int) := ⟨_, rfl⟩
    have v4 : Unit → bt smalls (Int.toNat ((x / 100 * 2 + 1 : Nat) : Int)) = l4 := fun _ => by rw [hl4]; exact sm_lo (a := x / 100) (by omega)
    have u4 : Unit → bt smalls (Int.toNat ((x / 100 * 2 : Nat) : Int)) = p4 := fun _ => by rw [hp4]; exact sm_hi (a := x / 100) (by omega)
    obtain ⟨g0, hg0⟩ : ∃ g : Nat → Int, ∀ j, g j = if lo + M ≤ j ∧ j < lo + L then ((48 + dgt L u (j - lo) : Nat) : Int) else f j := ⟨_, fun _ => rfl⟩
    have r0 : dgA lo N L u f M = .arr N 1 fun j => Y (g0 j) := congrArg (AV.arr N 1) (funext fun j => congrArg (fun n => Y n) (hg0 j).symm)
    obtain ⟨g1, hg1⟩ : ∃ g : Nat → Int, ∀ j, g j = if j = n1 then l1 else g0 j := ⟨_, fun _ => rfl⟩
    have r1 : Unit → (AV.arr N 1 fun j => selA (j = n1) (Y l1) (Y (g0 j))) = .arr N 1 fun j => Y (g1 j) := fun _ => st_e hg1
    obtain ⟨g2, hg2⟩ : ∃ g : Nat → Int, ∀ j, g j = if j = n2 then p1 else g1 j := ⟨_, fun _ => rfl⟩
    have r2 : Unit → (AV.arr N 1 fun j => selA (j = n2) (Y p1) (Y (g1 j))) = .arr N 1 fun j => Y (g2 j) := fun _ => st_e hg2
    obtain ⟨g3, hg3⟩ : ∃ g : Nat → Int, ∀ j, g j = if j = n3 then l2 else g2 j := ⟨_, fun _ => rfl⟩
    have r3 : Unit → (AV.arr N 1 fun j => selA (j = n3) (Y l2) (Y (g2 j))) = .arr N 1 fun j => Y (g3 j) := fun _ => st_e hg3
    obtain ⟨g4, hg4⟩ : ∃ g : Nat → Int, ∀ j, g j = if j = n4 then p2 else g3 j := ⟨_, fun _ => rfl⟩
    have r4 : Unit → (AV.arr N 1 fun j => selA (j = n4) (Y p2) (Y (g3 j))) = .arr N 1 fun j => Y (g4 j) := fun _ => st_e hg4
    obtain ⟨g5, hg5⟩ : ∃ g : Nat → Int, ∀ j, g j = if j = n5 then l3 else g4 j := ⟨_, fun _ => rfl⟩
    have r5 : Unit → (AV.arr N 1 fun j => selA (j = n5) (Y l3) (Y (g4 j))) = .arr N 1 fun j => Y (g5 j) := fun _ => st_e hg5
    obtain ⟨g6, hg6⟩ : ∃ g : Nat → Int, ∀ j, g j = if j = n6 then p3 else g5 j := ⟨_, fun _ => rfl⟩
    have r6 : Unit → (AV.arr N 1 fun j => selA (j = n6) (Y p3) (Y (g5 j))) = .arr N 1 fun j => Y (g6 j) := fun _ => st_e hg6
    obtain ⟨g7, hg7⟩ : ∃ g : Nat → Int, ∀ j, g j = if j = n7 then l4 else g6 j := ⟨_, fun _ => rfl⟩
    have r7 : Unit → (AV.arr N 1 fun j => selA (j = n7) (Y l4) (Y (g6 j))) = .arr N 1 fun j => Y (g7 j) := fun _ => st_e hg7
    obtain ⟨g8, hg8⟩ : ∃ g : Nat → Int, ∀ j, g j = if j = n8 then p4 else g7 j := ⟨_, fun _ => rfl⟩
    have r8 : Unit → (AV.arr N 1 fun j => selA (j = n8) (Y p4) (Y (g7 j))) = .arr N 1 fun j => Y (g8 j) := fun _ => st_e hg8
    rw [r0]
    repeat' first
      | (rw [wpE_one])
      | (rw [s1 ()]) | (rw [s2 ()]) | (rw [s3 ()]) | (rw [s4 ()]) | (rw [s5 ()]) | (rw [s6 ()]) | (rw [s7 ()]) | (rw [s8 ()]) | (rw [z1 ()]) | (rw [z2 ()]) | (rw [z3 ()]) | (rw [z4 ()]) | (rw [z5 ()]) | (rw [z6 ()]) | (rw [z7 ()]) | (rw [z8 ()]) | (rw [w1 ()]) | (rw [w2 ()]) | (rw [w3 ()]) | (rw [w4 ()]) | (rw [v1 ()]) | (rw [v2 ()]) | (rw [v3 ()]) | (rw [v4 ()]) | (rw [u1 ()]) | (rw [u2 ()]) | (rw [u3 ()]) | (rw [u4 ()]) | (rw [r1 ()]) | (rw [r2 ()]) | (rw [r3 ()]) | (rw [r4 ()]) | (rw [r5 ()]) | (rw [r6 ()]) | (rw [r7 ()]) | (rw [r8 ()])
      | (rw [okN]; (try conv in (occs := *) (ev (gl0 ml) _ _) => all_goals whnf); (conv => whnf))
      | (refine And.intro (by (try simp only [smalls_size]); omega) ?_; (conv => whnf))
      | fail
    clear s1 s2 s3 s4 s5 s6 s7 s8 z1 z2 z3 z4 z5 z6 z7 z8 w1 w2 w3 w4 v1 v2 v3 v4 u1 u2 u3 u4 r1 r2 r3 r4 r5 r6 r7 r8
    refine ⟨k + 1, by omega, (by show L - 8 * (k + 1) < L - 8 * k; omega), (le_st (le_r rfl) (leE_i rfl (?_) (leE_eq rfl (.inr (by decide)) (leE_i rfl (?_) trivial))) (leO_lent rfl rfl (?_ ) (bnd_nf _ ( (fun i => trivial))) trivial) (gl0n ml))⟩
    · rw [hi8]; congr 1; omega
    · rw [← hv, Nat.div_div_eq_div_mul, show (100000000 : Nat) = 10 ^ 8 by decide, ← Nat.pow_add, Nat.mul_add]
    · have hMm : M + 8 * k = L := by omega
      have e2 := two_i (lo := lo) (L := L) (u := u) (m := 8 * k) (f := f) 0 hMm (by omega) (by omega) (by omega) (by rw [hl1, hv]; congr 1; omega) (by rw [hp1, hv]; congr 1; omega) hg0 hg1 hg2
      have e4 := two_i (lo := lo) (L := L) (u := u) (m := 8 * k) (f := f) 2 hMm (by omega) (by omega) (by omega) (by rw [hl2, hv]; congr 1; omega) (by rw [hp2, hv]; congr 1; omega) e2 hg3 hg4
      have e6 := two_i (lo := lo) (L := L) (u := u) (m := 8 * k) (f := f) 4 hMm (by omega) (by omega) (by omega) (by rw [hl3, hv]; congr 1; omega) (by rw [hp3, hv]; congr 1; omega) e4 hg5 hg6
      have e8 := two_i (lo := lo) (L := L) (u := u) (m := 8 * k) (f := f) 6 hMm (by omega) (by omega) (by omega) (by rw [hl4, hv]; congr 1; omega) (by rw [hp4, hv]; congr 1; omega) e6 hg7 hg8
      refine LeA.arr fun j hj => LeA.of_eq (congrArg (fun n => Y n) ?_)
      rw [e8 j, show M - (6 + 2) = L - 8 * (k + 1) by omega]
  · refine br_false (decide_eq_false ((by omega : ¬ (((L - 8 * k : Nat) : Int) ≥ 8)))) ?_
    conv => whnf
    obtain ⟨v, hv⟩ : ∃ v, u / 10 ^ (8 * k) = v := ⟨_, rfl⟩
    obtain ⟨M, hM⟩ : ∃ M, L - 8 * k = M := ⟨_, rfl⟩
    have hMm : M + 8 * k = L := by omega
    have hbA : v < 10 ^ M := by rw [← hv]; exact Nat.div_lt_of_lt_mul (by rw [← Nat.pow_add, show 8 * k + M = L by omega]; exact hL)
    have hv8 : v < 100000000 := Nat.lt_of_lt_of_le hbA (Nat.pow_le_pow_right (by decide) (show M ≤ 8 by omega))
    obtain ⟨g0, hg0⟩ : ∃ g : Nat → Int, ∀ j, g j = if lo + M ≤ j ∧ j < lo + L then ((48 + dgt L u (j - lo) : Nat) : Int) else f j := ⟨_, fun _ => rfl⟩
    have r0 : dgA lo N L u f M = .arr N 1 fun j => Y (g0 j) := congrArg (AV.arr N 1) (funext fun j => congrArg (fun n => Y n) (hg0 j).symm)
    have x0 : IntKind.u32.wrap ((v : Nat) : Int) = (v : Nat) := wrap_u32 (by omega)
    rw [hM, hv, r0, x0]
    by_cases c4 : 4 ≤ M
    · refine br_true (decide_eq_true ((by omega : ((M : Nat) : Int) ≥ 4))) ?_
      conv => whnf
      have hMv := hv
      obtain ⟨iA1, hiA1⟩ : ∃ i, i = M - 1 := ⟨_, rfl⟩
      have sA1 : Unit → IntKind.i64.wrap ((M : Int) - 1) = ((iA1 : Nat) : Int) := fun _ => by rw [hiA1]; exact sub_i (q := 1) (by omega) (by omega)
      obtain ⟨nA1, hnA1⟩ : ∃ i, i = lo + iA1 := ⟨_, rfl⟩; have zA1 : Unit → lo + Int.toNat ((iA1 : Nat) : Int) = nA1 := fun _ => by rw [hnA1]; rfl
      obtain ⟨iA2, hiA2⟩ : ∃ i, i = M - 2 := ⟨_, rfl⟩
      have sA2 : Unit → IntKind.i64.wrap ((M : Int) - 2) = ((iA2 : Nat) : Int) := fun _ => by rw [hiA2]; exact sub_i (q := 2) (by omega) (by omega)
      obtain ⟨nA2, hnA2⟩ : ∃ i, i = lo + iA2 := ⟨_, rfl⟩; have zA2 : Unit → lo + Int.toNat ((iA2 : Nat) : Int) = nA2 := fun _ => by rw [hnA2]; rfl
      obtain ⟨iA3, hiA3⟩ : ∃ i, i = M - 3 := ⟨_, rfl⟩
      have sA3 : Unit → IntKind.i64.wrap ((M : Int) - 3) = ((iA3 : Nat) : Int) := fun _ => by rw [hiA3]; exact sub_i (q := 3) (by omega) (by omega)
      obtain ⟨nA3, hnA3⟩ : ∃ i, i = lo + iA3 := ⟨_, rfl⟩; have zA3 : Unit → lo + Int.toNat ((iA3 : Nat) : Int) = nA3 := fun _ => by rw [hnA3]; rfl
      obtain ⟨iA4, hiA4⟩ : ∃ i, i = M - 4 := ⟨_, rfl⟩
      have sA4 : Unit → IntKind.i64.wrap ((M : Int) - 4) = ((iA4 : Nat) : Int) := fun _ => by rw [hiA4]; exact sub_i (q := 4) (by omega) (by omega)
      obtain ⟨nA4, hnA4⟩ : ∃ i, i = lo + iA4 := ⟨_, rfl⟩; have zA4 : Unit → lo + Int.toNat ((iA4 : Nat) : Int) = nA4 := fun _ => by rw [hnA4]; rfl
      obtain ⟨yA, hyA⟩ : ∃ y, y = v % 10000 := ⟨_, rfl⟩
      obtain ⟨wA, hwA⟩ : ∃ y, y = v / 10000 := ⟨_, rfl⟩
      have aA1 : Unit → Int.tmod (v : Int) 10000 = ((yA : Nat) : Int) := fun _ => by rw [hyA]; rfl
      have aA2 : Unit → IntKind.u32.wrap (Int.tdiv (v : Int) 10000) = ((wA : Nat) : Int) := fun _ => by rw [hwA]; exact wrap_u32 (n := v / 10000) (by omega)
      have aA3 : Unit → IntKind.u32.wrap (Int.tdiv (yA : Int) 100) = ((yA / 100 : Nat) : Int) := fun _ => wrap_u32 (n := yA / 100) (by omega)
      have aA4 : Unit → IntKind.u32.wrap (Int.tmod (yA : Int) 100 * 2) = ((yA % 100 * 2 : Nat) : Int) := fun _ => mul2_u32 (n := yA % 100) (by omega)
      have aA5 := fun (_ : Unit) => mul2_u32 (n := yA / 100) (by omega)
      have bA1 := fun (_ : Unit) => add1_u32 (n := yA % 100 * 2) (by omega)
      obtain ⟨lA1, hlA1⟩ : ∃ b, b = ((48 + yA % 100 % 10 : Nat) : Int) := ⟨_, rfl⟩
      obtain ⟨pA1, hpA1⟩ : ∃ b, b = ((48 + yA % 100 / 10 : Nat) : Int) := ⟨_, rfl⟩
      have vA1 : Unit → bt smalls (Int.toNat ((yA % 100 * 2 + 1 : Nat) : Int)) = lA1 := fun _ => by rw [hlA1]; exact sm_lo (a := yA % 100) (by omega)
      have uA1 : Unit → bt smalls (Int.toNat ((yA % 100 * 2 : Nat) : Int)) = pA1 := fun _ => by rw [hpA1]; exact sm_hi (a := yA % 100) (by omega)
      have bA2 := fun (_ : Unit) => add1_u32 (n := yA / 100 * 2) (by omega)
      obtain ⟨lA2, hlA2⟩ : ∃ b, b = ((48 + yA / 100 % 10 : Nat) : Int) := ⟨_, rfl⟩
      obtain ⟨pA2, hpA2⟩ : ∃ b, b = ((48 + yA / 100 / 10 : Nat) : Int) := ⟨_, rfl⟩
      have vA2 : Unit → bt smalls (Int.toNat ((yA / 100 * 2 + 1 : Nat) : Int)) = lA2 := fun _ => by rw [hlA2]; exact sm_lo (a := yA / 100) (by omega)
      have uA2 : Unit → bt smalls (Int.toNat ((yA / 100 * 2 : Nat) : Int)) = pA2 := fun _ => by rw [hpA2]; exact sm_hi (a := yA / 100) (by omega)
      obtain ⟨gA1, hgA1⟩ : ∃ g : Nat → Int, ∀ j, g j = if j = nA1 then lA1 else g0 j := ⟨_, fun _ => rfl⟩
      have rA1 : Unit → (AV.arr N 1 fun j => selA (j = nA1) (Y lA1) (Y (g0 j))) = .arr N 1 fun j => Y (gA1 j) := fun _ => st_e hgA1
      obtain ⟨gA2, hgA2⟩ : ∃ g : Nat → Int, ∀ j, g j = if j = nA2 then pA1 else gA1 j := ⟨_, fun _ => rfl⟩
      have rA2 : Unit → (AV.arr N 1 fun j => selA (j = nA2) (Y pA1) (Y (gA1 j))) = .arr N 1 fun j => Y (gA2 j) := fun _ => st_e hgA2
      obtain ⟨gA3, hgA3⟩ : ∃ g : Nat → Int, ∀ j, g j = if j = nA3 then lA2 else gA2 j := ⟨_, fun _ => rfl⟩
      have rA3 : Unit → (AV.arr N 1 fun j => selA (j = nA3) (Y lA2) (Y (gA2 j))) = .arr N 1 fun j => Y (gA3 j) := fun _ => st_e hgA3
      obtain ⟨gA4, hgA4⟩ : ∃ g : Nat → Int, ∀ j, g j = if j = nA4 then pA2 else gA3 j := ⟨_, fun _ => rfl⟩
      have rA4 : Unit → (AV.arr N 1 fun j => selA (j = nA4) (Y pA2) (Y (gA3 j))) = .arr N 1 fun j => Y (gA4 j) := fun _ => st_e hgA4
      repeat' first
        | (rw [wpE_one])
        | (rw [sA1 ()]) | (rw [zA1 ()]) | (rw [sA2 ()]) | (rw [zA2 ()]) | (rw [sA3 ()]) | (rw [zA3 ()]) | (rw [sA4 ()]) | (rw [zA4 ()]) | (rw [aA1 ()]) | (rw [aA2 ()]) | (rw [aA3 ()]) | (rw [aA4 ()]) | (rw [aA5 ()]) | (rw [bA1 ()]) | (rw [vA1 ()]) | (rw [uA1 ()]) | (rw [bA2 ()]) | (rw [vA2 ()]) | (rw [uA2 ()]) | (rw [rA1 ()]) | (rw [rA2 ()]) | (rw [rA3 ()]) | (rw [rA4 ()])
        | (rw [okN]; (try conv in (occs := *) (ev (gl0 ml) _ _) => all_goals whnf); (conv => whnf))
        | (refine And.intro (by first | decide | ((try simp only [smalls_size]); omega)) ?_; (conv => whnf))
        | fail
      clear sA1 zA1 sA2 zA2 sA3 zA3 sA4 zA4 aA1 aA2 aA3 aA4 aA5 bA1 vA1 uA1 bA2 vA2 uA2 rA1 rA2 rA3 rA4
      have eA2 := two_i (lo := lo) (L := L) (u := u) (m := (8 * k)) (f := f) 0 hMm (by omega) (by omega) (by omega) (by rw [hlA1, hv]; congr 1; omega) (by rw [hpA1, hv]; congr 1; omega) hg0 hgA1 hgA2
      have eA4 := two_i (lo := lo) (L := L) (u := u) (m := (8 * k)) (f := f) 2 hMm (by omega) (by omega) (by omega) (by rw [hlA2, hv]; congr 1; omega) (by rw [hpA2, hv]; congr 1; omega) eA2 hgA3 hgA4
      have hiA4 : iA4 + ((8 * k) + 4) = L := by omega
      have hwA_ : u / 10 ^ ((8 * k) + 4) = wA := by rw [hwA, ← hv, Nat.div_div_eq_div_mul, show (10000 : Nat) = 10 ^ 4 by decide, ← Nat.pow_add]
      have hqA : ∀ j, gA4 j = if lo + iA4 ≤ j ∧ j < lo + L then ((48 + dgt L u (j - lo) : Nat) : Int) else f j := by intro j; rw [eA4 j, show M - (2 + 2) = iA4 by omega]
      have hwA_b : wA < 10 ^ iA4 := by rw [← hwA_]; exact Nat.div_lt_of_lt_mul (by rw [← Nat.pow_add, show ((8 * k) + 4) + iA4 = L by omega]; exact hL)
      have hbB := hwA_b
      have hwA' := hwA_
      by_cases cB : 2 ≤ iA4
      · refine br_true (decide_eq_true ((by omega : ((iA4 : Nat) : Int) ≥ 2))) ?_
        conv => whnf
        have hv4B : wA < 10000 := Nat.lt_of_lt_of_le hbB (Nat.pow_le_pow_right (by decide) (show iA4 ≤ 4 by omega))
        obtain ⟨iB1, hiB1⟩ : ∃ i, i = iA4 - 1 := ⟨_, rfl⟩
        have sB1 : Unit → IntKind.i64.wrap ((iA4 : Int) - 1) = ((iB1 : Nat) : Int) := fun _ => by rw [hiB1]; exact sub_i (q := 1) (by omega) (by omega)
        obtain ⟨nB1, hnB1⟩ : ∃ i, i = lo + iB1 := ⟨_, rfl⟩; have zB1 : Unit → lo + Int.toNat ((iB1 : Nat) : Int) = nB1 := fun _ => by rw [hnB1]; rfl
        obtain ⟨iB2, hiB2⟩ : ∃ i, i = iA4 - 2 := ⟨_, rfl⟩
        have sB2 : Unit → IntKind.i64.wrap ((iA4 : Int) - 2) = ((iB2 : Nat) : Int) := fun _ => by rw [hiB2]; exact sub_i (q := 2) (by omega) (by omega)
        obtain ⟨nB2, hnB2⟩ : ∃ i, i = lo + iB2 := ⟨_, rfl⟩; have zB2 : Unit → lo + Int.toNat ((iB2 : Nat) : Int) = nB2 := fun _ => by rw [hnB2]; rfl
        obtain ⟨wB, hwB⟩ : ∃ y, y = wA / 100 := ⟨_, rfl⟩
        have aB1 : Unit → IntKind.u32.wrap (Int.tmod (wA : Int) 100 * 2) = ((wA % 100 * 2 : Nat) : Int) := fun _ => mul2_u32 (n := wA % 100) (by omega)
        have aB2 : Unit → IntKind.u32.wrap (Int.tdiv (wA : Int) 100) = ((wB : Nat) : Int) := fun _ => by rw [hwB]; exact wrap_u32 (n := wA / 100) (by omega)
        have bB1 := fun (_ : Unit) => add1_u32 (n := wA % 100 * 2) (by omega)
        obtain ⟨lB1, hlB1⟩ : ∃ b, b = ((48 + wA % 100 % 10 : Nat) : Int) := ⟨_, rfl⟩
        obtain ⟨pB1, hpB1⟩ : ∃ b, b = ((48 + wA % 100 / 10 : Nat) : Int) := ⟨_, rfl⟩
        have vB1 : Unit → bt smalls (Int.toNat ((wA % 100 * 2 + 1 : Nat) : Int)) = lB1 := fun _ => by rw [hlB1]; exact sm_lo (a := wA % 100) (by omega)
        have uB1 : Unit → bt smalls (Int.toNat ((wA % 100 * 2 : Nat) : Int)) = pB1 := fun _ => by rw [hpB1]; exact sm_hi (a := wA % 100) (by omega)
        obtain ⟨gB1, hgB1⟩ : ∃ g : Nat → Int, ∀ j, g j = if j = nB1 then lB1 else gA4 j := ⟨_, fun _ => rfl⟩
        have rB1 : Unit → (AV.arr N 1 fun j => selA (j = nB1) (Y lB1) (Y (gA4 j))) = .arr N 1 fun j => Y (gB1 j) := fun _ => st_e hgB1
        obtain ⟨gB2, hgB2⟩ : ∃ g : Nat → Int, ∀ j, g j = if j = nB2 then pB1 else gB1 j := ⟨_, fun _ => rfl⟩
        have rB2 : Unit → (AV.arr N 1 fun j => selA (j = nB2) (Y pB1) (Y (gB1 j))) = .arr N 1 fun j => Y (gB2 j) := fun _ => st_e hgB2
        repeat' first
          | (rw [wpE_one])
          | (rw [sB1 ()]) | (rw [zB1 ()]) | (rw [sB2 ()]) | (rw [zB2 ()]) | (rw [aB1 ()]) | (rw [aB2 ()]) | (rw [bB1 ()]) | (rw [vB1 ()]) | (rw [uB1 ()]) | (rw [rB1 ()]) | (rw [rB2 ()])
          | (rw [okN]; (try conv in (occs := *) (ev (gl0 ml) _ _) => all_goals whnf); (conv => whnf))
          | (refine And.intro (by first | decide | ((try simp only [smalls_size]); omega)) ?_; (conv => whnf))
          | fail
        clear sB1 zB1 sB2 zB2 aB1 aB2 bB1 vB1 uB1 rB1 rB2
        have eB2 := two_i (lo := lo) (L := L) (u := u) (m := ((8 * k) + 4)) (f := f) 0 hiA4 (by omega) (by omega) (by omega) (by rw [hlB1, hwA_]; congr 1; omega) (by rw [hpB1, hwA_]; congr 1; omega) hqA hgB1 hgB2
        have hiB2 : iB2 + (((8 * k) + 4) + 2) = L := by omega
        have hwB_ : u / 10 ^ (((8 * k) + 4) + 2) = wB := by rw [hwB, ← hwA_, Nat.div_div_eq_div_mul, show (100 : Nat) = 10 ^ 2 by decide, ← Nat.pow_add]
        have hqB : ∀ j, gB2 j = if lo + iB2 ≤ j ∧ j < lo + L then ((48 + dgt L u (j - lo) : Nat) : Int) else f j := by intro j; rw [eB2 j, show iA4 - (0 + 2) = iB2 by omega]
        have hwB_b : wB < 10 ^ iB2 := by rw [← hwB_]; exact Nat.div_lt_of_lt_mul (by rw [← Nat.pow_add, show (((8 * k) + 4) + 2) + iB2 = L by omega]; exact hL)
        have hbBC := hwB_b
        by_cases cBC : 0 < iB2
        · refine br_true (decide_eq_true ((by omega : ((iB2 : Nat) : Int) > 0))) ?_
          conv => whnf
          have hM1BC : iB2 = 1 := by omega
          have hv1BC : wB < 10 := by rw [hM1BC] at hbBC; exact hbBC
          obtain ⟨dBC, hdBC⟩ : ∃ d, d = 48 + wB := ⟨_, rfl⟩
          have qBC1 : Unit → IntKind.u32.wrap (48 + ((wB : Nat) : Int)) = ((dBC : Nat) : Int) := fun _ => by rw [hdBC, show (48 : Int) + ((wB : Nat) : Int) = ((48 + wB : Nat) : Int) by omega]; exact wrap_u32 (by omega)
          have qBC2 : Unit → IntKind.u8.wrap ((dBC : Nat) : Int) = (dBC : Nat) := fun _ => wrap8 (by omega)
          have qBC3 : Unit → lo + Int.toNat 0 = lo := fun _ => rfl
          obtain ⟨tBC, htBC⟩ : ∃ g : Nat → Int, ∀ j, g j = if j = lo then ((dBC : Nat) : Int) else gB2 j := ⟨_, fun _ => rfl⟩
          have qBC4 : Unit → (AV.arr N 1 fun j => selA (j = lo) (Y ((dBC : Nat) : Int)) (Y (gB2 j))) = .arr N 1 fun j => Y (tBC j) := fun _ => st_e htBC
          repeat' first
            | (rw [wpE_one])
            | (rw [qBC1 ()]) | (rw [qBC2 ()]) | (rw [qBC3 ()]) | (rw [qBC4 ()])
            | (rw [okN]; (try conv in (occs := *) (ev (gl0 ml) _ _) => all_goals whnf); (conv => whnf))
            | (refine And.intro (by omega) ?_; (conv => whnf))
            | fail
          clear qBC1 qBC2 qBC3 qBC4
          have hfin : ∀ j, tBC j = if lo + 0 ≤ j ∧ j < lo + L then ((48 + dgt L u (j - lo) : Nat) : Int) else f j := one_i hiB2 hM1BC hwB_ hv1BC hdBC hqB htBC
          have hbox : (AV.arr N 1 fun j => Y (tBC j)) = dgA lo N L u f 0 := congrArg (AV.arr N 1) (funext fun j => congrArg (fun n => Y n) (hfin j))
          rw [hbox]
          exact ⟨⟨[], [(B0, .box (dgA lo N L u f 0))], 0, (le_st (le_r rfl) trivial (leO_lent rfl rfl (LeA.refl _) (bnd_nf _ ((fun i => trivial))) trivial) (gl0n ml)), ⟨_, Le.refl _, ⟨trivial, (by intros; trivial)⟩, rfl, rfl⟩⟩⟩
        · refine br_false (decide_eq_false ((by omega : ¬ (((iB2 : Nat) : Int) > 0)))) ?_
          conv => whnf
          have hfin : ∀ j, gB2 j = if lo + 0 ≤ j ∧ j < lo + L then ((48 + dgt L u (j - lo) : Nat) : Int) else f j := fun j => by rw [hqB j]; by_cases c9 : lo + 0 ≤ j ∧ j < lo + L; rw [if_pos c9, if_pos (by omega)]; rw [if_neg c9, if_neg (by omega)]
          have hbox : (AV.arr N 1 fun j => Y (gB2 j)) = dgA lo N L u f 0 := congrArg (AV.arr N 1) (funext fun j => congrArg (fun n => Y n) (hfin j))
          rw [hbox]
          exact ⟨⟨[], [(B0, .box (dgA lo N L u f 0))], 0, (le_st (le_r rfl) trivial (leO_lent rfl rfl (LeA.refl _) (bnd_nf _ ((fun i => trivial))) trivial) (gl0n ml)), ⟨_, Le.refl _, ⟨trivial, (by intros; trivial)⟩, rfl, rfl⟩⟩⟩
      · refine br_false (decide_eq_false ((by omega : ¬ (((iA4 : Nat) : Int) ≥ 2)))) ?_
        conv => whnf
        have hbBD := hbB
        by_cases cBD : 0 < iA4
        · refine br_true (decide_eq_true ((by omega : ((iA4 : Nat) : Int) > 0))) ?_
          conv => whnf
          have hM1BD : iA4 = 1 := by omega
          have hv1BD : wA < 10 := by rw [hM1BD] at hbBD; exact hbBD
          obtain ⟨dBD, hdBD⟩ : ∃ d, d = 48 + wA := ⟨_, rfl⟩
          have qBD1 : Unit → IntKind.u32.wrap (48 + ((wA : Nat) : Int)) = ((dBD : Nat) : Int) := fun _ => by rw [hdBD, show (48 : Int) + ((wA : Nat) : Int) = ((48 + wA : Nat) : Int) by omega]; exact wrap_u32 (by omega)
          have qBD2 : Unit → IntKind.u8.wrap ((dBD : Nat) : Int) = (dBD : Nat) := fun _ => wrap8 (by omega)
          have qBD3 : Unit → lo + Int.toNat 0 = lo := fun _ => rfl
          obtain ⟨tBD, htBD⟩ : ∃ g : Nat → Int, ∀ j, g j = if j = lo then ((dBD : Nat) : Int) else gA4 j := ⟨_, fun _ => rfl⟩
          have qBD4 : Unit → (AV.arr N 1 fun j => selA (j = lo) (Y ((dBD : Nat) : Int)) (Y (gA4 j))) = .arr N 1 fun j => Y (tBD j) := fun _ => st_e htBD
          repeat' first
            | (rw [wpE_one])
            | (rw [qBD1 ()]) | (rw [qBD2 ()]) | (rw [qBD3 ()]) | (rw [qBD4 ()])
            | (rw [okN]; (try conv in (occs := *) (ev (gl0 ml) _ _) => all_goals whnf); (conv => whnf))
            | (refine And.intro (by omega) ?_; (conv => whnf))
            | fail
          clear qBD1 qBD2 qBD3 qBD4
          have hfin : ∀ j, tBD j = if lo + 0 ≤ j ∧ j < lo + L then ((48 + dgt L u (j - lo) : Nat) : Int) else f j := one_i hiA4 hM1BD hwA_ hv1BD hdBD hqA htBD
          have hbox : (AV.arr N 1 fun j => Y (tBD j)) = dgA lo N L u f 0 := congrArg (AV.arr N 1) (funext fun j => congrArg (fun n => Y n) (hfin j))
          rw [hbox]
          exact ⟨⟨[], [(B0, .box (dgA lo N L u f 0))], 0, (le_st (le_r rfl) trivial (leO_lent rfl rfl (LeA.refl _) (bnd_nf _ ((fun i => trivial))) trivial) (gl0n ml)), ⟨_, Le.refl _, ⟨trivial, (by intros; trivial)⟩, rfl, rfl⟩⟩⟩
        · refine br_false (decide_eq_false ((by omega : ¬ (((iA4 : Nat) : Int) > 0)))) ?_
          conv => whnf
          have hfin : ∀ j, gA4 j = if lo + 0 ≤ j ∧ j < lo + L then ((48 + dgt L u (j - lo) : Nat) : Int) else f j := fun j => by rw [hqA j]; by_cases c9 : lo + 0 ≤ j ∧ j < lo + L; rw [if_pos c9, if_pos (by omega)]; rw [if_neg c9, if_neg (by omega)]
          have hbox : (AV.arr N 1 fun j => Y (gA4 j)) = dgA lo N L u f 0 := congrArg (AV.arr N 1) (funext fun j => congrArg (fun n => Y n) (hfin j))
          rw [hbox]
          exact ⟨⟨[], [(B0, .box (dgA lo N L u f 0))], 0, (le_st (le_r rfl) trivial (leO_lent rfl rfl (LeA.refl _) (bnd_nf _ ((fun i => trivial))) trivial) (gl0n ml)), ⟨_, Le.refl _, ⟨trivial, (by intros; trivial)⟩, rfl, rfl⟩⟩⟩
    · refine br_false (decide_eq_false ((by omega : ¬ (((M : Nat) : Int) ≥ 4)))) ?_
      conv => whnf
      have hbE := hbA
      by_cases cE : 2 ≤ M
      · refine br_true (decide_eq_true ((by omega : ((M : Nat) : Int) ≥ 2))) ?_
        conv => whnf
        have hv4E : v < 10000 := Nat.lt_of_lt_of_le hbE (Nat.pow_le_pow_right (by decide) (show M ≤ 4 by omega))
        obtain ⟨iE1, hiE1⟩ : ∃ i, i = M - 1 := ⟨_, rfl⟩
        have sE1 : Unit → IntKind.i64.wrap ((M : Int) - 1) = ((iE1 : Nat) : Int) := fun _ => by rw [hiE1]; exact sub_i (q := 1) (by omega) (by omega)
        obtain ⟨nE1, hnE1⟩ : ∃ i, i = lo + iE1 := ⟨_, rfl⟩; have zE1 : Unit → lo + Int.toNat ((iE1 : Nat) : Int) = nE1 := fun _ => by rw [hnE1]; rfl
        obtain ⟨iE2, hiE2⟩ : ∃ i, i = M - 2 := ⟨_, rfl⟩
        have sE2 : Unit → IntKind.i64.wrap ((M : Int) - 2) = ((iE2 : Nat) : Int) := fun _ => by rw [hiE2]; exact sub_i (q := 2) (by omega) (by omega)
        obtain ⟨nE2, hnE2⟩ : ∃ i, i = lo + iE2 := ⟨_, rfl⟩; have zE2 : Unit → lo + Int.toNat ((iE2 : Nat) : Int) = nE2 := fun _ => by rw [hnE2]; rfl
        obtain ⟨wE, hwE⟩ : ∃ y, y = v / 100 := ⟨_, rfl⟩
        have aE1 : Unit → IntKind.u32.wrap (Int.tmod (v : Int) 100 * 2) = ((v % 100 * 2 : Nat) : Int) := fun _ => mul2_u32 (n := v % 100) (by omega)
        have aE2 : Unit → IntKind.u32.wrap (Int.tdiv (v : Int) 100) = ((wE : Nat) : Int) := fun _ => by rw [hwE]; exact wrap_u32 (n := v / 100) (by omega)
        have bE1 := fun (_ : Unit) => add1_u32 (n := v % 100 * 2) (by omega)
        obtain ⟨lE1, hlE1⟩ : ∃ b, b = ((48 + v % 100 % 10 : Nat) : Int) := ⟨_, rfl⟩
        obtain ⟨pE1, hpE1⟩ : ∃ b, b = ((48 + v % 100 / 10 : Nat) : Int) := ⟨_, rfl⟩
        have vE1 : Unit → bt smalls (Int.toNat ((v % 100 * 2 + 1 : Nat) : Int)) = lE1 := fun _ => by rw [hlE1]; exact sm_lo (a := v % 100) (by omega)
        have uE1 : Unit → bt smalls (Int.toNat ((v % 100 * 2 : Nat) : Int)) = pE1 := fun _ => by rw [hpE1]; exact sm_hi (a := v % 100) (by omega)
        obtain ⟨gE1, hgE1⟩ : ∃ g : Nat → Int, ∀ j, g j = if j = nE1 then lE1 else g0 j := ⟨_, fun _ => rfl⟩
        have rE1 : Unit → (AV.arr N 1 fun j => selA (j = nE1) (Y lE1) (Y (g0 j))) = .arr N 1 fun j => Y (gE1 j) := fun _ => st_e hgE1
        obtain ⟨gE2, hgE2⟩ : ∃ g : Nat → Int, ∀ j, g j = if j = nE2 then pE1 else gE1 j := ⟨_, fun _ => rfl⟩
        have rE2 : Unit → (AV.arr N 1 fun j => selA (j = nE2) (Y pE1) (Y (gE1 j))) = .arr N 1 fun j => Y (gE2 j) := fun _ => st_e hgE2
        repeat' first
          | (rw [wpE_one])
          | (rw [sE1 ()]) | (rw [zE1 ()]) | (rw [sE2 ()]) | (rw [zE2 ()]) | (rw [aE1 ()]) | (rw [aE2 ()]) | (rw [bE1 ()]) | (rw [vE1 ()]) | (rw [uE1 ()]) | (rw [rE1 ()]) | (rw [rE2 ()])
          | (rw [okN]; (try conv in (occs := *) (ev (gl0 ml) _ _) => all_goals whnf); (conv => whnf))
          | (refine And.intro (by first | decide | ((try simp only [smalls_size]); omega)) ?_; (conv => whnf))
          | fail
        clear sE1 zE1 sE2 zE2 aE1 aE2 bE1 vE1 uE1 rE1 rE2
        have eE2 := two_i (lo := lo) (L := L) (u := u) (m := (8 * k)) (f := f) 0 hMm (by omega) (by omega) (by omega) (by rw [hlE1, hv]; congr 1; omega) (by rw [hpE1, hv]; congr 1; omega) hg0 hgE1 hgE2
        have hiE2 : iE2 + ((8 * k) + 2) = L := by omega
        have hwE_ : u / 10 ^ ((8 * k) + 2) = wE := by rw [hwE, ← hv, Nat.div_div_eq_div_mul, show (100 : Nat) = 10 ^ 2 by decide, ← Nat.pow_add]
        have hqE : ∀ j, gE2 j = if lo + iE2 ≤ j ∧ j < lo + L then ((48 + dgt L u (j - lo) : Nat) : Int) else f j := by intro j; rw [eE2 j, show M - (0 + 2) = iE2 by omega]
        have hwE_b : wE < 10 ^ iE2 := by rw [← hwE_]; exact Nat.div_lt_of_lt_mul (by rw [← Nat.pow_add, show ((8 * k) + 2) + iE2 = L by omega]; exact hL)
        have hbEC := hwE_b
        by_cases cEC : 0 < iE2
        · refine br_true (decide_eq_true ((by omega : ((iE2 : Nat) : Int) > 0))) ?_
          conv => whnf
          have hM1EC : iE2 = 1 := by omega
          have hv1EC : wE < 10 := by rw [hM1EC] at hbEC; exact hbEC
          obtain ⟨dEC, hdEC⟩ : ∃ d, d = 48 + wE := ⟨_, rfl⟩
          have qEC1 : Unit → IntKind.u32.wrap (48 + ((wE : Nat) : Int)) = ((dEC : Nat) : Int) := fun _ => by rw [hdEC, show (48 : Int) + ((wE : Nat) : Int) = ((48 + wE : Nat) : Int) by omega]; exact wrap_u32 (by omega)
          have qEC2 : Unit → IntKind.u8.wrap ((dEC : Nat) : Int) = (dEC : Nat) := fun _ => wrap8 (by omega)
          have qEC3 : Unit → lo + Int.toNat 0 = lo := fun _ => rfl
          obtain ⟨tEC, htEC⟩ : ∃ g : Nat → Int, ∀ j, g j = if j = lo then ((dEC : Nat) : Int) else gE2 j := ⟨_, fun _ => rfl⟩
          have qEC4 : Unit → (AV.arr N 1 fun j => selA (j = lo) (Y ((dEC : Nat) : Int)) (Y (gE2 j))) = .arr N 1 fun j => Y (tEC j) := fun _ => st_e htEC
          repeat' first
            | (rw [wpE_one])
            | (rw [qEC1 ()]) | (rw [qEC2 ()]) | (rw [qEC3 ()]) | (rw [qEC4 ()])
            | (rw [okN]; (try conv in (occs := *) (ev (gl0 ml) _ _) => all_goals whnf); (conv => whnf))
            | (refine And.intro (by omega) ?_; (conv => whnf))
            | fail
          clear qEC1 qEC2 qEC3 qEC4
          have hfin : ∀ j, tEC j = if lo + 0 ≤ j ∧ j < lo + L then ((48 + dgt L u (j - lo) : Nat) : Int) else f j := one_i hiE2 hM1EC hwE_ hv1EC hdEC hqE htEC
          have hbox : (AV.arr N 1 fun j => Y (tEC j)) = dgA lo N L u f 0 := congrArg (AV.arr N 1) (funext fun j => congrArg (fun n => Y n) (hfin j))
          rw [hbox]
          exact ⟨⟨[], [(B0, .box (dgA lo N L u f 0))], 0, (le_st (le_r rfl) trivial (leO_lent rfl rfl (LeA.refl _) (bnd_nf _ ((fun i => trivial))) trivial) (gl0n ml)), ⟨_, Le.refl _, ⟨trivial, (by intros; trivial)⟩, rfl, rfl⟩⟩⟩
        · refine br_false (decide_eq_false ((by omega : ¬ (((iE2 : Nat) : Int) > 0)))) ?_
          conv => whnf
          have hfin : ∀ j, gE2 j = if lo + 0 ≤ j ∧ j < lo + L then ((48 + dgt L u (j - lo) : Nat) : Int) else f j := fun j => by rw [hqE j]; by_cases c9 : lo + 0 ≤ j ∧ j < lo + L; rw [if_pos c9, if_pos (by omega)]; rw [if_neg c9, if_neg (by omega)]
          have hbox : (AV.arr N 1 fun j => Y (gE2 j)) = dgA lo N L u f 0 := congrArg (AV.arr N 1) (funext fun j => congrArg (fun n => Y n) (hfin j))
          rw [hbox]
          exact ⟨⟨[], [(B0, .box (dgA lo N L u f 0))], 0, (le_st (le_r rfl) trivial (leO_lent rfl rfl (LeA.refl _) (bnd_nf _ ((fun i => trivial))) trivial) (gl0n ml)), ⟨_, Le.refl _, ⟨trivial, (by intros; trivial)⟩, rfl, rfl⟩⟩⟩
      · refine br_false (decide_eq_false ((by omega : ¬ (((M : Nat) : Int) ≥ 2)))) ?_
        conv => whnf
        have hbED := hbE
        by_cases cED : 0 < M
        · refine br_true (decide_eq_true ((by omega : ((M : Nat) : Int) > 0))) ?_
          conv => whnf
          have hM1ED : M = 1 := by omega
          have hv1ED : v < 10 := by rw [hM1ED] at hbED; exact hbED
          obtain ⟨dED, hdED⟩ : ∃ d, d = 48 + v := ⟨_, rfl⟩
          have qED1 : Unit → IntKind.u32.wrap (48 + ((v : Nat) : Int)) = ((dED : Nat) : Int) := fun _ => by rw [hdED, show (48 : Int) + ((v : Nat) : Int) = ((48 + v : Nat) : Int) by omega]; exact wrap_u32 (by omega)
          have qED2 : Unit → IntKind.u8.wrap ((dED : Nat) : Int) = (dED : Nat) := fun _ => wrap8 (by omega)
          have qED3 : Unit → lo + Int.toNat 0 = lo := fun _ => rfl
          obtain ⟨tED, htED⟩ : ∃ g : Nat → Int, ∀ j, g j = if j = lo then ((dED : Nat) : Int) else g0 j := ⟨_, fun _ => rfl⟩
          have qED4 : Unit → (AV.arr N 1 fun j => selA (j = lo) (Y ((dED : Nat) : Int)) (Y (g0 j))) = .arr N 1 fun j => Y (tED j) := fun _ => st_e htED
          repeat' first
            | (rw [wpE_one])
            | (rw [qED1 ()]) | (rw [qED2 ()]) | (rw [qED3 ()]) | (rw [qED4 ()])
            | (rw [okN]; (try conv in (occs := *) (ev (gl0 ml) _ _) => all_goals whnf); (conv => whnf))
            | (refine And.intro (by omega) ?_; (conv => whnf))
            | fail
          clear qED1 qED2 qED3 qED4
          have hfin : ∀ j, tED j = if lo + 0 ≤ j ∧ j < lo + L then ((48 + dgt L u (j - lo) : Nat) : Int) else f j := one_i hMm hM1ED hv hv1ED hdED hg0 htED
          have hbox : (AV.arr N 1 fun j => Y (tED j)) = dgA lo N L u f 0 := congrArg (AV.arr N 1) (funext fun j => congrArg (fun n => Y n) (hfin j))
          rw [hbox]
          exact ⟨⟨[], [(B0, .box (dgA lo N L u f 0))], 0, (le_st (le_r rfl) trivial (leO_lent rfl rfl (LeA.refl _) (bnd_nf _ ((fun i => trivial))) trivial) (gl0n ml)), ⟨_, Le.refl _, ⟨trivial, (by intros; trivial)⟩, rfl, rfl⟩⟩⟩
        · refine br_false (decide_eq_false ((by omega : ¬ (((M : Nat) : Int) > 0)))) ?_
          conv => whnf
          have hfin : ∀ j, g0 j = if lo + 0 ≤ j ∧ j < lo + L then ((48 + dgt L u (j - lo) : Nat) : Int) else f j := fun j => by rw [hg0 j]; by_cases c9 : lo + 0 ≤ j ∧ j < lo + L; rw [if_pos c9, if_pos (by omega)]; rw [if_neg c9, if_neg (by omega)]
          have hbox : (AV.arr N 1 fun j => Y (g0 j)) = dgA lo N L u f 0 := congrArg (AV.arr N 1) (funext fun j => congrArg (fun n => Y n) (hfin j))
          rw [hbox]
          exact ⟨⟨[], [(B0, .box (dgA lo N L u f 0))], 0, (le_st (le_r rfl) trivial (leO_lent rfl rfl (LeA.refl _) (bnd_nf _ ((fun i => trivial))) trivial) (gl0n ml)), ⟨_, Le.refl _, ⟨trivial, (by intros; trivial)⟩, rfl, rfl⟩⟩⟩

end Go.Proofs.YtankpibkakfnhaaDoor
namespace Ar
open Go
set_option linter.unusedVariables false
set_option autoImplicit false
set_option maxHeartbeats 4000000

/-- One box is lent: it comes back written. -/
theorem call_l {P : Program} {gl : Nat → AV} {f : FuncId} {args args' : List AV} {o : Objs} {n : Nat} {Q : AV → Objs → Nat → Prop} {K : AV → Objs → Nat → Prop} (t : Nat) {a b0 : AV} (h : PureIX P gl f args' [(B0, .box b0)] 0 Q) (ht : lookO t o = some (.box a)) (hab : LeA a b0) (hb : nf b0)
    (hil : ∀ a ∈ args', il 0 1 a) (hl : LeL args (args'.map (ren (sg [] [t])))) (hn : Nat.ble n LENT = true)
    (hK : ∀ r o1 n1, Q r o1 n1 → ∃ b, o1 = [(B0, .box b)] ∧ n1 = 0 ∧ nf b ∧ nk r ∧ forceP ((t, .box b) :: dropO t o) fun o' => K (ren (tau n [t]) r) o' n) : CallB true P gl f args o n K := by
  obtain ⟨r, o1, n1, hq, hp⟩ := h
  obtain ⟨b, rfl, rfl, h2, h3, h4⟩ := hK r o1 n1 hq
  have h4 := forceP_iff.1 h4
  have d0 : ∀ k, dom 0 1 k → k = B0 := fun k hk => by
    rcases hk with hk | ⟨hk, hk2⟩
    · omega
    · have : k < B0 + 1 := hk2; omega
  have sB : sg [] [t] B0 = t := by show (if B0 < B0 then _ else [t].getD (B0 - B0) 0) = t; rw [if_neg (Nat.lt_irrefl _), Nat.sub_self]; rfl
  have tB : tau n [t] B0 = t := by show (if B0 < B0 then _ else [t].getD (B0 - B0) 0) = t; rw [if_neg (Nat.lt_irrefl _), Nat.sub_self]; rfl
  refine call_i [] [t] hp hil hl (fun k x hk => ?_) (fun k hk => ?_) (fun k hk => absurd hk (Nat.not_lt_zero k)) (Nat.zero_le _) (fun i j hi hj _ => by rw [d0 i hi, d0 j hj]) (fun k x hk => ?_) h3 (Nat.le_of_ble_eq_true hn) ?_
  · rw [lookO_cons] at hk
    by_cases e : B0 = k
    · exact .inr ⟨by omega, by show k < B0 + 1; omega⟩
    · rw [if_neg e] at hk; simp [lookO] at hk
  · obtain rfl := d0 k hk
    exact ⟨a, b0, by rw [show sg [] [t] B0 = t from sB]; exact ht, by rw [lookO_cons, if_pos rfl], hab, hb⟩
  · rw [lookO_cons] at hk
    by_cases e : B0 = k
    · rw [if_pos e] at hk; cases hk
      exact ⟨.inr ⟨by omega, by show k < B0 + 1; omega, b, rfl⟩, h2⟩
    · rw [if_neg e] at hk; simp [lookO] at hk
  · show K _ ((tau n [t] B0, _) :: ([] ++ dropL ([] ++ [t]) o)) (n + 0)
    rw [tB]
    exact h4

end Ar

namespace Go.Proofs.YtankpibkakfnhaaDoor
open Go Ar
variable {ml : GV}
set_option linter.unusedVariables false
set_option autoImplicit false
set_option maxHeartbeats 4000000
set_option maxRecDepth 100000

theorem ble_d {d : Nat} (h : d ≤ 20) : (0 + ((d : Int).toNat - 0)).ble 24 = true := Nat.ble_eq_true_of_le (by omega)

theorem strF_d {d u lo : Nat} {g : Nat → AV} {f : Nat → Int} (h : ∀ i, i < d → g i = dgV lo d u f 0 (lo + i)) : strF ((d : Int).toNat - 0) g = decB d u := by
  unfold strF decB
  refine congrArg strOfNums (List.map_congr_left fun i hi => ?_)
  have hi : i < d := List.mem_range.1 hi
  rw [h i hi]
  show (if lo + 0 ≤ lo + i ∧ lo + i < lo + d then ((48 + dgt d u (lo + i - lo) : Nat) : Int) else f (lo + i)) = _
  rw [if_pos (by omega), Nat.add_sub_cancel_left]

theorem il_1 {d lo : Nat} {v : AV} (h : nf v) : ∀ a ∈ ([.sli B0 lo d 1 5, v] : List AV), il 0 1 a := by
  intro a ha
  rcases List.mem_cons.1 ha with rfl | ha
  · exact .inr ⟨Nat.le_refl _, by omega⟩
  · rcases List.mem_cons.1 ha with rfl | ha
    · exact il_nf _ h
    · cases ha

theorem fmtU_x (u : Nat) (hu : u < 18446744073709551616) : PureX Tryd.prog (gl0 ml) internal_strconv_FormatUint [U (u : Nat), I 10] (fun r => r = T (decT u)) := by
  refine pure_fnX mixed fn_internal_strconv_FormatUint nt_internal_strconv_FormatUint hc_internal_strconv_FormatUint (by simp) (gl0n ml) (by simp [nf]) ?_
  conv => whnf
  by_cases c : u < 100
  · refine br_true (decide_eq_true ((by omega : ((u : Nat) : Int) < 100))) ?_
    conv => whnf
    rw [show IntKind.i64.wrap ((u : Nat) : Int) = (u : Nat) from wrap_id (by unfold in64; omega)]
    refine call_x2 (small_x u c) (LeL.refl _) ?_
    rintro _ - rfl
    conv => whnf
    refine fin_e ?_
    conv => whnf
    exact ⟨trivial, rfl⟩
  · refine br_false (decide_eq_false ((by omega : ¬ (((u : Nat) : Int) < 100)))) ?_
    conv => whnf
    refine call_x2 (numDigits_x u (by omega) hu) (LeL.refl _) ?_
    rintro _ - rfl
    conv => whnf
    have hd := ndg_is hu
    have hd20 := ndg_le hu
    have hT : decT u = decB (ndg u) u := rfl
    rw [hT]
    generalize ndg u = d at hd hd20 ⊢
    have hp := hd.pos
    have hz : 0 + d = d := Nat.zero_add _
    repeat' first
      | (rw [wpE_one])
      | (refine And.intro (by omega) ?_; (conv => whnf))
      | fail
    refine call_l 0 (fmt10_i u 0 24 d hu hd.lt hp hd20 (by omega) (fun _ => 0)) rfl (LeA.refl _) (fun i => trivial) (il_1 ?_) ?_ rfl ?_
    · trivial
    · exact ⟨LeA.refl _ |>.le, LeA.refl _ |>.le, trivial⟩
    · rintro r _ _ ⟨⟨hr, hr'⟩, rfl, rfl⟩
      refine ⟨_, rfl, rfl, (fun i => trivial), hr, ?_⟩
      conv => whnf
      refine force_iff.2 ?_
      conv => whnf
      repeat' first
        | (rw [wpE_one])
        | (rw [ble_d hd20]; (conv => whnf))
        | (refine And.intro (by first | omega | decide | exact fun i hi => ⟨_, rfl⟩) ?_; (conv => whnf))
        | fail
      refine fin_e ?_
      conv => whnf
      exact ⟨trivial, congrArg (fun s => T s) (strF_d (fun i hi => rfl))⟩

end Go.Proofs.YtankpibkakfnhaaDoor
namespace Go.Proofs.YtankpibkakfnhaaDoor
open Go Ar
variable {ml : GV}
set_option linter.unusedVariables false
set_option autoImplicit false
set_option maxHeartbeats 4000000
set_option maxRecDepth 100000

/-- A whole number's text. -/
def itoaT (n : Int) : ByteArray := if n < 0 then strOfNums (45 :: (List.range (ndg n.natAbs)).map fun i => ((48 + dgt (ndg n.natAbs) n.natAbs i : Nat) : Int)) else decT n.natAbs

theorem sla_1 {d : Nat} : ((((1 + d : Nat) : Int)).toNat - Int.toNat 1) = d := by
  show 1 + d - 1 = d
  omega
theorem sl1_d (d : Nat) : Le (AV.sli 0 (Int.toNat 1) ((((1 + d : Nat) : Int)).toNat - Int.toNat 1) 1 5) (ren (sg [] [0]) (AV.sli B0 1 d 1 5)) := by
  rw [sla_1]; exact (LeA.refl _).le

theorem ble_g {d : Nat} (h : d ≤ 20) : (Int.toNat 1 + ((((1 + d : Nat) : Int)).toNat - Int.toNat 1)).ble 24 = true := Nat.ble_eq_true_of_le (by rw [sla_1]; show 1 + d ≤ 24; omega)
theorem ble_h {d : Nat} (h : d ≤ 20) : (0 + ((((1 + d : Nat) : Int)).toNat - 0)).ble 24 = true := Nat.ble_eq_true_of_le (by omega)

theorem strN_d {d u : Nat} {g : Nat → AV} {f : Nat → Int} (h : ∀ i, g i = selA (0 + i = Int.toNat 0) (Y 45) (dgV 1 d u f 0 (0 + i))) : strF ((((1 + d : Nat) : Int)).toNat - 0) g = strOfNums (45 :: (List.range d).map fun i => ((48 + dgt d u i : Nat) : Int)) := by
  unfold strF
  rw [show (((1 + d : Nat) : Int)).toNat - 0 = d + 1 by show 1 + d - 0 = d + 1; omega, List.range_succ_eq_map, List.map_cons, h 0, selA_eq, if_pos (show 0 + 0 = Int.toNat 0 from rfl), List.map_map]
  refine congrArg strOfNums (congrArg (List.cons (45 : Int)) (List.map_congr_left fun i hi => ?_))
  have hi : i < d := List.mem_range.1 hi
  show numA (g (i + 1)) = _
  rw [h (i + 1), selA_eq, if_neg (show ¬ (0 + (i + 1) = Int.toNat 0) by show ¬ (0 + (i + 1) = 0); omega)]
  show (if 1 + 0 ≤ 0 + (i + 1) ∧ 0 + (i + 1) < 1 + d then ((48 + dgt d u (0 + (i + 1) - 1) : Nat) : Int) else f (0 + (i + 1))) = _
  rw [if_pos (by omega), show 0 + (i + 1) - 1 = i by omega]

theorem strG_d {d u : Nat} {g : Nat → AV} {f : Nat → Int} (h : ∀ i, i < d → g i = dgV 1 d u f 0 (1 + i)) : strF ((((1 + d : Nat) : Int)).toNat - Int.toNat 1) g = decB d u := by
  rw [sla_1]; exact strF_d h

theorem fmtI_x (n : Int) (hn : in64 n) : PureX Tryd.prog (gl0 ml) internal_strconv_FormatInt [I n, I 10] (fun r => r = T (itoaT n)) := by
  refine pure_fnX mixed fn_internal_strconv_FormatInt nt_internal_strconv_FormatInt hc_internal_strconv_FormatInt (by simp) (gl0n ml) (by simp [nf]) ?_
  unfold in64 at hn
  conv => whnf
  by_cases c : n < 0
  · refine br_false (decide_eq_false ((by omega : ¬ (0 ≤ n)))) ?_
    conv => whnf
    refine br_true (decide_eq_true (c)) ?_
    conv => whnf
    obtain ⟨u, hu'⟩ : ∃ u : Nat, u = n.natAbs := ⟨_, rfl⟩
    have hw : IntKind.u64.wrap (0 - IntKind.u64.wrap n) = (u : Nat) := by
      show (0 - (n % 18446744073709551616)) % 18446744073709551616 = (u : Int)
      omega
    rw [show itoaT n = strOfNums (45 :: (List.range (ndg u)).map fun i => ((48 + dgt (ndg u) u i : Nat) : Int)) from by unfold itoaT; rw [if_pos c, hu']]
    rw [hw]
    have hu : u < 18446744073709551616 := by omega
    refine call_x2 (numDigits_x u (by omega) hu) (LeL.refl _) ?_
    rintro _ - rfl
    conv => whnf
    have hd := ndg_is hu
    have hd20 := ndg_le hu
    generalize ndg u = d at hd hd20 ⊢
    have hp := hd.pos
    have wd : IntKind.i64.wrap (1 + (d : Int)) = ((1 + d : Nat) : Int) := by rw [wrap_id (by unfold in64; omega)]; omega
    repeat' first
      | (rw [wpE_one])
      | (rw [wd]; (conv => whnf))
      | (rw [ble_g hd20]; (conv => whnf))
      | (rw [ble_h hd20]; (conv => whnf))
      | (rw [okN]; (try conv in (occs := *) (ev (gl0 ml) _ _) => all_goals whnf); (conv => whnf))
      | (refine And.intro (by first | omega | decide | (constructor <;> omega) | exact fun i hi => ⟨_, rfl⟩ | fail) ?_; (conv => whnf))
      | fail
    refine call_l 0 (fmt10_i u 1 24 d hu hd.lt hp hd20 (by omega) (fun _ => 0)) rfl (LeA.refl _) (fun i => trivial) (il_1 ?_) ?_ rfl ?_
    · trivial
    · exact ⟨sl1_d d, LeA.refl _ |>.le, trivial⟩
    · rintro r _ _ ⟨⟨hr, hr'⟩, rfl, rfl⟩
      refine ⟨_, rfl, rfl, (fun i => trivial), hr, ?_⟩
      conv => whnf
      refine force_iff.2 ?_
      conv => whnf
      refine br_true (decide_eq_true (c)) ?_
      conv => whnf
      repeat' first
        | (rw [wpE_one])
        | (rw [wd]; (conv => whnf))
        | (rw [ble_g hd20]; (conv => whnf))
        | (rw [ble_h hd20]; (conv => whnf))
        | (rw [okN]; (try conv in (occs := *) (ev (gl0 ml) _ _) => all_goals whnf); (conv => whnf))
        | (refine And.intro (by first | omega | decide | (constructor <;> omega) | exact fun i hi => ⟨_, rfl⟩ | fail) ?_; (conv => whnf))
        | fail
      refine fin_e ?_
      conv => whnf
      exact ⟨trivial, congrArg (fun s => T s) (strN_d (fun i => rfl))⟩
  · refine br_true (decide_eq_true ((by omega : 0 ≤ n))) ?_
    conv => whnf
    obtain ⟨u, rfl⟩ := Int.eq_ofNat_of_zero_le (show 0 ≤ n by omega)
    rw [show itoaT (u : Nat) = decT u from if_neg c]
    by_cases c2 : ((u : Nat) : Int) < 100
    · refine br_true (decide_eq_true (c2)) ?_
      conv => whnf
      refine call_x2 (small_x u (by omega)) (LeL.refl _) ?_
      rintro _ - rfl
      conv => whnf
      refine fin_e ?_
      conv => whnf
      exact ⟨trivial, rfl⟩
    · refine br_false (decide_eq_false (c2)) ?_
      conv => whnf
      have hu : u < 18446744073709551616 := by omega
      rw [show IntKind.u64.wrap ((u : Nat) : Int) = (u : Nat) from (by show ((u : Nat) : Int) % 18446744073709551616 = (u : Nat); omega)]
      refine call_x2 (numDigits_x u (by omega) hu) (LeL.refl _) ?_
      rintro _ - rfl
      conv => whnf
      have hd := ndg_is hu
      have hd20 := ndg_le hu
      have hT : decT u = decB (ndg u) u := rfl
      rw [hT]
      generalize ndg u = d at hd hd20 ⊢
      have hp := hd.pos
      have wd : IntKind.i64.wrap (1 + (d : Int)) = ((1 + d : Nat) : Int) := by rw [wrap_id (by unfold in64; omega)]; omega
      repeat' first
        | (rw [wpE_one])
        | (rw [wd]; (conv => whnf))
        | (rw [ble_g hd20]; (conv => whnf))
        | (rw [ble_h hd20]; (conv => whnf))
        | (rw [okN]; (try conv in (occs := *) (ev (gl0 ml) _ _) => all_goals whnf); (conv => whnf))
        | (refine And.intro (by first | omega | decide | (constructor <;> omega) | exact fun i hi => ⟨_, rfl⟩ | fail) ?_; (conv => whnf))
        | fail
      refine call_l 0 (fmt10_i u 1 24 d hu hd.lt hp hd20 (by omega) (fun _ => 0)) rfl (LeA.refl _) (fun i => trivial) (il_1 ?_) ?_ rfl ?_
      · trivial
      · exact ⟨sl1_d d, LeA.refl _ |>.le, trivial⟩
      · rintro r _ _ ⟨⟨hr, hr'⟩, rfl, rfl⟩
        refine ⟨_, rfl, rfl, (fun i => trivial), hr, ?_⟩
        conv => whnf
        refine force_iff.2 ?_
        conv => whnf
        repeat' first
          | (rw [wpE_one])
          | (rw [wd]; (conv => whnf))
          | (rw [ble_g hd20]; (conv => whnf))
          | (rw [ble_h hd20]; (conv => whnf))
          | (rw [okN]; (try conv in (occs := *) (ev (gl0 ml) _ _) => all_goals whnf); (conv => whnf))
          | (refine And.intro (by first | omega | decide | (constructor <;> omega) | exact fun i hi => ⟨_, rfl⟩ | fail) ?_; (conv => whnf))
          | fail
        refine fin_e ?_
        conv => whnf
        exact ⟨trivial, congrArg (fun s => T s) (strG_d (fun i hi => rfl))⟩

end Go.Proofs.YtankpibkakfnhaaDoor
namespace Go.Proofs.YtankpibkakfnhaaDoor
open Go Ar
variable {ml : GV}
set_option linter.unusedVariables false
set_option autoImplicit false
set_option maxHeartbeats 4000000
set_option maxRecDepth 100000

theorem itoa_x (n : Int) (hn : in64 n) : PureX Tryd.prog (gl0 ml) internal_strconv_Itoa [I n] (fun r => r = T (itoaT n)) := by
  refine pure_fnX mixed fn_internal_strconv_Itoa nt_internal_strconv_Itoa hc_internal_strconv_Itoa (by simp) (gl0n ml) (by simp [nf]) ?_
  conv => whnf
  try rw [wrap_id hn]
  refine call_x2 (fmtI_x n hn) (LeL.refl _) ?_
  rintro _ - rfl
  conv => whnf
  refine fin_e ?_
  conv => whnf
  exact ⟨trivial, rfl⟩

theorem itoaS_x (n : Int) (hn : in64 n) : PureX Tryd.prog (gl0 ml) strconv_Itoa [I n] (fun r => r = T (itoaT n)) := by
  refine pure_fnX mixed fn_strconv_Itoa nt_strconv_Itoa hc_strconv_Itoa (by simp) (gl0n ml) (by simp [nf]) ?_
  conv => whnf
  refine call_x2 (itoa_x n hn) (LeL.refl _) ?_
  rintro _ - rfl
  conv => whnf
  refine fin_e ?_
  conv => whnf
  exact ⟨trivial, rfl⟩

theorem fmtUS_x (u : Nat) (hu : u < 18446744073709551616) : PureX Tryd.prog (gl0 ml) strconv_FormatUint [U (u : Nat), I 10] (fun r => r = T (decT u)) := by
  refine pure_fnX mixed fn_strconv_FormatUint nt_strconv_FormatUint hc_strconv_FormatUint (by simp) (gl0n ml) (by simp [nf]) ?_
  conv => whnf
  refine call_x2 (fmtU_x u hu) (LeL.refl _) ?_
  rintro _ - rfl
  conv => whnf
  refine fin_e ?_
  conv => whnf
  exact ⟨trivial, rfl⟩

end Go.Proofs.YtankpibkakfnhaaDoor
namespace Go.Proofs.YtankpibkakfnhaaDoor
open Go Ar
variable {ml : GV}
set_option linter.unusedVariables false
set_option autoImplicit false
set_option maxHeartbeats 4000000
set_option maxRecDepth 100000

theorem decT_size (u : Nat) : (decT u).size = ndg u := by
  unfold decT decB
  rw [strOfNums_size, List.length_map, List.length_range]

theorem bt_strOfNums (l : List Int) (hl : ∀ x ∈ l, 0 ≤ x ∧ x < 256) (i : Nat) (hi : i < l.length) : bt (strOfNums l) i = l[i] := by
  have h := hl _ (List.getElem_mem hi)
  unfold bt strOfNums
  simp [hi]
  omega

theorem bt_dec {u i : Nat} (hi : i < ndg u) : bt (decT u) i = ((48 + dgt (ndg u) u i : Nat) : Int) := by
  unfold decT decB
  rw [bt_strOfNums _ (fun x hx => ?_) i (by rw [List.length_map, List.length_range]; exact hi), List.getElem_map, List.getElem_range]
  obtain ⟨j, -, rfl⟩ := List.mem_map.1 hx
  have : dgt (ndg u) u j < 10 := Nat.mod_lt _ (by decide)
  omega

/-- A row of bytes with a number's digits behind it. -/
def apD (n u : Nat) (f : Nat → Int) (j : Nat) : Int := if j < n then f j else ((48 + dgt (ndg u) u (j - n) : Nat) : Int)

theorem apD_s {n u i : Nat} {f : Nat → Int} (hi : i < n + ndg u) : appF n (fun i => Y (f i)) (fun i => AV.val (Value.int IntKind.u8 (bt (decT u) i))) i = Y (apD n u f i) := by
  unfold appF apD
  by_cases c : i < n
  · rw [if_pos c, if_pos c]
  · rw [if_neg c, if_neg c]; exact congrArg (fun x => Y x) (bt_dec (show i - n < ndg u by omega))

theorem apD_l {n u d i : Nat} {f : Nat → Int} (hi : i < n + ((d : Int).toNat - 0)) : appF n (fun i => Y (f i)) (fun i => dgV 0 d u (fun _ => 0) 0 (0 + i)) i = Y ((fun j => if j < n then f j else ((48 + dgt d u (j - n) : Nat) : Int)) i) := by
  unfold appF
  by_cases c : i < n
  · rw [if_pos c]; exact congrArg (fun x => Y x) (if_pos c).symm
  · rw [if_neg c]
    show Y (if 0 + 0 ≤ 0 + (i - n) ∧ 0 + (i - n) < 0 + d then ((48 + dgt d u (0 + (i - n) - 0) : Nat) : Int) else 0) = Y (if i < n then f i else _)
    rw [if_neg c, if_pos (by omega), Nat.zero_add, Nat.sub_zero]

theorem appU_x (u : Nat) (hu : u < 18446744073709551616) (n : Nat) (hn : n ≤ 1) (f : Nat → Int) : PureIX Tryd.prog (gl0 ml) internal_strconv_AppendUint [.sli 0 0 n 1 5, U (u : Nat), I 10] [(0, .box (.arr n 1 (fun i => Y (f i))))] 1 (fun r o1 n1 => ∃ k, (k = 1 ∨ k = 2) ∧ r = .sli k 0 (n + ndg u) 1 5 ∧ o1 = [(k, .box (.arr (n + ndg u) 1 (fun j => Y (apD n u f j))))] ∧ n1 = k + 1) := by
  refine pureI_fnX mixed fn_internal_strconv_AppendUint nt_internal_strconv_AppendUint hc_internal_strconv_AppendUint (by simp) (gl0n ml) ?_
  conv => whnf
  by_cases c : u < 100
  · refine br_true (decide_eq_true ((by omega : ((u : Nat) : Int) < 100))) ?_
    conv => whnf
    rw [show IntKind.i64.wrap ((u : Nat) : Int) = (u : Nat) from wrap_id (by unfold in64; omega)]
    refine call_x2 (small_x u c) (LeL.refl _) ?_
    rintro _ - rfl
    conv => whnf
    have hs := decT_size u
    have hd20 := ndg_le hu
    refine And.intro rfl ?_
    conv => whnf
    refine And.intro (by omega) ?_
    conv => whnf
    try rw [wpE_one]
    conv => whnf
    rw [hs]
    refine ⟨⟨[(6, .sli 1 0 (n + ndg u) 1 5)], [(1, .box (.arr (n + ndg u) 1 (fun j => Y (apD n u f j))))], 2, (le_st (le_r rfl) (leE_eq rfl (.inl (lt_r rfl)) trivial) (leO_box (lt_r rfl) rfl (LeA.arr (fun i hi => LeA.of_eq (apD_s hi)) ) (bnd_nf _ ( (fun i => trivial))) trivial) (gl0n ml)), ?_⟩⟩
    conv => whnf
    exact ⟨_, Le.refl _, 1, .inl rfl, rfl, rfl, rfl⟩
  · refine br_false (decide_eq_false ((by omega : ¬ (((u : Nat) : Int) < 100)))) ?_
    conv => whnf
    refine call_x2 (numDigits_x u (by omega) hu) (LeL.refl _) ?_
    rintro _ - rfl
    conv => whnf
    have hd := ndg_is hu
    have hd20 := ndg_le hu
    have hT : apD n u f = fun j => if j < n then f j else ((48 + dgt (ndg u) u (j - n) : Nat) : Int) := rfl
    rw [hT]
    generalize ndg u = d at hd hd20 ⊢
    have hp := hd.pos
    have hz : 0 + d = d := Nat.zero_add _
    repeat' first
      | (rw [wpE_one])
      | (refine And.intro (by omega) ?_; (conv => whnf))
      | fail
    refine call_l 1 (fmt10_i u 0 24 d hu hd.lt hp hd20 (by omega) (fun _ => 0)) rfl (LeA.refl _) (fun i => trivial) (il_1 ?_) ?_ rfl ?_
    · trivial
    · exact ⟨LeA.refl _ |>.le, LeA.refl _ |>.le, trivial⟩
    · rintro r _ _ ⟨⟨hr, hr'⟩, rfl, rfl⟩
      refine ⟨_, rfl, rfl, (fun i => trivial), hr, ?_⟩
      conv => whnf
      refine force_iff.2 ?_
      conv => whnf
      repeat' first
        | (rw [wpE_one])
        | (rw [ble_d hd20]; (conv => whnf))
        | (refine And.intro (by first | omega | decide | exact fun i hi => ⟨_, rfl⟩ | fail) ?_; (conv => whnf))
        | fail
      refine ⟨⟨[(6, .sli 2 0 (n + d) 1 5)], [(2, .box (.arr (n + d) 1 (fun j => Y ((fun j => if j < n then f j else ((48 + dgt d u (j - n) : Nat) : Int)) j))))], 3, (le_st (le_r rfl) (leE_eq rfl (.inl (lt_r rfl)) trivial) (leO_box (lt_r rfl) rfl (LeA.arr (fun i hi => LeA.of_eq (apD_l hi)) ) (bnd_nf _ ( (fun i => trivial))) trivial) (gl0n ml)), ?_⟩⟩
      conv => whnf
      exact ⟨_, Le.refl _, 2, .inr rfl, rfl, rfl, rfl⟩

end Go.Proofs.YtankpibkakfnhaaDoor
namespace Go.Proofs.YtankpibkakfnhaaDoor
open Go Ar
variable {ml : GV}
set_option linter.unusedVariables false
set_option autoImplicit false
set_option maxHeartbeats 4000000
set_option maxRecDepth 100000

theorem appUS_x (u : Nat) (hu : u < 18446744073709551616) (n : Nat) (hn : n ≤ 1) (f : Nat → Int) : PureIX Tryd.prog (gl0 ml) strconv_AppendUint [.sli 0 0 n 1 5, U (u : Nat), I 10] [(0, .box (.arr n 1 (fun i => Y (f i))))] 1 (fun r o1 n1 => ∃ k, (k = 2 ∨ k = 3) ∧ r = .sli k 0 (n + ndg u) 1 5 ∧ o1 = [(k, .box (.arr (n + ndg u) 1 (fun j => Y (apD n u f j))))] ∧ n1 = k + 1) := by
  refine pureI_fnX mixed fn_strconv_AppendUint nt_strconv_AppendUint hc_strconv_AppendUint (by simp) (gl0n ml) ?_
  conv => whnf
  refine call_g 0 (appU_x u hu n hn f) rfl rfl (LeA.refl _) (fun i => trivial) ?_ ?_ ?_
  · exact fun a ha => by
      rcases List.mem_cons.1 ha with rfl | ha
      · exact .inl (by decide)
      · rcases List.mem_cons.1 ha with rfl | ha
        · exact il_nf _ trivial
        · rcases List.mem_cons.1 ha with rfl | ha
          · exact il_nf _ trivial
          · cases ha
  · exact ⟨LeA.refl _ |>.le, LeA.refl _ |>.le, LeA.refl _ |>.le, trivial⟩
  · rintro r o1 n1 ⟨k, hk, rfl, rfl, rfl⟩
    rcases hk with rfl | rfl
    · refine ⟨⟨⟨.inl (by decide), fun i => trivial⟩, trivial⟩, trivial, rfl, ?_⟩
      conv => whnf
      try rw [wpE_one]
      conv => whnf
      refine ⟨⟨[(6, .sli 2 0 (n + ndg u) 1 5)], [(2, .box (.arr (n + ndg u) 1 (fun j => Y (apD n u f j))))], 3, (le_st (le_r rfl) (leE_eq rfl (.inl (lt_r rfl)) trivial) (leO_box (lt_r rfl) rfl (LeA.refl _ ) (bnd_nf _ ( (fun i => trivial))) trivial) (gl0n ml)), ?_⟩⟩
      conv => whnf
      exact ⟨_, Le.refl _, 2, .inl rfl, rfl, rfl, rfl⟩
    · refine ⟨⟨⟨.inl (by decide), fun i => trivial⟩, trivial⟩, trivial, rfl, ?_⟩
      conv => whnf
      try rw [wpE_one]
      conv => whnf
      refine ⟨⟨[(6, .sli 3 0 (n + ndg u) 1 5)], [(3, .box (.arr (n + ndg u) 1 (fun j => Y (apD n u f j))))], 4, (le_st (le_r rfl) (leE_eq rfl (.inl (lt_r rfl)) trivial) (leO_box (lt_r rfl) rfl (LeA.refl _ ) (bnd_nf _ ( (fun i => trivial))) trivial) (gl0n ml)), ?_⟩⟩
      conv => whnf
      exact ⟨_, Le.refl _, 3, .inr rfl, rfl, rfl, rfl⟩

theorem mag_x (x : Int) (hx : in64 x) : PureX Tryd.prog (gl0 ml) money_magnitude [I x] (fun r => r = U (x.natAbs : Nat)) := by
  refine pure_fnX mixed fn_money_magnitude nt_money_magnitude hc_money_magnitude (by simp) (gl0n ml) (by simp [nf]) ?_
  unfold in64 at hx
  conv => whnf
  by_cases c : x < 0
  · refine br_true (decide_eq_true (c)) ?_
    conv => whnf
    refine fin_e ?_
    conv => whnf
    refine ⟨trivial, congrArg (fun n => U n) ?_⟩
    show (0 - x % 18446744073709551616) % 18446744073709551616 = (x.natAbs : Int)
    omega
  · refine br_false (decide_eq_false (c)) ?_
    conv => whnf
    refine fin_e ?_
    conv => whnf
    refine ⟨trivial, congrArg (fun n => U n) ?_⟩
    show x % 18446744073709551616 = (x.natAbs : Int)
    omega

theorem size_x (x : Int) (hx : in64 x) : PureX Tryd.prog (gl0 ml) r1_size [I x] (fun r => r = U (x.natAbs : Nat)) := by
  refine pure_fnX mixed fn_r1_size nt_r1_size hc_r1_size (by simp) (gl0n ml) (by simp [nf]) ?_
  unfold in64 at hx
  conv => whnf
  by_cases c : x < 0
  · refine br_true (decide_eq_true (c)) ?_
    conv => whnf
    refine fin_e ?_
    conv => whnf
    refine ⟨trivial, congrArg (fun n => U n) ?_⟩
    rw [wrap_id (n := x + 1) (by unfold in64; omega), wrap_id (n := 0 - (x + 1)) (by unfold in64; omega)]
    show ((0 - (x + 1)) % 18446744073709551616 + 1) % 18446744073709551616 = (x.natAbs : Int)
    omega
  · refine br_false (decide_eq_false (c)) ?_
    conv => whnf
    refine fin_e ?_
    conv => whnf
    refine ⟨trivial, congrArg (fun n => U n) ?_⟩
    show x % 18446744073709551616 = (x.natAbs : Int)
    omega

end Go.Proofs.YtankpibkakfnhaaDoor
