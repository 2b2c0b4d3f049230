/- The division of 128 bits by the program's library. No condition. -/
import Derived.Test.YtdjmplfjpnikkaaB2
import Derived.Test.YtdjmplfjpnikkaaB1
set_option linter.all false
namespace Go.Proofs.Ytdjmplfjpnikkaa
open Go Ar
set_option linter.unusedVariables false
set_option autoImplicit false
set_option maxHeartbeats 4000000
set_option maxRecDepth 100000

theorem bits_lz_x (x : Nat) (hx : x < 18446744073709551616) (h0 : 0 < x) : PureX Try.prog gl0 math_bits_LeadingZeros64 [U (x : Nat)] (fun r => ∃ s, r = I (s : Nat) ∧ s ≤ 63 ∧ 9223372036854775808 ≤ x * 2 ^ s ∧ x * 2 ^ s < 18446744073709551616) := by
  refine pure_fnX mixed fn_math_bits_LeadingZeros64 nt_math_bits_LeadingZeros64 hc_math_bits_LeadingZeros64 (by simp) gl0n (by simp [nf]) ?_
  refine call_x2 (bits_Len64_x x hx) (LeL.refl _) ?_
  rintro _ - ⟨L, rfl, hL, hL2⟩
  conv => whnf
  refine fin_e ?_
  conv => whnf
  obtain ⟨h1, h2⟩ := hL.lo h0
  refine ⟨trivial, 64 - L, congrArg (fun n => I n) (by rw [wrap_id (by unfold in64; omega)]; omega), by omega, ?_, ?_⟩
  · have e : 9223372036854775808 = 2 ^ (L - 1) * 2 ^ (64 - L) := by rw [← Nat.pow_add, show L - 1 + (64 - L) = 63 by omega]
    rw [e]
    exact Nat.mul_le_mul_right _ h2
  · have e : 18446744073709551616 = 2 ^ L * 2 ^ (64 - L) := by rw [← Nat.pow_add, show L + (64 - L) = 64 by omega]
    rw [e]
    exact Nat.mul_lt_mul_of_pos_right hL.hi (Nat.two_pow_pos _)

theorem shlN {x s : Nat} (h : x * 2 ^ s < 18446744073709551616) (hs : s ≤ 64) : IntKind.u64.wrap ((x : Int) * 2 ^ min (Int.toNat (s : Int)) IntKind.u64.bits) = ((x * 2 ^ s : Nat) : Int) := by
  have e : min (Int.toNat (s : Int)) IntKind.u64.bits = s := by
    show min s 64 = s
    omega
  rw [e]
  have e2 : (x : Int) * 2 ^ s = ((x * 2 ^ s : Nat) : Int) := by simp
  rw [e2]
  exact wrapN _ h

theorem shrN {x s : Nat} (hs : s ≤ 64) : (x : Int).fdiv (2 ^ min (Int.toNat (s : Int)) IntKind.u64.bits) = ((x / 2 ^ s : Nat) : Int) := by
  have e : min (Int.toNat (s : Int)) IntKind.u64.bits = s := by
    show min s 64 = s
    omega
  rw [e, Int.fdiv_eq_ediv_of_nonneg _ (Int.le_of_lt (Int.pow_pos (by decide)))]
  simp

theorem orN {x y s : Nat} (h : y < 2 ^ s) (hx : x * 2 ^ s < 18446744073709551616) (hs : s ≤ 63) : IntKind.u64.wrap (BitVec.ofInt IntKind.u64.bits ((x * 2 ^ s : Nat) : Int) ||| BitVec.ofInt IntKind.u64.bits (y : Int)).toNat = ((x * 2 ^ s + y : Nat) : Int) := by
  have hp : 2 ^ s ≤ 2 ^ 63 := Nat.pow_le_pow_right (by decide) hs
  have hy : y < 18446744073709551616 := by omega
  have h1 := bits_or_u64_nat (x * 2 ^ s) y hx hy
  have e : x * 2 ^ s ||| y = x * 2 ^ s + y := by rw [Nat.mul_comm, ← Nat.two_pow_add_eq_or_of_lt h]
  rw [e] at h1
  exact h1

theorem quoN {u a : Nat} (hu : u < 18446744073709551616) : IntKind.u64.wrap ((u : Int).tdiv (a : Int)) = ((u / a : Nat) : Int) := by
  rw [Int.tdiv_eq_ediv_of_nonneg (by omega), ← Int.natCast_ediv]
  exact wrapN _ (Nat.lt_of_le_of_lt (Nat.div_le_self _ _) hu)

theorem remN {u a : Nat} (hu : u < 18446744073709551616) : IntKind.u64.wrap ((u : Int) - IntKind.u64.wrap (((u / a : Nat) : Int) * (a : Int))) = ((u % a : Nat) : Int) := by
  have e := Nat.div_add_mod u a
  rw [Nat.mul_comm] at e
  have h1 : u / a * a ≤ u := Nat.div_mul_le_self u a
  rw [mulN, wrapN _ (Nat.lt_of_le_of_lt h1 hu)]
  generalize u / a * a = t at *
  rw [wrap_u64]
  omega

theorem halves {Y : Nat} (h1 : 9223372036854775808 ≤ Y) (h2 : Y < 18446744073709551616) : Y / 4294967296 * 4294967296 + Y % 4294967296 = Y ∧ 2147483648 ≤ Y / 4294967296 ∧ Y / 4294967296 < 4294967296 ∧ Y % 4294967296 < 4294967296 := by omega
theorem halves0 {v : Nat} (h2 : v < 18446744073709551616) : v / 4294967296 * 4294967296 + v % 4294967296 = v ∧ v / 4294967296 < 4294967296 ∧ v % 4294967296 < 4294967296 := by omega

theorem kn_e {x d : Nat} (hx : x < 4294967296) (hd : d < 4294967296) : IntKind.u64.wrap (IntKind.u64.wrap (4294967296 * (x : Int)) + (d : Nat)) = ((x * 4294967296 + d : Nat) : Int) := by
  rw [wrapu_id (n := 4294967296 * (x : Int)) (by unfold inU64; omega), wrapu_id (by unfold inU64; omega)]; omega
theorem kn_p {x b : Nat} (hx : x < 4294967296) (hb : b < 4294967296) : IntKind.u64.wrap ((x : Int) * (b : Nat)) = ((x * b : Nat) : Int) := by
  rw [mulN]
  have : x * b ≤ 4294967295 * 4294967295 := Nat.mul_le_mul (by omega) (by omega)
  exact wrapN _ (by omega)
theorem kn_q {q : Nat} (h0 : 0 < q) (h : q ≤ 4294967297) : IntKind.u64.wrap ((q : Int) - 1) = ((q - 1 : Nat) : Int) := by rw [wrapu_id (by unfold inU64; omega)]; omega
theorem kn_r {r a : Nat} (hr : r < 4294967296) (ha : a < 4294967296) : IntKind.u64.wrap ((r : Int) + (a : Nat)) = ((r + a : Nat) : Int) := by rw [wrapu_id (by unfold inU64; omega)]; omega

theorem kn_un {u d Y q u2 : Nat} (hu2 : u2 = (u * 4294967296 + d) % Y) (hq : q = (u * 4294967296 + d) / Y) (hY : 0 < Y) (hY2 : Y < 18446744073709551616) : IntKind.u64.wrap (IntKind.u64.wrap (IntKind.u64.wrap ((u : Int) * 4294967296) + (d : Nat)) - IntKind.u64.wrap ((q : Int) * (Y : Nat))) = (u2 : Int) := by
  have e := Nat.div_add_mod (u * 4294967296 + d) Y
  rw [← hq, ← hu2, Nat.mul_comm] at e
  have h : u2 < Y := hu2 ▸ Nat.mod_lt _ hY
  clear hq hu2
  rw [mulN q Y]
  generalize q * Y = t at *
  rw [wrap_u64, wrap_u64, wrap_u64, wrap_u64]
  omega

theorem kn_64 (u d1 d0 : Nat) : u * 18446744073709551616 + (d1 * 4294967296 + d0) = (u * 4294967296 + d1) * 4294967296 + d0 := by omega

theorem kn_fin {N y s Y u v d1 d0 q1 u2 q2 : Nat} (hY : y * 2 ^ s = Y) (hy : 0 < y) (hv : d1 * 4294967296 + d0 = v) (hbig : N * 2 ^ s = u * 18446744073709551616 + v)
    (h1 : q1 = (u * 4294967296 + d1) / Y) (h2 : u2 = (u * 4294967296 + d1) % Y) (h3 : q2 = (u2 * 4294967296 + d0) / Y) :
    q1 * 4294967296 + q2 = N / y ∧ (u2 * 4294967296 + d0) % Y / 2 ^ s = N % y := by
  have hY0 : 0 < Y := hY ▸ Nat.mul_pos hy (Nat.two_pow_pos s)
  obtain ⟨t1, t2⟩ := two_digits u d1 d0 Y hY0
  obtain ⟨b1, b2⟩ := shift_back N y s hy
  have e : N * 2 ^ s = (u * 4294967296 + d1) * 4294967296 + d0 := by rw [hbig, ← hv]; exact kn_64 u d1 d0
  rw [hY, e] at b1 b2
  subst h3; subst h1; subst h2
  exact ⟨t1.symm.trans b1, by rw [← t2]; exact b2⟩

theorem kn_hi {q1 q2 n : Nat} (h : q1 * 4294967296 + q2 = n) (hn : n < 18446744073709551616) : IntKind.u64.wrap (IntKind.u64.wrap ((q1 : Int) * 4294967296) + (q2 : Nat)) = (n : Int) := by
  rw [wrap_u64, wrap_u64]; omega

theorem kn_low {u2 d0 q2 Y s R : Nat} (hq : q2 = (u2 * 4294967296 + d0) / Y) (hY : 0 < Y) (hY2 : Y < 18446744073709551616) (hs : s ≤ 63) (hR : (u2 * 4294967296 + d0) % Y / 2 ^ s = R) :
    (IntKind.u64.wrap (IntKind.u64.wrap (IntKind.u64.wrap ((u2 : Int) * 4294967296) + (d0 : Nat)) - IntKind.u64.wrap ((q2 : Int) * (Y : Nat)))).fdiv (2 ^ min (Int.toNat (s : Int)) IntKind.u64.bits) = (R : Int) := by
  obtain ⟨x, hx⟩ : ∃ x, x = (u2 * 4294967296 + d0) % Y := ⟨_, rfl⟩
  rw [kn_un hx hq hY hY2, shrN (by omega)]
  rw [← hx] at hR
  rw [hR]

theorem bits_Div64_x (hi lo y : Nat) (hlo : lo < 18446744073709551616) (hy : y < 18446744073709551616) (hh : hi < y) : PureX Try.prog gl0 math_bits_Div64 [U (hi : Nat), U (lo : Nat), U (y : Nat)] (fun r => r = tup2 (U ((hi * 18446744073709551616 + lo) / y : Nat)) (U ((hi * 18446744073709551616 + lo) % y : Nat))) := by
  refine pure_fnX mixed fn_math_bits_Div64 nt_math_bits_Div64 hc_math_bits_Div64 (by simp) gl0n (by simp [nf]) ?_
  conv => whnf
  refine br_false (decide_eq_false ((by omega : ¬ ((y : Nat) : Int) = 0))) ?_
  conv => whnf
  refine br_false (decide_eq_false ((by omega : ¬ ((y : Nat) : Int) ≤ (hi : Nat)))) ?_
  conv => whnf
  by_cases c0 : hi = 0
  · refine br_true (decide_eq_true ((by omega : ((hi : Nat) : Int) = 0))) ?_
    conv => whnf
    refine ⟨by omega, ?_⟩
    conv => whnf
    refine ⟨by omega, ?_⟩
    conv => whnf
    refine fin_e ?_
    conv => whnf
    subst c0
    refine ⟨by simp [packA, consL, nf], ?_⟩
    rw [Nat.zero_mul, Nat.zero_add, Int.tdiv_eq_ediv_of_nonneg (by omega), Int.tmod_eq_emod_of_nonneg (by omega), ← Int.natCast_ediv, ← Int.natCast_emod, wrapN _ (Nat.lt_of_le_of_lt (Nat.div_le_self _ _) hlo)]
    rfl
  · refine br_false (decide_eq_false ((by omega : ¬ ((hi : Nat) : Int) = 0))) ?_
    conv => whnf
    refine call_x2 (bits_lz_x y hy (by omega)) (LeL.refl _) ?_
    rintro _ - ⟨s, rfl, hs, h1, h2⟩
    conv => whnf
    have ws : IntKind.u64.wrap (s : Int) = (s : Nat) := wrapN s (by omega)
    rw [ws]
    refine ⟨by omega, ?_⟩
    conv => whnf
    rw [shlN h2 (by omega)]
    generalize hY : y * 2 ^ s = Y at h1 h2 ⊢
    have w64 : IntKind.u64.wrap (64 - (s : Int)) = ((64 - s : Nat) : Int) := by rw [wrapu_id (by unfold inU64; omega)]; omega
    have hYa : (Y : Int).fdiv (2 ^ min (Int.toNat 32) IntKind.u64.bits) = ((Y / 4294967296 : Nat) : Int) := shr32 Y
    have hhs : hi * 2 ^ s < Y := by rw [← hY]; exact Nat.mul_lt_mul_of_pos_right hh (Nat.two_pow_pos s)
    repeat' first
      | (refine And.intro (by first | omega | (rw [w64]; omega) | (rw [hYa]; omega)) ?_; (conv => whnf))
    have hlo64 : lo / 2 ^ (64 - s) < 2 ^ s := by
      rw [Nat.div_lt_iff_lt_mul (Nat.two_pow_pos _), ← Nat.pow_add, show s + (64 - s) = 64 by omega]
      exact hlo
    have hu : hi * 2 ^ s + lo / 2 ^ (64 - s) < Y := by
      have : hi * 2 ^ s + 2 ^ s ≤ Y := by
        rw [← hY, ← Nat.succ_mul]
        exact Nat.mul_le_mul_right _ hh
      omega
    have e11 : IntKind.u64.wrap (BitVec.ofInt IntKind.u64.bits (IntKind.u64.wrap ((hi : Int) * 2 ^ min (Int.toNat (s : Int)) IntKind.u64.bits)) ||| BitVec.ofInt IntKind.u64.bits ((lo : Int).fdiv (2 ^ min (Int.toNat (IntKind.u64.wrap (64 - (s : Int)))) IntKind.u64.bits))).toNat = ((hi * 2 ^ s + lo / 2 ^ (64 - s) : Nat) : Int) := by
      rw [shlN (by omega) (by omega), w64, shrN (by omega)]
      exact orN hlo64 (by omega) hs
    have e12 : IntKind.u64.wrap ((lo : Int) * 2 ^ min (Int.toNat (s : Int)) IntKind.u64.bits) = ((lo * 2 ^ s % 18446744073709551616 : Nat) : Int) := by
      have e : min (Int.toNat (s : Int)) IntKind.u64.bits = s := by
        show min s 64 = s
        omega
      rw [e, show (lo : Int) * 2 ^ s = ((lo * 2 ^ s : Nat) : Int) by simp, wrapM]
    have hw : lo * 2 ^ s % 18446744073709551616 < 18446744073709551616 := Nat.mod_lt _ (by decide)
    have hbig : (hi * 18446744073709551616 + lo) * 2 ^ s = (hi * 2 ^ s + lo / 2 ^ (64 - s)) * 18446744073709551616 + lo * 2 ^ s % 18446744073709551616 := by
      have e1 : lo * 2 ^ s / 18446744073709551616 = lo / 2 ^ (64 - s) := by
        have e2 : 18446744073709551616 = 2 ^ (64 - s) * 2 ^ s := by rw [← Nat.pow_add, show 64 - s + s = 64 by omega]
        rw [e2, Nat.mul_div_mul_right _ _ (Nat.two_pow_pos s)]
      have e3 := Nat.div_add_mod (lo * 2 ^ s) 18446744073709551616
      rw [e1] at e3
      rw [Nat.add_mul, Nat.add_mul, Nat.mul_right_comm]
      omega
    rw [e11, e12, hYa, and_mask Y h2, shr32, and_mask _ hw]
    generalize hi * 2 ^ s + lo / 2 ^ (64 - s) = u at hu hbig ⊢
    generalize lo * 2 ^ s % 18446744073709551616 = v at hw hbig ⊢
    obtain ⟨hYe, ha1, ha2, hb1⟩ := halves h1 h2
    obtain ⟨hve, hd1, hd0⟩ := halves0 hw
    have hu64 : u < 18446744073709551616 := Nat.lt_trans hu h2
    clear e11 e12 hYa w64 ws hlo64 hhs
    generalize Y / 4294967296 = a at *
    generalize Y % 4294967296 = b at *
    generalize v / 4294967296 = d1 at *
    generalize v % 4294967296 = d0 at *
    have g1 : KnG u d1 a b := ⟨ha1, ha2, hb1, hd1, by omega⟩
    have hN : (hi * 18446744073709551616 + lo) / y < 18446744073709551616 := by
      rw [Nat.div_lt_iff_lt_mul (by omega)]
      have : (hi + 1) * 18446744073709551616 ≤ y * 18446744073709551616 := Nat.mul_le_mul_right _ hh
      rw [Nat.mul_comm]
      omega
    refine loop_at mixed (fun (z : Nat × Nat) => ([(15, U z.1), (16, U z.2), (8, U s), (9, U a), (10, U b), (11, U u), (13, U d1), (14, U d0), (2, U Y)], [], 0)) (fun z => Kn u d1 a b z.1 z.2 ∧ z.2 < 4294967296) (fun z => z.1) (u / a, u % a) ⟨g1.first, by have := Nat.mod_lt u (show 0 < a by omega); show u % a < 4294967296; omega⟩ (le_st (le_r rfl) (leE_i rfl (quoN hu64) (leE_i rfl ((by rw [quoN hu64]; exact remN hu64)) (leE_i rfl rfl (leE_i rfl rfl (leE_i rfl rfl (leE_i rfl rfl (leE_i rfl rfl (leE_i rfl rfl (leE_i rfl rfl trivial))))))))) trivial gl0n) ?_
    rintro ⟨q, r⟩ ⟨hk, hr⟩
    dsimp only at hk hr ⊢
    conv => whnf
    obtain ⟨x1, hx1⟩ : ∃ x, x = q * b := ⟨_, rfl⟩
    obtain ⟨x2, hx2⟩ : ∃ x, x = r * 4294967296 + d1 := ⟨_, rfl⟩
    have k1 : q < 4294967296 → IntKind.u64.wrap ((q : Int) * (b : Nat)) = (x1 : Int) := fun h => by rw [hx1]; exact kn_p h hb1
    have k2 : IntKind.u64.wrap (IntKind.u64.wrap (4294967296 * (r : Int)) + (d1 : Nat)) = (x2 : Int) := by rw [hx2]; exact kn_e hr hd1
    by_cases cA : q ≥ 4294967296 ∨ q * b > r * 4294967296 + d1
    · obtain ⟨p0, p1, p2⟩ := hk.step g1 cA
      have hq0 := hk.le
      have eq1 := kn_q p0 hq0
      have er1 := kn_r hr ha2
      have hlt : q - 1 < q := by omega
      by_cases c1 : q ≥ 4294967296
      · refine br_true (decide_eq_true ((by omega : ((q : Nat) : Int) ≥ 4294967296))) ?_
        conv => whnf
        rw [er1]
        obtain ⟨qq, hqq⟩ : ∃ x, x = q - 1 := ⟨_, rfl⟩
        obtain ⟨rr, hrr⟩ : ∃ x, x = r + a := ⟨_, rfl⟩
        rw [← hqq] at p1 p2 eq1 hlt
        rw [← hrr] at p2 er1
        rw [← hrr]
        by_cases c3 : 4294967296 ≤ rr
        · refine br_true (decide_eq_true ((by omega : ((rr : Nat) : Int) ≥ 4294967296))) ?_
          conv => whnf
          have hQ := p2.wide g1 p1 c3
          rw [eq1]
          rw [hYe] at hQ
          have hQ1 := hQ
          clear hQ
          obtain ⟨u2, hu2⟩ : ∃ x, x = (u * 4294967296 + d1) % Y := ⟨_, rfl⟩
          have ku := kn_un hu2 hQ1 (by omega) h2
          have hu2Y : u2 < Y := hu2 ▸ Nat.mod_lt _ (by omega)
          have hu264 : u2 < 18446744073709551616 := Nat.lt_trans hu2Y h2
          rw [ku]
          have g2 : KnG u2 d0 a b := ⟨ha1, ha2, hb1, hd0, by omega⟩
          refine And.intro (by omega) ?_
          conv => whnf
          refine loop_at mixed (fun (z : Nat × Nat) => ([(18, U z.1), (16, U z.2), (15, U qq), (8, U s), (9, U a), (10, U b), (14, U d0), (17, U u2), (2, U Y)], [], 0)) (fun z => Kn u2 d0 a b z.1 z.2 ∧ z.2 < 4294967296) (fun z => z.1) (u2 / a, u2 % a) ⟨g2.first, by have := Nat.mod_lt u2 (show 0 < a by omega); show u2 % a < 4294967296; omega⟩ (le_st (le_r rfl) (leE_i rfl (quoN hu264) (leE_i rfl ((by rw [quoN hu264]; exact remN hu264)) (leE_i rfl rfl (leE_i rfl rfl (leE_i rfl rfl (leE_i rfl rfl (leE_i rfl rfl (leE_i rfl rfl (leE_i rfl rfl trivial))))))))) trivial gl0n) ?_
          rintro ⟨z, w⟩ ⟨hk2, hw2⟩
          dsimp only at hk2 hw2 ⊢
          conv => whnf
          obtain ⟨x1, hx1⟩ : ∃ x, x = z * b := ⟨_, rfl⟩
          obtain ⟨x2, hx2⟩ : ∃ x, x = w * 4294967296 + d0 := ⟨_, rfl⟩
          have k1 : z < 4294967296 → IntKind.u64.wrap ((z : Int) * (b : Nat)) = (x1 : Int) := fun h => by rw [hx1]; exact kn_p h hb1
          have k2 : IntKind.u64.wrap (IntKind.u64.wrap (4294967296 * (w : Int)) + (d0 : Nat)) = (x2 : Int) := by rw [hx2]; exact kn_e hw2 hd0
          by_cases cA : z ≥ 4294967296 ∨ z * b > w * 4294967296 + d0
          · obtain ⟨p0, p1, p2⟩ := hk2.step g2 cA
            have hq0 := hk2.le
            have eq1 := kn_q p0 hq0
            have er1 := kn_r hw2 ha2
            have hlt : z - 1 < z := by omega
            by_cases c1 : z ≥ 4294967296
            · refine br_true (decide_eq_true ((by omega : ((z : Nat) : Int) ≥ 4294967296))) ?_
              conv => whnf
              rw [er1]
              obtain ⟨qz, hqz⟩ : ∃ x, x = z - 1 := ⟨_, rfl⟩
              obtain ⟨rz, hrz⟩ : ∃ x, x = w + a := ⟨_, rfl⟩
              rw [← hqz] at p1 p2 eq1 hlt
              rw [← hrz] at p2 er1
              rw [← hrz]
              by_cases c3 : 4294967296 ≤ rz
              · refine br_true (decide_eq_true ((by omega : ((rz : Nat) : Int) ≥ 4294967296))) ?_
                conv => whnf
                have hQ := p2.wide g2 p1 c3
                rw [eq1]
                rw [hYe] at hQ
                obtain ⟨f1, f2⟩ := kn_fin hY (by omega) hve hbig hQ1 hu2 hQ
                refine And.intro (by omega) ?_
                conv => whnf
                refine fin_e ?_
                conv => whnf
                refine ⟨by simp [packA, consL, nf], ?_⟩
                show tup2 (U (IntKind.u64.wrap (IntKind.u64.wrap ((qq : Int) * 4294967296) + (qz : Nat)))) (U ((IntKind.u64.wrap (IntKind.u64.wrap (IntKind.u64.wrap ((u2 : Int) * 4294967296) + (d0 : Nat)) - IntKind.u64.wrap ((qz : Int) * (Y : Nat)))).fdiv (2 ^ min (Int.toNat (s : Int)) IntKind.u64.bits))) = _
                rw [kn_hi f1 hN, kn_low hQ (by omega) h2 hs f2]
              · refine br_false (decide_eq_false ((by omega : ¬ ((rz : Nat) : Int) ≥ 4294967296))) ?_
                conv => whnf
                exact ⟨(qz, rz), ⟨p2, by show rz < 4294967296; omega⟩, by show qz < z; exact hlt, (le_st (le_r rfl) (leE_i rfl (eq1) (leE_i rfl rfl (leE_i rfl rfl (leE_i rfl rfl (leE_i rfl rfl (leE_i rfl rfl (leE_i rfl rfl (leE_i rfl rfl (leE_i rfl rfl trivial))))))))) trivial gl0n)⟩
            · refine br_false (decide_eq_false ((by omega : ¬ ((z : Nat) : Int) ≥ 4294967296))) ?_
              conv => whnf
              have c2 : x1 > x2 := by rw [hx1, hx2]; exact cA.resolve_left c1
              rw [k2, k1 (by omega)]
              clear cA
              refine br_true (decide_eq_true ((by omega : ((x1 : Nat) : Int) > (x2 : Nat)))) ?_
              conv => whnf
              rw [er1]
              obtain ⟨qz, hqz⟩ : ∃ x, x = z - 1 := ⟨_, rfl⟩
              obtain ⟨rz, hrz⟩ : ∃ x, x = w + a := ⟨_, rfl⟩
              rw [← hqz] at p1 p2 eq1 hlt
              rw [← hrz] at p2 er1
              rw [← hrz]
              by_cases c3 : 4294967296 ≤ rz
              · refine br_true (decide_eq_true ((by omega : ((rz : Nat) : Int) ≥ 4294967296))) ?_
                conv => whnf
                have hQ := p2.wide g2 p1 c3
                rw [eq1]
                rw [hYe] at hQ
                obtain ⟨f1, f2⟩ := kn_fin hY (by omega) hve hbig hQ1 hu2 hQ
                refine And.intro (by omega) ?_
                conv => whnf
                refine fin_e ?_
                conv => whnf
                refine ⟨by simp [packA, consL, nf], ?_⟩
                show tup2 (U (IntKind.u64.wrap (IntKind.u64.wrap ((qq : Int) * 4294967296) + (qz : Nat)))) (U ((IntKind.u64.wrap (IntKind.u64.wrap (IntKind.u64.wrap ((u2 : Int) * 4294967296) + (d0 : Nat)) - IntKind.u64.wrap ((qz : Int) * (Y : Nat)))).fdiv (2 ^ min (Int.toNat (s : Int)) IntKind.u64.bits))) = _
                rw [kn_hi f1 hN, kn_low hQ (by omega) h2 hs f2]
              · refine br_false (decide_eq_false ((by omega : ¬ ((rz : Nat) : Int) ≥ 4294967296))) ?_
                conv => whnf
                exact ⟨(qz, rz), ⟨p2, by show rz < 4294967296; omega⟩, by show qz < z; exact hlt, (le_st (le_r rfl) (leE_i rfl (eq1) (leE_i rfl rfl (leE_i rfl rfl (leE_i rfl rfl (leE_i rfl rfl (leE_i rfl rfl (leE_i rfl rfl (leE_i rfl rfl (leE_i rfl rfl trivial))))))))) trivial gl0n)⟩
          · have c2 : ¬ x1 > x2 := by rw [hx1, hx2]; exact fun h => cA (.inr h)
            have hQ := hk2.fits g2 (by rw [← hx1, ← hx2]; exact Nat.le_of_not_gt c2)
            refine br_false (decide_eq_false ((fun h => cA (.inl (by omega)) : ¬ ((z : Nat) : Int) ≥ 4294967296))) ?_
            conv => whnf
            rw [k2, k1 (Nat.lt_of_not_ge fun h => cA (.inl h))]
            clear cA
            refine br_false (decide_eq_false ((by omega : ¬ ((x1 : Nat) : Int) > (x2 : Nat)))) ?_
            conv => whnf
            rw [hYe] at hQ
            obtain ⟨f1, f2⟩ := kn_fin hY (by omega) hve hbig hQ1 hu2 hQ
            refine And.intro (by omega) ?_
            conv => whnf
            refine fin_e ?_
            conv => whnf
            refine ⟨by simp [packA, consL, nf], ?_⟩
            show tup2 (U (IntKind.u64.wrap (IntKind.u64.wrap ((qq : Int) * 4294967296) + (z : Nat)))) (U ((IntKind.u64.wrap (IntKind.u64.wrap (IntKind.u64.wrap ((u2 : Int) * 4294967296) + (d0 : Nat)) - IntKind.u64.wrap ((z : Int) * (Y : Nat)))).fdiv (2 ^ min (Int.toNat (s : Int)) IntKind.u64.bits))) = _
            rw [kn_hi f1 hN, kn_low hQ (by omega) h2 hs f2]
        · refine br_false (decide_eq_false ((by omega : ¬ ((rr : Nat) : Int) ≥ 4294967296))) ?_
          conv => whnf
          exact ⟨(qq, rr), ⟨p2, by show rr < 4294967296; omega⟩, by show qq < q; exact hlt, (le_st (le_r rfl) (leE_i rfl (eq1) (leE_i rfl rfl (leE_i rfl rfl (leE_i rfl rfl (leE_i rfl rfl (leE_i rfl rfl (leE_i rfl rfl (leE_i rfl rfl (leE_i rfl rfl trivial))))))))) trivial gl0n)⟩
      · refine br_false (decide_eq_false ((by omega : ¬ ((q : Nat) : Int) ≥ 4294967296))) ?_
        conv => whnf
        have c2 : x1 > x2 := by rw [hx1, hx2]; exact cA.resolve_left c1
        rw [k2, k1 (by omega)]
        clear cA
        refine br_true (decide_eq_true ((by omega : ((x1 : Nat) : Int) > (x2 : Nat)))) ?_
        conv => whnf
        rw [er1]
        obtain ⟨qq, hqq⟩ : ∃ x, x = q - 1 := ⟨_, rfl⟩
        obtain ⟨rr, hrr⟩ : ∃ x, x = r + a := ⟨_, rfl⟩
        rw [← hqq] at p1 p2 eq1 hlt
        rw [← hrr] at p2 er1
        rw [← hrr]
        by_cases c3 : 4294967296 ≤ rr
        · refine br_true (decide_eq_true ((by omega : ((rr : Nat) : Int) ≥ 4294967296))) ?_
          conv => whnf
          have hQ := p2.wide g1 p1 c3
          rw [eq1]
          rw [hYe] at hQ
          have hQ1 := hQ
          clear hQ
          obtain ⟨u2, hu2⟩ : ∃ x, x = (u * 4294967296 + d1) % Y := ⟨_, rfl⟩
          have ku := kn_un hu2 hQ1 (by omega) h2
          have hu2Y : u2 < Y := hu2 ▸ Nat.mod_lt _ (by omega)
          have hu264 : u2 < 18446744073709551616 := Nat.lt_trans hu2Y h2
          rw [ku]
          have g2 : KnG u2 d0 a b := ⟨ha1, ha2, hb1, hd0, by omega⟩
          refine And.intro (by omega) ?_
          conv => whnf
          refine loop_at mixed (fun (z : Nat × Nat) => ([(18, U z.1), (16, U z.2), (15, U qq), (8, U s), (9, U a), (10, U b), (14, U d0), (17, U u2), (2, U Y)], [], 0)) (fun z => Kn u2 d0 a b z.1 z.2 ∧ z.2 < 4294967296) (fun z => z.1) (u2 / a, u2 % a) ⟨g2.first, by have := Nat.mod_lt u2 (show 0 < a by omega); show u2 % a < 4294967296; omega⟩ (le_st (le_r rfl) (leE_i rfl (quoN hu264) (leE_i rfl ((by rw [quoN hu264]; exact remN hu264)) (leE_i rfl rfl (leE_i rfl rfl (leE_i rfl rfl (leE_i rfl rfl (leE_i rfl rfl (leE_i rfl rfl (leE_i rfl rfl trivial))))))))) trivial gl0n) ?_
          rintro ⟨z, w⟩ ⟨hk2, hw2⟩
          dsimp only at hk2 hw2 ⊢
          conv => whnf
          obtain ⟨x1, hx1⟩ : ∃ x, x = z * b := ⟨_, rfl⟩
          obtain ⟨x2, hx2⟩ : ∃ x, x = w * 4294967296 + d0 := ⟨_, rfl⟩
          have k1 : z < 4294967296 → IntKind.u64.wrap ((z : Int) * (b : Nat)) = (x1 : Int) := fun h => by rw [hx1]; exact kn_p h hb1
          have k2 : IntKind.u64.wrap (IntKind.u64.wrap (4294967296 * (w : Int)) + (d0 : Nat)) = (x2 : Int) := by rw [hx2]; exact kn_e hw2 hd0
          by_cases cA : z ≥ 4294967296 ∨ z * b > w * 4294967296 + d0
          · obtain ⟨p0, p1, p2⟩ := hk2.step g2 cA
            have hq0 := hk2.le
            have eq1 := kn_q p0 hq0
            have er1 := kn_r hw2 ha2
            have hlt : z - 1 < z := by omega
            by_cases c1 : z ≥ 4294967296
            · refine br_true (decide_eq_true ((by omega : ((z : Nat) : Int) ≥ 4294967296))) ?_
              conv => whnf
              rw [er1]
              obtain ⟨qz, hqz⟩ : ∃ x, x = z - 1 := ⟨_, rfl⟩
              obtain ⟨rz, hrz⟩ : ∃ x, x = w + a := ⟨_, rfl⟩
              rw [← hqz] at p1 p2 eq1 hlt
              rw [← hrz] at p2 er1
              rw [← hrz]
              by_cases c3 : 4294967296 ≤ rz
              · refine br_true (decide_eq_true ((by omega : ((rz : Nat) : Int) ≥ 4294967296))) ?_
                conv => whnf
                have hQ := p2.wide g2 p1 c3
                rw [eq1]
                rw [hYe] at hQ
                obtain ⟨f1, f2⟩ := kn_fin hY (by omega) hve hbig hQ1 hu2 hQ
                refine And.intro (by omega) ?_
                conv => whnf
                refine fin_e ?_
                conv => whnf
                refine ⟨by simp [packA, consL, nf], ?_⟩
                show tup2 (U (IntKind.u64.wrap (IntKind.u64.wrap ((qq : Int) * 4294967296) + (qz : Nat)))) (U ((IntKind.u64.wrap (IntKind.u64.wrap (IntKind.u64.wrap ((u2 : Int) * 4294967296) + (d0 : Nat)) - IntKind.u64.wrap ((qz : Int) * (Y : Nat)))).fdiv (2 ^ min (Int.toNat (s : Int)) IntKind.u64.bits))) = _
                rw [kn_hi f1 hN, kn_low hQ (by omega) h2 hs f2]
              · refine br_false (decide_eq_false ((by omega : ¬ ((rz : Nat) : Int) ≥ 4294967296))) ?_
                conv => whnf
                exact ⟨(qz, rz), ⟨p2, by show rz < 4294967296; omega⟩, by show qz < z; exact hlt, (le_st (le_r rfl) (leE_i rfl (eq1) (leE_i rfl rfl (leE_i rfl rfl (leE_i rfl rfl (leE_i rfl rfl (leE_i rfl rfl (leE_i rfl rfl (leE_i rfl rfl (leE_i rfl rfl trivial))))))))) trivial gl0n)⟩
            · refine br_false (decide_eq_false ((by omega : ¬ ((z : Nat) : Int) ≥ 4294967296))) ?_
              conv => whnf
              have c2 : x1 > x2 := by rw [hx1, hx2]; exact cA.resolve_left c1
              rw [k2, k1 (by omega)]
              clear cA
              refine br_true (decide_eq_true ((by omega : ((x1 : Nat) : Int) > (x2 : Nat)))) ?_
              conv => whnf
              rw [er1]
              obtain ⟨qz, hqz⟩ : ∃ x, x = z - 1 := ⟨_, rfl⟩
              obtain ⟨rz, hrz⟩ : ∃ x, x = w + a := ⟨_, rfl⟩
              rw [← hqz] at p1 p2 eq1 hlt
              rw [← hrz] at p2 er1
              rw [← hrz]
              by_cases c3 : 4294967296 ≤ rz
              · refine br_true (decide_eq_true ((by omega : ((rz : Nat) : Int) ≥ 4294967296))) ?_
                conv => whnf
                have hQ := p2.wide g2 p1 c3
                rw [eq1]
                rw [hYe] at hQ
                obtain ⟨f1, f2⟩ := kn_fin hY (by omega) hve hbig hQ1 hu2 hQ
                refine And.intro (by omega) ?_
                conv => whnf
                refine fin_e ?_
                conv => whnf
                refine ⟨by simp [packA, consL, nf], ?_⟩
                show tup2 (U (IntKind.u64.wrap (IntKind.u64.wrap ((qq : Int) * 4294967296) + (qz : Nat)))) (U ((IntKind.u64.wrap (IntKind.u64.wrap (IntKind.u64.wrap ((u2 : Int) * 4294967296) + (d0 : Nat)) - IntKind.u64.wrap ((qz : Int) * (Y : Nat)))).fdiv (2 ^ min (Int.toNat (s : Int)) IntKind.u64.bits))) = _
                rw [kn_hi f1 hN, kn_low hQ (by omega) h2 hs f2]
              · refine br_false (decide_eq_false ((by omega : ¬ ((rz : Nat) : Int) ≥ 4294967296))) ?_
                conv => whnf
                exact ⟨(qz, rz), ⟨p2, by show rz < 4294967296; omega⟩, by show qz < z; exact hlt, (le_st (le_r rfl) (leE_i rfl (eq1) (leE_i rfl rfl (leE_i rfl rfl (leE_i rfl rfl (leE_i rfl rfl (leE_i rfl rfl (leE_i rfl rfl (leE_i rfl rfl (leE_i rfl rfl trivial))))))))) trivial gl0n)⟩
          · have c2 : ¬ x1 > x2 := by rw [hx1, hx2]; exact fun h => cA (.inr h)
            have hQ := hk2.fits g2 (by rw [← hx1, ← hx2]; exact Nat.le_of_not_gt c2)
            refine br_false (decide_eq_false ((fun h => cA (.inl (by omega)) : ¬ ((z : Nat) : Int) ≥ 4294967296))) ?_
            conv => whnf
            rw [k2, k1 (Nat.lt_of_not_ge fun h => cA (.inl h))]
            clear cA
            refine br_false (decide_eq_false ((by omega : ¬ ((x1 : Nat) : Int) > (x2 : Nat)))) ?_
            conv => whnf
            rw [hYe] at hQ
            obtain ⟨f1, f2⟩ := kn_fin hY (by omega) hve hbig hQ1 hu2 hQ
            refine And.intro (by omega) ?_
            conv => whnf
            refine fin_e ?_
            conv => whnf
            refine ⟨by simp [packA, consL, nf], ?_⟩
            show tup2 (U (IntKind.u64.wrap (IntKind.u64.wrap ((qq : Int) * 4294967296) + (z : Nat)))) (U ((IntKind.u64.wrap (IntKind.u64.wrap (IntKind.u64.wrap ((u2 : Int) * 4294967296) + (d0 : Nat)) - IntKind.u64.wrap ((z : Int) * (Y : Nat)))).fdiv (2 ^ min (Int.toNat (s : Int)) IntKind.u64.bits))) = _
            rw [kn_hi f1 hN, kn_low hQ (by omega) h2 hs f2]
        · refine br_false (decide_eq_false ((by omega : ¬ ((rr : Nat) : Int) ≥ 4294967296))) ?_
          conv => whnf
          exact ⟨(qq, rr), ⟨p2, by show rr < 4294967296; omega⟩, by show qq < q; exact hlt, (le_st (le_r rfl) (leE_i rfl (eq1) (leE_i rfl rfl (leE_i rfl rfl (leE_i rfl rfl (leE_i rfl rfl (leE_i rfl rfl (leE_i rfl rfl (leE_i rfl rfl (leE_i rfl rfl trivial))))))))) trivial gl0n)⟩
    · have c2 : ¬ x1 > x2 := by rw [hx1, hx2]; exact fun h => cA (.inr h)
      have hQ := hk.fits g1 (by rw [← hx1, ← hx2]; exact Nat.le_of_not_gt c2)
      refine br_false (decide_eq_false ((fun h => cA (.inl (by omega)) : ¬ ((q : Nat) : Int) ≥ 4294967296))) ?_
      conv => whnf
      rw [k2, k1 (Nat.lt_of_not_ge fun h => cA (.inl h))]
      clear cA
      refine br_false (decide_eq_false ((by omega : ¬ ((x1 : Nat) : Int) > (x2 : Nat)))) ?_
      conv => whnf
      rw [hYe] at hQ
      have hQ1 := hQ
      clear hQ
      obtain ⟨u2, hu2⟩ : ∃ x, x = (u * 4294967296 + d1) % Y := ⟨_, rfl⟩
      have ku := kn_un hu2 hQ1 (by omega) h2
      have hu2Y : u2 < Y := hu2 ▸ Nat.mod_lt _ (by omega)
      have hu264 : u2 < 18446744073709551616 := Nat.lt_trans hu2Y h2
      rw [ku]
      have g2 : KnG u2 d0 a b := ⟨ha1, ha2, hb1, hd0, by omega⟩
      refine And.intro (by omega) ?_
      conv => whnf
      refine loop_at mixed (fun (z : Nat × Nat) => ([(18, U z.1), (16, U z.2), (15, U q), (8, U s), (9, U a), (10, U b), (14, U d0), (17, U u2), (2, U Y)], [], 0)) (fun z => Kn u2 d0 a b z.1 z.2 ∧ z.2 < 4294967296) (fun z => z.1) (u2 / a, u2 % a) ⟨g2.first, by have := Nat.mod_lt u2 (show 0 < a by omega); show u2 % a < 4294967296; omega⟩ (le_st (le_r rfl) (leE_i rfl (quoN hu264) (leE_i rfl ((by rw [quoN hu264]; exact remN hu264)) (leE_i rfl rfl (leE_i rfl rfl (leE_i rfl rfl (leE_i rfl rfl (leE_i rfl rfl (leE_i rfl rfl (leE_i rfl rfl trivial))))))))) trivial gl0n) ?_
      rintro ⟨z, w⟩ ⟨hk2, hw2⟩
      dsimp only at hk2 hw2 ⊢
      conv => whnf
      obtain ⟨x1, hx1⟩ : ∃ x, x = z * b := ⟨_, rfl⟩
      obtain ⟨x2, hx2⟩ : ∃ x, x = w * 4294967296 + d0 := ⟨_, rfl⟩
      have k1 : z < 4294967296 → IntKind.u64.wrap ((z : Int) * (b : Nat)) = (x1 : Int) := fun h => by rw [hx1]; exact kn_p h hb1
      have k2 : IntKind.u64.wrap (IntKind.u64.wrap (4294967296 * (w : Int)) + (d0 : Nat)) = (x2 : Int) := by rw [hx2]; exact kn_e hw2 hd0
      by_cases cA : z ≥ 4294967296 ∨ z * b > w * 4294967296 + d0
      · obtain ⟨p0, p1, p2⟩ := hk2.step g2 cA
        have hq0 := hk2.le
        have eq1 := kn_q p0 hq0
        have er1 := kn_r hw2 ha2
        have hlt : z - 1 < z := by omega
        by_cases c1 : z ≥ 4294967296
        · refine br_true (decide_eq_true ((by omega : ((z : Nat) : Int) ≥ 4294967296))) ?_
          conv => whnf
          rw [er1]
          obtain ⟨qz, hqz⟩ : ∃ x, x = z - 1 := ⟨_, rfl⟩
          obtain ⟨rz, hrz⟩ : ∃ x, x = w + a := ⟨_, rfl⟩
          rw [← hqz] at p1 p2 eq1 hlt
          rw [← hrz] at p2 er1
          rw [← hrz]
          by_cases c3 : 4294967296 ≤ rz
          · refine br_true (decide_eq_true ((by omega : ((rz : Nat) : Int) ≥ 4294967296))) ?_
            conv => whnf
            have hQ := p2.wide g2 p1 c3
            rw [eq1]
            rw [hYe] at hQ
            obtain ⟨f1, f2⟩ := kn_fin hY (by omega) hve hbig hQ1 hu2 hQ
            refine And.intro (by omega) ?_
            conv => whnf
            refine fin_e ?_
            conv => whnf
            refine ⟨by simp [packA, consL, nf], ?_⟩
            show tup2 (U (IntKind.u64.wrap (IntKind.u64.wrap ((q : Int) * 4294967296) + (qz : Nat)))) (U ((IntKind.u64.wrap (IntKind.u64.wrap (IntKind.u64.wrap ((u2 : Int) * 4294967296) + (d0 : Nat)) - IntKind.u64.wrap ((qz : Int) * (Y : Nat)))).fdiv (2 ^ min (Int.toNat (s : Int)) IntKind.u64.bits))) = _
            rw [kn_hi f1 hN, kn_low hQ (by omega) h2 hs f2]
          · refine br_false (decide_eq_false ((by omega : ¬ ((rz : Nat) : Int) ≥ 4294967296))) ?_
            conv => whnf
            exact ⟨(qz, rz), ⟨p2, by show rz < 4294967296; omega⟩, by show qz < z; exact hlt, (le_st (le_r rfl) (leE_i rfl (eq1) (leE_i rfl rfl (leE_i rfl rfl (leE_i rfl rfl (leE_i rfl rfl (leE_i rfl rfl (leE_i rfl rfl (leE_i rfl rfl (leE_i rfl rfl trivial))))))))) trivial gl0n)⟩
        · refine br_false (decide_eq_false ((by omega : ¬ ((z : Nat) : Int) ≥ 4294967296))) ?_
          conv => whnf
          have c2 : x1 > x2 := by rw [hx1, hx2]; exact cA.resolve_left c1
          rw [k2, k1 (by omega)]
          clear cA
          refine br_true (decide_eq_true ((by omega : ((x1 : Nat) : Int) > (x2 : Nat)))) ?_
          conv => whnf
          rw [er1]
          obtain ⟨qz, hqz⟩ : ∃ x, x = z - 1 := ⟨_, rfl⟩
          obtain ⟨rz, hrz⟩ : ∃ x, x = w + a := ⟨_, rfl⟩
          rw [← hqz] at p1 p2 eq1 hlt
          rw [← hrz] at p2 er1
          rw [← hrz]
          by_cases c3 : 4294967296 ≤ rz
          · refine br_true (decide_eq_true ((by omega : ((rz : Nat) : Int) ≥ 4294967296))) ?_
            conv => whnf
            have hQ := p2.wide g2 p1 c3
            rw [eq1]
            rw [hYe] at hQ
            obtain ⟨f1, f2⟩ := kn_fin hY (by omega) hve hbig hQ1 hu2 hQ
            refine And.intro (by omega) ?_
            conv => whnf
            refine fin_e ?_
            conv => whnf
            refine ⟨by simp [packA, consL, nf], ?_⟩
            show tup2 (U (IntKind.u64.wrap (IntKind.u64.wrap ((q : Int) * 4294967296) + (qz : Nat)))) (U ((IntKind.u64.wrap (IntKind.u64.wrap (IntKind.u64.wrap ((u2 : Int) * 4294967296) + (d0 : Nat)) - IntKind.u64.wrap ((qz : Int) * (Y : Nat)))).fdiv (2 ^ min (Int.toNat (s : Int)) IntKind.u64.bits))) = _
            rw [kn_hi f1 hN, kn_low hQ (by omega) h2 hs f2]
          · refine br_false (decide_eq_false ((by omega : ¬ ((rz : Nat) : Int) ≥ 4294967296))) ?_
            conv => whnf
            exact ⟨(qz, rz), ⟨p2, by show rz < 4294967296; omega⟩, by show qz < z; exact hlt, (le_st (le_r rfl) (leE_i rfl (eq1) (leE_i rfl rfl (leE_i rfl rfl (leE_i rfl rfl (leE_i rfl rfl (leE_i rfl rfl (leE_i rfl rfl (leE_i rfl rfl (leE_i rfl rfl trivial))))))))) trivial gl0n)⟩
      · have c2 : ¬ x1 > x2 := by rw [hx1, hx2]; exact fun h => cA (.inr h)
        have hQ := hk2.fits g2 (by rw [← hx1, ← hx2]; exact Nat.le_of_not_gt c2)
        refine br_false (decide_eq_false ((fun h => cA (.inl (by omega)) : ¬ ((z : Nat) : Int) ≥ 4294967296))) ?_
        conv => whnf
        rw [k2, k1 (Nat.lt_of_not_ge fun h => cA (.inl h))]
        clear cA
        refine br_false (decide_eq_false ((by omega : ¬ ((x1 : Nat) : Int) > (x2 : Nat)))) ?_
        conv => whnf
        rw [hYe] at hQ
        obtain ⟨f1, f2⟩ := kn_fin hY (by omega) hve hbig hQ1 hu2 hQ
        refine And.intro (by omega) ?_
        conv => whnf
        refine fin_e ?_
        conv => whnf
        refine ⟨by simp [packA, consL, nf], ?_⟩
        show tup2 (U (IntKind.u64.wrap (IntKind.u64.wrap ((q : Int) * 4294967296) + (z : Nat)))) (U ((IntKind.u64.wrap (IntKind.u64.wrap (IntKind.u64.wrap ((u2 : Int) * 4294967296) + (d0 : Nat)) - IntKind.u64.wrap ((z : Int) * (Y : Nat)))).fdiv (2 ^ min (Int.toNat (s : Int)) IntKind.u64.bits))) = _
        rw [kn_hi f1 hN, kn_low hQ (by omega) h2 hs f2]

end Go.Proofs.Ytdjmplfjpnikkaa
namespace Go.Proofs.Ytdjmplfjpnikkaa
open Go Ar
set_option linter.unusedVariables false
set_option autoImplicit false
set_option maxHeartbeats 4000000
set_option maxRecDepth 100000

theorem and_one (a : Nat) (ha : a < 18446744073709551616) : IntKind.u64.wrap (BitVec.ofInt IntKind.u64.bits (a : Int) &&& BitVec.ofInt IntKind.u64.bits 1).toNat = ((a % 2 : Nat) : Int) := by
  have h := bits_and_u64_nat a 1 ha (by omega)
  have e : a &&& 1 = a % 2 := Nat.and_one_is_mod a
  rw [e] at h
  exact h

theorem sgn_big {M : Nat} (h : 18446744073709551616 ≤ M) (b : Bool) : sgnV b M = tup2 (I 0) (B false) := by
  cases b
  · exact if_neg (by omega)
  · exact if_neg (by omega)

theorem call_wsg {c : Bool} {b : Bool} {M : Nat} (hM : M < 18446744073709551616) {o : Objs} {m : Nat} {K : AV → Objs → Nat → Prop} (h : ∀ n k, sgnV b M = tup2 (I n) (B k) → K (tup2 (I n) (B k)) o m) : CallB c Try.prog gl0 money_withSign [B b, U (M : Nat)] o m K := by
  obtain ⟨n, k, e⟩ := sgn_is b M
  refine call_x2 ((withSign_x b M hM).mono (fun r _ h => h.trans e)) (LeL.refl _) ?_
  rintro _ - rfl
  exact h n k e

theorem big_quo0 {P m n : Nat} (h : m ≤ P / n) (hm : 0 < m) : n ≤ P / m := by
  rw [Nat.le_div_iff_mul_le hm]
  have h1 : P / n * n ≤ P := Nat.div_mul_le_self P _
  have h2 : m * n ≤ P / n * n := Nat.mul_le_mul_right _ h
  rw [Nat.mul_comm]
  exact Nat.le_trans h2 h1
theorem big_quo {P m : Nat} (h : m ≤ P / 18446744073709551616) (hm : 0 < m) : 18446744073709551616 ≤ P / m := big_quo0 h hm

theorem mdN_is (a b c : Nat) : mdN a b c = if a * b % c > c - a * b % c ∨ (a * b % c = c - a * b % c ∧ a * b / c % 2 = 1) then a * b / c + 1 else a * b / c := rfl

theorem mulDiv_x (a b c : Int) (ha : in64 a) (hb : in64 b) (hc : in64 c) : PureX Try.prog gl0 money_MulDiv [I a, I b, I c] (fun r => r = mdV a b c) := by
  refine pure_fnX mixed fn_money_MulDiv nt_money_MulDiv hc_money_MulDiv (by simp) gl0n (by simp [nf]) ?_
  conv => whnf
  have la := abs_le ha
  have lb := abs_le hb
  have lc := abs_le hc
  refine call_x2 (magnitude_x c hc) (LeL.refl _) ?_
  rintro _ - rfl
  conv => whnf
  refine call_x2 (magnitude_x a ha) (LeL.refl _) ?_
  rintro _ - rfl
  conv => whnf
  refine call_x2 (magnitude_x b hb) (LeL.refl _) ?_
  rintro _ - rfl
  conv => whnf
  refine call_x2 (bits_Mul64_x a.natAbs b.natAbs (by omega) (by omega)) (LeL.refl _) ?_
  rintro _ - rfl
  conv => whnf
  unfold mdV
  by_cases c0 : c = 0
  · refine br_true (decide_eq_true ((by omega : ((c.natAbs : Nat) : Int) = 0))) ?_
    conv => whnf
    refine fin_e ?_
    conv => whnf
    rw [if_pos c0]
    exact ⟨by simp [packA, consL, nf], rfl⟩
  · refine br_false (decide_eq_false ((by omega : ¬ ((c.natAbs : Nat) : Int) = 0))) ?_
    conv => whnf
    rw [if_neg c0]
    have lc0 : 0 < c.natAbs := by omega
    have hmd := mdN_is a.natAbs b.natAbs c.natAbs
    generalize mdN a.natAbs b.natAbs c.natAbs = M at *
    generalize a.natAbs * b.natAbs = P at *
    generalize c.natAbs = m at *
    by_cases c1 : P / 18446744073709551616 ≥ m
    · refine br_true (decide_eq_true ((by omega : ((P / 18446744073709551616 : Nat) : Int) ≥ (m : Nat)))) ?_
      conv => whnf
      refine fin_e ?_
      conv => whnf
      have hq := big_quo c1 lc0
      rw [sgn_big (by rw [hmd]; split <;> omega)]
      exact ⟨by simp [packA, consL, nf], rfl⟩
    · refine br_false (decide_eq_false ((by omega : ¬ ((P / 18446744073709551616 : Nat) : Int) ≥ (m : Nat)))) ?_
      conv => whnf
      have hq := bits_Div64_x (P / 18446744073709551616) (P % 18446744073709551616) m (Nat.mod_lt _ (by decide)) (by omega) (by omega)
      rw [Nat.div_add_mod' P 18446744073709551616] at hq
      refine call_x2 hq (LeL.refl _) ?_
      clear hq
      rintro _ - rfl
      conv => whnf
      have hr := Nat.mod_lt P lc0
      have hQ : P / m < 18446744073709551616 := by
        rw [Nat.div_lt_iff_lt_mul lc0]
        have h1 := Nat.div_add_mod' P 18446744073709551616
        have h2 := Nat.mod_lt P (show 0 < 18446744073709551616 by decide)
        have h3 : (P / 18446744073709551616 + 1) * 18446744073709551616 ≤ m * 18446744073709551616 := Nat.mul_le_mul_right _ (by omega)
        rw [Nat.mul_comm]
        omega
      generalize P / m = Q at *
      generalize P % m = r at *
      have e1 : IntKind.u64.wrap ((m : Int) - (r : Nat)) = ((m - r : Nat) : Int) := by rw [wrapu_id (by unfold inU64; omega)]; omega
      have e2 : IntKind.u64.wrap (((Q : Nat) : Int) + 1) = (((Q + 1) % 18446744073709551616 : Nat) : Int) := by rw [wrap_u64]; omega
      have e3 := and_one Q hQ
      rw [e1]
      by_cases k1 : r > m - r
      · rw [if_pos (.inl k1)] at hmd
        refine br_true (decide_eq_true ((by omega : ((r : Nat) : Int) > ((m - r : Nat) : Int)))) ?_
        conv => whnf
        obtain ⟨q2, hq2⟩ : ∃ x, x = (Q + 1) % 18446744073709551616 := ⟨_, rfl⟩
        have e4 : IntKind.u64.wrap (((Q : Nat) : Int) + 1) = (q2 : Int) := by rw [e2, hq2]
        rw [e4]
        by_cases z : q2 = 0
        · refine br_true (decide_eq_true ((by omega : ((q2 : Nat) : Int) = 0))) ?_
          conv => whnf
          refine fin_e ?_
          conv => whnf
          rw [sgn_big (by omega)]
          exact ⟨by simp [packA, consL, nf], rfl⟩
        · refine br_false (decide_eq_false ((by omega : ¬ ((q2 : Nat) : Int) = 0))) ?_
          conv => whnf
          have hM : M = q2 := by omega
          subst hM
          by_cases sa : a < 0 <;> by_cases sb : b < 0 <;> by_cases sc : c < 0
          all_goals
            (repeat' first
              | (refine br_true (decide_eq_true (by assumption)) ?_; (conv => whnf))
              | (refine br_false (decide_eq_false (by assumption)) ?_; (conv => whnf)))
            refine call_wsg (by omega) ?_
            intro n k hs
            (conv => whnf)
            refine fin_e ?_
            (conv => whnf)
            refine ⟨by simp [packA, consL, nf], ?_⟩
            first
              | rw [decide_eq_true sa]
              | rw [decide_eq_false sa]
            first
              | rw [decide_eq_true sb]
              | rw [decide_eq_false sb]
            first
              | rw [decide_eq_true sc]
              | rw [decide_eq_false sc]
            exact hs.symm
      · refine br_false (decide_eq_false ((by omega : ¬ ((r : Nat) : Int) > ((m - r : Nat) : Int)))) ?_
        conv => whnf
        rw [e1]
        by_cases k2 : r = m - r
        · refine br_true (decide_eq_true ((by omega : ((r : Nat) : Int) = ((m - r : Nat) : Int)))) ?_
          conv => whnf
          rw [e3]
          by_cases k3 : Q % 2 = 1
          · rw [if_pos (.inr ⟨k2, k3⟩)] at hmd
            refine br_true (decide_eq_true ((by omega : ((Q % 2 : Nat) : Int) = 1))) ?_
            conv => whnf
            obtain ⟨q2, hq2⟩ : ∃ x, x = (Q + 1) % 18446744073709551616 := ⟨_, rfl⟩
            have e4 : IntKind.u64.wrap (((Q : Nat) : Int) + 1) = (q2 : Int) := by rw [e2, hq2]
            rw [e4]
            by_cases z : q2 = 0
            · refine br_true (decide_eq_true ((by omega : ((q2 : Nat) : Int) = 0))) ?_
              conv => whnf
              refine fin_e ?_
              conv => whnf
              rw [sgn_big (by omega)]
              exact ⟨by simp [packA, consL, nf], rfl⟩
            · refine br_false (decide_eq_false ((by omega : ¬ ((q2 : Nat) : Int) = 0))) ?_
              conv => whnf
              have hM : M = q2 := by omega
              subst hM
              by_cases sa : a < 0 <;> by_cases sb : b < 0 <;> by_cases sc : c < 0
              all_goals
                (repeat' first
                  | (refine br_true (decide_eq_true (by assumption)) ?_; (conv => whnf))
                  | (refine br_false (decide_eq_false (by assumption)) ?_; (conv => whnf)))
                refine call_wsg (by omega) ?_
                intro n k hs
                (conv => whnf)
                refine fin_e ?_
                (conv => whnf)
                refine ⟨by simp [packA, consL, nf], ?_⟩
                first
                  | rw [decide_eq_true sa]
                  | rw [decide_eq_false sa]
                first
                  | rw [decide_eq_true sb]
                  | rw [decide_eq_false sb]
                first
                  | rw [decide_eq_true sc]
                  | rw [decide_eq_false sc]
                exact hs.symm
          · rw [if_neg (fun h => h.elim k1 (fun h => k3 h.2))] at hmd
            refine br_false (decide_eq_false ((by omega : ¬ ((Q % 2 : Nat) : Int) = 1))) ?_
            conv => whnf
            subst hmd
            by_cases sa : a < 0 <;> by_cases sb : b < 0 <;> by_cases sc : c < 0
            all_goals
              (repeat' first
                | (refine br_true (decide_eq_true (by assumption)) ?_; (conv => whnf))
                | (refine br_false (decide_eq_false (by assumption)) ?_; (conv => whnf)))
              refine call_wsg (by omega) ?_
              intro n k hs
              (conv => whnf)
              refine fin_e ?_
              (conv => whnf)
              refine ⟨by simp [packA, consL, nf], ?_⟩
              first
                | rw [decide_eq_true sa]
                | rw [decide_eq_false sa]
              first
                | rw [decide_eq_true sb]
                | rw [decide_eq_false sb]
              first
                | rw [decide_eq_true sc]
                | rw [decide_eq_false sc]
              exact hs.symm
        · rw [if_neg (fun h => h.elim k1 (fun h => k2 h.1))] at hmd
          refine br_false (decide_eq_false ((by omega : ¬ ((r : Nat) : Int) = ((m - r : Nat) : Int)))) ?_
          conv => whnf
          subst hmd
          by_cases sa : a < 0 <;> by_cases sb : b < 0 <;> by_cases sc : c < 0
          all_goals
            (repeat' first
              | (refine br_true (decide_eq_true (by assumption)) ?_; (conv => whnf))
              | (refine br_false (decide_eq_false (by assumption)) ?_; (conv => whnf)))
            refine call_wsg (by omega) ?_
            intro n k hs
            (conv => whnf)
            refine fin_e ?_
            (conv => whnf)
            refine ⟨by simp [packA, consL, nf], ?_⟩
            first
              | rw [decide_eq_true sa]
              | rw [decide_eq_false sa]
            first
              | rw [decide_eq_true sb]
              | rw [decide_eq_false sb]
            first
              | rw [decide_eq_true sc]
              | rw [decide_eq_false sc]
            exact hs.symm

theorem bps_x (a b : Int) (ha : in64 a) (hb : in64 b) : PureX Try.prog gl0 money_Bps [I a, I b] (fun r => r = mdV a b 10000) := by
  refine pure_fnX mixed fn_money_Bps nt_money_Bps hc_money_Bps (by simp) gl0n (by simp [nf]) ?_
  conv => whnf
  have e : ∃ n k, mdV a b 10000 = tup2 (I n) (B k) := by
    unfold mdV
    rw [if_neg (by decide)]
    exact sgn_is _ _
  obtain ⟨n, k, e⟩ := e
  refine call_x2 ((mulDiv_x a b 10000 ha hb (by decide)).mono (fun r _ h => h.trans e)) (LeL.refl _) ?_
  rintro _ - rfl
  conv => whnf
  refine fin_e ?_
  conv => whnf
  exact ⟨by simp [packA, consL, nf], e.symm⟩

end Go.Proofs.Ytdjmplfjpnikkaa
namespace Go.Proofs.Ytdjmplfjpnikkaa
open Go Ar
set_option linter.unusedVariables false
set_option autoImplicit false
set_option maxHeartbeats 4000000
set_option maxRecDepth 100000

theorem add64_x {x y : Int} (hx : 0 ≤ x) (hy : 0 ≤ y) : XPure Try.prog 37 [U x, U y, U 0] (tup2 (U ((x + y + 0) % 18446744073709551616)) (U ((x + y + 0) / 18446744073709551616))) :=
  xpure_add64 Try.func37 (by kernel_rfl) (by kernel_rfl) (by kernel_rfl) (by kernel_rfl) hx hy (by omega) (by omega)

def inW (S : Int) : Prop := -85070591730234615865843651857942052864 ≤ S ∧ S ≤ 85070591730234615865843651857942052864

theorem sumW_yes {S : Int} (h : inW S) (hh : (S / 18446744073709551616 % 18446744073709551616 = 0 ∧ S % 18446744073709551616 ≤ 9223372036854775807) ∨ (S / 18446744073709551616 % 18446744073709551616 = 18446744073709551615 ∧ S % 18446744073709551616 ≥ 9223372036854775808)) :
    tup2 (I (IntKind.i64.wrap (S % 18446744073709551616))) (B true) = sumV S := by
  unfold inW at h
  have hin : in64 S := by unfold in64; omega
  rw [sumV_yes hin]
  have : IntKind.i64.wrap (S % 18446744073709551616) = S := by
    rw [wrap_i64]
    unfold in64 at hin
    split <;> omega
  rw [this]

theorem sumW_no {S : Int} (h : inW S) (hh : ¬ ((S / 18446744073709551616 % 18446744073709551616 = 0 ∧ S % 18446744073709551616 ≤ 9223372036854775807) ∨ (S / 18446744073709551616 % 18446744073709551616 = 18446744073709551615 ∧ S % 18446744073709551616 ≥ 9223372036854775808))) :
    tup2 (I 0) (B false) = sumV S := by
  unfold inW at h
  have hin : ¬ in64 S := by unfold in64; omega
  rw [sumV_no hin]

theorem sum_inW (xs : List Int) (h : ∀ x ∈ xs, in64 x) : -9223372036854775808 * (xs.length : Int) ≤ xs.sum ∧ xs.sum ≤ 9223372036854775807 * (xs.length : Int) := by
  induction xs with
  | nil => simp
  | cons x r ih =>
    have h1 := h x (List.mem_cons_self ..)
    have h2 := ih (fun y hy => h y (List.mem_cons_of_mem _ hy))
    unfold in64 at h1
    simp only [List.sum_cons, List.length_cons]
    omega

theorem addW_lo (S x : Int) : (S % 18446744073709551616 + IntKind.u64.wrap x + 0) % 18446744073709551616 = (S + x) % 18446744073709551616 := by rw [wrap_u64]; omega
theorem addW_hi {S x : Int} (hx : in64 x) (h : ¬ x < 0) : IntKind.u64.wrap (S / 18446744073709551616 % 18446744073709551616 + (S % 18446744073709551616 + IntKind.u64.wrap x + 0) / 18446744073709551616) = (S + x) / 18446744073709551616 % 18446744073709551616 := by
  rw [wrap_u64, wrap_u64]
  unfold in64 at hx
  omega
theorem addW_hin {S x : Int} (hx : in64 x) (h : x < 0) : IntKind.u64.wrap (IntKind.u64.wrap (S / 18446744073709551616 % 18446744073709551616 + (S % 18446744073709551616 + IntKind.u64.wrap x + 0) / 18446744073709551616) - 1) = (S + x) / 18446744073709551616 % 18446744073709551616 := by
  rw [wrap_u64, wrap_u64, wrap_u64]
  unfold in64 at hx
  omega

theorem mSum_x (xs : List Int) (h : ∀ x ∈ xs, in64 x) (hn : xs.length ≤ 500000000) : PureX Try.prog gl0 arrears_money_Sum_int64_ [encL I 1 xs] (fun r => r = sumV xs.sum) := by
  refine pure_fnX mixed fn_arrears_money_Sum_int64_ nt_arrears_money_Sum_int64_ hc_arrears_money_Sum_int64_ (by simp) gl0n (by simp [nf]) ?_
  conv => whnf
  refine loop_at mixed (fun (k : Nat) => ([(11, I k), (10, I xs.length), (9, encL I 1 xs), (4, U ((xs.take k).sum / 18446744073709551616 % 18446744073709551616)), (5, U ((xs.take k).sum % 18446744073709551616))], [], 0)) (fun k => k ≤ xs.length) (fun k => xs.length - k) 0 (Nat.zero_le _) (le_st (le_r rfl) (leE_i rfl rfl (leE_i rfl rfl (leE_eq rfl (bnd_nf _ (nfL_I _ _)) (leE_i rfl rfl (leE_i rfl rfl trivial))))) trivial gl0n) ?_
  intro k hk
  conv => whnf
  have hn2 : (xs.length : Int) < 9223372036854775808 := by omega
  by_cases c : k < xs.length
  · refine br_true (decide_eq_true ((by omega : (k : Int) < xs.length))) ?_
    conv => whnf
    refine ⟨by omega, ?_⟩
    conv => whnf
    have hx := h _ (at_mem c)
    have hu : 0 ≤ IntKind.u64.wrap (at_ xs k) := by rw [wrap_u64]; omega
    have et : (xs.take (k + 1)).sum = (xs.take k).sum + at_ xs k := by rw [take_at c, List.sum_append]; simp
    refine call_x (add64_x (by omega) hu) ?_
    conv => whnf
    by_cases c2 : at_ xs k < 0
    · refine br_true (decide_eq_true (c2)) ?_
      conv => whnf
      exact ⟨k + 1, c, (by show xs.length - (k + 1) < xs.length - k; omega), (le_st (le_r rfl) (leE_i rfl (inc_id c hn2) (leE_i rfl rfl (leE_eq rfl (bnd_nf _ (nfL_I _ _)) (leE_i rfl ((by rw [et]; exact addW_hin hx c2)) (leE_i rfl ((by rw [et]; exact addW_lo _ _)) trivial))))) trivial gl0n)⟩
    · refine br_false (decide_eq_false (c2)) ?_
      conv => whnf
      exact ⟨k + 1, c, (by show xs.length - (k + 1) < xs.length - k; omega), (le_st (le_r rfl) (leE_i rfl (inc_id c hn2) (leE_i rfl rfl (leE_eq rfl (bnd_nf _ (nfL_I _ _)) (leE_i rfl ((by rw [et]; exact addW_hi hx c2)) (leE_i rfl ((by rw [et]; exact addW_lo _ _)) trivial))))) trivial gl0n)⟩
  · obtain rfl : k = xs.length := by omega
    refine br_false (decide_eq_false ((by omega : ¬ ((xs.length : Int) < xs.length)))) ?_
    conv => whnf
    rw [List.take_length]
    have hb : inW xs.sum := by have := sum_inW xs h; unfold inW; omega
    repeat' first
      | (refine br_dec (fun h0 => ?_) (fun h0 => ?_) <;> (conv => whnf))
      | (refine br_intro (fun hb => ?_) (fun hb => ?_) <;> ((try rw [hb]); (conv => whnf); (try simp at hb)))
      | (refine aI ?_; (conv => whnf))
      | (refine fin_e ?_; (conv => whnf); first | exact ⟨by simp [packA, consL, nf], sumW_yes hb (by omega)⟩ | exact ⟨by simp [packA, consL, nf], sumW_no hb (by omega)⟩)
      | fail

end Go.Proofs.Ytdjmplfjpnikkaa
