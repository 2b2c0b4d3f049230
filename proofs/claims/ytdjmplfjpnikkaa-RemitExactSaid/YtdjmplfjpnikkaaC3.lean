/- What the statement's own words do to an answer that is theirs: it is written full, and behind it. No condition. -/
import Derived.Test.YtdjmplfjpnikkaaC2
set_option linter.all false
namespace Go.Proofs.Ytdjmplfjpnikkaa
open Go Ar
set_option linter.unusedVariables false
set_option autoImplicit false
set_option maxHeartbeats 4000000
set_option maxRecDepth 100000

abbrev rem9 : Rem := ⟨-9, -9, -9⟩

theorem spoil_i (n : Nat) (f : Nat → Rem) (hn : n ≤ 64) : PureIX Try.prog gl0 l29_spoil [.sli 0 0 n 3 66] [(0, .box (.arr n 3 (fun i => encRem (f i))))] 1 (fun r o1 n1 => r = I ((n : Int) + 64) ∧ o1 = [] ∧ n1 = 0) := by
  refine pureI_fnX mixed fn_l29_spoil nt_l29_spoil hc_l29_spoil (by simp) gl0n ?_
  conv => whnf
  have hn2 : (n : Int) < 9223372036854775808 := by omega
  refine loop_at mixed (fun (k : Nat) => ([(3, I k), (0, .sli 0 0 n 3 66)], [(0, .box (.arr n 3 (fun i => encRem (if i < k then rem9 else f i))))], 1)) (fun k => k ≤ n) (fun k => n - k) 0 (Nat.zero_le _) (le_st (le_r rfl) (leE_i rfl rfl (leE_eq rfl (.inl (lt_r rfl)) trivial)) (leO_box (lt_r rfl) rfl (LeA.arr (fun i hi => LeA.of_eq (by rw [if_neg (Nat.not_lt_zero i)])) ) (bnd_nf _ ( (fun i => nf_encRem _))) trivial) gl0n) ?_
  intro k hk
  conv => whnf
  by_cases c : k < n
  · refine br_true (decide_eq_true ((by omega : (k : Int) < n))) ?_
    conv => whnf
    repeat' first
      | (refine And.intro (by first | rfl | omega | (constructor <;> omega) | fail) ?_; (conv => whnf))
      | (rw [okN]; (conv => whnf))
      | fail
    exact ⟨k + 1, c, (by show n - (k + 1) < n - k; omega), (le_st (le_r rfl) (leE_i rfl (inc_id c hn2) (leE_eq rfl (.inl (lt_r rfl)) trivial)) (leO_box (lt_r rfl) rfl (leA_setR rem9 (Nat.zero_add _) (if_pos (Nat.lt_succ_self k)) (fun i hi => (by by_cases h : i < k; rw [if_pos h, if_pos (by omega)]; rw [if_neg h, if_neg (by omega)])) ) (bnd_nf _ ( (fun i => nf_encRem _))) trivial) gl0n)⟩
  · refine br_false (decide_eq_false ((by omega : ¬ ((k : Int) < n)))) ?_
    conv => whnf
    repeat' first
      | (refine And.intro (by first | rfl | omega | (constructor <;> omega) | fail) ?_; (conv => whnf))
      | fail
    refine ⟨⟨[(2, I ((n : Int) + 64))], [], 0, le_st (Nat.zero_le _) ⟨⟨?_, trivial⟩, trivial⟩ trivial gl0n, ?_⟩⟩
    · exact (LeA.of_eq (congrArg (fun x => I x) (by show ((n + 64 : Nat) : Int) = (n : Int) + 64; omega))).le
    · conv => whnf
      exact ⟨_, Le.refl _, rfl, rfl, rfl⟩

end Go.Proofs.Ytdjmplfjpnikkaa
namespace Go.Proofs.Ytdjmplfjpnikkaa
open Go Ar
set_option linter.unusedVariables false
set_option autoImplicit false
set_option maxHeartbeats 4000000
set_option maxRecDepth 100000

theorem due_i (xs : List Shr) (rate a b : Nat) (h : (shV xs).1 = 0) (hr : rate ≤ 10000) (ha : a < 9223372036854775808) (hb : b < 9223372036854775808) : PureIX Try.prog gl0 remit_due [encL encShr 2 xs, I rate, encP a b] [] 0 (fun r o1 n1 => r = tup2 (.sli 2 0 xs.length 3 66) (I (bpsN b rate : Nat)) ∧ o1 = [(2, .box (.arr xs.length 3 (fun i => encRem (remF xs a (b - bpsN b rate) i))))] ∧ n1 = 3) := by
  refine pureI_fnX mixed fn_remit_due nt_remit_due hc_remit_due (by simp) gl0n ?_
  conv => whnf
  have hw := wS_ok h
  have h1 := hw.n1
  have h2 := hw.n2
  have hn : (xs.length : Int) < 9223372036854775808 := by omega
  refine And.intro (by decide) ?_
  conv => whnf
  refine call_x2 (bps_x (b : Int) (rate : Int) (by unfold in64; omega) (by unfold in64; omega)) (LeL.refl _) ?_
  rw [mdV_ok hb hr]
  rintro _ - rfl
  conv => whnf
  have hf := bps_le (s := b) hr
  generalize bpsN b rate = fee at hf ⊢
  repeat' first
    | (refine And.intro (by first | omega | decide | (constructor <;> omega) | (refine ⟨by omega, by omega, by omega⟩)) ?_; (conv => whnf))
    | fail
  refine loop_at mixed (fun (k : Nat) => ([(39, I k), (38, I xs.length), (37, encL encShr 2 xs), (5, .ptr 0 []), (8, I fee), (10, .sli 1 0 xs.length 1 2), (11, .sli 2 0 xs.length 3 66)], [(0, .box (encP a (b - fee))), (1, .box (.arr xs.length 1 (fun i => I (upF (wS xs) k i)))), (2, .box (.arr xs.length 3 (fun i => encRem (rem0 xs k i))))], 3)) (fun k => k ≤ xs.length) (fun k => xs.length - k) 0 (Nat.zero_le _) (le_st (le_r rfl) (leE_i rfl rfl (leE_i rfl rfl (leE_eq rfl (bnd_nf _ (nfL_Shr _ _)) (leE_ptr rfl rfl (leE_i rfl rfl (leE_eq rfl (.inl (lt_r rfl)) (leE_eq rfl (.inl (lt_r rfl)) trivial))))))) (leO_box (lt_r rfl) rfl (?_ ) (bnd_nf _ ( nf_encP _ _)) (leO_box (lt_r rfl) rfl (LeA.arr (fun i hi => LeA.refl _) ) (bnd_nf _ ( (fun i => trivial))) (leO_box (lt_r rfl) rfl (LeA.arr (fun i hi => LeA.refl _) ) (bnd_nf _ ( (fun i => nf_encRem _))) trivial))) gl0n) ?_
  · refine LeA.arr fun i hi => ?_
    match i, hi with
    | 0, _ => exact LeA.of_eq rfl
    | 1, _ =>
      refine LeA.of_eq (congrArg (fun n => I n) (?_ : IntKind.i64.wrap ((b : Int) - (fee : Nat)) = ((b - fee : Nat) : Int)))
      rw [wrap_id (by unfold in64; omega)]
      omega
  intro k hk
  conv => whnf
  by_cases c : k < xs.length
  · refine br_true (decide_eq_true ((by omega : (k : Int) < xs.length))) ?_
    conv => whnf
    repeat' first
      | (refine And.intro (by first | omega | (constructor <;> omega) | fail) ?_; (conv => whnf))
      | (rw [okN]; (conv => whnf))
      | (rw [okN2 rfl (by decide)]; (conv => whnf))
      | fail
    exact ⟨k + 1, c, (by show xs.length - (k + 1) < xs.length - k; omega), (le_st (le_r rfl) (leE_i rfl (inc_id c hn) (leE_i rfl rfl (leE_eq rfl (bnd_nf _ (nfL_Shr _ _)) (leE_ptr rfl rfl (leE_i rfl rfl (leE_eq rfl (.inl (lt_r rfl)) (leE_eq rfl (.inl (lt_r rfl)) trivial))))))) (leO_box (lt_r rfl) rfl (LeA.refl _) (bnd_nf _ (nf_encP _ _)) (leO_box (lt_r rfl) rfl (leA_setF (Nat.zero_add _) (upF_s.trans (wS_i h c).symm) (fun i hi => upF_o hi) ) (bnd_nf _ ( (fun i => trivial))) (leO_box (lt_r rfl) rfl (leA_setR ⟨(at_ xs k).inv, (rem0 xs k (0 + Int.toNat (k : Int))).p, (rem0 xs k (0 + Int.toNat (k : Int))).i⟩ (Nat.zero_add _) (by rw [Nat.zero_add]; simp [rem0]) (fun i hi => rem0_o hi) ) (bnd_nf _ ( (fun i => nf_encRem _))) trivial))) gl0n)⟩
  · refine br_false (decide_eq_false ((by omega : ¬ ((k : Int) < xs.length)))) ?_
    conv => whnf
    have hk2 : k = xs.length := by omega
    refine call_x2 (columns_x ()) trivial ?_
    rintro _ - rfl
    conv => whnf
    refine loop_at mixed (fun (c : Nat) => ([(57, I c), (56, encCol), (5, .ptr 0 []), (8, I fee), (10, encF xs.length (wS xs)), (11, .sli 2 0 xs.length 3 66)], [(0, .box (encP a (b - fee))), (2, .box (.arr xs.length 3 (fun i => encRem (remC xs a (b - fee) c i))))], 3)) (fun c => c ≤ 2) (fun c => 2 - c) 0 (Nat.zero_le _) ((le_freeze 10 1 rfl rfl).trans (le_st (le_r rfl) (leE_i rfl rfl (leE_eq rfl (bnd_nf _ (nf_encCol)) (leE_ptr rfl rfl (leE_i rfl rfl (leE_le rfl ((LeA.lst (.inl rfl) (fun i hi => LeA.of_eq (congrArg (fun n => I n) (if_pos (by omega))))).le ) (bnd_nf _ ( nf_encF _ _)) (leE_eq rfl (.inl (lt_r rfl)) trivial)))))) (leO_box (lt_r rfl) rfl (LeA.refl _) (bnd_nf _ (nf_encP _ _)) (leO_box (lt_r rfl) rfl (LeA.arr (fun i hi => LeA.of_eq (congrArg encRem (if_pos (by omega)))) ) (bnd_nf _ ( (fun i => nf_encRem _))) trivial)) gl0n)) ?_
    clear hk2 c hk
    intro c hc
    rcases (show c = 0 ∨ c = 1 ∨ c = 2 by omega) with rfl | rfl | rfl
    · conv => whnf
      repeat' first
        | (refine And.intro (by first | decide | omega | (constructor <;> omega) | fail) ?_; (conv => whnf))
        | fail
      refine call_x2 (split_x a xs.length (wS xs) ha hw) (LeL.refl _) ?_
      rintro _ - rfl
      conv => whnf
      refine loop_at mixed (fun (k : Nat) => ([(71, I k), (70, I xs.length), (16, encF xs.length (pN a (wS xs) xs.length)), (15, .ptr 3 []), (57, I 0), (56, encCol), (5, .ptr 0 []), (8, I fee), (10, encF xs.length (wS xs)), (11, .sli 2 0 xs.length 3 66)], [(0, .box (encP a (b - fee))), (2, .box (.arr xs.length 3 (fun i => encRem (rem1 xs a k i)))), (3, .box (colA 1 remit_columns_c1))], 4)) (fun k => k ≤ xs.length) (fun k => xs.length - k) 0 (Nat.zero_le _) (le_st (le_r rfl) (leE_i rfl rfl (leE_i rfl rfl (leE_eq rfl (bnd_nf _ (nf_encF _ _)) (leE_ptr rfl rfl (leE_i rfl rfl (leE_eq rfl (bnd_nf _ (nf_encCol)) (leE_ptr rfl rfl (leE_i rfl rfl (leE_eq rfl (bnd_nf _ (nf_encF _ _)) (leE_eq rfl (.inl (lt_r rfl)) trivial)))))))))) (leO_box (lt_r rfl) rfl (LeA.refl _) (bnd_nf _ (nf_encP _ _)) (leO_box (lt_r rfl) rfl (LeA.arr (fun i hi => LeA.refl _) ) (bnd_nf _ ( (fun i => nf_encRem _))) (leO_box (lt_r rfl) rfl (LeA.refl _ ) (bnd_nf _ ( nf_colA _ _)) trivial))) gl0n) ?_
      intro k hk
      conv => whnf
      by_cases c : k < xs.length
      · refine br_true (decide_eq_true ((by omega : (k : Int) < xs.length))) ?_
        conv => whnf
        repeat' first
          | (refine And.intro (by first | omega | (constructor <;> omega) | fail) ?_; (conv => whnf))
          | fail
        refine ⟨col1_ok, call_ptr 1 col1_ptr ?_⟩
        conv => whnf
        repeat' first
          | (refine And.intro (by first | omega | (constructor <;> omega) | fail) ?_; (conv => whnf))
          | (rw [okN2 rfl (by decide)]; (conv => whnf))
          | fail
        exact ⟨k + 1, c, (by show xs.length - (k + 1) < xs.length - k; omega), (le_st (le_r rfl) (leE_i rfl (inc_id c hn) (leE_i rfl rfl (leE_eq rfl (bnd_nf _ (nf_encF _ _)) (leE_ptr rfl rfl (leE_i rfl rfl (leE_eq rfl (bnd_nf _ (nf_encCol)) (leE_ptr rfl rfl (leE_i rfl rfl (leE_eq rfl (bnd_nf _ (nf_encF _ _)) (leE_eq rfl (.inl (lt_r rfl)) trivial)))))))))) (leO_box (lt_r rfl) rfl (LeA.refl _) (bnd_nf _ (nf_encP _ _)) (leO_box (lt_r rfl) rfl (leA_setR ⟨(rem1 xs a k (0 + Int.toNat (k : Int))).inv, (pN a (wS xs) xs.length k : Nat), (rem1 xs a k (0 + Int.toNat (k : Int))).i⟩ (Nat.zero_add _) (by rw [Nat.zero_add]; simp [rem1, remF]) (fun i hi => by exact rem1_o hi) ) (bnd_nf _ ( (fun i => nf_encRem _))) (leO_box (lt_r rfl) rfl (LeA.refl _) (bnd_nf _ (nf_colA _ _)) trivial))) gl0n)⟩
      · refine br_false (decide_eq_false ((by omega : ¬ ((k : Int) < xs.length)))) ?_
        conv => whnf
        have hk2 : k = xs.length := by omega
        exact ⟨1, by decide, by decide, (le_st (le_r rfl) (leE_i rfl ((by decide)) (leE_eq rfl (bnd_nf _ (nf_encCol)) (leE_ptr rfl rfl (leE_i rfl rfl (leE_eq rfl (bnd_nf _ (nf_encF _ _)) (leE_eq rfl (.inl (lt_r rfl)) trivial)))))) (leO_box (lt_r rfl) rfl (LeA.refl _) (bnd_nf _ (nf_encP _ _)) (leO_box (lt_r rfl) rfl (LeA.arr (fun i hi => LeA.of_eq (congrArg encRem (if_pos (by omega)))) ) (bnd_nf _ ( (fun i => nf_encRem _))) trivial)) gl0n)⟩
    · conv => whnf
      repeat' first
        | (refine And.intro (by first | decide | omega | (constructor <;> omega) | fail) ?_; (conv => whnf))
        | fail
      refine call_x2 (split_x (b - fee) xs.length (wS xs) (by omega) hw) (LeL.refl _) ?_
      rintro _ - rfl
      conv => whnf
      refine loop_at mixed (fun (k : Nat) => ([(71, I k), (70, I xs.length), (16, encF xs.length (pN (b - fee) (wS xs) xs.length)), (15, .ptr 3 []), (57, I 1), (56, encCol), (5, .ptr 0 []), (8, I fee), (10, encF xs.length (wS xs)), (11, .sli 2 0 xs.length 3 66)], [(0, .box (encP a (b - fee))), (2, .box (.arr xs.length 3 (fun i => encRem (rem2 xs a (b - fee) k i)))), (3, .box (colA 2 remit_columns_c2))], 4)) (fun k => k ≤ xs.length) (fun k => xs.length - k) 0 (Nat.zero_le _) (le_st (le_r rfl) (leE_i rfl rfl (leE_i rfl rfl (leE_eq rfl (bnd_nf _ (nf_encF _ _)) (leE_ptr rfl rfl (leE_i rfl rfl (leE_eq rfl (bnd_nf _ (nf_encCol)) (leE_ptr rfl rfl (leE_i rfl rfl (leE_eq rfl (bnd_nf _ (nf_encF _ _)) (leE_eq rfl (.inl (lt_r rfl)) trivial)))))))))) (leO_box (lt_r rfl) rfl (LeA.refl _) (bnd_nf _ (nf_encP _ _)) (leO_box (lt_r rfl) rfl (LeA.arr (fun i hi => LeA.refl _) ) (bnd_nf _ ( (fun i => nf_encRem _))) (leO_box (lt_r rfl) rfl (LeA.refl _ ) (bnd_nf _ ( nf_colA _ _)) trivial))) gl0n) ?_
      intro k hk
      conv => whnf
      by_cases c : k < xs.length
      · refine br_true (decide_eq_true ((by omega : (k : Int) < xs.length))) ?_
        conv => whnf
        repeat' first
          | (refine And.intro (by first | omega | (constructor <;> omega) | fail) ?_; (conv => whnf))
          | fail
        refine ⟨col2_ok, call_ptr 2 col2_ptr ?_⟩
        conv => whnf
        repeat' first
          | (refine And.intro (by first | omega | (constructor <;> omega) | fail) ?_; (conv => whnf))
          | (rw [okN2 rfl (by decide)]; (conv => whnf))
          | fail
        exact ⟨k + 1, c, (by show xs.length - (k + 1) < xs.length - k; omega), (le_st (le_r rfl) (leE_i rfl (inc_id c hn) (leE_i rfl rfl (leE_eq rfl (bnd_nf _ (nf_encF _ _)) (leE_ptr rfl rfl (leE_i rfl rfl (leE_eq rfl (bnd_nf _ (nf_encCol)) (leE_ptr rfl rfl (leE_i rfl rfl (leE_eq rfl (bnd_nf _ (nf_encF _ _)) (leE_eq rfl (.inl (lt_r rfl)) trivial)))))))))) (leO_box (lt_r rfl) rfl (LeA.refl _) (bnd_nf _ (nf_encP _ _)) (leO_box (lt_r rfl) rfl (leA_setR ⟨(rem2 xs a (b - fee) k (0 + Int.toNat (k : Int))).inv, (rem2 xs a (b - fee) k (0 + Int.toNat (k : Int))).p, (pN (b - fee) (wS xs) xs.length k : Nat)⟩ (Nat.zero_add _) (by rw [Nat.zero_add]; simp [rem2, remF]) (fun i hi => by exact rem2_o hi) ) (bnd_nf _ ( (fun i => nf_encRem _))) (leO_box (lt_r rfl) rfl (LeA.refl _) (bnd_nf _ (nf_colA _ _)) trivial))) gl0n)⟩
      · refine br_false (decide_eq_false ((by omega : ¬ ((k : Int) < xs.length)))) ?_
        conv => whnf
        have hk2 : k = xs.length := by omega
        exact ⟨2, by decide, by decide, (le_st (le_r rfl) (leE_i rfl ((by decide)) (leE_eq rfl (bnd_nf _ (nf_encCol)) (leE_ptr rfl rfl (leE_i rfl rfl (leE_eq rfl (bnd_nf _ (nf_encF _ _)) (leE_eq rfl (.inl (lt_r rfl)) trivial)))))) (leO_box (lt_r rfl) rfl (LeA.refl _) (bnd_nf _ (nf_encP _ _)) (leO_box (lt_r rfl) rfl (LeA.arr (fun i hi => LeA.of_eq (congrArg encRem (if_pos (by omega)))) ) (bnd_nf _ ( (fun i => nf_encRem _))) trivial)) gl0n)⟩
    · conv => whnf
      refine ⟨⟨[(6, .sli 2 0 xs.length 3 66), (7, I fee)], [(2, .box (.arr xs.length 3 (fun i => encRem (remF xs a (b - fee) i))))], 3, (le_st (le_r rfl) (leE_eq rfl (.inl (lt_r rfl)) (leE_i rfl rfl trivial)) (leO_box (lt_r rfl) rfl (LeA.arr (fun i hi => LeA.of_eq rfl) ) (bnd_nf _ ( (fun i => nf_encRem _))) trivial) gl0n), ?_⟩⟩
      conv => whnf
      exact ⟨_, Le.refl _, rfl, rfl, rfl⟩

theorem Due_i (xs : List Shr) (rate a b : Nat) (h : (shV xs).1 = 0) (hr : rate ≤ 10000) (ha : a < 9223372036854775808) (hb : b < 9223372036854775808) : PureIX Try.prog gl0 remit_Due [encL encShr 2 xs, I rate, I a, I b] [] 0 (fun r o1 n1 => r = tup3 (.sli 2 0 xs.length 3 66) (I (bpsN b rate : Nat)) (I 0) ∧ o1 = [(2, .box (.arr xs.length 3 (fun i => encRem (remF xs a (b - bpsN b rate) i))))] ∧ n1 = 3) := by
  refine pureI_fnX mixed fn_remit_Due nt_remit_Due hc_remit_Due (by simp) gl0n ?_
  conv => whnf
  have hl := shV_0 h
  refine call_x2 (check_x xs (by omega)) (LeL.refl _) ?_
  rw [h]
  rintro _ - rfl
  conv => whnf
  refine call_x2 (isRate_x rate) (LeL.refl _) ?_
  rw [decide_eq_true (show (0 : Int) ≤ rate ∧ (rate : Int) ≤ 10000 by omega)]
  rintro _ - rfl
  conv => whnf
  refine call_o (due_i xs rate a b h hr ha hb) (by simp) ⟨Le.refl _, Le.refl _, (LeA.arr fun i hi => ?_).le, trivial⟩ ?_
  · match i, hi with
    | 0, _ => exact LeA.of_eq rfl
    | 1, _ => exact LeA.of_eq rfl
  rintro _ _ _ ⟨rfl, rfl, rfl⟩
  refine ⟨⟨⟨.inl (by decide), fun i => nf_encRem _⟩, trivial⟩, ⟨trivial, trivial, trivial⟩, rfl, ?_⟩
  conv => whnf
  refine ⟨⟨[(8, .sli 2 0 xs.length 3 66), (9, I (bpsN b rate : Nat)), (10, I 0)], [(2, .box (.arr xs.length 3 (fun i => encRem (remF xs a (b - bpsN b rate) i))))], 3, (le_st (le_r rfl) (leE_eq rfl (.inl (lt_r rfl)) (leE_i rfl rfl (leE_i rfl rfl trivial))) (leO_box (lt_r rfl) rfl (LeA.arr (fun i hi => LeA.of_eq rfl) ) (bnd_nf _ ( (fun i => nf_encRem _))) trivial) gl0n), ?_⟩⟩
  conv => whnf
  exact ⟨_, Le.refl _, rfl, rfl, rfl⟩

end Go.Proofs.Ytdjmplfjpnikkaa
namespace Go.Proofs.Ytdjmplfjpnikkaa
open Go Ar
set_option linter.unusedVariables false
set_option autoImplicit false
set_option maxHeartbeats 4000000
set_option maxRecDepth 100000

theorem r1_Sum_x2 (xs : List Int) (h : ∀ x ∈ xs, in64 x) (hn : xs.length ≤ 500000000) : PureX Try.prog gl0 r1_Sum [encL I 1 xs] (fun r => r = sumV xs.sum) := ⟨_, (r1_Sum_x xs h hn).2.1, rfl, r1_Sum_x xs h hn⟩

theorem sizeN (x : Nat) (hx : x < 9223372036854775808) : PureX Try.prog gl0 r1_size [I x] (fun r => r = U (x : Nat)) :=
  (r1_size_x (x : Int) (by unfold in64; omega)).mono (fun r _ h => h.trans (by rw [Int.natAbs_natCast]))

theorem r1_fd_x (a b c : Nat) (ha : a < 9223372036854775808) (hc : 0 < c) (hc2 : c < 9223372036854775808) (hb : b ≤ c) : PureX Try.prog gl0 r1_MulDivFloor [I a, I b, I c] (fun r => r = tup3 (I (a * b / c : Nat)) (I (a * b % c : Nat)) (B true)) := by
  refine pure_fnX mixed fn_r1_MulDivFloor nt_r1_MulDivFloor hc_r1_MulDivFloor (by simp) gl0n (by simp [nf]) ?_
  conv => whnf
  refine br_false (decide_eq_false ((by omega : ¬ ((c : Nat) : Int) ≤ 0))) ?_
  conv => whnf
  refine call_x2 (sizeN c hc2) (LeL.refl _) ?_
  rintro _ - rfl
  conv => whnf
  refine call_x2 (sizeN a ha) (LeL.refl _) ?_
  rintro _ - rfl
  conv => whnf
  refine call_x2 (r1_digits_x a (by omega)) (LeL.refl _) ?_
  rintro _ - rfl
  conv => whnf
  refine call_x2 (sizeN b (by omega)) (LeL.refl _) ?_
  rintro _ - rfl
  conv => whnf
  refine call_x2 (r1_digits_x b (by omega)) (LeL.refl _) ?_
  rintro _ - rfl
  conv => whnf
  have hP : a * b ≤ 9223372036854775808 * 9223372036854775808 := Nat.mul_le_mul (by omega) (by omega)
  have hP2 : a * b < 2 ^ 128 := Nat.lt_of_le_of_lt hP (by decide)
  refine call_x2 (r1_times_x (digN a 64) (digN b 64) (a * b) (dig_digN _ _) (dig_digN _ _) (by rw [valD_digN (Nat.lt_of_lt_of_le ha (by decide)), valD_digN (Nat.lt_of_le_of_lt (by omega : b ≤ 9223372036854775808) (by decide))]) hP2) (LeL.refl _) ?_
  rintro _ - rfl
  conv => whnf
  refine call_x2 (r1_over_x (a * b) c hP2 hc (by omega)) (LeL.refl _) ?_
  rintro _ - rfl
  conv => whnf
  have f2 : a * b / c ≤ a := mul_quo hb hc
  have hr := Nat.mod_lt (a * b) hc
  generalize a * b / c = Q at *
  generalize a * b % c = r at *
  refine call_x2 (r1_signed_x false Q (by omega)) (LeL.refl _) ?_
  rw [show sgnV false Q = tup2 (I Q) (B true) from if_pos (by omega)]
  rintro _ - rfl
  conv => whnf
  refine fin_e ?_
  conv => whnf
  refine ⟨by simp [packA, consL, nf], ?_⟩
  show tup3 (I Q) (I (IntKind.i64.wrap (r : Int))) (B true) = _
  rw [wrap_id (by unfold in64; omega)]

theorem whole_x (T n : Nat) (w : Nat → Nat) (h : WtN w n) : PureX Try.prog gl0 r1_whole [I T, encF n w] (fun r => r = tup2 (I (sumN w n : Nat)) (B true)) := by
  refine pure_fnX mixed fn_r1_whole nt_r1_whole hc_r1_whole (by simp) gl0n (by simp [nf]) ?_
  conv => whnf
  have h1 := h.n1
  have h2 := h.n2
  have hs := h.sum
  have hn : (n : Int) < 9223372036854775808 := by omega
  refine br_false (decide_eq_false ((by omega : ¬ (n : Int) = 0))) ?_
  conv => whnf
  refine br_false (decide_eq_false ((by omega : ¬ (n : Int) > 1000))) ?_
  conv => whnf
  refine loop_at mixed (fun (k : Nat) => ([(6, I k), (1, encF n w)], [], 0)) (fun k => k ≤ n) (fun k => n - k) 0 (Nat.zero_le _) (le_st (le_r rfl) (leE_i rfl rfl (leE_eq rfl (bnd_nf _ (nf_encF _ _)) trivial)) trivial gl0n) ?_
  intro k hk
  conv => whnf
  by_cases c : k < n
  · refine br_true (decide_eq_true ((by omega : (k : Int) < n))) ?_
    conv => whnf
    have hw := h.w k c
    refine ⟨by omega, ?_⟩
    conv => whnf
    exact ⟨k + 1, c, (by show n - (k + 1) < n - k; omega), (le_st (le_r rfl) (leE_i rfl (inc_id c hn) (leE_eq rfl (bnd_nf _ (nf_encF _ _)) trivial)) trivial gl0n)⟩
  · refine br_false (decide_eq_false ((by omega : ¬ ((k : Int) < n)))) ?_
    conv => whnf
    refine call_x2 (r1_Sum_x2 (lstF w n) (fun x hx => by obtain ⟨i, hi, rfl⟩ := List.mem_map.1 hx; have := h.w i (List.mem_range.1 hi); unfold in64; omega) (by rw [lstF_len]; omega)) ⟨(leA_lstF w n).le, trivial⟩ ?_
    rw [lstF_sum, sumV_yes (by unfold in64; omega)]
    rintro _ - rfl
    conv => whnf
    refine br_true (decide_eq_true ((by omega : ((sumN w n : Nat) : Int) > 0))) ?_
    conv => whnf
    refine fin_e ?_
    conv => whnf
    exact ⟨by simp [packA, consL, nf], rfl⟩

end Go.Proofs.Ytdjmplfjpnikkaa
namespace Go.Proofs.Ytdjmplfjpnikkaa
open Go Ar
set_option linter.unusedVariables false
set_option autoImplicit false
set_option maxHeartbeats 4000000
set_option maxRecDepth 100000

theorem leA_appR {τ σ : Nat → Nat} {k : Nat} {f h F : Nat → AV} (hf : ∀ i, i < k → ren τ (ren σ (f i)) = F i) (hh : ren τ (ren σ (h 0)) = F k) : LeA (.arr (k + 1) 1 (fun i => ren τ (ren σ (appF k f h i)))) (.arr (k + 1) 1 F) := by
  refine LeA.arr fun i hi => LeA.of_eq ?_
  unfold appF
  by_cases c : i < k
  · rw [if_pos c]; exact hf i c
  · rw [if_neg c]
    obtain rfl : i = k := by omega
    rw [Nat.sub_self]; exact hh

theorem r1_split_x (T n : Nat) (w : Nat → Nat) (hT : T < 9223372036854775808) (h : WtN w n) : PureX Try.prog gl0 r1_Split [I T, encF n w] (fun r => r = tup2 (encF n (pN T w n)) (B true)) := by
  refine pure_fnX mixed fn_r1_Split nt_r1_Split hc_r1_Split (by simp) gl0n (by simp [nf]) ?_
  conv => whnf
  have h1 := h.n1
  have h2 := h.n2
  have hs := h.sum
  have hn : (n : Int) < 9223372036854775808 := by omega
  have hW : 0 < sumN w n := by omega
  refine call_x2 (whole_x T n w h) (LeL.refl _) ?_
  rintro _ - rfl
  conv => whnf
  refine loop_at mixed (fun (k : Nat) => ([(11, I k), (0, I T), (1, encF n w), (6, I (sumN w n : Nat)), (8, .sli 0 0 k 1 2), (9, .sli 1 0 k 1 2), (10, I (T - sumN (qN T w n) k : Nat))], [(0, .box (.arr k 1 (fun i => I (qN T w n i : Nat)))), (1, .box (.arr k 1 (fun i => I (rN T w n i : Nat))))], 2)) (fun k => k ≤ n) (fun k => n - k) 0 (Nat.zero_le _) ((le_nilv 8 1 2 (fun i => I (qN T w n i : Nat)) rfl).trans ((le_nilv 9 1 2 (fun i => I (rN T w n i : Nat)) rfl).trans (le_st (le_r rfl) (leE_i rfl rfl (leE_i rfl rfl (leE_eq rfl (bnd_nf _ (nf_encF _ _)) (leE_i rfl rfl (leE_eq rfl (.inl (lt_r rfl)) (leE_eq rfl (.inl (lt_r rfl)) (leE_i rfl rfl trivial))))))) (leO_box (lt_r rfl) rfl (LeA.refl _) (bnd_nf _ ((fun i => trivial))) (leO_box (lt_r rfl) rfl (LeA.refl _) (bnd_nf _ ((fun i => trivial))) trivial)) gl0n))) ?_
  intro k hk
  conv => whnf
  by_cases c : k < n
  · refine br_true (decide_eq_true ((by omega : (k : Int) < n))) ?_
    conv => whnf
    have hw := h.w k c
    have hwk := sumN_at (f := w) c
    refine ⟨by omega, ?_⟩
    conv => whnf
    refine call_x2 (r1_fd_x T (w k) (sumN w n) hT hW (by omega) hwk) (LeL.refl _) ?_
    rintro _ - rfl
    conv => whnf
    repeat' first
      | (refine And.intro (by first | rfl | omega | (constructor <;> omega) | (simp only [List.length_cons, List.length_nil]; omega) | fail) ?_; (conv => whnf))
      | (rw [okN]; (conv => whnf))
      | fail
    have hq := q_le (T := T) hW
    have hm := sumN_mono (f := qN T w n) (k := k + 1) (n := n) c
    have hsk : sumN (qN T w n) (k + 1) = sumN (qN T w n) k + qN T w n k := rfl
    refine ⟨k + 1, c, (by show n - (k + 1) < n - k; omega), (le_swap 0 3 gl0n).trans ((le_swap 1 5 gl0n).trans (le_st (le_r rfl) (leE_i rfl (inc_id c hn) (leE_i rfl rfl (leE_eq rfl (bnd_nf _ (nf_encF _ _)) (leE_i rfl rfl (leE_eq rfl (.inl (lt_r rfl)) (leE_eq rfl (.inl (lt_r rfl)) (leE_i rfl (?_) trivial))))))) (leO_box (lt_r rfl) rfl (?_ ) (bnd_nf _ ( (fun i => trivial))) (leO_box (lt_r rfl) rfl (?_ ) (bnd_nf _ ( (fun i => trivial))) trivial)) gl0n))⟩
    · rw [hsk, show T * w k / sumN w n = qN T w n k from rfl, wrap_id (by unfold in64; omega)]
      omega
    · exact leA_appR (fun i hi => rfl) rfl
    · exact leA_appR (fun i hi => rfl) rfl
  · refine br_false (decide_eq_false ((by omega : ¬ ((k : Int) < n)))) ?_
    conv => whnf
    obtain rfl : k = n := by omega
    refine loop_at mixed (fun (j : Nat) => ([(15, I j), (10, I (LN T w k : Nat)), (8, .sli 0 0 k 1 2), (9, .sli 1 0 k 1 2)], [(0, .box (.arr k 1 (fun i => I (pJ T w k j i)))), (1, .box (.arr k 1 (fun i => I (rJ T w k j i))))], 2)) (fun j => j ≤ LN T w k) (fun j => LN T w k - j) 0 (Nat.zero_le _) (le_st (le_r rfl) (leE_i rfl rfl (leE_i rfl rfl (leE_eq rfl (.inl (lt_r rfl)) (leE_eq rfl (.inl (lt_r rfl)) trivial)))) (leO_box (lt_r rfl) rfl (LeA.arr (fun i hi => LeA.of_eq rfl) ) (bnd_nf _ ( (fun i => trivial))) (leO_box (lt_r rfl) rfl (LeA.arr (fun i hi => LeA.of_eq rfl) ) (bnd_nf _ ( (fun i => trivial))) trivial)) gl0n) ?_
    intro j hj
    conv => whnf
    have hLT : LN T w k ≤ T := Nat.sub_le _ _
    by_cases cj : j < LN T w k
    · refine br_true (decide_eq_true ((by omega : (j : Int) < (LN T w k : Nat)))) ?_
      conv => whnf
      have hI := chI_all (T := T) hW j hj
      obtain ⟨c0, c1, c2⟩ := hI.best hW (fun i _ => Nat.mod_lt _ hW) (r_sum hW) cj
      have c0 : chS (rN T w k) k j (bJ T w k j k) = false := c0
      have c1 : bJ T w k j k < k := c1
      clear c2
      refine loop_at mixed (fun (i : Nat) => ([(17, I i), (16, I (bJ T w k j i : Nat)), (15, I j), (10, I (LN T w k : Nat)), (8, .sli 0 0 k 1 2), (9, .sli 1 0 k 1 2)], [(0, .box (.arr k 1 (fun i => I (pJ T w k j i)))), (1, .box (.arr k 1 (fun i => I (rJ T w k j i))))], 2)) (fun i => 1 ≤ i ∧ i ≤ k) (fun i => k - i) 1 ⟨Nat.le_refl _, h1⟩ (le_st (le_r rfl) (leE_i rfl rfl (leE_i rfl ((by rw [show bJ T w k j 1 = 0 from (by unfold bJ bestF; split <;> rfl)]; rfl)) (leE_i rfl rfl (leE_i rfl rfl (leE_eq rfl (.inl (lt_r rfl)) (leE_eq rfl (.inl (lt_r rfl)) trivial)))))) (leO_box (lt_r rfl) rfl (LeA.refl _) (bnd_nf _ ((fun i => trivial))) (leO_box (lt_r rfl) rfl (LeA.refl _) (bnd_nf _ ((fun i => trivial))) trivial)) gl0n) ?_
      intro i hi
      conv => whnf
      by_cases ci : i < k
      · refine br_true (decide_eq_true ((by omega : (i : Int) < k))) ?_
        conv => whnf
        have hb := bJ_lt T w k j (by omega) i hi.2
        repeat' first
          | (refine And.intro (by first | omega | (constructor <;> omega) | fail) ?_; (conv => whnf))
          | (rw [okN]; (conv => whnf))
          | fail
        have z1 : 0 + Int.toNat (i : Int) = i := Nat.zero_add _
        have z2 : 0 + Int.toNat (bJ T w k j i : Int) = bJ T w k j i := Nat.zero_add _
        rw [z1, z2]
        by_cases cg : rJ T w k j i > rJ T w k j (bJ T w k j i)
        · refine br_true (decide_eq_true (cg)) ?_
          conv => whnf
          exact ⟨i + 1, ⟨Nat.succ_le_succ (Nat.zero_le _), ci⟩, (by show k - (i + 1) < k - i; omega), (le_st (le_r rfl) (leE_i rfl (inc_id ci hn) (leE_i rfl ((by rw [bJ_s cg])) (leE_i rfl rfl (leE_i rfl rfl (leE_eq rfl (.inl (lt_r rfl)) (leE_eq rfl (.inl (lt_r rfl)) trivial)))))) (leO_box (lt_r rfl) rfl (LeA.refl _) (bnd_nf _ ((fun i => trivial))) (leO_box (lt_r rfl) rfl (LeA.refl _) (bnd_nf _ ((fun i => trivial))) trivial)) gl0n)⟩
        · refine br_false (decide_eq_false (cg)) ?_
          conv => whnf
          exact ⟨i + 1, ⟨Nat.succ_le_succ (Nat.zero_le _), ci⟩, (by show k - (i + 1) < k - i; omega), (le_st (le_r rfl) (leE_i rfl (inc_id ci hn) (leE_i rfl ((by rw [bJ_o cg])) (leE_i rfl rfl (leE_i rfl rfl (leE_eq rfl (.inl (lt_r rfl)) (leE_eq rfl (.inl (lt_r rfl)) trivial)))))) (leO_box (lt_r rfl) rfl (LeA.refl _) (bnd_nf _ ((fun i => trivial))) (leO_box (lt_r rfl) rfl (LeA.refl _) (bnd_nf _ ((fun i => trivial))) trivial)) gl0n)⟩
      · refine br_false (decide_eq_false ((by omega : ¬ ((i : Int) < k)))) ?_
        conv => whnf
        have hi2 : i = k := by omega
        subst hi2
        repeat' first
          | (refine And.intro (by first | omega | (constructor <;> omega) | fail) ?_; (conv => whnf))
          | (rw [okN]; (conv => whnf))
          | fail
        exact ⟨j + 1, cj, (by show LN T w i - (j + 1) < LN T w i - j; omega), (le_st (le_r rfl) (leE_i rfl ((by rw [wrap_id (by unfold in64; omega)]; omega)) (leE_i rfl rfl (leE_eq rfl (.inl (lt_r rfl)) (leE_eq rfl (.inl (lt_r rfl)) trivial)))) (leO_box (lt_r rfl) rfl (leA_setF (Nat.zero_add _) (by rw [show 0 + Int.toNat (bJ T w i j i : Int) = bJ T w i j i from Nat.zero_add _]; exact (pJ_in hT hW cj c1 c0).symm) (fun q hq => pJ_o hq) ) (bnd_nf _ ( (fun i => trivial))) (leO_box (lt_r rfl) rfl (leA_setF (Nat.zero_add _) (rJ_b T w i j) (fun q hq => rJ_o hq) ) (bnd_nf _ ( (fun i => trivial))) trivial)) gl0n)⟩
    · refine br_false (decide_eq_false ((by omega : ¬ ((j : Int) < (LN T w k : Nat))))) ?_
      conv => whnf
      have hj2 : j = LN T w k := by omega
      refine fin_le (le_freeze 4 0 rfl rfl) ?_
      refine fin_r (tup2 (encF k (pN T w k)) (B true)) ⟨nf_encF _ _, trivial, trivial⟩ rfl ?_
      conv => whnf
      rw [hj2]
      exact Le.refl _

end Go.Proofs.Ytdjmplfjpnikkaa
