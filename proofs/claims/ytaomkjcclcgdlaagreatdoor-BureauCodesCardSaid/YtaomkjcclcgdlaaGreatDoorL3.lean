/- Contracts of the document's money (chapter 1): no call of them can fail; how long the digits' lists are. No condition. -/
import Derived.Test.YtaomkjcclcgdlaaGreatDoorL1
set_option linter.all false
namespace Go.Proofs.YtaomkjcclcgdlaaGreatDoor
open Go Ar
set_option linter.unusedVariables false
set_option autoImplicit false
set_option maxHeartbeats 4000000
set_option maxRecDepth 100000

abbrev QL (k : Nat) : AV → Prop := fun r => ∃ xs, r = encL I 1 xs ∧ xs.length = k

theorem r1_high_s (x : Int) : PureX Tryz.prog gl0 r1_high [I x] (QI) := by
  refine pure_fnX mixed fn_r1_high nt_r1_high hc_r1_high (by simp) gl0n (by simp [nf]) ?_
  conv => whnf
  repeat' first
    | (refine br_dec (fun h0 => ?_) (fun h0 => ?_) <;> (conv => whnf))
    | (refine br_intro (fun hb => ?_) (fun hb => ?_) <;> ((try rw [hb]); (conv => whnf); (try simp at hb)))
    | (refine aI ?_; (conv => whnf))
    | (refine fin_e ?_; (conv => whnf); exact lfA)
    | fail

theorem r1_lowOf_s (x : Int) : PureX Tryz.prog gl0 r1_lowOf [I x] (QI) := by
  refine pure_fnX mixed fn_r1_lowOf nt_r1_lowOf hc_r1_lowOf (by simp) gl0n (by simp [nf]) ?_
  conv => whnf
  repeat' first
    | (refine br_dec (fun h0 => ?_) (fun h0 => ?_) <;> (conv => whnf))
    | (refine br_intro (fun hb => ?_) (fun hb => ?_) <;> ((try rw [hb]); (conv => whnf); (try simp at hb)))
    | (refine call_x2 (r1_high_s _) ⟨Le.refl _, trivial⟩ ?_; (first | (rintro _ - ⟨_, rfl⟩) | (rintro _ - ⟨_, rfl, _⟩) | (rintro _ - ⟨_, _, rfl⟩) | (rintro _ - ⟨_, _, rfl, _⟩) | (rintro _ - ⟨_, _, _, rfl⟩) | (rintro _ - ⟨_, _, _, rfl, _⟩)); (conv => whnf))
    | (refine aI ?_; (conv => whnf))
    | (refine fin_e ?_; (conv => whnf); exact lfA)
    | fail

theorem r1_joined_s (x y : Int) : PureX Tryz.prog gl0 r1_joined [I x, I y] (QIB) := by
  refine pure_fnX mixed fn_r1_joined nt_r1_joined hc_r1_joined (by simp) gl0n (by simp [nf]) ?_
  conv => whnf
  repeat' first
    | (refine br_dec (fun h0 => ?_) (fun h0 => ?_) <;> (conv => whnf))
    | (refine br_intro (fun hb => ?_) (fun hb => ?_) <;> ((try rw [hb]); (conv => whnf); (try simp at hb)))
    | (refine aI ?_; (conv => whnf))
    | (refine fin_e ?_; (conv => whnf); exact lfA)
    | fail

theorem r1_size_s (x : Int) : PureX Tryz.prog gl0 r1_size [I x] (QU) := by
  refine pure_fnX mixed fn_r1_size nt_r1_size hc_r1_size (by simp) gl0n (by simp [nf]) ?_
  conv => whnf
  repeat' first
    | (refine br_dec (fun h0 => ?_) (fun h0 => ?_) <;> (conv => whnf))
    | (refine br_intro (fun hb => ?_) (fun hb => ?_) <;> ((try rw [hb]); (conv => whnf); (try simp at hb)))
    | (refine aI ?_; (conv => whnf))
    | (refine fin_e ?_; (conv => whnf); exact lfA)
    | fail

theorem r1_Sum_s (xs : List Int) (hn : (xs.length : Int) < 9223372036854775808) : PureX Tryz.prog gl0 r1_Sum [encL I 1 xs] (QIB) := by
  refine pure_fnX mixed fn_r1_Sum nt_r1_Sum hc_r1_Sum (by simp) gl0n (by simp [nf]) ?_
  conv => whnf
  refine loop_at mixed (fun (y : Nat × Int × Int) => ([(6, I y.1), (4, I y.2.1), (5, I y.2.2), (0, encL I 1 xs)], [], 0)) (fun y => y.1 ≤ xs.length) (fun y => xs.length - y.1) (0, 0, 0) (Nat.zero_le _) (le_st (le_r rfl) (leE_i rfl rfl (leE_i rfl rfl (leE_i rfl rfl (leE_eq rfl (bnd_nf _ (nfL_I _ _)) trivial)))) trivial gl0n) ?_
  rintro ⟨k, h, l⟩ hk
  conv => whnf
  by_cases c : k < xs.length
  · refine br_true (decide_eq_true ((by omega : (k : Int) < xs.length))) ?_
    conv => whnf
    repeat' first
      | (refine br_dec (fun h0 => ?_) (fun h0 => ?_) <;> (conv => whnf))
      | (refine br_intro (fun hb => ?_) (fun hb => ?_) <;> ((try rw [hb]); (conv => whnf); (try simp at hb)))
      | (refine call_x2 (r1_high_s _) ⟨Le.refl _, trivial⟩ ?_; (first | (rintro _ - ⟨_, rfl⟩) | (rintro _ - ⟨_, rfl, _⟩) | (rintro _ - ⟨_, _, rfl⟩) | (rintro _ - ⟨_, _, rfl, _⟩) | (rintro _ - ⟨_, _, _, rfl⟩) | (rintro _ - ⟨_, _, _, rfl, _⟩)); (conv => whnf))
      | (refine call_x2 (r1_lowOf_s _) ⟨Le.refl _, trivial⟩ ?_; (first | (rintro _ - ⟨_, rfl⟩) | (rintro _ - ⟨_, rfl, _⟩) | (rintro _ - ⟨_, _, rfl⟩) | (rintro _ - ⟨_, _, rfl, _⟩) | (rintro _ - ⟨_, _, _, rfl⟩) | (rintro _ - ⟨_, _, _, rfl, _⟩)); (conv => whnf))
      | (exact ⟨(k + 1, _, _), c, by show xs.length - (k + 1) < xs.length - k; omega, (le_st (le_r rfl) (leE_i rfl (inc_id c hn) (leE_i rfl rfl (leE_i rfl rfl (leE_eq rfl (bnd_nf _ (nfL_I _ _)) trivial)))) trivial gl0n)⟩)
      | (refine aI ?_; (conv => whnf))
      | (refine fin_e ?_; (conv => whnf); exact lfA)
      | fail
  · refine br_false (decide_eq_false ((by omega : ¬ ((k : Int) < xs.length)))) ?_
    conv => whnf
    repeat' first
      | (refine br_dec (fun h0 => ?_) (fun h0 => ?_) <;> (conv => whnf))
      | (refine br_intro (fun hb => ?_) (fun hb => ?_) <;> ((try rw [hb]); (conv => whnf); (try simp at hb)))
      | (refine call_x2 (r1_joined_s _ _) ⟨Le.refl _, Le.refl _, trivial⟩ ?_; (first | (rintro _ - ⟨_, rfl⟩) | (rintro _ - ⟨_, rfl, _⟩) | (rintro _ - ⟨_, _, rfl⟩) | (rintro _ - ⟨_, _, rfl, _⟩) | (rintro _ - ⟨_, _, _, rfl⟩) | (rintro _ - ⟨_, _, _, rfl, _⟩)); (conv => whnf))
      | (refine aI ?_; (conv => whnf))
      | (refine fin_e ?_; (conv => whnf); exact lfA)
      | fail

theorem r1_digits_s (m : Int) : PureX Tryz.prog gl0 r1_digits [U m] (QL 64) := by
  refine pure_fnX mixed fn_r1_digits nt_r1_digits hc_r1_digits (by simp) gl0n (by simp [nf]) ?_
  conv => whnf
  refine loop_at mixed (fun (y : Nat × List Int × Int) => ([(4, I y.1), (3, encT (some 0) I 1 y.2.1), (0, U y.2.2)], [(0, .room y.2.1.length 1 3)], 1)) (fun y => y.1 ≤ 64 ∧ y.2.1.length = y.1) (fun y => 64 - y.1) (0, [], m) ⟨Nat.zero_le _, rfl⟩ ((le_nil 3 1 3 (fun i => I (at_ ([] : List Int) i)) rfl).trans (le_st (le_r rfl) (leE_i rfl rfl (leE_eq rfl (bnd_encT nf_I (lt_r rfl)) (leE_i rfl rfl trivial))) (leO_room (lt_r rfl) rfl trivial) gl0n)) ?_
  rintro ⟨k, xs, m⟩ ⟨hk, hl⟩
  dsimp only at hk hl ⊢
  conv => whnf
  have hn : ((64 : Nat) : Int) < 9223372036854775808 := by decide
  by_cases c : k < 64
  · refine br_true (decide_eq_true ((by omega : (k : Int) < 64))) ?_
    conv => whnf
    repeat' first
      | (refine br_dec (fun h0 => ?_) (fun h0 => ?_) <;> (conv => whnf))
      | (refine br_intro (fun hb => ?_) (fun hb => ?_) <;> ((try rw [hb]); (conv => whnf); (try simp at hb)))
      | (exact ⟨(k + 1, xs ++ [_], _), ⟨c, by simp [hl]⟩, by show 64 - (k + 1) < 64 - k; omega, (le_st (le_r rfl) (leE_i rfl (inc_id c hn) (leE_le rfl (leA_snoc (enc := I) (by exact LeA.refl _)).le (bnd_encT nf_I (lt_r rfl)) (leE_i rfl rfl trivial))) (leO_room (lt_r rfl) (by (simp; rfl)) trivial) gl0n)⟩)
      | (refine aI ?_; (conv => whnf))
      | (refine fin_e ?_; (conv => whnf); exact lfA)
      | fail
  · refine br_false (decide_eq_false ((by omega : ¬ ((k : Int) < 64)))) ?_
    conv => whnf
    refine fin_r (encL I 1 xs) (nfL_I _ _) ⟨xs, rfl, by omega⟩ ?_
    conv => whnf
    exact leA_drop.le

theorem r1_more_s (d : List Int) (hn : (d.length : Int) < 100000) : PureX Tryz.prog gl0 r1_more [encL I 1 d] (QL d.length) := by
  refine pure_fnX mixed fn_r1_more nt_r1_more hc_r1_more (by simp) gl0n (by simp [nf]) ?_
  conv => whnf
  refine loop_at mixed (fun (y : Nat × List Int × Int) => ([(5, I y.1), (3, encT (some 0) I 1 y.2.1), (4, I y.2.2), (0, encL I 1 d)], [(0, .room y.2.1.length 1 3)], 1)) (fun y => y.1 ≤ d.length ∧ y.2.1.length = y.1) (fun y => d.length - y.1) (0, [], 1) ⟨Nat.zero_le _, rfl⟩ ((le_nil 3 1 3 (fun i => I (at_ ([] : List Int) i)) rfl).trans (le_st (le_r rfl) (leE_i rfl rfl (leE_eq rfl (bnd_encT nf_I (lt_r rfl)) (leE_i rfl rfl (leE_eq rfl (bnd_nf _ (nfL_I _ _)) trivial)))) (leO_room (lt_r rfl) rfl trivial) gl0n)) ?_
  rintro ⟨k, xs, m⟩ ⟨hk, hl⟩
  dsimp only at hk hl ⊢
  conv => whnf
  have hn : (d.length : Int) < 9223372036854775808 := by omega
  by_cases c : k < d.length
  · refine br_true (decide_eq_true ((by omega : (k : Int) < d.length))) ?_
    conv => whnf
    repeat' first
      | (refine br_dec (fun h0 => ?_) (fun h0 => ?_) <;> (conv => whnf))
      | (refine br_intro (fun hb => ?_) (fun hb => ?_) <;> ((try rw [hb]); (conv => whnf); (try simp at hb)))
      | (exact ⟨(k + 1, xs ++ [_], _), ⟨c, by simp [hl]⟩, by show d.length - (k + 1) < d.length - k; omega, (le_st (le_r rfl) (leE_i rfl (inc_id c hn) (leE_le rfl (leA_snoc (enc := I) (by exact LeA.refl _)).le (bnd_encT nf_I (lt_r rfl)) (leE_i rfl rfl (leE_eq rfl (bnd_nf _ (nfL_I _ _)) trivial)))) (leO_room (lt_r rfl) (by (simp; rfl)) trivial) gl0n)⟩)
      | (refine aI ?_; (conv => whnf))
      | (refine fin_e ?_; (conv => whnf); exact lfA)
      | fail
  · refine br_false (decide_eq_false ((by omega : ¬ ((k : Int) < d.length)))) ?_
    conv => whnf
    refine fin_r (encL I 1 xs) (nfL_I _ _) ⟨xs, rfl, by omega⟩ ?_
    conv => whnf
    exact leA_drop.le

theorem r1_signed_s (b : Bool) (d : List Int) (hd : d.length = 128) : PureX Tryz.prog gl0 r1_signed [B b, encL I 1 d] (QIB) := by
  refine pure_fnX mixed fn_r1_signed nt_r1_signed hc_r1_signed (by simp) gl0n (by simp [nf]) ?_
  conv => whnf
  have hn : (d.length : Int) < 9223372036854775808 := by omega
  refine loop_at mixed (fun (k : Nat) => ([(6, I k), (1, encL I 1 d), (0, B b)], [], 0)) (fun k => 64 ≤ k ∧ k ≤ d.length) (fun k => d.length - k) 64 ⟨by omega, by omega⟩ (le_st (le_r rfl) (leE_i rfl rfl (leE_eq rfl (bnd_nf _ (nfL_I _ _)) (leE_b rfl rfl trivial))) trivial gl0n) ?_
  intro k ⟨h64, hk⟩
  conv => whnf
  by_cases c : k < d.length
  · refine br_true (decide_eq_true ((by omega : (k : Int) < d.length))) ?_
    conv => whnf
    repeat' first
      | (refine br_dec (fun h0 => ?_) (fun h0 => ?_) <;> (conv => whnf))
      | (refine br_intro (fun hb => ?_) (fun hb => ?_) <;> ((try rw [hb]); (conv => whnf); (try simp at hb)))
      | (exact ⟨k + 1, ⟨by omega, c⟩, by show d.length - (k + 1) < d.length - k; omega, (le_st (le_r rfl) (leE_i rfl (inc_id c hn) (leE_eq rfl (bnd_nf _ (nfL_I _ _)) (leE_b rfl rfl trivial))) trivial gl0n)⟩)
      | (refine aI ?_; (conv => whnf))
      | (refine fin_e ?_; (conv => whnf); exact lfA)
      | fail
  · refine br_false (decide_eq_false ((by omega : ¬ ((k : Int) < d.length)))) ?_
    conv => whnf
    refine loop_at mixed (fun (y : Nat × Int × Int) => ([(8, I y.2.1), (7, U y.2.2), (1, encL I 1 d), (0, B b)], [], 0)) (fun y => y.2.1 = (y.1 : Int) - 1 ∧ y.1 ≤ 64) (fun y => y.1) (64, 63, 0) ⟨by simp, by simp⟩ (le_st (le_r rfl) (leE_i rfl rfl (leE_i rfl rfl (leE_eq rfl (bnd_nf _ (nfL_I _ _)) (leE_b rfl rfl trivial)))) trivial gl0n) ?_
    rintro ⟨j, i, m⟩ ⟨hj, h2⟩
    dsimp only at hj h2 ⊢
    conv => whnf
    by_cases c : i ≥ 0
    · refine br_true (decide_eq_true (c)) ?_
      conv => whnf
      repeat' first
        | (refine br_dec (fun h0 => ?_) (fun h0 => ?_) <;> (conv => whnf))
        | (refine br_intro (fun hb => ?_) (fun hb => ?_) <;> ((try rw [hb]); (conv => whnf); (try simp at hb)))
        | (exact ⟨(j - 1, i - 1, _), ⟨by show i - 1 = ((j - 1 : Nat) : Int) - 1; omega, by show j - 1 ≤ 64; omega⟩, by show j - 1 < j; omega, (le_st (le_r rfl) (leE_i rfl ((by rw [wrap_id (by unfold in64; omega)])) (leE_i rfl rfl (leE_eq rfl (bnd_nf _ (nfL_I _ _)) (leE_b rfl rfl trivial)))) trivial gl0n)⟩)
        | (refine aI ?_; (conv => whnf))
        | (refine fin_e ?_; (conv => whnf); exact lfA)
        | fail
    · refine br_false (decide_eq_false (c)) ?_
      conv => whnf
      cases b <;> (conv => whnf)
      all_goals
       repeat' first
         | (refine br_dec (fun h0 => ?_) (fun h0 => ?_) <;> (conv => whnf))
         | (refine br_intro (fun hb => ?_) (fun hb => ?_) <;> ((try rw [hb]); (conv => whnf); (try simp at hb)))
         | (refine aI ?_; (conv => whnf))
         | (refine fin_e ?_; (conv => whnf); exact lfA)
         | fail

theorem r1_over_s (d : List Int) (m : Int) (hd : d.length = 128) : PureX Tryz.prog gl0 r1_over [encL I 1 d, U m] (fun r => ∃ xs n, r = tup2 (encL I 1 xs) (U n) ∧ xs.length = 128) := by
  refine pure_fnX mixed fn_r1_over nt_r1_over hc_r1_over (by simp) gl0n (by simp [nf]) ?_
  conv => whnf
  have hn : (d.length : Int) < 9223372036854775808 := by omega
  refine loop_at mixed (fun (y : Nat × List Int) => ([(7, I y.1), (6, .sli 0 0 y.2.length 1 3), (0, encL I 1 d), (1, U m)], [(0, .box (.arr y.2.length 1 fun i => I (at_ y.2 i)))], 1)) (fun y => y.1 ≤ d.length ∧ y.2.length = y.1) (fun y => d.length - y.1) (0, []) ⟨Nat.zero_le _, rfl⟩ ((le_nilv 6 1 3 (fun i => I (at_ ([] : List Int) i)) rfl).trans (le_st (le_r rfl) (leE_i rfl rfl (leE_eq rfl (.inl (lt_r rfl)) (leE_eq rfl (bnd_nf _ (nfL_I _ _)) (leE_i rfl rfl trivial)))) (leO_box (lt_r rfl) rfl (LeA.refl _) (bnd_nf _ (fun i => trivial)) trivial) gl0n)) ?_
  rintro ⟨k, xs⟩ ⟨hk, hl⟩
  dsimp only at hk hl ⊢
  conv => whnf
  by_cases c : k < d.length
  · refine br_true (decide_eq_true ((by omega : (k : Int) < d.length))) ?_
    conv => whnf
    repeat' first
      | (refine br_dec (fun h0 => ?_) (fun h0 => ?_) <;> (conv => whnf))
      | (refine br_intro (fun hb => ?_) (fun hb => ?_) <;> ((try rw [hb]); (conv => whnf); (try simp at hb)))
      | (exact ⟨(k + 1, xs ++ [0]), ⟨c, by simp [hl]⟩, by show d.length - (k + 1) < d.length - k; omega, (le_swap 0 2 gl0n).trans (le_st (le_r rfl) (leE_i rfl (inc_id c hn) (leE_le rfl (le_sli (by simp)) (.inl (lt_r rfl)) (leE_eq rfl (bnd_nf _ (nfL_I _ _)) (leE_i rfl rfl trivial)))) (leO_box (lt_r rfl) rfl (leA_grow rfl rfl) (fun i => trivial) trivial) gl0n)⟩)
      | (refine aI ?_; (conv => whnf))
      | (refine fin_e ?_; (conv => whnf); exact lfA)
      | fail
  · refine br_false (decide_eq_false ((by omega : ¬ ((k : Int) < d.length)))) ?_
    conv => whnf
    have hl2 : xs.length = 128 := by omega
    refine loop_at mixed (fun (y : Nat × Int × (Nat → Int)) => ([(9, I ((y.1 : Int) - 1)), (8, U y.2.1), (6, .sli 0 0 128 1 3), (0, encL I 1 d), (1, U m)], [(0, .box (.arr 128 1 fun i => I (y.2.2 i)))], 1)) (fun y => y.1 ≤ 128) (fun y => y.1) (128, 0, fun i => at_ xs i) (Nat.le_refl _) ?_ ?_
    · rw [← hl2]
      exact (le_st (le_r rfl) (leE_i rfl (by rw [wrap_id (by unfold in64; omega)]; omega) (leE_i rfl rfl (leE_eq rfl (.inl (lt_r rfl)) (leE_eq rfl (bnd_nf _ (nfL_I _ _)) (leE_i rfl rfl trivial))))) (leO_box (lt_r rfl) rfl (LeA.refl _) (fun i => trivial) trivial) gl0n)
    · rintro ⟨j, r, g⟩ hj
      dsimp only at hj ⊢
      conv => whnf
      by_cases c : (j : Int) - 1 ≥ 0
      · refine br_true (decide_eq_true (c)) ?_
        conv => whnf
        repeat' first
          | (refine br_dec (fun h0 => ?_) (fun h0 => ?_) <;> (conv => whnf))
          | (refine br_intro (fun hb => ?_) (fun hb => ?_) <;> ((try rw [hb]); (conv => whnf); (try simp at hb)))
          | (exact ⟨(j - 1, _, _), (by show j - 1 ≤ 128; omega), (by show j - 1 < j; omega), (le_st (le_r rfl) (leE_i rfl (by rw [wrap_id (by unfold in64; omega)]; show (j : Int) - 1 - 1 = ((j - 1 : Nat) : Int) - 1; omega) (leE_i rfl rfl (leE_eq rfl (.inl (lt_r rfl)) (leE_eq rfl (bnd_nf _ (nfL_I _ _)) (leE_i rfl rfl trivial))))) (leO_box (lt_r rfl) rfl (LeA.refl _) (fun i => trivial) trivial) gl0n)⟩)
          | (refine aI ?_; (conv => whnf))
          | (refine fin_e ?_; (conv => whnf); exact lfA)
          | fail
      · refine br_false (decide_eq_false (c)) ?_
        conv => whnf
        refine fin_le (le_freeze 4 0 rfl rfl) ?_
        obtain ⟨ys, h1, h2⟩ := ints_of (tok := none) (n := 128) (f := fun i => I (g i)) (fun i => ⟨_, rfl⟩)
        refine fin_r (tup2 (encL I 1 ys) (U r)) ⟨nfL_I _ _, trivial, trivial⟩ ⟨ys, r, rfl, h1⟩ ?_
        conv => whnf
        exact (LeA.tup (LeA.cons h2 (LeA.refl _))).le

end Go.Proofs.YtaomkjcclcgdlaaGreatDoor
namespace Go.Proofs.YtaomkjcclcgdlaaGreatDoor
open Go Ar
set_option linter.unusedVariables false
set_option autoImplicit false
set_option maxHeartbeats 4000000
set_option maxRecDepth 100000

theorem r1_times_s (a b : List Int) (ha : a.length = 64) (hb : b.length = 64) : PureX Tryz.prog gl0 r1_times [encL I 1 a, encL I 1 b] (QL 128) := by
  refine pure_fnX mixed fn_r1_times nt_r1_times hc_r1_times (by simp) gl0n (by simp [nf]) ?_
  conv => whnf
  refine loop_at mixed (fun (y : Nat × List Int) => ([(6, I y.1), (5, .sli 0 0 y.2.length 1 3), (0, encL I 1 a), (1, encL I 1 b)], [(0, .box (.arr y.2.length 1 fun i => I (at_ y.2 i)))], 1)) (fun y => y.1 ≤ 128 ∧ y.2.length = y.1) (fun y => 128 - y.1) (0, []) ⟨Nat.zero_le _, rfl⟩ ((le_nilv 5 1 3 (fun i => I (at_ ([] : List Int) i)) rfl).trans (le_st (le_r rfl) (leE_i rfl rfl (leE_eq rfl (.inl (lt_r rfl)) (leE_eq rfl (bnd_nf _ (nfL_I _ _)) (leE_eq rfl (bnd_nf _ (nfL_I _ _)) trivial)))) (leO_box (lt_r rfl) rfl (LeA.refl _) (bnd_nf _ (fun i => trivial)) trivial) gl0n)) ?_
  rintro ⟨k, xs⟩ ⟨hk, hl⟩
  dsimp only at hk hl ⊢
  conv => whnf
  have hn : ((128 : Nat) : Int) < 9223372036854775808 := by decide
  by_cases c : k < 128
  · refine br_true (decide_eq_true ((by omega : (k : Int) < 128))) ?_
    conv => whnf
    repeat' first
      | (refine br_dec (fun h0 => ?_) (fun h0 => ?_) <;> (conv => whnf))
      | (refine br_intro (fun hb => ?_) (fun hb => ?_) <;> ((try rw [hb]); (conv => whnf); (try simp at hb)))
      | (exact ⟨(k + 1, xs ++ [0]), ⟨c, by simp [hl]⟩, by show 128 - (k + 1) < 128 - k; omega, (le_swap 0 2 gl0n).trans (le_st (le_r rfl) (leE_i rfl (inc_id c hn) (leE_le rfl (le_sli (by simp)) (.inl (lt_r rfl)) (leE_eq rfl (bnd_nf _ (nfL_I _ _)) (leE_eq rfl (bnd_nf _ (nfL_I _ _)) trivial)))) (leO_box (lt_r rfl) rfl (leA_grow rfl rfl) (fun i => trivial) trivial) gl0n)⟩)
      | (refine aI ?_; (conv => whnf))
      | (refine fin_e ?_; (conv => whnf); exact lfA)
      | fail
  · refine br_false (decide_eq_false ((by omega : ¬ ((k : Int) < 128)))) ?_
    conv => whnf
    have hl2 : xs.length = 128 := by omega
    refine loop_at mixed (fun (y : Nat × (Nat → Int)) => ([(7, I y.1), (5, .sli 0 0 128 1 3), (0, encL I 1 a), (1, encL I 1 b)], [(0, .box (.arr 128 1 fun i => I (y.2 i)))], 1)) (fun y => y.1 ≤ a.length) (fun y => a.length - y.1) (0, fun i => at_ xs i) (Nat.zero_le _) ?_ ?_
    · rw [← hl2]
      exact (le_st (le_r rfl) (leE_i rfl rfl (leE_eq rfl (.inl (lt_r rfl)) (leE_eq rfl (bnd_nf _ (nfL_I _ _)) (leE_eq rfl (bnd_nf _ (nfL_I _ _)) trivial)))) (leO_box (lt_r rfl) rfl (LeA.refl _) (bnd_nf _ (fun i => trivial)) trivial) gl0n)
    · rintro ⟨i, g⟩ hi
      dsimp only at hi ⊢
      conv => whnf
      have hna : (a.length : Int) < 9223372036854775808 := by omega
      have hnb : (b.length : Int) < 9223372036854775808 := by omega
      by_cases c : i < a.length
      · refine br_true (decide_eq_true ((by omega : (i : Int) < a.length))) ?_
        conv => whnf
        refine loop_at mixed (fun (y : Nat × (Nat → Int)) => ([(8, I y.1), (7, I i), (5, .sli 0 0 128 1 3), (0, encL I 1 a), (1, encL I 1 b)], [(0, .box (.arr 128 1 fun i => I (y.2 i)))], 1)) (fun y => y.1 ≤ b.length) (fun y => b.length - y.1) (0, g) (Nat.zero_le _) (le_st (le_r rfl) (leE_i rfl rfl (leE_i rfl rfl (leE_eq rfl (.inl (lt_r rfl)) (leE_eq rfl (bnd_nf _ (nfL_I _ _)) (leE_eq rfl (bnd_nf _ (nfL_I _ _)) trivial))))) (leO_box (lt_r rfl) rfl (LeA.refl _) (bnd_nf _ (fun i => trivial)) trivial) gl0n) ?_
        rintro ⟨j, g2⟩ hj
        dsimp only at hj ⊢
        conv => whnf
        by_cases c2 : j < b.length
        · refine br_true (decide_eq_true ((by omega : (j : Int) < b.length))) ?_
          conv => whnf
          have hij : IntKind.i64.wrap ((i : Int) + j) = (i : Int) + j := wrap_id (by unfold in64; omega)
          repeat' first
            | (refine br_dec (fun h0 => ?_) (fun h0 => ?_) <;> (conv => whnf))
            | (refine br_intro (fun hb => ?_) (fun hb => ?_) <;> ((try rw [hb]); (conv => whnf); (try simp at hb)))
            | (exact ⟨(j + 1, _), c2, (by show b.length - (j + 1) < b.length - j; omega), (le_st (le_r rfl) (leE_i rfl (inc_id c2 hnb) (leE_i rfl rfl (leE_eq rfl (.inl (lt_r rfl)) (leE_eq rfl (bnd_nf _ (nfL_I _ _)) (leE_eq rfl (bnd_nf _ (nfL_I _ _)) trivial))))) (leO_box (lt_r rfl) rfl (LeA.refl _ ) (bnd_nf _ ( fun i => trivial)) trivial) gl0n)⟩)
            | (refine And.intro ?_ ?_; (rw [hij]; omega); (conv => whnf))
            | (refine And.intro ?_ ?_; (rw [hij]; constructor <;> omega); (conv => whnf))
            | (refine aI ?_; (conv => whnf))
            | (refine fin_e ?_; (conv => whnf); exact lfA)
            | fail
        · refine br_false (decide_eq_false ((by omega : ¬ ((j : Int) < b.length)))) ?_
          conv => whnf
          repeat' first
            | (refine br_dec (fun h0 => ?_) (fun h0 => ?_) <;> (conv => whnf))
            | (refine br_intro (fun hb => ?_) (fun hb => ?_) <;> ((try rw [hb]); (conv => whnf); (try simp at hb)))
            | (exact ⟨(i + 1, g2), c, (by show a.length - (i + 1) < a.length - i; omega), (le_st (le_r rfl) (leE_i rfl (inc_id c hna) (leE_eq rfl (.inl (lt_r rfl)) (leE_eq rfl (bnd_nf _ (nfL_I _ _)) (leE_eq rfl (bnd_nf _ (nfL_I _ _)) trivial)))) (leO_box (lt_r rfl) rfl (LeA.refl _) (bnd_nf _ (fun i => trivial)) trivial) gl0n)⟩)
            | (refine aI ?_; (conv => whnf))
            | (refine fin_e ?_; (conv => whnf); exact lfA)
            | fail
      · refine br_false (decide_eq_false ((by omega : ¬ ((i : Int) < a.length)))) ?_
        conv => whnf
        refine loop_at mixed (fun (y : Nat × Int × (Nat → Int)) => ([(10, I y.1), (9, I y.2.1), (5, .sli 0 0 128 1 3)], [(0, .box (.arr 128 1 fun i => I (y.2.2 i)))], 1)) (fun y => y.1 ≤ 128) (fun y => 128 - y.1) (0, 0, g) (Nat.zero_le _) (le_st (le_r rfl) (leE_i rfl rfl (leE_i rfl rfl (leE_eq rfl (.inl (lt_r rfl)) trivial))) (leO_box (lt_r rfl) rfl (LeA.refl _) (bnd_nf _ (fun i => trivial)) trivial) gl0n) ?_
        rintro ⟨q, cy, g2⟩ hq
        dsimp only at hq ⊢
        conv => whnf
        by_cases c3 : q < 128
        · refine br_true (decide_eq_true ((by omega : (q : Int) < 128))) ?_
          conv => whnf
          repeat' first
            | (refine br_dec (fun h0 => ?_) (fun h0 => ?_) <;> (conv => whnf))
            | (refine br_intro (fun hb => ?_) (fun hb => ?_) <;> ((try rw [hb]); (conv => whnf); (try simp at hb)))
            | (exact ⟨(q + 1, _, _), c3, (by show 128 - (q + 1) < 128 - q; omega), (le_st (le_r rfl) (leE_i rfl (inc_id c3 hn) (leE_i rfl rfl (leE_eq rfl (.inl (lt_r rfl)) trivial))) (leO_box (lt_r rfl) rfl (LeA.refl _ ) (bnd_nf _ ( fun i => trivial)) trivial) gl0n)⟩)
            | (refine aI ?_; (conv => whnf))
            | (refine fin_e ?_; (conv => whnf); exact lfA)
            | fail
        · refine br_false (decide_eq_false ((by omega : ¬ ((q : Int) < 128)))) ?_
          conv => whnf
          refine fin_le (le_freeze 4 0 rfl rfl) ?_
          obtain ⟨ys, h1, h2⟩ := ints_of (tok := none) (n := 128) (f := fun i => I (g2 i)) (fun i => ⟨_, rfl⟩)
          refine fin_r (encL I 1 ys) (nfL_I _ _) ⟨ys, rfl, h1⟩ ?_
          conv => whnf
          exact h2.le

theorem r1_MulDiv_s (a b c : Int) : PureX Tryz.prog gl0 r1_MulDiv [I a, I b, I c] (QIB) := by
  refine pure_fnX mixed fn_r1_MulDiv nt_r1_MulDiv hc_r1_MulDiv (by simp) gl0n (by simp [nf]) ?_
  conv => whnf
  repeat' first
    | (refine br_dec (fun h0 => ?_) (fun h0 => ?_) <;> (conv => whnf))
    | (refine br_intro (fun hb => ?_) (fun hb => ?_) <;> ((try rw [hb]); (conv => whnf); (try simp at hb)))
    | (refine call_x2 (r1_size_s _) ⟨Le.refl _, trivial⟩ ?_; (first | (rintro _ - ⟨_, rfl⟩) | (rintro _ - ⟨_, rfl, _⟩) | (rintro _ - ⟨_, _, rfl⟩) | (rintro _ - ⟨_, _, rfl, _⟩) | (rintro _ - ⟨_, _, _, rfl⟩) | (rintro _ - ⟨_, _, _, rfl, _⟩)); (conv => whnf))
    | (refine call_x2 (r1_digits_s _) ⟨Le.refl _, trivial⟩ ?_; (rintro _ - ⟨xs, rfl, hxs⟩); (conv => whnf))
    | (refine call_x2 (r1_times_s _ _ (by assumption) (by assumption)) ⟨Le.refl _, Le.refl _, trivial⟩ ?_; (rintro _ - ⟨xs, rfl, hxs⟩); (conv => whnf))
    | (refine call_x2 (r1_over_s _ _ (by assumption)) ⟨Le.refl _, Le.refl _, trivial⟩ ?_; (rintro _ - ⟨xs, m, rfl, hxs⟩); (conv => whnf))
    | (refine call_x2 (r1_more_s _ (by omega)) ⟨Le.refl _, trivial⟩ ?_; (rintro _ - ⟨xs, rfl, hxs⟩); (conv => whnf))
    | (refine call_x2 (r1_signed_s _ _ (by omega)) ⟨Le.refl _, Le.refl _, trivial⟩ ?_; rintro _ - ⟨_, _ | _, rfl⟩ <;> (conv => whnf))
    | (refine aI ?_; (conv => whnf))
    | (refine fin_e ?_; (conv => whnf); exact lfA)
    | fail

theorem r1_Bps_s (a b : Int) : PureX Tryz.prog gl0 r1_Bps [I a, I b] (QIB) := by
  refine pure_fnX mixed fn_r1_Bps nt_r1_Bps hc_r1_Bps (by simp) gl0n (by simp [nf]) ?_
  conv => whnf
  repeat' first
    | (refine br_dec (fun h0 => ?_) (fun h0 => ?_) <;> (conv => whnf))
    | (refine br_intro (fun hb => ?_) (fun hb => ?_) <;> ((try rw [hb]); (conv => whnf); (try simp at hb)))
    | (refine call_x2 (r1_MulDiv_s _ _ _) ⟨Le.refl _, Le.refl _, Le.refl _, trivial⟩ ?_; (first | (rintro _ - ⟨_, rfl⟩) | (rintro _ - ⟨_, rfl, _⟩) | (rintro _ - ⟨_, _, rfl⟩) | (rintro _ - ⟨_, _, rfl, _⟩) | (rintro _ - ⟨_, _, _, rfl⟩) | (rintro _ - ⟨_, _, _, rfl, _⟩)); (conv => whnf))
    | (refine aI ?_; (conv => whnf))
    | (refine fin_e ?_; (conv => whnf); exact lfA)
    | fail

theorem r12_Check_s (p : Pol) (hp : hasI p) : PureX Tryz.prog gl0 r12_Check [encPol p] (QII) := by
  refine pure_fnX mixed fn_r12_Check nt_r12_Check hc_r12_Check (by simp) gl0n (by simp [nf]) ?_
  conv => whnf
  refine loop_at mixed (fun (k : Nat) => ([(4, I k), (1, .ptr 0 [])], [(0, .box (encPol p))], 1)) (fun k => 1 ≤ k ∧ k ≤ 19) (fun k => 19 - k) 1 ⟨by omega, by omega⟩ (le_st (le_r rfl) (leE_i rfl rfl (leE_ptr rfl rfl trivial)) (leO_box (lt_r rfl) rfl (LeA.refl _) (bnd_nf _ (nf_encPol _)) trivial) gl0n) ?_
  intro k ⟨h1, h2⟩
  conv => whnf
  have hn : ((19 : Nat) : Int) < 9223372036854775808 := by decide
  by_cases c : k < 19
  · refine br_true (decide_eq_true ((by omega : (k : Int) ≤ 18))) ?_
    conv => whnf
    repeat' first
      | (refine br_dec (fun h0 => ?_) (fun h0 => ?_) <;> (conv => whnf))
      | (refine br_intro (fun hb => ?_) (fun hb => ?_) <;> ((try rw [hb]); (conv => whnf); (try simp at hb)))
      | (refine call_x2 (r12_may_s p _ hp (by omega) (by omega)) ⟨Le.refl _, Le.refl _, trivial⟩ ?_; rintro _ - ⟨_ | _, rfl⟩ <;> (conv => whnf))
      | (exact ⟨k + 1, ⟨by omega, c⟩, (by show 19 - (k + 1) < 19 - k; omega), (le_st (le_r rfl) (leE_i rfl (inc_id c hn) (leE_ptr rfl rfl trivial)) (leO_box (lt_r rfl) rfl (LeA.refl _) (bnd_nf _ (nf_encPol _)) trivial) gl0n)⟩)
      | (refine aI ?_; (conv => whnf))
      | (refine fin_e ?_; (conv => whnf); exact lfA)
      | fail
  · refine br_false (decide_eq_false ((by omega : ¬ ((k : Int) ≤ 18)))) ?_
    conv => whnf
    repeat' first
      | (refine br_dec (fun h0 => ?_) (fun h0 => ?_) <;> (conv => whnf))
      | (refine br_intro (fun hb => ?_) (fun hb => ?_) <;> ((try rw [hb]); (conv => whnf); (try simp at hb)))
      | (refine aI ?_; (conv => whnf))
      | (refine fin_e ?_; (conv => whnf); exact lfA)
      | fail

theorem r12_good_s (p : Pol) (hp : hasI p) : PureX Tryz.prog gl0 r12_good [encPol p] (QB) := by
  refine pure_fnX mixed fn_r12_good nt_r12_good hc_r12_good (by simp) gl0n (by simp [nf]) ?_
  conv => whnf
  repeat' first
    | (refine br_dec (fun h0 => ?_) (fun h0 => ?_) <;> (conv => whnf))
    | (refine br_intro (fun hb => ?_) (fun hb => ?_) <;> ((try rw [hb]); (conv => whnf); (try simp at hb)))
    | (refine call_x2 (r12_Check_s p hp) ⟨Le.refl _, trivial⟩ ?_; (first | (rintro _ - ⟨_, rfl⟩) | (rintro _ - ⟨_, rfl, _⟩) | (rintro _ - ⟨_, _, rfl⟩) | (rintro _ - ⟨_, _, rfl, _⟩) | (rintro _ - ⟨_, _, _, rfl⟩) | (rintro _ - ⟨_, _, _, rfl, _⟩)); (conv => whnf))
    | (refine aI ?_; (conv => whnf))
    | (refine fin_e ?_; (conv => whnf); exact lfA)
    | fail

theorem r12_room_s (a b : Int) : PureX Tryz.prog gl0 r12_room [I a, I b] (QI) := by
  refine pure_fnX mixed fn_r12_room nt_r12_room hc_r12_room (by simp) gl0n (by simp [nf]) ?_
  conv => whnf
  repeat' first
    | (refine br_dec (fun h0 => ?_) (fun h0 => ?_) <;> (conv => whnf))
    | (refine br_intro (fun hb => ?_) (fun hb => ?_) <;> ((try rw [hb]); (conv => whnf); (try simp at hb)))
    | (refine aI ?_; (conv => whnf))
    | (refine fin_e ?_; (conv => whnf); exact lfA)
    | fail

theorem r12_LateFee_s (p : Pol) (n : Int) (hp : hasI p) : PureX Tryz.prog gl0 r12_LateFee [encPol p, I n] (QI) := by
  refine pure_fnX mixed fn_r12_LateFee nt_r12_LateFee hc_r12_LateFee (by simp) gl0n (by simp [nf]) ?_
  conv => whnf
  repeat' first
    | (refine br_dec (fun h0 => ?_) (fun h0 => ?_) <;> (conv => whnf))
    | (refine br_intro (fun hb => ?_) (fun hb => ?_) <;> ((try rw [hb]); (conv => whnf); (try simp at hb)))
    | (refine call_x2 (r12_good_s p hp) ⟨Le.refl _, trivial⟩ ?_; rintro _ - ⟨_ | _, rfl⟩ <;> (conv => whnf))
    | (refine call_x2 (r1_Bps_s _ _) ⟨Le.refl _, Le.refl _, trivial⟩ ?_; (first | (rintro _ - ⟨_, rfl⟩) | (rintro _ - ⟨_, rfl, _⟩) | (rintro _ - ⟨_, _, rfl⟩) | (rintro _ - ⟨_, _, rfl, _⟩) | (rintro _ - ⟨_, _, _, rfl⟩) | (rintro _ - ⟨_, _, _, rfl, _⟩)); (conv => whnf))
    | (refine aI ?_; (conv => whnf))
    | (refine fin_e ?_; (conv => whnf); exact lfA)
    | fail

theorem r12_Assess_s (p : Pol) (a b c : Int) (hp : hasI p) : PureX Tryz.prog gl0 r12_Assess [encPol p, I a, I b, I c] (QI) := by
  refine pure_fnX mixed fn_r12_Assess nt_r12_Assess hc_r12_Assess (by simp) gl0n (by simp [nf]) ?_
  conv => whnf
  repeat' first
    | (refine br_dec (fun h0 => ?_) (fun h0 => ?_) <;> (conv => whnf))
    | (refine br_intro (fun hb => ?_) (fun hb => ?_) <;> ((try rw [hb]); (conv => whnf); (try simp at hb)))
    | (refine call_x2 (r12_good_s p hp) ⟨Le.refl _, trivial⟩ ?_; rintro _ - ⟨_ | _, rfl⟩ <;> (conv => whnf))
    | (refine call_x2 (r12_LateFee_s p _ hp) ⟨Le.refl _, Le.refl _, trivial⟩ ?_; (first | (rintro _ - ⟨_, rfl⟩) | (rintro _ - ⟨_, rfl, _⟩) | (rintro _ - ⟨_, _, rfl⟩) | (rintro _ - ⟨_, _, rfl, _⟩) | (rintro _ - ⟨_, _, _, rfl⟩) | (rintro _ - ⟨_, _, _, rfl, _⟩)); (conv => whnf))
    | (refine call_x2 (r12_room_s _ _) ⟨Le.refl _, Le.refl _, trivial⟩ ?_; (first | (rintro _ - ⟨_, rfl⟩) | (rintro _ - ⟨_, rfl, _⟩) | (rintro _ - ⟨_, _, rfl⟩) | (rintro _ - ⟨_, _, rfl, _⟩) | (rintro _ - ⟨_, _, _, rfl⟩) | (rintro _ - ⟨_, _, _, rfl, _⟩)); (conv => whnf))
    | (refine aI ?_; (conv => whnf))
    | (refine fin_e ?_; (conv => whnf); exact lfA)
    | fail

end Go.Proofs.YtaomkjcclcgdlaaGreatDoor
namespace Go.Proofs.YtaomkjcclcgdlaaGreatDoor
open Go Ar
set_option linter.unusedVariables false
set_option autoImplicit false
set_option maxHeartbeats 4000000
set_option maxRecDepth 100000

abbrev QN (a b : Int) : AV → Prop := fun r => ∃ n, r = I n ∧ a ≤ n ∧ n ≤ b

theorem r2_divides_s (y : Int) : PureX Tryz.prog gl0 r2_divides [I y] (QB) := by
  refine pure_fnX mixed fn_r2_divides nt_r2_divides hc_r2_divides (by simp) gl0n (by simp [nf]) ?_
  conv => whnf
  repeat' first
    | (refine br_dec (fun h0 => ?_) (fun h0 => ?_) <;> (conv => whnf))
    | (refine br_intro (fun hb => ?_) (fun hb => ?_) <;> ((try rw [hb]); (conv => whnf); (try simp at hb)))
    | (refine aI ?_; (conv => whnf))
    | (refine fin_e ?_; (conv => whnf); exact lfA)
    | fail

theorem r2_lenOf_s (y m : Int) : PureX Tryz.prog gl0 r2_lenOf [I y, I m] (QN 28 31) := by
  refine pure_fnX mixed fn_r2_lenOf nt_r2_lenOf hc_r2_lenOf (by simp) gl0n (by simp [nf]) ?_
  conv => whnf
  repeat' first
    | (refine br_dec (fun h0 => ?_) (fun h0 => ?_) <;> (conv => whnf))
    | (refine br_intro (fun hb => ?_) (fun hb => ?_) <;> ((try rw [hb]); (conv => whnf); (try simp at hb)))
    | (refine call_x2 (r2_divides_s _) ⟨Le.refl _, trivial⟩ ?_; rintro _ - ⟨_ | _, rfl⟩ <;> (conv => whnf))
    | (refine aI ?_; (conv => whnf))
    | (refine fin_e ?_; (conv => whnf); exact ⟨trivial, _, rfl, by decide, by decide⟩)
    | fail

theorem r2_yearLen_s (y : Int) : PureX Tryz.prog gl0 r2_yearLen [I y] (QN 365 366) := by
  refine pure_fnX mixed fn_r2_yearLen nt_r2_yearLen hc_r2_yearLen (by simp) gl0n (by simp [nf]) ?_
  conv => whnf
  repeat' first
    | (refine br_dec (fun h0 => ?_) (fun h0 => ?_) <;> (conv => whnf))
    | (refine br_intro (fun hb => ?_) (fun hb => ?_) <;> ((try rw [hb]); (conv => whnf); (try simp at hb)))
    | (refine call_x2 (r2_divides_s _) ⟨Le.refl _, trivial⟩ ?_; rintro _ - ⟨_ | _, rfl⟩ <;> (conv => whnf))
    | (refine aI ?_; (conv => whnf))
    | (refine fin_e ?_; (conv => whnf); exact ⟨trivial, _, rfl, by decide, by decide⟩)
    | fail

theorem r2_MonthLen_s (y m : Int) : PureX Tryz.prog gl0 r2_MonthLen [I y, I m] (QI) := by
  refine pure_fnX mixed fn_r2_MonthLen nt_r2_MonthLen hc_r2_MonthLen (by simp) gl0n (by simp [nf]) ?_
  conv => whnf
  repeat' first
    | (refine br_dec (fun h0 => ?_) (fun h0 => ?_) <;> (conv => whnf))
    | (refine br_intro (fun hb => ?_) (fun hb => ?_) <;> ((try rw [hb]); (conv => whnf); (try simp at hb)))
    | (refine call_x2 (r2_lenOf_s _ _) ⟨Le.refl _, Le.refl _, trivial⟩ ?_; (first | (rintro _ - ⟨_, rfl⟩) | (rintro _ - ⟨_, rfl, _⟩) | (rintro _ - ⟨_, _, rfl⟩) | (rintro _ - ⟨_, _, rfl, _⟩) | (rintro _ - ⟨_, _, _, rfl⟩) | (rintro _ - ⟨_, _, _, rfl, _⟩)); (conv => whnf))
    | (refine aI ?_; (conv => whnf))
    | (refine fin_e ?_; (conv => whnf); exact lfA)
    | fail

theorem r2_isDay_s (d : Int) : PureX Tryz.prog gl0 r2_isDay [I d] (fun r => r = B (decide (1 ≤ d ∧ d ≤ 3652059))) := by
  refine pure_fnX mixed fn_r2_isDay nt_r2_isDay hc_r2_isDay (by simp) gl0n (by simp [nf]) ?_
  conv => whnf
  repeat' first
    | (refine br_dec (fun h0 => ?_) (fun h0 => ?_) <;> (conv => whnf))
    | (refine br_intro (fun hb => ?_) (fun hb => ?_) <;> ((try rw [hb]); (conv => whnf); (try simp at hb)))
    | (refine aI ?_; (conv => whnf))
    | (refine fin_e ?_; (conv => whnf); first | exact ⟨trivial, congrArg (fun b => B b) (decide_eq_true (by omega)).symm⟩ | exact ⟨trivial, congrArg (fun b => B b) (decide_eq_false (by omega)).symm⟩)
    | fail

theorem r2_Weekday_s (d : Int) : PureX Tryz.prog gl0 r2_Weekday [I d] (QIB) := by
  refine pure_fnX mixed fn_r2_Weekday nt_r2_Weekday hc_r2_Weekday (by simp) gl0n (by simp [nf]) ?_
  conv => whnf
  repeat' first
    | (refine br_dec (fun h0 => ?_) (fun h0 => ?_) <;> (conv => whnf))
    | (refine br_intro (fun hb => ?_) (fun hb => ?_) <;> ((try rw [hb]); (conv => whnf); (try simp at hb)))
    | (refine call_x2 (r2_isDay_s _) ⟨Le.refl _, trivial⟩ ?_; rintro _ - rfl; (conv => whnf))
    | (refine aI ?_; (conv => whnf))
    | (refine fin_e ?_; (conv => whnf); exact lfA)
    | fail

theorem r2_Civil_s (d : Int) : PureX Tryz.prog gl0 r2_Civil [I d] (fun r => ∃ x b, r = tup2 (encDte x) (B b)) := by
  refine pure_fnX mixed fn_r2_Civil nt_r2_Civil hc_r2_Civil (by simp) gl0n (by simp [nf]) ?_
  conv => whnf
  repeat' first
    | (refine br_dec (fun h0 => ?_) (fun h0 => ?_) <;> (conv => whnf))
    | (refine br_intro (fun hb => ?_) (fun hb => ?_) <;> ((try rw [hb]); (conv => whnf); (try simp at hb)))
    | (refine call_x2 (r2_isDay_s _) ⟨Le.refl _, trivial⟩ ?_; rintro _ - rfl; (conv => whnf))
    | (refine fin_e ?_; (conv => whnf); exact ⟨by simp [packA, consL, nf], ⟨_, _, _⟩, false, rfl⟩)
    | (refine aI ?_; (conv => whnf))
    | (refine fin_e ?_; (conv => whnf); exact lfA)
    | fail
  refine loop_at mixed (fun (y : Int × Int) => ([(5, I y.1), (6, I y.2), (2, .ptr 0 [])], [(0, .box (encDte ⟨0, 0, 0⟩))], 1)) (fun y => in64 y.1) (fun y => y.1.toNat) (_, _) (wrap_in _) (le_st (le_r rfl) (leE_i rfl rfl (leE_i rfl rfl (leE_ptr rfl rfl trivial))) (leO_box (lt_r rfl) rfl (LeA.refl _) (bnd_nf _ (nf_encDte _)) trivial) gl0n) ?_
  rintro ⟨left, y⟩ hin
  dsimp only at hin ⊢
  conv => whnf
  refine call_x2 (r2_yearLen_s _) ⟨Le.refl _, trivial⟩ ?_
  rintro _ - ⟨n1, rfl, h1, h2⟩
  conv => whnf
  by_cases c : left > n1
  · refine br_true (decide_eq_true (c)) ?_
    conv => whnf
    refine call_x2 (r2_yearLen_s _) ⟨Le.refl _, trivial⟩ ?_
    rintro _ - ⟨n2, rfl, h3, h4⟩
    conv => whnf
    have hw : IntKind.i64.wrap (left - n2) = left - n2 := wrap_id (by unfold in64 at hin ⊢; omega)
    exact ⟨(left - n2, _), (by show in64 (left - n2); unfold in64 at hin ⊢; omega), (by show (left - n2).toNat < left.toNat; omega), (le_st (le_r rfl) (leE_i rfl (hw) (leE_i rfl rfl (leE_ptr rfl rfl trivial))) (leO_box (lt_r rfl) rfl (LeA.refl _) (bnd_nf _ (nf_encDte _)) trivial) gl0n)⟩
  · refine br_false (decide_eq_false (c)) ?_
    conv => whnf
    refine loop_at mixed (fun (z : Int × Int) => ([(5, I z.1), (7, I z.2), (6, I y), (2, .ptr 0 [])], [(0, .box (encDte ⟨0, 0, 0⟩))], 1)) (fun z => in64 z.1) (fun z => (z.1 + 10).toNat) (left, 1) hin (le_st (le_r rfl) (leE_i rfl rfl (leE_i rfl rfl (leE_i rfl rfl (leE_ptr rfl rfl trivial)))) (leO_box (lt_r rfl) rfl (LeA.refl _) (bnd_nf _ (nf_encDte _)) trivial) gl0n) ?_
    rintro ⟨left, m⟩ hin
    dsimp only at hin ⊢
    conv => whnf
    refine call_x2 (r2_lenOf_s _ _) ⟨Le.refl _, Le.refl _, trivial⟩ ?_
    rintro _ - ⟨n1, rfl, h1, h2⟩
    conv => whnf
    by_cases c : left > n1
    · refine br_true (decide_eq_true (c)) ?_
      conv => whnf
      refine call_x2 (r2_lenOf_s _ _) ⟨Le.refl _, Le.refl _, trivial⟩ ?_
      rintro _ - ⟨n2, rfl, h3, h4⟩
      conv => whnf
      have hw : IntKind.i64.wrap (left - n2) = left - n2 := wrap_id (by unfold in64 at hin ⊢; omega)
      exact ⟨(left - n2, _), (by show in64 (left - n2); unfold in64 at hin ⊢; omega), (by show (left - n2 + 10).toNat < (left + 10).toNat; omega), (le_st (le_r rfl) (leE_i rfl (hw) (leE_i rfl rfl (leE_i rfl rfl (leE_ptr rfl rfl trivial)))) (leO_box (lt_r rfl) rfl (LeA.refl _) (bnd_nf _ (nf_encDte _)) trivial) gl0n)⟩
    · refine br_false (decide_eq_false (c)) ?_
      conv => whnf
      refine fin_e ?_
      conv => whnf
      exact ⟨by simp [packA, consL, nf], ⟨_, _, _⟩, true, rfl⟩

theorem r2_Number_s (d : Dte) (h1 : in64 d.year) (h2 : in64 d.month) : PureX Tryz.prog gl0 r2_Number [encDte d] (QIB) := by
  refine pure_fnX mixed fn_r2_Number nt_r2_Number hc_r2_Number (by simp) gl0n (by simp [nf]) ?_
  conv => whnf
  repeat' first
    | (refine br_dec (fun h0 => ?_) (fun h0 => ?_) <;> (conv => whnf))
    | (refine br_intro (fun hb => ?_) (fun hb => ?_) <;> ((try rw [hb]); (conv => whnf); (try simp at hb)))
    | (refine call_x2 (r2_MonthLen_s _ _) ⟨Le.refl _, Le.refl _, trivial⟩ ?_; (first | (rintro _ - ⟨_, rfl⟩) | (rintro _ - ⟨_, rfl, _⟩) | (rintro _ - ⟨_, _, rfl⟩) | (rintro _ - ⟨_, _, rfl, _⟩) | (rintro _ - ⟨_, _, _, rfl⟩) | (rintro _ - ⟨_, _, _, rfl, _⟩)); (conv => whnf))
    | (refine aI ?_; (conv => whnf))
    | (refine fin_e ?_; (conv => whnf); exact lfA)
    | fail
  refine loop_at mixed (fun (y : Int × Int) => ([(6, I y.1), (5, I y.2), (1, .ptr 0 [])], [(0, .box (encDte d))], 1)) (fun y => in64 y.1) (fun y => (d.year - y.1).toNat) (_, _) (wrap_in _) (le_st (le_r rfl) (leE_i rfl rfl (leE_i rfl rfl (leE_ptr rfl rfl trivial))) (leO_box (lt_r rfl) rfl (LeA.refl _) (bnd_nf _ (nf_encDte _)) trivial) gl0n) ?_
  rintro ⟨y, n⟩ hin
  dsimp only at hin ⊢
  conv => whnf
  by_cases c : y < d.year
  · refine br_true (decide_eq_true (c)) ?_
    conv => whnf
    have hw : IntKind.i64.wrap (y + 1) = y + 1 := wrap_id (by unfold in64 at hin h1 ⊢; omega)
    repeat' first
      | (refine br_dec (fun h0 => ?_) (fun h0 => ?_) <;> (conv => whnf))
      | (refine br_intro (fun hb => ?_) (fun hb => ?_) <;> ((try rw [hb]); (conv => whnf); (try simp at hb)))
      | (refine call_x2 (r2_yearLen_s _) ⟨Le.refl _, trivial⟩ ?_; rintro _ - ⟨_, rfl, _⟩ <;> (conv => whnf))
      | (exact ⟨(y + 1, _), (by show in64 (y + 1); unfold in64 at hin h1 ⊢; omega), (by show (d.year - (y + 1)).toNat < (d.year - y).toNat; omega), (le_st (le_r rfl) (leE_i rfl (hw) (leE_i rfl rfl (leE_ptr rfl rfl trivial))) (leO_box (lt_r rfl) rfl (LeA.refl _) (bnd_nf _ (nf_encDte _)) trivial) gl0n)⟩)
      | (refine aI ?_; (conv => whnf))
      | (refine fin_e ?_; (conv => whnf); exact lfA)
      | fail
  · refine br_false (decide_eq_false (c)) ?_
    conv => whnf
    refine loop_at mixed (fun (y : Int × Int) => ([(7, I y.1), (5, I y.2), (1, .ptr 0 [])], [(0, .box (encDte d))], 1)) (fun y => in64 y.1) (fun y => (d.month - y.1).toNat) (1, _) (by unfold in64; omega) (le_st (le_r rfl) (leE_i rfl rfl (leE_i rfl rfl (leE_ptr rfl rfl trivial))) (leO_box (lt_r rfl) rfl (LeA.refl _) (bnd_nf _ (nf_encDte _)) trivial) gl0n) ?_
    rintro ⟨m, n⟩ hin
    dsimp only at hin ⊢
    conv => whnf
    by_cases c : m < d.month
    · refine br_true (decide_eq_true (c)) ?_
      conv => whnf
      have hw : IntKind.i64.wrap (m + 1) = m + 1 := wrap_id (by unfold in64 at hin h2 ⊢; omega)
      repeat' first
        | (refine br_dec (fun h0 => ?_) (fun h0 => ?_) <;> (conv => whnf))
        | (refine br_intro (fun hb => ?_) (fun hb => ?_) <;> ((try rw [hb]); (conv => whnf); (try simp at hb)))
        | (refine call_x2 (r2_lenOf_s _ _) ⟨Le.refl _, Le.refl _, trivial⟩ ?_; rintro _ - ⟨_, rfl, _⟩ <;> (conv => whnf))
        | (exact ⟨(m + 1, _), (by show in64 (m + 1); unfold in64 at hin h2 ⊢; omega), (by show (d.month - (m + 1)).toNat < (d.month - m).toNat; omega), (le_st (le_r rfl) (leE_i rfl (hw) (leE_i rfl rfl (leE_ptr rfl rfl trivial))) (leO_box (lt_r rfl) rfl (LeA.refl _) (bnd_nf _ (nf_encDte _)) trivial) gl0n)⟩)
        | (refine aI ?_; (conv => whnf))
        | (refine fin_e ?_; (conv => whnf); exact lfA)
        | fail
    · refine br_false (decide_eq_false (c)) ?_
      conv => whnf
      repeat' first
        | (refine br_dec (fun h0 => ?_) (fun h0 => ?_) <;> (conv => whnf))
        | (refine br_intro (fun hb => ?_) (fun hb => ?_) <;> ((try rw [hb]); (conv => whnf); (try simp at hb)))
        | (refine aI ?_; (conv => whnf))
        | (refine fin_e ?_; (conv => whnf); exact lfA)
        | fail

theorem r2_AddMonths_s (d m a : Int) : PureX Tryz.prog gl0 r2_AddMonths [I d, I m, I a] (QIB) := by
  refine pure_fnX mixed fn_r2_AddMonths nt_r2_AddMonths hc_r2_AddMonths (by simp) gl0n (by simp [nf]) ?_
  conv => whnf
  repeat' first
    | (refine br_dec (fun h0 => ?_) (fun h0 => ?_) <;> (conv => whnf))
    | (refine br_intro (fun hb => ?_) (fun hb => ?_) <;> ((try rw [hb]); (conv => whnf); (try simp at hb)))
    | (refine call_x2 (r2_isDay_s _) ⟨Le.refl _, trivial⟩ ?_; rintro _ - rfl; (conv => whnf))
    | (refine call_x2 (r2_Civil_s _) ⟨Le.refl _, trivial⟩ ?_; (rintro _ - ⟨x, _, rfl⟩); (conv => whnf))
    | (refine call_x2 (r2_lenOf_s _ _) ⟨Le.refl _, Le.refl _, trivial⟩ ?_; rintro _ - ⟨_, rfl, _⟩ <;> (conv => whnf))
    | (refine call_x2 (r2_Number_s ⟨_, _, _⟩ (wrap_in _) (wrap_in _)) ⟨le_Dte .., trivial⟩ ?_; (rintro _ - ⟨_, _, rfl⟩); (conv => whnf))
    | (refine aI ?_; (conv => whnf))
    | (refine fin_e ?_; (conv => whnf); exact lfA)
    | fail

theorem r2_Business_s (d : Int) (xs : List Int) (hn : (xs.length : Int) < 9223372036854775808) : PureX Tryz.prog gl0 r2_Business [I d, encL I 1 xs] (QB) := by
  refine pure_fnX mixed fn_r2_Business nt_r2_Business hc_r2_Business (by simp) gl0n (by simp [nf]) ?_
  conv => whnf
  repeat' first
    | (refine br_dec (fun h0 => ?_) (fun h0 => ?_) <;> (conv => whnf))
    | (refine br_intro (fun hb => ?_) (fun hb => ?_) <;> ((try rw [hb]); (conv => whnf); (try simp at hb)))
    | (refine call_x2 (r2_Weekday_s _) ⟨Le.refl _, trivial⟩ ?_; rintro _ - ⟨_, _ | _, rfl⟩ <;> (conv => whnf))
    | (refine aI ?_; (conv => whnf))
    | (refine fin_e ?_; (conv => whnf); exact lfA)
    | fail
  refine loop_at mixed (fun (k : Nat) => ([(7, I k), (0, I d), (1, encL I 1 xs)], [], 0)) (fun k => k ≤ xs.length) (fun k => xs.length - k) 0 (Nat.zero_le _) (le_st (le_r rfl) (leE_i rfl rfl (leE_i rfl rfl (leE_eq rfl (bnd_nf _ (nfL_I _ _)) trivial))) trivial gl0n) ?_
  intro k hk
  conv => whnf
  by_cases c : k < xs.length
  · refine br_true (decide_eq_true ((by omega : (k : Int) < xs.length))) ?_
    conv => whnf
    repeat' first
      | (refine br_dec (fun h0 => ?_) (fun h0 => ?_) <;> (conv => whnf))
      | (refine br_intro (fun hb => ?_) (fun hb => ?_) <;> ((try rw [hb]); (conv => whnf); (try simp at hb)))
      | (exact ⟨k + 1, c, (by show xs.length - (k + 1) < xs.length - k; omega), (le_st (le_r rfl) (leE_i rfl (inc_id c hn) (leE_i rfl rfl (leE_eq rfl (bnd_nf _ (nfL_I _ _)) trivial))) trivial gl0n)⟩)
      | (refine aI ?_; (conv => whnf))
      | (refine fin_e ?_; (conv => whnf); exact lfA)
      | fail
  · refine br_false (decide_eq_false ((by omega : ¬ ((k : Int) < xs.length)))) ?_
    conv => whnf
    repeat' first
      | (refine br_dec (fun h0 => ?_) (fun h0 => ?_) <;> (conv => whnf))
      | (refine br_intro (fun hb => ?_) (fun hb => ?_) <;> ((try rw [hb]); (conv => whnf); (try simp at hb)))
      | (refine aI ?_; (conv => whnf))
      | (refine fin_e ?_; (conv => whnf); exact lfA)
      | fail

theorem r2_sought_s (d s : Int) (xs : List Int) (hn : (xs.length : Int) < 9223372036854775808) : PureX Tryz.prog gl0 r2_sought [I d, encL I 1 xs, I s] (QIB) := by
  refine pure_fnX mixed fn_r2_sought nt_r2_sought hc_r2_sought (by simp) gl0n (by simp [nf]) ?_
  conv => whnf
  have hx := hn
  refine loop_at mixed (fun (k : Nat) => ([(8, I k), (0, I d), (1, encL I 1 xs), (2, I s)], [], 0)) (fun k => k ≤ 11) (fun k => 11 - k) 0 (Nat.zero_le _) (le_st (le_r rfl) (leE_i rfl rfl (leE_i rfl rfl (leE_eq rfl (bnd_nf _ (nfL_I _ _)) (leE_i rfl rfl trivial)))) trivial gl0n) ?_
  intro k hk
  conv => whnf
  have hn : ((11 : Nat) : Int) < 9223372036854775808 := by decide
  by_cases c : k < 11
  · refine br_true (decide_eq_true ((by omega : (k : Int) ≤ 10))) ?_
    conv => whnf
    repeat' first
      | (refine br_dec (fun h0 => ?_) (fun h0 => ?_) <;> (conv => whnf))
      | (refine br_intro (fun hb => ?_) (fun hb => ?_) <;> ((try rw [hb]); (conv => whnf); (try simp at hb)))
      | (refine call_x2 (r2_Business_s _ _ hx) ⟨Le.refl _, Le.refl _, trivial⟩ ?_; rintro _ - ⟨_ | _, rfl⟩ <;> (conv => whnf))
      | (exact ⟨k + 1, c, (by show 11 - (k + 1) < 11 - k; omega), (le_st (le_r rfl) (leE_i rfl (inc_id c hn) (leE_i rfl rfl (leE_eq rfl (bnd_nf _ (nfL_I _ _)) (leE_i rfl rfl trivial)))) trivial gl0n)⟩)
      | (refine aI ?_; (conv => whnf))
      | (refine fin_e ?_; (conv => whnf); exact lfA)
      | fail
  · refine br_false (decide_eq_false ((by omega : ¬ ((k : Int) ≤ 10)))) ?_
    conv => whnf
    repeat' first
      | (refine br_dec (fun h0 => ?_) (fun h0 => ?_) <;> (conv => whnf))
      | (refine br_intro (fun hb => ?_) (fun hb => ?_) <;> ((try rw [hb]); (conv => whnf); (try simp at hb)))
      | (refine aI ?_; (conv => whnf))
      | (refine fin_e ?_; (conv => whnf); exact lfA)
      | fail

theorem r2_Adjust_s (d : Int) (xs : List Int) (r : Int) (hn : (xs.length : Int) < 9223372036854775808) : PureX Tryz.prog gl0 r2_Adjust [I d, encL I 1 xs, I r] (QIB) := by
  refine pure_fnX mixed fn_r2_Adjust nt_r2_Adjust hc_r2_Adjust (by simp) gl0n (by simp [nf]) ?_
  conv => whnf
  repeat' first
    | (refine br_dec (fun h0 => ?_) (fun h0 => ?_) <;> (conv => whnf))
    | (refine br_intro (fun hb => ?_) (fun hb => ?_) <;> ((try rw [hb]); (conv => whnf); (try simp at hb)))
    | (refine call_x2 (r2_isDay_s _) ⟨Le.refl _, trivial⟩ ?_; rintro _ - rfl; (conv => whnf))
    | (refine call_x2 (r2_sought_s _ _ _ hn) ⟨Le.refl _, Le.refl _, Le.refl _, trivial⟩ ?_; rintro _ - ⟨_, _ | _, rfl⟩ <;> (conv => whnf))
    | (refine call_x2 (r2_Civil_s _) ⟨Le.refl _, trivial⟩ ?_; (rintro _ - ⟨x, _, rfl⟩); (conv => whnf))
    | (refine aI ?_; (conv => whnf))
    | (refine fin_e ?_; (conv => whnf); exact lfA)
    | fail

end Go.Proofs.YtaomkjcclcgdlaaGreatDoor
namespace Go.Proofs.YtaomkjcclcgdlaaGreatDoor
open Go Ar
set_option linter.unusedVariables false
set_option autoImplicit false
set_option maxHeartbeats 4000000
set_option maxRecDepth 100000

theorem r3_isRate_s (r : Int) : PureX Tryz.prog gl0 r3_isRate [I r] (QB) := by
  refine pure_fnX mixed fn_r3_isRate nt_r3_isRate hc_r3_isRate (by simp) gl0n (by simp [nf]) ?_
  conv => whnf
  repeat' first
    | (refine br_dec (fun h0 => ?_) (fun h0 => ?_) <;> (conv => whnf))
    | (refine br_intro (fun hb => ?_) (fun hb => ?_) <;> ((try rw [hb]); (conv => whnf); (try simp at hb)))
    | (refine aI ?_; (conv => whnf))
    | (refine fin_e ?_; (conv => whnf); exact lfA)
    | fail

theorem r3_Span_s (a b c d : Int) : PureX Tryz.prog gl0 r3_Span [I a, I b, I c, I d] (QIIB) := by
  refine pure_fnX mixed fn_r3_Span nt_r3_Span hc_r3_Span (by simp) gl0n (by simp [nf]) ?_
  conv => whnf
  repeat' first
    | (refine br_dec (fun h0 => ?_) (fun h0 => ?_) <;> (conv => whnf))
    | (refine br_intro (fun hb => ?_) (fun hb => ?_) <;> ((try rw [hb]); (conv => whnf); (try simp at hb)))
    | (refine call_x2 (r3_isRate_s _) ⟨Le.refl _, trivial⟩ ?_; rintro _ - ⟨_ | _, rfl⟩ <;> (conv => whnf))
    | (refine aI ?_; (conv => whnf))
    | (refine fin_e ?_; (conv => whnf); exact lfA)
    | fail

theorem r3_month_s (a b : Int) : PureX Tryz.prog gl0 r3_month [I a, I b] (QI) := by
  refine pure_fnX mixed fn_r3_month nt_r3_month hc_r3_month (by simp) gl0n (by simp [nf]) ?_
  conv => whnf
  repeat' first
    | (refine br_dec (fun h0 => ?_) (fun h0 => ?_) <;> (conv => whnf))
    | (refine br_intro (fun hb => ?_) (fun hb => ?_) <;> ((try rw [hb]); (conv => whnf); (try simp at hb)))
    | (refine aI ?_; (conv => whnf))
    | (refine fin_e ?_; (conv => whnf); exact lfA)
    | fail

theorem r3_PaysOff_s (a b r c : Int) (hc : c ≤ 1000) : PureX Tryz.prog gl0 r3_PaysOff [I a, I b, I r, I c] (QB) := by
  refine pure_fnX mixed fn_r3_PaysOff nt_r3_PaysOff hc_r3_PaysOff (by simp) gl0n (by simp [nf]) ?_
  conv => whnf
  refine loop_at mixed (fun (y : Nat × Int) => ([(9, I y.1), (1, I y.2), (0, I a), (2, I r), (3, I c)], [], 0)) (fun y => y.1 ≤ 1000) (fun y => 1000 - y.1) (0, b) (Nat.zero_le _) (le_st (le_r rfl) (leE_i rfl rfl (leE_i rfl rfl (leE_i rfl rfl (leE_i rfl rfl (leE_i rfl rfl trivial))))) trivial gl0n) ?_
  rintro ⟨k, x⟩ hk
  dsimp only at hk ⊢
  conv => whnf
  have hn : ((1000 : Nat) : Int) < 9223372036854775808 := by decide
  by_cases c0 : (k : Int) < c
  · refine br_true (decide_eq_true (c0)) ?_
    conv => whnf
    have c : k < 1000 := by omega
    repeat' first
      | (refine br_dec (fun h0 => ?_) (fun h0 => ?_) <;> (conv => whnf))
      | (refine br_intro (fun hb => ?_) (fun hb => ?_) <;> ((try rw [hb]); (conv => whnf); (try simp at hb)))
      | (refine call_x2 (r3_month_s _ _) ⟨Le.refl _, Le.refl _, trivial⟩ ?_; (first | (rintro _ - ⟨_, rfl⟩) | (rintro _ - ⟨_, rfl, _⟩) | (rintro _ - ⟨_, _, rfl⟩) | (rintro _ - ⟨_, _, rfl, _⟩) | (rintro _ - ⟨_, _, _, rfl⟩) | (rintro _ - ⟨_, _, _, rfl, _⟩)); (conv => whnf))
      | (exact ⟨(k + 1, _), c, (by show 1000 - (k + 1) < 1000 - k; omega), (le_st (le_r rfl) (leE_i rfl (inc_id c hn) (leE_i rfl rfl (leE_i rfl rfl (leE_i rfl rfl (leE_i rfl rfl trivial))))) trivial gl0n)⟩)
      | (refine aI ?_; (conv => whnf))
      | (refine fin_e ?_; (conv => whnf); exact lfA)
      | fail
  · refine br_false (decide_eq_false (c0)) ?_
    conv => whnf
    repeat' first
      | (refine br_dec (fun h0 => ?_) (fun h0 => ?_) <;> (conv => whnf))
      | (refine br_intro (fun hb => ?_) (fun hb => ?_) <;> ((try rw [hb]); (conv => whnf); (try simp at hb)))
      | (refine aI ?_; (conv => whnf))
      | (refine fin_e ?_; (conv => whnf); exact lfA)
      | fail

theorem r3_Level_s (p r c : Int) : PureX Tryz.prog gl0 r3_Level [I p, I r, I c] (QIB) := by
  refine pure_fnX mixed fn_r3_Level nt_r3_Level hc_r3_Level (by simp) gl0n (by simp [nf]) ?_
  conv => whnf
  repeat' first
    | (refine br_dec (fun h0 => ?_) (fun h0 => ?_) <;> (conv => whnf))
    | (refine br_intro (fun hb => ?_) (fun hb => ?_) <;> ((try rw [hb]); (conv => whnf); (try simp at hb)))
    | (refine call_x2 (r3_isRate_s _) ⟨Le.refl _, trivial⟩ ?_; rintro _ - ⟨_ | _, rfl⟩ <;> (conv => whnf))
    | (refine call_x2 (r3_PaysOff_s _ _ _ _ (by omega)) ⟨Le.refl _, Le.refl _, Le.refl _, Le.refl _, trivial⟩ ?_; rintro _ - ⟨_ | _, rfl⟩ <;> (conv => whnf))
    | (exact True.elim trivial)
    | (refine aI ?_; (conv => whnf))
    | (refine fin_e ?_; (conv => whnf); exact lfA)
    | fail
  all_goals
   refine loop_at mixed (fun (y : Int × Int) => ([(9, I y.1), (8, I y.2), (0, I p), (1, I r), (2, I c)], [], 0)) (fun y => 0 ≤ y.1 ∧ y.1 ≤ 4611686018427387904) (fun y => y.1.toNat) (4611686018427387904, _) ⟨by decide, by decide⟩ (le_st (le_r rfl) (leE_i rfl rfl (leE_i rfl rfl (leE_i rfl rfl (leE_i rfl rfl (leE_i rfl rfl trivial))))) trivial gl0n) ?_
   rintro ⟨s, x⟩ ⟨h1, h2⟩
   dsimp only at h1 h2 ⊢
   conv => whnf
   by_cases c0 : s > 0
   · refine br_true (decide_eq_true (c0)) ?_
     conv => whnf
     have hw : IntKind.i64.wrap (s.tdiv 2) = s / 2 := by rw [Int.tdiv_eq_ediv_of_nonneg h1, wrap_id (by unfold in64; omega)]
     repeat' first
       | (refine br_dec (fun h0 => ?_) (fun h0 => ?_) <;> (conv => whnf))
       | (refine br_intro (fun hb => ?_) (fun hb => ?_) <;> ((try rw [hb]); (conv => whnf); (try simp at hb)))
       | (refine call_x2 (r3_PaysOff_s _ _ _ _ (by omega)) ⟨Le.refl _, Le.refl _, Le.refl _, Le.refl _, trivial⟩ ?_; rintro _ - ⟨_ | _, rfl⟩ <;> (conv => whnf))
       | (exact ⟨(s / 2, _), ⟨by show 0 ≤ s / 2; omega, by show s / 2 ≤ 4611686018427387904; omega⟩, (by show (s / 2).toNat < s.toNat; omega), (le_st (le_r rfl) (leE_i rfl (hw) (leE_i rfl rfl (leE_i rfl rfl (leE_i rfl rfl (leE_i rfl rfl trivial))))) trivial gl0n)⟩)
       | (refine aI ?_; (conv => whnf))
       | (refine fin_e ?_; (conv => whnf); exact lfA)
       | fail
   · refine br_false (decide_eq_false (c0)) ?_
     conv => whnf
     repeat' first
       | (refine br_dec (fun h0 => ?_) (fun h0 => ?_) <;> (conv => whnf))
       | (refine br_intro (fun hb => ?_) (fun hb => ?_) <;> ((try rw [hb]); (conv => whnf); (try simp at hb)))
       | (refine aI ?_; (conv => whnf))
       | (refine fin_e ?_; (conv => whnf); exact lfA)
       | fail

theorem r3_Valid_s (t : Trm) : PureX Tryz.prog gl0 r3_Valid [encTrm t] (fun r => ∃ b, r = B b ∧ (b = true → 1 ≤ t.count ∧ t.count ≤ 120)) := by
  refine pure_fnX mixed fn_r3_Valid nt_r3_Valid hc_r3_Valid (by simp) gl0n (by simp [nf]) ?_
  conv => whnf
  repeat' first
    | (refine br_dec (fun h0 => ?_) (fun h0 => ?_) <;> (conv => whnf))
    | (refine br_intro (fun hb => ?_) (fun hb => ?_) <;> ((try rw [hb]); (conv => whnf); (try simp at hb)))
    | (refine call_x2 (r3_isRate_s _) ⟨Le.refl _, trivial⟩ ?_; rintro _ - ⟨_ | _, rfl⟩ <;> (conv => whnf))
    | (refine aI ?_; (conv => whnf))
    | (refine fin_e ?_; (conv => whnf); first | exact ⟨trivial, false, rfl, fun h => by cases h⟩ | exact ⟨trivial, true, rfl, fun _ => by omega⟩)
    | fail

theorem r3_Due_s (t : Trm) (xs : List Int) (k : Int) (hn : (xs.length : Int) < 9223372036854775808) : PureX Tryz.prog gl0 r3_Due [encTrm t, encL I 1 xs, I k] (QIB) := by
  refine pure_fnX mixed fn_r3_Due nt_r3_Due hc_r3_Due (by simp) gl0n (by simp [nf]) ?_
  conv => whnf
  repeat' first
    | (refine br_dec (fun h0 => ?_) (fun h0 => ?_) <;> (conv => whnf))
    | (refine br_intro (fun hb => ?_) (fun hb => ?_) <;> ((try rw [hb]); (conv => whnf); (try simp at hb)))
    | (refine call_x2 (r2_Civil_s _) ⟨Le.refl _, trivial⟩ ?_; (rintro _ - ⟨x, _, rfl⟩); (conv => whnf))
    | (refine call_x2 (r2_AddMonths_s _ _ _) ⟨Le.refl _, Le.refl _, Le.refl _, trivial⟩ ?_; rintro _ - ⟨_, _ | _, rfl⟩ <;> (conv => whnf))
    | (refine call_x2 (r2_Adjust_s _ _ _ hn) ⟨Le.refl _, Le.refl _, Le.refl _, trivial⟩ ?_; rintro _ - ⟨_, _ | _, rfl⟩ <;> (conv => whnf))
    | (refine aI ?_; (conv => whnf))
    | (refine fin_e ?_; (conv => whnf); exact lfA)
    | fail

theorem r3_part_s (t : Trm) (a k b i : Int) (h1 : 1 ≤ t.count) (h2 : t.count ≤ 120) : PureX Tryz.prog gl0 r3_part [encTrm t, I a, I k, I b, I i] (QI) := by
  refine pure_fnX mixed fn_r3_part nt_r3_part hc_r3_part (by simp) gl0n (by simp [nf]) ?_
  conv => whnf
  repeat' first
    | (refine br_dec (fun h0 => ?_) (fun h0 => ?_) <;> (conv => whnf))
    | (refine br_intro (fun hb => ?_) (fun hb => ?_) <;> ((try rw [hb]); (conv => whnf); (try simp at hb)))
    | (refine aI ?_; (conv => whnf))
    | (refine fin_e ?_; (conv => whnf); exact lfA)
    | fail

abbrev QPl : AV → Prop := fun r => ∃ (xs : List Ins) (b : Bool), r = tup2 (encL encIns 4 xs) (B b) ∧ xs.length ≤ 120

theorem fin_pn {N : Nat} {rs : List RV} {e : Env} {o : Objs} {n : Nat} (h : resA e o rs fun l => forceL l fun l => ∃ b, l = [.val (.slice none 0 0), B b]) : FinP gl0 N rs QPl e o n :=
  ⟨e, o, n, LeSt.refl gl0 N e o n, resA_mono rs (fun l hl => by
    obtain ⟨b, rfl⟩ := forceL_iff.1 hl
    exact ⟨tup2 (encL encIns 4 []) (B b), ⟨nfL_Ins 4 [], trivial, trivial⟩, ⟨[], b, rfl, by simp⟩, (LeA.tup (LeA.cons leA_nilL (LeA.refl _))).le⟩) h⟩

theorem r3_Plan_s (t : Trm) (hs : List Int) (hn : (hs.length : Int) < 9223372036854775808) : PureX Tryz.prog gl0 r3_Plan [encTrm t, encL I 1 hs] (QPl) := by
  refine pure_fnX mixed fn_r3_Plan nt_r3_Plan hc_r3_Plan (by simp) gl0n (by simp [nf]) ?_
  conv => whnf
  refine call_x2 (r3_Valid_s t) ⟨Le.refl _, trivial⟩ ?_
  rintro _ - ⟨_ | _, rfl, hv⟩ <;> (conv => whnf)
  · refine fin_pn ?_
    conv => whnf
    exact ⟨_, rfl⟩
  obtain ⟨h1, h2⟩ := hv rfl
  repeat' first
    | (refine br_dec (fun h0 => ?_) (fun h0 => ?_) <;> (conv => whnf))
    | (refine br_intro (fun hb => ?_) (fun hb => ?_) <;> ((try rw [hb]); (conv => whnf); (try simp at hb)))
    | (refine call_x2 (r3_Level_s _ _ _) ⟨Le.refl _, Le.refl _, Le.refl _, trivial⟩ ?_; (first | (rintro _ - ⟨_, rfl⟩) | (rintro _ - ⟨_, rfl, _⟩) | (rintro _ - ⟨_, _, rfl⟩) | (rintro _ - ⟨_, _, rfl, _⟩) | (rintro _ - ⟨_, _, _, rfl⟩) | (rintro _ - ⟨_, _, _, rfl, _⟩)); (conv => whnf))
    | (refine fin_pn ?_; (conv => whnf); exact ⟨_, rfl⟩)
    | (exact True.elim trivial)
    | (refine aI ?_; (conv => whnf))
    | (refine fin_e ?_; (conv => whnf); exact lfA)
    | fail
  have hh := hn
  refine loop_at mixed (fun (y : Nat × Int × Int × List Ins) => ([(10, I y.1), (9, I y.2.1), (8, encT (some 1) encIns 4 y.2.2.2), (6, I y.2.2.1), (1, encL I 1 hs), (2, .ptr 0 [])], [(0, .box (encTrm t)), (1, .room y.2.2.2.length 4 69)], 2)) (fun y => 1 ≤ y.1 ∧ y.1 ≤ 121 ∧ y.2.2.2.length < y.1) (fun y => 121 - y.1) (1, _, _, []) ⟨Nat.le_refl _, by show 1 ≤ 121; decide, by show 0 < 1; decide⟩ ((le_nil 8 4 69 (fun i => encIns (at_ ([] : List Ins) i)) rfl).trans (le_st (le_r rfl) (leE_i rfl rfl (leE_i rfl rfl (leE_eq rfl (bnd_encT nf_encIns (lt_r rfl)) (leE_i rfl rfl (leE_eq rfl (bnd_nf _ (nfL_I _ _)) (leE_ptr rfl rfl trivial)))))) (leO_box (lt_r rfl) rfl (LeA.refl _) (bnd_nf _ (nf_encTrm _)) (leO_room (lt_r rfl) rfl trivial)) gl0n)) ?_
  rintro ⟨k, bal, pay, xs⟩ ⟨h3, h4, h5⟩
  dsimp only at h3 h4 h5 ⊢
  conv => whnf
  have hn : ((121 : Nat) : Int) < 9223372036854775808 := by decide
  by_cases c0 : (k : Int) ≤ t.count
  · refine br_true (decide_eq_true (c0)) ?_
    conv => whnf
    have c : k < 121 := by omega
    repeat' first
      | (refine br_dec (fun h0 => ?_) (fun h0 => ?_) <;> (conv => whnf))
      | (refine br_intro (fun hb => ?_) (fun hb => ?_) <;> ((try rw [hb]); (conv => whnf); (try simp at hb)))
      | (refine call_x2 (r3_month_s _ _) ⟨Le.refl _, Le.refl _, trivial⟩ ?_; (first | (rintro _ - ⟨_, rfl⟩) | (rintro _ - ⟨_, rfl, _⟩) | (rintro _ - ⟨_, _, rfl⟩) | (rintro _ - ⟨_, _, rfl, _⟩) | (rintro _ - ⟨_, _, _, rfl⟩) | (rintro _ - ⟨_, _, _, rfl, _⟩)); (conv => whnf))
      | (refine call_x2 (r3_part_s t _ _ _ _ h1 h2) ⟨Le.refl _, Le.refl _, Le.refl _, Le.refl _, Le.refl _, trivial⟩ ?_; (first | (rintro _ - ⟨_, rfl⟩) | (rintro _ - ⟨_, rfl, _⟩) | (rintro _ - ⟨_, _, rfl⟩) | (rintro _ - ⟨_, _, rfl, _⟩) | (rintro _ - ⟨_, _, _, rfl⟩) | (rintro _ - ⟨_, _, _, rfl, _⟩)); (conv => whnf))
      | (refine call_x2 (r3_Due_s t _ _ hh) ⟨Le.refl _, Le.refl _, Le.refl _, trivial⟩ ?_; rintro _ - ⟨_, _ | _, rfl⟩ <;> (conv => whnf))
      | (refine fin_pn ?_; (conv => whnf); exact ⟨_, rfl⟩)
      | (exact ⟨(k + 1, _, _, xs), ⟨by show 1 ≤ k + 1; omega, by show k + 1 ≤ 121; omega, by show xs.length < k + 1; omega⟩, (by show 121 - (k + 1) < 121 - k; omega), (le_st (le_r rfl) (leE_i rfl (inc_id c hn) (leE_i rfl rfl (leE_eq rfl (bnd_encT nf_encIns (lt_r rfl)) (leE_i rfl rfl (leE_eq rfl (bnd_nf _ (nfL_I _ _)) (leE_ptr rfl rfl trivial)))))) (leO_box (lt_r rfl) rfl (LeA.refl _) (bnd_nf _ (nf_encTrm _)) (leO_room (lt_r rfl) rfl trivial)) gl0n)⟩)
      | (exact ⟨(k + 1, _, _, xs ++ [⟨_, _, _, _⟩]), ⟨by show 1 ≤ k + 1; omega, by show k + 1 ≤ 121; omega, by show (xs ++ [_]).length < k + 1; (simp; omega)⟩, (by show 121 - (k + 1) < 121 - k; omega), (le_st (le_r rfl) (leE_i rfl (inc_id c hn) (leE_i rfl rfl (leE_le rfl (leA_snoc (enc := encIns) (leA_Ins ..)).le (bnd_encT nf_encIns (lt_r rfl)) (leE_i rfl rfl (leE_eq rfl (bnd_nf _ (nfL_I _ _)) (leE_ptr rfl rfl trivial)))))) (leO_box (lt_r rfl) rfl (LeA.refl _) (bnd_nf _ (nf_encTrm _)) (leO_room (lt_r rfl) (by (simp; rfl)) trivial)) gl0n)⟩)
      | (refine aI ?_; (conv => whnf))
      | (refine fin_e ?_; (conv => whnf); exact lfA)
      | fail
  · refine br_false (decide_eq_false (c0)) ?_
    conv => whnf
    refine fin_r (tup2 (encL encIns 4 xs) (B true)) ⟨nfL_Ins _ _, trivial, trivial⟩ ⟨xs, true, rfl, by omega⟩ ?_
    conv => whnf
    exact (LeA.tup (LeA.cons leA_drop (LeA.refl _))).le

end Go.Proofs.YtaomkjcclcgdlaaGreatDoor
namespace Go.Proofs.YtaomkjcclcgdlaaGreatDoor
open Go Ar
set_option linter.unusedVariables false
set_option autoImplicit false
set_option maxHeartbeats 4000000
set_option maxRecDepth 100000

/-- A list has grown by one, and by one more. -/
theorem leA_snoc2 {tok : Option Nat} {e : Nat} {xs : List Int} {x y : Int} {h h' : Nat → AV} (h1 : LeA (h 0) (I x)) (h2 : LeA (h' 0) (I y)) :
    LeA (.lst tok (xs.length + 1 + 1) e (appF (xs.length + 1) (appF xs.length (fun i => I (at_ xs i)) h) h')) (encT tok I e ((xs ++ [x]) ++ [y])) := by
  refine LeA.trans (b := .lst tok ((xs ++ [x]).length + 1) e (appF (xs ++ [x]).length (fun i => I (at_ (xs ++ [x]) i)) h')) ?_ (leA_snoc h2)
  have hl : (xs ++ [x]).length = xs.length + 1 := by simp
  rw [hl]
  refine LeA.lst (.inl rfl) fun i hi => ?_
  unfold appF
  by_cases c1 : i < xs.length + 1
  · rw [if_pos c1, if_pos c1]
    by_cases c2 : i < xs.length
    · rw [if_pos c2]
      show LeA (I (at_ xs i)) (I (at_ (xs ++ [x]) i))
      rw [at_append_left c2]; exact LeA.refl _
    · obtain rfl : i = xs.length := by omega
      rw [if_neg c2]
      show LeA (h (xs.length - xs.length)) (I (at_ (xs ++ [x]) xs.length))
      rw [at_append_right (Nat.le_refl _)]
      simp only [Nat.sub_self]
      exact h1
  · rw [if_neg c1, if_neg c1]
    exact LeA.refl _

theorem leA_one1 {tok : Option Nat} {n e : Nat} {f : Nat → AV} {x : Int} (hn : n = 1) (h0 : f 0 = I x) : LeA (.lst tok n e f) (encT tok I e [x]) := by
  subst hn
  refine LeA.lst (.inl rfl) fun i hi => ?_
  obtain rfl : i = 0 := by omega
  rw [h0]
  exact LeA.refl _

theorem r8_Debits_s (a : Int) : PureX Tryz.prog gl0 r8_Debits [I a] (QB) := by
  refine pure_fnX mixed fn_r8_Debits nt_r8_Debits hc_r8_Debits (by simp) gl0n (by simp [nf]) ?_
  conv => whnf
  repeat' first
    | (refine br_dec (fun h0 => ?_) (fun h0 => ?_) <;> (conv => whnf))
    | (refine br_intro (fun hb => ?_) (fun hb => ?_) <;> ((try rw [hb]); (conv => whnf); (try simp at hb)))
    | (refine aI ?_; (conv => whnf))
    | (refine fin_e ?_; (conv => whnf); exact lfA)
    | fail

theorem r8_is_s (a : Int) : PureX Tryz.prog gl0 r8_is [I a] (fun r => r = B (decide (0 ≤ a ∧ a < 12))) := by
  refine pure_fnX mixed fn_r8_is nt_r8_is hc_r8_is (by simp) gl0n (by simp [nf]) ?_
  conv => whnf
  repeat' first
    | (refine br_dec (fun h0 => ?_) (fun h0 => ?_) <;> (conv => whnf))
    | (refine br_intro (fun hb => ?_) (fun hb => ?_) <;> ((try rw [hb]); (conv => whnf); (try simp at hb)))
    | (refine aI ?_; (conv => whnf))
    | (refine fin_e ?_; (conv => whnf); first | exact ⟨trivial, congrArg (fun b => B b) (decide_eq_true (by omega)).symm⟩ | exact ⟨trivial, congrArg (fun b => B b) (decide_eq_false (by omega)).symm⟩)
    | fail

theorem r8_refused_s (e : Ety) : PureX Tryz.prog gl0 r8_refused [encEty e] (QI) := by
  refine pure_fnX mixed fn_r8_refused nt_r8_refused hc_r8_refused (by simp) gl0n (by simp [nf]) ?_
  conv => whnf
  repeat' first
    | (refine br_dec (fun h0 => ?_) (fun h0 => ?_) <;> (conv => whnf))
    | (refine br_intro (fun hb => ?_) (fun hb => ?_) <;> ((try rw [hb]); (conv => whnf); (try simp at hb)))
    | (refine call_x2 (r8_is_s _) ⟨Le.refl _, trivial⟩ ?_; rintro _ - rfl; (conv => whnf))
    | (refine aI ?_; (conv => whnf))
    | (refine fin_e ?_; (conv => whnf); exact lfA)
    | fail

theorem r8_OwnSide_s (a n : Int) : PureX Tryz.prog gl0 r8_OwnSide [I a, I n] (QB) := by
  refine pure_fnX mixed fn_r8_OwnSide nt_r8_OwnSide hc_r8_OwnSide (by simp) gl0n (by simp [nf]) ?_
  conv => whnf
  repeat' first
    | (refine br_dec (fun h0 => ?_) (fun h0 => ?_) <;> (conv => whnf))
    | (refine br_intro (fun hb => ?_) (fun hb => ?_) <;> ((try rw [hb]); (conv => whnf); (try simp at hb)))
    | (refine call_x2 (r8_Debits_s _) ⟨Le.refl _, trivial⟩ ?_; rintro _ - ⟨_ | _, rfl⟩ <;> (conv => whnf))
    | (refine aI ?_; (conv => whnf))
    | (refine fin_e ?_; (conv => whnf); exact lfA)
    | fail

theorem r8_Balance_s (b : Bk) (a : Int) : PureX Tryz.prog gl0 r8_Balance [encBk b, I a] (QII) := by
  refine pure_fnX mixed fn_r8_Balance nt_r8_Balance hc_r8_Balance (by simp) gl0n (by simp [nf]) ?_
  conv => whnf
  repeat' first
    | (refine br_dec (fun h0 => ?_) (fun h0 => ?_) <;> (conv => whnf))
    | (refine br_intro (fun hb => ?_) (fun hb => ?_) <;> ((try rw [hb]); (conv => whnf); (try simp at hb)))
    | (refine call_x2 (r8_is_s _) ⟨Le.refl _, trivial⟩ ?_; rintro _ - rfl; (conv => whnf))
    | (refine call_x2 (r8_Debits_s _) ⟨Le.refl _, trivial⟩ ?_; rintro _ - ⟨_ | _, rfl⟩ <;> (conv => whnf))
    | (refine aI ?_; (conv => whnf))
    | (refine fin_e ?_; (conv => whnf); exact lfA)
    | fail

theorem r8_moves_s (b : Bk) (es : List Ety) (a : Int) (h1 : 0 ≤ a) (h2 : a < 12) (he : es.length ≤ 100) : PureX Tryz.prog gl0 r8_moves [encBk b, encL encEty 3 es, I a] (fun r => ∃ xs, r = encL I 1 xs ∧ xs.length ≤ 1000) := by
  refine pure_fnX mixed fn_r8_moves nt_r8_moves hc_r8_moves (by simp) gl0n (by simp [nf]) ?_
  conv => whnf
  repeat' first
    | (refine br_dec (fun h0 => ?_) (fun h0 => ?_) <;> (conv => whnf))
    | (refine br_intro (fun hb => ?_) (fun hb => ?_) <;> ((try rw [hb]); (conv => whnf); (try simp at hb)))
    | (exact True.elim trivial)
    | (refine aI ?_; (conv => whnf))
    | (refine fin_e ?_; (conv => whnf); exact lfA)
    | fail
  refine loop_at mixed (fun (y : Nat × List Int) => ([(8, I y.1), (7, encT (some 2) I 1 y.2), (1, encL encEty 3 es), (2, I a)], [(2, .room y.2.length 1 2)], 3)) (fun y => y.1 ≤ es.length ∧ y.2.length ≤ 1 + 2 * y.1) (fun y => es.length - y.1) (0, [_]) ⟨Nat.zero_le _, Nat.le_refl _⟩ (le_st (le_r rfl) (leE_i rfl rfl (leE_le rfl (leA_one1 rfl rfl).le (bnd_encT nf_I (lt_r rfl)) (leE_eq rfl (bnd_nf _ (nfL_Ety _ _)) (leE_i rfl rfl trivial)))) (leO_room (lt_r rfl) rfl trivial) gl0n) ?_
  rintro ⟨k, xs⟩ ⟨hk, hl⟩
  dsimp only at hk hl ⊢
  conv => whnf
  have hn : (es.length : Int) < 9223372036854775808 := by omega
  by_cases c : k < es.length
  · refine br_true (decide_eq_true ((by omega : (k : Int) < es.length))) ?_
    conv => whnf
    repeat' first
      | (refine br_dec (fun h0 => ?_) (fun h0 => ?_) <;> (conv => whnf))
      | (refine br_intro (fun hb => ?_) (fun hb => ?_) <;> ((try rw [hb]); (conv => whnf); (try simp at hb)))
      | (exact ⟨(k + 1, xs), ⟨c, by show xs.length ≤ 1 + 2 * (k + 1); omega⟩, (by show es.length - (k + 1) < es.length - k; omega), (le_st (le_r rfl) (leE_i rfl (inc_id c hn) (leE_eq rfl (bnd_encT nf_I (lt_r rfl)) (leE_eq rfl (bnd_nf _ (nfL_Ety _ _)) (leE_i rfl rfl trivial)))) (leO_room (lt_r rfl) rfl trivial) gl0n)⟩)
      | (exact ⟨(k + 1, xs ++ [_]), ⟨c, by show (xs ++ [_]).length ≤ 1 + 2 * (k + 1); (simp; omega)⟩, (by show es.length - (k + 1) < es.length - k; omega), (le_st (le_r rfl) (leE_i rfl (inc_id c hn) (leE_le rfl (leA_snoc (enc := I) (by exact LeA.refl _)).le (bnd_encT nf_I (lt_r rfl)) (leE_eq rfl (bnd_nf _ (nfL_Ety _ _)) (leE_i rfl rfl trivial)))) (leO_room (lt_r rfl) (by (simp; rfl)) trivial) gl0n)⟩)
      | (exact ⟨(k + 1, (xs ++ [_]) ++ [_]), ⟨c, by show ((xs ++ [_]) ++ [_]).length ≤ 1 + 2 * (k + 1); (simp; omega)⟩, (by show es.length - (k + 1) < es.length - k; omega), (le_st (le_r rfl) (leE_i rfl (inc_id c hn) (leE_le rfl (leA_snoc2 (by exact LeA.refl _) (by exact LeA.refl _)).le (bnd_encT nf_I (lt_r rfl)) (leE_eq rfl (bnd_nf _ (nfL_Ety _ _)) (leE_i rfl rfl trivial)))) (leO_room (lt_r rfl) (by (simp; rfl)) trivial) gl0n)⟩)
      | (refine aI ?_; (conv => whnf))
      | (refine fin_e ?_; (conv => whnf); exact lfA)
      | fail
  · refine br_false (decide_eq_false ((by omega : ¬ ((k : Int) < es.length)))) ?_
    conv => whnf
    refine fin_r (encL I 1 xs) (nfL_I _ _) ⟨xs, rfl, by omega⟩ ?_
    conv => whnf
    exact leA_drop.le

abbrev QBk : AV → Prop := fun r => ∃ b e, r = tup2 (encBk b) (I e)

theorem r8_Post_s (b : Bk) (es : List Ety) (he : es.length ≤ 100) : PureX Tryz.prog gl0 r8_Post [encBk b, encL encEty 3 es] (QBk) := by
  refine pure_fnX mixed fn_r8_Post nt_r8_Post hc_r8_Post (by simp) gl0n (by simp [nf]) ?_
  conv => whnf
  refine loop_at mixed (fun (k : Nat) => ([(6, I k), (1, encL encEty 3 es), (2, .ptr 0 []), (4, .ptr 1 []), (5, I 0)], [(0, .box (encBk b)), (1, .box (encBk bk0))], 2)) (fun k => k ≤ es.length) (fun k => es.length - k) 0 (Nat.zero_le _) (le_st (le_r rfl) (leE_i rfl rfl (leE_eq rfl (bnd_nf _ (nfL_Ety _ _)) (leE_ptr rfl rfl (leE_ptr rfl rfl (leE_i rfl rfl trivial))))) (leO_box (lt_r rfl) rfl (LeA.refl _) (bnd_nf _ (nf_encBk _)) (leO_box (lt_r rfl) rfl (LeA.refl _) (bnd_nf _ (nf_encBk _)) trivial)) gl0n) ?_
  intro k hk
  conv => whnf
  have hn : (es.length : Int) < 9223372036854775808 := by omega
  by_cases c : k < es.length
  · refine br_true (decide_eq_true ((by omega : (k : Int) < es.length))) ?_
    conv => whnf
    repeat' first
      | (refine br_dec (fun h0 => ?_) (fun h0 => ?_) <;> (conv => whnf))
      | (refine br_intro (fun hb => ?_) (fun hb => ?_) <;> ((try rw [hb]); (conv => whnf); (try simp at hb)))
      | (refine call_x2 (r8_refused_s ⟨_, _, _⟩) ⟨le_Ety .., trivial⟩ ?_; (first | (rintro _ - ⟨_, rfl⟩) | (rintro _ - ⟨_, rfl, _⟩) | (rintro _ - ⟨_, _, rfl⟩) | (rintro _ - ⟨_, _, rfl, _⟩) | (rintro _ - ⟨_, _, _, rfl⟩) | (rintro _ - ⟨_, _, _, rfl, _⟩)); (conv => whnf))
      | (exact ⟨k + 1, c, (by show es.length - (k + 1) < es.length - k; omega), (le_st (le_r rfl) (leE_i rfl (inc_id c hn) (leE_eq rfl (bnd_nf _ (nfL_Ety _ _)) (leE_ptr rfl rfl (leE_ptr rfl rfl (leE_i rfl rfl trivial))))) (leO_box (lt_r rfl) rfl (LeA.refl _) (bnd_nf _ (nf_encBk _)) (leO_box (lt_r rfl) rfl (LeA.refl _) (bnd_nf _ (nf_encBk _)) trivial)) gl0n)⟩)
      | (refine fin_e ?_; (conv => whnf); exact ⟨⟨nf_encBk b, trivial, trivial⟩, b, _, rfl⟩)
      | (refine aI ?_; (conv => whnf))
      | (refine fin_e ?_; (conv => whnf); exact lfA)
      | fail
  · refine br_false (decide_eq_false ((by omega : ¬ ((k : Int) < es.length)))) ?_
    conv => whnf
    refine loop_at mixed (fun (y : Nat × (Nat → Int)) => ([(9, I y.1), (1, encL encEty 3 es), (2, .ptr 0 []), (4, .ptr 1 []), (5, I 0), (8, .ptr 2 [])], [(0, .box (encBk b)), (1, .box (encBk bk0)), (2, .box (encBf y.2))], 3)) (fun y => y.1 ≤ 12 ∧ ∀ a, a < 12 → y.2 a ≠ -9223372036854775808) (fun y => 12 - y.1) (0, fun _ => 0) ⟨Nat.zero_le _, fun _ _ => (by decide : (0 : Int) ≠ -9223372036854775808)⟩ (le_st (le_r rfl) (leE_i rfl rfl (leE_eq rfl (bnd_nf _ (nfL_Ety _ _)) (leE_ptr rfl rfl (leE_ptr rfl rfl (leE_i rfl rfl (leE_ptr rfl rfl trivial)))))) (leO_box (lt_r rfl) rfl (LeA.refl _) (bnd_nf _ (nf_encBk _)) (leO_box (lt_r rfl) rfl (LeA.refl _) (bnd_nf _ (nf_encBk _)) (leO_box (lt_r rfl) rfl (LeA.refl _) (bnd_nf _ (nf_encBf _)) trivial))) gl0n) ?_
    rintro ⟨j, g⟩ ⟨hj, hg⟩
    dsimp only at hj hg ⊢
    conv => whnf
    have hn : ((12 : Nat) : Int) < 9223372036854775808 := by decide
    by_cases c : j < 12
    · refine br_true (decide_eq_true ((by omega : (j : Int) < 12))) ?_
      conv => whnf
      repeat' first
        | (refine br_dec (fun h0 => ?_) (fun h0 => ?_) <;> (conv => whnf))
        | (refine br_intro (fun hb => ?_) (fun hb => ?_) <;> ((try rw [hb]); (conv => whnf); (try simp at hb)))
        | (refine call_x2 (r8_moves_s b es _ (by omega) (by omega) he) (LeL.refl _) ?_; (rintro _ - ⟨xs, rfl, hxs⟩); (conv => whnf))
        | (refine call_x2 (r1_Sum_s _ (by omega)) ⟨Le.refl _, trivial⟩ ?_; rintro _ - ⟨_, _ | _, rfl⟩ <;> (conv => whnf))
        | (refine ⟨(j + 1, _), ?_, (by show 12 - (j + 1) < 12 - j; omega), (le_st (le_r rfl) (leE_i rfl (inc_id c hn) (leE_eq rfl (bnd_nf _ (nfL_Ety _ _)) (leE_ptr rfl rfl (leE_ptr rfl rfl (leE_i rfl rfl (leE_ptr rfl rfl trivial)))))) (leO_box (lt_r rfl) rfl (LeA.refl _) (bnd_nf _ (nf_encBk _)) (leO_box (lt_r rfl) rfl (LeA.refl _) (bnd_nf _ (nf_encBk _)) (leO_box (lt_r rfl) rfl (LeA.refl _ ) (bnd_nf _ ( nf_encBf _)) trivial))) gl0n)⟩; (refine ⟨c, fun a ha => ?_⟩); (show (if a = j then _ else g a) ≠ _); (by_cases e : a = j); (rw [if_pos e]; first | assumption | omega); (rw [if_neg e]; exact hg a ha))
        | (refine fin_e ?_; (conv => whnf); exact ⟨⟨nf_encBk b, trivial, trivial⟩, b, _, rfl⟩)
        | (refine aI ?_; (conv => whnf))
        | (refine fin_e ?_; (conv => whnf); exact lfA)
        | fail
    · refine br_false (decide_eq_false ((by omega : ¬ ((j : Int) < 12)))) ?_
      conv => whnf
      refine loop_at mixed (fun (q : Nat) => ([(12, I q), (2, .ptr 0 []), (4, .ptr 1 []), (5, I 0), (8, .ptr 2 [])], [(0, .box (encBk b)), (1, .box (encBk bk0)), (2, .box (encBk ⟨g, hg⟩))], 3)) (fun q => q ≤ 12) (fun q => 12 - q) 0 (Nat.zero_le _) (le_st (le_r rfl) (leE_i rfl rfl (leE_ptr rfl rfl (leE_ptr rfl rfl (leE_i rfl rfl (leE_ptr rfl rfl trivial))))) (leO_box (lt_r rfl) rfl (LeA.refl _) (bnd_nf _ (nf_encBk _)) (leO_box (lt_r rfl) rfl (LeA.refl _) (bnd_nf _ (nf_encBk _)) (leO_box (lt_r rfl) rfl (LeA.refl _) (bnd_nf _ (nf_encBk _)) trivial))) gl0n) ?_
      intro q hq
      conv => whnf
      by_cases c : q < 12
      · refine br_true (decide_eq_true ((by omega : (q : Int) < 12))) ?_
        conv => whnf
        repeat' first
          | (refine br_dec (fun h0 => ?_) (fun h0 => ?_) <;> (conv => whnf))
          | (refine br_intro (fun hb => ?_) (fun hb => ?_) <;> ((try rw [hb]); (conv => whnf); (try simp at hb)))
          | (refine call_x2 (r8_OwnSide_s _ _) ⟨Le.refl _, Le.refl _, trivial⟩ ?_; rintro _ - ⟨_ | _, rfl⟩ <;> (conv => whnf))
          | (exact ⟨q + 1, c, (by show 12 - (q + 1) < 12 - q; omega), (le_st (le_r rfl) (leE_i rfl (inc_id c hn) (leE_ptr rfl rfl (leE_ptr rfl rfl (leE_i rfl rfl (leE_ptr rfl rfl trivial))))) (leO_box (lt_r rfl) rfl (LeA.refl _) (bnd_nf _ (nf_encBk _)) (leO_box (lt_r rfl) rfl (LeA.refl _) (bnd_nf _ (nf_encBk _)) (leO_box (lt_r rfl) rfl (LeA.refl _) (bnd_nf _ (nf_encBk _)) trivial))) gl0n)⟩)
          | (refine fin_e ?_; (conv => whnf); exact ⟨⟨nf_encBk b, trivial, trivial⟩, b, _, rfl⟩)
          | (refine aI ?_; (conv => whnf))
          | (refine fin_e ?_; (conv => whnf); exact lfA)
          | fail
      · refine br_false (decide_eq_false ((by omega : ¬ ((q : Int) < 12)))) ?_
        conv => whnf
        repeat' first
          | (refine br_dec (fun h0 => ?_) (fun h0 => ?_) <;> (conv => whnf))
          | (refine br_intro (fun hb => ?_) (fun hb => ?_) <;> ((try rw [hb]); (conv => whnf); (try simp at hb)))
          | (refine fin_e ?_; (conv => whnf); exact ⟨⟨nf_encBk ⟨g, hg⟩, trivial, trivial⟩, ⟨g, hg⟩, _, rfl⟩)
          | (refine aI ?_; (conv => whnf))
          | (refine fin_e ?_; (conv => whnf); exact lfA)
          | fail

end Go.Proofs.YtaomkjcclcgdlaaGreatDoor
