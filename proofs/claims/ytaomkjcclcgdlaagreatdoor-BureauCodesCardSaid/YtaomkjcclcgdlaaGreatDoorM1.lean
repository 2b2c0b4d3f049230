/- The policy: which of its fields may be, by the document and by the program: exact. No condition. -/
import Derived.Test.YtaomkjcclcgdlaaGreatDoorL1
import Derived.Test.YtaomkjcclcgdlaaGreatDoorK7
import Derived.Test.YtaomkjcclcgdlaaGreatDoorK6
set_option linter.all false
namespace Go.Proofs.YtaomkjcclcgdlaaGreatDoor
open Go Ar
set_option linter.unusedVariables false
set_option autoImplicit false
set_option maxHeartbeats 4000000
set_option maxRecDepth 100000

def holOk (l : List Int) (i : Nat) : Prop := 1 ≤ at_ l i ∧ at_ l i ≤ 3652059 ∧ (0 < i → at_ l (i - 1) < at_ l i)
instance (l : List Int) (i : Nat) : Decidable (holOk l i) := by unfold holOk; infer_instance
def HolP (l : List Int) : Prop := l.length ≤ 64 ∧ ∀ i, i < l.length → holOk l i
instance (l : List Int) : Decidable (HolP l) := by unfold HolP; infer_instance

/-- May the field of that number be? -/
def mayP (p : Pol) (i : Nat) : Prop := match i with
  | 1 => 1 ≤ p.firstDay ∧ p.firstDay ≤ 3652059
  | 2 => 0 ≤ p.grace ∧ p.grace ≤ 30
  | 3 => p.grace < p.nonAccrual ∧ p.nonAccrual ≤ 365
  | 4 => 1 ≤ p.chargeOff ∧ p.chargeOff ≤ 365
  | 5 => 0 ≤ p.lateRate ∧ p.lateRate ≤ 10000
  | 6 => 0 ≤ p.lateMin ∧ p.lateMin ≤ 1000000000
  | 7 => p.lateMin ≤ p.lateMax ∧ p.lateMax ≤ 1000000000
  | 8 => 0 ≤ p.cycleCap ∧ p.cycleCap ≤ 1000000000
  | 9 => 0 ≤ p.lifeCap ∧ p.lifeCap ≤ 1000000000
  | 10 => 0 ≤ p.promises ∧ p.promises ≤ 8
  | 11 => 1 ≤ p.promiseDays ∧ p.promiseDays ≤ 60
  | 12 => 0 ≤ p.restr ∧ p.restr ≤ 4
  | 13 => 0 ≤ p.order ∧ p.order ≤ 5
  | 14 => 0 ≤ p.rule ∧ p.rule ≤ 3
  | 15 => 1 ≤ p.retryBase ∧ p.retryBase ≤ 64
  | 16 => p.retryBase ≤ p.retryCap ∧ p.retryCap ≤ 64
  | 17 => 0 ≤ p.snapEvery ∧ p.snapEvery ≤ 1000
  | _ => HolP p.holidays
instance (p : Pol) (i : Nat) : Decidable (mayP p i) := by unfold mayP; split <;> infer_instance

/-- The error and the field that a policy gets. -/
def chk (p : Pol) : Int × Int := match (List.range 18).find? (fun i => !decide (mayP p (i + 1))) with
  | some i => (120, i + 1)
  | none => (0, 0)

theorem find_range {q : Nat → Bool} {k n : Nat} (h : ∀ j, j < k → q j = false) (hk : k < n) (hq : q k = true) : (List.range n).find? q = some k := by
  rw [List.find?_range_eq_some]
  exact ⟨hq, List.mem_range.2 hk, fun j hj => by rw [h j hj]; rfl⟩

theorem chk_at {p : Pol} {k : Nat} (h : ∀ j, j < k → mayP p (j + 1)) (hk : k < 18) (hq : ¬ mayP p (k + 1)) : chk p = (120, (k : Int) + 1) := by
  unfold chk
  rw [find_range (k := k) (fun j hj => by simp [h j hj]) hk (by simp [hq])]

theorem chk_end {p : Pol} (h : ∀ j, j < 18 → mayP p (j + 1)) : chk p = (0, 0) := by
  unfold chk
  rw [List.find?_eq_none.2 (fun x hx => by simp [h x (List.mem_range.1 hx)])]

theorem br_decN {p : Prop} [Decidable p] {A B : Prop} (h : ¬ p → A) (h' : p → B) : br (!decide p) A B := by
  by_cases c : p
  · rw [decide_eq_true c]; exact h' c
  · rw [decide_eq_false c]; exact h c

theorem r12_in_x (x a b : Int) : PureX Tryz.prog gl0 r12_in [I x, I a, I b] (fun r => r = B (decide (a ≤ x ∧ x ≤ b))) := by
  refine pure_fnX mixed fn_r12_in nt_r12_in hc_r12_in (by simp) gl0n (by simp [nf]) ?_
  conv => whnf
  repeat' first
    | (refine br_dec (fun h0 => ?_) (fun h0 => ?_) <;> (conv => whnf))
    | (refine br_intro (fun hb => ?_) (fun hb => ?_) <;> ((try rw [hb]); (conv => whnf); (try simp at hb)))
    | (refine aI ?_; (conv => whnf))
    | (refine fin_e ?_; (conv => whnf); first | exact ⟨trivial, congrArg (fun b => B b) (decide_eq_true (by omega)).symm⟩ | exact ⟨trivial, congrArg (fun b => B b) (decide_eq_false (by omega)).symm⟩)
    | fail

theorem r12_holidays_x (xs : List Int) (hn : (xs.length : Int) < 9223372036854775808) : PureX Tryz.prog gl0 r12_holidays [encL I 1 xs] (fun r => r = B (decide (HolP xs))) := by
  refine pure_fnX mixed fn_r12_holidays nt_r12_holidays hc_r12_holidays (by simp) gl0n (by simp [nf]) ?_
  conv => whnf
  by_cases h : (xs.length : Int) > 64
  · refine br_true (decide_eq_true (h)) ?_
    conv => whnf
    refine fin_e ?_
    conv => whnf
    exact ⟨trivial, congrArg (fun b => B b) (decide_eq_false (fun hh => by have := hh.1; omega)).symm⟩
  · refine br_false (decide_eq_false (h)) ?_
    conv => whnf
    refine loop_at mixed (fun (k : Nat) => ([(3, I k), (0, encL I 1 xs)], [], 0)) (fun k => k ≤ xs.length ∧ ∀ j, j < k → holOk xs j) (fun k => xs.length - k) 0 ⟨Nat.zero_le _, fun j hj => absurd hj (Nat.not_lt_zero j)⟩ ?_ ?_
    · exact le_st (le_r rfl) (leE_i rfl rfl (leE_eq rfl (bnd_nf _ (nfL_I _ _)) trivial)) trivial gl0n
    · rintro k ⟨hk, hok⟩
      conv => whnf
      by_cases c : k < xs.length
      · refine br_true (decide_eq_true ((by omega : (k : Int) < xs.length))) ?_
        conv => whnf
        have step : ∀ (e : Env) (o : Objs) (n : Nat), holOk xs k → LeSt gl0 41 e o n ([(3, I ((k + 1 : Nat) : Int)), (0, encL I 1 xs)]) [] 0 → ∃ z, (z ≤ xs.length ∧ ∀ j, j < z → holOk xs j) ∧ xs.length - z < xs.length - k ∧ LeSt gl0 41 e o n ([(3, I (z : Int)), (0, encL I 1 xs)]) [] 0 := fun e o n hx h => ⟨k + 1, ⟨c, fun j hj => (by by_cases e : j = k; subst e; exact hx; exact hok j (by omega))⟩, by omega, h⟩
        have e1 : (Int.toNat (k : Int)) = k := rfl
        have e2 : (IntKind.i64.wrap ((k : Int) - 1)).toNat = k - 1 := by
          by_cases c0 : k = 0
          · subst c0; decide
          · rw [wrap_id (by unfold in64; omega)]; omega
        repeat' first
          | (refine br_dec (fun h0 => ?_) (fun h0 => ?_) <;> (conv => whnf))
          | (refine br_intro (fun hb => ?_) (fun hb => ?_) <;> ((try rw [hb]); (conv => whnf); (try simp at hb)))
          | (refine step _ _ _ ?_ (le_st (le_r rfl) (leE_i rfl (inc_id c hn) (leE_eq rfl (bnd_nf _ (nfL_I _ _)) trivial)) trivial gl0n); unfold holOk; simp only [e1, e2] at *; omega)
          | (refine aI ?_; (conv => whnf))
          | (refine fin_e ?_; (conv => whnf); exact ⟨trivial, congrArg (fun b => B b) (decide_eq_false (fun hh => by have := hh.2 k c; unfold holOk at this; simp only [e1, e2] at *; omega)).symm⟩)
          | fail
      · obtain rfl : k = xs.length := by omega
        refine br_false (decide_eq_false ((by omega : ¬ ((xs.length : Int) < xs.length)))) ?_
        conv => whnf
        refine fin_e ?_
        conv => whnf
        exact ⟨trivial, congrArg (fun b => B b) (decide_eq_true ⟨by omega, hok⟩).symm⟩

theorem r12_may_x (p : Pol) (n : Nat) (hn : (p.holidays.length : Int) < 9223372036854775808) (h1 : 1 ≤ n) (h2 : n ≤ 18) : PureX Tryz.prog gl0 r12_may [encPol p, I (n : Nat)] (fun r => r = B (decide (mayP p n))) := by
  refine pure_fnX mixed fn_r12_may nt_r12_may hc_r12_may (by simp) gl0n (by simp [nf, nf_encPol]) ?_
  have h : n = 1 ∨ n = 2 ∨ n = 3 ∨ n = 4 ∨ n = 5 ∨ n = 6 ∨ n = 7 ∨ n = 8 ∨ n = 9 ∨ n = 10 ∨ n = 11 ∨ n = 12 ∨ n = 13 ∨ n = 14 ∨ n = 15 ∨ n = 16 ∨ n = 17 ∨ n = 18 := by omega
  clear h1 h2
  rcases h with rfl | rfl | rfl | rfl | rfl | rfl | rfl | rfl | rfl | rfl | rfl | rfl | rfl | rfl | rfl | rfl | rfl | rfl <;> (conv => whnf)
  all_goals
   repeat' first
     | (refine br_dec (fun h0 => ?_) (fun h0 => ?_) <;> (conv => whnf))
     | (refine br_intro (fun hb => ?_) (fun hb => ?_) <;> ((try rw [hb]); (conv => whnf); (try simp at hb)))
     | (refine call_x2 (r12_in_x _ _ _) ⟨Le.refl _, Le.refl _, Le.refl _, trivial⟩ ?_; rintro _ - rfl; (conv => whnf))
     | (refine call_x2 (r12_holidays_x _ hn) ⟨Le.refl _, trivial⟩ ?_; rintro _ - rfl; (conv => whnf))
     | (refine aI ?_; (conv => whnf))
     | (refine fin_e ?_; (conv => whnf); first | exact ⟨trivial, rfl⟩ | exact ⟨trivial, congrArg (fun b => B b) (decide_eq_true (p := mayP p 3) (show mayP p 3 from (⟨by omega, by omega⟩ : p.grace < p.nonAccrual ∧ p.nonAccrual ≤ 365))).symm⟩ | exact ⟨trivial, congrArg (fun b => B b) (decide_eq_false (p := mayP p 3) (fun hh : p.grace < p.nonAccrual ∧ p.nonAccrual ≤ 365 => by omega)).symm⟩)
     | fail

theorem r12_Check_x (p : Pol) (hp : hasI p) : PureX Tryz.prog gl0 r12_Check [encPol p] (fun r => r = tup2 (I (chk p).1) (I (chk p).2)) := by
  refine pure_fnX mixed fn_r12_Check nt_r12_Check hc_r12_Check (by simp) gl0n (by simp [nf]) ?_
  conv => whnf
  refine loop_at mixed (fun (k : Nat) => ([(4, I (k + 1 : Nat)), (1, .ptr 0 [])], [(0, .box (encPol p))], 1)) (fun k => k ≤ 18 ∧ ∀ j, j < k → mayP p (j + 1)) (fun k => 18 - k) 0 ⟨by omega, fun j hj => absurd hj (Nat.not_lt_zero j)⟩ (le_st (le_r rfl) (leE_i rfl rfl (leE_ptr rfl rfl trivial)) (leO_box (lt_r rfl) rfl (LeA.refl _) (bnd_nf _ (nf_encPol _)) trivial) gl0n) ?_
  rintro k ⟨h1, h2⟩
  conv => whnf
  have hn : ((20 : Nat) : Int) < 9223372036854775808 := by decide
  by_cases c : k < 18
  · refine br_true (decide_eq_true ((by omega : ((k + 1 : Nat) : Int) ≤ 18))) ?_
    conv => whnf
    have cc : k + 1 < 20 := by omega
    repeat' first
      | (refine br_dec (fun h0 => ?_) (fun h0 => ?_) <;> (conv => whnf))
      | (refine br_intro (fun hb => ?_) (fun hb => ?_) <;> ((try rw [hb]); (conv => whnf); (try simp at hb)))
      | (refine call_x2 (r12_may_x p (k + 1) hp (by omega) (by omega)) ⟨Le.refl _, Le.refl _, trivial⟩ ?_; rintro _ - rfl; (conv => whnf))
      | (refine br_decN (fun h0 => ?_) (fun h0 => ?_) <;> (conv => whnf))
      | (refine ⟨k + 1, ⟨by omega, fun j hj => by (by_cases e : j = k; subst e; assumption; exact h2 j (by omega))⟩, (by show 18 - (k + 1) < 18 - k; omega), (le_st (le_r rfl) (leE_i rfl (inc_id cc hn) (leE_ptr rfl rfl trivial)) (leO_box (lt_r rfl) rfl (LeA.refl _) (bnd_nf _ (nf_encPol _)) trivial) gl0n)⟩)
      | (refine aI ?_; (conv => whnf))
      | (refine fin_e ?_; (conv => whnf); rw [chk_at h2 c (by assumption)]; exact ⟨by simp [packA, consL, nf], rfl⟩)
      | fail
  · refine br_false (decide_eq_false ((by omega : ¬ (((k + 1 : Nat) : Int) ≤ 18)))) ?_
    conv => whnf
    refine fin_e ?_
    conv => whnf
    rw [chk_end (fun j hj => h2 j (by omega))]
    exact ⟨by simp [packA, consL, nf], rfl⟩

end Go.Proofs.YtaomkjcclcgdlaaGreatDoor
namespace Go.Proofs.YtaomkjcclcgdlaaGreatDoor
open Go Ar
set_option linter.unusedVariables false
set_option autoImplicit false
set_option maxHeartbeats 4000000
set_option maxRecDepth 100000

/-- A function value that answers a number of a policy. -/
structure Take (f : Nat) (c : AV) (p : Pol) (x : Int) : Prop where
  ok : FnOk Tryz.prog f
  c : PureX Tryz.prog gl0 f (encPol p :: toLA c) (fun r => r = I x)

abbrev elC (f : Nat) (c : AV) : AV := .elt 1 1 (fun _ => .clo (.func f) .nil c) 0 []
abbrev frC (n : Int) : AV := .cons (.elt 1 1 (fun _ => I n) 0 []) .nil

theorem policy_rules_c1_s (p : Pol) : PureX Tryz.prog gl0 policy_rules_c1 [encPol p] (fun r => r = I (p.firstDay)) := by
  refine pure_fnX mixed fn_policy_rules_c1 nt_policy_rules_c1 hc_policy_rules_c1 (by simp) gl0n (by simp [nf]) ?_
  conv => whnf
  refine fin_e ?_
  conv => whnf
  exact ⟨trivial, rfl⟩
theorem take_1 (p : Pol) : Take policy_rules_c1 .nil p (p.firstDay) := ⟨⟨_, _, fn_policy_rules_c1, by kernel_rfl, rfl⟩, policy_rules_c1_s p⟩
theorem policy_rules_c2_s (p : Pol) : PureX Tryz.prog gl0 policy_rules_c2 [encPol p] (fun r => r = I (p.grace)) := by
  refine pure_fnX mixed fn_policy_rules_c2 nt_policy_rules_c2 hc_policy_rules_c2 (by simp) gl0n (by simp [nf]) ?_
  conv => whnf
  refine fin_e ?_
  conv => whnf
  exact ⟨trivial, rfl⟩
theorem take_2 (p : Pol) : Take policy_rules_c2 .nil p (p.grace) := ⟨⟨_, _, fn_policy_rules_c2, by kernel_rfl, rfl⟩, policy_rules_c2_s p⟩
theorem policy_rules_c3_s (p : Pol) : PureX Tryz.prog gl0 policy_rules_c3 [encPol p] (fun r => r = I (p.nonAccrual)) := by
  refine pure_fnX mixed fn_policy_rules_c3 nt_policy_rules_c3 hc_policy_rules_c3 (by simp) gl0n (by simp [nf]) ?_
  conv => whnf
  refine fin_e ?_
  conv => whnf
  exact ⟨trivial, rfl⟩
theorem take_3 (p : Pol) : Take policy_rules_c3 .nil p (p.nonAccrual) := ⟨⟨_, _, fn_policy_rules_c3, by kernel_rfl, rfl⟩, policy_rules_c3_s p⟩
theorem policy_rules_c4_s (p : Pol) : PureX Tryz.prog gl0 policy_rules_c4 [encPol p] (fun r => r = I (IntKind.i64.wrap (p.grace + 1))) := by
  refine pure_fnX mixed fn_policy_rules_c4 nt_policy_rules_c4 hc_policy_rules_c4 (by simp) gl0n (by simp [nf]) ?_
  conv => whnf
  refine fin_e ?_
  conv => whnf
  exact ⟨trivial, rfl⟩
theorem take_4 (p : Pol) : Take policy_rules_c4 .nil p (IntKind.i64.wrap (p.grace + 1)) := ⟨⟨_, _, fn_policy_rules_c4, by kernel_rfl, rfl⟩, policy_rules_c4_s p⟩
theorem policy_rules_c5_s (p : Pol) : PureX Tryz.prog gl0 policy_rules_c5 [encPol p] (fun r => r = I (p.chargeOff)) := by
  refine pure_fnX mixed fn_policy_rules_c5 nt_policy_rules_c5 hc_policy_rules_c5 (by simp) gl0n (by simp [nf]) ?_
  conv => whnf
  refine fin_e ?_
  conv => whnf
  exact ⟨trivial, rfl⟩
theorem take_5 (p : Pol) : Take policy_rules_c5 .nil p (p.chargeOff) := ⟨⟨_, _, fn_policy_rules_c5, by kernel_rfl, rfl⟩, policy_rules_c5_s p⟩
theorem policy_rules_c6_s (p : Pol) : PureX Tryz.prog gl0 policy_rules_c6 [encPol p] (fun r => r = I (p.lateRate)) := by
  refine pure_fnX mixed fn_policy_rules_c6 nt_policy_rules_c6 hc_policy_rules_c6 (by simp) gl0n (by simp [nf]) ?_
  conv => whnf
  refine fin_e ?_
  conv => whnf
  exact ⟨trivial, rfl⟩
theorem take_6 (p : Pol) : Take policy_rules_c6 .nil p (p.lateRate) := ⟨⟨_, _, fn_policy_rules_c6, by kernel_rfl, rfl⟩, policy_rules_c6_s p⟩
theorem policy_rules_c7_s (p : Pol) : PureX Tryz.prog gl0 policy_rules_c7 [encPol p] (fun r => r = I (p.lateMin)) := by
  refine pure_fnX mixed fn_policy_rules_c7 nt_policy_rules_c7 hc_policy_rules_c7 (by simp) gl0n (by simp [nf]) ?_
  conv => whnf
  refine fin_e ?_
  conv => whnf
  exact ⟨trivial, rfl⟩
theorem take_7 (p : Pol) : Take policy_rules_c7 .nil p (p.lateMin) := ⟨⟨_, _, fn_policy_rules_c7, by kernel_rfl, rfl⟩, policy_rules_c7_s p⟩
theorem policy_rules_c8_s (p : Pol) : PureX Tryz.prog gl0 policy_rules_c8 [encPol p] (fun r => r = I (p.lateMax)) := by
  refine pure_fnX mixed fn_policy_rules_c8 nt_policy_rules_c8 hc_policy_rules_c8 (by simp) gl0n (by simp [nf]) ?_
  conv => whnf
  refine fin_e ?_
  conv => whnf
  exact ⟨trivial, rfl⟩
theorem take_8 (p : Pol) : Take policy_rules_c8 .nil p (p.lateMax) := ⟨⟨_, _, fn_policy_rules_c8, by kernel_rfl, rfl⟩, policy_rules_c8_s p⟩
theorem policy_rules_c9_s (p : Pol) : PureX Tryz.prog gl0 policy_rules_c9 [encPol p] (fun r => r = I (p.lateMin)) := by
  refine pure_fnX mixed fn_policy_rules_c9 nt_policy_rules_c9 hc_policy_rules_c9 (by simp) gl0n (by simp [nf]) ?_
  conv => whnf
  refine fin_e ?_
  conv => whnf
  exact ⟨trivial, rfl⟩
theorem take_9 (p : Pol) : Take policy_rules_c9 .nil p (p.lateMin) := ⟨⟨_, _, fn_policy_rules_c9, by kernel_rfl, rfl⟩, policy_rules_c9_s p⟩
theorem policy_rules_c10_s (p : Pol) : PureX Tryz.prog gl0 policy_rules_c10 [encPol p] (fun r => r = I (p.cycleCap)) := by
  refine pure_fnX mixed fn_policy_rules_c10 nt_policy_rules_c10 hc_policy_rules_c10 (by simp) gl0n (by simp [nf]) ?_
  conv => whnf
  refine fin_e ?_
  conv => whnf
  exact ⟨trivial, rfl⟩
theorem take_10 (p : Pol) : Take policy_rules_c10 .nil p (p.cycleCap) := ⟨⟨_, _, fn_policy_rules_c10, by kernel_rfl, rfl⟩, policy_rules_c10_s p⟩
theorem policy_rules_c11_s (p : Pol) : PureX Tryz.prog gl0 policy_rules_c11 [encPol p] (fun r => r = I (p.lifeCap)) := by
  refine pure_fnX mixed fn_policy_rules_c11 nt_policy_rules_c11 hc_policy_rules_c11 (by simp) gl0n (by simp [nf]) ?_
  conv => whnf
  refine fin_e ?_
  conv => whnf
  exact ⟨trivial, rfl⟩
theorem take_11 (p : Pol) : Take policy_rules_c11 .nil p (p.lifeCap) := ⟨⟨_, _, fn_policy_rules_c11, by kernel_rfl, rfl⟩, policy_rules_c11_s p⟩
theorem policy_rules_c12_s (p : Pol) : PureX Tryz.prog gl0 policy_rules_c12 [encPol p] (fun r => r = I (p.promises)) := by
  refine pure_fnX mixed fn_policy_rules_c12 nt_policy_rules_c12 hc_policy_rules_c12 (by simp) gl0n (by simp [nf]) ?_
  conv => whnf
  refine fin_e ?_
  conv => whnf
  exact ⟨trivial, rfl⟩
theorem take_12 (p : Pol) : Take policy_rules_c12 .nil p (p.promises) := ⟨⟨_, _, fn_policy_rules_c12, by kernel_rfl, rfl⟩, policy_rules_c12_s p⟩
theorem policy_rules_c13_s (p : Pol) : PureX Tryz.prog gl0 policy_rules_c13 [encPol p] (fun r => r = I (p.promiseDays)) := by
  refine pure_fnX mixed fn_policy_rules_c13 nt_policy_rules_c13 hc_policy_rules_c13 (by simp) gl0n (by simp [nf]) ?_
  conv => whnf
  refine fin_e ?_
  conv => whnf
  exact ⟨trivial, rfl⟩
theorem take_13 (p : Pol) : Take policy_rules_c13 .nil p (p.promiseDays) := ⟨⟨_, _, fn_policy_rules_c13, by kernel_rfl, rfl⟩, policy_rules_c13_s p⟩
theorem policy_rules_c14_s (p : Pol) : PureX Tryz.prog gl0 policy_rules_c14 [encPol p] (fun r => r = I (p.restr)) := by
  refine pure_fnX mixed fn_policy_rules_c14 nt_policy_rules_c14 hc_policy_rules_c14 (by simp) gl0n (by simp [nf]) ?_
  conv => whnf
  refine fin_e ?_
  conv => whnf
  exact ⟨trivial, rfl⟩
theorem take_14 (p : Pol) : Take policy_rules_c14 .nil p (p.restr) := ⟨⟨_, _, fn_policy_rules_c14, by kernel_rfl, rfl⟩, policy_rules_c14_s p⟩
theorem policy_rules_c15_s (p : Pol) : PureX Tryz.prog gl0 policy_rules_c15 [encPol p] (fun r => r = I (p.order)) := by
  refine pure_fnX mixed fn_policy_rules_c15 nt_policy_rules_c15 hc_policy_rules_c15 (by simp) gl0n (by simp [nf]) ?_
  conv => whnf
  refine fin_e ?_
  conv => whnf
  exact ⟨trivial, rfl⟩
theorem take_15 (p : Pol) : Take policy_rules_c15 .nil p (p.order) := ⟨⟨_, _, fn_policy_rules_c15, by kernel_rfl, rfl⟩, policy_rules_c15_s p⟩
theorem policy_rules_c16_s (p : Pol) : PureX Tryz.prog gl0 policy_rules_c16 [encPol p] (fun r => r = I (p.rule)) := by
  refine pure_fnX mixed fn_policy_rules_c16 nt_policy_rules_c16 hc_policy_rules_c16 (by simp) gl0n (by simp [nf]) ?_
  conv => whnf
  refine fin_e ?_
  conv => whnf
  exact ⟨trivial, rfl⟩
theorem take_16 (p : Pol) : Take policy_rules_c16 .nil p (p.rule) := ⟨⟨_, _, fn_policy_rules_c16, by kernel_rfl, rfl⟩, policy_rules_c16_s p⟩
theorem policy_rules_c17_s (p : Pol) : PureX Tryz.prog gl0 policy_rules_c17 [encPol p] (fun r => r = I (p.retryBase)) := by
  refine pure_fnX mixed fn_policy_rules_c17 nt_policy_rules_c17 hc_policy_rules_c17 (by simp) gl0n (by simp [nf]) ?_
  conv => whnf
  refine fin_e ?_
  conv => whnf
  exact ⟨trivial, rfl⟩
theorem take_17 (p : Pol) : Take policy_rules_c17 .nil p (p.retryBase) := ⟨⟨_, _, fn_policy_rules_c17, by kernel_rfl, rfl⟩, policy_rules_c17_s p⟩
theorem policy_rules_c18_s (p : Pol) : PureX Tryz.prog gl0 policy_rules_c18 [encPol p] (fun r => r = I (p.retryCap)) := by
  refine pure_fnX mixed fn_policy_rules_c18 nt_policy_rules_c18 hc_policy_rules_c18 (by simp) gl0n (by simp [nf]) ?_
  conv => whnf
  refine fin_e ?_
  conv => whnf
  exact ⟨trivial, rfl⟩
theorem take_18 (p : Pol) : Take policy_rules_c18 .nil p (p.retryCap) := ⟨⟨_, _, fn_policy_rules_c18, by kernel_rfl, rfl⟩, policy_rules_c18_s p⟩
theorem policy_rules_c19_s (p : Pol) : PureX Tryz.prog gl0 policy_rules_c19 [encPol p] (fun r => r = I (p.retryBase)) := by
  refine pure_fnX mixed fn_policy_rules_c19 nt_policy_rules_c19 hc_policy_rules_c19 (by simp) gl0n (by simp [nf]) ?_
  conv => whnf
  refine fin_e ?_
  conv => whnf
  exact ⟨trivial, rfl⟩
theorem take_19 (p : Pol) : Take policy_rules_c19 .nil p (p.retryBase) := ⟨⟨_, _, fn_policy_rules_c19, by kernel_rfl, rfl⟩, policy_rules_c19_s p⟩
theorem policy_rules_c20_s (p : Pol) : PureX Tryz.prog gl0 policy_rules_c20 [encPol p] (fun r => r = I (p.snapEvery)) := by
  refine pure_fnX mixed fn_policy_rules_c20 nt_policy_rules_c20 hc_policy_rules_c20 (by simp) gl0n (by simp [nf]) ?_
  conv => whnf
  refine fin_e ?_
  conv => whnf
  exact ⟨trivial, rfl⟩
theorem take_20 (p : Pol) : Take policy_rules_c20 .nil p (p.snapEvery) := ⟨⟨_, _, fn_policy_rules_c20, by kernel_rfl, rfl⟩, policy_rules_c20_s p⟩

theorem arrears_policy_from_int_1_s (p : Pol) (n : Int) : PureX Tryz.prog gl0 arrears_policy_from_int_1 [encPol p, .elt 1 1 (fun _ => I n) 0 []] (fun r => r = I n) := by
  refine pure_fnX mixed fn_arrears_policy_from_int_1 nt_arrears_policy_from_int_1 hc_arrears_policy_from_int_1 (by simp) gl0n (by simp [nf]) ?_
  conv => whnf
  refine fin_e ?_
  conv => whnf
  exact ⟨trivial, rfl⟩
theorem from_int (p : Pol) (n : Int) : Take arrears_policy_from_int_1 (frC n) p n := ⟨⟨_, _, fn_arrears_policy_from_int_1, by kernel_rfl, rfl⟩, arrears_policy_from_int_1_s p n⟩

theorem arrears_policy_from_int__s (n : Int) : PureX Tryz.prog gl0 arrears_policy_from_int_ [I n] (fun r => r = .clo (.func arrears_policy_from_int_1) .nil (frC n)) := by
  refine pure_fnX mixed fn_arrears_policy_from_int_ nt_arrears_policy_from_int_ hc_arrears_policy_from_int_ (by simp) gl0n (by simp [nf]) ?_
  conv => whnf
  refine fin_le (le_frz 0 rfl) ?_
  refine fin_r (.clo (.func arrears_policy_from_int_1) .nil (frC n)) (by simp [nf]) rfl ?_
  conv => whnf
  exact Le.refl _

theorem bet_int_n (f1 f2 : Nat) (p : Pol) (x lo hi : Int) (h1 : Take f1 .nil p x) (h2 : Take f2 .nil p lo) : PureX Tryz.prog gl0 arrears_policy_between_int_1 [encPol p, elC f1 .nil, elC f2 .nil, .elt 1 1 (fun _ => I hi) 0 []] (fun r => r = B (decide (lo ≤ x ∧ x ≤ hi))) := by
  refine pure_fnX mixed fn_arrears_policy_between_int_1 nt_arrears_policy_between_int_1 hc_arrears_policy_between_int_1 (by simp) gl0n (by simp [nf, nf_encPol]) ?_
  conv => whnf
  refine ⟨h1.ok, call_x2 h1.c (LeL.refl _) ?_⟩
  rintro _ - rfl
  conv => whnf
  refine ⟨h2.ok, call_x2 h2.c (LeL.refl _) ?_⟩
  rintro _ - rfl
  conv => whnf
  repeat' first
    | (refine br_dec (fun h0 => ?_) (fun h0 => ?_) <;> (conv => whnf))
    | (refine br_intro (fun hb => ?_) (fun hb => ?_) <;> ((try rw [hb]); (conv => whnf); (try simp at hb)))
    | (refine aI ?_; (conv => whnf))
    | (refine fin_e ?_; (conv => whnf); first | exact ⟨trivial, congrArg (fun b => B b) (decide_eq_true (by omega)).symm⟩ | exact ⟨trivial, congrArg (fun b => B b) (decide_eq_false (by omega)).symm⟩)
    | fail

theorem bet_int_f (f1 f2 : Nat) (p : Pol) (x lo hi : Int) (h1 : Take f1 .nil p x) (h2 : Take f2 (frC lo) p lo) : PureX Tryz.prog gl0 arrears_policy_between_int_1 [encPol p, elC f1 .nil, elC f2 (frC lo), .elt 1 1 (fun _ => I hi) 0 []] (fun r => r = B (decide (lo ≤ x ∧ x ≤ hi))) := by
  refine pure_fnX mixed fn_arrears_policy_between_int_1 nt_arrears_policy_between_int_1 hc_arrears_policy_between_int_1 (by simp) gl0n (by simp [nf, nf_encPol]) ?_
  conv => whnf
  refine ⟨h1.ok, call_x2 h1.c (LeL.refl _) ?_⟩
  rintro _ - rfl
  conv => whnf
  refine ⟨h2.ok, call_x2 h2.c (LeL.refl _) ?_⟩
  rintro _ - rfl
  conv => whnf
  repeat' first
    | (refine br_dec (fun h0 => ?_) (fun h0 => ?_) <;> (conv => whnf))
    | (refine br_intro (fun hb => ?_) (fun hb => ?_) <;> ((try rw [hb]); (conv => whnf); (try simp at hb)))
    | (refine aI ?_; (conv => whnf))
    | (refine fin_e ?_; (conv => whnf); first | exact ⟨trivial, congrArg (fun b => B b) (decide_eq_true (by omega)).symm⟩ | exact ⟨trivial, congrArg (fun b => B b) (decide_eq_false (by omega)).symm⟩)
    | fail

theorem mk_int_n (f1 f2 : Nat) (hi : Int) : PureX Tryz.prog gl0 arrears_policy_between_int_ [.clo (.func f1) .nil .nil, .clo (.func f2) .nil .nil, I hi] (fun r => r = .st (.cons (.clo (.func arrears_policy_between_int_1) .nil (.cons (elC f1 .nil) (.cons (elC f2 .nil) (.cons (.elt 1 1 (fun _ => I hi) 0 []) .nil)))) .nil)) := by
  refine pure_fnX mixed fn_arrears_policy_between_int_ nt_arrears_policy_between_int_ hc_arrears_policy_between_int_ (by simp) gl0n (by simp [nf]) ?_
  conv => whnf
  refine fin_le (le_frz 0 rfl) (fin_le (le_frz 1 rfl) (fin_le (le_frz 2 rfl) ?_))
  refine fin_r (.st (.cons (.clo (.func arrears_policy_between_int_1) .nil (.cons (elC f1 .nil) (.cons (elC f2 .nil) (.cons (.elt 1 1 (fun _ => I hi) 0 []) .nil)))) .nil)) (by simp [nf]) rfl ?_
  conv => whnf
  exact Le.refl _

theorem mk_int_f (f1 f2 : Nat) (n hi : Int) : PureX Tryz.prog gl0 arrears_policy_between_int_ [.clo (.func f1) .nil .nil, .clo (.func f2) .nil (frC n), I hi] (fun r => r = .st (.cons (.clo (.func arrears_policy_between_int_1) .nil (.cons (elC f1 .nil) (.cons (elC f2 (frC n)) (.cons (.elt 1 1 (fun _ => I hi) 0 []) .nil)))) .nil)) := by
  refine pure_fnX mixed fn_arrears_policy_between_int_ nt_arrears_policy_between_int_ hc_arrears_policy_between_int_ (by simp) gl0n (by simp [nf]) ?_
  conv => whnf
  refine fin_le (le_frz 0 rfl) (fin_le (le_frz 1 rfl) (fin_le (le_frz 2 rfl) ?_))
  refine fin_r (.st (.cons (.clo (.func arrears_policy_between_int_1) .nil (.cons (elC f1 .nil) (.cons (elC f2 (frC n)) (.cons (.elt 1 1 (fun _ => I hi) 0 []) .nil)))) .nil)) (by simp [nf]) rfl ?_
  conv => whnf
  exact Le.refl _

theorem arrears_policy_from_int64_1_s (p : Pol) (n : Int) : PureX Tryz.prog gl0 arrears_policy_from_int64_1 [encPol p, .elt 1 1 (fun _ => I n) 0 []] (fun r => r = I n) := by
  refine pure_fnX mixed fn_arrears_policy_from_int64_1 nt_arrears_policy_from_int64_1 hc_arrears_policy_from_int64_1 (by simp) gl0n (by simp [nf]) ?_
  conv => whnf
  refine fin_e ?_
  conv => whnf
  exact ⟨trivial, rfl⟩
theorem from_int64 (p : Pol) (n : Int) : Take arrears_policy_from_int64_1 (frC n) p n := ⟨⟨_, _, fn_arrears_policy_from_int64_1, by kernel_rfl, rfl⟩, arrears_policy_from_int64_1_s p n⟩

theorem arrears_policy_from_int64__s (n : Int) : PureX Tryz.prog gl0 arrears_policy_from_int64_ [I n] (fun r => r = .clo (.func arrears_policy_from_int64_1) .nil (frC n)) := by
  refine pure_fnX mixed fn_arrears_policy_from_int64_ nt_arrears_policy_from_int64_ hc_arrears_policy_from_int64_ (by simp) gl0n (by simp [nf]) ?_
  conv => whnf
  refine fin_le (le_frz 0 rfl) ?_
  refine fin_r (.clo (.func arrears_policy_from_int64_1) .nil (frC n)) (by simp [nf]) rfl ?_
  conv => whnf
  exact Le.refl _

theorem bet_int64_n (f1 f2 : Nat) (p : Pol) (x lo hi : Int) (h1 : Take f1 .nil p x) (h2 : Take f2 .nil p lo) : PureX Tryz.prog gl0 arrears_policy_between_int64_1 [encPol p, elC f1 .nil, elC f2 .nil, .elt 1 1 (fun _ => I hi) 0 []] (fun r => r = B (decide (lo ≤ x ∧ x ≤ hi))) := by
  refine pure_fnX mixed fn_arrears_policy_between_int64_1 nt_arrears_policy_between_int64_1 hc_arrears_policy_between_int64_1 (by simp) gl0n (by simp [nf, nf_encPol]) ?_
  conv => whnf
  refine ⟨h1.ok, call_x2 h1.c (LeL.refl _) ?_⟩
  rintro _ - rfl
  conv => whnf
  refine ⟨h2.ok, call_x2 h2.c (LeL.refl _) ?_⟩
  rintro _ - rfl
  conv => whnf
  repeat' first
    | (refine br_dec (fun h0 => ?_) (fun h0 => ?_) <;> (conv => whnf))
    | (refine br_intro (fun hb => ?_) (fun hb => ?_) <;> ((try rw [hb]); (conv => whnf); (try simp at hb)))
    | (refine aI ?_; (conv => whnf))
    | (refine fin_e ?_; (conv => whnf); first | exact ⟨trivial, congrArg (fun b => B b) (decide_eq_true (by omega)).symm⟩ | exact ⟨trivial, congrArg (fun b => B b) (decide_eq_false (by omega)).symm⟩)
    | fail

theorem bet_int64_f (f1 f2 : Nat) (p : Pol) (x lo hi : Int) (h1 : Take f1 .nil p x) (h2 : Take f2 (frC lo) p lo) : PureX Tryz.prog gl0 arrears_policy_between_int64_1 [encPol p, elC f1 .nil, elC f2 (frC lo), .elt 1 1 (fun _ => I hi) 0 []] (fun r => r = B (decide (lo ≤ x ∧ x ≤ hi))) := by
  refine pure_fnX mixed fn_arrears_policy_between_int64_1 nt_arrears_policy_between_int64_1 hc_arrears_policy_between_int64_1 (by simp) gl0n (by simp [nf, nf_encPol]) ?_
  conv => whnf
  refine ⟨h1.ok, call_x2 h1.c (LeL.refl _) ?_⟩
  rintro _ - rfl
  conv => whnf
  refine ⟨h2.ok, call_x2 h2.c (LeL.refl _) ?_⟩
  rintro _ - rfl
  conv => whnf
  repeat' first
    | (refine br_dec (fun h0 => ?_) (fun h0 => ?_) <;> (conv => whnf))
    | (refine br_intro (fun hb => ?_) (fun hb => ?_) <;> ((try rw [hb]); (conv => whnf); (try simp at hb)))
    | (refine aI ?_; (conv => whnf))
    | (refine fin_e ?_; (conv => whnf); first | exact ⟨trivial, congrArg (fun b => B b) (decide_eq_true (by omega)).symm⟩ | exact ⟨trivial, congrArg (fun b => B b) (decide_eq_false (by omega)).symm⟩)
    | fail

theorem mk_int64_n (f1 f2 : Nat) (hi : Int) : PureX Tryz.prog gl0 arrears_policy_between_int64_ [.clo (.func f1) .nil .nil, .clo (.func f2) .nil .nil, I hi] (fun r => r = .st (.cons (.clo (.func arrears_policy_between_int64_1) .nil (.cons (elC f1 .nil) (.cons (elC f2 .nil) (.cons (.elt 1 1 (fun _ => I hi) 0 []) .nil)))) .nil)) := by
  refine pure_fnX mixed fn_arrears_policy_between_int64_ nt_arrears_policy_between_int64_ hc_arrears_policy_between_int64_ (by simp) gl0n (by simp [nf]) ?_
  conv => whnf
  refine fin_le (le_frz 0 rfl) (fin_le (le_frz 1 rfl) (fin_le (le_frz 2 rfl) ?_))
  refine fin_r (.st (.cons (.clo (.func arrears_policy_between_int64_1) .nil (.cons (elC f1 .nil) (.cons (elC f2 .nil) (.cons (.elt 1 1 (fun _ => I hi) 0 []) .nil)))) .nil)) (by simp [nf]) rfl ?_
  conv => whnf
  exact Le.refl _

theorem mk_int64_f (f1 f2 : Nat) (n hi : Int) : PureX Tryz.prog gl0 arrears_policy_between_int64_ [.clo (.func f1) .nil .nil, .clo (.func f2) .nil (frC n), I hi] (fun r => r = .st (.cons (.clo (.func arrears_policy_between_int64_1) .nil (.cons (elC f1 .nil) (.cons (elC f2 (frC n)) (.cons (.elt 1 1 (fun _ => I hi) 0 []) .nil)))) .nil)) := by
  refine pure_fnX mixed fn_arrears_policy_between_int64_ nt_arrears_policy_between_int64_ hc_arrears_policy_between_int64_ (by simp) gl0n (by simp [nf]) ?_
  conv => whnf
  refine fin_le (le_frz 0 rfl) (fin_le (le_frz 1 rfl) (fin_le (le_frz 2 rfl) ?_))
  refine fin_r (.st (.cons (.clo (.func arrears_policy_between_int64_1) .nil (.cons (elC f1 .nil) (.cons (elC f2 (frC n)) (.cons (.elt 1 1 (fun _ => I hi) 0 []) .nil)))) .nil)) (by simp [nf]) rfl ?_
  conv => whnf
  exact Le.refl _

end Go.Proofs.YtaomkjcclcgdlaaGreatDoor
namespace Go.Proofs.YtaomkjcclcgdlaaGreatDoor
open Go Ar
set_option linter.unusedVariables false
set_option autoImplicit false
set_option maxHeartbeats 4000000
set_option maxRecDepth 100000

def lastOf (xs : List Int) : Nat → Int
  | 0 => 0
  | k + 1 => at_ xs k

theorem policy_days_s (p : Pol) (hn : hasI p) : PureX Tryz.prog gl0 policy_days [encPol p] (fun r => r = B (decide (HolP p.holidays))) := by
  refine pure_fnX mixed fn_policy_days nt_policy_days hc_policy_days (by simp) gl0n (by simp [nf]) ?_
  conv => whnf
  by_cases h : (p.holidays.length : Int) > 64
  · refine br_true (decide_eq_true (h)) ?_
    conv => whnf
    refine fin_e ?_
    conv => whnf
    exact ⟨trivial, congrArg (fun b => B b) (decide_eq_false (fun hh => by have := hh.1; omega)).symm⟩
  · refine br_false (decide_eq_false (h)) ?_
    conv => whnf
    refine loop_at mixed (fun (k : Nat) => ([(13, I k), (3, I (lastOf p.holidays k)), (11, encL I 1 p.holidays), (12, I (p.holidays.length : Nat)), (1, .ptr 0 [])], [(0, .box (encPol p))], 1)) (fun k => k ≤ p.holidays.length ∧ ∀ j, j < k → holOk p.holidays j) (fun k => p.holidays.length - k) 0 ⟨Nat.zero_le _, fun j hj => absurd hj (Nat.not_lt_zero j)⟩ (le_st (le_r rfl) (leE_i rfl rfl (leE_i rfl rfl (leE_eq rfl (bnd_nf _ (nfL_I _ _)) (leE_i rfl rfl (leE_ptr rfl rfl trivial))))) (leO_box (lt_r rfl) rfl (LeA.refl _) (bnd_nf _ (nf_encPol _)) trivial) gl0n) ?_
    rintro k ⟨hk, hok⟩
    conv => whnf
    by_cases c : k < p.holidays.length
    · refine br_true (decide_eq_true ((by omega : (k : Int) < p.holidays.length))) ?_
      conv => whnf
      refine ⟨by omega, ?_⟩
      conv => whnf
      have e0 : ∀ x, lastOf p.holidays k < x → 1 ≤ x ∧ (0 < k → at_ p.holidays (k - 1) < x) := fun x hx => by
        cases k with
        | zero => exact ⟨hx, fun h => absurd h (Nat.lt_irrefl 0)⟩
        | succ k => exact ⟨by have := (hok k (by omega)).1; simp only [lastOf] at hx; omega, fun _ => hx⟩
      have e1 : ¬ holOk p.holidays k → at_ p.holidays k ≤ lastOf p.holidays k ∨ at_ p.holidays k > 3652059 := fun hh => by
        by_cases c1 : at_ p.holidays k > 3652059
        · exact .inr c1
        · refine .inl (Int.not_lt.1 fun c2 => hh ⟨(e0 _ c2).1, by omega, (e0 _ c2).2⟩)
      have e2 : at_ p.holidays k ≤ lastOf p.holidays k → ¬ holOk p.holidays k := fun hl hh => by
        cases k with
        | zero => have := hh.1; simp only [lastOf] at hl; omega
        | succ k => have := hh.2.2 (by omega); simp only [lastOf, Nat.add_sub_cancel] at hl this; omega
      have e3 : Int.toNat (k : Int) = k := rfl
      refine br_dec (fun h0 => ?_) (fun h0 => ?_)
      · conv => whnf
        refine fin_e ?_
        conv => whnf
        exact ⟨trivial, congrArg (fun b => B b) (decide_eq_false (fun hh => e2 h0 (hh.2 k c))).symm⟩
      · conv => whnf
        refine br_dec (fun h1 => ?_) (fun h1 => ?_)
        · conv => whnf
          refine fin_e ?_
          conv => whnf
          exact ⟨trivial, congrArg (fun b => B b) (decide_eq_false (fun hh => absurd (hh.2 k c).2.1 (Int.not_le.2 h1))).symm⟩
        · conv => whnf
          have hx : holOk p.holidays k := Classical.byContradiction fun hh => (e1 hh).elim h0 h1
          refine ⟨k + 1, ⟨c, fun j hj => ?_⟩, (by show p.holidays.length - (k + 1) < p.holidays.length - k; omega), (le_st (le_r rfl) (leE_i rfl (inc_id c hn) (leE_i rfl ((rfl : at_ p.holidays k = lastOf p.holidays (k + 1))) (leE_eq rfl (bnd_nf _ (nfL_I _ _)) (leE_i rfl rfl (leE_ptr rfl rfl trivial))))) (leO_box (lt_r rfl) rfl (LeA.refl _) (bnd_nf _ (nf_encPol _)) trivial) gl0n)⟩
          by_cases e : j = k
          · subst e; exact hx
          · exact hok j (by omega)
    · refine br_false (decide_eq_false ((by omega : ¬ ((k : Int) < p.holidays.length)))) ?_
      conv => whnf
      refine fin_e ?_
      conv => whnf
      exact ⟨trivial, congrArg (fun b => B b) (decide_eq_true ⟨by omega, fun j hj => hok j (by omega)⟩).symm⟩

/-- A rule tells of its field. -/
structure RuleOk (i : Nat) (f : Nat) (c : AV) : Prop where
  ok : FnOk Tryz.prog f
  n : nf c
  c : ∀ p, hasI p → (∀ j, j < i → mayP p (j + 1)) → PureX Tryz.prog gl0 f (encPol p :: toLA c) (fun r => r = B (decide (mayP p (i + 1))))

abbrev elI (n : Int) : AV := .elt 1 1 (fun _ => I n) 0 []
abbrev bC (f g : Nat) (c : AV) (hi : Int) : AV := .cons (elC f .nil) (.cons (elC g c) (.cons (elI hi) .nil))

def ruF : Nat → Nat
  | 0 => arrears_policy_between_int_1
  | 1 => arrears_policy_between_int_1
  | 2 => arrears_policy_between_int_1
  | 3 => arrears_policy_between_int_1
  | 4 => arrears_policy_between_int64_1
  | 5 => arrears_policy_between_int64_1
  | 6 => arrears_policy_between_int64_1
  | 7 => arrears_policy_between_int64_1
  | 8 => arrears_policy_between_int64_1
  | 9 => arrears_policy_between_int_1
  | 10 => arrears_policy_between_int_1
  | 11 => arrears_policy_between_int_1
  | 12 => arrears_policy_between_int_1
  | 13 => arrears_policy_between_int_1
  | 14 => arrears_policy_between_int_1
  | 15 => arrears_policy_between_int_1
  | 16 => arrears_policy_between_int_1
  | _ => policy_days

def ruC : Nat → AV
  | 0 => bC policy_rules_c1 arrears_policy_from_int_1 (frC 1) 3652059
  | 1 => bC policy_rules_c2 arrears_policy_from_int_1 (frC 0) 30
  | 2 => bC policy_rules_c3 policy_rules_c4 .nil 365
  | 3 => bC policy_rules_c5 arrears_policy_from_int_1 (frC 1) 365
  | 4 => bC policy_rules_c6 arrears_policy_from_int64_1 (frC 0) 10000
  | 5 => bC policy_rules_c7 arrears_policy_from_int64_1 (frC 0) 1000000000
  | 6 => bC policy_rules_c8 policy_rules_c9 .nil 1000000000
  | 7 => bC policy_rules_c10 arrears_policy_from_int64_1 (frC 0) 1000000000
  | 8 => bC policy_rules_c11 arrears_policy_from_int64_1 (frC 0) 1000000000
  | 9 => bC policy_rules_c12 arrears_policy_from_int_1 (frC 0) 8
  | 10 => bC policy_rules_c13 arrears_policy_from_int_1 (frC 1) 60
  | 11 => bC policy_rules_c14 arrears_policy_from_int_1 (frC 0) 4
  | 12 => bC policy_rules_c15 arrears_policy_from_int_1 (frC 0) 5
  | 13 => bC policy_rules_c16 arrears_policy_from_int_1 (frC 0) 3
  | 14 => bC policy_rules_c17 arrears_policy_from_int_1 (frC 1) 64
  | 15 => bC policy_rules_c18 policy_rules_c19 .nil 64
  | 16 => bC policy_rules_c20 arrears_policy_from_int_1 (frC 0) 1000
  | _ => .nil

theorem ru_0 : RuleOk 0 (ruF 0) (ruC 0) := ⟨⟨_, _, fn_arrears_policy_between_int_1, by kernel_rfl, rfl⟩, by simp [ruC, nf], fun p hp h => bet_int_f policy_rules_c1 _ p _ _ 3652059 (take_1 p) (from_int p 1)⟩
theorem ru_1 : RuleOk 1 (ruF 1) (ruC 1) := ⟨⟨_, _, fn_arrears_policy_between_int_1, by kernel_rfl, rfl⟩, by simp [ruC, nf], fun p hp h => bet_int_f policy_rules_c2 _ p _ _ 30 (take_2 p) (from_int p 0)⟩
theorem ru_2 : RuleOk 2 (ruF 2) (ruC 2) := ⟨⟨_, _, fn_arrears_policy_between_int_1, by kernel_rfl, rfl⟩, by simp [ruC, nf], fun p hp h => by
  refine (bet_int_n policy_rules_c3 policy_rules_c4 p _ _ 365 (take_3 p) (take_4 p)).mono ?_
  rintro r - rfl
  have := h 1 (by omega)
  have h2 : 0 ≤ p.grace ∧ p.grace ≤ 30 := this
  rw [wrap_id (by unfold in64; omega)]
  show B (decide (p.grace + 1 ≤ p.nonAccrual ∧ p.nonAccrual ≤ 365)) = B (decide (p.grace < p.nonAccrual ∧ p.nonAccrual ≤ 365))
  rfl⟩
theorem ru_3 : RuleOk 3 (ruF 3) (ruC 3) := ⟨⟨_, _, fn_arrears_policy_between_int_1, by kernel_rfl, rfl⟩, by simp [ruC, nf], fun p hp h => bet_int_f policy_rules_c5 _ p _ _ 365 (take_5 p) (from_int p 1)⟩
theorem ru_4 : RuleOk 4 (ruF 4) (ruC 4) := ⟨⟨_, _, fn_arrears_policy_between_int64_1, by kernel_rfl, rfl⟩, by simp [ruC, nf], fun p hp h => bet_int64_f policy_rules_c6 _ p _ _ 10000 (take_6 p) (from_int64 p 0)⟩
theorem ru_5 : RuleOk 5 (ruF 5) (ruC 5) := ⟨⟨_, _, fn_arrears_policy_between_int64_1, by kernel_rfl, rfl⟩, by simp [ruC, nf], fun p hp h => bet_int64_f policy_rules_c7 _ p _ _ 1000000000 (take_7 p) (from_int64 p 0)⟩
theorem ru_6 : RuleOk 6 (ruF 6) (ruC 6) := ⟨⟨_, _, fn_arrears_policy_between_int64_1, by kernel_rfl, rfl⟩, by simp [ruC, nf], fun p hp h => bet_int64_n policy_rules_c8 _ p _ _ 1000000000 (take_8 p) (take_9 p)⟩
theorem ru_7 : RuleOk 7 (ruF 7) (ruC 7) := ⟨⟨_, _, fn_arrears_policy_between_int64_1, by kernel_rfl, rfl⟩, by simp [ruC, nf], fun p hp h => bet_int64_f policy_rules_c10 _ p _ _ 1000000000 (take_10 p) (from_int64 p 0)⟩
theorem ru_8 : RuleOk 8 (ruF 8) (ruC 8) := ⟨⟨_, _, fn_arrears_policy_between_int64_1, by kernel_rfl, rfl⟩, by simp [ruC, nf], fun p hp h => bet_int64_f policy_rules_c11 _ p _ _ 1000000000 (take_11 p) (from_int64 p 0)⟩
theorem ru_9 : RuleOk 9 (ruF 9) (ruC 9) := ⟨⟨_, _, fn_arrears_policy_between_int_1, by kernel_rfl, rfl⟩, by simp [ruC, nf], fun p hp h => bet_int_f policy_rules_c12 _ p _ _ 8 (take_12 p) (from_int p 0)⟩
theorem ru_10 : RuleOk 10 (ruF 10) (ruC 10) := ⟨⟨_, _, fn_arrears_policy_between_int_1, by kernel_rfl, rfl⟩, by simp [ruC, nf], fun p hp h => bet_int_f policy_rules_c13 _ p _ _ 60 (take_13 p) (from_int p 1)⟩
theorem ru_11 : RuleOk 11 (ruF 11) (ruC 11) := ⟨⟨_, _, fn_arrears_policy_between_int_1, by kernel_rfl, rfl⟩, by simp [ruC, nf], fun p hp h => bet_int_f policy_rules_c14 _ p _ _ 4 (take_14 p) (from_int p 0)⟩
theorem ru_12 : RuleOk 12 (ruF 12) (ruC 12) := ⟨⟨_, _, fn_arrears_policy_between_int_1, by kernel_rfl, rfl⟩, by simp [ruC, nf], fun p hp h => bet_int_f policy_rules_c15 _ p _ _ 5 (take_15 p) (from_int p 0)⟩
theorem ru_13 : RuleOk 13 (ruF 13) (ruC 13) := ⟨⟨_, _, fn_arrears_policy_between_int_1, by kernel_rfl, rfl⟩, by simp [ruC, nf], fun p hp h => bet_int_f policy_rules_c16 _ p _ _ 3 (take_16 p) (from_int p 0)⟩
theorem ru_14 : RuleOk 14 (ruF 14) (ruC 14) := ⟨⟨_, _, fn_arrears_policy_between_int_1, by kernel_rfl, rfl⟩, by simp [ruC, nf], fun p hp h => bet_int_f policy_rules_c17 _ p _ _ 64 (take_17 p) (from_int p 1)⟩
theorem ru_15 : RuleOk 15 (ruF 15) (ruC 15) := ⟨⟨_, _, fn_arrears_policy_between_int_1, by kernel_rfl, rfl⟩, by simp [ruC, nf], fun p hp h => bet_int_n policy_rules_c18 _ p _ _ 64 (take_18 p) (take_19 p)⟩
theorem ru_16 : RuleOk 16 (ruF 16) (ruC 16) := ⟨⟨_, _, fn_arrears_policy_between_int_1, by kernel_rfl, rfl⟩, by simp [ruC, nf], fun p hp h => bet_int_f policy_rules_c20 _ p _ _ 1000 (take_20 p) (from_int p 0)⟩
theorem ru_17 : RuleOk 17 (ruF 17) (ruC 17) := ⟨⟨_, _, fn_policy_days, by kernel_rfl, rfl⟩, trivial, fun p hp _ => policy_days_s p hp⟩

theorem ru_ok {i : Nat} (h : i < 18) : RuleOk i (ruF i) (ruC i) := by
  have : i = 0 ∨ i = 1 ∨ i = 2 ∨ i = 3 ∨ i = 4 ∨ i = 5 ∨ i = 6 ∨ i = 7 ∨ i = 8 ∨ i = 9 ∨ i = 10 ∨ i = 11 ∨ i = 12 ∨ i = 13 ∨ i = 14 ∨ i = 15 ∨ i = 16 ∨ i = 17 := by omega
  rcases this with rfl | rfl | rfl | rfl | rfl | rfl | rfl | rfl | rfl | rfl | rfl | rfl | rfl | rfl | rfl | rfl | rfl | rfl
  · exact ru_0
  · exact ru_1
  · exact ru_2
  · exact ru_3
  · exact ru_4
  · exact ru_5
  · exact ru_6
  · exact ru_7
  · exact ru_8
  · exact ru_9
  · exact ru_10
  · exact ru_11
  · exact ru_12
  · exact ru_13
  · exact ru_14
  · exact ru_15
  · exact ru_16
  · exact ru_17

abbrev ruL : AV := .lst none 18 1 (fun i => .st (.cons (.clo (.func (ruF i)) .nil (ruC i)) .nil))
theorem nf_ruC : ∀ i, nf (ruC i) := fun i => by
  by_cases h : i < 18
  · exact (ru_ok h).n
  · match i, h with
    | 0, h | 1, h | 2, h | 3, h | 4, h | 5, h | 6, h | 7, h | 8, h | 9, h | 10, h | 11, h | 12, h | 13, h | 14, h | 15, h | 16, h => exact absurd (by decide) h
    | _ + 17, _ => trivial
theorem nf_ruL : nf ruL := ⟨rfl, fun i => ⟨⟨trivial, nf_ruC i⟩, trivial⟩⟩

theorem policy_rules_s  : PureX Tryz.prog gl0 policy_rules [] (fun r => r = ruL) := by
  refine pure_fnX mixed fn_policy_rules nt_policy_rules hc_policy_rules (by simp) gl0n (by simp [nf]) ?_
  conv => whnf
  refine call_x2 (arrears_policy_from_int__s _) (LeL.refl _) ?_
  rintro _ - rfl
  conv => whnf
  refine call_x2 (mk_int_f _ _ _ _) (LeL.refl _) ?_
  rintro _ - rfl
  conv => whnf
  refine call_x2 (arrears_policy_from_int__s _) (LeL.refl _) ?_
  rintro _ - rfl
  conv => whnf
  refine call_x2 (mk_int_f _ _ _ _) (LeL.refl _) ?_
  rintro _ - rfl
  conv => whnf
  refine call_x2 (mk_int_n _ _ _) (LeL.refl _) ?_
  rintro _ - rfl
  conv => whnf
  refine call_x2 (arrears_policy_from_int__s _) (LeL.refl _) ?_
  rintro _ - rfl
  conv => whnf
  refine call_x2 (mk_int_f _ _ _ _) (LeL.refl _) ?_
  rintro _ - rfl
  conv => whnf
  refine call_x2 (arrears_policy_from_int64__s _) (LeL.refl _) ?_
  rintro _ - rfl
  conv => whnf
  refine call_x2 (mk_int64_f _ _ _ _) (LeL.refl _) ?_
  rintro _ - rfl
  conv => whnf
  refine call_x2 (arrears_policy_from_int64__s _) (LeL.refl _) ?_
  rintro _ - rfl
  conv => whnf
  refine call_x2 (mk_int64_f _ _ _ _) (LeL.refl _) ?_
  rintro _ - rfl
  conv => whnf
  refine call_x2 (mk_int64_n _ _ _) (LeL.refl _) ?_
  rintro _ - rfl
  conv => whnf
  refine call_x2 (arrears_policy_from_int64__s _) (LeL.refl _) ?_
  rintro _ - rfl
  conv => whnf
  refine call_x2 (mk_int64_f _ _ _ _) (LeL.refl _) ?_
  rintro _ - rfl
  conv => whnf
  refine call_x2 (arrears_policy_from_int64__s _) (LeL.refl _) ?_
  rintro _ - rfl
  conv => whnf
  refine call_x2 (mk_int64_f _ _ _ _) (LeL.refl _) ?_
  rintro _ - rfl
  conv => whnf
  refine call_x2 (arrears_policy_from_int__s _) (LeL.refl _) ?_
  rintro _ - rfl
  conv => whnf
  refine call_x2 (mk_int_f _ _ _ _) (LeL.refl _) ?_
  rintro _ - rfl
  conv => whnf
  refine call_x2 (arrears_policy_from_int__s _) (LeL.refl _) ?_
  rintro _ - rfl
  conv => whnf
  refine call_x2 (mk_int_f _ _ _ _) (LeL.refl _) ?_
  rintro _ - rfl
  conv => whnf
  refine call_x2 (arrears_policy_from_int__s _) (LeL.refl _) ?_
  rintro _ - rfl
  conv => whnf
  refine call_x2 (mk_int_f _ _ _ _) (LeL.refl _) ?_
  rintro _ - rfl
  conv => whnf
  refine call_x2 (arrears_policy_from_int__s _) (LeL.refl _) ?_
  rintro _ - rfl
  conv => whnf
  refine call_x2 (mk_int_f _ _ _ _) (LeL.refl _) ?_
  rintro _ - rfl
  conv => whnf
  refine call_x2 (arrears_policy_from_int__s _) (LeL.refl _) ?_
  rintro _ - rfl
  conv => whnf
  refine call_x2 (mk_int_f _ _ _ _) (LeL.refl _) ?_
  rintro _ - rfl
  conv => whnf
  refine call_x2 (arrears_policy_from_int__s _) (LeL.refl _) ?_
  rintro _ - rfl
  conv => whnf
  refine call_x2 (mk_int_f _ _ _ _) (LeL.refl _) ?_
  rintro _ - rfl
  conv => whnf
  refine call_x2 (mk_int_n _ _ _) (LeL.refl _) ?_
  rintro _ - rfl
  conv => whnf
  refine call_x2 (arrears_policy_from_int__s _) (LeL.refl _) ?_
  rintro _ - rfl
  conv => whnf
  refine call_x2 (mk_int_f _ _ _ _) (LeL.refl _) ?_
  rintro _ - rfl
  conv => whnf
  refine fin_r ruL nf_ruL rfl ?_
  conv => whnf
  refine Le.trans (LeA.lst (.inr rfl) (fun i hi => ?_)).le (Le.refl _)
  have h : i = 0 ∨ i = 1 ∨ i = 2 ∨ i = 3 ∨ i = 4 ∨ i = 5 ∨ i = 6 ∨ i = 7 ∨ i = 8 ∨ i = 9 ∨ i = 10 ∨ i = 11 ∨ i = 12 ∨ i = 13 ∨ i = 14 ∨ i = 15 ∨ i = 16 ∨ i = 17 := by
    have : i < 18 := hi
    omega
  rcases h with rfl | rfl | rfl | rfl | rfl | rfl | rfl | rfl | rfl | rfl | rfl | rfl | rfl | rfl | rfl | rfl | rfl | rfl <;> exact LeA.refl _

theorem policy_Check_s (p : Pol) (hp : hasI p) : PureX Tryz.prog gl0 policy_Check [encPol p] (fun r => r = tup2 (I (chk p).1) (I (chk p).2)) := by
  refine pure_fnX mixed fn_policy_Check nt_policy_Check hc_policy_Check (by simp) gl0n (by simp [nf]) ?_
  conv => whnf
  refine call_x2 policy_rules_s (LeL.refl _) ?_
  rintro _ - rfl
  conv => whnf
  have hn : ((18 : Nat) : Int) < 9223372036854775808 := by decide
  refine loop_at mixed (fun (k : Nat) => ([(8, I k), (7, I (18 : Nat)), (6, ruL), (1, .ptr 0 [])], [(0, .box (encPol p))], 1)) (fun k => k ≤ 18 ∧ ∀ j, j < k → mayP p (j + 1)) (fun k => 18 - k) 0 ⟨by omega, fun j hj => absurd hj (Nat.not_lt_zero j)⟩ (le_st (le_r rfl) (leE_i rfl rfl (leE_i rfl rfl (leE_eq rfl (bnd_nf _ (nf_ruL)) (leE_ptr rfl rfl trivial)))) (leO_box (lt_r rfl) rfl (LeA.refl _) (bnd_nf _ (nf_encPol _)) trivial) gl0n) ?_
  rintro k ⟨h1, h2⟩
  conv => whnf
  by_cases c : k < 18
  · refine br_true (decide_eq_true ((by omega : (k : Int) < 18))) ?_
    conv => whnf
    refine ⟨by omega, ?_⟩
    conv => whnf
    have cc : k < 18 := c
    refine forceL_iff.2 ⟨(ru_ok c).ok, call_x2 ((ru_ok c).c p hp h2) ?_ ?_⟩
    · exact LeL.refl (encPol p :: toLA (ruC k))
    · rintro _ - rfl
      conv => whnf
      refine br_decN (fun h0 => ?_) (fun h0 => ?_)
      · conv => whnf
        refine fin_e ?_
        conv => whnf
        rw [chk_at h2 c h0]
        exact ⟨by simp [packA, consL, nf], by simp [packA, consL, inc_id cc hn]⟩
      · conv => whnf
        refine ⟨k + 1, ⟨c, fun j hj => ?_⟩, (by show 18 - (k + 1) < 18 - k; omega), (le_st (le_r rfl) (leE_i rfl (inc_id c hn) (leE_i rfl rfl (leE_eq rfl (bnd_nf _ (nf_ruL)) (leE_ptr rfl rfl trivial)))) (leO_box (lt_r rfl) rfl (LeA.refl _) (bnd_nf _ (nf_encPol _)) trivial) gl0n)⟩
        by_cases e : j = k
        · subst e; exact h0
        · exact h2 j (by omega)
  · refine br_false (decide_eq_false ((by omega : ¬ ((k : Int) < 18)))) ?_
    conv => whnf
    refine fin_e ?_
    conv => whnf
    rw [chk_end (fun j hj => h2 j (by omega))]
    exact ⟨by simp [packA, consL, nf], rfl⟩

end Go.Proofs.YtaomkjcclcgdlaaGreatDoor
