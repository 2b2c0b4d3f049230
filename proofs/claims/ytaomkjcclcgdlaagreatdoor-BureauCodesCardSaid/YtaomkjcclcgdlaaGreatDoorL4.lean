/- Contracts of the document's waterfall and ageing (chapters 9 and 10): no call of them can fail. No condition. -/
import Derived.Test.YtaomkjcclcgdlaaGreatDoorL3
import Derived.Test.YtaomkjcclcgdlaaGreatDoorK7
import Derived.Test.YtaomkjcclcgdlaaGreatDoorL2
set_option linter.all false
namespace Go.Proofs.YtaomkjcclcgdlaaGreatDoor
open Go Ar
set_option linter.unusedVariables false
set_option autoImplicit false
set_option maxHeartbeats 4000000
set_option maxRecDepth 100000

/-- A list has grown by two. -/
theorem leA_two {tok : Option Nat} {n e : Nat} {xs : List Int} {x y : Int} {h : Nat → AV} (hn : n = xs.length + 2) (h0 : h 0 = I x) (h1 : h 1 = I y) :
    LeA (.lst tok n e (appF xs.length (fun i => I (at_ xs i)) h)) (encT tok I e (xs ++ [x, y])) := by
  subst hn
  refine leA_app (ys := [x, y]) rfl fun i hi => ?_
  match i, hi with
  | 0, _ => rw [h0]; exact LeA.refl _
  | 1, _ => rw [h1]; exact LeA.refl _
  | i + 2, hi => simp at hi; omega

theorem r9_Turn_s (o p : Int) (hp : 0 ≤ p) : PureX Tryz.prog gl0 r9_Turn [I o, I p] (QI) := by
  refine pure_fnX mixed fn_r9_Turn nt_r9_Turn hc_r9_Turn (by simp) gl0n (by simp [nf]) ?_
  conv => whnf
  repeat' first
    | (refine br_dec (fun h0 => ?_) (fun h0 => ?_) <;> (conv => whnf))
    | (refine br_intro (fun hb => ?_) (fun hb => ?_) <;> ((try rw [hb]); (conv => whnf); (try simp at hb)))
    | (exact True.elim trivial)
    | (refine aI ?_; (conv => whnf))
    | (refine fin_e ?_; (conv => whnf); exact lfA)
    | fail
  all_goals
   refine loop_at mixed (fun (y : Int × Int) => ([(6, I y.1), (5, I y.2)], [], 0)) (fun y => 0 ≤ y.1) (fun y => (2 - y.1).toNat) (p, _) hp (le_st (le_r rfl) (leE_i rfl rfl (leE_i rfl rfl trivial)) trivial gl0n) ?_
   rintro ⟨i, row⟩ hi
   dsimp only at hi ⊢
   conv => whnf
   by_cases c : i < 2
   · refine br_true (decide_eq_true (c)) ?_
     conv => whnf
     repeat' first
       | (refine br_dec (fun h0 => ?_) (fun h0 => ?_) <;> (conv => whnf))
       | (refine br_intro (fun hb => ?_) (fun hb => ?_) <;> ((try rw [hb]); (conv => whnf); (try simp at hb)))
       | (exact ⟨(i + 1, _), (by show 0 ≤ i + 1; omega), (by show (2 - (i + 1)).toNat < (2 - i).toNat; omega), (le_st (le_r rfl) (leE_i rfl (wrap_id (by unfold in64; omega)) (leE_i rfl rfl trivial)) trivial gl0n)⟩)
       | (refine aI ?_; (conv => whnf))
       | (refine fin_e ?_; (conv => whnf); exact lfA)
       | fail
   · refine br_false (decide_eq_false (c)) ?_
     conv => whnf
     repeat' first
       | (refine br_dec (fun h0 => ?_) (fun h0 => ?_) <;> (conv => whnf))
       | (refine br_intro (fun hb => ?_) (fun hb => ?_) <;> ((try rw [hb]); (conv => whnf); (try simp at hb)))
       | (refine aI ?_; (conv => whnf))
       | (refine fin_e ?_; (conv => whnf); exact lfA)
       | fail

theorem r9_wants_s (w : Owd) (k : Int) : PureX Tryz.prog gl0 r9_wants [encOwd w, I k] (QI) := by
  refine pure_fnX mixed fn_r9_wants nt_r9_wants hc_r9_wants (by simp) gl0n (by simp [nf]) ?_
  conv => whnf
  repeat' first
    | (refine br_dec (fun h0 => ?_) (fun h0 => ?_) <;> (conv => whnf))
    | (refine br_intro (fun hb => ?_) (fun hb => ?_) <;> ((try rw [hb]); (conv => whnf); (try simp at hb)))
    | (refine aI ?_; (conv => whnf))
    | (refine fin_e ?_; (conv => whnf); exact lfA)
    | fail

theorem r9_part_s (o : Int) (w : Owd) (a p : Int) (h1 : 0 ≤ p) (h2 : p ≤ 3) : PureX Tryz.prog gl0 r9_part [I o, encOwd w, I a, I p] (QI) := by
  refine pure_fnX mixed fn_r9_part nt_r9_part hc_r9_part (by simp) gl0n (by simp [nf]) ?_
  conv => whnf
  refine loop_at mixed (fun (y : Nat × Int) => ([(10, I y.1), (9, I y.2), (0, I o), (3, I p), (5, .ptr 0 [])], [(0, .box (encOwd w))], 1)) (fun y => y.1 ≤ 3) (fun y => 3 - y.1) (0, a) (by show 0 ≤ 3; decide) (le_st (le_r rfl) (leE_i rfl rfl (leE_i rfl rfl (leE_i rfl rfl (leE_i rfl rfl (leE_ptr rfl rfl trivial))))) (leO_box (lt_r rfl) rfl (LeA.refl _) (bnd_nf _ (nf_encOwd _)) trivial) gl0n) ?_
  rintro ⟨k, x⟩ hk
  dsimp only at hk ⊢
  conv => whnf
  have hn : ((3 : Nat) : Int) < 9223372036854775808 := by decide
  by_cases c0 : (k : Int) < p
  · refine br_true (decide_eq_true (c0)) ?_
    conv => whnf
    have c : k < 3 := by omega
    repeat' first
      | (refine br_dec (fun h0 => ?_) (fun h0 => ?_) <;> (conv => whnf))
      | (refine br_intro (fun hb => ?_) (fun hb => ?_) <;> ((try rw [hb]); (conv => whnf); (try simp at hb)))
      | (refine call_x2 (r9_Turn_s _ _ (by omega)) ⟨Le.refl _, Le.refl _, trivial⟩ ?_; (first | (rintro _ - ⟨_, rfl⟩) | (rintro _ - ⟨_, rfl, _⟩) | (rintro _ - ⟨_, _, rfl⟩) | (rintro _ - ⟨_, _, rfl, _⟩) | (rintro _ - ⟨_, _, _, rfl⟩) | (rintro _ - ⟨_, _, _, rfl, _⟩)); (conv => whnf))
      | (refine call_x2 (r9_wants_s ⟨_, _, _⟩ _) ⟨le_Owd .., Le.refl _, trivial⟩ ?_; (first | (rintro _ - ⟨_, rfl⟩) | (rintro _ - ⟨_, rfl, _⟩) | (rintro _ - ⟨_, _, rfl⟩) | (rintro _ - ⟨_, _, rfl, _⟩) | (rintro _ - ⟨_, _, _, rfl⟩) | (rintro _ - ⟨_, _, _, rfl, _⟩)); (conv => whnf))
      | (exact ⟨(k + 1, _), c, (by show 3 - (k + 1) < 3 - k; omega), (le_st (le_r rfl) (leE_i rfl (inc_id c hn) (leE_i rfl rfl (leE_i rfl rfl (leE_i rfl rfl (leE_ptr rfl rfl trivial))))) (leO_box (lt_r rfl) rfl (LeA.refl _) (bnd_nf _ (nf_encOwd _)) trivial) gl0n)⟩)
      | (refine aI ?_; (conv => whnf))
      | (refine fin_e ?_; (conv => whnf); exact lfA)
      | fail
  · refine br_false (decide_eq_false (c0)) ?_
    conv => whnf
    repeat' first
      | (refine br_dec (fun h0 => ?_) (fun h0 => ?_) <;> (conv => whnf))
      | (refine br_intro (fun hb => ?_) (fun hb => ?_) <;> ((try rw [hb]); (conv => whnf); (try simp at hb)))
      | (refine call_x2 (r9_Turn_s _ _ (by omega)) ⟨Le.refl _, Le.refl _, trivial⟩ ?_; (first | (rintro _ - ⟨_, rfl⟩) | (rintro _ - ⟨_, rfl, _⟩) | (rintro _ - ⟨_, _, rfl⟩) | (rintro _ - ⟨_, _, rfl, _⟩) | (rintro _ - ⟨_, _, _, rfl⟩) | (rintro _ - ⟨_, _, _, rfl, _⟩)); (conv => whnf))
      | (refine call_x2 (r9_wants_s ⟨_, _, _⟩ _) ⟨le_Owd .., Le.refl _, trivial⟩ ?_; (first | (rintro _ - ⟨_, rfl⟩) | (rintro _ - ⟨_, rfl, _⟩) | (rintro _ - ⟨_, _, rfl⟩) | (rintro _ - ⟨_, _, rfl, _⟩) | (rintro _ - ⟨_, _, _, rfl⟩) | (rintro _ - ⟨_, _, _, rfl, _⟩)); (conv => whnf))
      | (refine aI ?_; (conv => whnf))
      | (refine fin_e ?_; (conv => whnf); exact lfA)
      | fail

abbrev QPI : AV → Prop := fun r => ∃ x n, r = tup2 (encPrt x) (I n)

theorem r9_Allocate_s (o : Int) (w : Owd) (a : Int) : PureX Tryz.prog gl0 r9_Allocate [I o, encOwd w, I a] (QPI) := by
  refine pure_fnX mixed fn_r9_Allocate nt_r9_Allocate hc_r9_Allocate (by simp) gl0n (by simp [nf]) ?_
  conv => whnf
  repeat' first
    | (refine br_dec (fun h0 => ?_) (fun h0 => ?_) <;> (conv => whnf))
    | (refine br_intro (fun hb => ?_) (fun hb => ?_) <;> ((try rw [hb]); (conv => whnf); (try simp at hb)))
    | (refine call_x2 (r9_Turn_s _ _ (by omega)) ⟨Le.refl _, Le.refl _, trivial⟩ ?_; (first | (rintro _ - ⟨_, rfl⟩) | (rintro _ - ⟨_, rfl, _⟩) | (rintro _ - ⟨_, _, rfl⟩) | (rintro _ - ⟨_, _, rfl, _⟩) | (rintro _ - ⟨_, _, _, rfl⟩) | (rintro _ - ⟨_, _, _, rfl, _⟩)); (conv => whnf))
    | (refine fin_e ?_; (conv => whnf); exact ⟨by simp [packA, consL, nf], ⟨_, _, _, _, _⟩, _, rfl⟩)
    | (exact True.elim trivial)
    | (refine aI ?_; (conv => whnf))
    | (refine fin_e ?_; (conv => whnf); exact lfA)
    | fail
  refine loop_at mixed (fun (y : Nat × Prt) => ([(9, I y.1), (0, I o), (2, I a), (4, .ptr 0 []), (6, .ptr 1 []), (8, .ptr 2 [])], [(0, .box (encOwd w)), (1, .box (encPrt ⟨0, 0, 0, 0, 0⟩)), (2, .box (encPrt y.2))], 3)) (fun y => y.1 ≤ 3) (fun y => 3 - y.1) (0, ⟨0, 0, 0, 0, 0⟩) (by decide) (le_st (le_r rfl) (leE_i rfl rfl (leE_i rfl rfl (leE_i rfl rfl (leE_ptr rfl rfl (leE_ptr rfl rfl (leE_ptr rfl rfl trivial)))))) (leO_box (lt_r rfl) rfl (LeA.refl _) (bnd_nf _ (nf_encOwd _)) (leO_box (lt_r rfl) rfl (LeA.refl _) (bnd_nf _ (nf_encPrt _)) (leO_box (lt_r rfl) rfl (LeA.refl _) (bnd_nf _ (nf_encPrt _)) trivial))) gl0n) ?_
  rintro ⟨k, x⟩ hk
  dsimp only at hk ⊢
  conv => whnf
  have hn : ((3 : Nat) : Int) < 9223372036854775808 := by decide
  by_cases c : k < 3
  · refine br_true (decide_eq_true ((by omega : (k : Int) < 3))) ?_
    conv => whnf
    repeat' first
      | (refine br_dec (fun h0 => ?_) (fun h0 => ?_) <;> (conv => whnf))
      | (refine br_intro (fun hb => ?_) (fun hb => ?_) <;> ((try rw [hb]); (conv => whnf); (try simp at hb)))
      | (refine call_x2 (r9_Turn_s _ _ (by omega)) ⟨Le.refl _, Le.refl _, trivial⟩ ?_; (first | (rintro _ - ⟨_, rfl⟩) | (rintro _ - ⟨_, rfl, _⟩) | (rintro _ - ⟨_, _, rfl⟩) | (rintro _ - ⟨_, _, rfl, _⟩) | (rintro _ - ⟨_, _, _, rfl⟩) | (rintro _ - ⟨_, _, _, rfl, _⟩)); (conv => whnf))
      | (refine call_x2 (r9_part_s _ w _ _ (by omega) (by omega)) ⟨Le.refl _, Le.refl _, Le.refl _, Le.refl _, trivial⟩ ?_; (first | (rintro _ - ⟨_, rfl⟩) | (rintro _ - ⟨_, rfl, _⟩) | (rintro _ - ⟨_, _, rfl⟩) | (rintro _ - ⟨_, _, rfl, _⟩) | (rintro _ - ⟨_, _, _, rfl⟩) | (rintro _ - ⟨_, _, _, rfl, _⟩)); (conv => whnf))
      | (exact ⟨(k + 1, ⟨_, _, _, _, _⟩), c, (by show 3 - (k + 1) < 3 - k; omega), (le_st (le_r rfl) (leE_i rfl (inc_id c hn) (leE_i rfl rfl (leE_i rfl rfl (leE_ptr rfl rfl (leE_ptr rfl rfl (leE_ptr rfl rfl trivial)))))) (leO_box (lt_r rfl) rfl (LeA.refl _) (bnd_nf _ (nf_encOwd _)) (leO_box (lt_r rfl) rfl (LeA.refl _) (bnd_nf _ (nf_encPrt _)) (leO_box (lt_r rfl) rfl (leA_Prt .. ) (bnd_nf _ ( nf_encPrt _)) trivial))) gl0n)⟩)
      | (refine aI ?_; (conv => whnf))
      | (refine fin_e ?_; (conv => whnf); exact lfA)
      | fail
  · refine br_false (decide_eq_false ((by omega : ¬ ((k : Int) < 3)))) ?_
    conv => whnf
    repeat' first
      | (refine br_dec (fun h0 => ?_) (fun h0 => ?_) <;> (conv => whnf))
      | (refine br_intro (fun hb => ?_) (fun hb => ?_) <;> ((try rw [hb]); (conv => whnf); (try simp at hb)))
      | (refine call_x2 (r9_part_s _ w _ _ (by omega) (by omega)) ⟨Le.refl _, Le.refl _, Le.refl _, Le.refl _, trivial⟩ ?_; (first | (rintro _ - ⟨_, rfl⟩) | (rintro _ - ⟨_, rfl, _⟩) | (rintro _ - ⟨_, _, rfl⟩) | (rintro _ - ⟨_, _, rfl, _⟩) | (rintro _ - ⟨_, _, _, rfl⟩) | (rintro _ - ⟨_, _, _, rfl, _⟩)); (conv => whnf))
      | (refine fin_e ?_; (conv => whnf); exact ⟨by simp [packA, consL, nf], _, _, congr (congrArg tup2 (mk_Prt ..)) rfl⟩)
      | (refine aI ?_; (conv => whnf))
      | (refine fin_e ?_; (conv => whnf); exact lfA)
      | fail

theorem r9_Recover_s (l a : Int) : PureX Tryz.prog gl0 r9_Recover [I l, I a] (QPI) := by
  refine pure_fnX mixed fn_r9_Recover nt_r9_Recover hc_r9_Recover (by simp) gl0n (by simp [nf]) ?_
  conv => whnf
  repeat' first
    | (refine br_dec (fun h0 => ?_) (fun h0 => ?_) <;> (conv => whnf))
    | (refine br_intro (fun hb => ?_) (fun hb => ?_) <;> ((try rw [hb]); (conv => whnf); (try simp at hb)))
    | (refine fin_e ?_; (conv => whnf); exact ⟨by simp [packA, consL, nf], ⟨_, _, _, _, _⟩, _, rfl⟩)
    | (refine aI ?_; (conv => whnf))
    | (refine fin_e ?_; (conv => whnf); exact lfA)
    | fail

theorem r10_late_s (x : Ins) (d : Int) : Pure Tryz.prog gl0 r10_late [encIns x, I d] (I (if d ≤ x.due then 0 else IntKind.i64.wrap (d - x.due))) := by
  refine pure_fn mixed fn_r10_late nt_r10_late hc_r10_late (by simp) gl0n (by simp [nf]) (by simp [nf]) ?_
  conv => whnf
  by_cases c : d ≤ x.due
  · refine br_true (decide_eq_true (c)) ?_
    conv => whnf
    rw [if_pos c]
    exact Le.refl _
  · refine br_false (decide_eq_false (c)) ?_
    conv => whnf
    rw [if_neg c]
    exact Le.refl _

theorem r10_paid_s (p : Psn) : PureX Tryz.prog gl0 r10_paid [encPsn p] (QI) := by
  refine pure_fnX mixed fn_r10_paid nt_r10_paid hc_r10_paid (by simp) gl0n (by simp [nf]) ?_
  conv => whnf
  repeat' first
    | (refine br_dec (fun h0 => ?_) (fun h0 => ?_) <;> (conv => whnf))
    | (refine br_intro (fun hb => ?_) (fun hb => ?_) <;> ((try rw [hb]); (conv => whnf); (try simp at hb)))
    | (refine aI ?_; (conv => whnf))
    | (refine fin_e ?_; (conv => whnf); exact lfA)
    | fail

theorem r10_amounts_s (xs : List Ins) (h : xs.length ≤ 1000) : PureX Tryz.prog gl0 r10_amounts [encL encIns 4 xs] (fun r => ∃ ys, r = encL I 1 ys ∧ ys.length ≤ 2000) := by
  refine pure_fnX mixed fn_r10_amounts nt_r10_amounts hc_r10_amounts (by simp) gl0n (by simp [nf]) ?_
  conv => whnf
  refine loop_at mixed (fun (y : Nat × List Int) => ([(4, I y.1), (3, encT (some 0) I 1 y.2), (0, encL encIns 4 xs)], [(0, .room y.2.length 1 2)], 1)) (fun y => y.1 ≤ xs.length ∧ y.2.length = 2 * y.1) (fun y => xs.length - y.1) (0, []) ⟨Nat.zero_le _, rfl⟩ ((le_nil 3 1 2 (fun i => I (at_ ([] : List Int) i)) rfl).trans (le_st (le_r rfl) (leE_i rfl rfl (leE_eq rfl (bnd_encT nf_I (lt_r rfl)) (leE_eq rfl (bnd_nf _ (nfL_Ins _ _)) trivial))) (leO_room (lt_r rfl) rfl trivial) gl0n)) ?_
  rintro ⟨k, ys⟩ ⟨hk, hl⟩
  dsimp only at hk hl ⊢
  conv => whnf
  have hn : (xs.length : Int) < 9223372036854775808 := by omega
  by_cases c : k < xs.length
  · refine br_true (decide_eq_true ((by omega : (k : Int) < xs.length))) ?_
    conv => whnf
    repeat' first
      | (refine br_dec (fun h0 => ?_) (fun h0 => ?_) <;> (conv => whnf))
      | (refine br_intro (fun hb => ?_) (fun hb => ?_) <;> ((try rw [hb]); (conv => whnf); (try simp at hb)))
      | (exact ⟨(k + 1, ys ++ [_, _]), ⟨c, by show (ys ++ [_, _]).length = 2 * (k + 1); (simp; omega)⟩, (by show xs.length - (k + 1) < xs.length - k; omega), (le_st (le_r rfl) (leE_i rfl (inc_id c hn) (leE_le rfl (leA_two rfl rfl rfl).le (bnd_encT nf_I (lt_r rfl)) (leE_eq rfl (bnd_nf _ (nfL_Ins _ _)) trivial))) (leO_room (lt_r rfl) (by (simp; rfl)) trivial) gl0n)⟩)
      | (refine aI ?_; (conv => whnf))
      | (refine fin_e ?_; (conv => whnf); exact lfA)
      | fail
  · refine br_false (decide_eq_false ((by omega : ¬ ((k : Int) < xs.length)))) ?_
    conv => whnf
    refine fin_r (encL I 1 ys) (nfL_I _ _) ⟨ys, rfl, by omega⟩ ?_
    conv => whnf
    exact leA_drop.le

theorem r10_Sound_s (xs : List Ins) (h : xs.length ≤ 1000) : PureX Tryz.prog gl0 r10_Sound [encL encIns 4 xs] (QB) := by
  refine pure_fnX mixed fn_r10_Sound nt_r10_Sound hc_r10_Sound (by simp) gl0n (by simp [nf]) ?_
  conv => whnf
  refine loop_at mixed (fun (k : Nat) => ([(3, I k), (0, encL encIns 4 xs)], [], 0)) (fun k => k ≤ xs.length) (fun k => xs.length - k) 0 (Nat.zero_le _) (le_st (le_r rfl) (leE_i rfl rfl (leE_eq rfl (bnd_nf _ (nfL_Ins _ _)) trivial)) trivial gl0n) ?_
  intro k hk
  conv => whnf
  have hn : (xs.length : Int) < 9223372036854775808 := by omega
  by_cases c : k < xs.length
  · refine br_true (decide_eq_true ((by omega : (k : Int) < xs.length))) ?_
    conv => whnf
    repeat' first
      | (refine br_dec (fun h0 => ?_) (fun h0 => ?_) <;> (conv => whnf))
      | (refine br_intro (fun hb => ?_) (fun hb => ?_) <;> ((try rw [hb]); (conv => whnf); (try simp at hb)))
      | (exact ⟨k + 1, c, (by show xs.length - (k + 1) < xs.length - k; omega), (le_st (le_r rfl) (leE_i rfl (inc_id c hn) (leE_eq rfl (bnd_nf _ (nfL_Ins _ _)) trivial)) trivial gl0n)⟩)
      | (refine aI ?_; (conv => whnf))
      | (refine fin_e ?_; (conv => whnf); exact lfA)
      | fail
  · refine br_false (decide_eq_false ((by omega : ¬ ((k : Int) < xs.length)))) ?_
    conv => whnf
    repeat' first
      | (refine br_dec (fun h0 => ?_) (fun h0 => ?_) <;> (conv => whnf))
      | (refine br_intro (fun hb => ?_) (fun hb => ?_) <;> ((try rw [hb]); (conv => whnf); (try simp at hb)))
      | (refine call_x2 (r10_amounts_s xs h) (LeL.refl _) ?_; (rintro _ - ⟨ys, rfl, hys⟩); (conv => whnf))
      | (refine call_x2 (r1_Sum_s _ (by omega)) ⟨Le.refl _, trivial⟩ ?_; rintro _ - ⟨_, _ | _, rfl⟩ <;> (conv => whnf))
      | (refine aI ?_; (conv => whnf))
      | (refine fin_e ?_; (conv => whnf); exact lfA)
      | fail

abbrev QRows (xs : List Ins) : AV → Prop := fun r => ∃ ys, r = encL encIns 4 ys ∧ (ys = xs ∨ ys = [])

theorem r10_rows_s (xs : List Ins) (h : xs.length ≤ 1000) : PureX Tryz.prog gl0 r10_rows [encL encIns 4 xs] (QRows xs) := by
  refine pure_fnX mixed fn_r10_rows nt_r10_rows hc_r10_rows (by simp) gl0n (by simp [nf]) ?_
  conv => whnf
  refine call_x2 (r10_Sound_s xs h) (LeL.refl _) ?_
  rintro _ - ⟨_ | _, rfl⟩ <;> (conv => whnf)
  · refine fin_r (encL encIns 4 []) (nfL_Ins _ _) ⟨[], rfl, .inr rfl⟩ ?_
    conv => whnf
    exact leA_nilL.le
  · refine fin_r (encL encIns 4 xs) (nfL_Ins _ _) ⟨xs, rfl, .inl rfl⟩ ?_
    conv => whnf
    exact Le.refl _

theorem r10_satisfied_s (xs : List Ins) (p : Psn) (h : xs.length ≤ 1000) : PureX Tryz.prog gl0 r10_satisfied [encL encIns 4 xs, encPsn p] (fun r => ∃ n, r = I n ∧ 0 ≤ n ∧ n ≤ xs.length) := by
  refine pure_fnX mixed fn_r10_satisfied nt_r10_satisfied hc_r10_satisfied (by simp) gl0n (by simp [nf]) ?_
  conv => whnf
  repeat' first
    | (refine br_dec (fun h0 => ?_) (fun h0 => ?_) <;> (conv => whnf))
    | (refine br_intro (fun hb => ?_) (fun hb => ?_) <;> ((try rw [hb]); (conv => whnf); (try simp at hb)))
    | (refine fin_e ?_; (conv => whnf); exact ⟨trivial, _, rfl, by omega, by omega⟩)
    | (exact True.elim trivial)
    | (refine aI ?_; (conv => whnf))
    | (refine fin_e ?_; (conv => whnf); exact lfA)
    | fail
  refine loop_at mixed (fun (y : Nat × Int × Int) => ([(7, I y.1), (5, I y.2.1), (6, I y.2.2), (0, encL encIns 4 xs), (3, .ptr 0 [])], [(0, .box (encPsn p))], 1)) (fun y => y.1 ≤ xs.length ∧ 0 ≤ y.2.1 ∧ y.2.1 ≤ xs.length) (fun y => xs.length + 1 - y.1) (0, 0, 0) ⟨Nat.zero_le _, Int.le_refl _, by show (0 : Int) ≤ xs.length; omega⟩ (le_st (le_r rfl) (leE_i rfl rfl (leE_i rfl rfl (leE_i rfl rfl (leE_eq rfl (bnd_nf _ (nfL_Ins _ _)) (leE_ptr rfl rfl trivial))))) (leO_box (lt_r rfl) rfl (LeA.refl _) (bnd_nf _ (nf_encPsn _)) trivial) gl0n) ?_
  rintro ⟨k, n, s⟩ ⟨hk, h1, h2⟩
  dsimp only at hk h1 h2 ⊢
  conv => whnf
  have hw : IntKind.i64.wrap ((k : Int) + 1) = ((k + 1 : Nat) : Int) := by rw [wrap_id (by unfold in64; omega)]; omega
  rw [hw]
  by_cases c : k + 1 < xs.length
  · refine br_true (decide_eq_true ((by omega : ((k + 1 : Nat) : Int) < xs.length))) ?_
    conv => whnf
    repeat' first
      | (refine br_dec (fun h0 => ?_) (fun h0 => ?_) <;> (conv => whnf))
      | (refine br_intro (fun hb => ?_) (fun hb => ?_) <;> ((try rw [hb]); (conv => whnf); (try simp at hb)))
      | (refine call_x2 (r10_paid_s ⟨_, _⟩) ⟨le_Psn .., trivial⟩ ?_; (first | (rintro _ - ⟨_, rfl⟩) | (rintro _ - ⟨_, rfl, _⟩) | (rintro _ - ⟨_, _, rfl⟩) | (rintro _ - ⟨_, _, rfl, _⟩) | (rintro _ - ⟨_, _, _, rfl⟩) | (rintro _ - ⟨_, _, _, rfl, _⟩)); (conv => whnf))
      | (exact ⟨(k + 1, _, _), ⟨by show k + 1 ≤ xs.length; omega, h1, h2⟩, (by show xs.length + 1 - (k + 1) < xs.length + 1 - k; omega), (le_st (le_r rfl) (leE_i rfl (hw) (leE_i rfl rfl (leE_i rfl rfl (leE_eq rfl (bnd_nf _ (nfL_Ins _ _)) (leE_ptr rfl rfl trivial))))) (leO_box (lt_r rfl) rfl (LeA.refl _) (bnd_nf _ (nf_encPsn _)) trivial) gl0n)⟩)
      | (exact ⟨(k + 1, ((k + 1 : Nat) : Int), _), ⟨by show k + 1 ≤ xs.length; omega, by show (0 : Int) ≤ ((k + 1 : Nat) : Int); omega, by show ((k + 1 : Nat) : Int) ≤ xs.length; omega⟩, (by show xs.length + 1 - (k + 1) < xs.length + 1 - k; omega), (le_st (le_r rfl) (leE_i rfl (hw) (leE_i rfl (hw) (leE_i rfl rfl (leE_eq rfl (bnd_nf _ (nfL_Ins _ _)) (leE_ptr rfl rfl trivial))))) (leO_box (lt_r rfl) rfl (LeA.refl _) (bnd_nf _ (nf_encPsn _)) trivial) gl0n)⟩)
      | (refine aI ?_; (conv => whnf))
      | (refine fin_e ?_; (conv => whnf); exact lfA)
      | fail
  · refine br_false (decide_eq_false ((by omega : ¬ (((k + 1 : Nat) : Int) < xs.length)))) ?_
    conv => whnf
    repeat' first
      | (refine br_dec (fun h0 => ?_) (fun h0 => ?_) <;> (conv => whnf))
      | (refine br_intro (fun hb => ?_) (fun hb => ?_) <;> ((try rw [hb]); (conv => whnf); (try simp at hb)))
      | (refine fin_e ?_; (conv => whnf); exact ⟨trivial, _, rfl, by omega, by omega⟩)
      | (refine aI ?_; (conv => whnf))
      | (refine fin_e ?_; (conv => whnf); exact lfA)
      | fail

theorem r10_Oldest_s (xs : List Ins) (p : Psn) (h : xs.length ≤ 1000) : PureX Tryz.prog gl0 r10_Oldest [encL encIns 4 xs, encPsn p] (fun r => ∃ n b, r = tup2 (I n) (B b) ∧ (b = true → 0 ≤ n ∧ n < xs.length)) := by
  refine pure_fnX mixed fn_r10_Oldest nt_r10_Oldest hc_r10_Oldest (by simp) gl0n (by simp [nf]) ?_
  conv => whnf
  repeat' first
    | (refine br_dec (fun h0 => ?_) (fun h0 => ?_) <;> (conv => whnf))
    | (refine br_intro (fun hb => ?_) (fun hb => ?_) <;> ((try rw [hb]); (conv => whnf); (try simp at hb)))
    | (refine call_x2 (r10_rows_s xs h) (LeL.refl _) ?_; (rintro _ - ⟨ys, rfl, hys⟩); (conv => whnf))
    | (refine call_x2 (r10_satisfied_s ys ⟨_, _⟩ (by rcases hys with rfl | rfl; omega; simp)) ⟨Le.refl _, le_Psn .., trivial⟩ ?_; (rintro _ - ⟨n, rfl, h1, h2⟩); (conv => whnf))
    | (refine fin_e ?_; (conv => whnf); exact ⟨by simp [packA, consL, nf], _, false, rfl, fun hb => by cases hb⟩)
    | (refine fin_e ?_; (conv => whnf); exact ⟨by simp [packA, consL, nf], _, true, rfl, fun _ => ⟨h1, by rcases hys with rfl | rfl; omega; (simp at h0; omega)⟩⟩)
    | (refine aI ?_; (conv => whnf))
    | (refine fin_e ?_; (conv => whnf); exact lfA)
    | fail

theorem r10_Days_s (xs : List Ins) (p : Psn) (d : Int) (h : xs.length ≤ 1000) : PureX Tryz.prog gl0 r10_Days [encL encIns 4 xs, encPsn p, I d] (QI) := by
  refine pure_fnX mixed fn_r10_Days nt_r10_Days hc_r10_Days (by simp) gl0n (by simp [nf]) ?_
  conv => whnf
  repeat' first
    | (refine br_dec (fun h0 => ?_) (fun h0 => ?_) <;> (conv => whnf))
    | (refine br_intro (fun hb => ?_) (fun hb => ?_) <;> ((try rw [hb]); (conv => whnf); (try simp at hb)))
    | (refine call_x2 (r10_Oldest_s xs ⟨_, _⟩ h) ⟨Le.refl _, le_Psn .., trivial⟩ ?_; (rintro _ - ⟨n, _ | _, rfl, hb⟩) <;> (first | (have hb1 := hb rfl) | skip) <;> clear hb <;> (conv => whnf))
    | (refine call_pure (r10_late_s ⟨_, _, _, _⟩ _) ⟨le_Ins .., Le.refl _, trivial⟩ ?_; (conv => whnf))
    | (refine aI ?_; (conv => whnf))
    | (refine fin_e ?_; (conv => whnf); exact lfA)
    | fail

theorem r10_before_s (xs : List Ins) (n : Int) (h : xs.length ≤ 1000) (h1 : n ≤ xs.length) : PureX Tryz.prog gl0 r10_before [encL encIns 4 xs, I n] (QI) := by
  refine pure_fnX mixed fn_r10_before nt_r10_before hc_r10_before (by simp) gl0n (by simp [nf]) ?_
  conv => whnf
  refine loop_at mixed (fun (y : Nat × Int) => ([(6, I y.1), (5, I y.2), (0, encL encIns 4 xs), (1, I n)], [], 0)) (fun y => y.1 ≤ xs.length) (fun y => xs.length - y.1) (0, 0) (Nat.zero_le _) (le_st (le_r rfl) (leE_i rfl rfl (leE_i rfl rfl (leE_eq rfl (bnd_nf _ (nfL_Ins _ _)) (leE_i rfl rfl trivial)))) trivial gl0n) ?_
  rintro ⟨k, s⟩ hk
  dsimp only at hk ⊢
  conv => whnf
  have hn : (xs.length : Int) < 9223372036854775808 := by omega
  by_cases c0 : (k : Int) < n
  · refine br_true (decide_eq_true (c0)) ?_
    conv => whnf
    have c : k < xs.length := by omega
    repeat' first
      | (refine br_dec (fun h0 => ?_) (fun h0 => ?_) <;> (conv => whnf))
      | (refine br_intro (fun hb => ?_) (fun hb => ?_) <;> ((try rw [hb]); (conv => whnf); (try simp at hb)))
      | (exact ⟨(k + 1, _), c, (by show xs.length - (k + 1) < xs.length - k; omega), (le_st (le_r rfl) (leE_i rfl (inc_id c hn) (leE_i rfl rfl (leE_eq rfl (bnd_nf _ (nfL_Ins _ _)) (leE_i rfl rfl trivial)))) trivial gl0n)⟩)
      | (refine aI ?_; (conv => whnf))
      | (refine fin_e ?_; (conv => whnf); exact lfA)
      | fail
  · refine br_false (decide_eq_false (c0)) ?_
    conv => whnf
    repeat' first
      | (refine br_dec (fun h0 => ?_) (fun h0 => ?_) <;> (conv => whnf))
      | (refine br_intro (fun hb => ?_) (fun hb => ?_) <;> ((try rw [hb]); (conv => whnf); (try simp at hb)))
      | (refine aI ?_; (conv => whnf))
      | (refine fin_e ?_; (conv => whnf); exact lfA)
      | fail

theorem r10_PastDue_s (xs : List Ins) (p : Psn) (d : Int) (h : xs.length ≤ 1000) : PureX Tryz.prog gl0 r10_PastDue [encL encIns 4 xs, encPsn p, I d] (QI) := by
  refine pure_fnX mixed fn_r10_PastDue nt_r10_PastDue hc_r10_PastDue (by simp) gl0n (by simp [nf]) ?_
  conv => whnf
  refine call_x2 (r10_rows_s xs h) (LeL.refl _) ?_
  rintro _ - ⟨ys, rfl, hys⟩
  conv => whnf
  have hy : ys.length ≤ 1000 := by rcases hys with rfl | rfl <;> first | omega | simp
  have hn : (ys.length : Int) < 9223372036854775808 := by omega
  clear hys
  repeat' first
    | (refine br_dec (fun h0 => ?_) (fun h0 => ?_) <;> (conv => whnf))
    | (refine br_intro (fun hb => ?_) (fun hb => ?_) <;> ((try rw [hb]); (conv => whnf); (try simp at hb)))
    | (exact True.elim trivial)
    | (refine aI ?_; (conv => whnf))
    | (refine fin_e ?_; (conv => whnf); exact lfA)
    | fail
  refine loop_at mixed (fun (k : Nat) => ([(8, I k), (7, encL encIns 4 ys), (2, I d), (4, .ptr 0 [])], [(0, .box (encPsn p))], 1)) (fun k => k ≤ ys.length) (fun k => ys.length - k) 0 (Nat.zero_le _) (le_st (le_r rfl) (leE_i rfl rfl (leE_eq rfl (bnd_nf _ (nfL_Ins _ _)) (leE_i rfl rfl (leE_ptr rfl rfl trivial)))) (leO_box (lt_r rfl) rfl (LeA.refl _) (bnd_nf _ (nf_encPsn _)) trivial) gl0n) ?_
  intro k hk
  conv => whnf
  by_cases c : k < ys.length
  · refine br_true (decide_eq_true ((by omega : (k : Int) < ys.length))) ?_
    conv => whnf
    repeat' first
      | (refine br_dec (fun h0 => ?_) (fun h0 => ?_) <;> (conv => whnf))
      | (refine br_intro (fun hb => ?_) (fun hb => ?_) <;> ((try rw [hb]); (conv => whnf); (try simp at hb)))
      | (refine call_x2 (r10_before_s ys _ hy (by omega)) ⟨Le.refl _, Le.refl _, trivial⟩ ?_; (first | (rintro _ - ⟨_, rfl⟩) | (rintro _ - ⟨_, rfl, _⟩) | (rintro _ - ⟨_, _, rfl⟩) | (rintro _ - ⟨_, _, rfl, _⟩) | (rintro _ - ⟨_, _, _, rfl⟩) | (rintro _ - ⟨_, _, _, rfl, _⟩)); (conv => whnf))
      | (refine call_x2 (r10_paid_s p) ⟨Le.refl _, trivial⟩ ?_; (first | (rintro _ - ⟨_, rfl⟩) | (rintro _ - ⟨_, rfl, _⟩) | (rintro _ - ⟨_, _, rfl⟩) | (rintro _ - ⟨_, _, rfl, _⟩) | (rintro _ - ⟨_, _, _, rfl⟩) | (rintro _ - ⟨_, _, _, rfl, _⟩)); (conv => whnf))
      | (exact ⟨k + 1, c, (by show ys.length - (k + 1) < ys.length - k; omega), (le_st (le_r rfl) (leE_i rfl (inc_id c hn) (leE_eq rfl (bnd_nf _ (nfL_Ins _ _)) (leE_i rfl rfl (leE_ptr rfl rfl trivial)))) (leO_box (lt_r rfl) rfl (LeA.refl _) (bnd_nf _ (nf_encPsn _)) trivial) gl0n)⟩)
      | (refine aI ?_; (conv => whnf))
      | (refine fin_e ?_; (conv => whnf); exact lfA)
      | fail
  · refine br_false (decide_eq_false ((by omega : ¬ ((k : Int) < ys.length)))) ?_
    conv => whnf
    repeat' first
      | (refine br_dec (fun h0 => ?_) (fun h0 => ?_) <;> (conv => whnf))
      | (refine br_intro (fun hb => ?_) (fun hb => ?_) <;> ((try rw [hb]); (conv => whnf); (try simp at hb)))
      | (refine call_x2 (r10_before_s ys _ hy (by omega)) ⟨Le.refl _, Le.refl _, trivial⟩ ?_; (first | (rintro _ - ⟨_, rfl⟩) | (rintro _ - ⟨_, rfl, _⟩) | (rintro _ - ⟨_, _, rfl⟩) | (rintro _ - ⟨_, _, rfl, _⟩) | (rintro _ - ⟨_, _, _, rfl⟩) | (rintro _ - ⟨_, _, _, rfl, _⟩)); (conv => whnf))
      | (refine call_x2 (r10_paid_s p) ⟨Le.refl _, trivial⟩ ?_; (first | (rintro _ - ⟨_, rfl⟩) | (rintro _ - ⟨_, rfl, _⟩) | (rintro _ - ⟨_, _, rfl⟩) | (rintro _ - ⟨_, _, rfl, _⟩) | (rintro _ - ⟨_, _, _, rfl⟩) | (rintro _ - ⟨_, _, _, rfl, _⟩)); (conv => whnf))
      | (refine aI ?_; (conv => whnf))
      | (refine fin_e ?_; (conv => whnf); exact lfA)
      | fail

theorem r10_Missed_s (xs : List Ins) (p : Psn) (d g : Int) (h : xs.length ≤ 1000) : PureX Tryz.prog gl0 r10_Missed [encL encIns 4 xs, encPsn p, I d, I g] (fun r => ∃ ys, r = encL I 1 ys ∧ ys.length ≤ xs.length ∧ ∀ y ∈ ys, 0 ≤ y ∧ y < (xs.length : Int)) := by
  refine pure_fnX mixed fn_r10_Missed nt_r10_Missed hc_r10_Missed (by simp) gl0n (by simp [nf]) ?_
  conv => whnf
  refine call_x2 (r10_rows_s xs h) (LeL.refl _) ?_
  rintro _ - ⟨rs, rfl, hrs⟩
  conv => whnf
  have hr : rs.length ≤ xs.length := by rcases hrs with rfl | rfl <;> first | omega | simp
  have hn : (rs.length : Int) < 9223372036854775808 := by omega
  clear hrs
  repeat' first
    | (refine br_dec (fun h0 => ?_) (fun h0 => ?_) <;> (conv => whnf))
    | (refine br_intro (fun hb => ?_) (fun hb => ?_) <;> ((try rw [hb]); (conv => whnf); (try simp at hb)))
    | (refine call_x2 (r10_satisfied_s rs p (by omega)) (LeL.refl _) ?_; (rintro _ - ⟨n, rfl, h1, h2⟩); (conv => whnf))
    | (exact True.elim trivial)
    | (refine aI ?_; (conv => whnf))
    | (refine fin_e ?_; (conv => whnf); exact lfA)
    | fail
  all_goals
   refine loop_at mixed (fun (y : Nat × Int × List Int) => ([(11, I y.1), (10, encT (some 1) I 1 y.2.2), (9, encL encIns 4 rs), (2, I d), (3, I y.2.1)], [(1, .room y.2.2.length 1 3)], 2)) (fun y => y.1 ≤ rs.length ∧ y.2.2.length ≤ y.1 ∧ ∀ q ∈ y.2.2, 0 ≤ q ∧ q < (xs.length : Int)) (fun y => rs.length - y.1) (Int.toNat _, _, []) ⟨by show Int.toNat _ ≤ rs.length; omega, Nat.zero_le _, fun q hq => by cases hq⟩ ((le_nil 10 1 3 (fun i => I (at_ ([] : List Int) i)) rfl).trans (le_st (le_r rfl) (leE_i rfl ((Int.toNat_of_nonneg h1).symm) (leE_eq rfl (bnd_encT nf_I (lt_r rfl)) (leE_eq rfl (bnd_nf _ (nfL_Ins _ _)) (leE_i rfl rfl (leE_i rfl rfl trivial))))) (leO_room (lt_r rfl) rfl trivial) gl0n)) ?_
   rintro ⟨k, gg, ys⟩ ⟨hk, hl, hin⟩
   dsimp only at hk hl hin ⊢
   conv => whnf
   by_cases c : k < rs.length
   · refine br_true (decide_eq_true ((by omega : (k : Int) < rs.length))) ?_
     conv => whnf
     repeat' first
       | (refine br_dec (fun h0 => ?_) (fun h0 => ?_) <;> (conv => whnf))
       | (refine br_intro (fun hb => ?_) (fun hb => ?_) <;> ((try rw [hb]); (conv => whnf); (try simp at hb)))
       | (refine call_pure (r10_late_s ⟨_, _, _, _⟩ _) ⟨le_Ins .., Le.refl _, trivial⟩ ?_; (conv => whnf))
       | (exact ⟨(k + 1, _, ys), ⟨c, by show ys.length ≤ k + 1; omega, hin⟩, (by show rs.length - (k + 1) < rs.length - k; omega), (le_st (le_r rfl) (leE_i rfl (inc_id c hn) (leE_eq rfl (bnd_encT nf_I (lt_r rfl)) (leE_eq rfl (bnd_nf _ (nfL_Ins _ _)) (leE_i rfl rfl (leE_i rfl rfl trivial))))) (leO_room (lt_r rfl) rfl trivial) gl0n)⟩)
       | (exact ⟨(k + 1, _, ys ++ [(k : Int)]), ⟨c, by show (ys ++ [(k : Int)]).length ≤ k + 1; (simp; omega), fun q hq => by (rcases List.mem_append.1 hq with hq | hq; exact hin q hq; (simp at hq; omega))⟩, (by show rs.length - (k + 1) < rs.length - k; omega), (le_st (le_r rfl) (leE_i rfl (inc_id c hn) (leE_le rfl (leA_snoc (enc := I) (by exact LeA.refl _)).le (bnd_encT nf_I (lt_r rfl)) (leE_eq rfl (bnd_nf _ (nfL_Ins _ _)) (leE_i rfl rfl (leE_i rfl rfl trivial))))) (leO_room (lt_r rfl) (by (simp; rfl)) trivial) gl0n)⟩)
       | (refine aI ?_; (conv => whnf))
       | (refine fin_e ?_; (conv => whnf); exact lfA)
       | fail
   · refine br_false (decide_eq_false ((by omega : ¬ ((k : Int) < rs.length)))) ?_
     conv => whnf
     refine fin_r (encL I 1 ys) (nfL_I _ _) ⟨ys, rfl, by omega, hin⟩ ?_
     conv => whnf
     exact leA_drop.le

theorem r10_Mark_s (xs : List Ins) (ns : List Int) (h : xs.length ≤ 1000) (h2 : ns.length ≤ 1000) : PureX Tryz.prog gl0 r10_Mark [encL encIns 4 xs, encL I 1 ns] (fun r => ∃ ys, r = encL encIns 4 ys ∧ ys.length = xs.length) := by
  refine pure_fnX mixed fn_r10_Mark nt_r10_Mark hc_r10_Mark (by simp) gl0n (by simp [nf]) ?_
  conv => whnf
  refine loop_at mixed (fun (y : Nat × List Ins) => ([(6, I y.1), (5, encT (some 0) encIns 4 y.2), (0, encL encIns 4 xs), (1, encL I 1 ns)], [(0, .room y.2.length 4 69)], 1)) (fun y => y.1 ≤ xs.length ∧ y.2.length = y.1) (fun y => xs.length - y.1) (0, []) ⟨Nat.zero_le _, rfl⟩ ((le_nil 5 4 69 (fun i => encIns (at_ ([] : List Ins) i)) rfl).trans (le_st (le_r rfl) (leE_i rfl rfl (leE_eq rfl (bnd_encT nf_encIns (lt_r rfl)) (leE_eq rfl (bnd_nf _ (nfL_Ins _ _)) (leE_eq rfl (bnd_nf _ (nfL_I _ _)) trivial)))) (leO_room (lt_r rfl) rfl trivial) gl0n)) ?_
  rintro ⟨k, ys⟩ ⟨hk, hl⟩
  dsimp only at hk hl ⊢
  conv => whnf
  have hn : (xs.length : Int) < 9223372036854775808 := by omega
  by_cases c : k < xs.length
  · refine br_true (decide_eq_true ((by omega : (k : Int) < xs.length))) ?_
    conv => whnf
    repeat' first
      | (refine br_dec (fun h0 => ?_) (fun h0 => ?_) <;> (conv => whnf))
      | (refine br_intro (fun hb => ?_) (fun hb => ?_) <;> ((try rw [hb]); (conv => whnf); (try simp at hb)))
      | (exact True.elim trivial)
      | (refine aI ?_; (conv => whnf))
      | (refine fin_e ?_; (conv => whnf); exact lfA)
      | fail
    refine loop_at mixed (fun (y : Nat × Ins) => ([(8, I y.1), (7, .ptr 1 []), (6, I k), (5, encT (some 0) encIns 4 ys), (0, encL encIns 4 xs), (1, encL I 1 ns)], [(0, .room ys.length 4 69), (1, .box (encIns y.2))], 2)) (fun y => y.1 ≤ ns.length) (fun y => ns.length - y.1) (0, at_ xs k) (Nat.zero_le _) (le_st (le_r rfl) (leE_i rfl rfl (leE_ptr rfl rfl (leE_i rfl rfl (leE_eq rfl (bnd_encT nf_encIns (lt_r rfl)) (leE_eq rfl (bnd_nf _ (nfL_Ins _ _)) (leE_eq rfl (bnd_nf _ (nfL_I _ _)) trivial)))))) (leO_room (lt_r rfl) rfl (leO_box (lt_r rfl) rfl (LeA.refl _) (bnd_nf _ (nf_encIns _)) trivial)) gl0n) ?_
    rintro ⟨j, x⟩ hj
    dsimp only at hj ⊢
    conv => whnf
    have hn2 : (ns.length : Int) < 9223372036854775808 := by omega
    by_cases c2 : j < ns.length
    · refine br_true (decide_eq_true ((by omega : (j : Int) < ns.length))) ?_
      conv => whnf
      repeat' first
        | (refine br_dec (fun h0 => ?_) (fun h0 => ?_) <;> (conv => whnf))
        | (refine br_intro (fun hb => ?_) (fun hb => ?_) <;> ((try rw [hb]); (conv => whnf); (try simp at hb)))
        | (exact ⟨(j + 1, ⟨_, _, _, _⟩), c2, (by show ns.length - (j + 1) < ns.length - j; omega), (le_st (le_r rfl) (leE_i rfl (inc_id c2 hn2) (leE_ptr rfl rfl (leE_i rfl rfl (leE_eq rfl (bnd_encT nf_encIns (lt_r rfl)) (leE_eq rfl (bnd_nf _ (nfL_Ins _ _)) (leE_eq rfl (bnd_nf _ (nfL_I _ _)) trivial)))))) (leO_room (lt_r rfl) rfl (leO_box (lt_r rfl) rfl (leA_Ins .. ) (bnd_nf _ ( nf_encIns _)) trivial)) gl0n)⟩)
        | (refine aI ?_; (conv => whnf))
        | (refine fin_e ?_; (conv => whnf); exact lfA)
        | fail
    · refine br_false (decide_eq_false ((by omega : ¬ ((j : Int) < ns.length)))) ?_
      conv => whnf
      repeat' first
        | (refine br_dec (fun h0 => ?_) (fun h0 => ?_) <;> (conv => whnf))
        | (refine br_intro (fun hb => ?_) (fun hb => ?_) <;> ((try rw [hb]); (conv => whnf); (try simp at hb)))
        | (exact ⟨(k + 1, ys ++ [⟨_, _, _, _⟩]), ⟨c, by show (ys ++ [_]).length = k + 1; (simp; omega)⟩, (by show xs.length - (k + 1) < xs.length - k; omega), (le_st (le_r rfl) (leE_i rfl (inc_id c hn) (leE_le rfl (leA_snoc (enc := encIns) (leA_Ins ..)).le (bnd_encT nf_encIns (lt_r rfl)) (leE_eq rfl (bnd_nf _ (nfL_Ins _ _)) (leE_eq rfl (bnd_nf _ (nfL_I _ _)) trivial)))) (leO_room (lt_r rfl) (by (simp; rfl)) trivial) gl0n)⟩)
        | (refine aI ?_; (conv => whnf))
        | (refine fin_e ?_; (conv => whnf); exact lfA)
        | fail
  · refine br_false (decide_eq_false ((by omega : ¬ ((k : Int) < xs.length)))) ?_
    conv => whnf
    refine fin_r (encL encIns 4 ys) (nfL_Ins _ _) ⟨ys, rfl, by omega⟩ ?_
    conv => whnf
    exact leA_drop.le

end Go.Proofs.YtaomkjcclcgdlaaGreatDoor
namespace Go.Proofs.YtaomkjcclcgdlaaGreatDoor
open Go Ar
set_option linter.unusedVariables false
set_option autoImplicit false
set_option maxHeartbeats 4000000
set_option maxRecDepth 100000

theorem nt_encT_Ety {e : Nat} {xs : List Ety} : nt (encT (some LENT) encEty e xs) := ⟨.inr rfl, fun i => nt_nf _ (nf_encEty _)⟩
theorem nt_encT_Ntc {e : Nat} {xs : List Ntc} : nt (encT (some LENT) encNtc e xs) := ⟨.inr rfl, fun i => nt_nf _ (nf_encNtc _)⟩
theorem nt_encs {p : Prt} : nt (encPrt p) := nt_nf _ (nf_encPrt p)

theorem ren_Ety {τ : Nat → Nat} {e t : Nat} {xs : List Ety} : ren τ (encT (some t) encEty e xs) = encT (some (τ t)) encEty e xs := by
  unfold encT
  simp only [ren, ren_nf _ _ (nf_encEty _)]

/-- A nil slice is the row of no elements of a room that is nil. -/
theorem leN_nil {α : Type} [Inhabited α] {enc : α → AV} {t e : Nat} : LeN t (.val (.slice none 0 0)) (encT (some t) enc e ([] : List α)) := fun g w u h0 hu => by
  rw [val_v hu]
  exact ⟨⟨none, 0, rfl, Nat.le_refl _, ⟨none, 0, h0, Nat.le_refl _, fun _ => ⟨rfl, fun b hb => by cases hb⟩⟩, ⟨rfl, rfl⟩⟩, csl (by decide)⟩

theorem leN_refl (t : Nat) (a : AV) : LeN t a a := fun _ _ _ _ h => h

abbrev QE (xs : List Ety) : AV → Nat → Prop := fun r k => ∃ ys, r = encT (some LENT) encEty 3 ys ∧ k = ys.length ∧ ys.length ≤ xs.length + 1

theorem r9_with_t (xs : List Ety) (a n : Int) (b : Bool) (h : xs.length ≤ 1000) : PureTX Tryz.prog gl0 r9_with [encT (some LENT) encEty 3 xs, I a, I n, B b] 3 158 (xs.length) (QE xs) := by
  refine pureT_fnX mixed fn_r9_with nt_r9_with hc_r9_with (by simp) gl0n (by simp [nt, nt_encs, nt_encT_Ety, nt_encT_Ntc, nt_encWrkT, nt_nf _ (nf_encLn _), nt_nf _ (nfL_Ety _ _), nt_nf _ (nf_encEvt _)]) [(LENT, .room (xs.length) 3 158)] (LeSt.refl gl0 _ _ _ _) ?_
  conv => whnf
  by_cases c : n ≤ 0
  · refine br_true (decide_eq_true (c)) ?_
    conv => whnf
    refine fin_t (encT (some LENT) encEty 3 xs) xs.length nt_encT_Ety ⟨xs, rfl, rfl, by omega⟩ rfl ?_
    conv => whnf
    exact Le.refl _
  · refine br_false (decide_eq_false (c)) ?_
    conv => whnf
    cases b <;> (conv => whnf)
    · refine And.intro rfl (And.intro (by simp only [List.length_cons, List.length_nil]; omega) ?_)
      conv => whnf
      refine fin_t (encT (some LENT) encEty 3 (xs ++ [⟨0, a, n⟩])) (xs ++ [(⟨0, a, n⟩ : Ety)]).length nt_encT_Ety ⟨_, rfl, rfl, by simp⟩ (by simp; rfl) ?_
      conv => whnf
      exact (leA_snoc (enc := encEty) (leA_Ety ..)).le
    · refine And.intro rfl (And.intro (by simp only [List.length_cons, List.length_nil]; omega) ?_)
      conv => whnf
      refine fin_t (encT (some LENT) encEty 3 (xs ++ [⟨a, 0, n⟩])) (xs ++ [(⟨a, 0, n⟩ : Ety)]).length nt_encT_Ety ⟨_, rfl, rfl, by simp⟩ (by simp; rfl) ?_
      conv => whnf
      exact (leA_snoc (enc := encEty) (leA_Ety ..)).le


theorem r9_with_u (xs : List Ety) (a n : Int) (b : Bool) (h : xs.length ≤ 1000) (m_ : Nat) (hm_ : m_ = xs.length) : PureTX Tryz.prog gl0 r9_with [encT (some LENT) encEty 3 xs, I a, I n, B b] 3 158 m_ (QE xs) := by
  subst hm_
  apply r9_with_t <;> assumption

abbrev QM (k : Nat) : AV → Prop := fun r => ∃ ys : List Ety, r = encL encEty 3 ys ∧ ys.length ≤ k

theorem r9_moves_s (p : Prt) (b : Bool) : PureX Tryz.prog gl0 r9_moves [encPrt p, B b] (QM 5) := by
  refine pure_fnXg mixed fn_r9_moves nt_r9_moves hc_r9_moves (by simp) gl0n (by simp [nf, nf_encPrt]) [(1000001, .room 0 3 158)] (le_ghost 1000001 3 158 gl0n (noE_enum _ _ (by simp [NoT, noT_nf _ (nf_encPrt _)])) trivial rfl) ?_
  conv => whnf
  refine call_tx (args2 := [encT (some 1000001) encEty 3 [], I _, I _, B b]) (r9_with_t [] _ _ _ (by simp)) (t := 1000001) rfl (by simp only [List.map, ren_Ety]; rfl) (.inr ⟨by decide, rfl, leN_nil, leN_refl _ _, leN_refl _ _, leN_refl _ _, trivial⟩) ?_
  rintro _ _ - ⟨y1, rfl, rfl, h1⟩
  rw [ren_Ety]
  conv => whnf
  refine call_tx (args2 := [encT (some 1000001) encEty 3 y1, I _, I _, B b]) (r9_with_t y1 _ _ _ (by simp at h1; omega)) (t := 1000001) rfl (by simp only [List.map, ren_Ety]; rfl) (.inl (LeL.refl _)) ?_
  rintro _ _ - ⟨y2, rfl, rfl, h2⟩
  rw [ren_Ety]
  conv => whnf
  refine call_tx (args2 := [encT (some 1000001) encEty 3 y2, I _, I _, B b]) (r9_with_t y2 _ _ _ (by simp at h1; omega)) (t := 1000001) rfl (by simp only [List.map, ren_Ety]; rfl) (.inl (LeL.refl _)) ?_
  rintro _ _ - ⟨y3, rfl, rfl, h3⟩
  rw [ren_Ety]
  conv => whnf
  refine call_tx (args2 := [encT (some 1000001) encEty 3 y3, I _, I _, B b]) (r9_with_t y3 _ _ _ (by simp at h1; omega)) (t := 1000001) rfl (by simp only [List.map, ren_Ety]; rfl) (.inl (LeL.refl _)) ?_
  rintro _ _ - ⟨y4, rfl, rfl, h4⟩
  rw [ren_Ety]
  conv => whnf
  refine call_tx (args2 := [encT (some 1000001) encEty 3 y4, I _, I _, B b]) (r9_with_t y4 _ _ _ (by simp at h1; omega)) (t := 1000001) rfl (by simp only [List.map, ren_Ety]; rfl) (.inl (LeL.refl _)) ?_
  rintro _ _ - ⟨y5, rfl, rfl, h5⟩
  rw [ren_Ety]
  conv => whnf
  refine fin_r (encL encEty 3 y5) (nfL_Ety _ _) ⟨y5, rfl, by simp at h1; omega⟩ ?_
  conv => whnf
  exact leA_drop.le

theorem r9_Entries_s (p : Prt) : PureX Tryz.prog gl0 r9_Entries [encPrt p] (QM 5) := by
  refine pure_fnX mixed fn_r9_Entries nt_r9_Entries hc_r9_Entries (by simp) gl0n (by simp [nf]) ?_
  conv => whnf
  refine call_x2 (r9_moves_s p false) (LeL.refl _) ?_
  rintro _ - ⟨ys, rfl, h⟩
  conv => whnf
  refine fin_r (encL encEty 3 ys) (nfL_Ety _ _) ⟨ys, rfl, h⟩ ?_
  conv => whnf
  exact Le.refl _

theorem r9_Undo_s (p : Prt) : PureX Tryz.prog gl0 r9_Undo [encPrt p] (QM 5) := by
  refine pure_fnX mixed fn_r9_Undo nt_r9_Undo hc_r9_Undo (by simp) gl0n (by simp [nf]) ?_
  conv => whnf
  refine call_x2 (r9_moves_s p true) (LeL.refl _) ?_
  rintro _ - ⟨ys, rfl, h⟩
  conv => whnf
  refine fin_r (encL encEty 3 ys) (nfL_Ety _ _) ⟨ys, rfl, h⟩ ?_
  conv => whnf
  exact Le.refl _

theorem r14_move_t (xs : List Ety) (a b n : Int) (h : xs.length ≤ 1000) : PureTX Tryz.prog gl0 r14_move [encT (some LENT) encEty 3 xs, I a, I b, I n] 3 158 (xs.length) (QE xs) := by
  refine pureT_fnX mixed fn_r14_move nt_r14_move hc_r14_move (by simp) gl0n (by simp [nt, nt_encs, nt_encT_Ety, nt_encT_Ntc, nt_encWrkT, nt_nf _ (nf_encLn _), nt_nf _ (nfL_Ety _ _), nt_nf _ (nf_encEvt _)]) [(LENT, .room (xs.length) 3 158)] (LeSt.refl gl0 _ _ _ _) ?_
  conv => whnf
  by_cases c : n = 0
  · refine br_true (decide_eq_true (c)) ?_
    conv => whnf
    refine fin_t (encT (some LENT) encEty 3 xs) xs.length nt_encT_Ety ⟨xs, rfl, rfl, by omega⟩ rfl ?_
    conv => whnf
    exact Le.refl _
  · refine br_false (decide_eq_false (c)) ?_
    conv => whnf
    refine And.intro rfl (And.intro (by simp only [List.length_cons, List.length_nil]; omega) ?_)
    conv => whnf
    refine fin_t (encT (some LENT) encEty 3 (xs ++ [⟨a, b, n⟩])) (xs ++ [(⟨a, b, n⟩ : Ety)]).length nt_encT_Ety ⟨_, rfl, rfl, by simp⟩ (by simp; rfl) ?_
    conv => whnf
    exact (leA_snoc (enc := encEty) (leA_Ety ..)).le


theorem r14_move_u (xs : List Ety) (a b n : Int) (h : xs.length ≤ 1000) (m_ : Nat) (hm_ : m_ = xs.length) : PureTX Tryz.prog gl0 r14_move [encT (some LENT) encEty 3 xs, I a, I b, I n] 3 158 m_ (QE xs) := by
  subst hm_
  apply r14_move_t <;> assumption

theorem r14_move_n (a b n : Int) : PureX Tryz.prog gl0 r14_move [.val (.slice none 0 0), I a, I b, I n] (QM 1) := by
  refine pure_fnX mixed fn_r14_move nt_r14_move hc_r14_move (by simp) gl0n (by simp [nf]) ?_
  conv => whnf
  by_cases c : n = 0
  · refine br_true (decide_eq_true (c)) ?_
    conv => whnf
    refine fin_r (encL encEty 3 []) (nfL_Ety _ _) ⟨[], rfl, by simp⟩ ?_
    conv => whnf
    exact leA_nilL.le
  · refine br_false (decide_eq_false (c)) ?_
    conv => whnf
    refine And.intro (by simp only [List.length_cons, List.length_nil]; omega) ?_
    conv => whnf
    refine fin_r (encL encEty 3 [⟨a, b, n⟩]) (nfL_Ety _ _) ⟨_, rfl, by simp⟩ ?_
    conv => whnf
    exact (LeA.lst (.inr rfl) fun i hi => by
      obtain rfl : i = 0 := by simp only [List.length_cons, List.length_nil] at hi; omega
      exact leA_Ety ..).le

end Go.Proofs.YtaomkjcclcgdlaaGreatDoor
namespace Go.Proofs.YtaomkjcclcgdlaaGreatDoor
open Go Ar
set_option linter.unusedVariables false
set_option autoImplicit false
set_option maxHeartbeats 4000000
set_option maxRecDepth 100000

abbrev QW (w : Wrk) (k : Nat) : AV → Nat → Prop := fun r m => ∃ w', r = encWrkT LENT w' ∧ m = w'.notices.length ∧ w'.p = w.p ∧ w'.l.plan.length = w.l.plan.length ∧ w'.notices.length ≤ w.notices.length + k ∧ w'.l.id = w.l.id

theorem fin_w {N : Nat} {rs : List RV} {e : Env} {o : Objs} {n k m' : Nat} {ty : TypeId} {w : Wrk} (hl : lookO LENT o = some (.room m' 6 ty))
    (h : resA e o rs fun l => forceL l fun l => ∃ w', LeA (packA l) (encWrkT LENT w') ∧ m' = w'.notices.length ∧ w'.p = w.p ∧ w'.l.plan.length = w.l.plan.length ∧ w'.notices.length ≤ w.notices.length + k ∧ w'.l.id = w.l.id) : FinT gl0 N rs 6 ty (QW w k) e o n :=
  ⟨e, o, n, m', LeSt.refl gl0 N e o n, hl, resA_mono rs (fun l hl => by
    obtain ⟨w', h1, h2⟩ := forceL_iff.1 hl
    exact ⟨_, nt_encWrkT w', ⟨w', rfl, h2⟩, h1.le⟩) h⟩

abbrev QLn (l : Ln) : AV → Prop := fun r => ∃ l', r = encLn l' ∧ l'.plan.length = l.plan.length ∧ l'.id = l.id

theorem leA_setPlan {l : Ln} {t : Nat} {xs : List Ins} : LeA (.st (.cons (I l.id) (.cons (encTrm l.terms) (.cons (encT (some t) encIns 4 xs) (.cons (encBk l.book) (.cons (encCse l.case) (.cons (I l.day) (.cons (I l.carry) (.cons (I l.applied) (.cons (encPrt l.last) (.cons (B l.hasLast) (.cons (I l.chargedOff) (.cons (I l.trace) .nil))))))))))))) (encLn { l with plan := xs }) :=
  LeA.st (LeA.cons (LeA.refl _) (LeA.cons (LeA.refl _) (LeA.cons leA_drop (LeA.refl _))))

def zLn : AV := .st (.cons (I 0) (.cons (encTrm ⟨0, 0, 0, 0, 0, 0⟩) (.cons (.val (.slice none 0 0)) (.cons (encBk bk0) (.cons (encCse ⟨0, false, 0, 0, 0, 0, 0, 0, 0, 0, 0, 0, 0, 0, 0⟩) (.cons (I 0) (.cons (I 0) (.cons (I 0) (.cons (encPrt ⟨0, 0, 0, 0, 0⟩) (.cons (B false) (.cons (I 0) (.cons (I 0) .nil))))))))))))
theorem nf_zLn : nf zLn := by simp [zLn, nf, nf_encTrm, nf_encBk, nf_encCse, nf_encPrt]

theorem r14_copied_s (l : Ln) (h : l.plan.length ≤ 1000) : PureX Tryz.prog gl0 r14_copied [encLn l] (QLn l) := by
  refine pure_fnX mixed fn_r14_copied nt_r14_copied hc_r14_copied (by simp) gl0n (by simp [nf]) ?_
  conv => whnf
  repeat' first
    | (refine br_dec (fun h0 => ?_) (fun h0 => ?_) <;> (conv => whnf))
    | (refine br_intro (fun hb => ?_) (fun hb => ?_) <;> ((try rw [hb]); (conv => whnf); (try simp at hb)))
    | (exact True.elim trivial)
    | (refine aI ?_; (conv => whnf))
    | (refine fin_e ?_; (conv => whnf); exact lfA)
    | fail
  refine loop_at mixed (fun (y : Nat × List Ins) => ([(4, I y.1), (3, encT (some 2) encIns 4 y.2), (1, .ptr 0 []), (2, .ptr 1 [])], [(0, .box (encLn l)), (1, .box zLn), (2, .room y.2.length 4 69)], 3)) (fun y => y.1 ≤ l.plan.length ∧ y.2.length = y.1) (fun y => l.plan.length - y.1) (0, []) ⟨Nat.zero_le _, rfl⟩ ((le_nil 3 4 69 (fun i => encIns (at_ ([] : List Ins) i)) rfl).trans (le_st (le_r rfl) (leE_i rfl rfl (leE_eq rfl (bnd_encT nf_encIns (lt_r rfl)) (leE_ptr rfl rfl (leE_ptr rfl rfl trivial)))) (leO_box (lt_r rfl) rfl (LeA.refl _) (bnd_nf _ (nf_encLn _)) (leO_box (lt_r rfl) rfl (LeA.refl _) (bnd_nf _ nf_zLn) (leO_room (lt_r rfl) rfl trivial))) gl0n)) ?_
  rintro ⟨k, xs⟩ ⟨hk, hl⟩
  dsimp only at hk hl ⊢
  conv => whnf
  have hn : (l.plan.length : Int) < 9223372036854775808 := by omega
  by_cases c : k < l.plan.length
  · refine br_true (decide_eq_true ((by omega : (k : Int) < l.plan.length))) ?_
    conv => whnf
    repeat' first
      | (refine br_dec (fun h0 => ?_) (fun h0 => ?_) <;> (conv => whnf))
      | (refine br_intro (fun hb => ?_) (fun hb => ?_) <;> ((try rw [hb]); (conv => whnf); (try simp at hb)))
      | (exact ⟨(k + 1, xs ++ [at_ l.plan k]), ⟨c, by show (xs ++ [_]).length = k + 1; (simp; omega)⟩, (by show l.plan.length - (k + 1) < l.plan.length - k; omega), (le_st (le_r rfl) (leE_i rfl (inc_id c hn) (leE_le rfl (leA_snoc (enc := encIns) (LeA.refl _)).le (bnd_encT nf_encIns (lt_r rfl)) (leE_ptr rfl rfl (leE_ptr rfl rfl trivial)))) (leO_box (lt_r rfl) rfl (LeA.refl _) (bnd_nf _ (nf_encLn _)) (leO_box (lt_r rfl) rfl (LeA.refl _) (bnd_nf _ nf_zLn) (leO_room (lt_r rfl) (by (simp; rfl)) trivial))) gl0n)⟩)
      | (refine aI ?_; (conv => whnf))
      | (refine fin_e ?_; (conv => whnf); exact lfA)
      | fail
  · refine br_false (decide_eq_false ((by omega : ¬ ((k : Int) < l.plan.length)))) ?_
    conv => whnf
    refine fin_r (encLn { l with plan := xs }) (nf_encLn _) ⟨_, rfl, by show xs.length = _; omega, rfl⟩ ?_
    conv => whnf
    exact leA_setPlan.le

theorem r14_of_s (l : Ln) (a : Int) : PureX Tryz.prog gl0 r14_of [encLn l, I a] (QI) := by
  refine pure_fnX mixed fn_r14_of nt_r14_of hc_r14_of (by simp) gl0n (by simp [nf]) ?_
  conv => whnf
  repeat' first
    | (refine br_dec (fun h0 => ?_) (fun h0 => ?_) <;> (conv => whnf))
    | (refine br_intro (fun hb => ?_) (fun hb => ?_) <;> ((try rw [hb]); (conv => whnf); (try simp at hb)))
    | (refine call_x2 (r8_Balance_s l.book _) ⟨Le.refl _, Le.refl _, trivial⟩ ?_; (rintro _ - ⟨_, _, rfl⟩); (conv => whnf))
    | (refine aI ?_; (conv => whnf))
    | (refine fin_e ?_; (conv => whnf); exact lfA)
    | fail

theorem r14_owed_s (l : Ln) : PureX Tryz.prog gl0 r14_owed [encLn l] (fun r => ∃ o, r = encOwd o) := by
  refine pure_fnX mixed fn_r14_owed nt_r14_owed hc_r14_owed (by simp) gl0n (by simp [nf]) ?_
  conv => whnf
  repeat' first
    | (refine br_dec (fun h0 => ?_) (fun h0 => ?_) <;> (conv => whnf))
    | (refine br_intro (fun hb => ?_) (fun hb => ?_) <;> ((try rw [hb]); (conv => whnf); (try simp at hb)))
    | (refine call_x2 (r14_of_s l _) ⟨Le.refl _, Le.refl _, trivial⟩ ?_; (first | (rintro _ - ⟨_, rfl⟩) | (rintro _ - ⟨_, rfl, _⟩) | (rintro _ - ⟨_, _, rfl⟩) | (rintro _ - ⟨_, _, rfl, _⟩) | (rintro _ - ⟨_, _, _, rfl⟩) | (rintro _ - ⟨_, _, _, rfl, _⟩)); (conv => whnf))
    | (refine aI ?_; (conv => whnf))
    | (refine fin_e ?_; (conv => whnf); exact ⟨by simp [packA, consL, nf], _, mk_Owd ..⟩)
    | fail

theorem r14_sum_s (o : Owd) : PureX Tryz.prog gl0 r14_sum [encOwd o] (QI) := by
  refine pure_fnX mixed fn_r14_sum nt_r14_sum hc_r14_sum (by simp) gl0n (by simp [nf]) ?_
  conv => whnf
  repeat' first
    | (refine br_dec (fun h0 => ?_) (fun h0 => ?_) <;> (conv => whnf))
    | (refine br_intro (fun hb => ?_) (fun hb => ?_) <;> ((try rw [hb]); (conv => whnf); (try simp at hb)))
    | (refine aI ?_; (conv => whnf))
    | (refine fin_e ?_; (conv => whnf); exact lfA)
    | fail

theorem r14_Position_s (l : Ln) : PureX Tryz.prog gl0 r14_Position [encLn l] (fun r => ∃ o, r = encPsn o) := by
  refine pure_fnX mixed fn_r14_Position nt_r14_Position hc_r14_Position (by simp) gl0n (by simp [nf]) ?_
  conv => whnf
  repeat' first
    | (refine br_dec (fun h0 => ?_) (fun h0 => ?_) <;> (conv => whnf))
    | (refine br_intro (fun hb => ?_) (fun hb => ?_) <;> ((try rw [hb]); (conv => whnf); (try simp at hb)))
    | (refine call_x2 (r14_of_s l _) ⟨Le.refl _, Le.refl _, trivial⟩ ?_; (first | (rintro _ - ⟨_, rfl⟩) | (rintro _ - ⟨_, rfl, _⟩) | (rintro _ - ⟨_, _, rfl⟩) | (rintro _ - ⟨_, _, rfl, _⟩) | (rintro _ - ⟨_, _, _, rfl⟩) | (rintro _ - ⟨_, _, _, rfl, _⟩)); (conv => whnf))
    | (refine aI ?_; (conv => whnf))
    | (refine fin_e ?_; (conv => whnf); exact ⟨by simp [packA, consL, nf], _, mk_Psn ..⟩)
    | fail

theorem r14_days_s (l : Ln) (h : l.plan.length ≤ 1000) : PureX Tryz.prog gl0 r14_days [encLn l] (QI) := by
  refine pure_fnX mixed fn_r14_days nt_r14_days hc_r14_days (by simp) gl0n (by simp [nf]) ?_
  conv => whnf
  repeat' first
    | (refine br_dec (fun h0 => ?_) (fun h0 => ?_) <;> (conv => whnf))
    | (refine br_intro (fun hb => ?_) (fun hb => ?_) <;> ((try rw [hb]); (conv => whnf); (try simp at hb)))
    | (refine call_x2 (r14_Position_s l) ⟨Le.refl _, trivial⟩ ?_; (first | (rintro _ - ⟨_, rfl⟩) | (rintro _ - ⟨_, rfl, _⟩) | (rintro _ - ⟨_, _, rfl⟩) | (rintro _ - ⟨_, _, rfl, _⟩) | (rintro _ - ⟨_, _, _, rfl⟩) | (rintro _ - ⟨_, _, _, rfl, _⟩)); (conv => whnf))
    | (refine call_x2 (r10_Days_s l.plan _ _ h) ⟨Le.refl _, Le.refl _, Le.refl _, trivial⟩ ?_; (first | (rintro _ - ⟨_, rfl⟩) | (rintro _ - ⟨_, rfl, _⟩) | (rintro _ - ⟨_, _, rfl⟩) | (rintro _ - ⟨_, _, rfl, _⟩) | (rintro _ - ⟨_, _, _, rfl⟩) | (rintro _ - ⟨_, _, _, rfl, _⟩)); (conv => whnf))
    | (refine aI ?_; (conv => whnf))
    | (refine fin_e ?_; (conv => whnf); exact lfA)
    | fail

theorem r14_pastDue_s (l : Ln) (h : l.plan.length ≤ 1000) : PureX Tryz.prog gl0 r14_pastDue [encLn l] (QI) := by
  refine pure_fnX mixed fn_r14_pastDue nt_r14_pastDue hc_r14_pastDue (by simp) gl0n (by simp [nf]) ?_
  conv => whnf
  repeat' first
    | (refine br_dec (fun h0 => ?_) (fun h0 => ?_) <;> (conv => whnf))
    | (refine br_intro (fun hb => ?_) (fun hb => ?_) <;> ((try rw [hb]); (conv => whnf); (try simp at hb)))
    | (refine call_x2 (r14_Position_s l) ⟨Le.refl _, trivial⟩ ?_; (first | (rintro _ - ⟨_, rfl⟩) | (rintro _ - ⟨_, rfl, _⟩) | (rintro _ - ⟨_, _, rfl⟩) | (rintro _ - ⟨_, _, rfl, _⟩) | (rintro _ - ⟨_, _, _, rfl⟩) | (rintro _ - ⟨_, _, _, rfl, _⟩)); (conv => whnf))
    | (refine call_x2 (r10_PastDue_s l.plan _ _ h) ⟨Le.refl _, Le.refl _, Le.refl _, trivial⟩ ?_; (first | (rintro _ - ⟨_, rfl⟩) | (rintro _ - ⟨_, rfl, _⟩) | (rintro _ - ⟨_, _, rfl⟩) | (rintro _ - ⟨_, _, rfl, _⟩) | (rintro _ - ⟨_, _, _, rfl⟩) | (rintro _ - ⟨_, _, _, rfl, _⟩)); (conv => whnf))
    | (refine aI ?_; (conv => whnf))
    | (refine fin_e ?_; (conv => whnf); exact lfA)
    | fail

theorem r14_over_s (l : Ln) : PureX Tryz.prog gl0 r14_over [encLn l] (QB) := by
  refine pure_fnX mixed fn_r14_over nt_r14_over hc_r14_over (by simp) gl0n (by simp [nf]) ?_
  conv => whnf
  repeat' first
    | (refine br_dec (fun h0 => ?_) (fun h0 => ?_) <;> (conv => whnf))
    | (refine br_intro (fun hb => ?_) (fun hb => ?_) <;> ((try rw [hb]); (conv => whnf); (try simp at hb)))
    | (refine aI ?_; (conv => whnf))
    | (refine fin_e ?_; (conv => whnf); exact lfA)
    | fail

end Go.Proofs.YtaomkjcclcgdlaaGreatDoor
