/- Comparing, and copying for good: remittances, shares, movements. No condition. -/
import Derived.Test.YtdjmplfjpnikkaaC4
import Derived.Test.YtdjmplfjpnikkaaC5
set_option linter.all false
namespace Go.Proofs.Ytdjmplfjpnikkaa
open Go Ar
set_option linter.unusedVariables false
set_option autoImplicit false
set_option maxHeartbeats 4000000
set_option maxRecDepth 100000

theorem fl_Shr (x : Shr) : fl (encShr x) := ⟨trivial, trivial, trivial⟩
theorem fl_Mov (x : Mov) : fl (encMov x) := ⟨trivial, trivial, ⟨fun _ => trivial, trivial⟩, trivial⟩
theorem fl_Rem (x : Rem) : fl (encRem x) := ⟨trivial, trivial, trivial, trivial⟩

theorem flL_M {k n : Nat} {f : Nat → Mov} {r : Objs} (h : flL r) : flL ((k, .box (.arr n 14 (fun i => encMov (f i)))) :: r) := ⟨fun i => fl_Mov _, h⟩
theorem flL_S {k n : Nat} {f : Nat → Shr} {r : Objs} (h : flL r) : flL ((k, .box (.arr n 2 (fun i => encShr (f i)))) :: r) := ⟨fun i => fl_Shr _, h⟩
theorem flL_R {k n : Nat} {f : Nat → Rem} {r : Objs} (h : flL r) : flL ((k, .box (.arr n 3 (fun i => encRem (f i)))) :: r) := ⟨fun i => fl_Rem _, h⟩

theorem eqR (x : Rem) : eqSn true (eqS (.st (.cons .int (.cons .int (.cons .int .nil)))) (encRem x) (encRem x)) = false := by simp [eqSn, eqS, encRem]
theorem eqH (x : Shr) : eqSn true (eqS (.st (.cons .int (.cons .int .nil))) (encShr x) (encShr x)) = false := by simp [eqSn, eqS, encShr]
theorem eqM (x : Mov) : eqSn true (eqS (.st (.cons .int (.cons .int (.cons (.st (.cons (.arr 12 1 .int) .nil)) .nil)))) (encMov x) (encMov x)) = false := by simp [eqSn, eqS, encMov, encBf]

theorem same_x (n : Nat) (f : Nat → Rem) (hn : (n : Int) < 9223372036854775808) : PureX Try.prog gl0 l29_same [encRs n f, encRs n f] (fun r => r = B true) := by
  refine pure_fnX mixed fn_l29_same nt_l29_same hc_l29_same (by simp) gl0n (by simp [nf]) ?_
  conv => whnf
  refine br_false (decide_eq_false ((by omega : ¬ ((n : Int) ≠ n)))) ?_
  conv => whnf
  refine loop_at mixed (fun (k : Nat) => ([(5, I k), (0, encRs n f), (1, encRs n f)], [], 0)) (fun k => k ≤ n) (fun k => n - k) 0 (Nat.zero_le _) (le_st (le_r rfl) (leE_i rfl rfl (leE_eq rfl (bnd_nf _ (nf_encRs _ _)) (leE_eq rfl (bnd_nf _ (nf_encRs _ _)) trivial))) trivial gl0n) ?_
  intro k hk
  conv => whnf
  by_cases c : k < n
  · refine br_true (decide_eq_true ((by omega : (k : Int) < n))) ?_
    conv => whnf
    repeat' first
      | (refine And.intro (by first | rfl | omega | (constructor <;> omega) | fail) ?_; (conv => whnf))
      | fail
    refine br_false (eqR (f k)) ?_
    conv => whnf
    exact ⟨k + 1, c, (by show n - (k + 1) < n - k; omega), (le_st (le_r rfl) (leE_i rfl (inc_id c hn) (leE_eq rfl (bnd_nf _ (nf_encRs _ _)) (leE_eq rfl (bnd_nf _ (nf_encRs _ _)) trivial))) trivial gl0n)⟩
  · refine br_false (decide_eq_false ((by omega : ¬ ((k : Int) < n)))) ?_
    conv => whnf
    refine fin_e ?_
    conv => whnf
    exact ⟨trivial, rfl⟩

abbrev markS (xs : List Shr) : List Shr := xs ++ [⟨-7, 0⟩]
abbrev markM (ms : List Mov) : List Mov := ms ++ [⟨-7, 2, fun _ => 0⟩]

theorem markS_at {xs : List Shr} {i : Nat} (hi : i < xs.length) : at_ (markS xs) i = at_ xs i := at_append_left hi
theorem markM_at {ms : List Mov} {i : Nat} (hi : i < ms.length) : at_ (markM ms) i = at_ ms i := at_append_left hi

theorem ownS_o (xs : List Shr) (hn : xs.length ≤ 64) : PureIX Try.prog gl0 l29_ownShares [encL encShr 2 xs] [] 0 (fun r o1 n1 => r = .sli 0 0 (markS xs).length 2 52 ∧ o1 = [(0, .box (.arr (markS xs).length 2 (fun i => encShr (at_ (markS xs) i))))] ∧ n1 = 1) := by
  refine pureO1_fn mixed 0 _ _ _ _ fn_l29_ownShares nt_l29_ownShares hc_l29_ownShares (by simp) gl0n rfl (fun i => fl_Shr _) (fun i => nf_encShr _) ?_
  conv => whnf
  repeat' first
    | (refine And.intro (by first | omega | rfl | (show _ * 16 ≤ _; omega) | (show (_ + _) * 16 ≤ _; simp only [List.length_cons, List.length_nil]; omega) | fail) ?_; (conv => whnf))
    | fail
  refine ⟨⟨_, _, _, LeSt.refl _ _ _ _ _, ?_, ?_⟩⟩
  · simp [lookO]
  · conv => whnf
    exact (leA_snoc (enc := encShr) (x := ⟨-7, 0⟩) (LeA.of_eq rfl)).le

theorem ownM_o (ms : List Mov) (hn : ms.length ≤ 400) : PureIX Try.prog gl0 l29_ownMoves [encL encMov 14 ms] [] 0 (fun r o1 n1 => r = .sli 0 0 (markM ms).length 14 50 ∧ o1 = [(0, .box (.arr (markM ms).length 14 (fun i => encMov (at_ (markM ms) i))))] ∧ n1 = 1) := by
  refine pureO1_fn mixed 0 _ _ _ _ fn_l29_ownMoves nt_l29_ownMoves hc_l29_ownMoves (by simp) gl0n rfl (fun i => fl_Mov _) (fun i => nf_encMov _) ?_
  conv => whnf
  repeat' first
    | (refine And.intro (by first | omega | rfl | (show _ * 112 ≤ _; omega) | (show (_ + _) * 112 ≤ _; simp only [List.length_cons, List.length_nil]; omega) | fail) ?_; (conv => whnf))
    | fail
  refine ⟨⟨_, _, _, LeSt.refl _ _ _ _ _, ?_, ?_⟩⟩
  · simp [lookO]
  · conv => whnf
    exact (leA_snoc (enc := encMov) (x := ⟨-7, 2, fun _ => 0⟩) (LeA.of_eq rfl)).le

theorem ownM_x2 (ms : List Mov) (hn : ms.length ≤ 400) : PureX Try.prog gl0 l29_ownMoves [encL encMov 14 ms] (fun r => r = encL encMov 14 (markM ms)) := by
  refine pure_fnX mixed fn_l29_ownMoves nt_l29_ownMoves hc_l29_ownMoves (by simp) gl0n (by simp [nf]) ?_
  conv => whnf
  repeat' first
    | (refine And.intro (by first | omega | rfl | (show _ * 112 ≤ _; omega) | (show (_ + _) * 112 ≤ _; simp only [List.length_cons, List.length_nil]; omega) | fail) ?_; (conv => whnf))
    | fail
  refine fin_r (encL encMov 14 (markM ms)) (nfL_Mov _ _) rfl ?_
  conv => whnf
  exact (leA_snoc (enc := encMov) (x := ⟨-7, 2, fun _ => 0⟩) (LeA.of_eq rfl)).le.trans leA_drop.le

theorem ownS_x2 (xs : List Shr) (hn : xs.length ≤ 64) : PureX Try.prog gl0 l29_ownShares [encL encShr 2 xs] (fun r => r = encL encShr 2 (markS xs)) := by
  refine pure_fnX mixed fn_l29_ownShares nt_l29_ownShares hc_l29_ownShares (by simp) gl0n (by simp [nf]) ?_
  conv => whnf
  repeat' first
    | (refine And.intro (by first | omega | rfl | (show _ * 16 ≤ _; omega) | (show (_ + _) * 16 ≤ _; simp only [List.length_cons, List.length_nil]; omega) | fail) ?_; (conv => whnf))
    | fail
  refine fin_r (encL encShr 2 (markS xs)) (nfL_Shr _ _) rfl ?_
  conv => whnf
  exact (leA_snoc (enc := encShr) (x := ⟨-7, 0⟩) (LeA.of_eq rfl)).le.trans leA_drop.le

theorem sameS_x (xs : List Shr) (hn : xs.length ≤ 64) : PureX Try.prog gl0 l29_sameShares [encL encShr 2 (markS xs), encL encShr 2 xs] (fun r => r = B true) := by
  refine pure_fnX mixed fn_l29_sameShares nt_l29_sameShares hc_l29_sameShares (by simp) gl0n (by simp [nf]) ?_
  conv => whnf
  refine call_x2 (ownS_x2 xs hn) (LeL.refl _) ?_
  rintro _ - rfl
  conv => whnf
  have hl : (markS xs).length = xs.length + 1 := by simp
  have hn : ((markS xs).length : Int) < 9223372036854775808 := by omega
  generalize markS xs = ys at hn hl ⊢
  refine loop_at mixed (fun (k : Nat) => ([(6, I k), (0, encL encShr 2 ys), (5, encL encShr 2 ys)], [], 0)) (fun k => k ≤ ys.length) (fun k => ys.length - k) 0 (Nat.zero_le _) (le_st (le_r rfl) (leE_i rfl rfl (leE_eq rfl (bnd_nf _ (nfL_Shr _ _)) (leE_eq rfl (bnd_nf _ (nfL_Shr _ _)) trivial))) trivial gl0n) ?_
  intro k hk
  conv => whnf
  by_cases c : k < ys.length
  · refine br_true (decide_eq_true ((by omega : (k : Int) < ys.length))) ?_
    conv => whnf
    repeat' first
      | (refine And.intro (by first | rfl | omega | (constructor <;> omega) | fail) ?_; (conv => whnf))
      | fail
    refine br_false (eqH (at_ ys k)) ?_
    conv => whnf
    exact ⟨k + 1, c, (by show ys.length - (k + 1) < ys.length - k; omega), (le_st (le_r rfl) (leE_i rfl (inc_id c hn) (leE_eq rfl (bnd_nf _ (nfL_Shr _ _)) (leE_eq rfl (bnd_nf _ (nfL_Shr _ _)) trivial))) trivial gl0n)⟩
  · refine br_false (decide_eq_false ((by omega : ¬ ((k : Int) < ys.length)))) ?_
    conv => whnf
    refine fin_e ?_
    conv => whnf
    exact ⟨trivial, rfl⟩

theorem sameM_x (ms : List Mov) (hn : ms.length ≤ 400) : PureX Try.prog gl0 l29_sameMoves [encL encMov 14 (markM ms), encL encMov 14 ms] (fun r => r = B true) := by
  refine pure_fnX mixed fn_l29_sameMoves nt_l29_sameMoves hc_l29_sameMoves (by simp) gl0n (by simp [nf]) ?_
  conv => whnf
  refine call_x2 (ownM_x2 ms hn) (LeL.refl _) ?_
  rintro _ - rfl
  conv => whnf
  have hl : (markM ms).length = ms.length + 1 := by simp
  have hn : ((markM ms).length : Int) < 9223372036854775808 := by omega
  generalize markM ms = ys at hn hl ⊢
  refine loop_at mixed (fun (k : Nat) => ([(6, I k), (0, encL encMov 14 ys), (5, encL encMov 14 ys)], [], 0)) (fun k => k ≤ ys.length) (fun k => ys.length - k) 0 (Nat.zero_le _) (le_st (le_r rfl) (leE_i rfl rfl (leE_eq rfl (bnd_nf _ (nfL_Mov _ _)) (leE_eq rfl (bnd_nf _ (nfL_Mov _ _)) trivial))) trivial gl0n) ?_
  intro k hk
  conv => whnf
  by_cases c : k < ys.length
  · refine br_true (decide_eq_true ((by omega : (k : Int) < ys.length))) ?_
    conv => whnf
    repeat' first
      | (refine And.intro (by first | rfl | omega | (constructor <;> omega) | fail) ?_; (conv => whnf))
      | fail
    refine br_false (eqM (at_ ys k)) ?_
    conv => whnf
    exact ⟨k + 1, c, (by show ys.length - (k + 1) < ys.length - k; omega), (le_st (le_r rfl) (leE_i rfl (inc_id c hn) (leE_eq rfl (bnd_nf _ (nfL_Mov _ _)) (leE_eq rfl (bnd_nf _ (nfL_Mov _ _)) trivial))) trivial gl0n)⟩
  · refine br_false (decide_eq_false ((by omega : ¬ ((k : Int) < ys.length)))) ?_
    conv => whnf
    refine fin_e ?_
    conv => whnf
    exact ⟨trivial, rfl⟩

end Go.Proofs.Ytdjmplfjpnikkaa
namespace Go.Proofs.Ytdjmplfjpnikkaa
open Go Ar
set_option linter.unusedVariables false
set_option autoImplicit false
set_option maxHeartbeats 4000000
set_option maxRecDepth 100000

theorem dueE_0 {xs : List Shr} {rate a b : Int} (h : dueE xs rate a b = 0) : (shV xs).1 = 0 ∧ (0 ≤ rate ∧ rate ≤ 10000) ∧ 0 ≤ a ∧ 0 ≤ b := by
  unfold dueE at h
  split at h
  · rename_i c; exact absurd h c
  · rename_i c
    split at h
    · rename_i d; exact ⟨Classical.byContradiction c, ⟨d.1, d.2.1⟩, d.2.2⟩
    · cases h

def dueN (xs : List Shr) (rate a b : Int) : Nat := if dueE xs rate a b = 0 then xs.length else 0
def dueF (xs : List Shr) (rate a b : Int) : Int := if dueE xs rate a b = 0 then (bpsN b.toNat rate.toNat : Nat) else 0
def dueR (xs : List Shr) (rate a b : Int) (i : Nat) : Rem := remF xs a.toNat (b.toNat - bpsN b.toNat rate.toNat) i

theorem Due_u (xs : List Shr) (rate a b : Int) (hn : xs.length ≤ 64) (ha : in64 a) (hb : in64 b) : PureIX Try.prog gl0 remit_Due [encL encShr 2 xs, I rate, I a, I b] [] 0 (fun r o1 n1 => r = tup3 (.sli 2 0 (dueN xs rate a b) 3 66) (I (dueF xs rate a b)) (I (dueE xs rate a b)) ∧ o1 = [(2, .box (.arr (dueN xs rate a b) 3 (fun i => encRem (dueR xs rate a b i))))] ∧ n1 = 3) := by
  unfold dueN dueF
  by_cases h : dueE xs rate a b = 0
  · rw [if_pos h, if_pos h, h]
    obtain ⟨h1, ⟨h2, h3⟩, h4, h5⟩ := dueE_0 h
    unfold in64 at ha hb
    obtain ⟨a, rfl⟩ : ∃ n : Nat, a = n := ⟨a.toNat, by omega⟩
    obtain ⟨b, rfl⟩ : ∃ n : Nat, b = n := ⟨b.toNat, by omega⟩
    obtain ⟨r, rfl⟩ : ∃ n : Nat, rate = n := ⟨rate.toNat, by omega⟩
    exact Due_i xs r a b h1 (by omega) (by omega) (by omega)
  · rw [if_neg h, if_neg h]
    obtain ⟨_, _, rfl, hp⟩ := Due_bad xs rate a b hn h
    exact ⟨_, _, _, ⟨rfl, rfl, rfl⟩, pureI_nil3 2 3 66 _ rfl hp⟩

theorem r29_Due_u (xs : List Shr) (rate a b : Int) (hn : xs.length ≤ 64) (ha : in64 a) (hb : in64 b) : PureX Try.prog gl0 r29_Due [encL encShr 2 xs, I rate, I a, I b] (fun r => r = tup3 (encRs (dueN xs rate a b) (dueR xs rate a b)) (I (dueF xs rate a b)) (I (dueE xs rate a b))) := by
  unfold dueN dueF
  by_cases h : dueE xs rate a b = 0
  · rw [if_pos h, if_pos h, h]
    obtain ⟨h1, ⟨h2, h3⟩, h4, h5⟩ := dueE_0 h
    unfold in64 at ha hb
    obtain ⟨a, rfl⟩ : ∃ n : Nat, a = n := ⟨a.toNat, by omega⟩
    obtain ⟨b, rfl⟩ : ∃ n : Nat, b = n := ⟨b.toNat, by omega⟩
    obtain ⟨r, rfl⟩ : ∃ n : Nat, rate = n := ⟨rate.toNat, by omega⟩
    exact r29_Due_x xs r a b h1 (by omega) (by omega) (by omega)
  · rw [if_neg h, if_neg h]
    obtain ⟨_, _, rfl, hp⟩ := r29_Due_bad xs rate a b hn h
    have hf : nf (tup3 (encRs 0 (dueR xs rate a b)) (I 0) (I (dueE xs rate a b))) := ⟨nf_encRs _ _, trivial, trivial, trivial⟩
    exact ⟨_, hf, rfl, hp.le (LeA.tup (LeA.cons (leA_nil3 _ _) (LeA.refl _))) hf⟩

theorem r29_Due_o (xs : List Shr) (rate a b : Nat) (h : (shV xs).1 = 0) (hr : rate ≤ 10000) (ha : a < 9223372036854775808) (hb : b < 9223372036854775808) : PureIX Try.prog gl0 r29_Due [encL encShr 2 xs, I rate, I a, I b] [] 0 (fun r o1 n1 => r = tup3 (.sli 0 0 (remL xs a (b - bpsN b rate) xs.length).length 3 66) (I (bpsN b rate : Nat)) (I 0) ∧ o1 = [(0, .box (.arr (remL xs a (b - bpsN b rate) xs.length).length 3 (fun i => encRem (at_ (remL xs a (b - bpsN b rate) xs.length) i))))] ∧ n1 = 1) := by
  refine pureO3_fn mixed 1 _ _ _ _ _ _ fn_r29_Due nt_r29_Due hc_r29_Due (by simp) gl0n rfl (fun i => fl_Rem _) (fun i => nf_encRem _) ?_
  conv => whnf
  have hl := shV_0 h
  have hw := wS_ok h
  have h1 := hw.n1
  have h2 := hw.n2
  have hn : (xs.length : Int) < 9223372036854775808 := by omega
  refine call_x2 (r29_check_x xs (by omega)) (LeL.refl _) ?_
  rw [h]
  rintro _ - rfl
  conv => whnf
  refine call_x2 (r29_isRate_x rate) (LeL.refl _) ?_
  rw [decide_eq_true (show (0 : Int) ≤ rate ∧ (rate : Int) ≤ 10000 by omega)]
  rintro _ - rfl
  conv => whnf
  refine loop_at mixed (fun (k : Nat) => ([(14, I k), (13, encT (some 0) I 1 (lstF (wS xs) k)), (0, encL encShr 2 xs), (1, I rate), (2, I a), (3, I b)], [(0, .room (lstF (wS xs) k).length 1 2)], 1)) (fun k => k ≤ xs.length) (fun k => xs.length - k) 0 (Nat.zero_le _) ((le_nil 13 1 2 (fun i => I (at_ (lstF (wS xs) 0) i)) rfl).trans (le_st (le_r rfl) (leE_i rfl rfl (leE_eq rfl (bnd_encT nf_I (lt_r rfl)) (leE_eq rfl (bnd_nf _ (nfL_Shr _ _)) (leE_i rfl rfl (leE_i rfl rfl (leE_i rfl rfl trivial)))))) (leO_room (lt_r rfl) rfl trivial) gl0n)) ?_
  intro k hk
  conv => whnf
  by_cases c : k < xs.length
  · refine br_true (decide_eq_true ((by omega : (k : Int) < xs.length))) ?_
    conv => whnf
    refine ⟨by omega, ?_⟩
    conv => whnf
    have hlk : (lstF (wS xs) k).length = k := lstF_len _ _
    refine ⟨rfl, (by rw [hlk]; (show (k + 1) * 8 ≤ _); omega), ?_⟩
    conv => whnf
    refine ⟨k + 1, c, (by show xs.length - (k + 1) < xs.length - k; omega), ?_⟩
    dsimp only
    rw [lstF_s, ← wS_i h c]
    exact (le_st (le_r rfl) (leE_i rfl (inc_id c hn) (leE_le rfl (leA_snoc (enc := I) (by exact LeA.refl _)).le (bnd_encT nf_I (lt_r rfl)) (leE_eq rfl (bnd_nf _ (nfL_Shr _ _)) (leE_i rfl rfl (leE_i rfl rfl (leE_i rfl rfl trivial)))))) (leO_room (lt_r rfl) (by (simp; rfl)) trivial) gl0n)
  · refine br_false (decide_eq_false ((by omega : ¬ ((k : Int) < xs.length)))) ?_
    conv => whnf
    obtain rfl : k = xs.length := by omega
    refine call_x2 (r1_Bps_x (b : Int) (rate : Int) (by unfold in64; omega) (by unfold in64; omega)) (LeL.refl _) ?_
    rw [mdV_ok hb hr]
    rintro _ - rfl
    conv => whnf
    refine call_x2 (r1_split_x a xs.length (wS xs) ha hw) ⟨Le.refl _, (leA_F _ _ _).le, trivial⟩ ?_
    rintro _ - rfl
    conv => whnf
    have hf := bps_le (s := b) hr
    have e : IntKind.i64.wrap ((b : Int) - (bpsN b rate : Nat)) = ((b - bpsN b rate : Nat) : Int) := by
      rw [wrap_id (by unfold in64; omega)]; omega
    rw [e]
    clear e
    refine call_x2 (r1_split_x (b - bpsN b rate) xs.length (wS xs) (by omega) hw) ⟨Le.refl _, (leA_F _ _ _).le, trivial⟩ ?_
    rintro _ - rfl
    conv => whnf
    generalize bpsN b rate = fee at hf ⊢
    refine loop_at mixed (fun (k : Nat) => ([(22, I k), (21, encT (some 1) encRem 3 (remL xs a (b - fee) k)), (0, encL encShr 2 xs), (15, I fee), (17, encF xs.length (pN a (wS xs) xs.length)), (19, encF xs.length (pN (b - fee) (wS xs) xs.length))], [(1, .room (remL xs a (b - fee) k).length 3 66)], 2)) (fun k => k ≤ xs.length) (fun k => xs.length - k) 0 (Nat.zero_le _) ((le_nil 21 3 66 (fun i => encRem (at_ (remL xs a (b - fee) 0) i)) rfl).trans (le_st (le_r rfl) (leE_i rfl rfl (leE_eq rfl (bnd_encT nf_encRem (lt_r rfl)) (leE_eq rfl (bnd_nf _ (nfL_Shr _ _)) (leE_i rfl rfl (leE_eq rfl (bnd_nf _ (nf_encF _ _)) (leE_eq rfl (bnd_nf _ (nf_encF _ _)) trivial)))))) (leO_room (lt_r rfl) rfl trivial) gl0n)) ?_
    intro k hk
    conv => whnf
    by_cases c : k < xs.length
    · refine br_true (decide_eq_true ((by omega : (k : Int) < xs.length))) ?_
      conv => whnf
      repeat' first
        | (refine And.intro (by first | rfl | omega | (constructor <;> omega) | (rw [remL_len]; (show (k + 1) * 24 ≤ _); omega) | fail) ?_; (conv => whnf))
        | fail
      refine ⟨k + 1, c, (by show xs.length - (k + 1) < xs.length - k; omega), ?_⟩
      dsimp only
      rw [remL_s]
      exact (le_st (le_r rfl) (leE_i rfl (inc_id c hn) (leE_le rfl (leA_snoc (enc := encRem) (by exact LeA.refl _)).le (bnd_encT nf_encRem (lt_r rfl)) (leE_eq rfl (bnd_nf _ (nfL_Shr _ _)) (leE_i rfl rfl (leE_eq rfl (bnd_nf _ (nf_encF _ _)) (leE_eq rfl (bnd_nf _ (nf_encF _ _)) trivial)))))) (leO_room (lt_r rfl) (by (simp; rfl)) trivial) gl0n)
    · refine br_false (decide_eq_false ((by omega : ¬ ((k : Int) < xs.length)))) ?_
      conv => whnf
      obtain rfl : k = xs.length := by omega
      refine ⟨⟨_, _, _, LeSt.refl _ _ _ _ _, ?_, ?_⟩⟩
      · simp [lookO]
      · conv => whnf
        exact Le.refl _

end Go.Proofs.Ytdjmplfjpnikkaa
namespace Go.Proofs.Ytdjmplfjpnikkaa
open Go Ar
set_option linter.unusedVariables false
set_option autoImplicit false
set_option maxHeartbeats 4000000
set_option maxRecDepth 100000

/-- What each has of two states of things. -/
def subR (x y : Rem) : Rem := ⟨x.inv, IntKind.i64.wrap (x.p - y.p), IntKind.i64.wrap (x.i - y.i)⟩
def subP (x y : Rem) : Rem := ⟨x.inv, IntKind.i64.wrap (x.p - y.p), x.i⟩
def mixR (F H : Nat → Rem) (k i : Nat) : Rem := if i < k then subR (F i) (H i) else F i
def mixC (F H : Nat → Rem) (k c i : Nat) : Rem := if i = k then (match c with | 0 => F i | 1 => subP (F i) (H i) | _ => subR (F i) (H i)) else mixR F H k i
theorem mixC_0 {F H : Nat → Rem} {k : Nat} : mixC F H k 0 = mixR F H k := by
  funext i; unfold mixC mixR
  by_cases h : i = k
  · rw [if_pos h, if_neg (by omega)]; rfl
  · rw [if_neg h]
theorem mixC_2 {F H : Nat → Rem} {k : Nat} : mixC F H k 2 = mixR F H (k + 1) := by
  funext i; unfold mixC mixR
  by_cases h : i = k
  · rw [if_pos h, if_pos (by omega)]; rfl
  · rw [if_neg h]
    by_cases h2 : i < k
    · rw [if_pos h2, if_pos (by omega)]
    · rw [if_neg h2, if_neg (by omega)]

theorem Period_i (ms : List Mov) (xs : List Shr) (rate a1 b1 a2 b2 : Nat) (fr to : Int) (hm : ∀ m ∈ ms, ∀ a, a < 12 → in64 (m.net a)) (hl : ms.length ≤ 1000) (h : (shV xs).1 = 0) (hr : rate ≤ 10000)
    (f1 : 1 ≤ fr) (f2 : to ≤ 3652059) (f3 : fr ≤ to) (ha1 : a1 < 9223372036854775808) (hb1 : b1 < 9223372036854775808) (ha2 : a2 < 9223372036854775808) (hb2 : b2 < 9223372036854775808)
    (e1 : colS (fr - 1) 1 ms = a1) (e2 : colS (fr - 1) 2 ms = b1) (e3 : colS to 1 ms = a2) (e4 : colS to 2 ms = b2) :
    PureIX Try.prog gl0 remit_Period [encL encMov 14 ms, encL encShr 2 xs, I rate, I fr, I to] [] 0 (fun r o1 n1 => r = tup3 (.sli 7 0 xs.length 3 66) (I (IntKind.i64.wrap ((bpsN b2 rate : Nat) - (bpsN b1 rate : Nat)))) (I 0) ∧ o1 = [(7, .box (.arr xs.length 3 (fun i => encRem (mixR (remF xs a2 (b2 - bpsN b2 rate)) (remF xs a1 (b1 - bpsN b1 rate)) xs.length i))))] ∧ n1 = 8) := by
  have hsl := shV_0 h
  have hn : (xs.length : Int) < 9223372036854775808 := by omega
  have i1 : in64 (colS (fr - 1) 1 ms) := by rw [e1]; unfold in64; omega
  have i2 : in64 (colS (fr - 1) 2 ms) := by rw [e2]; unfold in64; omega
  have i3 : in64 (colS to 1 ms) := by rw [e3]; unfold in64; omega
  have i4 : in64 (colS to 2 ms) := by rw [e4]; unfold in64; omega
  have v1 : cA (fr - 1) ms 2 0 = a1 := (show (if 0 < 2 then cV (fr - 1) ms 1 else 0) = _ by rw [if_pos (by decide)]; unfold cV; rw [if_pos i1, e1])
  have v2 : cA (fr - 1) ms 2 1 = b1 := (show (if 1 < 2 then cV (fr - 1) ms 2 else 0) = _ by rw [if_pos (by decide)]; unfold cV; rw [if_pos i2, e2])
  have v3 : cA to ms 2 0 = a2 := (show (if 0 < 2 then cV to ms 1 else 0) = _ by rw [if_pos (by decide)]; unfold cV; rw [if_pos i3, e3])
  have v4 : cA to ms 2 1 = b2 := (show (if 1 < 2 then cV to ms 2 else 0) = _ by rw [if_pos (by decide)]; unfold cV; rw [if_pos i4, e4])
  have k1 : cK (fr - 1) ms 2 = true := decide_eq_true ⟨i1, i2⟩
  have k2 : cK to ms 2 = true := decide_eq_true ⟨i3, i4⟩
  refine pureI_fnX mixed fn_remit_Period nt_remit_Period hc_remit_Period (by simp) gl0n ?_
  conv => whnf
  refine br_false (decide_eq_false ((by omega : ¬ (fr < 1)))) ?_
  conv => whnf
  refine br_false (decide_eq_false ((by omega : ¬ (to > 3652059)))) ?_
  conv => whnf
  refine br_false (decide_eq_false ((by omega : ¬ (fr > to)))) ?_
  conv => whnf
  refine call_x2 (check_x xs hn) (LeL.refl _) ?_
  rw [h]
  rintro _ - rfl
  conv => whnf
  refine call_x2 (isRate_x rate) (LeL.refl _) ?_
  rw [decide_eq_true (show (0 : Int) ≤ rate ∧ (rate : Int) ≤ 10000 by omega)]
  rintro _ - rfl
  conv => whnf
  refine call_x2 (collected_x ms (fr - 1) hm hl) ⟨Le.refl _, Le.of_eq (congrArg (fun n => I n) (wrap_id (by unfold in64; omega))), trivial⟩ ?_
  rw [k1]
  rintro _ - rfl
  conv => whnf
  refine call_x2 (collected_x ms to hm hl) (LeL.refl _) ?_
  rw [k2]
  rintro _ - rfl
  conv => whnf
  repeat' first
    | (refine And.intro (by first | decide | omega | (constructor <;> omega) | fail) ?_; (conv => whnf))
    | fail
  refine br_false (decide_eq_false ((show ¬ (mmI false (mmI false (mmI false (cA (fr - 1) ms 2 0) (cA (fr - 1) ms 2 1)) (cA to ms 2 0)) (cA to ms 2 1) < 0) by rw [v1, v2, v3, v4]; unfold mmI; simp only []; (repeat' split) <;> omega))) ?_
  conv => whnf
  have hp1 : LeA (.arr 2 1 fun i => I (cA (fr - 1) ms 2 i)) (encP a1 b1) := LeA.arr fun i hi => (match i, hi with
    | 0, _ => LeA.of_eq (congrArg (fun n => I n) v1)
    | 1, _ => LeA.of_eq (congrArg (fun n => I n) v2))
  have hp2 : LeA (.arr 2 1 fun i => I (cA to ms 2 i)) (encP a2 b2) := LeA.arr fun i hi => (match i, hi with
    | 0, _ => LeA.of_eq (congrArg (fun n => I n) v3)
    | 1, _ => LeA.of_eq (congrArg (fun n => I n) v4))
  refine call_o (due_i xs rate a1 b1 h hr ha1 hb1) (by simp) ⟨Le.refl _, Le.refl _, hp1.le, trivial⟩ ?_
  rintro _ _ _ ⟨rfl, rfl, rfl⟩
  refine ⟨⟨⟨.inl (by decide), fun i => nf_encRem _⟩, trivial⟩, ⟨trivial, trivial, trivial⟩, rfl, ?_⟩
  conv => whnf
  refine call_o (due_i xs rate a2 b2 h hr ha2 hb2) (by simp) ⟨Le.refl _, Le.refl _, hp2.le, trivial⟩ ?_
  rintro _ _ _ ⟨rfl, rfl, rfl⟩
  refine ⟨⟨⟨.inl (by decide), fun i => nf_encRem _⟩, trivial⟩, ⟨trivial, trivial, trivial⟩, rfl, ?_⟩
  conv => whnf
  generalize hF2 : remF xs a2 (b2 - bpsN b2 rate) = F
  generalize hF1 : remF xs a1 (b1 - bpsN b1 rate) = H
  refine loop_at mixed (fun (k : Nat) => ([(93, I k), (92, I xs.length), (21, .sli 7 0 xs.length 3 66), (19, .sli 4 0 xs.length 3 66), (20, I (bpsN b1 rate : Nat)), (22, I (bpsN b2 rate : Nat))], [(4, .box (.arr xs.length 3 (fun i => encRem (H i)))), (7, .box (.arr xs.length 3 (fun i => encRem (mixR F H k i))))], 8)) (fun k => k ≤ xs.length) (fun k => xs.length - k) 0 (Nat.zero_le _) (le_st (le_r rfl) (leE_i rfl rfl (leE_i rfl rfl (leE_eq rfl (.inl (lt_r rfl)) (leE_eq rfl (.inl (lt_r rfl)) (leE_i rfl rfl (leE_i rfl rfl trivial)))))) (leO_box (lt_r rfl) rfl (LeA.arr (fun i hi => LeA.refl _) ) (bnd_nf _ ( (fun i => nf_encRem _))) (leO_box (lt_r rfl) rfl (LeA.arr (fun i hi => LeA.refl _) ) (bnd_nf _ ( (fun i => nf_encRem _))) trivial)) gl0n) ?_
  intro k hk
  conv => whnf
  by_cases c : k < xs.length
  · refine br_true (decide_eq_true ((by omega : (k : Int) < xs.length))) ?_
    conv => whnf
    refine call_x2 (columns_x ()) trivial ?_
    rintro _ - rfl
    conv => whnf
    refine loop_at mixed (fun (c : Nat) => ([(97, I c), (96, encCol), (23, I k), (93, I k), (92, I xs.length), (21, .sli 7 0 xs.length 3 66), (19, .sli 4 0 xs.length 3 66), (20, I (bpsN b1 rate : Nat)), (22, I (bpsN b2 rate : Nat))], [(4, .box (.arr xs.length 3 (fun i => encRem (H i)))), (7, .box (.arr xs.length 3 (fun i => encRem (mixC F H k c i))))], 8)) (fun c => c ≤ 2) (fun c => 2 - c) 0 (Nat.zero_le _) (le_st (le_r rfl) (leE_i rfl rfl (leE_eq rfl (bnd_nf _ (nf_encCol)) (leE_i rfl rfl (leE_i rfl rfl (leE_i rfl rfl (leE_eq rfl (.inl (lt_r rfl)) (leE_eq rfl (.inl (lt_r rfl)) (leE_i rfl rfl (leE_i rfl rfl trivial))))))))) (leO_box (lt_r rfl) rfl (LeA.arr (fun i hi => LeA.refl _) ) (bnd_nf _ ( (fun i => nf_encRem _))) (leO_box (lt_r rfl) rfl (LeA.arr (fun i hi => LeA.of_eq (congrArg encRem (by rw [mixC_0]))) ) (bnd_nf _ ( (fun i => nf_encRem _))) trivial)) gl0n) ?_
    intro c2 hc2
    rcases (show c2 = 0 ∨ c2 = 1 ∨ c2 = 2 by omega) with rfl | rfl | rfl
    · conv => whnf
      repeat' first
        | (refine And.intro (by first | decide | omega | (constructor <;> omega) | fail) ?_; (conv => whnf))
        | fail
      refine ⟨col1_ok, call_ptr 1 col1_ptr ?_⟩
      conv => whnf
      repeat' first
        | (refine And.intro (by first | decide | omega | (constructor <;> omega) | fail) ?_; (conv => whnf))
        | (rw [okN2 rfl (by decide)]; (conv => whnf))
        | fail
      refine ⟨col1_ok, call_ptr 1 col1_ptr ?_⟩
      conv => whnf
      repeat' first
        | (refine And.intro (by first | decide | omega | (constructor <;> omega) | fail) ?_; (conv => whnf))
        | (rw [okN2 rfl (by decide)]; (conv => whnf))
        | fail
      exact ⟨1, by decide, by decide, (le_st (le_r rfl) (leE_i rfl ((by decide)) (leE_eq rfl (bnd_nf _ (nf_encCol)) (leE_i rfl rfl (leE_i rfl rfl (leE_i rfl rfl (leE_eq rfl (.inl (lt_r rfl)) (leE_eq rfl (.inl (lt_r rfl)) (leE_i rfl rfl (leE_i rfl rfl trivial))))))))) (leO_box (lt_r rfl) rfl (LeA.arr (fun i hi => LeA.refl _) ) (bnd_nf _ ( (fun i => nf_encRem _))) (leO_box (lt_r rfl) rfl (leA_setR ⟨(mixC F H k 0 (0 + Int.toNat (k : Int))).inv, IntKind.i64.wrap ((mixC F H k 0 (0 + Int.toNat (k : Int))).p - (H (0 + Int.toNat (k : Int))).p), (mixC F H k 0 (0 + Int.toNat (k : Int))).i⟩ (Nat.zero_add _) (by rw [Nat.zero_add]; simp [mixC, subP]) (fun i hi => (by have hj : i ≠ k := hi; simp [mixC, hj])) ) (bnd_nf _ ( (fun i => nf_encRem _))) trivial)) gl0n)⟩
    · conv => whnf
      repeat' first
        | (refine And.intro (by first | decide | omega | (constructor <;> omega) | fail) ?_; (conv => whnf))
        | fail
      refine ⟨col2_ok, call_ptr 2 col2_ptr ?_⟩
      conv => whnf
      repeat' first
        | (refine And.intro (by first | decide | omega | (constructor <;> omega) | fail) ?_; (conv => whnf))
        | (rw [okN2 rfl (by decide)]; (conv => whnf))
        | fail
      refine ⟨col2_ok, call_ptr 2 col2_ptr ?_⟩
      conv => whnf
      repeat' first
        | (refine And.intro (by first | decide | omega | (constructor <;> omega) | fail) ?_; (conv => whnf))
        | (rw [okN2 rfl (by decide)]; (conv => whnf))
        | fail
      exact ⟨2, by decide, by decide, (le_st (le_r rfl) (leE_i rfl ((by decide)) (leE_eq rfl (bnd_nf _ (nf_encCol)) (leE_i rfl rfl (leE_i rfl rfl (leE_i rfl rfl (leE_eq rfl (.inl (lt_r rfl)) (leE_eq rfl (.inl (lt_r rfl)) (leE_i rfl rfl (leE_i rfl rfl trivial))))))))) (leO_box (lt_r rfl) rfl (LeA.arr (fun i hi => LeA.refl _) ) (bnd_nf _ ( (fun i => nf_encRem _))) (leO_box (lt_r rfl) rfl (leA_setR ⟨(mixC F H k 1 (0 + Int.toNat (k : Int))).inv, (mixC F H k 1 (0 + Int.toNat (k : Int))).p, IntKind.i64.wrap ((mixC F H k 1 (0 + Int.toNat (k : Int))).i - (H (0 + Int.toNat (k : Int))).i)⟩ (Nat.zero_add _) (by rw [Nat.zero_add]; simp [mixC, subP, subR]) (fun i hi => (by have hj : i ≠ k := hi; simp [mixC, hj])) ) (bnd_nf _ ( (fun i => nf_encRem _))) trivial)) gl0n)⟩
    · conv => whnf
      exact ⟨k + 1, c, (by show xs.length - (k + 1) < xs.length - k; omega), (le_st (le_r rfl) (leE_i rfl (inc_id c hn) (leE_i rfl rfl (leE_eq rfl (.inl (lt_r rfl)) (leE_eq rfl (.inl (lt_r rfl)) (leE_i rfl rfl (leE_i rfl rfl trivial)))))) (leO_box (lt_r rfl) rfl (LeA.arr (fun i hi => LeA.refl _) ) (bnd_nf _ ( (fun i => nf_encRem _))) (leO_box (lt_r rfl) rfl (LeA.arr (fun i hi => LeA.of_eq (congrArg encRem (by rw [mixC_2]))) ) (bnd_nf _ ( (fun i => nf_encRem _))) trivial)) gl0n)⟩
  · refine br_false (decide_eq_false ((by omega : ¬ ((k : Int) < xs.length)))) ?_
    conv => whnf
    obtain rfl : k = xs.length := by omega
    refine ⟨⟨[(10, .sli 7 0 xs.length 3 66), (11, I (IntKind.i64.wrap ((bpsN b2 rate : Nat) - (bpsN b1 rate : Nat)))), (12, I 0)], [(7, .box (.arr xs.length 3 (fun i => encRem (mixR F H xs.length i))))], 8, (le_st (le_r rfl) (leE_eq rfl (.inl (lt_r rfl)) (leE_i rfl rfl (leE_i rfl rfl trivial))) (leO_box (lt_r rfl) rfl (LeA.arr (fun i hi => LeA.of_eq rfl) ) (bnd_nf _ ( (fun i => nf_encRem _))) trivial) gl0n), ?_⟩⟩
    conv => whnf
    exact ⟨_, Le.refl _, rfl, rfl, rfl⟩

end Go.Proofs.Ytdjmplfjpnikkaa
