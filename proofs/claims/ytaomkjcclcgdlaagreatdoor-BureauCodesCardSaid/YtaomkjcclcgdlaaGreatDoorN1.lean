/- The letter of a loan, by the program and by the document: exact. No condition. -/
import Derived.Test.YtaomkjcclcgdlaaGreatDoorM2
import Derived.Test.YtaomkjcclcgdlaaGreatDoorM4
import Derived.Laws.BytesArg
set_option linter.all false
namespace Go.Proofs.YtaomkjcclcgdlaaGreatDoor
open Go Ar
set_option linter.unusedVariables false
set_option autoImplicit false
set_option maxHeartbeats 4000000
set_option maxRecDepth 100000

theorem bkt_rng (d : Int) : 0 ≤ bkt d ∧ bkt d ≤ 4 := by unfold bkt; (repeat' split) <;> decide

abbrev S_ (s : ByteArray) : AV := .val (.string s)
def digS (d : Int) : ByteArray := if d = 0 then ⟨#[48]⟩ else if d = 1 then ⟨#[49]⟩ else if d = 2 then ⟨#[50]⟩ else if d = 3 then ⟨#[51]⟩ else ⟨#[52]⟩
/-- The letter of a loan. -/
def codS (l : Ln) : ByteArray := if l.case.status = 9 then ⟨#[67]⟩ else if l.case.status = 8 then ⟨#[88]⟩ else if l.case.status = 4 then ⟨#[80]⟩ else digS (bkt (daysV l.plan l.applied (restOf l) l.day))

theorem small_x (d : Int) (h0 : 0 ≤ d) (h4 : d ≤ 4) : PureX Tryz.prog gl0 internal_strconv_small [I d] (fun r => r = S_ (digS d)) := by
  refine pure_fnX mixed fn_internal_strconv_small nt_internal_strconv_small hc_internal_strconv_small (by simp) gl0n (by simp [nf]) ?_
  rcases (show d = 0 ∨ d = 1 ∨ d = 2 ∨ d = 3 ∨ d = 4 by omega) with rfl | rfl | rfl | rfl | rfl
  all_goals
    (conv => whnf)
    (repeat' first
      | (refine And.intro (by first | decide | omega | (constructor <;> decide) | fail) ?_; (conv => whnf))
      | fail)
    refine fin_e ?_
    (conv => whnf)
    exact ⟨trivial, rfl⟩

theorem fmtI_x (d : Int) (h0 : 0 ≤ d) (h4 : d ≤ 4) : PureX Tryz.prog gl0 internal_strconv_FormatInt [I d, I 10] (fun r => r = S_ (digS d)) := by
  refine pure_fnX mixed fn_internal_strconv_FormatInt nt_internal_strconv_FormatInt hc_internal_strconv_FormatInt (by simp) gl0n (by simp [nf]) ?_
  conv => whnf
  refine br_true (decide_eq_true (h0)) ?_
  conv => whnf
  refine br_true (decide_eq_true ((by omega : d < 100))) ?_
  conv => whnf
  refine call_x2 (small_x d h0 h4) (LeL.refl _) ?_
  rintro _ - rfl
  conv => whnf
  refine fin_e ?_
  conv => whnf
  exact ⟨trivial, rfl⟩

theorem itoaI_x (d : Int) (h0 : 0 ≤ d) (h4 : d ≤ 4) : PureX Tryz.prog gl0 internal_strconv_Itoa [I d] (fun r => r = S_ (digS d)) := by
  refine pure_fnX mixed fn_internal_strconv_Itoa nt_internal_strconv_Itoa hc_internal_strconv_Itoa (by simp) gl0n (by simp [nf]) ?_
  conv => whnf
  refine call_x2 (fmtI_x d h0 h4) (LeL.refl _) ?_
  rintro _ - rfl
  conv => whnf
  refine fin_e ?_
  conv => whnf
  exact ⟨trivial, rfl⟩

theorem itoa_x (d : Int) (h0 : 0 ≤ d) (h4 : d ≤ 4) : PureX Tryz.prog gl0 strconv_Itoa [I d] (fun r => r = S_ (digS d)) := by
  refine pure_fnX mixed fn_strconv_Itoa nt_strconv_Itoa hc_strconv_Itoa (by simp) gl0n (by simp [nf]) ?_
  conv => whnf
  refine call_x2 (itoaI_x d h0 h4) (LeL.refl _) ?_
  rintro _ - rfl
  conv => whnf
  refine fin_e ?_
  conv => whnf
  exact ⟨trivial, rfl⟩

theorem code_x (p : Pol) (l : Ln) (hp : hasI p) (hg : chk p = (0, 0)) (hr : rng (encLn l)) (h : l.plan.length ≤ 1000) : PureX Tryz.prog gl0 bureau_Code [encPol p, encLn l] (fun r => r = S_ (codS l)) := by
  refine pure_fnX mixed fn_bureau_Code nt_bureau_Code hc_bureau_Code (by simp) gl0n (by simp [nf]) ?_
  conv => whnf
  refine call_x2 (policy_Check_s p hp) (LeL.refl _) ?_
  rw [hg]
  rintro _ - rfl
  conv => whnf
  refine call_x2 (look_x p l hp hg hr h) (LeL.refl _) ?_
  rintro _ - rfl
  conv => whnf
  unfold codS
  by_cases c1 : l.case.status = 9
  · refine br_true (decide_eq_true (c1)) ?_
    conv => whnf
    refine fin_e ?_
    conv => whnf
    rw [if_pos c1]
    exact ⟨trivial, rfl⟩
  · refine br_false (decide_eq_false (c1)) ?_
    conv => whnf
    rw [if_neg c1]
    by_cases c2 : l.case.status = 8
    · refine br_true (decide_eq_true (c2)) ?_
      conv => whnf
      refine fin_e ?_
      conv => whnf
      rw [if_pos c2]
      exact ⟨trivial, rfl⟩
    · refine br_false (decide_eq_false (c2)) ?_
      conv => whnf
      rw [if_neg c2]
      by_cases c3 : l.case.status = 4
      · refine br_true (decide_eq_true (c3)) ?_
        conv => whnf
        refine fin_e ?_
        conv => whnf
        rw [if_pos c3]
        exact ⟨trivial, rfl⟩
      · refine br_false (decide_eq_false (c3)) ?_
        conv => whnf
        rw [if_neg c3]
        have hb := bkt_rng (daysV l.plan l.applied (restOf l) l.day)
        refine call_x2 (itoa_x _ hb.1 hb.2) (LeL.refl _) ?_
        rintro _ - rfl
        conv => whnf
        refine fin_e ?_
        conv => whnf
        exact ⟨trivial, rfl⟩

theorem codeN_x (p : Pol) (l : Ln) (hp : hasI p) (hg : (chk p).1 ≠ 0) : PureX Tryz.prog gl0 bureau_Code [encPol p, encLn l] (fun r => r = S_ ⟨#[]⟩) := by
  refine pure_fnX mixed fn_bureau_Code nt_bureau_Code hc_bureau_Code (by simp) gl0n (by simp [nf]) ?_
  conv => whnf
  refine call_x2 (policy_Check_s p hp) (LeL.refl _) ?_
  rintro _ - rfl
  conv => whnf
  refine br_true (decide_eq_true (hg)) ?_
  conv => whnf
  refine fin_e ?_
  conv => whnf
  exact ⟨trivial, rfl⟩

theorem r24_Code_x (p : Pol) (l : Ln) (hp : hasI p) (hg : chk p = (0, 0)) (hr : rng (encLn l)) (h : l.plan.length ≤ 1000) : PureX Tryz.prog gl0 r24_Code [encPol p, encLn l] (fun r => r = S_ (codS l)) := by
  refine pure_fnX mixed fn_r24_Code nt_r24_Code hc_r24_Code (by simp) gl0n (by simp [nf]) ?_
  conv => whnf
  refine call_x2 (r12_Check_x p hp) (LeL.refl _) ?_
  rw [hg]
  rintro _ - rfl
  conv => whnf
  refine call_x2 (r14_Look_x p l hp hg hr h) (LeL.refl _) ?_
  rintro _ - rfl
  conv => whnf
  unfold codS
  by_cases c1 : l.case.status = 9
  · refine br_true (decide_eq_true (c1)) ?_
    conv => whnf
    refine fin_e ?_
    conv => whnf
    rw [if_pos c1]
    exact ⟨trivial, rfl⟩
  · refine br_false (decide_eq_false (c1)) ?_
    conv => whnf
    rw [if_neg c1]
    by_cases c2 : l.case.status = 8
    · refine br_true (decide_eq_true (c2)) ?_
      conv => whnf
      refine fin_e ?_
      conv => whnf
      rw [if_pos c2]
      exact ⟨trivial, rfl⟩
    · refine br_false (decide_eq_false (c2)) ?_
      conv => whnf
      rw [if_neg c2]
      by_cases c3 : l.case.status = 4
      · refine br_true (decide_eq_true (c3)) ?_
        conv => whnf
        refine fin_e ?_
        conv => whnf
        rw [if_pos c3]
        exact ⟨trivial, rfl⟩
      · refine br_false (decide_eq_false (c3)) ?_
        conv => whnf
        rw [if_neg c3]
        have hb := bkt_rng (daysV l.plan l.applied (restOf l) l.day)
        generalize bkt (daysV l.plan l.applied (restOf l) l.day) = d at hb ⊢
        rcases (show d = 0 ∨ d = 1 ∨ d = 2 ∨ d = 3 ∨ d = 4 by omega) with rfl | rfl | rfl | rfl | rfl
        all_goals
          (conv => whnf)
          refine And.intro (fun i hi => (by match i with | 0 => exact ⟨_, rfl⟩ | _ + 1 => exact absurd hi (Nat.not_lt.2 (Nat.succ_le_succ (Nat.zero_le _))))) ?_
          (conv => whnf)
          refine fin_e ?_
          (conv => whnf)
          exact ⟨trivial, rfl⟩

end Go.Proofs.YtaomkjcclcgdlaaGreatDoor
namespace Go.Proofs.YtaomkjcclcgdlaaGreatDoor
open Go Ar
set_option linter.unusedVariables false
set_option autoImplicit false
set_option maxHeartbeats 4000000
set_option maxRecDepth 100000

theorem playable_x (p : Pol) (ops : List Opn) : PureX Tryz.prog gl0 l24_playable [encPol p, encL encOpn 7 ops] (fun r => r = B (decide (ops.length ≤ 200 ∧ p.holidays.length ≤ 1000))) := by
  refine pure_fnX mixed fn_l24_playable nt_l24_playable hc_l24_playable (by simp) gl0n (by simp [nf]) ?_
  conv => whnf
  by_cases c : ops.length ≤ 200
  · refine br_true (decide_eq_true ((by omega : (ops.length : Int) ≤ 200))) ?_
    conv => whnf
    by_cases c2 : p.holidays.length ≤ 1000
    · refine br_true (decide_eq_true ((by omega : (p.holidays.length : Int) ≤ 1000))) ?_
      conv => whnf
      refine fin_e ?_
      conv => whnf
      exact ⟨trivial, congrArg (fun b => B b) (decide_eq_true ⟨c, c2⟩).symm⟩
    · refine br_false (decide_eq_false ((by omega : ¬ (p.holidays.length : Int) ≤ 1000))) ?_
      conv => whnf
      refine fin_e ?_
      conv => whnf
      exact ⟨trivial, congrArg (fun b => B b) (decide_eq_false (fun h => c2 h.2)).symm⟩
  · refine br_false (decide_eq_false ((by omega : ¬ (ops.length : Int) ≤ 200))) ?_
    conv => whnf
    refine fin_e ?_
    conv => whnf
    exact ⟨trivial, congrArg (fun b => B b) (decide_eq_false (fun h => c h.1)).symm⟩

theorem leA_app0 {tok : Option Nat} {n m e : Nat} {f h : Nat → AV} (hn : m = n) : LeA (.lst tok m e (appF 0 f h)) (.lst none n e h) := by
  subst hn
  refine LeA.lst (.inr rfl) fun i hi => LeA.of_eq ?_
  unfold appF
  rw [if_neg (Nat.not_lt_zero i), Nat.sub_zero]

theorem ownP_x (p : Pol) (h : p.holidays.length ≤ 1000) : PureX Tryz.prog gl0 l24_ownPolicy [encPol p] (fun r => r = encPol p) := by
  refine pure_fnX mixed fn_l24_ownPolicy nt_l24_ownPolicy hc_l24_ownPolicy (by simp) gl0n (by simp [nf]) ?_
  conv => whnf
  repeat' first
    | (refine And.intro (by first | rfl | omega | (simp only [List.length_nil]; omega) | fail) ?_; (conv => whnf))
    | fail
  refine fin_r (encPol p) (nf_encPol _) rfl ?_
  conv => whnf
  refine (LeA.st ?_).le
  iterate 17 refine LeA.cons (LeA.refl _) ?_
  exact LeA.cons (leA_app0 (by simp)) (LeA.refl _)

theorem leA_plan {l : Ln} {t : Option Nat} {m : Nat} {f : Nat → AV} (hm : m = l.plan.length) : LeA (.st (.cons (I l.id) (.cons (encTrm l.terms) (.cons (.lst t m 4 (appF 0 f (fun i => encIns (at_ l.plan i)))) (.cons (encBk l.book) (.cons (encCse l.case) (.cons (I l.day) (.cons (I l.carry) (.cons (I l.applied) (.cons (encPrt l.last) (.cons (B l.hasLast) (.cons (I l.chargedOff) (.cons (I l.trace) .nil))))))))))))) (encLn l) :=
  LeA.st (LeA.cons (LeA.refl _) (LeA.cons (LeA.refl _) (LeA.cons (leA_app0 hm) (LeA.refl _))))

theorem lcode_any (p : Pol) (l : Ln) (s : ByteArray) (h : p.holidays.length ≤ 1000) (hl : l.plan.length ≤ 1000) (hc : PureX Tryz.prog gl0 bureau_Code [encPol p, encLn l] (fun r => r = S_ s)) : PureX Tryz.prog gl0 l24_code [encPol p, encLn l] (fun r => r = tup2 (S_ s) (B true)) := by
  refine pure_fnX mixed fn_l24_code nt_l24_code hc_l24_code (by simp) gl0n (by simp [nf, nf_encPol, nf_encLn]) ?_
  conv => whnf
  have hn : (l.plan.length : Int) < 9223372036854775808 := by omega
  repeat' first
    | (refine And.intro (by first | rfl | omega | (simp only [List.length_nil]; omega) | fail) ?_; (conv => whnf))
    | fail
  refine call_x2 (ownP_x p h) (LeL.refl _) ?_
  rintro _ - rfl
  conv => whnf
  refine call_x2 hc ⟨Le.refl _, (leA_plan (by simp)).le, trivial⟩ ?_
  rintro _ - rfl
  conv => whnf
  refine loop_at mixed (fun (k : Nat) => ([(8, I k), (2, .ptr 0 []), (3, .ptr 1 []), (6, .ptr 2 []), (7, S_ s)], [(0, .box (encPol p)), (1, .box (encLn l)), (2, .box (encLn l))], 3)) (fun k => k ≤ l.plan.length) (fun k => l.plan.length - k) 0 (Nat.zero_le _) (le_st (le_r rfl) (leE_i rfl rfl (leE_ptr rfl rfl (leE_ptr rfl rfl (leE_ptr rfl rfl (leE_eq rfl (bnd_nf _ (trivial)) trivial))))) (leO_box (lt_r rfl) rfl (LeA.refl _) (bnd_nf _ (nf_encPol _)) (leO_box (lt_r rfl) rfl (LeA.refl _) (bnd_nf _ (nf_encLn _)) (leO_box (lt_r rfl) rfl (leA_plan (by simp) ) (bnd_nf _ ( nf_encLn _)) trivial))) gl0n) ?_
  intro k hk
  conv => whnf
  by_cases c : k < l.plan.length
  · refine br_true (decide_eq_true ((by omega : (k : Int) < l.plan.length))) ?_
    conv => whnf
    repeat' first
      | (refine br_false (congrArg (eqSn true) (eqS_refl _ _)) ?_; (conv => whnf))
      | (refine And.intro (by omega) ?_; (conv => whnf))
      | fail
    exact ⟨k + 1, c, (by show l.plan.length - (k + 1) < l.plan.length - k; omega), (le_st (le_r rfl) (leE_i rfl (inc_id c hn) (leE_ptr rfl rfl (leE_ptr rfl rfl (leE_ptr rfl rfl (leE_eq rfl (bnd_nf _ (trivial)) trivial))))) (leO_box (lt_r rfl) rfl (LeA.refl _) (bnd_nf _ (nf_encPol _)) (leO_box (lt_r rfl) rfl (LeA.refl _) (bnd_nf _ (nf_encLn _)) (leO_box (lt_r rfl) rfl (LeA.refl _) (bnd_nf _ (nf_encLn _)) trivial))) gl0n)⟩
  · refine br_false (decide_eq_false ((by omega : ¬ ((k : Int) < l.plan.length)))) ?_
    conv => whnf
    refine fin_e ?_
    conv => whnf
    exact ⟨by simp [packA, consL, nf], rfl⟩

theorem law13_x (p q : Pol) (ops : List Opn) (hpr : rng (encPol p)) (hqr : rng (encPol q)) (hop : rng (encL encOpn 7 ops)) : Pure Tryz.prog gl0 l24_BureauCodes [encPol p, encL encOpn 7 ops, encPol q] (B true) := by
  refine pure_fn mixed fn_l24_BureauCodes nt_l24_BureauCodes hc_l24_BureauCodes (by simp) gl0n (by simp [nf]) (by simp [nf]) ?_
  conv => whnf
  have hp := hasI_of hpr
  have hq := hasI_of hqr
  refine call_x2 (playable_x p ops) (LeL.refl _) ?_
  rintro _ - rfl
  by_cases c : ops.length ≤ 200 ∧ p.holidays.length ≤ 1000
  · rw [decide_eq_true c]
    conv => whnf
    by_cases c2 : q.holidays.length ≤ 1000
    · refine br_false (decide_eq_false ((by omega : ¬ (q.holidays.length : Int) > 1000))) ?_
      conv => whnf
      refine call_x2 (r12_Check_x p hp) (LeL.refl _) ?_
      rintro _ - rfl
      conv => whnf
      refine call_x2 (r12_Check_x q hq) (LeL.refl _) ?_
      rintro _ - rfl
      conv => whnf
      by_cases c3 : (chk p).1 = 0
      · refine br_false (decide_eq_false ((fun h => h c3 : ¬ (chk p).1 ≠ 0))) ?_
        conv => whnf
        have hg := chk_0 c3
        refine call_x2 (r15_Begin_s p) (LeL.refl _) ?_
        rintro _ - rfl
        conv => whnf
        have hln : (ops.length : Int) < 9223372036854775808 := by have := hop.1; omega
        have hfd : in64 p.firstDay := (rg_Pol hpr).firstDay
        refine loop_at mixed (fun (y : Nat × Stt) => ([(12, I y.1), (1, encL encOpn 7 ops), (3, .ptr 0 []), (5, .ptr 1 []), (9, I (chk q).1), (11, .ptr 2 [])], [(0, .box (encPol p)), (1, .box (encPol q)), (2, .box (encStt y.2))], 3)) (fun y => y.1 ≤ ops.length ∧ y.1 ≤ 200 ∧ okS (40000000 * y.1) y.2 ∧ rng (encStt y.2)) (fun y => ops.length - y.1) (0, ⟨p.firstDay, [], []⟩) ⟨Nat.zero_le _, Nat.zero_le _, okS0 _ _, rngS0 hfd⟩ (le_st (le_r rfl) (leE_i rfl rfl (leE_eq rfl (bnd_nf _ (nfL_Opn _ _)) (leE_ptr rfl rfl (leE_ptr rfl rfl (leE_i rfl rfl (leE_ptr rfl rfl trivial)))))) (leO_box (lt_r rfl) rfl (LeA.refl _) (bnd_nf _ (nf_encPol _)) (leO_box (lt_r rfl) rfl (LeA.refl _) (bnd_nf _ (nf_encPol _)) (leO_box (lt_r rfl) rfl (LeA.refl _) (bnd_nf _ (nf_encStt _)) trivial))) gl0n) ?_
        rintro ⟨k, v⟩ ⟨hk, hk2, hv, hvr⟩
        dsimp only at hk hk2 hv hvr ⊢
        conv => whnf
        by_cases c4 : k < ops.length
        · refine br_true (decide_eq_true ((by omega : (k : Int) < ops.length))) ?_
          conv => whnf
          refine And.intro ⟨by omega, by omega⟩ ?_
          conv => whnf
          refine call_x2 (PureX.rng (r15_Apply_s p v (at_ ops k) (40000000 * k) hp hv (by omega)) gl0w ?_) (LeL.refl _) ?_
          · intro a ha
            simp only [List.mem_cons, List.mem_nil_iff, or_false] at ha
            rcases ha with rfl | rfl | rfl
            exact ⟨dta_encPol _, hpr, rfl⟩
            exact ⟨dta_encStt _, hvr, rfl⟩
            exact ⟨dta_encOpn _, rng_at hop (by omega), rfl⟩
          rintro _ - ⟨⟨s', e, xs, rfl, hs⟩, hr⟩
          conv => whnf
          exact ⟨(k + 1, s'), ⟨by (show k + 1 ≤ _); omega, by (show k + 1 ≤ _); omega, hs.mono (by omega), hr.1⟩, (by show ops.length - (k + 1) < ops.length - k; omega), (le_st (le_r rfl) (leE_i rfl (inc_id (m := ops.length) (by omega) hln) (leE_eq rfl (bnd_nf _ (nfL_Opn _ _)) (leE_ptr rfl rfl (leE_ptr rfl rfl (leE_i rfl rfl (leE_ptr rfl rfl trivial)))))) (leO_box (lt_r rfl) rfl (LeA.refl _) (bnd_nf _ (nf_encPol _)) (leO_box (lt_r rfl) rfl (LeA.refl _) (bnd_nf _ (nf_encPol _)) (leO_box (lt_r rfl) rfl (LeA.refl _) (bnd_nf _ (nf_encStt _)) trivial))) gl0n)⟩
        · refine br_false (decide_eq_false ((by omega : ¬ (k : Int) < ops.length))) ?_
          conv => whnf
          have hv' : okS 20000000000 v := hv.mono (by omega)
          have hvn := hv'.n
          have hn : (v.loans.length : Int) < 9223372036854775808 := by omega
          refine loop_at mixed (fun (j : Nat) => ([(15, I j), (3, .ptr 0 []), (5, .ptr 1 []), (9, I (chk q).1), (11, .ptr 2 [])], [(0, .box (encPol p)), (1, .box (encPol q)), (2, .box (encStt v))], 3)) (fun j => j ≤ v.loans.length) (fun j => v.loans.length - j) 0 (Nat.zero_le _) (le_st (le_r rfl) (leE_i rfl rfl (leE_ptr rfl rfl (leE_ptr rfl rfl (leE_i rfl rfl (leE_ptr rfl rfl trivial))))) (leO_box (lt_r rfl) rfl (LeA.refl _) (bnd_nf _ (nf_encPol _)) (leO_box (lt_r rfl) rfl (LeA.refl _) (bnd_nf _ (nf_encPol _)) (leO_box (lt_r rfl) rfl (LeA.refl _) (bnd_nf _ (nf_encStt _)) trivial))) gl0n) ?_
          intro j hj
          conv => whnf
          by_cases c5 : j < v.loans.length
          · refine br_true (decide_eq_true ((by omega : (j : Int) < v.loans.length))) ?_
            conv => whnf
            have hpl := hv'.at_ c5
            have hlr : rng (encLn (at_ v.loans j)) := rng_at (enc := encLn) (e := 46) hvr.2.1 c5
            refine And.intro ⟨by omega, by omega⟩ ?_
            conv => whnf
            refine call_x2 (lcode_any p (at_ v.loans j) _ c.2 (by omega) (code_x p _ hp hg hlr (by omega))) (LeL.refl _) ?_
            rintro _ - rfl
            conv => whnf
            refine And.intro ⟨by omega, by omega⟩ ?_
            conv => whnf
            refine call_x2 (r24_Code_x p (at_ v.loans j) hp hg hlr (by omega)) (LeL.refl _) ?_
            rintro _ - rfl
            conv => whnf
            rw [beq_self_eq_true]
            conv => whnf
            refine And.intro ⟨by omega, by omega⟩ ?_
            conv => whnf
            by_cases c6 : (chk q).1 = 0
            · have hgq := chk_0 c6
              refine call_x2 (lcode_any q (at_ v.loans j) _ c2 (by omega) (code_x q _ hq hgq hlr (by omega))) (LeL.refl _) ?_
              rintro _ - rfl
              conv => whnf
              refine br_false (decide_eq_false ((fun h => h c6 : ¬ (chk q).1 ≠ 0))) ?_
              conv => whnf
              exact ⟨j + 1, c5, (by show v.loans.length - (j + 1) < v.loans.length - j; omega), (le_st (le_r rfl) (leE_i rfl (inc_id c5 hn) (leE_ptr rfl rfl (leE_ptr rfl rfl (leE_i rfl rfl (leE_ptr rfl rfl trivial))))) (leO_box (lt_r rfl) rfl (LeA.refl _) (bnd_nf _ (nf_encPol _)) (leO_box (lt_r rfl) rfl (LeA.refl _) (bnd_nf _ (nf_encPol _)) (leO_box (lt_r rfl) rfl (LeA.refl _) (bnd_nf _ (nf_encStt _)) trivial))) gl0n)⟩
            · refine call_x2 (lcode_any q (at_ v.loans j) _ c2 (by omega) (codeN_x q _ hq c6)) (LeL.refl _) ?_
              rintro _ - rfl
              conv => whnf
              refine br_true (decide_eq_true (c6)) ?_
              conv => whnf
              rw [beq_self_eq_true]
              conv => whnf
              exact ⟨j + 1, c5, (by show v.loans.length - (j + 1) < v.loans.length - j; omega), (le_st (le_r rfl) (leE_i rfl (inc_id c5 hn) (leE_ptr rfl rfl (leE_ptr rfl rfl (leE_i rfl rfl (leE_ptr rfl rfl trivial))))) (leO_box (lt_r rfl) rfl (LeA.refl _) (bnd_nf _ (nf_encPol _)) (leO_box (lt_r rfl) rfl (LeA.refl _) (bnd_nf _ (nf_encPol _)) (leO_box (lt_r rfl) rfl (LeA.refl _) (bnd_nf _ (nf_encStt _)) trivial))) gl0n)⟩
          · refine br_false (decide_eq_false ((by omega : ¬ (j : Int) < v.loans.length))) ?_
            conv => whnf
            exact Le.refl _
      · refine br_true (decide_eq_true (c3)) ?_
        conv => whnf
        refine call_x2 (codeN_x p ln0 hp c3) ⟨Le.refl _, leZ.le, trivial⟩ ?_
        rintro _ - rfl
        conv => whnf
        rw [beq_self_eq_true]
        conv => whnf
        exact Le.refl _
    · refine br_true (decide_eq_true ((by omega : (q.holidays.length : Int) > 1000))) ?_
      conv => whnf
      exact Le.refl _
  · rw [decide_eq_false c]
    conv => whnf
    exact Le.refl _

end Go.Proofs.YtaomkjcclcgdlaaGreatDoor
