/- Contracts of the statement's own words: the portfolio behind some operations, its twin, and that it stands still. No condition. -/
import Derived.Test.YtjkmmcbfcglkdaaGreatL9
import Derived.Test.YtjkmmcbfcglkdaaGreatK7
import Derived.Test.YtjkmmcbfcglkdaaGreatL1
import Derived.Shelf.Spec.BitsCarry
set_option linter.all false
namespace Go.Proofs.YtjkmmcbfcglkdaaGreat
open Go Ar
set_option linter.unusedVariables false
set_option autoImplicit false
set_option maxHeartbeats 4000000
set_option maxRecDepth 100000

theorem hasI_of {p : Pol} (h : rng (encPol p)) : hasI p := by
  have h1 : p.holidays.length ≤ 9223372036854775807 := h.2.2.2.2.2.2.2.2.2.2.2.2.2.2.2.2.2.1.1
  unfold hasI
  omega

theorem rng_at {α : Type} [Inhabited α] {enc : α → AV} {e : Nat} {xs : List α} (h : rng (encL enc e xs)) {i : Nat} (hi : i < xs.length) : rng (enc (at_ xs i)) := (h.2 i hi).2

abbrev QBeh : AV → Prop := fun r => ∃ s, r = encStt s ∧ okS 20000000000 s ∧ rng (encStt s)

theorem okS0 (b : Nat) (n : Int) : okS b ⟨n, [], []⟩ := ⟨Nat.zero_le _, fun x hx => (by cases hx), Nat.zero_le _⟩

theorem leZS : LeA zStt (encStt ⟨0, [], []⟩) := LeA.st (LeA.cons (LeA.refl _) (LeA.cons leA_nilL (LeA.cons leA_nilL (LeA.refl _))))
theorem rngS0 {n : Int} (h : in64 n) : rng (encStt ⟨n, [], []⟩) := ⟨okI_i64.2 h, ⟨Nat.zero_le _, fun i hi => absurd hi (Nat.not_lt_zero i)⟩, ⟨Nat.zero_le _, fun i hi => absurd hi (Nat.not_lt_zero i)⟩, trivial⟩

theorem l21_behind_s (p : Pol) (ops : List Opn) (n : Int) (hpr : rng (encPol p)) (hop : rng (encL encOpn 7 ops)) : PureX Tryz.prog gl0 l21_behind [encPol p, encL encOpn 7 ops, I n] (QBeh) := by
  refine pure_fnX mixed fn_l21_behind nt_l21_behind hc_l21_behind (by simp) gl0n (by simp [nf, nf_I, nf_encBk, nf_encIns, nf_encTrm, nf_encCse, nf_encPrt, nf_encNtc, nf_encEty, nf_encOwd, nf_encPsn, nf_encEvt, nf_encDte, nf_encLn, nf_encPol, nf_encOtc, nf_encStt, nf_encOpn, nf_encWrk, nfL_I, nfL_Ins, nfL_Ntc, nfL_Ety, nfL_Ln, nfL_Opn, nfL_Bk]) ?_
  conv => whnf
  have hp := hasI_of hpr
  have hln : (ops.length : Int) < 9223372036854775808 := by have := hop.1; omega
  have hfd : in64 p.firstDay := (rg_Pol hpr).firstDay
  repeat' first
    | (refine br_dec (fun h0 => ?_) (fun h0 => ?_) <;> (conv => whnf))
    | (refine br_intro (fun hb => ?_) (fun hb => ?_) <;> ((try rw [hb]); (conv => whnf); (try simp at hb)))
    | (refine call_x2 (r12_Check_s p hp) (LeL.refl _) ?_; (rintro _ - ⟨_, _, rfl⟩); (conv => whnf))
    | (refine call_x2 (r15_Begin_s p) (LeL.refl _) ?_; (rintro _ - rfl); (conv => whnf))
    | (refine fin_r (encStt ⟨0, [], []⟩) (nf_encStt _) ⟨_, rfl, okS0 _ _, rngS0 (by unfold in64; omega)⟩ ?_; (conv => whnf); exact leZS.le)
    | (exact True.elim trivial)
    | (refine And.intro (by first | omega | rfl | (simp only [List.length_cons, List.length_nil]; omega) | (rw [wrap_id (by unfold in64; omega)]; omega)) ?_; (conv => whnf))
    | (refine fin_e ?_; (conv => whnf); first | exact ⟨by simp [packA, consL, nf], _, rfl⟩ | exact ⟨by simp [packA, consL, nf], _, _, rfl⟩ | exact ⟨by simp [packA, consL, nf], _, _, _, rfl⟩)
  refine loop_at mixed (fun (y : Nat × Stt) => ([(10, I y.1), (1, encL encOpn 7 ops), (2, I n), (3, .ptr 0 []), (6, .ptr 1 []), (9, .ptr 2 [])], [(0, .box (encPol p)), (1, .box zStt), (2, .box (encStt y.2))], 3)) (fun y => y.1 ≤ ops.length ∧ y.1 ≤ 200 ∧ okS (40000000 * y.1) y.2 ∧ rng (encStt y.2)) (fun y => ops.length - y.1) (0, ⟨p.firstDay, [], []⟩) ⟨Nat.zero_le _, Nat.zero_le _, okS0 _ _, rngS0 hfd⟩ (le_st (le_r rfl) (leE_i rfl rfl (leE_eq rfl (bnd_nf _ (nfL_Opn _ _)) (leE_i rfl rfl (leE_ptr rfl rfl (leE_ptr rfl rfl (leE_ptr rfl rfl trivial)))))) (leO_box (lt_r rfl) rfl (LeA.refl _) (bnd_nf _ (nf_encPol _)) (leO_box (lt_r rfl) rfl (LeA.refl _) (bnd_nf _ (nf_zStt)) (leO_box (lt_r rfl) rfl (LeA.refl _ ) (bnd_nf _ ( nf_encStt _)) trivial))) gl0n) ?_
  rintro ⟨k, v⟩ ⟨hk, hk2, hv, hvr⟩
  dsimp only at hk hk2 hv hvr ⊢
  conv => whnf
  repeat' first
    | (refine br_dec (fun h0 => ?_) (fun h0 => ?_) <;> (conv => whnf))
    | (refine br_intro (fun hb => ?_) (fun hb => ?_) <;> ((try rw [hb]); (conv => whnf); (try simp at hb)))
    | (refine call_x2 (PureX.rng (r15_Apply_s p v (at_ ops k) (40000000 * k) hp hv (by omega)) (fun _ => rfl) ?_) (LeL.refl _) ?_; (intro a ha; simp only [List.mem_cons, List.mem_nil_iff, or_false] at ha; rcases ha with rfl | rfl | rfl; exact ⟨dta_encPol _, hpr, rfl⟩; exact ⟨dta_encStt _, hvr, rfl⟩; exact ⟨dta_encOpn _, rng_at hop (by omega), rfl⟩); (rintro _ - ⟨⟨s', e, xs, rfl, hs⟩, hr⟩); (conv => whnf))
    | (refine ⟨(k + 1, s'), ⟨by (show k + 1 ≤ _); omega, by (show k + 1 ≤ _); omega, hs.mono (by omega), hr.1⟩, (by show ops.length - (k + 1) < ops.length - k; omega), (le_st (le_r rfl) (leE_i rfl (inc_id (m := ops.length) (by omega) hln) (leE_eq rfl (bnd_nf _ (nfL_Opn _ _)) (leE_i rfl rfl (leE_ptr rfl rfl (leE_ptr rfl rfl (leE_ptr rfl rfl trivial)))))) (leO_box (lt_r rfl) rfl (LeA.refl _) (bnd_nf _ (nf_encPol _)) (leO_box (lt_r rfl) rfl (LeA.refl _) (bnd_nf _ (nf_zStt)) (leO_box (lt_r rfl) rfl (LeA.refl _) (bnd_nf _ (nf_encStt _)) trivial))) gl0n)⟩)
    | (refine fin_r (encStt v) (nf_encStt _) ⟨v, rfl, hv.mono (by omega), hvr⟩ ?_; (conv => whnf); exact Le.refl _)
    | (refine And.intro (by first | omega | rfl | (simp only [List.length_cons, List.length_nil]; omega) | (rw [wrap_id (by unfold in64; omega)]; omega)) ?_; (conv => whnf))
    | (refine fin_e ?_; (conv => whnf); first | exact ⟨by simp [packA, consL, nf], _, rfl⟩ | exact ⟨by simp [packA, consL, nf], _, _, rfl⟩ | exact ⟨by simp [packA, consL, nf], _, _, _, rfl⟩)

theorem leA_twinLn {l : Ln} {t : Nat} {h : Nat → AV} (hh : ∀ i, i < l.plan.length → LeA (h i) (encIns (at_ l.plan i))) : LeA (.st (.cons (I l.id) (.cons (encTrm l.terms) (.cons (.lst (some t) l.plan.length 4 h) (.cons (encBk l.book) (.cons (encCse l.case) (.cons (I l.day) (.cons (I l.carry) (.cons (I l.applied) (.cons (encPrt l.last) (.cons (B l.hasLast) (.cons (I l.chargedOff) (.cons (I l.trace) .nil))))))))))))) (encLn l) :=
  LeA.st (LeA.cons (LeA.refl _) (LeA.cons (LeA.refl _) (LeA.cons (LeA.lst (.inr rfl) hh) (LeA.refl _))))

theorem l21_twin_s (s : Stt) (h : okS 20000000000 s) : Pure Tryz.prog gl0 l21_twin [encStt s] (encStt s) := by
  refine pure_fn mixed fn_l21_twin nt_l21_twin hc_l21_twin (by simp) gl0n (by simp [nf, nf_I, nf_encBk, nf_encIns, nf_encTrm, nf_encCse, nf_encPrt, nf_encNtc, nf_encEty, nf_encOwd, nf_encPsn, nf_encEvt, nf_encDte, nf_encLn, nf_encPol, nf_encOtc, nf_encStt, nf_encOpn, nf_encWrk, nfL_I, nfL_Ins, nfL_Ntc, nfL_Ety, nfL_Ln, nfL_Opn, nfL_Bk]) (by simp [nf, nf_I, nf_encBk, nf_encIns, nf_encTrm, nf_encCse, nf_encPrt, nf_encNtc, nf_encEty, nf_encOwd, nf_encPsn, nf_encEvt, nf_encDte, nf_encLn, nf_encPol, nf_encOtc, nf_encStt, nf_encOpn, nf_encWrk, nfL_I, nfL_Ins, nfL_Ntc, nfL_Ety, nfL_Ln, nfL_Opn, nfL_Bk]) ?_
  conv => whnf
  have hsn := h.n
  have hsb := h.b
  repeat' first
    | (refine br_dec (fun h0 => ?_) (fun h0 => ?_) <;> (conv => whnf))
    | (refine br_intro (fun hb => ?_) (fun hb => ?_) <;> ((try rw [hb]); (conv => whnf); (try simp at hb)))
    | (exact True.elim trivial)
    | (refine And.intro (by first | omega | rfl | (simp only [List.length_cons, List.length_nil]; omega) | (rw [wrap_id (by unfold in64; omega)]; omega)) ?_; (conv => whnf))
    | (refine fin_e ?_; (conv => whnf); first | exact ⟨by simp [packA, consL, nf], _, rfl⟩ | exact ⟨by simp [packA, consL, nf], _, _, rfl⟩ | exact ⟨by simp [packA, consL, nf], _, _, _, rfl⟩)
  refine loop_at mixed (fun (k : Nat) => ([(4, I k), (3, encT (some 2) encLn 46 (s.loans.take k)), (1, .ptr 0 []), (2, .ptr 1 [])], [(0, .box (encStt s)), (1, .box zStt), (2, .room (s.loans.take k).length 46 58)], 3)) (fun k => k ≤ s.loans.length) (fun k => s.loans.length - k) 0 (Nat.zero_le _) ((le_nil 3 46 58 (fun i => encLn (at_ (s.loans.take 0) i)) rfl).trans (le_st (le_r rfl) (leE_i rfl rfl (leE_eq rfl (bnd_encT nf_encLn (lt_r rfl)) (leE_ptr rfl rfl (leE_ptr rfl rfl trivial)))) (leO_box (lt_r rfl) rfl (LeA.refl _) (bnd_nf _ (nf_encStt _)) (leO_box (lt_r rfl) rfl (LeA.refl _) (bnd_nf _ (nf_zStt)) (leO_room (lt_r rfl) rfl trivial))) gl0n)) ?_
  intro k hk
  conv => whnf
  have hn : (s.loans.length : Int) < 9223372036854775808 := by omega
  by_cases c : k < s.loans.length
  · refine br_true (decide_eq_true ((by omega : (k : Int) < s.loans.length))) ?_
    conv => whnf
    have ht : (s.loans.take k).length = k := by rw [List.length_take]; omega
    have hpl := h.at_ c
    refine ⟨by omega, ?_⟩
    conv => whnf
    refine ⟨by rw [show (k : Int).toNat = k from rfl]; omega, ?_⟩
    conv => whnf
    refine ⟨rfl, (by rw [ht]; (show (k + 1) * 384 ≤ _); omega), ?_⟩
    conv => whnf
    refine ⟨k + 1, c, (by show s.loans.length - (k + 1) < s.loans.length - k; omega), ?_⟩
    refine (le_st (le_r rfl) (leE_i rfl (inc_id c hn) (leE_le rfl ?_ (bnd_encT nf_encLn (lt_r rfl)) (leE_ptr rfl rfl (leE_ptr rfl rfl trivial)))) (leO_box (lt_r rfl) rfl (LeA.refl _) (bnd_nf _ (nf_encStt _)) (leO_box (lt_r rfl) rfl (LeA.refl _) (bnd_nf _ nf_zStt) (leO_room (lt_r rfl) ?_ trivial))) gl0n)
    · rw [take_at c]
      exact (leA_snoc (enc := encLn) (leA_twinLn fun i hi => LeA.refl _)).le
    · rw [take_at c, List.length_append]
      rfl
  · refine br_false (decide_eq_false ((by omega : ¬ ((k : Int) < s.loans.length)))) ?_
    conv => whnf
    obtain rfl : k = s.loans.length := by omega
    refine ⟨by omega, ?_⟩
    conv => whnf
    rw [List.take_length]
    exact (LeA.st (LeA.cons (LeA.refl _) (LeA.cons leA_drop (LeA.cons leA_drop (LeA.refl _))))).le

end Go.Proofs.YtjkmmcbfcglkdaaGreat
namespace Go.Proofs.YtjkmmcbfcglkdaaGreat
open Go Ar
set_option linter.unusedVariables false
set_option autoImplicit false
set_option maxHeartbeats 4000000
set_option maxRecDepth 100000

theorem nee {α : Type} [DecidableEq α] (x : α) : decide (x ≠ x) = false := decide_eq_false (fun h => h rfl)

theorem l21_still_s (s : Stt) (h : okS 20000000000 s) : Pure Tryz.prog gl0 l21_still [encStt s, encStt s] (B true) := by
  refine pure_fn mixed fn_l21_still nt_l21_still hc_l21_still (by simp) gl0n (by simp [nf, nf_I, nf_encBk, nf_encIns, nf_encTrm, nf_encCse, nf_encPrt, nf_encNtc, nf_encEty, nf_encOwd, nf_encPsn, nf_encEvt, nf_encDte, nf_encLn, nf_encPol, nf_encOtc, nf_encStt, nf_encOpn, nf_encWrk, nfL_I, nfL_Ins, nfL_Ntc, nfL_Ety, nfL_Ln, nfL_Opn, nfL_Bk]) (by simp [nf, nf_I, nf_encBk, nf_encIns, nf_encTrm, nf_encCse, nf_encPrt, nf_encNtc, nf_encEty, nf_encOwd, nf_encPsn, nf_encEvt, nf_encDte, nf_encLn, nf_encPol, nf_encOtc, nf_encStt, nf_encOpn, nf_encWrk, nfL_I, nfL_Ins, nfL_Ntc, nfL_Ety, nfL_Ln, nfL_Opn, nfL_Bk]) ?_
  conv => whnf
  have hsn := h.n
  have hsb := h.b
  repeat' first
    | (refine br_false (nee _) ?_; (conv => whnf))
    | (refine br_false (congrArg (eqSn true) (eqS_refl _ _)) ?_; (conv => whnf))
  refine loop_at mixed (fun (k : Nat) => ([(5, I k), (2, .ptr 0 []), (3, .ptr 1 [])], [(0, .box (encStt s)), (1, .box (encStt s))], 2)) (fun k => k ≤ s.loans.length) (fun k => s.loans.length - k) 0 (Nat.zero_le _) (le_st (le_r rfl) (leE_i rfl rfl (leE_ptr rfl rfl (leE_ptr rfl rfl trivial))) (leO_box (lt_r rfl) rfl (LeA.refl _) (bnd_nf _ (nf_encStt _)) (leO_box (lt_r rfl) rfl (LeA.refl _) (bnd_nf _ (nf_encStt _)) trivial)) gl0n) ?_
  intro k hk
  conv => whnf
  have hn : (s.loans.length : Int) < 9223372036854775808 := by omega
  by_cases c : k < s.loans.length
  · refine br_true (decide_eq_true ((by omega : (k : Int) < s.loans.length))) ?_
    conv => whnf
    have hpl := h.at_ c
    repeat' first
      | (refine br_false (nee _) ?_; (conv => whnf))
      | (refine br_false (congrArg (eqSn true) (eqS_refl _ _)) ?_; (conv => whnf))
      | (refine br_false (b := !(_ == _)) (by rw [beq_self_eq_true]; rfl) ?_; (conv => whnf))
      | (refine And.intro (by omega) ?_; (conv => whnf))
    refine loop_at mixed (fun (j : Nat) => ([(8, I j), (5, I k), (2, .ptr 0 []), (3, .ptr 1 []), (6, .ptr 2 []), (7, .ptr 3 [])], [(0, .box (encStt s)), (1, .box (encStt s)), (2, .box (encLn (at_ s.loans k))), (3, .box (encLn (at_ s.loans k)))], 4)) (fun j => j ≤ (at_ s.loans k).plan.length) (fun j => (at_ s.loans k).plan.length - j) 0 (Nat.zero_le _) (le_st (le_r rfl) (leE_i rfl rfl (leE_i rfl rfl (leE_ptr rfl rfl (leE_ptr rfl rfl (leE_ptr rfl rfl (leE_ptr rfl rfl trivial)))))) (leO_box (lt_r rfl) rfl (LeA.refl _) (bnd_nf _ (nf_encStt _)) (leO_box (lt_r rfl) rfl (LeA.refl _) (bnd_nf _ (nf_encStt _)) (leO_box (lt_r rfl) rfl (LeA.refl _) (bnd_nf _ (nf_encLn _)) (leO_box (lt_r rfl) rfl (LeA.refl _) (bnd_nf _ (nf_encLn _)) trivial)))) gl0n) ?_
    intro j hj
    conv => whnf
    have hn2 : ((at_ s.loans k).plan.length : Int) < 9223372036854775808 := by omega
    by_cases c2 : j < (at_ s.loans k).plan.length
    · refine br_true (decide_eq_true ((by omega : (j : Int) < (at_ s.loans k).plan.length))) ?_
      conv => whnf
      repeat' first
        | (refine br_false (congrArg (eqSn true) (eqS_refl _ _)) ?_; (conv => whnf))
        | (refine And.intro (by omega) ?_; (conv => whnf))
      exact ⟨j + 1, c2, (by show (at_ s.loans k).plan.length - (j + 1) < (at_ s.loans k).plan.length - j; omega), (le_st (le_r rfl) (leE_i rfl (inc_id c2 hn2) (leE_i rfl rfl (leE_ptr rfl rfl (leE_ptr rfl rfl (leE_ptr rfl rfl (leE_ptr rfl rfl trivial)))))) (leO_box (lt_r rfl) rfl (LeA.refl _) (bnd_nf _ (nf_encStt _)) (leO_box (lt_r rfl) rfl (LeA.refl _) (bnd_nf _ (nf_encStt _)) (leO_box (lt_r rfl) rfl (LeA.refl _) (bnd_nf _ (nf_encLn _)) (leO_box (lt_r rfl) rfl (LeA.refl _) (bnd_nf _ (nf_encLn _)) trivial)))) gl0n)⟩
    · refine br_false (decide_eq_false ((by omega : ¬ ((j : Int) < (at_ s.loans k).plan.length)))) ?_
      conv => whnf
      exact ⟨k + 1, c, (by show s.loans.length - (k + 1) < s.loans.length - k; omega), (le_st (le_r rfl) (leE_i rfl (inc_id c hn) (leE_ptr rfl rfl (leE_ptr rfl rfl trivial))) (leO_box (lt_r rfl) rfl (LeA.refl _) (bnd_nf _ (nf_encStt _)) (leO_box (lt_r rfl) rfl (LeA.refl _) (bnd_nf _ (nf_encStt _)) trivial)) gl0n)⟩
  · refine br_false (decide_eq_false ((by omega : ¬ ((k : Int) < s.loans.length)))) ?_
    conv => whnf
    refine loop_at mixed (fun (k : Nat) => ([(9, I k), (2, .ptr 0 []), (3, .ptr 1 [])], [(0, .box (encStt s)), (1, .box (encStt s))], 2)) (fun k => k ≤ s.notices.length) (fun k => s.notices.length - k) 0 (Nat.zero_le _) (le_st (le_r rfl) (leE_i rfl rfl (leE_ptr rfl rfl (leE_ptr rfl rfl trivial))) (leO_box (lt_r rfl) rfl (LeA.refl _) (bnd_nf _ (nf_encStt _)) (leO_box (lt_r rfl) rfl (LeA.refl _) (bnd_nf _ (nf_encStt _)) trivial)) gl0n) ?_
    intro j hj
    conv => whnf
    have hn2 : (s.notices.length : Int) < 9223372036854775808 := by omega
    by_cases c2 : j < s.notices.length
    · refine br_true (decide_eq_true ((by omega : (j : Int) < s.notices.length))) ?_
      conv => whnf
      repeat' first
        | (refine br_false (congrArg (eqSn true) (eqS_refl _ _)) ?_; (conv => whnf))
        | (refine And.intro (by omega) ?_; (conv => whnf))
      exact ⟨j + 1, c2, (by show s.notices.length - (j + 1) < s.notices.length - j; omega), (le_st (le_r rfl) (leE_i rfl (inc_id c2 hn2) (leE_ptr rfl rfl (leE_ptr rfl rfl trivial))) (leO_box (lt_r rfl) rfl (LeA.refl _) (bnd_nf _ (nf_encStt _)) (leO_box (lt_r rfl) rfl (LeA.refl _) (bnd_nf _ (nf_encStt _)) trivial)) gl0n)⟩
    · refine br_false (decide_eq_false ((by omega : ¬ ((j : Int) < s.notices.length)))) ?_
      conv => whnf
      exact Le.refl _

end Go.Proofs.YtjkmmcbfcglkdaaGreat
namespace Go.Proofs.YtjkmmcbfcglkdaaGreat
open Go Ar
set_option linter.unusedVariables false
set_option autoImplicit false
set_option maxHeartbeats 4000000
set_option maxRecDepth 100000

theorem r1_high_x (x : Int) : Pure Tryz.prog gl0 r1_high [I x] (I (x / 4294967296)) := by
  refine pure_fn mixed fn_r1_high nt_r1_high hc_r1_high (by simp) gl0n (by simp [nf, nf_I, nf_encBk, nf_encIns, nf_encTrm, nf_encCse, nf_encPrt, nf_encNtc, nf_encEty, nf_encOwd, nf_encPsn, nf_encEvt, nf_encDte, nf_encLn, nf_encPol, nf_encOtc, nf_encStt, nf_encOpn, nf_encWrk, nfL_I, nfL_Ins, nfL_Ntc, nfL_Ety, nfL_Ln, nfL_Opn, nfL_Bk]) (by simp [nf, nf_I, nf_encBk, nf_encIns, nf_encTrm, nf_encCse, nf_encPrt, nf_encNtc, nf_encEty, nf_encOwd, nf_encPsn, nf_encEvt, nf_encDte, nf_encLn, nf_encPol, nf_encOtc, nf_encStt, nf_encOpn, nf_encWrk, nfL_I, nfL_Ins, nfL_Ntc, nfL_Ety, nfL_Ln, nfL_Opn, nfL_Bk]) ?_
  conv => whnf
  refine ⟨by omega, ?_⟩
  conv => whnf
  refine Le.of_eq ?_
  have : (2 : Int) ^ min (Int.toNat 32) IntKind.i64.bits = 4294967296 := by decide
  show I (x.fdiv (2 ^ min (Int.toNat 32) IntKind.i64.bits)) = _
  rw [this, Int.fdiv_eq_ediv_of_nonneg _ (by omega)]

theorem r1_low_x (x : Int) (hx : in64 x) : Pure Tryz.prog gl0 r1_lowOf [I x] (I (x % 4294967296)) := by
  refine pure_fn mixed fn_r1_lowOf nt_r1_lowOf hc_r1_lowOf (by simp) gl0n (by simp [nf, nf_I, nf_encBk, nf_encIns, nf_encTrm, nf_encCse, nf_encPrt, nf_encNtc, nf_encEty, nf_encOwd, nf_encPsn, nf_encEvt, nf_encDte, nf_encLn, nf_encPol, nf_encOtc, nf_encStt, nf_encOpn, nf_encWrk, nfL_I, nfL_Ins, nfL_Ntc, nfL_Ety, nfL_Ln, nfL_Opn, nfL_Bk]) (by simp [nf, nf_I, nf_encBk, nf_encIns, nf_encTrm, nf_encCse, nf_encPrt, nf_encNtc, nf_encEty, nf_encOwd, nf_encPsn, nf_encEvt, nf_encDte, nf_encLn, nf_encPol, nf_encOtc, nf_encStt, nf_encOpn, nf_encWrk, nfL_I, nfL_Ins, nfL_Ntc, nfL_Ety, nfL_Ln, nfL_Opn, nfL_Bk]) ?_
  conv => whnf
  refine call_pure (r1_high_x x) (LeL.refl _) ?_
  conv => whnf
  refine Le.of_eq ?_
  obtain ⟨h1, h2⟩ := hx
  show I (IntKind.i64.wrap (x - IntKind.i64.wrap (x / 4294967296 * 4294967296))) = _
  rw [wrap_id (n := x / 4294967296 * 4294967296) (by unfold in64; omega), wrap_id (by unfold in64; omega)]
  congr 2
  omega

instance (n : Int) : Decidable (in64 n) := by unfold in64; infer_instance

abbrev sumV (S : Int) : AV := tup2 (I (if in64 S then S else 0)) (B (decide (in64 S)))
theorem sumV_yes {S : Int} (h : in64 S) : sumV S = tup2 (I S) (B true) := by unfold sumV; rw [if_pos h, decide_eq_true h]
theorem sumV_no {S : Int} (h : ¬ in64 S) : sumV S = tup2 (I 0) (B false) := by unfold sumV; rw [if_neg h, decide_eq_false h]

theorem r1_joined_x (h l : Int) (hh : -4611686018427387904 ≤ h ∧ h ≤ 4611686018427387904) (hl : 0 ≤ l ∧ l ≤ 4611686018427387904) : Pure Tryz.prog gl0 r1_joined [I h, I l] (sumV (h * 4294967296 + l)) := by
  refine pure_fn mixed fn_r1_joined nt_r1_joined hc_r1_joined (by simp) gl0n (by simp [nf, nf_I, nf_encBk, nf_encIns, nf_encTrm, nf_encCse, nf_encPrt, nf_encNtc, nf_encEty, nf_encOwd, nf_encPsn, nf_encEvt, nf_encDte, nf_encLn, nf_encPol, nf_encOtc, nf_encStt, nf_encOpn, nf_encWrk, nfL_I, nfL_Ins, nfL_Ntc, nfL_Ety, nfL_Ln, nfL_Opn, nfL_Bk]) (by simp [nf, nf_I, nf_encBk, nf_encIns, nf_encTrm, nf_encCse, nf_encPrt, nf_encNtc, nf_encEty, nf_encOwd, nf_encPsn, nf_encEvt, nf_encDte, nf_encLn, nf_encPol, nf_encOtc, nf_encStt, nf_encOpn, nf_encWrk, nfL_I, nfL_Ins, nfL_Ntc, nfL_Ety, nfL_Ln, nfL_Opn, nfL_Bk]) ?_
  conv => whnf
  have e2 : (2 : Int) ^ min (Int.toNat 32) IntKind.i64.bits = 4294967296 := by decide
  have e3 : l.fdiv (2 ^ min (Int.toNat 32) IntKind.i64.bits) = l / 4294967296 := by rw [e2, Int.fdiv_eq_ediv_of_nonneg _ (by omega)]
  have e4 : IntKind.i64.wrap (h + l / 4294967296) = h + l / 4294967296 := wrap_id (by unfold in64; omega)
  have e5 : IntKind.i64.wrap (l - IntKind.i64.wrap (l / 4294967296 * 4294967296)) = l % 4294967296 := by
    rw [wrap_id (n := l / 4294967296 * 4294967296) (by unfold in64; omega), wrap_id (by unfold in64; omega)]; omega
  refine ⟨by omega, ?_⟩
  conv => whnf
  have q1 : (decide (IntKind.i64.wrap (h + l.fdiv (2 ^ min (Int.toNat 32) IntKind.i64.bits)) < -2147483648)) = decide (h + l / 4294967296 < -2147483648) := by rw [e3, e4]
  have q2 : (decide (IntKind.i64.wrap (h + l.fdiv (2 ^ min (Int.toNat 32) IntKind.i64.bits)) > 2147483647)) = decide (h + l / 4294967296 > 2147483647) := by rw [e3, e4]
  conv => whnf
  rw [q1]
  by_cases c1 : h + l / 4294967296 < -2147483648
  · rw [decide_eq_true c1]
    conv => whnf
    have : ¬ in64 (h * 4294967296 + l) := by unfold in64; omega
    refine Le.of_eq ?_
    rw [sumV_no this]
    rfl
  · rw [decide_eq_false c1]
    conv => whnf
    rw [q2]
    by_cases c2 : h + l / 4294967296 > 2147483647
    · rw [decide_eq_true c2]
      conv => whnf
      have : ¬ in64 (h * 4294967296 + l) := by unfold in64; omega
      refine Le.of_eq ?_
      rw [sumV_no this]
      rfl
    · rw [decide_eq_false c2]
      conv => whnf
      have hin : in64 (h * 4294967296 + l) := by unfold in64; omega
      refine Le.of_eq ?_
      rw [sumV_yes hin]
      have e6 : IntKind.i64.wrap (IntKind.i64.wrap (IntKind.i64.wrap (h + l.fdiv (2 ^ min (Int.toNat 32) IntKind.i64.bits)) * 4294967296) + IntKind.i64.wrap (l - IntKind.i64.wrap (l.fdiv (2 ^ min (Int.toNat 32) IntKind.i64.bits) * 4294967296))) = h * 4294967296 + l := by
        rw [e3, e4, e5, wrap_id (n := (h + l / 4294967296) * 4294967296) (by unfold in64; omega), wrap_id (by unfold in64; omega)]
        omega
      show AV.tup (.cons (I (IntKind.i64.wrap (IntKind.i64.wrap (IntKind.i64.wrap (h + l.fdiv (2 ^ min (Int.toNat 32) IntKind.i64.bits)) * 4294967296) + IntKind.i64.wrap (l - IntKind.i64.wrap (l.fdiv (2 ^ min (Int.toNat 32) IntKind.i64.bits) * 4294967296))))) _) = _
      rw [e6]
      rfl

/-! Sums of a list, by halves. -/
def sumH (xs : List Int) : Int := (xs.map (· / 4294967296)).sum
def sumL (xs : List Int) : Int := (xs.map (· % 4294967296)).sum

theorem sum_halves (xs : List Int) : sumH xs * 4294967296 + sumL xs = xs.sum := by
  induction xs with
  | nil => rfl
  | cons a r ih => simp only [sumH, sumL, List.map_cons, List.sum_cons] at *; omega

theorem sum_bounds (xs : List Int) (h : ∀ x ∈ xs, in64 x) : -2147483648 * (xs.length : Int) ≤ sumH xs ∧ sumH xs ≤ 2147483647 * (xs.length : Int) ∧ 0 ≤ sumL xs ∧ sumL xs ≤ 4294967295 * (xs.length : Int) := by
  induction xs with
  | nil => simp [sumH, sumL]
  | cons a r ih =>
    have ih := ih (fun x hx => h x (List.mem_cons_of_mem _ hx))
    have ha := h a (List.mem_cons_self ..)
    obtain ⟨h1, h2⟩ := ha
    simp only [sumH, sumL, List.map_cons, List.sum_cons, List.length_cons] at *
    omega

theorem sumH_snoc (xs : List Int) (x : Int) : sumH (xs ++ [x]) = sumH xs + x / 4294967296 := by simp [sumH]
theorem sumL_snoc (xs : List Int) (x : Int) : sumL (xs ++ [x]) = sumL xs + x % 4294967296 := by simp [sumL]

theorem r1_Sum_x (xs : List Int) (h : ∀ x ∈ xs, in64 x) (hn : xs.length ≤ 500000000) : Pure Tryz.prog gl0 r1_Sum [encL I 1 xs] (sumV xs.sum) := by
  refine pure_fn mixed fn_r1_Sum nt_r1_Sum hc_r1_Sum (by simp) gl0n (by simp [nf, nf_I, nf_encBk, nf_encIns, nf_encTrm, nf_encCse, nf_encPrt, nf_encNtc, nf_encEty, nf_encOwd, nf_encPsn, nf_encEvt, nf_encDte, nf_encLn, nf_encPol, nf_encOtc, nf_encStt, nf_encOpn, nf_encWrk, nfL_I, nfL_Ins, nfL_Ntc, nfL_Ety, nfL_Ln, nfL_Opn, nfL_Bk]) (by simp [nf, nf_I, nf_encBk, nf_encIns, nf_encTrm, nf_encCse, nf_encPrt, nf_encNtc, nf_encEty, nf_encOwd, nf_encPsn, nf_encEvt, nf_encDte, nf_encLn, nf_encPol, nf_encOtc, nf_encStt, nf_encOpn, nf_encWrk, nfL_I, nfL_Ins, nfL_Ntc, nfL_Ety, nfL_Ln, nfL_Opn, nfL_Bk]) ?_
  conv => whnf
  refine loop_at mixed (fun (k : Nat) => ([(6, I k), (4, I (sumH (xs.take k))), (5, I (sumL (xs.take k))), (0, encL I 1 xs)], [], 0)) (fun k => k ≤ xs.length) (fun k => xs.length - k) 0 (Nat.zero_le _) (le_st (le_r rfl) (leE_i rfl rfl (leE_i rfl rfl (leE_i rfl rfl (leE_eq rfl (bnd_nf _ (nfL_I _ _)) trivial)))) trivial gl0n) ?_
  intro k hk
  conv => whnf
  have hn2 : (xs.length : Int) < 9223372036854775808 := by omega
  by_cases c : k < xs.length
  · refine br_true (decide_eq_true ((by omega : (k : Int) < xs.length))) ?_
    conv => whnf
    refine ⟨by omega, ?_⟩
    conv => whnf
    have hx := h _ (at_mem c)
    refine call_pure (r1_high_x (at_ xs k)) ⟨Le.refl _, trivial⟩ ?_
    conv => whnf
    refine ⟨by omega, ?_⟩
    conv => whnf
    refine call_pure (r1_low_x (at_ xs k) hx) ⟨Le.refl _, trivial⟩ ?_
    conv => whnf
    have b1 := sum_bounds (xs.take (k + 1)) (fun x hm => h x (List.mem_of_mem_take hm))
    have b2 : (xs.take (k + 1)).length ≤ 500000000 := by rw [List.length_take]; omega
    rw [take_at c, sumH_snoc, sumL_snoc] at b1
    rw [take_at c] at b2
    refine ⟨k + 1, c, (by show xs.length - (k + 1) < xs.length - k; omega), (le_st (le_r rfl) (leE_i rfl (inc_id c hn2) (leE_i rfl ?_ (leE_i rfl ?_ (leE_eq rfl (bnd_nf _ (nfL_I _ _)) trivial)))) trivial gl0n)⟩
    · show IntKind.i64.wrap (sumH (xs.take k) + at_ xs k / 4294967296) = _
      rw [wrap_id (by unfold in64; omega), take_at c, sumH_snoc]
    · show IntKind.i64.wrap (sumL (xs.take k) + at_ xs k % 4294967296) = _
      rw [wrap_id (by unfold in64; omega), take_at c, sumL_snoc]
  · obtain rfl : k = xs.length := by omega
    refine br_false (decide_eq_false ((by omega : ¬ ((xs.length : Int) < xs.length)))) ?_
    conv => whnf
    have hb := sum_bounds xs h
    refine call_pure (r1_joined_x _ _ (by rw [List.take_length]; omega) (by rw [List.take_length]; omega)) (LeL.refl _) ?_
    rw [List.take_length, sum_halves]
    conv => whnf
    exact Le.refl _

/-! Numbers of 128 bits with a sign. -/
abbrev Wd (S : Int) : AV := .st (.cons (I (S / 18446744073709551616)) (.cons (U (S % 18446744073709551616)) .nil))
def in128 (S : Int) : Prop := -170141183460469231731687303715884105728 ≤ S ∧ S ≤ 170141183460469231731687303715884105727
theorem nf_Wd (S : Int) : nf (Wd S) := ⟨trivial, trivial, trivial⟩

theorem wd_eq {h l h' l' : Int} (a : h = h') (b : l = l') : (.st (.cons (I h) (.cons (U l) .nil)) : AV) = .st (.cons (I h') (.cons (U l') .nil)) := by rw [a, b]

theorem shr63i {x : Int} (hx : in64 x) : x.fdiv (2 ^ min (Int.toNat 63) IntKind.i64.bits) = if x < 0 then -1 else 0 := by
  obtain ⟨h1, h2⟩ := hx
  have : (2 : Int) ^ min (Int.toNat 63) IntKind.i64.bits = 9223372036854775808 := by decide
  rw [this, Int.fdiv_eq_ediv_of_nonneg _ (by omega)]
  split <;> omega

theorem xpure_sub64 {P : Program} {f : FuncId} {fn : Func} (hf : P.funcs[f]? = some fn) (hname : (fn.name == "runtime.NumGoroutine") = false) (hb : fn.body.isNone = true) (hn : Extern.findNext fn = none) (he : Extern.find fn = some sub64Entry)
    {x y c : Int} (hx : 0 ≤ x) (hy : 0 ≤ y) (hc0 : 0 ≤ c) (hc : c ≤ 1) :
    XPure P f [U x, U y, U c] (tup2 (U ((x - y - c) % 18446744073709551616)) (U (if x < y + c then 1 else 0))) := by
  intro g w cargs hr
  match cargs, hr with
  | [a, b, d], hr =>
    obtain ⟨h1, h2, h3, _⟩ := hr
    have r1 := okI_u64.1 (int_ok h1)
    have r2 := okI_u64.1 (int_ok h2)
    rw [val_v h1, val_v h2, val_v h3]
    obtain ⟨x, rfl⟩ := Int.eq_ofNat_of_zero_le hx
    obtain ⟨y, rfl⟩ := Int.eq_ofNat_of_zero_le hy
    obtain ⟨c, rfl⟩ := Int.eq_ofNat_of_zero_le hc0
    refine ⟨_, by rw [run_callFunc_extern hf hname hb hn he, run_sub64 x y c (by omega)]; rfl, ?_⟩
    unfold inU64 at r1 r2
    have e1 : (((x + 18446744073709551616 - y - c) % 18446744073709551616 : Nat) : Int) = ((x : Int) - y - c) % 18446744073709551616 := by omega
    have e2 : ((if x < y + c then 1 else 0 : Nat) : Int) = if (x : Int) < y + c then 1 else 0 := by split <;> split <;> omega
    exact ⟨_, rfl, ⟨congrArg (Value.int .u64) e1, okI_u64.2 (by unfold inU64; omega)⟩, ⟨congrArg (Value.int .u64) e2, okI_u64.2 (by unfold inU64; split <;> omega)⟩, rfl⟩
  | [], hr => exact hr.elim
  | [_], hr => exact hr.2.elim
  | [_, _], hr => exact hr.2.2.elim

theorem Wd_hi {S : Int} (h : in128 S) : in64 (S / 18446744073709551616) := by unfold in128 at h; unfold in64; omega

theorem add64_x {x y : Int} (hx : 0 ≤ x) (hy : 0 ≤ y) : XPure Tryz.prog 35 [U x, U y, U 0] (tup2 (U ((x + y + 0) % 18446744073709551616)) (U ((x + y + 0) / 18446744073709551616))) :=
  xpure_add64 Tryz.func35 (by kernel_rfl) (by kernel_rfl) (by kernel_rfl) (by kernel_rfl) hx hy (by omega) (by omega)
theorem sub64_x {x y : Int} (hx : 0 ≤ x) (hy : 0 ≤ y) : XPure Tryz.prog 36 [U x, U y, U 0] (tup2 (U ((x - y - 0) % 18446744073709551616)) (U (if x < y + 0 then 1 else 0))) :=
  xpure_sub64 Tryz.func36 (by kernel_rfl) (by kernel_rfl) (by kernel_rfl) (by kernel_rfl) hx hy (by omega) (by omega)

theorem wide_plus_x (S x : Int) (hx : in64 x) (hS : in128 S) (hT : in128 (S + x)) : Pure Tryz.prog gl0 ledger_wide_plus [Wd S, I x] (Wd (S + x)) := by
  refine pure_fn mixed fn_ledger_wide_plus nt_ledger_wide_plus hc_ledger_wide_plus (by simp) gl0n (by simp [nf, nf_I, nf_encBk, nf_encIns, nf_encTrm, nf_encCse, nf_encPrt, nf_encNtc, nf_encEty, nf_encOwd, nf_encPsn, nf_encEvt, nf_encDte, nf_encLn, nf_encPol, nf_encOtc, nf_encStt, nf_encOpn, nf_encWrk, nfL_I, nfL_Ins, nfL_Ntc, nfL_Ety, nfL_Ln, nfL_Opn, nfL_Bk]) (by simp [nf, nf_I, nf_encBk, nf_encIns, nf_encTrm, nf_encCse, nf_encPrt, nf_encNtc, nf_encEty, nf_encOwd, nf_encPsn, nf_encEvt, nf_encDte, nf_encLn, nf_encPol, nf_encOtc, nf_encStt, nf_encOpn, nf_encWrk, nfL_I, nfL_Ins, nfL_Ntc, nfL_Ety, nfL_Ln, nfL_Opn, nfL_Bk]) ?_
  conv => whnf
  have hu : IntKind.u64.wrap x = x % 18446744073709551616 := wrap_u64 x
  have hs := shr63i hx
  have h1 := Wd_hi hS
  have h2 := Wd_hi hT
  refine call_x (add64_x (by omega) (by omega)) ?_
  conv => whnf
  refine ⟨by omega, ?_⟩
  conv => whnf
  refine Le.of_eq (wd_eq ?_ ?_)
  · rw [hs, hu]
    have e : IntKind.i64.wrap ((S % 18446744073709551616 + x % 18446744073709551616 + 0) / 18446744073709551616) = (S % 18446744073709551616 + x % 18446744073709551616) / 18446744073709551616 := by
      rw [Int.add_zero]; exact wrap_id (by unfold in64; omega)
    unfold in128 in64 at *
    rw [e]
    have e3 : ∀ n : Int, -9223372036854775808 ≤ n → n ≤ 9223372036854775807 → IntKind.i64.wrap n = n := fun n h h' => wrap_id ⟨h, h'⟩
    have w1 : ∀ a b : Int, IntKind.i64.wrap (IntKind.i64.wrap a + b) = IntKind.i64.wrap (a + b) := by intro a b; simp only [wrap_i64]; split <;> split <;> split <;> omega
    rw [w1]
    have e2 : S / 18446744073709551616 + (if x < 0 then -1 else 0) + (S % 18446744073709551616 + x % 18446744073709551616) / 18446744073709551616 = (S + x) / 18446744073709551616 := by split <;> omega
    rw [e2]
    exact e3 _ h2.1 h2.2
  · rw [hu]; omega

theorem wide_minus_x (S x : Int) (hx : in64 x) (hS : in128 S) (hT : in128 (S - x)) : Pure Tryz.prog gl0 ledger_wide_minus [Wd S, I x] (Wd (S - x)) := by
  refine pure_fn mixed fn_ledger_wide_minus nt_ledger_wide_minus hc_ledger_wide_minus (by simp) gl0n (by simp [nf, nf_I, nf_encBk, nf_encIns, nf_encTrm, nf_encCse, nf_encPrt, nf_encNtc, nf_encEty, nf_encOwd, nf_encPsn, nf_encEvt, nf_encDte, nf_encLn, nf_encPol, nf_encOtc, nf_encStt, nf_encOpn, nf_encWrk, nfL_I, nfL_Ins, nfL_Ntc, nfL_Ety, nfL_Ln, nfL_Opn, nfL_Bk]) (by simp [nf, nf_I, nf_encBk, nf_encIns, nf_encTrm, nf_encCse, nf_encPrt, nf_encNtc, nf_encEty, nf_encOwd, nf_encPsn, nf_encEvt, nf_encDte, nf_encLn, nf_encPol, nf_encOtc, nf_encStt, nf_encOpn, nf_encWrk, nfL_I, nfL_Ins, nfL_Ntc, nfL_Ety, nfL_Ln, nfL_Opn, nfL_Bk]) ?_
  conv => whnf
  have hu : IntKind.u64.wrap x = x % 18446744073709551616 := wrap_u64 x
  have hs := shr63i hx
  have h1 := Wd_hi hS
  have h2 := Wd_hi hT
  refine call_x (sub64_x (by omega) (by omega)) ?_
  conv => whnf
  refine ⟨by omega, ?_⟩
  conv => whnf
  refine Le.of_eq (wd_eq ?_ ?_)
  · rw [hs, hu]
    have e : IntKind.i64.wrap (if S % 18446744073709551616 < x % 18446744073709551616 + 0 then 1 else 0) = if S % 18446744073709551616 < x % 18446744073709551616 then 1 else 0 := by
      rw [Int.add_zero]; exact wrap_id (by unfold in64; split <;> omega)
    unfold in128 in64 at *
    rw [e]
    have e3 : ∀ n : Int, -9223372036854775808 ≤ n → n ≤ 9223372036854775807 → IntKind.i64.wrap n = n := fun n h h' => wrap_id ⟨h, h'⟩
    have w1 : ∀ a b : Int, IntKind.i64.wrap (IntKind.i64.wrap a - b) = IntKind.i64.wrap (a - b) := by intro a b; simp only [wrap_i64]; split <;> split <;> split <;> omega
    rw [w1]
    have e2 : S / 18446744073709551616 - (if x < 0 then -1 else 0) - (if S % 18446744073709551616 < x % 18446744073709551616 then 1 else 0) = (S - x) / 18446744073709551616 := by split <;> split <;> omega
    rw [e2]
    exact e3 _ h2.1 h2.2
  · rw [hu]; omega

theorem wide_narrow_x (S : Int) (hS : in128 S) : Pure Tryz.prog gl0 ledger_wide_narrow [Wd S] (tup2 (I (IntKind.i64.wrap S)) (B (decide (in64 S)))) := by
  refine pure_fn mixed fn_ledger_wide_narrow nt_ledger_wide_narrow hc_ledger_wide_narrow (by simp) gl0n (by simp [nf, nf_I, nf_encBk, nf_encIns, nf_encTrm, nf_encCse, nf_encPrt, nf_encNtc, nf_encEty, nf_encOwd, nf_encPsn, nf_encEvt, nf_encDte, nf_encLn, nf_encPol, nf_encOtc, nf_encStt, nf_encOpn, nf_encWrk, nfL_I, nfL_Ins, nfL_Ntc, nfL_Ety, nfL_Ln, nfL_Opn, nfL_Bk]) (by simp [nf, nf_I, nf_encBk, nf_encIns, nf_encTrm, nf_encCse, nf_encPrt, nf_encNtc, nf_encEty, nf_encOwd, nf_encPsn, nf_encEvt, nf_encDte, nf_encLn, nf_encPol, nf_encOtc, nf_encStt, nf_encOpn, nf_encWrk, nfL_I, nfL_Ins, nfL_Ntc, nfL_Ety, nfL_Ln, nfL_Opn, nfL_Bk]) ?_
  conv => whnf
  have hs := shr63i (wrap_in (S % 18446744073709551616))
  have hw : IntKind.i64.wrap (S % 18446744073709551616) = IntKind.i64.wrap S := by simp only [wrap_i64]; split <;> split <;> omega
  have hd : decide (S / 18446744073709551616 = (IntKind.i64.wrap (S % 18446744073709551616)).fdiv (2 ^ min (Int.toNat 63) IntKind.i64.bits)) = decide (in64 S) := by
    rw [hs]
    congr 1
    unfold in64
    rw [hw, wrap_i64]
    apply propext
    split <;> split <;> omega
  refine ⟨by omega, ?_⟩
  conv => whnf
  rw [hd]
  by_cases c : in64 S
  · rw [decide_eq_true c, ← hw]
    conv => whnf
    exact Le.refl _
  · rw [decide_eq_false c, ← hw]
    conv => whnf
    exact Le.refl _

end Go.Proofs.YtjkmmcbfcglkdaaGreat
namespace Go.Proofs.YtjkmmcbfcglkdaaGreat
open Go Ar
set_option linter.unusedVariables false
set_option autoImplicit false
set_option maxHeartbeats 4000000
set_option maxRecDepth 100000

abbrev Net := Nat → Int
def okN (b : Net) : Prop := ∀ a, a < 12 → in64 (b a)
def tot (bs : List Net) (a : Nat) : Int := (bs.map fun b => b a).sum
def colN (bs : List Net) (a : Nat) : List Int := bs.map fun b => b a
def okT (bs : List Net) : Prop := ∀ a, a < 12 → in64 (tot bs a)
abbrev zN : Net := fun _ => 0

theorem tot_snoc (bs : List Net) (b : Net) (a : Nat) : tot (bs ++ [b]) a = tot bs a + b a := by simp [tot]

theorem tot_bound (bs : List Net) (h : ∀ b ∈ bs, okN b) (a : Nat) (ha : a < 12) : -9223372036854775808 * (bs.length : Int) ≤ tot bs a ∧ tot bs a ≤ 9223372036854775807 * (bs.length : Int) := by
  induction bs with
  | nil => simp [tot]
  | cons b r ih =>
    have ih := ih (fun x hx => h x (List.mem_cons_of_mem _ hx))
    obtain ⟨h1, h2⟩ := h b (List.mem_cons_self ..) a ha
    simp only [tot, List.map_cons, List.sum_cons, List.length_cons] at *
    omega

theorem okN_take {bs : List Net} (h : ∀ b ∈ bs, okN b) (k : Nat) : ∀ b ∈ bs.take k, okN b := fun b hb => h b (List.mem_of_mem_take hb)

structure TotIs (bs : List Net) (r : AV) : Prop where
  n : nf r
  yes : okT bs → r = tup2 (encBf (tot bs)) (B true)
  no : ¬ okT bs → r = tup2 (encBf zN) (B false)

theorem tot_is (bs : List Net) : ∃ r, TotIs bs r := by
  by_cases h : okT bs
  · exact ⟨tup2 (encBf (tot bs)) (B true), ⟨nf_encBf _, trivial, trivial⟩, fun _ => rfl, fun h' => absurd h h'⟩
  · exact ⟨tup2 (encBf zN) (B false), ⟨nf_encBf _, trivial, trivial⟩, fun h' => absurd h' h, fun _ => rfl⟩

theorem leA_Bf12 {f g : Net} (h : ∀ i, i < 12 → f i = g i) : LeA (.st (.cons (.arr 12 1 fun i => I (f i)) .nil)) (encBf g) :=
  LeA.st (LeA.cons (LeA.arr fun i hi => LeA.of_eq (by rw [h i hi])) (LeA.refl _))

theorem lTotal_x (bs : List Net) (h : ∀ b ∈ bs, okN b) (hl : bs.length ≤ 100000) (r : AV) (hr : TotIs bs r) : Pure Tryz.prog gl0 ledger_Total [encL encBf 12 bs] (r) := by
  refine pure_fn mixed fn_ledger_Total nt_ledger_Total hc_ledger_Total (by simp) gl0n (by simp [nf, nf_I, nf_encBk, nf_encIns, nf_encTrm, nf_encCse, nf_encPrt, nf_encNtc, nf_encEty, nf_encOwd, nf_encPsn, nf_encEvt, nf_encDte, nf_encLn, nf_encPol, nf_encOtc, nf_encStt, nf_encOpn, nf_encWrk, nfL_I, nfL_Ins, nfL_Ntc, nfL_Ety, nfL_Ln, nfL_Opn, nfL_Bk, nf_encBf, nfL_Bf]) (hr.n) ?_
  conv => whnf
  refine loop_at mixed (fun (a : Nat) => ([(11, I a), (0, encL encBf 12 bs), (2, .ptr 0 []), (4, .ptr 1 [])], [(0, .box (encBf zN)), (1, .box (encBf fun i => if i < a then tot bs i else 0))], 2)) (fun a => a ≤ 12 ∧ ∀ i, i < a → in64 (tot bs i)) (fun a => 12 - a) 0 ⟨Nat.zero_le _, fun a ha => absurd ha (Nat.not_lt_zero a)⟩ (le_st (le_r rfl) (leE_i rfl rfl (leE_eq rfl (bnd_nf _ (nfL_Bf _ _)) (leE_ptr rfl rfl (leE_ptr rfl rfl trivial)))) (leO_box (lt_r rfl) rfl (LeA.refl _) (bnd_nf _ (nf_encBf _)) (leO_box (lt_r rfl) rfl (LeA.refl _) (bnd_nf _ (nf_encBf _)) trivial)) gl0n) ?_
  intro a ⟨ha, hin⟩
  conv => whnf
  have hn : (bs.length : Int) < 9223372036854775808 := by omega
  have hn12 : ((12 : Nat) : Int) < 9223372036854775808 := by decide
  by_cases c : a < 12
  · refine br_true (decide_eq_true ((by omega : (a : Int) < 12))) ?_
    conv => whnf
    refine loop_at mixed (fun (k : Nat) => ([(16, I k), (15, I bs.length), (14, encL encBf 12 bs), (0, encL encBf 12 bs), (2, .ptr 0 []), (4, .ptr 1 []), (5, I a), (6, .ptr 2 []), (11, I a)], [(0, .box (encBf zN)), (1, .box (encBf fun i => if i < a then tot bs i else 0)), (2, .box (Wd (tot (bs.take k) a)))], 3)) (fun k => k ≤ bs.length) (fun k => bs.length - k) 0 (Nat.zero_le _) (le_st (le_r rfl) (leE_i rfl rfl (leE_i rfl rfl (leE_eq rfl (bnd_nf _ (nfL_Bf _ _)) (leE_eq rfl (bnd_nf _ (nfL_Bf _ _)) (leE_ptr rfl rfl (leE_ptr rfl rfl (leE_i rfl rfl (leE_ptr rfl rfl (leE_i rfl rfl trivial))))))))) (leO_box (lt_r rfl) rfl (LeA.refl _) (bnd_nf _ (nf_encBf _)) (leO_box (lt_r rfl) rfl (LeA.refl _) (bnd_nf _ (nf_encBf _)) (leO_box (lt_r rfl) rfl (LeA.refl _) (bnd_nf _ (nf_Wd _)) trivial))) gl0n) ?_
    intro k hk
    conv => whnf
    by_cases c2 : k < bs.length
    · refine br_true (decide_eq_true ((by omega : (k : Int) < bs.length))) ?_
      conv => whnf
      refine ⟨by omega, ?_⟩
      conv => whnf
      refine ⟨by omega, ?_⟩
      conv => whnf
      have hb1 := tot_bound (bs.take k) (okN_take h k) a c
      have hb2 := tot_bound (bs.take (k + 1)) (okN_take h (k + 1)) a c
      have hlk : (bs.take k).length ≤ 100000 := by rw [List.length_take]; omega
      have hlk2 : (bs.take (k + 1)).length ≤ 100000 := by rw [List.length_take]; omega
      have e1 : tot (bs.take (k + 1)) a = tot (bs.take k) a + at_ bs k a := by rw [take_at c2, tot_snoc]
      refine call_pure (wide_plus_x (tot (bs.take k) a) (at_ bs k a) (h _ (at_mem c2) a c) (by unfold in128; omega) (by unfold in128; omega)) (LeL.refl _) ?_
      conv => whnf
      refine ⟨k + 1, c2, (by show bs.length - (k + 1) < bs.length - k; omega), (le_st (le_r rfl) (leE_i rfl (inc_id c2 hn) (leE_i rfl rfl (leE_eq rfl (bnd_nf _ (nfL_Bf _ _)) (leE_eq rfl (bnd_nf _ (nfL_Bf _ _)) (leE_ptr rfl rfl (leE_ptr rfl rfl (leE_i rfl rfl (leE_ptr rfl rfl (leE_i rfl rfl trivial))))))))) (leO_box (lt_r rfl) rfl (LeA.refl _) (bnd_nf _ (nf_encBf _)) (leO_box (lt_r rfl) rfl (LeA.refl _) (bnd_nf _ (nf_encBf _)) (leO_box (lt_r rfl) rfl (LeA.of_eq (by rw [e1]) ) (bnd_nf _ ( nf_Wd _)) trivial))) gl0n)⟩
    · refine br_false (decide_eq_false ((by omega : ¬ ((k : Int) < bs.length)))) ?_
      conv => whnf
      obtain rfl : k = bs.length := by omega
      have hb1 := tot_bound bs h a c
      rw [List.take_length]
      refine call_pure (wide_narrow_x (tot bs a) (by unfold in128; omega)) (LeL.refl _) ?_
      by_cases c3 : in64 (tot bs a)
      · rw [decide_eq_true c3, wrap_id c3]
        conv => whnf
        refine ⟨by omega, ?_⟩
        conv => whnf
        refine ⟨a + 1, ⟨c, fun i hi => ?_⟩, (by show 12 - (a + 1) < 12 - a; omega), (le_st (le_r rfl) (leE_i rfl (inc_id c hn12) (leE_eq rfl (bnd_nf _ (nfL_Bf _ _)) (leE_ptr rfl rfl (leE_ptr rfl rfl trivial)))) (leO_box (lt_r rfl) rfl (LeA.refl _) (bnd_nf _ (nf_encBf _)) (leO_box (lt_r rfl) rfl (leA_Bf12 (f := fun i => if i = a then tot bs a else if i < a then tot bs i else 0) ?_ ) (bnd_nf _ ( nf_encBf _)) trivial)) gl0n)⟩
        · by_cases e : i = a
          · rw [e]; exact c3
          · exact hin i (by omega)
        · intro i hi
          by_cases e : i = a
          · subst e; simp
          · by_cases e2 : i < a
            · rw [if_neg e, if_pos e2, if_pos (by omega)]
            · rw [if_neg e, if_neg e2, if_neg (by omega)]
      · rw [decide_eq_false c3]
        conv => whnf
        rw [hr.no (fun hk => c3 (hk a c))]
        exact Le.refl _
  · refine br_false (decide_eq_false ((by omega : ¬ ((a : Int) < 12)))) ?_
    conv => whnf
    obtain rfl : a = 12 := by omega
    rw [hr.yes hin]
    exact (LeA.tup (LeA.cons (leA_Bf12 fun i hi => by rw [if_pos hi]) (LeA.refl _))).le

theorem rTotal_x (bs : List Net) (h : ∀ b ∈ bs, okN b) (hl : bs.length ≤ 100000) (r : AV) (hr : TotIs bs r) : Pure Tryz.prog gl0 r8_Total [encL encBf 12 bs] (r) := by
  refine pure_fn mixed fn_r8_Total nt_r8_Total hc_r8_Total (by simp) gl0n (by simp [nf, nf_I, nf_encBk, nf_encIns, nf_encTrm, nf_encCse, nf_encPrt, nf_encNtc, nf_encEty, nf_encOwd, nf_encPsn, nf_encEvt, nf_encDte, nf_encLn, nf_encPol, nf_encOtc, nf_encStt, nf_encOpn, nf_encWrk, nfL_I, nfL_Ins, nfL_Ntc, nfL_Ety, nfL_Ln, nfL_Opn, nfL_Bk, nf_encBf, nfL_Bf]) (hr.n) ?_
  conv => whnf
  refine loop_at mixed (fun (a : Nat) => ([(5, I a), (0, encL encBf 12 bs), (2, .ptr 0 []), (4, .ptr 1 [])], [(0, .box (encBf zN)), (1, .box (encBf fun i => if i < a then tot bs i else 0))], 2)) (fun a => a ≤ 12 ∧ ∀ i, i < a → in64 (tot bs i)) (fun a => 12 - a) 0 ⟨Nat.zero_le _, fun a ha => absurd ha (Nat.not_lt_zero a)⟩ (le_st (le_r rfl) (leE_i rfl rfl (leE_eq rfl (bnd_nf _ (nfL_Bf _ _)) (leE_ptr rfl rfl (leE_ptr rfl rfl trivial)))) (leO_box (lt_r rfl) rfl (LeA.refl _) (bnd_nf _ (nf_encBf _)) (leO_box (lt_r rfl) rfl (LeA.refl _) (bnd_nf _ (nf_encBf _)) trivial)) gl0n) ?_
  intro a ⟨ha, hin⟩
  conv => whnf
  have hn : (bs.length : Int) < 9223372036854775808 := by omega
  have hn12 : ((12 : Nat) : Int) < 9223372036854775808 := by decide
  by_cases c : a < 12
  · refine br_true (decide_eq_true ((by omega : (a : Int) < 12))) ?_
    conv => whnf
    refine loop_at mixed (fun (k : Nat) => ([(7, I k), (6, encT (some 2) I 1 ((bs.take k).map fun b => b a)), (0, encL encBf 12 bs), (2, .ptr 0 []), (4, .ptr 1 []), (5, I a)], [(0, .box (encBf zN)), (1, .box (encBf fun i => if i < a then tot bs i else 0)), (2, .room ((bs.take k).map fun b => b a).length 1 2)], 3)) (fun k => k ≤ bs.length) (fun k => bs.length - k) 0 (Nat.zero_le _) ((le_nil 6 1 2 (fun i => I (at_ ((bs.take 0).map fun b => b a) i)) rfl).trans (le_st (le_r rfl) (leE_i rfl rfl (leE_eq rfl (bnd_encT nf_I (lt_r rfl)) (leE_eq rfl (bnd_nf _ (nfL_Bf _ _)) (leE_ptr rfl rfl (leE_ptr rfl rfl (leE_i rfl rfl trivial)))))) (leO_box (lt_r rfl) rfl (LeA.refl _) (bnd_nf _ (nf_encBf _)) (leO_box (lt_r rfl) rfl (LeA.refl _) (bnd_nf _ (nf_encBf _)) (leO_room (lt_r rfl) rfl trivial))) gl0n)) ?_
    intro k hk
    conv => whnf
    by_cases c2 : k < bs.length
    · refine br_true (decide_eq_true ((by omega : (k : Int) < bs.length))) ?_
      conv => whnf
      refine ⟨by omega, ?_⟩
      conv => whnf
      refine ⟨by omega, ?_⟩
      conv => whnf
      have hlk : ((bs.take k).map fun b => b a).length = k := by rw [List.length_map, List.length_take]; omega
      refine ⟨rfl, (by rw [hlk]; (show (k + 1) * 8 ≤ _); omega), ?_⟩
      conv => whnf
      have e1 : ((bs.take (k + 1)).map fun b => b a) = ((bs.take k).map fun b => b a) ++ [at_ bs k a] := by rw [take_at c2, List.map_append]; rfl
      refine ⟨k + 1, c2, (by show bs.length - (k + 1) < bs.length - k; omega), ?_⟩
      dsimp only
      rw [e1]
      exact (le_st (le_r rfl) (leE_i rfl (inc_id c2 hn) (leE_le rfl (leA_snoc (enc := I) (by exact LeA.refl _)).le (bnd_encT nf_I (lt_r rfl)) (leE_eq rfl (bnd_nf _ (nfL_Bf _ _)) (leE_ptr rfl rfl (leE_ptr rfl rfl (leE_i rfl rfl trivial)))))) (leO_box (lt_r rfl) rfl (LeA.refl _) (bnd_nf _ (nf_encBf _)) (leO_box (lt_r rfl) rfl (LeA.refl _) (bnd_nf _ (nf_encBf _)) (leO_room (lt_r rfl) (by (simp; rfl)) trivial))) gl0n)
    · refine br_false (decide_eq_false ((by omega : ¬ ((k : Int) < bs.length)))) ?_
      conv => whnf
      obtain rfl : k = bs.length := by omega
      rw [List.take_length]
      refine call_pure (r1_Sum_x (colN bs a) (fun x hx => ?_) (by show (bs.map _).length ≤ _; rw [List.length_map]; omega)) ⟨(leA_drop (enc := I) (xs := colN bs a)).le, trivial⟩ ?_
      · obtain ⟨b, hb, rfl⟩ := List.mem_map.1 hx
        exact h b hb a c
      rw [show (colN bs a).sum = tot bs a from rfl]
      by_cases c3 : in64 (tot bs a)
      · rw [sumV_yes c3]
        conv => whnf
        refine ⟨by omega, ?_⟩
        conv => whnf
        refine ⟨a + 1, ⟨c, fun i hi => ?_⟩, (by show 12 - (a + 1) < 12 - a; omega), (le_st (le_r rfl) (leE_i rfl (inc_id c hn12) (leE_eq rfl (bnd_nf _ (nfL_Bf _ _)) (leE_ptr rfl rfl (leE_ptr rfl rfl trivial)))) (leO_box (lt_r rfl) rfl (LeA.refl _) (bnd_nf _ (nf_encBf _)) (leO_box (lt_r rfl) rfl (leA_Bf12 (f := fun i => if i = a then tot bs a else if i < a then tot bs i else 0) ?_ ) (bnd_nf _ ( nf_encBf _)) trivial)) gl0n)⟩
        · by_cases e : i = a
          · rw [e]; exact c3
          · exact hin i (by omega)
        · intro i hi
          by_cases e : i = a
          · subst e; simp
          · by_cases e2 : i < a
            · rw [if_neg e, if_pos e2, if_pos (by omega)]
            · rw [if_neg e, if_neg e2, if_neg (by omega)]
      · rw [sumV_no c3]
        conv => whnf
        rw [hr.no (fun hk => c3 (hk a c))]
        exact Le.refl _
  · refine br_false (decide_eq_false ((by omega : ¬ ((a : Int) < 12)))) ?_
    conv => whnf
    obtain rfl : a = 12 := by omega
    rw [hr.yes hin]
    exact (LeA.tup (LeA.cons (leA_Bf12 fun i hi => by rw [if_pos hi]) (LeA.refl _))).le

end Go.Proofs.YtjkmmcbfcglkdaaGreat
namespace Go.Proofs.YtjkmmcbfcglkdaaGreat
open Go Ar
set_option linter.unusedVariables false
set_option autoImplicit false
set_option maxHeartbeats 4000000
set_option maxRecDepth 100000

def upS (b : Net) : Nat → Int
  | 0 => 0
  | n + 1 => upS b n + if b n > 0 then b n else 0
def dnS (b : Net) : Nat → Int
  | 0 => 0
  | n + 1 => dnS b n - if b n > 0 then 0 else b n

theorem upS_b (b : Net) (h : okN b) : ∀ n, n ≤ 12 → 0 ≤ upS b n ∧ upS b n ≤ 9223372036854775808 * n := by
  intro n hn
  induction n with
  | zero => simp [upS]
  | succ n ih =>
    obtain ⟨h1, h2⟩ := h n (by omega)
    have := ih (by omega)
    simp only [upS]
    split <;> omega
theorem dnS_b (b : Net) (h : okN b) : ∀ n, n ≤ 12 → 0 ≤ dnS b n ∧ dnS b n ≤ 9223372036854775808 * n := by
  intro n hn
  induction n with
  | zero => simp [dnS]
  | succ n ih =>
    obtain ⟨h1, h2⟩ := h n (by omega)
    have := ih (by omega)
    simp only [dnS]
    split <;> omega

structure TriIs (b : Net) (r : AV) : Prop where
  n : nf r
  yes : in64 (upS b 12) → in64 (dnS b 12) → r = tup3 (I (upS b 12)) (I (dnS b 12)) (B true)
  no : ¬ (in64 (upS b 12) ∧ in64 (dnS b 12)) → r = tup3 (I 0) (I 0) (B false)

theorem tri_is (b : Net) : ∃ r, TriIs b r := by
  by_cases h : in64 (upS b 12) ∧ in64 (dnS b 12)
  · exact ⟨tup3 (I (upS b 12)) (I (dnS b 12)) (B true), ⟨trivial, trivial, trivial, trivial⟩, fun _ _ => rfl, fun h' => absurd h h'⟩
  · exact ⟨tup3 (I 0) (I 0) (B false), ⟨trivial, trivial, trivial, trivial⟩, fun h1 h2 => absurd ⟨h1, h2⟩ h, fun _ => rfl⟩

theorem lTrial_x (b : Net) (h : okN b) (r : AV) (hr : TriIs b r) : Pure Tryz.prog gl0 ledger_Trial [encBf b] (r) := by
  refine pure_fn mixed fn_ledger_Trial nt_ledger_Trial hc_ledger_Trial (by simp) gl0n (by simp [nf, nf_I, nf_encBk, nf_encIns, nf_encTrm, nf_encCse, nf_encPrt, nf_encNtc, nf_encEty, nf_encOwd, nf_encPsn, nf_encEvt, nf_encDte, nf_encLn, nf_encPol, nf_encOtc, nf_encStt, nf_encOpn, nf_encWrk, nfL_I, nfL_Ins, nfL_Ntc, nfL_Ety, nfL_Ln, nfL_Opn, nfL_Bk, nf_encBf, nfL_Bf]) (hr.n) ?_
  conv => whnf
  refine loop_at mixed (fun (a : Nat) => ([(15, I a), (14, .arr 12 1 fun i => I (b i)), (1, .ptr 0 []), (5, .ptr 1 []), (6, .ptr 2 [])], [(0, .box (encBf b)), (1, .box (Wd (upS b a))), (2, .box (Wd (dnS b a)))], 3)) (fun a => a ≤ 12) (fun a => 12 - a) 0 (Nat.zero_le _) (le_st (le_r rfl) (leE_i rfl rfl (leE_eq rfl (bnd_nf _ (fun _ => trivial)) (leE_ptr rfl rfl (leE_ptr rfl rfl (leE_ptr rfl rfl trivial))))) (leO_box (lt_r rfl) rfl (LeA.refl _) (bnd_nf _ (nf_encBf _)) (leO_box (lt_r rfl) rfl (LeA.refl _) (bnd_nf _ (nf_Wd _)) (leO_box (lt_r rfl) rfl (LeA.refl _) (bnd_nf _ (nf_Wd _)) trivial))) gl0n) ?_
  intro a ha
  conv => whnf
  have hn12 : ((12 : Nat) : Int) < 9223372036854775808 := by decide
  by_cases c : a < 12
  · refine br_true (decide_eq_true ((by omega : (a : Int) < 12))) ?_
    conv => whnf
    refine ⟨by omega, ?_⟩
    conv => whnf
    have hb := h a c
    have u1 := upS_b b h a (by omega)
    have u2 := upS_b b h (a + 1) (by omega)
    have d1 := dnS_b b h a (by omega)
    have d2 := dnS_b b h (a + 1) (by omega)
    by_cases c2 : b a > 0
    · refine br_true (decide_eq_true (c2)) ?_
      conv => whnf
      have e1 : upS b (a + 1) = upS b a + b a := by simp only [upS]; rw [if_pos c2]
      have e2 : dnS b (a + 1) = dnS b a := by simp only [dnS]; rw [if_pos c2]; omega
      refine call_pure (wide_plus_x (upS b a) (b a) hb (by unfold in128; omega) (by unfold in128; omega)) (LeL.refl _) ?_
      conv => whnf
      exact ⟨a + 1, c, (by show 12 - (a + 1) < 12 - a; omega), (le_st (le_r rfl) (leE_i rfl (inc_id c hn12) (leE_eq rfl (bnd_nf _ (fun _ => trivial)) (leE_ptr rfl rfl (leE_ptr rfl rfl (leE_ptr rfl rfl trivial))))) (leO_box (lt_r rfl) rfl (LeA.refl _) (bnd_nf _ (nf_encBf _)) (leO_box (lt_r rfl) rfl (LeA.of_eq (by rw [e1]) ) (bnd_nf _ ( nf_Wd _)) (leO_box (lt_r rfl) rfl (LeA.of_eq (by rw [e2]) ) (bnd_nf _ ( nf_Wd _)) trivial))) gl0n)⟩
    · refine br_false (decide_eq_false (c2)) ?_
      conv => whnf
      have e1 : upS b (a + 1) = upS b a := by simp only [upS]; rw [if_neg c2]; omega
      have e2 : dnS b (a + 1) = dnS b a - b a := by simp only [dnS]; rw [if_neg c2]
      refine call_pure (wide_minus_x (dnS b a) (b a) hb (by unfold in128; omega) (by unfold in128; omega)) (LeL.refl _) ?_
      conv => whnf
      exact ⟨a + 1, c, (by show 12 - (a + 1) < 12 - a; omega), (le_st (le_r rfl) (leE_i rfl (inc_id c hn12) (leE_eq rfl (bnd_nf _ (fun _ => trivial)) (leE_ptr rfl rfl (leE_ptr rfl rfl (leE_ptr rfl rfl trivial))))) (leO_box (lt_r rfl) rfl (LeA.refl _) (bnd_nf _ (nf_encBf _)) (leO_box (lt_r rfl) rfl (LeA.of_eq (by rw [e1]) ) (bnd_nf _ ( nf_Wd _)) (leO_box (lt_r rfl) rfl (LeA.of_eq (by rw [e2]) ) (bnd_nf _ ( nf_Wd _)) trivial))) gl0n)⟩
  · refine br_false (decide_eq_false ((by omega : ¬ ((a : Int) < 12)))) ?_
    conv => whnf
    obtain rfl : a = 12 := by omega
    have u2 := upS_b b h 12 (by omega)
    have d2 := dnS_b b h 12 (by omega)
    refine call_pure (wide_narrow_x (upS b 12) (by unfold in128; omega)) (LeL.refl _) ?_
    conv => whnf
    refine call_pure (wide_narrow_x (dnS b 12) (by unfold in128; omega)) (LeL.refl _) ?_
    by_cases c1 : in64 (upS b 12)
    · rw [decide_eq_true c1, wrap_id c1]
      conv => whnf
      by_cases c2 : in64 (dnS b 12)
      · rw [decide_eq_true c2, wrap_id c2, hr.yes c1 c2]
        conv => whnf
        exact Le.refl _
      · rw [decide_eq_false c2, hr.no (fun hh => c2 hh.2)]
        conv => whnf
        exact Le.refl _
    · rw [decide_eq_false c1, hr.no (fun hh => c1 hh.1)]
      conv => whnf
      exact Le.refl _

def upL (b : Net) : Nat → List Int
  | 0 => []
  | n + 1 => if b n > 0 then upL b n ++ [b n] else upL b n
def dnL (b : Net) : Nat → List Int
  | 0 => []
  | n + 1 => if b n > 0 then dnL b n else dnL b n ++ [b n]
theorem upL_s (b : Net) (n : Nat) : (upL b n).sum = upS b n := by
  induction n with
  | zero => rfl
  | succ n ih => simp only [upL, upS]; split <;> simp [ih]
theorem dnL_s (b : Net) (n : Nat) : (dnL b n).sum = - dnS b n := by
  induction n with
  | zero => rfl
  | succ n ih => simp only [dnL, dnS]; split <;> (simp [ih]; try omega)
theorem upL_l (b : Net) (n : Nat) : (upL b n).length ≤ n := by
  induction n with
  | zero => exact Nat.le_refl _
  | succ n ih => simp only [upL]; split <;> (try simp) <;> omega
theorem dnL_l (b : Net) (n : Nat) : (dnL b n).length ≤ n := by
  induction n with
  | zero => exact Nat.le_refl _
  | succ n ih => simp only [dnL]; split <;> (try simp) <;> omega
theorem upL_i (b : Net) (h : okN b) (n : Nat) (hn : n ≤ 12) : ∀ x ∈ upL b n, in64 x := by
  induction n with
  | zero => intro x hx; cases hx
  | succ n ih =>
    simp only [upL]
    split
    · intro x hx
      rcases List.mem_append.1 hx with hx | hx
      · exact ih (by omega) x hx
      · simp at hx; exact hx ▸ h n (by omega)
    · exact ih (by omega)
theorem dnL_i (b : Net) (h : okN b) (n : Nat) (hn : n ≤ 12) : ∀ x ∈ dnL b n, in64 x := by
  induction n with
  | zero => intro x hx; cases hx
  | succ n ih =>
    simp only [dnL]
    split
    · exact ih (by omega)
    · intro x hx
      rcases List.mem_append.1 hx with hx | hx
      · exact ih (by omega) x hx
      · simp at hx; exact hx ▸ h n (by omega)

theorem rTrial_x (b : Net) (h : okN b) (r : AV) (hr : TriIs b r) : Pure Tryz.prog gl0 r8_Trial [encBf b] (r) := by
  refine pure_fn mixed fn_r8_Trial nt_r8_Trial hc_r8_Trial (by simp) gl0n (by simp [nf, nf_I, nf_encBk, nf_encIns, nf_encTrm, nf_encCse, nf_encPrt, nf_encNtc, nf_encEty, nf_encOwd, nf_encPsn, nf_encEvt, nf_encDte, nf_encLn, nf_encPol, nf_encOtc, nf_encStt, nf_encOpn, nf_encWrk, nfL_I, nfL_Ins, nfL_Ntc, nfL_Ety, nfL_Ln, nfL_Opn, nfL_Bk, nf_encBf, nfL_Bf]) (hr.n) ?_
  conv => whnf
  refine loop_at mixed (fun (a : Nat) => ([(7, I a), (1, .ptr 0 []), (5, encT (some 1) I 1 (upL b a)), (6, encT (some 2) I 1 (dnL b a))], [(0, .box (encBf b)), (1, .room (upL b a).length 1 2), (2, .room (dnL b a).length 1 2)], 3)) (fun a => a ≤ 12) (fun a => 12 - a) 0 (Nat.zero_le _) (((le_nil 5 1 2 (fun i => I (at_ (upL b 0) i)) rfl).trans (le_nil 6 1 2 (fun i => I (at_ (dnL b 0) i)) rfl)).trans (le_st (le_r rfl) (leE_i rfl rfl (leE_ptr rfl rfl (leE_eq rfl (bnd_encT nf_I (lt_r rfl)) (leE_eq rfl (bnd_encT nf_I (lt_r rfl)) trivial)))) (leO_box (lt_r rfl) rfl (LeA.refl _) (bnd_nf _ (nf_encBf _)) (leO_room (lt_r rfl) rfl (leO_room (lt_r rfl) rfl trivial))) gl0n)) ?_
  intro a ha
  conv => whnf
  have hn12 : ((12 : Nat) : Int) < 9223372036854775808 := by decide
  have ul := upL_l b a
  have dl := dnL_l b a
  by_cases c : a < 12
  · refine br_true (decide_eq_true ((by omega : (a : Int) < 12))) ?_
    conv => whnf
    refine ⟨by omega, ?_⟩
    conv => whnf
    by_cases c2 : b a > 0
    · refine br_true (decide_eq_true (c2)) ?_
      conv => whnf
      refine ⟨by omega, ?_⟩
      conv => whnf
      have e1 : upL b (a + 1) = upL b a ++ [b a] := by simp only [upL]; rw [if_pos c2]
      have e2 : dnL b (a + 1) = dnL b a := by simp only [dnL]; rw [if_pos c2]
      refine ⟨rfl, (by (show ((upL b a).length + 1) * 8 ≤ _); omega), ?_⟩
      conv => whnf
      refine ⟨a + 1, c, (by show 12 - (a + 1) < 12 - a; omega), ?_⟩
      dsimp only
      rw [e1, e2]
      exact (le_st (le_r rfl) (leE_i rfl (inc_id c hn12) (leE_ptr rfl rfl (leE_le rfl (leA_snoc (enc := I) (by exact LeA.refl _)).le (bnd_encT nf_I (lt_r rfl)) (leE_eq rfl (bnd_encT nf_I (lt_r rfl)) trivial)))) (leO_box (lt_r rfl) rfl (LeA.refl _) (bnd_nf _ (nf_encBf _)) (leO_room (lt_r rfl) (by (simp; rfl)) (leO_room (lt_r rfl) rfl trivial))) gl0n)
    · refine br_false (decide_eq_false (c2)) ?_
      conv => whnf
      refine ⟨by omega, ?_⟩
      conv => whnf
      have e1 : upL b (a + 1) = upL b a := by simp only [upL]; rw [if_neg c2]
      have e2 : dnL b (a + 1) = dnL b a ++ [b a] := by simp only [dnL]; rw [if_neg c2]
      refine ⟨rfl, (by (show ((dnL b a).length + 1) * 8 ≤ _); omega), ?_⟩
      conv => whnf
      refine ⟨a + 1, c, (by show 12 - (a + 1) < 12 - a; omega), ?_⟩
      dsimp only
      rw [e1, e2]
      exact (le_st (le_r rfl) (leE_i rfl (inc_id c hn12) (leE_ptr rfl rfl (leE_eq rfl (bnd_encT nf_I (lt_r rfl)) (leE_le rfl (leA_snoc (enc := I) (by exact LeA.refl _)).le (bnd_encT nf_I (lt_r rfl)) trivial)))) (leO_box (lt_r rfl) rfl (LeA.refl _) (bnd_nf _ (nf_encBf _)) (leO_room (lt_r rfl) rfl (leO_room (lt_r rfl) (by (simp; rfl)) trivial))) gl0n)
  · refine br_false (decide_eq_false ((by omega : ¬ ((a : Int) < 12)))) ?_
    conv => whnf
    obtain rfl : a = 12 := by omega
    have u2 := upS_b b h 12 (by omega)
    have d2 := dnS_b b h 12 (by omega)
    refine call_pure (r1_Sum_x (upL b 12) (upL_i b h 12 (by omega)) (by omega)) ⟨(leA_drop (enc := I) (xs := upL b 12)).le, trivial⟩ ?_
    conv => whnf
    refine call_pure (r1_Sum_x (dnL b 12) (dnL_i b h 12 (by omega)) (by omega)) ⟨(leA_drop (enc := I) (xs := dnL b 12)).le, trivial⟩ ?_
    rw [upL_s, dnL_s]
    by_cases c1 : in64 (upS b 12)
    · rw [decide_eq_true c1, if_pos c1]
      by_cases c2 : in64 (- dnS b 12)
      · rw [sumV_yes c2]
        conv => whnf
        by_cases c3 : - dnS b 12 = -9223372036854775808
        · refine br_true (decide_eq_true (c3)) ?_
          conv => whnf
          rw [hr.no (fun hh => by have := hh.2; unfold in64 at this; omega)]
          exact Le.refl _
        · refine br_false (decide_eq_false (c3)) ?_
          conv => whnf
          have c4 : in64 (dnS b 12) := by unfold in64 at *; omega
          rw [hr.yes c1 c4]
          refine Le.of_eq ?_
          show tup3 (I (upS b 12)) (I (IntKind.i64.wrap (0 - - dnS b 12))) (B true) = _
          rw [show (0 : Int) - - dnS b 12 = dnS b 12 by omega, wrap_id c4]
      · rw [sumV_no c2]
        conv => whnf
        rw [hr.no (fun hh => c2 (by have := hh.2; unfold in64 at *; omega))]
        exact Le.refl _
    · rw [decide_eq_false c1]
      conv => whnf
      rw [hr.no (fun hh => c1 hh.1)]
      exact Le.refl _

end Go.Proofs.YtjkmmcbfcglkdaaGreat
namespace Go.Proofs.YtjkmmcbfcglkdaaGreat
open Go Ar
set_option linter.unusedVariables false
set_option autoImplicit false
set_option maxHeartbeats 4000000
set_option maxRecDepth 100000

def bksOf (ls : List Ln) : List Net := ls.map fun l => l.book.f

structure TrlIs (bs : List Net) (r : AV) : Prop where
  n : nf r
  yes : okT bs → TriIs (tot bs) r
  no : ¬ okT bs → r = tup3 (I 0) (I 0) (B false)

theorem trl_is (bs : List Net) : ∃ r, TrlIs bs r := by
  by_cases h : okT bs
  · obtain ⟨r, hr⟩ := tri_is (tot bs)
    exact ⟨r, hr.n, fun _ => hr, fun h' => absurd h h'⟩
  · exact ⟨tup3 (I 0) (I 0) (B false), ⟨trivial, trivial, trivial, trivial⟩, fun h' => absurd h' h, fun _ => rfl⟩

theorem bks_take {ls : List Ln} {k : Nat} (h : k < ls.length) : bksOf (ls.take (k + 1)) = bksOf (ls.take k) ++ [(at_ ls k).book.f] := by
  unfold bksOf
  rw [take_at h, List.map_append]
  rfl

theorem TriIs.cases {b : Net} {r : AV} (h : TriIs b r) : ∃ x y z, r = tup3 (I x) (I y) (B z) := by
  by_cases c : in64 (upS b 12) ∧ in64 (dnS b 12)
  · exact ⟨_, _, _, h.yes c.1 c.2⟩
  · exact ⟨_, _, _, h.no c⟩

theorem trial_x (s : Stt) (h : okS 20000000000 s) (hb : ∀ b ∈ bksOf s.loans, okN b) (r : AV) (hr : TrlIs (bksOf s.loans) r) : Pure Tryz.prog gl0 report_Trial [encStt s] (r) := by
  refine pure_fn mixed fn_report_Trial nt_report_Trial hc_report_Trial (by simp) gl0n (by simp [nf, nf_I, nf_encBk, nf_encIns, nf_encTrm, nf_encCse, nf_encPrt, nf_encNtc, nf_encEty, nf_encOwd, nf_encPsn, nf_encEvt, nf_encDte, nf_encLn, nf_encPol, nf_encOtc, nf_encStt, nf_encOpn, nf_encWrk, nfL_I, nfL_Ins, nfL_Ntc, nfL_Ety, nfL_Ln, nfL_Opn, nfL_Bk, nf_encBf, nfL_Bf]) (hr.n) ?_
  conv => whnf
  have hsn := h.n
  refine loop_at mixed (fun (k : Nat) => ([(13, I k), (12, I s.loans.length), (11, encL encLn 46 s.loans), (5, encT (some 1) encBf 12 (bksOf (s.loans.take k))), (1, .ptr 0 [])], [(0, .box (encStt s)), (1, .room (bksOf (s.loans.take k)).length 12 52)], 2)) (fun k => k ≤ s.loans.length) (fun k => s.loans.length - k) 0 (Nat.zero_le _) ((le_nil 5 12 52 (fun i => encBf (at_ (bksOf (s.loans.take 0)) i)) rfl).trans (le_st (le_r rfl) (leE_i rfl rfl (leE_i rfl rfl (leE_eq rfl (bnd_nf _ (nfL_Ln _ _)) (leE_eq rfl (bnd_encT nf_encBf (lt_r rfl)) (leE_ptr rfl rfl trivial))))) (leO_box (lt_r rfl) rfl (LeA.refl _) (bnd_nf _ (nf_encStt _)) (leO_room (lt_r rfl) rfl trivial)) gl0n)) ?_
  intro k hk
  conv => whnf
  have hn : (s.loans.length : Int) < 9223372036854775808 := by omega
  by_cases c : k < s.loans.length
  · refine br_true (decide_eq_true ((by omega : (k : Int) < s.loans.length))) ?_
    conv => whnf
    refine ⟨by omega, ?_⟩
    conv => whnf
    have hlk : (bksOf (s.loans.take k)).length = k := by unfold bksOf; rw [List.length_map, List.length_take]; omega
    refine ⟨rfl, (by rw [hlk]; (show (k + 1) * 96 ≤ _); omega), ?_⟩
    conv => whnf
    refine ⟨k + 1, c, (by show s.loans.length - (k + 1) < s.loans.length - k; omega), ?_⟩
    dsimp only
    rw [bks_take c]
    exact (le_st (le_r rfl) (leE_i rfl (inc_id c hn) (leE_i rfl rfl (leE_eq rfl (bnd_nf _ (nfL_Ln _ _)) (leE_le rfl (leA_snoc (enc := encBf) (by exact LeA.refl _)).le (bnd_encT nf_encBf (lt_r rfl)) (leE_ptr rfl rfl trivial))))) (leO_box (lt_r rfl) rfl (LeA.refl _) (bnd_nf _ (nf_encStt _)) (leO_room (lt_r rfl) (by (simp; rfl)) trivial)) gl0n)
  · refine br_false (decide_eq_false ((by omega : ¬ ((k : Int) < s.loans.length)))) ?_
    conv => whnf
    obtain rfl : k = s.loans.length := by omega
    rw [List.take_length]
    obtain ⟨q, hq⟩ := tot_is (bksOf s.loans)
    have hlen : (bksOf s.loans).length ≤ 100000 := by unfold bksOf; rw [List.length_map]; omega
    refine call_pure (lTotal_x (bksOf s.loans) hb hlen q hq) ⟨(leA_drop (enc := encBf) (xs := bksOf s.loans)).le, trivial⟩ ?_
    by_cases c2 : okT (bksOf s.loans)
    · rw [hq.yes c2]
      conv => whnf
      refine call_pure (lTrial_x (tot (bksOf s.loans)) c2 r (hr.yes c2)) (LeL.refl _) ?_
      obtain ⟨x, y, z, rfl⟩ := (hr.yes c2).cases
      conv => whnf
      exact Le.refl _
    · rw [hq.no c2, hr.no c2]
      conv => whnf
      exact Le.refl _

theorem rtrial_x (s : Stt) (h : okS 20000000000 s) (hb : ∀ b ∈ bksOf s.loans, okN b) (r : AV) (hr : TrlIs (bksOf s.loans) r) : Pure Tryz.prog gl0 r21_Trial [encStt s] (r) := by
  refine pure_fn mixed fn_r21_Trial nt_r21_Trial hc_r21_Trial (by simp) gl0n (by simp [nf, nf_I, nf_encBk, nf_encIns, nf_encTrm, nf_encCse, nf_encPrt, nf_encNtc, nf_encEty, nf_encOwd, nf_encPsn, nf_encEvt, nf_encDte, nf_encLn, nf_encPol, nf_encOtc, nf_encStt, nf_encOpn, nf_encWrk, nfL_I, nfL_Ins, nfL_Ntc, nfL_Ety, nfL_Ln, nfL_Opn, nfL_Bk, nf_encBf, nfL_Bf]) (hr.n) ?_
  conv => whnf
  have hsn := h.n
  refine loop_at mixed (fun (k : Nat) => ([(6, I k), (5, encT (some 1) encBf 12 (bksOf (s.loans.take k))), (1, .ptr 0 [])], [(0, .box (encStt s)), (1, .room (bksOf (s.loans.take k)).length 12 52)], 2)) (fun k => k ≤ s.loans.length) (fun k => s.loans.length - k) 0 (Nat.zero_le _) ((le_nil 5 12 52 (fun i => encBf (at_ (bksOf (s.loans.take 0)) i)) rfl).trans (le_st (le_r rfl) (leE_i rfl rfl (leE_eq rfl (bnd_encT nf_encBf (lt_r rfl)) (leE_ptr rfl rfl trivial))) (leO_box (lt_r rfl) rfl (LeA.refl _) (bnd_nf _ (nf_encStt _)) (leO_room (lt_r rfl) rfl trivial)) gl0n)) ?_
  intro k hk
  conv => whnf
  have hn : (s.loans.length : Int) < 9223372036854775808 := by omega
  by_cases c : k < s.loans.length
  · refine br_true (decide_eq_true ((by omega : (k : Int) < s.loans.length))) ?_
    conv => whnf
    refine ⟨by omega, ?_⟩
    conv => whnf
    have hlk : (bksOf (s.loans.take k)).length = k := by unfold bksOf; rw [List.length_map, List.length_take]; omega
    refine ⟨rfl, (by rw [hlk]; (show (k + 1) * 96 ≤ _); omega), ?_⟩
    conv => whnf
    refine ⟨k + 1, c, (by show s.loans.length - (k + 1) < s.loans.length - k; omega), ?_⟩
    dsimp only
    rw [bks_take c]
    exact (le_st (le_r rfl) (leE_i rfl (inc_id c hn) (leE_le rfl (leA_snoc (enc := encBf) (by exact LeA.refl _)).le (bnd_encT nf_encBf (lt_r rfl)) (leE_ptr rfl rfl trivial))) (leO_box (lt_r rfl) rfl (LeA.refl _) (bnd_nf _ (nf_encStt _)) (leO_room (lt_r rfl) (by (simp; rfl)) trivial)) gl0n)
  · refine br_false (decide_eq_false ((by omega : ¬ ((k : Int) < s.loans.length)))) ?_
    conv => whnf
    obtain rfl : k = s.loans.length := by omega
    rw [List.take_length]
    obtain ⟨q, hq⟩ := tot_is (bksOf s.loans)
    have hlen : (bksOf s.loans).length ≤ 100000 := by unfold bksOf; rw [List.length_map]; omega
    refine call_pure (rTotal_x (bksOf s.loans) hb hlen q hq) ⟨(leA_drop (enc := encBf) (xs := bksOf s.loans)).le, trivial⟩ ?_
    by_cases c2 : okT (bksOf s.loans)
    · rw [hq.yes c2]
      conv => whnf
      refine call_pure (rTrial_x (tot (bksOf s.loans)) c2 r (hr.yes c2)) (LeL.refl _) ?_
      obtain ⟨x, y, z, rfl⟩ := (hr.yes c2).cases
      conv => whnf
      exact Le.refl _
    · rw [hq.no c2, hr.no c2]
      conv => whnf
      exact Le.refl _

theorem bks_ok {s : Stt} (h : rng (encStt s)) : ∀ b ∈ bksOf s.loans, okN b := fun b hb => by
  obtain ⟨l, hl, rfl⟩ := List.mem_map.1 hb
  exact ((rg_Stt h).loans l hl).book

theorem TrlIs.cases {bs : List Net} {r : AV} (h : TrlIs bs r) : ∃ x y z, r = tup3 (I x) (I y) (B z) := by
  by_cases c : okT bs
  · exact (h.yes c).cases
  · exact ⟨_, _, _, h.no c⟩

theorem law_x (p : Pol) (ops : List Opn) (hpr : rng (encPol p)) (hop : rng (encL encOpn 7 ops)) : Pure Tryz.prog gl0 l21_ReportTrials [encPol p, encL encOpn 7 ops] (B true) := by
  refine pure_fn mixed fn_l21_ReportTrials nt_l21_ReportTrials hc_l21_ReportTrials (by simp) gl0n (by simp [nf, nf_I, nf_encBk, nf_encIns, nf_encTrm, nf_encCse, nf_encPrt, nf_encNtc, nf_encEty, nf_encOwd, nf_encPsn, nf_encEvt, nf_encDte, nf_encLn, nf_encPol, nf_encOtc, nf_encStt, nf_encOpn, nf_encWrk, nfL_I, nfL_Ins, nfL_Ntc, nfL_Ety, nfL_Ln, nfL_Opn, nfL_Bk, nf_encBf, nfL_Bf]) (by simp [nf, nf_I, nf_encBk, nf_encIns, nf_encTrm, nf_encCse, nf_encPrt, nf_encNtc, nf_encEty, nf_encOwd, nf_encPsn, nf_encEvt, nf_encDte, nf_encLn, nf_encPol, nf_encOtc, nf_encStt, nf_encOpn, nf_encWrk, nfL_I, nfL_Ins, nfL_Ntc, nfL_Ety, nfL_Ln, nfL_Opn, nfL_Bk, nf_encBf, nfL_Bf]) ?_
  conv => whnf
  refine call_x2 (l21_behind_s p ops 200 hpr hop) (LeL.refl _) ?_
  rintro _ - ⟨s, rfl, hs, hsr⟩
  conv => whnf
  refine call_pure (l21_twin_s s hs) (LeL.refl _) ?_
  conv => whnf
  obtain ⟨r, hr⟩ := trl_is (bksOf s.loans)
  refine call_pure (trial_x s hs (bks_ok hsr) r hr) (LeL.refl _) ?_
  obtain ⟨x, y, z, rfl⟩ := hr.cases
  conv => whnf
  refine call_pure (rtrial_x s hs (bks_ok hsr) _ hr) (LeL.refl _) ?_
  conv => whnf
  refine br_true (decide_eq_true rfl) ?_
  conv => whnf
  refine br_true (decide_eq_true rfl) ?_
  conv => whnf
  rw [beq_self_eq_true]
  conv => whnf
  refine call_pure (l21_still_s s hs) (LeL.refl _) ?_
  conv => whnf
  exact Le.refl _

end Go.Proofs.YtjkmmcbfcglkdaaGreat
