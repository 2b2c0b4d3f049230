/- Contracts of the statement's own words: the portfolio behind some operations, its twin, and that it stands still. No condition. -/
import Derived.Test.YtjkmmcbfcglkdaaGreatDoorL9
import Derived.Test.YtjkmmcbfcglkdaaGreatDoorK7
import Derived.Test.YtjkmmcbfcglkdaaGreatDoorM1
set_option linter.all false
namespace Go.Proofs.YtjkmmcbfcglkdaaGreatDoor
open Go Ar
set_option linter.unusedVariables false
set_option autoImplicit false
set_option maxHeartbeats 4000000
set_option maxRecDepth 100000
theorem hasI_of {p : Pol} (h : rng (encPol p)) : hasI p := by
  have h1 : p.holidays.length ≤ 9223372036854775807 := h.2.2.2.2.2.2.2.2.2.2.2.2.2.2.2.2.2.1.1
  unfold hasI
  omega
theorem rng_at {α : Type} [Inhabited α] {enc : α → AV} {e : Nat} {xs : List α} (h : rng (encL enc e xs)) {i : Nat} (hi : i < xs.length) : rng (enc (at_ xs i)) := (h.2 i hi).2
abbrev QBeh (p : Pol) : AV → Prop := fun r => ∃ s, r = encStt s ∧ okS 20000000000 s ∧ rng (encStt s) ∧ (chk p = (0, 0) ∨ s.loans = [])
theorem chk_0 {p : Pol} (h : (chk p).1 = 0) : chk p = (0, 0) := by
  unfold chk at h ⊢
  split
  · rename_i h1; rw [h1] at h; cases h
  · rfl
theorem okS0 (b : Nat) (n : Int) : okS b ⟨n, [], []⟩ := ⟨Nat.zero_le _, fun x hx => (by cases hx), Nat.zero_le _, List.Pairwise.nil⟩
theorem leZS : LeA zStt (encStt ⟨0, [], []⟩) := LeA.st (LeA.cons (LeA.refl _) (LeA.cons leA_nilL (LeA.cons leA_nilL (LeA.refl _))))
theorem rngS0 {n : Int} (h : in64 n) : rng (encStt ⟨n, [], []⟩) := ⟨okI_i64.2 h, ⟨Nat.zero_le _, fun i hi => absurd hi (Nat.not_lt_zero i)⟩, ⟨Nat.zero_le _, fun i hi => absurd hi (Nat.not_lt_zero i)⟩, trivial⟩
theorem l21_behind_s (p : Pol) (ops : List Opn) (n : Int) (hpr : rng (encPol p)) (hop : rng (encL encOpn 7 ops)) : PureX Tryz.prog gl0 l21_behind [encPol p, encL encOpn 7 ops, I n] (QBeh p) := by
  refine pure_fnX mixed fn_l21_behind nt_l21_behind hc_l21_behind (by simp) gl0n (by simp [nf]) ?_
  conv => whnf
  have hp := hasI_of hpr
  have hln : (ops.length : Int) < 9223372036854775808 := by have := hop.1; omega
  have hfd : in64 p.firstDay := (rg_Pol hpr).firstDay
  repeat' first
    | (refine br_dec (fun h0 => ?_) (fun h0 => ?_) <;> (conv => whnf))
    | (refine br_intro (fun hb => ?_) (fun hb => ?_) <;> ((try rw [hb]); (conv => whnf); (try simp at hb)))
    | (refine call_x2 (r12_Check_x p hp) (LeL.refl _) ?_; (rintro _ - rfl); (conv => whnf))
    | (refine call_x2 (r15_Begin_s p) (LeL.refl _) ?_; (rintro _ - rfl); (conv => whnf))
    | (refine fin_r (encStt ⟨0, [], []⟩) (nf_encStt _) ⟨_, rfl, okS0 _ _, rngS0 (by unfold in64; omega), .inr rfl⟩ ?_; (conv => whnf); exact leZS.le)
    | (exact True.elim trivial)
    | (refine aI ?_; (conv => whnf))
    | (refine fin_e ?_; (conv => whnf); exact lfA)
    | fail
  have hck : chk p = (0, 0) := chk_0 (by omega)
  refine loop_at mixed (fun (y : Nat × Stt) => ([(10, I y.1), (1, encL encOpn 7 ops), (2, I n), (3, .ptr 0 []), (6, .ptr 1 []), (9, .ptr 2 [])], [(0, .box (encPol p)), (1, .box zStt), (2, .box (encStt y.2))], 3)) (fun y => y.1 ≤ ops.length ∧ y.1 ≤ 200 ∧ okS (40000000 * y.1) y.2 ∧ rng (encStt y.2)) (fun y => ops.length - y.1) (0, ⟨p.firstDay, [], []⟩) ⟨Nat.zero_le _, Nat.zero_le _, okS0 _ _, rngS0 hfd⟩ (le_st (le_r rfl) (leE_i rfl rfl (leE_eq rfl (bnd_nf _ (nfL_Opn _ _)) (leE_i rfl rfl (leE_ptr rfl rfl (leE_ptr rfl rfl (leE_ptr rfl rfl trivial)))))) (leO_box (lt_r rfl) rfl (LeA.refl _) (bnd_nf _ (nf_encPol _)) (leO_box (lt_r rfl) rfl (LeA.refl _) (bnd_nf _ (nf_zStt)) (leO_box (lt_r rfl) rfl (LeA.refl _ ) (bnd_nf _ ( nf_encStt _)) trivial))) gl0n) ?_
  rintro ⟨k, v⟩ ⟨hk, hk2, hv, hvr⟩
  dsimp only at hk hk2 hv hvr ⊢
  conv => whnf
  repeat' first
    | (refine br_dec (fun h0 => ?_) (fun h0 => ?_) <;> (conv => whnf))
    | (refine br_intro (fun hb => ?_) (fun hb => ?_) <;> ((try rw [hb]); (conv => whnf); (try simp at hb)))
    | (refine call_x2 (PureX.rng (r15_Apply_s p v (at_ ops k) (40000000 * k) hp hv (by omega)) gl0w ?_) (LeL.refl _) ?_; (intro a ha; simp only [List.mem_cons, List.mem_nil_iff, or_false] at ha; rcases ha with rfl | rfl | rfl; exact ⟨dta_encPol _, hpr, rfl⟩; exact ⟨dta_encStt _, hvr, rfl⟩; exact ⟨dta_encOpn _, rng_at hop (by omega), rfl⟩); (rintro _ - ⟨⟨s', e, xs, rfl, hs⟩, hr⟩); (conv => whnf))
    | (refine ⟨(k + 1, s'), ⟨by (show k + 1 ≤ _); omega, by (show k + 1 ≤ _); omega, hs.mono (by omega), hr.1⟩, (by show ops.length - (k + 1) < ops.length - k; omega), (le_st (le_r rfl) (leE_i rfl (inc_id (m := ops.length) (by omega) hln) (leE_eq rfl (bnd_nf _ (nfL_Opn _ _)) (leE_i rfl rfl (leE_ptr rfl rfl (leE_ptr rfl rfl (leE_ptr rfl rfl trivial)))))) (leO_box (lt_r rfl) rfl (LeA.refl _) (bnd_nf _ (nf_encPol _)) (leO_box (lt_r rfl) rfl (LeA.refl _) (bnd_nf _ (nf_zStt)) (leO_box (lt_r rfl) rfl (LeA.refl _) (bnd_nf _ (nf_encStt _)) trivial))) gl0n)⟩)
    | (refine fin_r (encStt v) (nf_encStt _) ⟨v, rfl, hv.mono (by omega), hvr, .inl hck⟩ ?_; (conv => whnf); exact Le.refl _)
    | (refine aI ?_; (conv => whnf))
    | (refine fin_e ?_; (conv => whnf); exact lfA)
    | fail
theorem leA_twinLn {l : Ln} {t : Nat} {h : Nat → AV} (hh : ∀ i, i < l.plan.length → LeA (h i) (encIns (at_ l.plan i))) : LeA (.st (.cons (I l.id) (.cons (encTrm l.terms) (.cons (.lst (some t) l.plan.length 4 h) (.cons (encBk l.book) (.cons (encCse l.case) (.cons (I l.day) (.cons (I l.carry) (.cons (I l.applied) (.cons (encPrt l.last) (.cons (B l.hasLast) (.cons (I l.chargedOff) (.cons (I l.trace) .nil))))))))))))) (encLn l) :=
  LeA.st (LeA.cons (LeA.refl _) (LeA.cons (LeA.refl _) (LeA.cons (LeA.lst (.inr rfl) hh) (LeA.refl _))))
theorem l21_twin_s (s : Stt) (h : okS 20000000000 s) : Pure Tryz.prog gl0 l21_twin [encStt s] (encStt s) := by
  refine pure_fn mixed fn_l21_twin nt_l21_twin hc_l21_twin (by simp) gl0n (by simp [nf]) (by simp [nf]) ?_
  conv => whnf
  have hsn := h.n
  have hsb := h.b
  repeat' first
    | (refine br_dec (fun h0 => ?_) (fun h0 => ?_) <;> (conv => whnf))
    | (refine br_intro (fun hb => ?_) (fun hb => ?_) <;> ((try rw [hb]); (conv => whnf); (try simp at hb)))
    | (exact True.elim trivial)
    | (refine aI ?_; (conv => whnf))
    | (refine fin_e ?_; (conv => whnf); exact lfA)
    | fail
  refine loop_at mixed (fun (k : Nat) => ([(4, I k), (3, encT (some 2) encLn 46 (s.loans.take k)), (1, .ptr 0 []), (2, .ptr 1 [])], [(0, .box (encStt s)), (1, .box zStt), (2, .room (s.loans.take k).length 46 45)], 3)) (fun k => k ≤ s.loans.length) (fun k => s.loans.length - k) 0 (Nat.zero_le _) ((le_nil 3 46 45 (fun i => encLn (at_ (s.loans.take 0) i)) rfl).trans (le_st (le_r rfl) (leE_i rfl rfl (leE_eq rfl (bnd_encT nf_encLn (lt_r rfl)) (leE_ptr rfl rfl (leE_ptr rfl rfl trivial)))) (leO_box (lt_r rfl) rfl (LeA.refl _) (bnd_nf _ (nf_encStt _)) (leO_box (lt_r rfl) rfl (LeA.refl _) (bnd_nf _ (nf_zStt)) (leO_room (lt_r rfl) rfl trivial))) gl0n)) ?_
  intro k hk
  conv => whnf
  have hn : (s.loans.length : Int) < 9223372036854775808 := by omega
  by_cases c : k < s.loans.length
  · refine br_true (decide_eq_true ((by omega : (k : Int) < s.loans.length))) ?_
    conv => whnf
    have ht : (s.loans.take k).length = k := by rw [List.length_take]; omega
    have hpl := h.at_ c
    refine ⟨by omega, ?_⟩
    conv => whnf
    refine ⟨by rw [show (k : Int).toNat = k from rfl]; omega, ?_⟩
    conv => whnf
    refine ⟨rfl, (by rw [ht]; (show (k + 1) * 384 ≤ _); omega), ?_⟩
    conv => whnf
    refine ⟨k + 1, c, (by show s.loans.length - (k + 1) < s.loans.length - k; omega), ?_⟩
    refine (le_st (le_r rfl) (leE_i rfl (inc_id c hn) (leE_le rfl ?_ (bnd_encT nf_encLn (lt_r rfl)) (leE_ptr rfl rfl (leE_ptr rfl rfl trivial)))) (leO_box (lt_r rfl) rfl (LeA.refl _) (bnd_nf _ (nf_encStt _)) (leO_box (lt_r rfl) rfl (LeA.refl _) (bnd_nf _ nf_zStt) (leO_room (lt_r rfl) ?_ trivial))) gl0n)
    · rw [take_at c]
      exact (leA_snoc (enc := encLn) (leA_twinLn fun i hi => LeA.refl _)).le
    · rw [take_at c, List.length_append]
      rfl
  · refine br_false (decide_eq_false ((by omega : ¬ ((k : Int) < s.loans.length)))) ?_
    conv => whnf
    obtain rfl : k = s.loans.length := by omega
    refine ⟨by omega, ?_⟩
    conv => whnf
    rw [List.take_length]
    exact (LeA.st (LeA.cons (LeA.refl _) (LeA.cons leA_drop (LeA.cons leA_drop (LeA.refl _))))).le
end Go.Proofs.YtjkmmcbfcglkdaaGreatDoor
namespace Go.Proofs.YtjkmmcbfcglkdaaGreatDoor
open Go Ar
set_option linter.unusedVariables false
set_option autoImplicit false
set_option maxHeartbeats 4000000
set_option maxRecDepth 100000
theorem nee {α : Type} [DecidableEq α] (x : α) : decide (x ≠ x) = false := decide_eq_false (fun h => h rfl)
theorem l21_still_s (s : Stt) (h : okS 20000000000 s) : Pure Tryz.prog gl0 l21_still [encStt s, encStt s] (B true) := by
  refine pure_fn mixed fn_l21_still nt_l21_still hc_l21_still (by simp) gl0n (by simp [nf]) (by simp [nf]) ?_
  conv => whnf
  have hsn := h.n
  have hsb := h.b
  repeat' first
    | (refine br_false (nee _) ?_; (conv => whnf))
    | (refine br_false (congrArg (eqSn true) (eqS_refl _ _)) ?_; (conv => whnf))
  refine loop_at mixed (fun (k : Nat) => ([(5, I k), (2, .ptr 0 []), (3, .ptr 1 [])], [(0, .box (encStt s)), (1, .box (encStt s))], 2)) (fun k => k ≤ s.loans.length) (fun k => s.loans.length - k) 0 (Nat.zero_le _) (le_st (le_r rfl) (leE_i rfl rfl (leE_ptr rfl rfl (leE_ptr rfl rfl trivial))) (leO_box (lt_r rfl) rfl (LeA.refl _) (bnd_nf _ (nf_encStt _)) (leO_box (lt_r rfl) rfl (LeA.refl _) (bnd_nf _ (nf_encStt _)) trivial)) gl0n) ?_
  intro k hk
  conv => whnf
  have hn : (s.loans.length : Int) < 9223372036854775808 := by omega
  by_cases c : k < s.loans.length
  · refine br_true (decide_eq_true ((by omega : (k : Int) < s.loans.length))) ?_
    conv => whnf
    have hpl := h.at_ c
    repeat' first
      | (refine br_false (nee _) ?_; (conv => whnf))
      | (refine br_false (congrArg (eqSn true) (eqS_refl _ _)) ?_; (conv => whnf))
      | (refine br_false (b := !(_ == _)) (by rw [beq_self_eq_true]; rfl) ?_; (conv => whnf))
      | (refine And.intro (by omega) ?_; (conv => whnf))
    refine loop_at mixed (fun (j : Nat) => ([(8, I j), (5, I k), (2, .ptr 0 []), (3, .ptr 1 []), (6, .ptr 2 []), (7, .ptr 3 [])], [(0, .box (encStt s)), (1, .box (encStt s)), (2, .box (encLn (at_ s.loans k))), (3, .box (encLn (at_ s.loans k)))], 4)) (fun j => j ≤ (at_ s.loans k).plan.length) (fun j => (at_ s.loans k).plan.length - j) 0 (Nat.zero_le _) (le_st (le_r rfl) (leE_i rfl rfl (leE_i rfl rfl (leE_ptr rfl rfl (leE_ptr rfl rfl (leE_ptr rfl rfl (leE_ptr rfl rfl trivial)))))) (leO_box (lt_r rfl) rfl (LeA.refl _) (bnd_nf _ (nf_encStt _)) (leO_box (lt_r rfl) rfl (LeA.refl _) (bnd_nf _ (nf_encStt _)) (leO_box (lt_r rfl) rfl (LeA.refl _) (bnd_nf _ (nf_encLn _)) (leO_box (lt_r rfl) rfl (LeA.refl _) (bnd_nf _ (nf_encLn _)) trivial)))) gl0n) ?_
    intro j hj
    conv => whnf
    have hn2 : ((at_ s.loans k).plan.length : Int) < 9223372036854775808 := by omega
    by_cases c2 : j < (at_ s.loans k).plan.length
    · refine br_true (decide_eq_true ((by omega : (j : Int) < (at_ s.loans k).plan.length))) ?_
      conv => whnf
      repeat' first
        | (refine br_false (congrArg (eqSn true) (eqS_refl _ _)) ?_; (conv => whnf))
        | (refine And.intro (by omega) ?_; (conv => whnf))
      exact ⟨j + 1, c2, (by show (at_ s.loans k).plan.length - (j + 1) < (at_ s.loans k).plan.length - j; omega), (le_st (le_r rfl) (leE_i rfl (inc_id c2 hn2) (leE_i rfl rfl (leE_ptr rfl rfl (leE_ptr rfl rfl (leE_ptr rfl rfl (leE_ptr rfl rfl trivial)))))) (leO_box (lt_r rfl) rfl (LeA.refl _) (bnd_nf _ (nf_encStt _)) (leO_box (lt_r rfl) rfl (LeA.refl _) (bnd_nf _ (nf_encStt _)) (leO_box (lt_r rfl) rfl (LeA.refl _) (bnd_nf _ (nf_encLn _)) (leO_box (lt_r rfl) rfl (LeA.refl _) (bnd_nf _ (nf_encLn _)) trivial)))) gl0n)⟩
    · refine br_false (decide_eq_false ((by omega : ¬ ((j : Int) < (at_ s.loans k).plan.length)))) ?_
      conv => whnf
      exact ⟨k + 1, c, (by show s.loans.length - (k + 1) < s.loans.length - k; omega), (le_st (le_r rfl) (leE_i rfl (inc_id c hn) (leE_ptr rfl rfl (leE_ptr rfl rfl trivial))) (leO_box (lt_r rfl) rfl (LeA.refl _) (bnd_nf _ (nf_encStt _)) (leO_box (lt_r rfl) rfl (LeA.refl _) (bnd_nf _ (nf_encStt _)) trivial)) gl0n)⟩
  · refine br_false (decide_eq_false ((by omega : ¬ ((k : Int) < s.loans.length)))) ?_
    conv => whnf
    refine loop_at mixed (fun (k : Nat) => ([(9, I k), (2, .ptr 0 []), (3, .ptr 1 [])], [(0, .box (encStt s)), (1, .box (encStt s))], 2)) (fun k => k ≤ s.notices.length) (fun k => s.notices.length - k) 0 (Nat.zero_le _) (le_st (le_r rfl) (leE_i rfl rfl (leE_ptr rfl rfl (leE_ptr rfl rfl trivial))) (leO_box (lt_r rfl) rfl (LeA.refl _) (bnd_nf _ (nf_encStt _)) (leO_box (lt_r rfl) rfl (LeA.refl _) (bnd_nf _ (nf_encStt _)) trivial)) gl0n) ?_
    intro j hj
    conv => whnf
    have hn2 : (s.notices.length : Int) < 9223372036854775808 := by omega
    by_cases c2 : j < s.notices.length
    · refine br_true (decide_eq_true ((by omega : (j : Int) < s.notices.length))) ?_
      conv => whnf
      repeat' first
        | (refine br_false (congrArg (eqSn true) (eqS_refl _ _)) ?_; (conv => whnf))
        | (refine And.intro (by omega) ?_; (conv => whnf))
      exact ⟨j + 1, c2, (by show s.notices.length - (j + 1) < s.notices.length - j; omega), (le_st (le_r rfl) (leE_i rfl (inc_id c2 hn2) (leE_ptr rfl rfl (leE_ptr rfl rfl trivial))) (leO_box (lt_r rfl) rfl (LeA.refl _) (bnd_nf _ (nf_encStt _)) (leO_box (lt_r rfl) rfl (LeA.refl _) (bnd_nf _ (nf_encStt _)) trivial)) gl0n)⟩
    · refine br_false (decide_eq_false ((by omega : ¬ ((j : Int) < s.notices.length)))) ?_
      conv => whnf
      exact Le.refl _
end Go.Proofs.YtjkmmcbfcglkdaaGreatDoor
