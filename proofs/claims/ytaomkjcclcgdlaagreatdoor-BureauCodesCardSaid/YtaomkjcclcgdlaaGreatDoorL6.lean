/- Contracts of the document's loan (chapter 14), sixth part: settling, accruing, late fees. No condition. -/
import Derived.Test.YtaomkjcclcgdlaaGreatDoorL5
set_option linter.all false
namespace Go.Proofs.YtaomkjcclcgdlaaGreatDoor
open Go Ar
set_option linter.unusedVariables false
set_option autoImplicit false
set_option maxHeartbeats 4000000
set_option maxRecDepth 100000

abbrev QBeg (p : Pol) (l : Ln) : AV → Prop := fun r => ∃ w, r = encWrkN w ∧ w.p = p ∧ w.l.plan.length = l.plan.length ∧ w.notices = [] ∧ w.l.id = l.id

theorem fin_v1 {N : Nat} {rs : List RV} {e : Env} {o : Objs} {n : Nat} {p : Pol} {l : Ln} (h : resA e o rs fun q => forceL q fun q => ∃ l' k, packA q = encWrkN ⟨p, l', ⟨0, 0, 0, 0, 0⟩, [], k⟩ ∧ l'.plan.length = l.plan.length ∧ l'.id = l.id) : FinP gl0 N rs (QBeg p l) e o n :=
  ⟨e, o, n, LeSt.refl gl0 N e o n, resA_mono rs (fun q hq => by
    obtain ⟨l', k, h1, h2⟩ := forceL_iff.1 hq
    exact ⟨_, nf_encWrkN _, ⟨_, rfl, rfl, h2.1, rfl, h2.2⟩, Le.of_eq h1⟩) h⟩

theorem r14_begin_s (p : Pol) (l : Ln) (hp : hasI p) (h : l.plan.length ≤ 1000) : PureX Tryz.prog gl0 r14_begin [encPol p, encLn l] (QBeg p l) := by
  refine pure_fnX mixed fn_r14_begin nt_r14_begin hc_r14_begin (by simp) gl0n (by simp [nf]) ?_
  conv => whnf
  repeat' first
    | (refine br_dec (fun h0 => ?_) (fun h0 => ?_) <;> (conv => whnf))
    | (refine br_intro (fun hb => ?_) (fun hb => ?_) <;> ((try rw [hb]); (conv => whnf); (try simp at hb)))
    | (refine call_x2 (r12_Check_s p hp) ⟨Le.refl _, trivial⟩ ?_; (first | (rintro _ - ⟨_, rfl⟩) | (rintro _ - ⟨_, rfl, _⟩) | (rintro _ - ⟨_, _, rfl⟩) | (rintro _ - ⟨_, _, rfl, _⟩) | (rintro _ - ⟨_, _, _, rfl⟩) | (rintro _ - ⟨_, _, _, rfl, _⟩)); (conv => whnf))
    | (refine call_x2 (r14_copied_s l h) (LeL.refl _) ?_; (rintro _ - ⟨l', rfl, hl'⟩); (conv => whnf))
    | (refine fin_v1 (p := p) (l := l) ?_; (conv => whnf); exact ⟨l', _, rfl, hl'⟩)
    | (refine aI ?_; (conv => whnf))
    | (refine fin_e ?_; (conv => whnf); exact lfA)
    | fail

theorem r14_settled_t (w : Wrk) (hp : hasI w.p) (h : w.notices.length ≤ 900000) (hpl : w.l.plan.length ≤ 1000) : PureTX Tryz.prog gl0 r14_settled [encWrkT LENT w] 6 131 (w.notices.length) (QW w 4) := by
  refine pureT_fnX mixed fn_r14_settled nt_r14_settled hc_r14_settled (by simp) gl0n (by simp [nt, nt_encs, nt_encT_Ety, nt_encT_Ntc, nt_encWrkT, nt_nf _ (nf_encLn _), nt_nf _ (nfL_Ety _ _), nt_nf _ (nf_encEvt _)]) [(LENT, .room (w.notices.length) 6 131)] (LeSt.refl gl0 _ _ _ _) ?_
  conv => whnf
  repeat' first
    | (refine br_dec (fun h0 => ?_) (fun h0 => ?_) <;> (conv => whnf))
    | (refine br_intro (fun hb => ?_) (fun hb => ?_) <;> ((try rw [hb]); (conv => whnf); (try simp at hb)))
    | (refine call_x2 (r14_owed_s w.l) (LeL.refl _) ?_; (rintro _ - ⟨_, rfl⟩); (conv => whnf))
    | (refine call_tx (args2 := [encWrkT LENT _, _]) (r14_played_u ⟨⟨_, _, _, _, _, _, _, _, _, _, _, _, _, _, _, _, _, _⟩, ⟨_, ⟨_, _, _, _, _, _⟩, _, _, ⟨_, _, _, _, _, _, _, _, _, _, _, _, _, _, _⟩, _, _, _, ⟨_, _, _, _, _⟩, _, _, _⟩, ⟨_, _, _, _, _⟩, _, _⟩ ⟨_, _, _, _⟩ ?_ ?_ ?_ _ ?_) (t := LENT) rfl (by rw [List.map_cons, ren_WrkT] <;> rfl) (.inl ⟨le_WrkT .., le_Evt .., trivial⟩) ?_; (first | rfl | omega | ((try dsimp only [hasI, List.length_nil] at *); omega) | (with_reducible assumption)); (first | rfl | omega | ((try dsimp only [hasI, List.length_nil] at *); omega) | (with_reducible assumption)); (first | rfl | omega | ((try dsimp only [hasI, List.length_nil] at *); omega) | (with_reducible assumption)); (first | rfl | omega | ((try dsimp only [hasI, List.length_nil] at *); omega) | (with_reducible assumption)); (rintro _ _ - ⟨w1, rfl, rfl, q1, q2, q3⟩);  (rw [ren_WrkT]); (conv => whnf))
    | (refine fin_w rfl ?_; (conv => whnf); exact ⟨_, leA_WrkT .., rfl, rfl, rfl, Nat.le_add_right _ _, rfl⟩)
    | (refine fin_w rfl ?_; (conv => whnf); exact ⟨_, leA_WrkT .., rfl, by simp_all, by simp_all, by (dsimp only at *; omega)⟩)
    | (refine aI ?_; (conv => whnf))
    | (refine fin_e ?_; (conv => whnf); exact lfA)
    | fail


theorem r14_settled_u (w : Wrk) (hp : hasI w.p) (h : w.notices.length ≤ 900000) (hpl : w.l.plan.length ≤ 1000) (m_ : Nat) (hm_ : m_ = w.notices.length) : PureTX Tryz.prog gl0 r14_settled [encWrkT LENT w] 6 131 m_ (QW w 4) := by
  subst hm_
  apply r14_settled_t <;> assumption

theorem r14_accrued_t (w : Wrk) (n : Int) : PureTX Tryz.prog gl0 r14_accrued [encWrkT LENT w, I n] 6 131 (w.notices.length) (QW w 0) := by
  refine pureT_fnX mixed fn_r14_accrued nt_r14_accrued hc_r14_accrued (by simp) gl0n (by simp [nt, nt_encs, nt_encT_Ety, nt_encT_Ntc, nt_encWrkT, nt_nf _ (nf_encLn _), nt_nf _ (nfL_Ety _ _), nt_nf _ (nf_encEvt _)]) [(LENT, .room (w.notices.length) 6 131)] (LeSt.refl gl0 _ _ _ _) ?_
  conv => whnf
  repeat' first
    | (refine br_dec (fun h0 => ?_) (fun h0 => ?_) <;> (conv => whnf))
    | (refine br_intro (fun hb => ?_) (fun hb => ?_) <;> ((try rw [hb]); (conv => whnf); (try simp at hb)))
    | (refine call_x2 (r14_over_s _) ⟨le_Ln .., trivial⟩ ?_; (rintro _ - ⟨_ | _, rfl⟩) <;> (conv => whnf))
    | (refine call_x2 (r14_of_s _ _) ⟨le_Ln .., Le.refl _, trivial⟩ ?_; (rintro _ - ⟨_, rfl⟩); (conv => whnf))
    | (refine call_x2 (r3_Span_s _ _ _ _) (LeL.refl _) ?_; (rintro _ - ⟨_, _, _ | _, rfl⟩) <;> (conv => whnf))
    | (refine call_x2 (r14_move_n _ _ _) (LeL.refl _) ?_; (rintro _ - ⟨ys, rfl, hy⟩); (conv => whnf))
    | (refine call_tx (args2 := [encWrkT LENT _, _, _]) (r14_fail_u ⟨⟨_, _, _, _, _, _, _, _, _, _, _, _, _, _, _, _, _, _⟩, ⟨_, ⟨_, _, _, _, _, _⟩, _, _, ⟨_, _, _, _, _, _, _, _, _, _, _, _, _, _, _⟩, _, _, _, ⟨_, _, _, _, _⟩, _, _, _⟩, ⟨_, _, _, _, _⟩, _, _⟩ _ _ _ ?_) (t := LENT) rfl (by rw [List.map_cons, ren_WrkT] <;> rfl) (.inl ⟨le_WrkT .., Le.refl _, Le.refl _, trivial⟩) ?_; (first | rfl | omega | ((try dsimp only [hasI, List.length_nil] at *); omega) | (with_reducible assumption)); (rintro _ _ - ⟨w1, rfl, rfl, q1, q2, q3⟩);  (rw [ren_WrkT]); (conv => whnf))
    | (refine call_tx (args2 := [encWrkT LENT _, _]) (r14_posted_u ⟨⟨_, _, _, _, _, _, _, _, _, _, _, _, _, _, _, _, _, _⟩, ⟨_, ⟨_, _, _, _, _, _⟩, _, _, ⟨_, _, _, _, _, _, _, _, _, _, _, _, _, _, _⟩, _, _, _, ⟨_, _, _, _, _⟩, _, _, _⟩, ⟨_, _, _, _, _⟩, _, _⟩ _ ?_ _ ?_) (t := LENT) rfl (by rw [List.map_cons, ren_WrkT] <;> rfl) (.inl ⟨le_WrkT .., Le.refl _, trivial⟩) ?_; (first | rfl | omega | ((try dsimp only [hasI, List.length_nil] at *); omega) | (with_reducible assumption)); (first | rfl | omega | ((try dsimp only [hasI, List.length_nil] at *); omega) | (with_reducible assumption)); (rintro _ _ - ⟨w1, rfl, rfl, q1, q2, q3⟩);  (rw [ren_WrkT]); (conv => whnf))
    | (refine fin_w rfl ?_; (conv => whnf); exact ⟨_, leA_WrkT .., rfl, rfl, rfl, Nat.le_refl _, rfl⟩)
    | (refine fin_w rfl ?_; (conv => whnf); exact ⟨_, leA_WrkT .., rfl, by simp_all, by simp_all, by (dsimp only at *; omega)⟩)
    | (refine aI ?_; (conv => whnf))
    | (refine fin_e ?_; (conv => whnf); exact lfA)
    | fail


theorem r14_accrued_u (w : Wrk) (n : Int) (m_ : Nat) (hm_ : m_ = w.notices.length) : PureTX Tryz.prog gl0 r14_accrued [encWrkT LENT w, I n] 6 131 m_ (QW w 0) := by
  subst hm_
  apply r14_accrued_t <;> assumption

end Go.Proofs.YtaomkjcclcgdlaaGreatDoor
namespace Go.Proofs.YtaomkjcclcgdlaaGreatDoor
open Go Ar
set_option linter.unusedVariables false
set_option autoImplicit false
set_option maxHeartbeats 4000000
set_option maxRecDepth 100000

theorem r14_charged_t (w : Wrk) (hp : hasI w.p) (h : w.notices.length ≤ 800000) (hpl : w.l.plan.length ≤ 1000) : PureTX Tryz.prog gl0 r14_charged [encWrkT LENT w] 6 131 (w.notices.length) (QW w 5000) := by
  refine pureT_fnX mixed fn_r14_charged nt_r14_charged hc_r14_charged (by simp) gl0n (by simp [nt, nt_encs, nt_encT_Ety, nt_encT_Ntc, nt_encWrkT, nt_nf _ (nf_encLn _), nt_nf _ (nfL_Ety _ _), nt_nf _ (nf_encEvt _)]) [(LENT, .room (w.notices.length) 6 131)] (LeSt.refl gl0 _ _ _ _) ?_
  conv => whnf
  repeat' first
    | (refine br_dec (fun h0 => ?_) (fun h0 => ?_) <;> (conv => whnf))
    | (refine br_intro (fun hb => ?_) (fun hb => ?_) <;> ((try rw [hb]); (conv => whnf); (try simp at hb)))
    | (refine call_x2 (r13_Open_s ⟨_, _, _, _, _, _, _, _, _, _, _, _, _, _, _⟩) ⟨le_Cse .., trivial⟩ ?_; rintro _ - rfl; (conv => whnf))
    | (refine call_x2 (r14_Position_s _) ⟨le_Ln .., trivial⟩ ?_; (rintro _ - ⟨_, rfl⟩); (conv => whnf))
    | (refine call_x2 (r10_Missed_s w.l.plan _ _ _ hpl) (LeL.refl _) ?_; (rintro _ - ⟨ys, rfl, hy1, hy2⟩); (conv => whnf))
    | (refine fin_w rfl ?_; (conv => whnf); exact ⟨_, leA_WrkT .., rfl, rfl, rfl, Nat.le_add_right _ _, rfl⟩)
    | (refine aI ?_; (conv => whnf))
    | (refine fin_e ?_; (conv => whnf); exact lfA)
    | fail
  refine loop_at mixed (fun (y : Nat × Wrk) => ([(4, I y.1), (3, encL I 1 ys), (1, .ptr 0 []), (2, .ptr 1 [])], [(0, .box (encWrkT LENT y.2)), (1, .box zWrk), (LENT, .room y.2.notices.length 6 131)], 2)) (fun y => y.1 ≤ ys.length ∧ y.2.p = w.p ∧ y.2.l.plan.length = w.l.plan.length ∧ y.2.notices.length ≤ w.notices.length + 5 * y.1 ∧ y.2.l.id = w.l.id) (fun y => ys.length - y.1) (0, _) ?_ (le_st (le_r rfl) (leE_i rfl rfl (leE_eq rfl (bnd_nf _ (nfL_I _ _)) (leE_ptr rfl rfl (leE_ptr rfl rfl trivial)))) (leO_box (lt_r rfl) rfl (leA_WrkT LENT ..) (bnd_nt _ (nt_encWrkT _)) (leO_box (lt_r rfl) rfl (LeA.refl _) (bnd_nf _ nf_zWrk) (leO_lent rfl rfl trivial))) gl0n) ?_
  · exact ⟨Nat.zero_le _, rfl, rfl, Nat.le_refl _, rfl⟩
  rintro ⟨k, v⟩ ⟨hk, e1, e2, e3⟩
  dsimp only at hk e1 e2 e3 ⊢
  have hpv : hasI v.p := e1 ▸ hp
  conv => whnf
  have hn : (ys.length : Int) < 9223372036854775808 := by omega
  by_cases c : k < ys.length
  · refine br_true (decide_eq_true ((by omega : (k : Int) < ys.length))) ?_
    conv => whnf
    have hat := hy2 (at_ ys k) (at_mem c)
    refine ⟨by omega, ?_⟩
    conv => whnf
    refine And.intro ⟨hat.1, by rw [e2]; exact hat.2⟩ ?_
    conv => whnf
    repeat' first
      | (refine br_dec (fun h0 => ?_) (fun h0 => ?_) <;> (conv => whnf))
      | (refine br_intro (fun hb => ?_) (fun hb => ?_) <;> ((try rw [hb]); (conv => whnf); (try simp at hb)))
      | (refine call_x2 (r12_Assess_s ⟨_, _, _, _, _, _, _, _, _, _, _, _, _, _, _, _, _, _⟩ _ _ _ hpv) ⟨le_Pol .., Le.refl _, Le.refl _, Le.refl _, trivial⟩ ?_; (rintro _ - ⟨_, rfl⟩); (conv => whnf))
      | (refine call_tx (args2 := [encWrkT LENT _, _]) (r14_played_u ⟨⟨_, _, _, _, _, _, _, _, _, _, _, _, _, _, _, _, _, _⟩, ⟨_, ⟨_, _, _, _, _, _⟩, _, _, ⟨_, _, _, _, _, _, _, _, _, _, _, _, _, _, _⟩, _, _, _, ⟨_, _, _, _, _⟩, _, _, _⟩, ⟨_, _, _, _, _⟩, _, _⟩ ⟨_, _, _, _⟩ ?_ ?_ ?_ _ ?_) (t := LENT) rfl (by rw [List.map_cons, ren_WrkT] <;> rfl) (.inl ⟨le_WrkT .., le_Evt .., trivial⟩) ?_; (first | rfl | omega | ((try dsimp only [hasI, List.length_nil] at *); omega) | (with_reducible assumption)); (first | rfl | omega | ((try dsimp only [hasI, List.length_nil] at *); omega) | (with_reducible assumption)); (first | rfl | omega | ((try dsimp only [hasI, List.length_nil] at *); omega) | (with_reducible assumption)); (first | rfl | omega | ((try dsimp only [hasI, List.length_nil] at *); omega) | (with_reducible assumption)); (rintro _ _ - ⟨w1, rfl, rfl, q1, q2, q3⟩);  (rw [ren_WrkT]); (conv => whnf))
      | (refine call_x2 (r14_move_n _ _ _) (LeL.refl _) ?_; (rintro _ - ⟨zs, rfl, hz⟩); (conv => whnf))
      | (refine call_tx (args2 := [encWrkT LENT _, _]) (r14_posted_u ⟨⟨_, _, _, _, _, _, _, _, _, _, _, _, _, _, _, _, _, _⟩, ⟨_, ⟨_, _, _, _, _, _⟩, _, _, ⟨_, _, _, _, _, _, _, _, _, _, _, _, _, _, _⟩, _, _, _, ⟨_, _, _, _, _⟩, _, _, _⟩, ⟨_, _, _, _, _⟩, _, _⟩ _ ?_ _ ?_) (t := LENT) rfl (by rw [List.map_cons, ren_WrkT] <;> rfl) (.inl ⟨le_WrkT .., Le.refl _, trivial⟩) ?_; (first | rfl | omega | ((try dsimp only [hasI, List.length_nil] at *); omega) | (with_reducible assumption)); (first | rfl | omega | ((try dsimp only [hasI, List.length_nil] at *); omega) | (with_reducible assumption)); (rintro _ _ - ⟨w1, rfl, rfl, q1, q2, q3⟩);  (rw [ren_WrkT]); (conv => whnf))
      | (refine call_tx (args2 := [encWrkT LENT _, _, _]) (r14_noted_u ⟨⟨_, _, _, _, _, _, _, _, _, _, _, _, _, _, _, _, _, _⟩, ⟨_, ⟨_, _, _, _, _, _⟩, _, _, ⟨_, _, _, _, _, _, _, _, _, _, _, _, _, _, _⟩, _, _, _, ⟨_, _, _, _, _⟩, _, _, _⟩, ⟨_, _, _, _, _⟩, _, _⟩ _ _ ?_ _ ?_) (t := LENT) rfl (by rw [List.map_cons, ren_WrkT] <;> rfl) (.inl ⟨le_WrkT .., Le.refl _, Le.refl _, trivial⟩) ?_; (first | rfl | omega | ((try dsimp only [hasI, List.length_nil] at *); omega) | (with_reducible assumption)); (first | rfl | omega | ((try dsimp only [hasI, List.length_nil] at *); omega) | (with_reducible assumption)); (rintro _ _ - ⟨w1, rfl, rfl, q1, q2, q3⟩);  (rw [ren_WrkT]); (conv => whnf))
      | (refine ⟨(k + 1, _), ?_, (by show ys.length - (k + 1) < ys.length - k; omega), (le_st (le_r rfl) (leE_i rfl (inc_id c hn) (leE_eq rfl (bnd_nf _ (nfL_I _ _)) (leE_ptr rfl rfl (leE_ptr rfl rfl trivial)))) (leO_box (lt_r rfl) rfl (leA_WrkT LENT ..) (bnd_nt _ (nt_encWrkT _)) (leO_box (lt_r rfl) rfl (LeA.refl _) (bnd_nf _ nf_zWrk) (leO_lent rfl rfl trivial))) gl0n)⟩; exact ⟨c, by simp_all, by simp_all, by (dsimp only at *; omega)⟩)
      | (refine aI ?_; (conv => whnf))
      | (refine fin_e ?_; (conv => whnf); exact lfA)
      | fail
  · refine br_false (decide_eq_false ((by omega : ¬ ((k : Int) < ys.length)))) ?_
    conv => whnf
    repeat' first
      | (refine br_dec (fun h0 => ?_) (fun h0 => ?_) <;> (conv => whnf))
      | (refine br_intro (fun hb => ?_) (fun hb => ?_) <;> ((try rw [hb]); (conv => whnf); (try simp at hb)))
      | (refine call_x2 (r10_Mark_s v.l.plan ys (by omega) (by omega)) (LeL.refl _) ?_; (rintro _ - ⟨ps, rfl, hps⟩); (conv => whnf))
      | (refine fin_w rfl ?_; (conv => whnf); exact ⟨_, leA_WrkT .., rfl, by simp_all, by simp_all, by (dsimp only at *; omega)⟩)
      | (refine aI ?_; (conv => whnf))
      | (refine fin_e ?_; (conv => whnf); exact lfA)
      | fail


theorem r14_charged_u (w : Wrk) (hp : hasI w.p) (h : w.notices.length ≤ 800000) (hpl : w.l.plan.length ≤ 1000) (m_ : Nat) (hm_ : m_ = w.notices.length) : PureTX Tryz.prog gl0 r14_charged [encWrkT LENT w] 6 131 m_ (QW w 5000) := by
  subst hm_
  apply r14_charged_t <;> assumption

end Go.Proofs.YtaomkjcclcgdlaaGreatDoor
namespace Go.Proofs.YtaomkjcclcgdlaaGreatDoor
open Go Ar
set_option linter.unusedVariables false
set_option autoImplicit false
set_option maxHeartbeats 4000000
set_option maxRecDepth 100000

structure HI (p : Pol) : Prop where
  h : hasI p
theorem HI_of {p q : Pol} (h : p = q) (hq : HI q) : HI p := h ▸ hq

theorem ren_Ln {τ : Nat → Nat} {l : Ln} : ren τ (encLn l) = encLn l := ren_nf _ _ (nf_encLn _)

theorem leN_WrkN {t : Nat} (w : Wrk) : LeN t (encWrkN w) (encWrkT t ⟨w.p, w.l, w.parts, [], w.err⟩) := fun g wd u h0 hu => by
  obtain ⟨cs, h1, h2, h3⟩ := hu
  refine ⟨cs, h1, h2, h3.1, h3.2.1, h3.2.2.1, ?_, h3.2.2.2.2⟩
  obtain ⟨v, hv, rfl, hc⟩ := h3.2.2.2.1
  refine ⟨_, hv, ?_, hc⟩
  exact ⟨none, 0, rfl, Nat.le_refl _, ⟨none, 0, h0, Nat.le_refl _, fun _ => ⟨rfl, fun b hb => by cases hb⟩⟩, ⟨rfl, rfl⟩⟩
theorem leN_mk {t : Nat} (p : Pol) (l : Ln) (ps : Prt) (e : Int) : LeN t (encWrkN ⟨p, l, ps, [], e⟩) (encWrkT t ⟨p, l, ps, [], e⟩) := leN_WrkN _

theorem r14_parted_s (p : Pol) (l : Ln) (a : Int) : PureX Tryz.prog gl0 r14_parted [encPol p, encLn l, I a] (QPI) := by
  refine pure_fnX mixed fn_r14_parted nt_r14_parted hc_r14_parted (by simp) gl0n (by simp [nf]) ?_
  conv => whnf
  repeat' first
    | (refine br_dec (fun h0 => ?_) (fun h0 => ?_) <;> (conv => whnf))
    | (refine br_intro (fun hb => ?_) (fun hb => ?_) <;> ((try rw [hb]); (conv => whnf); (try simp at hb)))
    | (refine call_x2 (r14_of_s l _) ⟨Le.refl _, Le.refl _, trivial⟩ ?_; (first | (rintro _ - ⟨_, rfl⟩) | (rintro _ - ⟨_, rfl, _⟩) | (rintro _ - ⟨_, _, rfl⟩) | (rintro _ - ⟨_, _, rfl, _⟩) | (rintro _ - ⟨_, _, _, rfl⟩) | (rintro _ - ⟨_, _, _, rfl, _⟩)); (conv => whnf))
    | (refine call_x2 (r14_owed_s l) ⟨Le.refl _, trivial⟩ ?_; (first | (rintro _ - ⟨_, rfl⟩) | (rintro _ - ⟨_, rfl, _⟩) | (rintro _ - ⟨_, _, rfl⟩) | (rintro _ - ⟨_, _, rfl, _⟩) | (rintro _ - ⟨_, _, _, rfl⟩) | (rintro _ - ⟨_, _, _, rfl, _⟩)); (conv => whnf))
    | (refine call_x2 (r9_Recover_s _ _) ⟨Le.refl _, Le.refl _, trivial⟩ ?_; (first | (rintro _ - ⟨_, rfl⟩) | (rintro _ - ⟨_, rfl, _⟩) | (rintro _ - ⟨_, _, rfl⟩) | (rintro _ - ⟨_, _, rfl, _⟩) | (rintro _ - ⟨_, _, _, rfl⟩) | (rintro _ - ⟨_, _, _, rfl, _⟩)); (conv => whnf))
    | (refine call_x2 (r9_Allocate_s _ _ _) (LeL.refl _) ?_; (rintro _ - ⟨_, _, rfl⟩); (conv => whnf))
    | (refine fin_e ?_; (conv => whnf); exact ⟨by simp [packA, consL, nf], _, _, congr (congrArg tup2 (mk_Prt ..)) rfl⟩)
    | (refine aI ?_; (conv => whnf))
    | (refine fin_e ?_; (conv => whnf); exact lfA)
    | fail

theorem r14_wrong_s (t : Trm) : PureX Tryz.prog gl0 r14_wrong [encTrm t] (QB) := by
  refine pure_fnX mixed fn_r14_wrong nt_r14_wrong hc_r14_wrong (by simp) gl0n (by simp [nf]) ?_
  conv => whnf
  repeat' first
    | (refine br_dec (fun h0 => ?_) (fun h0 => ?_) <;> (conv => whnf))
    | (refine br_intro (fun hb => ?_) (fun hb => ?_) <;> ((try rw [hb]); (conv => whnf); (try simp at hb)))
    | (refine aI ?_; (conv => whnf))
    | (refine fin_e ?_; (conv => whnf); exact lfA)
    | fail

abbrev QO (id : Int) : AV → Prop := fun r => ∃ o, r = encOtc o ∧ o.loan.plan.length ≤ 1000 ∧ o.notices.length ≤ 10000 ∧ (o.err = 0 → o.loan.id = id)

theorem r14_Refund_s (p : Pol) (l : Ln) (a : Int) (hp : hasI p) (h : l.plan.length ≤ 1000) : PureX Tryz.prog gl0 r14_Refund [encPol p, encLn l, I a] (QO l.id) := by
  refine pure_fnXg mixed fn_r14_Refund nt_r14_Refund hc_r14_Refund (by simp) gl0n (by simp [nf]) [(1000001, .room 0 6 131)] (le_ghost 1000001 6 131 gl0n (noE_enum _ _ (by simp [NoT, noT_nf _ (nf_encPol _), noT_nf _ (nf_encLn _), noT_nf _ (nf_encTrm _)])) trivial rfl) ?_
  conv => whnf
  repeat' first
    | (refine br_dec (fun h0 => ?_) (fun h0 => ?_) <;> (conv => whnf))
    | (refine br_intro (fun hb => ?_) (fun hb => ?_) <;> ((try rw [hb]); (conv => whnf); (try simp at hb)))
    | (refine call_x2 (r14_begin_s p l hp h) (LeL.refl _) ?_; (rintro _ - ⟨⟨p0, l0, s0, n0, k0⟩, rfl, e1, e2, -, e5⟩); (dsimp only at e1 e2 e5); (have e3 := HI_of e1 ⟨hp⟩); (have e4 := e3.h); (dsimp only [hasI] at e4); (conv => whnf))
    | (refine call_x2 (r14_of_s l _) ⟨Le.refl _, Le.refl _, trivial⟩ ?_; (first | (rintro _ - ⟨_, rfl⟩) | (rintro _ - ⟨_, rfl, _⟩) | (rintro _ - ⟨_, _, rfl⟩) | (rintro _ - ⟨_, _, rfl, _⟩) | (rintro _ - ⟨_, _, _, rfl⟩) | (rintro _ - ⟨_, _, _, rfl, _⟩)); (conv => whnf))
    | (refine call_x2 (r14_move_n _ _ _) (LeL.refl _) ?_; (rintro _ - ⟨zs, rfl, hz⟩); (conv => whnf))
    | (show CallB _ _ _ _ ((.st (.cons _ (.cons _ (.cons _ (.cons (.val (.slice none 0 0)) _))))) :: _) _ _ _; refine call_tx (args2 := [encWrkT 1000001 _, _, _]) (r14_fail_u ⟨⟨_, _, _, _, _, _, _, _, _, _, _, _, _, _, _, _, _, _⟩, ⟨_, ⟨_, _, _, _, _, _⟩, _, _, ⟨_, _, _, _, _, _, _, _, _, _, _, _, _, _, _⟩, _, _, _, ⟨_, _, _, _, _⟩, _, _, _⟩, ⟨_, _, _, _, _⟩, [], _⟩ _ _ _ ?_) (t := 1000001) rfl (by rw [List.map_cons, ren_WrkT] <;> rfl) (.inr ⟨by decide, rfl, leN_mk ⟨_, _, _, _, _, _, _, _, _, _, _, _, _, _, _, _, _, _⟩ ⟨_, ⟨_, _, _, _, _, _⟩, _, _, ⟨_, _, _, _, _, _, _, _, _, _, _, _, _, _, _⟩, _, _, _, ⟨_, _, _, _, _⟩, _, _, _⟩ ⟨_, _, _, _, _⟩ _, leN_refl _ _, leN_refl _ _, trivial⟩) ?_; (first | rfl | omega | ((try dsimp only [hasI, List.length_nil] at *); omega) | (with_reducible assumption)); (rintro _ _ - ⟨w1, rfl, rfl, q1, q2, q3⟩); (have q4 := HI_of q1 (by assumption)); (have q5 := q4.h); (dsimp only [hasI, List.length_nil] at q2 q3 q5); (clear q1); (rw [ren_WrkT]); (conv => whnf))
    | (refine call_tx (args2 := [encWrkT 1000001 _, _, _]) (r14_fail_u ⟨⟨_, _, _, _, _, _, _, _, _, _, _, _, _, _, _, _, _, _⟩, ⟨_, ⟨_, _, _, _, _, _⟩, _, _, ⟨_, _, _, _, _, _, _, _, _, _, _, _, _, _, _⟩, _, _, _, ⟨_, _, _, _, _⟩, _, _, _⟩, ⟨_, _, _, _, _⟩, _, _⟩ _ _ _ ?_) (t := 1000001) rfl (by rw [List.map_cons, ren_WrkT] <;> rfl) (.inl ⟨le_WrkT .., Le.refl _, Le.refl _, trivial⟩) ?_; (first | rfl | omega | ((try dsimp only [hasI, List.length_nil] at *); omega) | (with_reducible assumption)); (rintro _ _ - ⟨w1, rfl, rfl, q1, q2, q3⟩); (have q4 := HI_of q1 (by assumption)); (have q5 := q4.h); (dsimp only [hasI, List.length_nil] at q2 q3 q5); (clear q1); (rw [ren_WrkT]); (conv => whnf))
    | (refine call_tx (args2 := [encWrkT 1000001 _, _]) (r14_posted_u ⟨⟨_, _, _, _, _, _, _, _, _, _, _, _, _, _, _, _, _, _⟩, ⟨_, ⟨_, _, _, _, _, _⟩, _, _, ⟨_, _, _, _, _, _, _, _, _, _, _, _, _, _, _⟩, _, _, _, ⟨_, _, _, _, _⟩, _, _, _⟩, ⟨_, _, _, _, _⟩, _, _⟩ _ ?_ _ ?_) (t := 1000001) rfl (by rw [List.map_cons, ren_WrkT] <;> rfl) (.inl ⟨le_WrkT .., Le.refl _, trivial⟩) ?_; (first | rfl | omega | ((try dsimp only [hasI, List.length_nil] at *); omega) | (with_reducible assumption)); (first | rfl | omega | ((try dsimp only [hasI, List.length_nil] at *); omega) | (with_reducible assumption)); (rintro _ _ - ⟨w1, rfl, rfl, q1, q2, q3⟩); (have q4 := HI_of q1 (by assumption)); (have q5 := q4.h); (dsimp only [hasI, List.length_nil] at q2 q3 q5); (clear q1); (rw [ren_WrkT]); (conv => whnf))
    | (refine call_tx (args2 := [encWrkT 1000001 _, encLn _]) (r14_done_u ⟨⟨_, _, _, _, _, _, _, _, _, _, _, _, _, _, _, _, _, _⟩, ⟨_, ⟨_, _, _, _, _, _⟩, _, _, ⟨_, _, _, _, _, _, _, _, _, _, _, _, _, _, _⟩, _, _, _, ⟨_, _, _, _, _⟩, _, _, _⟩, ⟨_, _, _, _, _⟩, _, _⟩ ⟨_, ⟨_, _, _, _, _, _⟩, _, _, ⟨_, _, _, _, _, _, _, _, _, _, _, _, _, _, _⟩, _, _, _, ⟨_, _, _, _, _⟩, _, _, _⟩ ?_ _ ?_) (t := 1000001) rfl (by rw [List.map_cons, ren_WrkT, List.map_cons, ren_Ln] <;> rfl) (.inl ⟨le_WrkT .., le_Ln .., trivial⟩) ?_; (first | rfl | omega | ((try dsimp only [hasI, List.length_nil] at *); omega)); (first | rfl | omega | ((try dsimp only [hasI, List.length_nil] at *); omega)); (rintro _ _ - ⟨o1, rfl, q2, q3⟩); (rw [ren_nf _ _ (nf_encOtc _)]); (conv => whnf); refine fin_r (encOtc o1) (nf_encOtc _) ⟨_, rfl, ?_, ?_⟩ ?_; clear q3; dsimp only at q2; omega; clear q2; dsimp only at q3; omega; (conv => whnf); exact Le.refl _)
    | (refine aI ?_; (conv => whnf))
    | (refine fin_e ?_; (conv => whnf); exact lfA)
    | fail

theorem r14_Waive_s (p : Pol) (l : Ln) (a : Int) (hp : hasI p) (h : l.plan.length ≤ 1000) : PureX Tryz.prog gl0 r14_Waive [encPol p, encLn l, I a] (QO l.id) := by
  refine pure_fnXg mixed fn_r14_Waive nt_r14_Waive hc_r14_Waive (by simp) gl0n (by simp [nf]) [(1000001, .room 0 6 131)] (le_ghost 1000001 6 131 gl0n (noE_enum _ _ (by simp [NoT, noT_nf _ (nf_encPol _), noT_nf _ (nf_encLn _), noT_nf _ (nf_encTrm _)])) trivial rfl) ?_
  conv => whnf
  repeat' first
    | (refine br_dec (fun h0 => ?_) (fun h0 => ?_) <;> (conv => whnf))
    | (refine br_intro (fun hb => ?_) (fun hb => ?_) <;> ((try rw [hb]); (conv => whnf); (try simp at hb)))
    | (refine call_x2 (r14_begin_s p l hp h) (LeL.refl _) ?_; (rintro _ - ⟨⟨p0, l0, s0, n0, k0⟩, rfl, e1, e2, -, e5⟩); (dsimp only at e1 e2 e5); (have e3 := HI_of e1 ⟨hp⟩); (have e4 := e3.h); (dsimp only [hasI] at e4); (conv => whnf))
    | (refine call_x2 (r14_of_s l _) ⟨Le.refl _, Le.refl _, trivial⟩ ?_; (first | (rintro _ - ⟨_, rfl⟩) | (rintro _ - ⟨_, rfl, _⟩) | (rintro _ - ⟨_, _, rfl⟩) | (rintro _ - ⟨_, _, rfl, _⟩) | (rintro _ - ⟨_, _, _, rfl⟩) | (rintro _ - ⟨_, _, _, rfl, _⟩)); (conv => whnf))
    | (refine call_x2 (r14_over_s l) ⟨Le.refl _, trivial⟩ ?_; (first | (rintro _ - ⟨_, rfl⟩) | (rintro _ - ⟨_, rfl, _⟩) | (rintro _ - ⟨_, _, rfl⟩) | (rintro _ - ⟨_, _, rfl, _⟩) | (rintro _ - ⟨_, _, _, rfl⟩) | (rintro _ - ⟨_, _, _, rfl, _⟩)); (conv => whnf))
    | (refine call_x2 (r14_move_n _ _ _) (LeL.refl _) ?_; (rintro _ - ⟨zs, rfl, hz⟩); (conv => whnf))
    | (show CallB _ _ _ _ ((.st (.cons _ (.cons _ (.cons _ (.cons (.val (.slice none 0 0)) _))))) :: _) _ _ _; refine call_tx (args2 := [encWrkT 1000001 _, _, _]) (r14_fail_u ⟨⟨_, _, _, _, _, _, _, _, _, _, _, _, _, _, _, _, _, _⟩, ⟨_, ⟨_, _, _, _, _, _⟩, _, _, ⟨_, _, _, _, _, _, _, _, _, _, _, _, _, _, _⟩, _, _, _, ⟨_, _, _, _, _⟩, _, _, _⟩, ⟨_, _, _, _, _⟩, [], _⟩ _ _ _ ?_) (t := 1000001) rfl (by rw [List.map_cons, ren_WrkT] <;> rfl) (.inr ⟨by decide, rfl, leN_mk ⟨_, _, _, _, _, _, _, _, _, _, _, _, _, _, _, _, _, _⟩ ⟨_, ⟨_, _, _, _, _, _⟩, _, _, ⟨_, _, _, _, _, _, _, _, _, _, _, _, _, _, _⟩, _, _, _, ⟨_, _, _, _, _⟩, _, _, _⟩ ⟨_, _, _, _, _⟩ _, leN_refl _ _, leN_refl _ _, trivial⟩) ?_; (first | rfl | omega | ((try dsimp only [hasI, List.length_nil] at *); omega) | (with_reducible assumption)); (rintro _ _ - ⟨w1, rfl, rfl, q1, q2, q3⟩); (have q4 := HI_of q1 (by assumption)); (have q5 := q4.h); (dsimp only [hasI, List.length_nil] at q2 q3 q5); (clear q1); (rw [ren_WrkT]); (conv => whnf))
    | (refine call_tx (args2 := [encWrkT 1000001 _, _, _]) (r14_fail_u ⟨⟨_, _, _, _, _, _, _, _, _, _, _, _, _, _, _, _, _, _⟩, ⟨_, ⟨_, _, _, _, _, _⟩, _, _, ⟨_, _, _, _, _, _, _, _, _, _, _, _, _, _, _⟩, _, _, _, ⟨_, _, _, _, _⟩, _, _, _⟩, ⟨_, _, _, _, _⟩, _, _⟩ _ _ _ ?_) (t := 1000001) rfl (by rw [List.map_cons, ren_WrkT] <;> rfl) (.inl ⟨le_WrkT .., Le.refl _, Le.refl _, trivial⟩) ?_; (first | rfl | omega | ((try dsimp only [hasI, List.length_nil] at *); omega) | (with_reducible assumption)); (rintro _ _ - ⟨w1, rfl, rfl, q1, q2, q3⟩); (have q4 := HI_of q1 (by assumption)); (have q5 := q4.h); (dsimp only [hasI, List.length_nil] at q2 q3 q5); (clear q1); (rw [ren_WrkT]); (conv => whnf))
    | (refine call_tx (args2 := [encWrkT 1000001 _, _]) (r14_posted_u ⟨⟨_, _, _, _, _, _, _, _, _, _, _, _, _, _, _, _, _, _⟩, ⟨_, ⟨_, _, _, _, _, _⟩, _, _, ⟨_, _, _, _, _, _, _, _, _, _, _, _, _, _, _⟩, _, _, _, ⟨_, _, _, _, _⟩, _, _, _⟩, ⟨_, _, _, _, _⟩, _, _⟩ _ ?_ _ ?_) (t := 1000001) rfl (by rw [List.map_cons, ren_WrkT] <;> rfl) (.inl ⟨le_WrkT .., Le.refl _, trivial⟩) ?_; (first | rfl | omega | ((try dsimp only [hasI, List.length_nil] at *); omega) | (with_reducible assumption)); (first | rfl | omega | ((try dsimp only [hasI, List.length_nil] at *); omega) | (with_reducible assumption)); (rintro _ _ - ⟨w1, rfl, rfl, q1, q2, q3⟩); (have q4 := HI_of q1 (by assumption)); (have q5 := q4.h); (dsimp only [hasI, List.length_nil] at q2 q3 q5); (clear q1); (rw [ren_WrkT]); (conv => whnf))
    | (refine call_tx (args2 := [encWrkT 1000001 _]) (r14_settled_u ⟨⟨_, _, _, _, _, _, _, _, _, _, _, _, _, _, _, _, _, _⟩, ⟨_, ⟨_, _, _, _, _, _⟩, _, _, ⟨_, _, _, _, _, _, _, _, _, _, _, _, _, _, _⟩, _, _, _, ⟨_, _, _, _, _⟩, _, _, _⟩, ⟨_, _, _, _, _⟩, _, _⟩ ?_ ?_ ?_ _ ?_) (t := 1000001) rfl (by rw [List.map_cons, ren_WrkT] <;> rfl) (.inl ⟨le_WrkT .., trivial⟩) ?_; (first | rfl | omega | ((try dsimp only [hasI, List.length_nil] at *); omega) | (with_reducible assumption)); (first | rfl | omega | ((try dsimp only [hasI, List.length_nil] at *); omega) | (with_reducible assumption)); (first | rfl | omega | ((try dsimp only [hasI, List.length_nil] at *); omega) | (with_reducible assumption)); (first | rfl | omega | ((try dsimp only [hasI, List.length_nil] at *); omega) | (with_reducible assumption)); (rintro _ _ - ⟨w1, rfl, rfl, q1, q2, q3⟩); (have q4 := HI_of q1 (by assumption)); (have q5 := q4.h); (dsimp only [hasI, List.length_nil] at q2 q3 q5); (clear q1); (rw [ren_WrkT]); (conv => whnf))
    | (refine call_tx (args2 := [encWrkT 1000001 _, encLn _]) (r14_done_u ⟨⟨_, _, _, _, _, _, _, _, _, _, _, _, _, _, _, _, _, _⟩, ⟨_, ⟨_, _, _, _, _, _⟩, _, _, ⟨_, _, _, _, _, _, _, _, _, _, _, _, _, _, _⟩, _, _, _, ⟨_, _, _, _, _⟩, _, _, _⟩, ⟨_, _, _, _, _⟩, _, _⟩ ⟨_, ⟨_, _, _, _, _, _⟩, _, _, ⟨_, _, _, _, _, _, _, _, _, _, _, _, _, _, _⟩, _, _, _, ⟨_, _, _, _, _⟩, _, _, _⟩ ?_ _ ?_) (t := 1000001) rfl (by rw [List.map_cons, ren_WrkT, List.map_cons, ren_Ln] <;> rfl) (.inl ⟨le_WrkT .., le_Ln .., trivial⟩) ?_; (first | rfl | omega | ((try dsimp only [hasI, List.length_nil] at *); omega)); (first | rfl | omega | ((try dsimp only [hasI, List.length_nil] at *); omega)); (rintro _ _ - ⟨o1, rfl, q2, q3⟩); (rw [ren_nf _ _ (nf_encOtc _)]); (conv => whnf); refine fin_r (encOtc o1) (nf_encOtc _) ⟨_, rfl, ?_, ?_⟩ ?_; clear q3; dsimp only at q2; omega; clear q2; dsimp only at q3; omega; (conv => whnf); exact Le.refl _)
    | (refine aI ?_; (conv => whnf))
    | (refine fin_e ?_; (conv => whnf); exact lfA)
    | fail

theorem r14_Promise_s (p : Pol) (l : Ln) (a n : Int) (hp : hasI p) (h : l.plan.length ≤ 1000) : PureX Tryz.prog gl0 r14_Promise [encPol p, encLn l, I a, I n] (QO l.id) := by
  refine pure_fnXg mixed fn_r14_Promise nt_r14_Promise hc_r14_Promise (by simp) gl0n (by simp [nf]) [(1000001, .room 0 6 131)] (le_ghost 1000001 6 131 gl0n (noE_enum _ _ (by simp [NoT, noT_nf _ (nf_encPol _), noT_nf _ (nf_encLn _), noT_nf _ (nf_encTrm _)])) trivial rfl) ?_
  conv => whnf
  repeat' first
    | (refine br_dec (fun h0 => ?_) (fun h0 => ?_) <;> (conv => whnf))
    | (refine br_intro (fun hb => ?_) (fun hb => ?_) <;> ((try rw [hb]); (conv => whnf); (try simp at hb)))
    | (refine call_x2 (r14_begin_s p l hp h) (LeL.refl _) ?_; (rintro _ - ⟨⟨p0, l0, s0, n0, k0⟩, rfl, e1, e2, -, e5⟩); (dsimp only at e1 e2 e5); (have e3 := HI_of e1 ⟨hp⟩); (have e4 := e3.h); (dsimp only [hasI] at e4); (conv => whnf))
    | (show CallB _ _ _ _ ((.st (.cons _ (.cons _ (.cons _ (.cons (.val (.slice none 0 0)) _))))) :: _) _ _ _; refine call_tx (args2 := [encWrkT 1000001 _, _]) (r14_played_u ⟨⟨_, _, _, _, _, _, _, _, _, _, _, _, _, _, _, _, _, _⟩, ⟨_, ⟨_, _, _, _, _, _⟩, _, _, ⟨_, _, _, _, _, _, _, _, _, _, _, _, _, _, _⟩, _, _, _, ⟨_, _, _, _, _⟩, _, _, _⟩, ⟨_, _, _, _, _⟩, [], _⟩ ⟨_, _, _, _⟩ ?_ ?_ ?_ _ ?_) (t := 1000001) rfl (by rw [List.map_cons, ren_WrkT] <;> rfl) (.inr ⟨by decide, rfl, leN_mk ⟨_, _, _, _, _, _, _, _, _, _, _, _, _, _, _, _, _, _⟩ ⟨_, ⟨_, _, _, _, _, _⟩, _, _, ⟨_, _, _, _, _, _, _, _, _, _, _, _, _, _, _⟩, _, _, _, ⟨_, _, _, _, _⟩, _, _, _⟩ ⟨_, _, _, _, _⟩ _, leN_refl _ _, trivial⟩) ?_; (first | rfl | omega | ((try dsimp only [hasI, List.length_nil] at *); omega) | (with_reducible assumption)); (first | rfl | omega | ((try dsimp only [hasI, List.length_nil] at *); omega) | (with_reducible assumption)); (first | rfl | omega | ((try dsimp only [hasI, List.length_nil] at *); omega) | (with_reducible assumption)); (first | rfl | omega | ((try dsimp only [hasI, List.length_nil] at *); omega) | (with_reducible assumption)); (rintro _ _ - ⟨w1, rfl, rfl, q1, q2, q3⟩); (have q4 := HI_of q1 (by assumption)); (have q5 := q4.h); (dsimp only [hasI, List.length_nil] at q2 q3 q5); (clear q1); (rw [ren_WrkT]); (conv => whnf))
    | (refine call_tx (args2 := [encWrkT 1000001 _, encLn _]) (r14_done_u ⟨⟨_, _, _, _, _, _, _, _, _, _, _, _, _, _, _, _, _, _⟩, ⟨_, ⟨_, _, _, _, _, _⟩, _, _, ⟨_, _, _, _, _, _, _, _, _, _, _, _, _, _, _⟩, _, _, _, ⟨_, _, _, _, _⟩, _, _, _⟩, ⟨_, _, _, _, _⟩, _, _⟩ ⟨_, ⟨_, _, _, _, _, _⟩, _, _, ⟨_, _, _, _, _, _, _, _, _, _, _, _, _, _, _⟩, _, _, _, ⟨_, _, _, _, _⟩, _, _, _⟩ ?_ _ ?_) (t := 1000001) rfl (by rw [List.map_cons, ren_WrkT, List.map_cons, ren_Ln] <;> rfl) (.inl ⟨le_WrkT .., le_Ln .., trivial⟩) ?_; (first | rfl | omega | ((try dsimp only [hasI, List.length_nil] at *); omega)); (first | rfl | omega | ((try dsimp only [hasI, List.length_nil] at *); omega)); (rintro _ _ - ⟨o1, rfl, q2, q3⟩); (rw [ren_nf _ _ (nf_encOtc _)]); (conv => whnf); refine fin_r (encOtc o1) (nf_encOtc _) ⟨_, rfl, ?_, ?_⟩ ?_; clear q3; dsimp only at q2; omega; clear q2; dsimp only at q3; omega; (conv => whnf); exact Le.refl _)
    | (refine aI ?_; (conv => whnf))
    | (refine fin_e ?_; (conv => whnf); exact lfA)
    | fail

theorem r14_Return_s (p : Pol) (l : Ln) (hp : hasI p) (h : l.plan.length ≤ 1000) : PureX Tryz.prog gl0 r14_Return [encPol p, encLn l] (QO l.id) := by
  refine pure_fnXg mixed fn_r14_Return nt_r14_Return hc_r14_Return (by simp) gl0n (by simp [nf]) [(1000001, .room 0 6 131)] (le_ghost 1000001 6 131 gl0n (noE_enum _ _ (by simp [NoT, noT_nf _ (nf_encPol _), noT_nf _ (nf_encLn _), noT_nf _ (nf_encTrm _)])) trivial rfl) ?_
  conv => whnf
  repeat' first
    | (refine br_dec (fun h0 => ?_) (fun h0 => ?_) <;> (conv => whnf))
    | (refine br_intro (fun hb => ?_) (fun hb => ?_) <;> ((try rw [hb]); (conv => whnf); (try simp at hb)))
    | (refine call_x2 (r14_begin_s p l hp h) (LeL.refl _) ?_; (rintro _ - ⟨⟨p0, l0, s0, n0, k0⟩, rfl, e1, e2, -, e5⟩); (dsimp only at e1 e2 e5); (have e3 := HI_of e1 ⟨hp⟩); (have e4 := e3.h); (dsimp only [hasI] at e4); (conv => whnf))
    | (refine call_x2 (r14_over_s l) ⟨Le.refl _, trivial⟩ ?_; (first | (rintro _ - ⟨_, rfl⟩) | (rintro _ - ⟨_, rfl, _⟩) | (rintro _ - ⟨_, _, rfl⟩) | (rintro _ - ⟨_, _, rfl, _⟩) | (rintro _ - ⟨_, _, _, rfl⟩) | (rintro _ - ⟨_, _, _, rfl, _⟩)); (conv => whnf))
    | (refine call_x2 (r9_Undo_s ⟨_, _, _, _, _⟩) ⟨le_Prt .., trivial⟩ ?_; (first | (rintro _ - ⟨_, rfl⟩) | (rintro _ - ⟨_, rfl, _⟩) | (rintro _ - ⟨_, _, rfl⟩) | (rintro _ - ⟨_, _, rfl, _⟩) | (rintro _ - ⟨_, _, _, rfl⟩) | (rintro _ - ⟨_, _, _, rfl, _⟩)); (conv => whnf))
    | (refine call_x2 (r9_Undo_s ⟨_, _, _, _, _⟩) ⟨le_Prt .., trivial⟩ ?_; (rintro _ - ⟨zs, rfl, hz⟩); (conv => whnf))
    | (show CallB _ _ _ _ ((.st (.cons _ (.cons _ (.cons _ (.cons (.val (.slice none 0 0)) _))))) :: _) _ _ _; refine call_tx (args2 := [encWrkT 1000001 _, _, _]) (r14_fail_u ⟨⟨_, _, _, _, _, _, _, _, _, _, _, _, _, _, _, _, _, _⟩, ⟨_, ⟨_, _, _, _, _, _⟩, _, _, ⟨_, _, _, _, _, _, _, _, _, _, _, _, _, _, _⟩, _, _, _, ⟨_, _, _, _, _⟩, _, _, _⟩, ⟨_, _, _, _, _⟩, [], _⟩ _ _ _ ?_) (t := 1000001) rfl (by rw [List.map_cons, ren_WrkT] <;> rfl) (.inr ⟨by decide, rfl, leN_mk ⟨_, _, _, _, _, _, _, _, _, _, _, _, _, _, _, _, _, _⟩ ⟨_, ⟨_, _, _, _, _, _⟩, _, _, ⟨_, _, _, _, _, _, _, _, _, _, _, _, _, _, _⟩, _, _, _, ⟨_, _, _, _, _⟩, _, _, _⟩ ⟨_, _, _, _, _⟩ _, leN_refl _ _, leN_refl _ _, trivial⟩) ?_; (first | rfl | omega | ((try dsimp only [hasI, List.length_nil] at *); omega) | (with_reducible assumption)); (rintro _ _ - ⟨w1, rfl, rfl, q1, q2, q3⟩); (have q4 := HI_of q1 (by assumption)); (have q5 := q4.h); (dsimp only [hasI, List.length_nil] at q2 q3 q5); (clear q1); (rw [ren_WrkT]); (conv => whnf))
    | (refine call_tx (args2 := [encWrkT 1000001 _, _, _]) (r14_fail_u ⟨⟨_, _, _, _, _, _, _, _, _, _, _, _, _, _, _, _, _, _⟩, ⟨_, ⟨_, _, _, _, _, _⟩, _, _, ⟨_, _, _, _, _, _, _, _, _, _, _, _, _, _, _⟩, _, _, _, ⟨_, _, _, _, _⟩, _, _, _⟩, ⟨_, _, _, _, _⟩, _, _⟩ _ _ _ ?_) (t := 1000001) rfl (by rw [List.map_cons, ren_WrkT] <;> rfl) (.inl ⟨le_WrkT .., Le.refl _, Le.refl _, trivial⟩) ?_; (first | rfl | omega | ((try dsimp only [hasI, List.length_nil] at *); omega) | (with_reducible assumption)); (rintro _ _ - ⟨w1, rfl, rfl, q1, q2, q3⟩); (have q4 := HI_of q1 (by assumption)); (have q5 := q4.h); (dsimp only [hasI, List.length_nil] at q2 q3 q5); (clear q1); (rw [ren_WrkT]); (conv => whnf))
    | (refine call_tx (args2 := [encWrkT 1000001 _, _]) (r14_posted_u ⟨⟨_, _, _, _, _, _, _, _, _, _, _, _, _, _, _, _, _, _⟩, ⟨_, ⟨_, _, _, _, _, _⟩, _, _, ⟨_, _, _, _, _, _, _, _, _, _, _, _, _, _, _⟩, _, _, _, ⟨_, _, _, _, _⟩, _, _, _⟩, ⟨_, _, _, _, _⟩, _, _⟩ _ ?_ _ ?_) (t := 1000001) rfl (by rw [List.map_cons, ren_WrkT] <;> rfl) (.inl ⟨le_WrkT .., Le.refl _, trivial⟩) ?_; (first | rfl | omega | ((try dsimp only [hasI, List.length_nil] at *); omega) | (with_reducible assumption)); (first | rfl | omega | ((try dsimp only [hasI, List.length_nil] at *); omega) | (with_reducible assumption)); (rintro _ _ - ⟨w1, rfl, rfl, q1, q2, q3⟩); (have q4 := HI_of q1 (by assumption)); (have q5 := q4.h); (dsimp only [hasI, List.length_nil] at q2 q3 q5); (clear q1); (rw [ren_WrkT]); (conv => whnf))
    | (refine call_tx (args2 := [encWrkT 1000001 _, _]) (r14_played_u ⟨⟨_, _, _, _, _, _, _, _, _, _, _, _, _, _, _, _, _, _⟩, ⟨_, ⟨_, _, _, _, _, _⟩, _, _, ⟨_, _, _, _, _, _, _, _, _, _, _, _, _, _, _⟩, _, _, _, ⟨_, _, _, _, _⟩, _, _, _⟩, ⟨_, _, _, _, _⟩, _, _⟩ ⟨_, _, _, _⟩ ?_ ?_ ?_ _ ?_) (t := 1000001) rfl (by rw [List.map_cons, ren_WrkT] <;> rfl) (.inl ⟨le_WrkT .., le_Evt .., trivial⟩) ?_; (first | rfl | omega | ((try dsimp only [hasI, List.length_nil] at *); omega) | (with_reducible assumption)); (first | rfl | omega | ((try dsimp only [hasI, List.length_nil] at *); omega) | (with_reducible assumption)); (first | rfl | omega | ((try dsimp only [hasI, List.length_nil] at *); omega) | (with_reducible assumption)); (first | rfl | omega | ((try dsimp only [hasI, List.length_nil] at *); omega) | (with_reducible assumption)); (rintro _ _ - ⟨w1, rfl, rfl, q1, q2, q3⟩); (have q4 := HI_of q1 (by assumption)); (have q5 := q4.h); (dsimp only [hasI, List.length_nil] at q2 q3 q5); (clear q1); (rw [ren_WrkT]); (conv => whnf))
    | (refine call_tx (args2 := [encWrkT 1000001 _, _, _]) (r14_noted_u ⟨⟨_, _, _, _, _, _, _, _, _, _, _, _, _, _, _, _, _, _⟩, ⟨_, ⟨_, _, _, _, _, _⟩, _, _, ⟨_, _, _, _, _, _, _, _, _, _, _, _, _, _, _⟩, _, _, _, ⟨_, _, _, _, _⟩, _, _, _⟩, ⟨_, _, _, _, _⟩, _, _⟩ _ _ ?_ _ ?_) (t := 1000001) rfl (by rw [List.map_cons, ren_WrkT] <;> rfl) (.inl ⟨le_WrkT .., Le.refl _, Le.refl _, trivial⟩) ?_; (first | rfl | omega | ((try dsimp only [hasI, List.length_nil] at *); omega) | (with_reducible assumption)); (first | rfl | omega | ((try dsimp only [hasI, List.length_nil] at *); omega) | (with_reducible assumption)); (rintro _ _ - ⟨w1, rfl, rfl, q1, q2, q3⟩); (have q4 := HI_of q1 (by assumption)); (have q5 := q4.h); (dsimp only [hasI, List.length_nil] at q2 q3 q5); (clear q1); (rw [ren_WrkT]); (conv => whnf))
    | (refine call_tx (args2 := [encWrkT 1000001 _]) (r14_forgotten_u ⟨⟨_, _, _, _, _, _, _, _, _, _, _, _, _, _, _, _, _, _⟩, ⟨_, ⟨_, _, _, _, _, _⟩, _, _, ⟨_, _, _, _, _, _, _, _, _, _, _, _, _, _, _⟩, _, _, _, ⟨_, _, _, _, _⟩, _, _, _⟩, ⟨_, _, _, _, _⟩, _, _⟩ _ ?_) (t := 1000001) rfl (by rw [List.map_cons, ren_WrkT] <;> rfl) (.inl ⟨le_WrkT .., trivial⟩) ?_; (first | rfl | omega | ((try dsimp only [hasI, List.length_nil] at *); omega) | (with_reducible assumption)); (rintro _ _ - ⟨w1, rfl, rfl, q1, q2, q3⟩); (have q4 := HI_of q1 (by assumption)); (have q5 := q4.h); (dsimp only [hasI, List.length_nil] at q2 q3 q5); (clear q1); (rw [ren_WrkT]); (conv => whnf))
    | (refine call_tx (args2 := [encWrkT 1000001 _, encLn _]) (r14_done_u ⟨⟨_, _, _, _, _, _, _, _, _, _, _, _, _, _, _, _, _, _⟩, ⟨_, ⟨_, _, _, _, _, _⟩, _, _, ⟨_, _, _, _, _, _, _, _, _, _, _, _, _, _, _⟩, _, _, _, ⟨_, _, _, _, _⟩, _, _, _⟩, ⟨_, _, _, _, _⟩, _, _⟩ ⟨_, ⟨_, _, _, _, _, _⟩, _, _, ⟨_, _, _, _, _, _, _, _, _, _, _, _, _, _, _⟩, _, _, _, ⟨_, _, _, _, _⟩, _, _, _⟩ ?_ _ ?_) (t := 1000001) rfl (by rw [List.map_cons, ren_WrkT, List.map_cons, ren_Ln] <;> rfl) (.inl ⟨le_WrkT .., le_Ln .., trivial⟩) ?_; (first | rfl | omega | ((try dsimp only [hasI, List.length_nil] at *); omega)); (first | rfl | omega | ((try dsimp only [hasI, List.length_nil] at *); omega)); (rintro _ _ - ⟨o1, rfl, q2, q3⟩); (rw [ren_nf _ _ (nf_encOtc _)]); (conv => whnf); refine fin_r (encOtc o1) (nf_encOtc _) ⟨_, rfl, ?_, ?_⟩ ?_; clear q3; dsimp only at q2; omega; clear q2; dsimp only at q3; omega; (conv => whnf); exact Le.refl _)
    | (refine aI ?_; (conv => whnf))
    | (refine fin_e ?_; (conv => whnf); exact lfA)
    | fail

end Go.Proofs.YtaomkjcclcgdlaaGreatDoor
