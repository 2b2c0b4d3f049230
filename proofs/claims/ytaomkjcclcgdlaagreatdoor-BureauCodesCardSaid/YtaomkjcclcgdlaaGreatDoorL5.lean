/- Contracts of the document's loan (chapter 14), second part: the work sheet's steps. No condition. -/
import Derived.Test.YtaomkjcclcgdlaaGreatDoorL4
set_option linter.all false
namespace Go.Proofs.YtaomkjcclcgdlaaGreatDoor
open Go Ar
set_option linter.unusedVariables false
set_option autoImplicit false
set_option maxHeartbeats 4000000
set_option maxRecDepth 100000

theorem r14_fail_t (w : Wrk) (b : Bool) (e : Int) : PureTX Tryz.prog gl0 r14_fail [encWrkT LENT w, B b, I e] 6 131 (w.notices.length) (QW w 0) := by
  refine pureT_fnX mixed fn_r14_fail nt_r14_fail hc_r14_fail (by simp) gl0n (by simp [nt, nt_encs, nt_encT_Ety, nt_encT_Ntc, nt_encWrkT, nt_nf _ (nf_encLn _), nt_nf _ (nfL_Ety _ _), nt_nf _ (nf_encEvt _)]) [(LENT, .room (w.notices.length) 6 131)] (LeSt.refl gl0 _ _ _ _) ?_
  conv => whnf
  cases b
  all_goals
   repeat' first
     | (refine br_dec (fun h0 => ?_) (fun h0 => ?_) <;> (conv => whnf))
     | (refine br_intro (fun hb => ?_) (fun hb => ?_) <;> ((try rw [hb]); (conv => whnf); (try simp at hb)))
     | (refine fin_w rfl ?_; (conv => whnf); exact ⟨_, leA_WrkT .., rfl, rfl, rfl, Nat.le_refl _, rfl⟩)
     | (refine aI ?_; (conv => whnf))
     | (refine fin_e ?_; (conv => whnf); exact lfA)
     | fail


theorem r14_fail_u (w : Wrk) (b : Bool) (e : Int) (m_ : Nat) (hm_ : m_ = w.notices.length) : PureTX Tryz.prog gl0 r14_fail [encWrkT LENT w, B b, I e] 6 131 m_ (QW w 0) := by
  subst hm_
  apply r14_fail_t <;> assumption

theorem r14_posted_t (w : Wrk) (es : List Ety) (h : es.length ≤ 100) : PureTX Tryz.prog gl0 r14_posted [encWrkT LENT w, encL encEty 3 es] 6 131 (w.notices.length) (QW w 0) := by
  refine pureT_fnX mixed fn_r14_posted nt_r14_posted hc_r14_posted (by simp) gl0n (by simp [nt, nt_encs, nt_encT_Ety, nt_encT_Ntc, nt_encWrkT, nt_nf _ (nf_encLn _), nt_nf _ (nfL_Ety _ _), nt_nf _ (nf_encEvt _)]) [(LENT, .room (w.notices.length) 6 131)] (LeSt.refl gl0 _ _ _ _) ?_
  conv => whnf
  repeat' first
    | (refine br_dec (fun h0 => ?_) (fun h0 => ?_) <;> (conv => whnf))
    | (refine br_intro (fun hb => ?_) (fun hb => ?_) <;> ((try rw [hb]); (conv => whnf); (try simp at hb)))
    | (refine call_x2 (r8_Post_s _ es h) (LeL.refl _) ?_; (rintro _ - ⟨_, _, rfl⟩); (conv => whnf))
    | (refine fin_w rfl ?_; (conv => whnf); exact ⟨_, leA_WrkT .., rfl, rfl, rfl, Nat.le_refl _, rfl⟩)
    | (refine aI ?_; (conv => whnf))
    | (refine fin_e ?_; (conv => whnf); exact lfA)
    | fail


theorem r14_posted_u (w : Wrk) (es : List Ety) (h : es.length ≤ 100) (m_ : Nat) (hm_ : m_ = w.notices.length) : PureTX Tryz.prog gl0 r14_posted [encWrkT LENT w, encL encEty 3 es] 6 131 m_ (QW w 0) := by
  subst hm_
  apply r14_posted_t <;> assumption

theorem r14_forgotten_t (w : Wrk) : PureTX Tryz.prog gl0 r14_forgotten [encWrkT LENT w] 6 131 (w.notices.length) (QW w 0) := by
  refine pureT_fnX mixed fn_r14_forgotten nt_r14_forgotten hc_r14_forgotten (by simp) gl0n (by simp [nt, nt_encs, nt_encT_Ety, nt_encT_Ntc, nt_encWrkT, nt_nf _ (nf_encLn _), nt_nf _ (nfL_Ety _ _), nt_nf _ (nf_encEvt _)]) [(LENT, .room (w.notices.length) 6 131)] (LeSt.refl gl0 _ _ _ _) ?_
  conv => whnf
  repeat' first
    | (refine br_dec (fun h0 => ?_) (fun h0 => ?_) <;> (conv => whnf))
    | (refine br_intro (fun hb => ?_) (fun hb => ?_) <;> ((try rw [hb]); (conv => whnf); (try simp at hb)))
    | (refine fin_w rfl ?_; (conv => whnf); exact ⟨_, leA_WrkT .., rfl, rfl, rfl, Nat.le_refl _, rfl⟩)
    | (refine aI ?_; (conv => whnf))
    | (refine fin_e ?_; (conv => whnf); exact lfA)
    | fail


theorem r14_forgotten_u (w : Wrk) (m_ : Nat) (hm_ : m_ = w.notices.length) : PureTX Tryz.prog gl0 r14_forgotten [encWrkT LENT w] 6 131 m_ (QW w 0) := by
  subst hm_
  apply r14_forgotten_t <;> assumption

theorem r14_noted_t (w : Wrk) (k a : Int) (h : w.notices.length ≤ 1000000) : PureTX Tryz.prog gl0 r14_noted [encWrkT LENT w, I k, I a] 6 131 (w.notices.length) (QW w 1) := by
  refine pureT_fnX mixed fn_r14_noted nt_r14_noted hc_r14_noted (by simp) gl0n (by simp [nt, nt_encs, nt_encT_Ety, nt_encT_Ntc, nt_encWrkT, nt_nf _ (nf_encLn _), nt_nf _ (nfL_Ety _ _), nt_nf _ (nf_encEvt _)]) [(LENT, .room (w.notices.length) 6 131)] (LeSt.refl gl0 _ _ _ _) ?_
  conv => whnf
  by_cases c : w.err = 0
  · refine br_true (decide_eq_true (c)) ?_
    conv => whnf
    refine And.intro rfl (And.intro (by simp only [List.length_cons, List.length_nil]; omega) ?_)
    conv => whnf
    refine fin_w (w := w) (m' := (w.notices ++ [(⟨0, w.l.id, k, w.l.day, a, false⟩ : Ntc)]).length) (by simp; rfl) ?_
    conv => whnf
    exact ⟨{ w with notices := w.notices ++ [⟨0, w.l.id, k, w.l.day, a, false⟩] }, LeA.st (LeA.cons (LeA.refl _) (LeA.cons (LeA.refl _) (LeA.cons (LeA.refl _) (LeA.cons (leA_snoc (enc := encNtc) (leA_Ntc ..)) (LeA.refl _))))), rfl, rfl, rfl, by simp, rfl⟩
  · refine br_false (decide_eq_false (c)) ?_
    conv => whnf
    repeat' first
      | (refine br_dec (fun h0 => ?_) (fun h0 => ?_) <;> (conv => whnf))
      | (refine br_intro (fun hb => ?_) (fun hb => ?_) <;> ((try rw [hb]); (conv => whnf); (try simp at hb)))
      | (refine fin_w rfl ?_; (conv => whnf); exact ⟨_, leA_WrkT .., rfl, rfl, rfl, Nat.le_add_right _ _, rfl⟩)
      | (refine aI ?_; (conv => whnf))
      | (refine fin_e ?_; (conv => whnf); exact lfA)
      | fail


theorem r14_noted_u (w : Wrk) (k a : Int) (h : w.notices.length ≤ 1000000) (m_ : Nat) (hm_ : m_ = w.notices.length) : PureTX Tryz.prog gl0 r14_noted [encWrkT LENT w, I k, I a] 6 131 m_ (QW w 1) := by
  subst hm_
  apply r14_noted_t <;> assumption

end Go.Proofs.YtaomkjcclcgdlaaGreatDoor
namespace Go.Proofs.YtaomkjcclcgdlaaGreatDoor
open Go Ar
set_option linter.unusedVariables false
set_option autoImplicit false
set_option maxHeartbeats 4000000
set_option maxRecDepth 100000

abbrev Q3 : AV → Prop := fun r => ∃ c xs n, r = tup3 (encCse c) (encL I 1 xs) (I n) ∧ xs.length ≤ 4

theorem fin_3n {N : Nat} {rs : List RV} {e : Env} {o : Objs} {n : Nat} (h : resA e o rs fun l => forceL l fun l => ∃ a k, l = [a, .val (.slice none 0 0), I k] ∧ ∃ c, a = encCse c) : FinP gl0 N rs Q3 e o n :=
  ⟨e, o, n, LeSt.refl gl0 N e o n, resA_mono rs (fun l hl => by
    obtain ⟨_, k, rfl, c, rfl⟩ := forceL_iff.1 hl
    exact ⟨tup3 (encCse c) (encL I 1 []) (I k), ⟨nf_encCse c, nfL_I 1 [], trivial, trivial⟩, ⟨c, [], k, rfl, by simp⟩, (LeA.tup (LeA.cons (LeA.refl _) (LeA.cons leA_nilL (LeA.refl _)))).le⟩) h⟩

theorem fin_3l {N : Nat} {rs : List RV} {e : Env} {o : Objs} {n : Nat} (h : resA e o rs fun l => forceL l fun l => ∃ a xs k, l = [a, encL I 1 xs, I k] ∧ (∃ c, a = encCse c) ∧ xs.length ≤ 4) : FinP gl0 N rs Q3 e o n :=
  ⟨e, o, n, LeSt.refl gl0 N e o n, resA_mono rs (fun l hl => by
    obtain ⟨_, xs, k, rfl, ⟨c, rfl⟩, hx⟩ := forceL_iff.1 hl
    exact ⟨tup3 (encCse c) (encL I 1 xs) (I k), ⟨nf_encCse c, nfL_I 1 xs, trivial, trivial⟩, ⟨c, xs, k, rfl, hx⟩, Le.refl _⟩) h⟩

theorem r13_Step_s (p : Pol) (c : Cse) (e : Evt) (hp : hasI p) : PureX Tryz.prog gl0 r13_Step [encPol p, encCse c, encEvt e] (Q3) := by
  refine pure_fnX mixed fn_r13_Step nt_r13_Step hc_r13_Step (by simp) gl0n (by simp [nf]) ?_
  conv => whnf
  repeat' first
    | (refine br_dec (fun h0 => ?_) (fun h0 => ?_) <;> (conv => whnf))
    | (refine br_intro (fun hb => ?_) (fun hb => ?_) <;> ((try rw [hb]); (conv => whnf); (try simp at hb)))
    | (refine call_x2 (r12_Check_s p hp) ⟨Le.refl _, trivial⟩ ?_; (first | (rintro _ - ⟨_, rfl⟩) | (rintro _ - ⟨_, rfl, _⟩) | (rintro _ - ⟨_, _, rfl⟩) | (rintro _ - ⟨_, _, rfl, _⟩) | (rintro _ - ⟨_, _, _, rfl⟩) | (rintro _ - ⟨_, _, _, rfl, _⟩)); (conv => whnf))
    | (refine call_x2 (r13_numbers_s p e) ⟨Le.refl _, Le.refl _, trivial⟩ ?_; (first | (rintro _ - ⟨_, rfl⟩) | (rintro _ - ⟨_, rfl, _⟩) | (rintro _ - ⟨_, _, rfl⟩) | (rintro _ - ⟨_, _, rfl, _⟩) | (rintro _ - ⟨_, _, _, rfl⟩) | (rintro _ - ⟨_, _, _, rfl, _⟩)); (conv => whnf))
    | (refine call_x2 (r13_standing_s p c e) ⟨Le.refl _, Le.refl _, Le.refl _, trivial⟩ ?_; (first | (rintro _ - ⟨_, rfl⟩) | (rintro _ - ⟨_, rfl, _⟩) | (rintro _ - ⟨_, _, rfl⟩) | (rintro _ - ⟨_, _, rfl, _⟩) | (rintro _ - ⟨_, _, _, rfl⟩) | (rintro _ - ⟨_, _, _, rfl, _⟩)); (conv => whnf))
    | (refine call_x2 (r13_taken_s p c e) (LeL.refl _) ?_; (rintro _ - ⟨_, xs, rfl, hx⟩); (conv => whnf))
    | (refine fin_3n ?_; (conv => whnf); exact ⟨_, _, rfl, _, mk_Cse ..⟩)
    | (refine fin_3l ?_; (conv => whnf); exact ⟨_, _, _, rfl, ⟨_, mk_Cse ..⟩, hx⟩)
    | (refine aI ?_; (conv => whnf))
    | (refine fin_e ?_; (conv => whnf); exact lfA)
    | fail

theorem r14_given_t (w : Wrk) (h : w.notices.length ≤ 1000000) : PureTX Tryz.prog gl0 r14_given [encWrkT LENT w] 6 131 w.notices.length (QW w 1) := by
  refine pureT_fnX mixed fn_r14_given nt_r14_given hc_r14_given (by simp) gl0n (by simp [nt_encWrkT]) [(1000001, .room 0 3 158), (LENT, .room w.notices.length 6 131)] (le_ghost 1000001 3 158 gl0n (noE_enum _ _ (by simp [noT_nt (by decide : LENT < 1000001) _ (nt_encWrkT _)])) ⟨by decide, trivial⟩ rfl) ?_
  conv => whnf
  repeat' first
    | (refine br_dec (fun h0 => ?_) (fun h0 => ?_) <;> (conv => whnf))
    | (refine br_intro (fun hb => ?_) (fun hb => ?_) <;> ((try rw [hb]); (conv => whnf); (try simp at hb)))
    | (refine call_x2 (r14_owed_s _) ⟨le_Ln .., trivial⟩ ?_; (rintro _ - ⟨_, rfl⟩); (conv => whnf))
    | (refine call_x2 (r14_of_s _ _) ⟨le_Ln .., Le.refl _, trivial⟩ ?_; (rintro _ - ⟨_, rfl⟩); (conv => whnf))
    | (refine call_x2 (r14_sum_s _) ⟨le_Owd .., trivial⟩ ?_; (rintro _ - ⟨_, rfl⟩); (conv => whnf))
    | (refine call_tx (args2 := [encT (some 1000001) encEty 3 [], I _, I _, I _]) (r14_move_t [] _ _ _ (by simp)) (t := 1000001) rfl (by simp only [List.map, ren_Ety]; rfl) (.inr ⟨by decide, rfl, leN_nil, leN_refl _ _, leN_refl _ _, leN_refl _ _, trivial⟩) ?_; (rintro _ _ - ⟨ys, rfl, rfl, hy⟩); (simp only [List.length_nil] at hy); (rw [ren_Ety]); (conv => whnf))
    | (refine call_tx (args2 := [encT (some 1000001) encEty 3 _, I _, I _, I _]) (r14_move_t _ _ _ _ ?_) (t := 1000001) rfl (by rw [List.map_cons, ren_Ety] <;> rfl) (.inl (LeL.refl _)) ?_; omega; (rintro _ _ - ⟨ys, rfl, rfl, hy⟩); (rw [ren_Ety]); (conv => whnf))
    | (refine call_tx (args2 := [encWrkT LENT _, _]) (r14_posted_u ⟨⟨_, _, _, _, _, _, _, _, _, _, _, _, _, _, _, _, _, _⟩, ⟨_, ⟨_, _, _, _, _, _⟩, _, _, ⟨_, _, _, _, _, _, _, _, _, _, _, _, _, _, _⟩, _, _, _, ⟨_, _, _, _, _⟩, _, _, _⟩, ⟨_, _, _, _, _⟩, _, _⟩ _ ?_ _ ?_) (t := LENT) rfl (by rw [List.map_cons, ren_WrkT] <;> rfl) (.inl ⟨le_WrkT .., (leA_drop (enc := encEty)).le, trivial⟩) ?_; (first | rfl | omega | ((try dsimp only [hasI, List.length_nil] at *); omega) | (with_reducible assumption)); (first | rfl | omega | ((try dsimp only [hasI, List.length_nil] at *); omega) | (with_reducible assumption)); (rintro _ _ - ⟨w1, rfl, rfl, q1, q2, q3⟩);  (rw [ren_WrkT]); (conv => whnf))
    | (refine call_tx (args2 := [encWrkT LENT _]) (r14_forgotten_u ⟨⟨_, _, _, _, _, _, _, _, _, _, _, _, _, _, _, _, _, _⟩, ⟨_, ⟨_, _, _, _, _, _⟩, _, _, ⟨_, _, _, _, _, _, _, _, _, _, _, _, _, _, _⟩, _, _, _, ⟨_, _, _, _, _⟩, _, _, _⟩, ⟨_, _, _, _, _⟩, _, _⟩ _ ?_) (t := LENT) rfl (by rw [List.map_cons, ren_WrkT] <;> rfl) (.inl ⟨le_WrkT .., trivial⟩) ?_; (first | rfl | omega | ((try dsimp only [hasI, List.length_nil] at *); omega) | (with_reducible assumption)); (rintro _ _ - ⟨w1, rfl, rfl, q1, q2, q3⟩);  (rw [ren_WrkT]); (conv => whnf))
    | (refine call_tx (args2 := [encWrkT LENT _, _, _]) (r14_noted_u ⟨⟨_, _, _, _, _, _, _, _, _, _, _, _, _, _, _, _, _, _⟩, ⟨_, ⟨_, _, _, _, _, _⟩, _, _, ⟨_, _, _, _, _, _, _, _, _, _, _, _, _, _, _⟩, _, _, _, ⟨_, _, _, _, _⟩, _, _, _⟩, ⟨_, _, _, _, _⟩, _, _⟩ _ _ ?_ _ ?_) (t := LENT) rfl (by rw [List.map_cons, ren_WrkT] <;> rfl) (.inl ⟨le_WrkT .., Le.refl _, Le.refl _, trivial⟩) ?_; (first | rfl | omega | ((try dsimp only [hasI, List.length_nil] at *); omega) | (with_reducible assumption)); (first | rfl | omega | ((try dsimp only [hasI, List.length_nil] at *); omega) | (with_reducible assumption)); (rintro _ _ - ⟨w1, rfl, rfl, q1, q2, q3⟩);  (rw [ren_WrkT]); (conv => whnf))
    | (refine fin_w rfl ?_; (conv => whnf); exact ⟨_, leA_WrkT .., rfl, by simp_all, by simp_all, by (try dsimp only at *); omega⟩)
    | (refine aI ?_; (conv => whnf))
    | (refine fin_e ?_; (conv => whnf); exact lfA)
    | fail

end Go.Proofs.YtaomkjcclcgdlaaGreatDoor
namespace Go.Proofs.YtaomkjcclcgdlaaGreatDoor
open Go Ar
set_option linter.unusedVariables false
set_option autoImplicit false
set_option maxHeartbeats 4000000
set_option maxRecDepth 100000

theorem r14_given_u (w : Wrk) (h : w.notices.length ≤ 1000000) (m_ : Nat) (hm_ : m_ = w.notices.length) : PureTX Tryz.prog gl0 r14_given [encWrkT LENT w] 6 131 m_ (QW w 1) := by
  subst hm_
  exact r14_given_t w h

theorem r14_acted_t (w : Wrk) (a : Int) (h : w.notices.length ≤ 1000000) (hpl : w.l.plan.length ≤ 1000) : PureTX Tryz.prog gl0 r14_acted [encWrkT LENT w, I a] 6 131 (w.notices.length) (QW w 1) := by
  refine pureT_fnX mixed fn_r14_acted nt_r14_acted hc_r14_acted (by simp) gl0n (by simp [nt, nt_encs, nt_encT_Ety, nt_encT_Ntc, nt_encWrkT, nt_nf _ (nf_encLn _), nt_nf _ (nfL_Ety _ _), nt_nf _ (nf_encEvt _)]) [(LENT, .room (w.notices.length) 6 131)] (LeSt.refl gl0 _ _ _ _) ?_
  conv => whnf
  repeat' first
    | (refine br_dec (fun h0 => ?_) (fun h0 => ?_) <;> (conv => whnf))
    | (refine br_intro (fun hb => ?_) (fun hb => ?_) <;> ((try rw [hb]); (conv => whnf); (try simp at hb)))
    | (refine call_x2 (r14_pastDue_s w.l hpl) (LeL.refl _) ?_; (rintro _ - ⟨_, rfl⟩); (conv => whnf))
    | (refine call_x2 (r14_of_s w.l _) (LeL.refl _) ?_; (rintro _ - ⟨_, rfl⟩); (conv => whnf))
    | (refine call_x2 (r14_move_n _ _ _) (LeL.refl _) ?_; (rintro _ - ⟨ys, rfl, hy⟩); (conv => whnf))
    | (refine call_tx (args2 := [encWrkT LENT _]) (r14_given_u ⟨⟨_, _, _, _, _, _, _, _, _, _, _, _, _, _, _, _, _, _⟩, ⟨_, ⟨_, _, _, _, _, _⟩, _, _, ⟨_, _, _, _, _, _, _, _, _, _, _, _, _, _, _⟩, _, _, _, ⟨_, _, _, _, _⟩, _, _, _⟩, ⟨_, _, _, _, _⟩, _, _⟩ ?_ _ ?_) (t := LENT) rfl (by rw [List.map_cons, ren_WrkT] <;> rfl) (.inl ⟨le_WrkT .., trivial⟩) ?_; (first | rfl | omega | ((try dsimp only [hasI, List.length_nil] at *); omega) | (with_reducible assumption)); (first | rfl | omega | ((try dsimp only [hasI, List.length_nil] at *); omega) | (with_reducible assumption)); (rintro _ _ - ⟨w1, rfl, rfl, q1, q2, q3⟩);  (rw [ren_WrkT]); (conv => whnf))
    | (refine call_tx (args2 := [encWrkT LENT _, _]) (r14_posted_u ⟨⟨_, _, _, _, _, _, _, _, _, _, _, _, _, _, _, _, _, _⟩, ⟨_, ⟨_, _, _, _, _, _⟩, _, _, ⟨_, _, _, _, _, _, _, _, _, _, _, _, _, _, _⟩, _, _, _, ⟨_, _, _, _, _⟩, _, _, _⟩, ⟨_, _, _, _, _⟩, _, _⟩ _ ?_ _ ?_) (t := LENT) rfl (by rw [List.map_cons, ren_WrkT] <;> rfl) (.inl ⟨le_WrkT .., Le.refl _, trivial⟩) ?_; (first | rfl | omega | ((try dsimp only [hasI, List.length_nil] at *); omega) | (with_reducible assumption)); (first | rfl | omega | ((try dsimp only [hasI, List.length_nil] at *); omega) | (with_reducible assumption)); (rintro _ _ - ⟨w1, rfl, rfl, q1, q2, q3⟩);  (rw [ren_WrkT]); (conv => whnf))
    | (refine call_tx (args2 := [encWrkT LENT _]) (r14_forgotten_u ⟨⟨_, _, _, _, _, _, _, _, _, _, _, _, _, _, _, _, _, _⟩, ⟨_, ⟨_, _, _, _, _, _⟩, _, _, ⟨_, _, _, _, _, _, _, _, _, _, _, _, _, _, _⟩, _, _, _, ⟨_, _, _, _, _⟩, _, _, _⟩, ⟨_, _, _, _, _⟩, _, _⟩ _ ?_) (t := LENT) rfl (by rw [List.map_cons, ren_WrkT] <;> rfl) (.inl ⟨le_WrkT .., trivial⟩) ?_; (first | rfl | omega | ((try dsimp only [hasI, List.length_nil] at *); omega) | (with_reducible assumption)); (rintro _ _ - ⟨w1, rfl, rfl, q1, q2, q3⟩);  (rw [ren_WrkT]); (conv => whnf))
    | (refine call_tx (args2 := [encWrkT LENT _, _, _]) (r14_noted_u ⟨⟨_, _, _, _, _, _, _, _, _, _, _, _, _, _, _, _, _, _⟩, ⟨_, ⟨_, _, _, _, _, _⟩, _, _, ⟨_, _, _, _, _, _, _, _, _, _, _, _, _, _, _⟩, _, _, _, ⟨_, _, _, _, _⟩, _, _, _⟩, ⟨_, _, _, _, _⟩, _, _⟩ _ _ ?_ _ ?_) (t := LENT) rfl (by rw [List.map_cons, ren_WrkT] <;> rfl) (.inl ⟨le_WrkT .., Le.refl _, Le.refl _, trivial⟩) ?_; (first | rfl | omega | ((try dsimp only [hasI, List.length_nil] at *); omega) | (with_reducible assumption)); (first | rfl | omega | ((try dsimp only [hasI, List.length_nil] at *); omega) | (with_reducible assumption)); (rintro _ _ - ⟨w1, rfl, rfl, q1, q2, q3⟩);  (rw [ren_WrkT]); (conv => whnf))
    | (refine fin_w rfl ?_; (conv => whnf); exact ⟨_, leA_WrkT .., rfl, rfl, rfl, Nat.le_add_right _ _, rfl⟩)
    | (refine fin_w rfl ?_; (conv => whnf); exact ⟨_, leA_WrkT .., rfl, by simp_all, by simp_all, by (try dsimp only at *); omega⟩)
    | (refine aI ?_; (conv => whnf))
    | (refine fin_e ?_; (conv => whnf); exact lfA)
    | fail


theorem r14_acted_u (w : Wrk) (a : Int) (h : w.notices.length ≤ 1000000) (hpl : w.l.plan.length ≤ 1000) (m_ : Nat) (hm_ : m_ = w.notices.length) : PureTX Tryz.prog gl0 r14_acted [encWrkT LENT w, I a] 6 131 m_ (QW w 1) := by
  subst hm_
  apply r14_acted_t <;> assumption

abbrev QD (w : Wrk) (l : Ln) : AV → Nat → Prop := fun r _ => ∃ o, r = encOtc o ∧ (o.loan.plan.length = l.plan.length ∨ o.loan.plan.length = w.l.plan.length) ∧ o.notices.length ≤ w.notices.length ∧ (o.err = 0 → o.loan.id = w.l.id)

theorem fin_d1 {N : Nat} {rs : List RV} {e : Env} {o : Objs} {n m' : Nat} {ty : TypeId} {w : Wrk} {l : Ln} (hl : lookO LENT o = some (.room m' 6 ty))
    (h : resA e o rs fun q => forceL q fun q => ∃ l' k, packA q = .st (.cons (encLn l') (.cons (encPrt ⟨0, 0, 0, 0, 0⟩) (.cons (.val (.slice none 0 0)) (.cons (I k) .nil)))) ∧ l'.plan.length = l.plan.length ∧ k ≠ 0) : FinT gl0 N rs 6 ty (QD w l) e o n :=
  ⟨e, o, n, m', LeSt.refl gl0 N e o n, hl, resA_mono rs (fun q hq => by
    obtain ⟨l', k, h1, h2⟩ := forceL_iff.1 hq
    exact ⟨encOtc ⟨l', ⟨0, 0, 0, 0, 0⟩, [], k⟩, nt_nf _ (nf_encOtc _), ⟨_, rfl, .inl h2.1, Nat.zero_le _, fun h => absurd h h2.2⟩, by
      rw [h1]
      exact (LeA.st (LeA.cons (LeA.refl _) (LeA.cons (LeA.refl _) (LeA.cons leA_nilL (LeA.refl _))))).le⟩) h⟩

theorem fin_d2 {N : Nat} {rs : List RV} {e : Env} {o : Objs} {n m' : Nat} {ty : TypeId} {w : Wrk} {l : Ln} (hl : lookO LENT o = some (.room m' 6 ty))
    (h : resA e o rs fun q => forceL q fun q => LeA (packA q) (.st (.cons (encLn w.l) (.cons (encPrt w.parts) (.cons (encT (some LENT) encNtc 6 w.notices) (.cons (I 0) .nil)))))) : FinT gl0 N rs 6 ty (QD w l) e o n :=
  ⟨e, o, n, m', LeSt.refl gl0 N e o n, hl, resA_mono rs (fun q hq => by
    have h1 := forceL_iff.1 hq
    exact ⟨encOtc ⟨w.l, w.parts, w.notices, 0⟩, nt_nf _ (nf_encOtc _), ⟨_, rfl, .inr rfl, Nat.le_refl _, fun _ => rfl⟩,
      (h1.trans (LeA.st (LeA.cons (LeA.refl _) (LeA.cons (LeA.refl _) (LeA.cons leA_drop (LeA.refl _)))))).le⟩) h⟩

theorem r14_done_t (w : Wrk) (l : Ln) (h : l.plan.length ≤ 1000) : PureTX Tryz.prog gl0 r14_done [encWrkT LENT w, encLn l] 6 131 (w.notices.length) (QD w l) := by
  refine pureT_fnX mixed fn_r14_done nt_r14_done hc_r14_done (by simp) gl0n (by simp [nt, nt_encs, nt_encT_Ety, nt_encT_Ntc, nt_encWrkT, nt_nf _ (nf_encLn _), nt_nf _ (nfL_Ety _ _), nt_nf _ (nf_encEvt _)]) [(LENT, .room (w.notices.length) 6 131)] (LeSt.refl gl0 _ _ _ _) ?_
  conv => whnf
  repeat' first
    | (refine br_dec (fun h0 => ?_) (fun h0 => ?_) <;> (conv => whnf))
    | (refine br_intro (fun hb => ?_) (fun hb => ?_) <;> ((try rw [hb]); (conv => whnf); (try simp at hb)))
    | (refine call_x2 (r14_copied_s l h) (LeL.refl _) ?_; (rintro _ - ⟨l', rfl, hl'⟩); (conv => whnf))
    | (refine fin_d1 (w := w) (l := l) rfl ?_; (conv => whnf); exact ⟨_, _, rfl, hl'.1, by omega⟩)
    | (refine fin_d2 (w := w) (l := l) rfl ?_; (conv => whnf); exact LeA.refl _)
    | (refine aI ?_; (conv => whnf))
    | (refine fin_e ?_; (conv => whnf); exact lfA)
    | fail


theorem r14_done_u (w : Wrk) (l : Ln) (h : l.plan.length ≤ 1000) (m_ : Nat) (hm_ : m_ = w.notices.length) : PureTX Tryz.prog gl0 r14_done [encWrkT LENT w, encLn l] 6 131 m_ (QD w l) := by
  subst hm_
  apply r14_done_t <;> assumption

end Go.Proofs.YtaomkjcclcgdlaaGreatDoor
namespace Go.Proofs.YtaomkjcclcgdlaaGreatDoor
open Go Ar
set_option linter.unusedVariables false
set_option autoImplicit false
set_option maxHeartbeats 4000000
set_option maxRecDepth 100000

def zPol : AV := .st (.cons (I 0) (.cons (I 0) (.cons (I 0) (.cons (I 0) (.cons (I 0) (.cons (I 0) (.cons (I 0) (.cons (I 0) (.cons (I 0) (.cons (I 0) (.cons (I 0) (.cons (I 0) (.cons (I 0) (.cons (I 0) (.cons (I 0) (.cons (I 0) (.cons (I 0) (.cons (.val (.slice none 0 0)) .nil))))))))))))))))))
def zWrk : AV := .st (.cons zPol (.cons zLn (.cons (encPrt ⟨0, 0, 0, 0, 0⟩) (.cons (.val (.slice none 0 0)) (.cons (I 0) .nil)))))
theorem nf_zWrk : nf zWrk := by simp [zWrk, zPol, nf, nf_zLn, nf_encPrt]

theorem bnd_nt {m : Nat} : ∀ a, nt a → bnd m a := by
  intro a
  induction a with
  | ptr o p => intro h; exact h.elim
  | sli o lo n e ty => intro h; exact h.elim
  | mp o => intro h; exact h.elim
  | elt n e f i p ih => intro h i; exact ih i (h i)
  | lst tok n e f ih =>
    intro h
    refine ⟨fun t ht => ?_, fun i => ih i (h.2 i)⟩
    rcases h.1 with h1 | h1 <;> rw [h1] at ht
    · cases ht
    · injection ht with ht; exact .inr (Nat.le_of_eq ht)
  | arr n e f ih => intro h i; exact ih i (h i)
  | st l ih => intro h; exact ih h
  | cons a b iha ihb => intro h; exact ⟨iha h.1, ihb h.2⟩
  | tup l ih => intro h; exact ih h
  | clo fn a b iha ihb => intro h; exact ⟨iha h.1, ihb h.2⟩
  | ifc t a ih => intro h; exact ih h
  | _ => intro _; trivial

theorem leO_lent {o r : Objs} {m q q' e : Nat} {ty : TypeId} (h : lookO LENT o = some (.room q e ty)) (hq : q = q') (hr : LeO o m r) : LeO o m ((LENT, .room q' e ty) :: r) :=
  ⟨⟨.inr (Nat.le_refl _), hq ▸ h⟩, hr⟩

theorem r14_played_t (w : Wrk) (e : Evt) (hp : hasI w.p) (h : w.notices.length ≤ 900000) (hpl : w.l.plan.length ≤ 1000) : PureTX Tryz.prog gl0 r14_played [encWrkT LENT w, encEvt e] 6 131 (w.notices.length) (QW w 4) := by
  refine pureT_fnX mixed fn_r14_played nt_r14_played hc_r14_played (by simp) gl0n (by simp [nt, nt_encs, nt_encT_Ety, nt_encT_Ntc, nt_encWrkT, nt_nf _ (nf_encLn _), nt_nf _ (nfL_Ety _ _), nt_nf _ (nf_encEvt _)]) [(LENT, .room (w.notices.length) 6 131)] (LeSt.refl gl0 _ _ _ _) ?_
  conv => whnf
  repeat' first
    | (refine br_dec (fun h0 => ?_) (fun h0 => ?_) <;> (conv => whnf))
    | (refine br_intro (fun hb => ?_) (fun hb => ?_) <;> ((try rw [hb]); (conv => whnf); (try simp at hb)))
    | (refine call_x2 (r13_Step_s w.p _ e hp) ⟨Le.refl _, le_Cse .., Le.refl _, trivial⟩ ?_; (rintro _ - ⟨_, xs, _, rfl, hx⟩); (conv => whnf))
    | (refine fin_w rfl ?_; (conv => whnf); exact ⟨_, leA_WrkT .., rfl, rfl, rfl, Nat.le_add_right _ _, rfl⟩)
    | (exact True.elim trivial)
    | (refine aI ?_; (conv => whnf))
    | (refine fin_e ?_; (conv => whnf); exact lfA)
    | fail
  refine loop_at mixed (fun (y : Nat × Wrk) => ([(8, I y.1), (6, encL I 1 xs), (2, .ptr 0 []), (4, .ptr 2 [])], [(0, .box (encWrkT LENT y.2)), (2, .box zWrk), (LENT, .room y.2.notices.length 6 131)], 3)) (fun y => y.1 ≤ xs.length ∧ y.2.p = w.p ∧ y.2.l.plan.length = w.l.plan.length ∧ y.2.notices.length ≤ w.notices.length + y.1 ∧ y.2.l.id = w.l.id) (fun y => xs.length - y.1) (0, _) ?_ (le_st (le_r rfl) (leE_i rfl rfl (leE_eq rfl (bnd_nf _ (nfL_I _ _)) (leE_ptr rfl rfl (leE_ptr rfl rfl trivial)))) (leO_box (lt_r rfl) rfl (leA_WrkT LENT ..) (bnd_nt _ (nt_encWrkT _)) (leO_box (lt_r rfl) rfl (LeA.refl _) (bnd_nf _ nf_zWrk) (leO_lent rfl rfl trivial))) gl0n) ?_
  · exact ⟨Nat.zero_le _, rfl, rfl, Nat.le_refl _, rfl⟩
  rintro ⟨k, v⟩ ⟨hk, e1, e2, e3⟩
  dsimp only at hk e1 e2 e3 ⊢
  conv => whnf
  have hn : (xs.length : Int) < 9223372036854775808 := by omega
  by_cases c : k < xs.length
  · refine br_true (decide_eq_true ((by omega : (k : Int) < xs.length))) ?_
    conv => whnf
    repeat' first
      | (refine br_dec (fun h0 => ?_) (fun h0 => ?_) <;> (conv => whnf))
      | (refine br_intro (fun hb => ?_) (fun hb => ?_) <;> ((try rw [hb]); (conv => whnf); (try simp at hb)))
      | (refine call_tx (args2 := [encWrkT LENT _, _]) (r14_acted_u ⟨⟨_, _, _, _, _, _, _, _, _, _, _, _, _, _, _, _, _, _⟩, ⟨_, ⟨_, _, _, _, _, _⟩, _, _, ⟨_, _, _, _, _, _, _, _, _, _, _, _, _, _, _⟩, _, _, _, ⟨_, _, _, _, _⟩, _, _, _⟩, ⟨_, _, _, _, _⟩, _, _⟩ _ ?_ ?_ _ ?_) (t := LENT) rfl (by rw [List.map_cons, ren_WrkT] <;> rfl) (.inl ⟨le_WrkT .., Le.refl _, trivial⟩) ?_; (first | rfl | omega | ((try dsimp only [hasI, List.length_nil] at *); omega) | (with_reducible assumption)); (first | rfl | omega | ((try dsimp only [hasI, List.length_nil] at *); omega) | (with_reducible assumption)); (first | rfl | omega | ((try dsimp only [hasI, List.length_nil] at *); omega) | (with_reducible assumption)); (rintro _ _ - ⟨w1, rfl, rfl, q1, q2, q3⟩);  (rw [ren_WrkT]); (conv => whnf))
      | (refine ⟨(k + 1, _), ?_, (by show xs.length - (k + 1) < xs.length - k; omega), (le_st (le_r rfl) (leE_i rfl (inc_id c hn) (leE_eq rfl (bnd_nf _ (nfL_I _ _)) (leE_ptr rfl rfl (leE_ptr rfl rfl trivial)))) (leO_box (lt_r rfl) rfl (leA_WrkT LENT ..) (bnd_nt _ (nt_encWrkT _)) (leO_box (lt_r rfl) rfl (LeA.refl _) (bnd_nf _ nf_zWrk) (leO_lent rfl rfl trivial))) gl0n)⟩; exact ⟨c, by simp_all, by simp_all, by (dsimp only at *; omega)⟩)
      | (refine aI ?_; (conv => whnf))
      | (refine fin_e ?_; (conv => whnf); exact lfA)
      | fail
  · refine br_false (decide_eq_false ((by omega : ¬ ((k : Int) < xs.length)))) ?_
    conv => whnf
    repeat' first
      | (refine br_dec (fun h0 => ?_) (fun h0 => ?_) <;> (conv => whnf))
      | (refine br_intro (fun hb => ?_) (fun hb => ?_) <;> ((try rw [hb]); (conv => whnf); (try simp at hb)))
      | (refine fin_w rfl ?_; (conv => whnf); exact ⟨_, leA_WrkT .., rfl, by simp_all, by simp_all, by (dsimp only at *; omega)⟩)
      | (refine aI ?_; (conv => whnf))
      | (refine fin_e ?_; (conv => whnf); exact lfA)
      | fail


theorem r14_played_u (w : Wrk) (e : Evt) (hp : hasI w.p) (h : w.notices.length ≤ 900000) (hpl : w.l.plan.length ≤ 1000) (m_ : Nat) (hm_ : m_ = w.notices.length) : PureTX Tryz.prog gl0 r14_played [encWrkT LENT w, encEvt e] 6 131 m_ (QW w 4) := by
  subst hm_
  apply r14_played_t <;> assumption

end Go.Proofs.YtaomkjcclcgdlaaGreatDoor
