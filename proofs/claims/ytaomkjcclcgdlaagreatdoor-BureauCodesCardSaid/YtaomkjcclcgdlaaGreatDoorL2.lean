/- The document's ageing of a case. No condition. -/
import Derived.Test.YtaomkjcclcgdlaaGreatDoorL1
set_option linter.all false
namespace Go.Proofs.YtaomkjcclcgdlaaGreatDoor
open Go Ar
set_option linter.unusedVariables false
set_option autoImplicit false
set_option maxHeartbeats 4000000
set_option maxRecDepth 100000

theorem r13_age_s (p : Pol) (c : Cse) (e : Evt) : PureX Tryz.prog gl0 r13_age [encPol p, encCse c, encEvt e] (QCA 4) := by
  refine pure_fnX mixed fn_r13_age nt_r13_age hc_r13_age (by simp) gl0n (by simp [nf]) ?_
  conv => whnf
  repeat' first
    | (refine br_dec (fun h0 => ?_) (fun h0 => ?_) <;> first | (exfalso; omega) | (conv => whnf))
    | (refine br_intro (fun hb => ?_) (fun hb => ?_) <;> ((try rw [hb]); (conv => whnf); (try simp at hb)))
    | (refine call_x2 (r13_Open_s ⟨_, _, _, _, _, _, _, _, _, _, _, _, _, _, _⟩) ⟨le_Cse .., trivial⟩ ?_; rintro _ - rfl; (conv => whnf))
    | (refine call_x2 (r13_back_s ⟨_, _, _, _, _, _, _, _, _, _, _, _, _, _, _⟩) ⟨le_Cse .., trivial⟩ ?_; (first | (rintro _ - ⟨_, rfl⟩) | (rintro _ - ⟨_, rfl, _⟩) | (rintro _ - ⟨_, _, rfl⟩) | (rintro _ - ⟨_, _, rfl, _⟩) | (rintro _ - ⟨_, _, _, rfl⟩) | (rintro _ - ⟨_, _, _, rfl, _⟩)); (conv => whnf))
    | (refine call_x2 (r13_cure_s ⟨_, _, _, _, _, _, _, _, _, _, _, _, _, _, _⟩) ⟨le_Cse .., trivial⟩ ?_; (first | (rintro _ - ⟨_, rfl⟩) | (rintro _ - ⟨_, rfl, _⟩) | (rintro _ - ⟨_, _, rfl⟩) | (rintro _ - ⟨_, _, rfl, _⟩) | (rintro _ - ⟨_, _, _, rfl⟩) | (rintro _ - ⟨_, _, _, rfl, _⟩)); (conv => whnf))
    | (refine call_x2 (r13_ended_s ⟨_, _, _, _, _, _, _, _, _, _, _, _, _, _, _⟩ _) ⟨le_Cse .., Le.refl _, trivial⟩ ?_; (first | (rintro _ - ⟨_, rfl⟩) | (rintro _ - ⟨_, rfl, _⟩) | (rintro _ - ⟨_, _, rfl⟩) | (rintro _ - ⟨_, _, rfl, _⟩) | (rintro _ - ⟨_, _, _, rfl⟩) | (rintro _ - ⟨_, _, _, rfl, _⟩)); (conv => whnf))
    | (refine call_x2 (r13_quiet_s ⟨_, _, _, _, _, _, _, _, _, _, _, _, _, _, _, _, _, _⟩ ⟨_, _, _, _, _, _, _, _, _, _, _, _, _, _, _⟩ ⟨_, _, _, _⟩) ⟨le_Pol .., le_Cse .., le_Evt .., trivial⟩ ?_; (rintro _ - ⟨_, _, rfl, _⟩); (conv => whnf))
    | (refine fin_cn ?_; (conv => whnf); exact ⟨_, rfl, _, mk_Cse ..⟩)
    | (refine fin_ca ?_; (conv => whnf); refine ⟨_, _, _, _, rfl, ⟨_, mk_Cse ..⟩, by first | omega | (simp only [List.length_cons, List.length_nil]; omega) | (simp; omega) | simp, fun i => ?_⟩; (try simp only [appF]); (repeat' split) <;> exact ⟨_, rfl⟩)
    | (refine aI ?_; (conv => whnf))
    | (refine fin_e ?_; (conv => whnf); exact lfA)
    | fail


end Go.Proofs.YtaomkjcclcgdlaaGreatDoor
namespace Go.Proofs.YtaomkjcclcgdlaaGreatDoor
open Go Ar
set_option linter.unusedVariables false
set_option autoImplicit false
set_option maxHeartbeats 4000000
set_option maxRecDepth 100000

theorem r13_paid_s (c : Cse) (e : Evt) : PureX Tryz.prog gl0 r13_paid [encCse c, encEvt e] (QCA 4) := by
  refine pure_fnX mixed fn_r13_paid nt_r13_paid hc_r13_paid (by simp) gl0n (by simp [nf]) ?_
  conv => whnf
  repeat' first
    | (refine br_dec (fun h0 => ?_) (fun h0 => ?_) <;> first | (exfalso; omega) | (conv => whnf))
    | (refine br_intro (fun hb => ?_) (fun hb => ?_) <;> ((try rw [hb]); (conv => whnf); (try simp at hb)))
    | (refine call_x2 (r13_Open_s ⟨_, _, _, _, _, _, _, _, _, _, _, _, _, _, _⟩) ⟨le_Cse .., trivial⟩ ?_; rintro _ - rfl; (conv => whnf))
    | (refine call_x2 (r13_back_s ⟨_, _, _, _, _, _, _, _, _, _, _, _, _, _, _⟩) ⟨le_Cse .., trivial⟩ ?_; (first | (rintro _ - ⟨_, rfl⟩) | (rintro _ - ⟨_, rfl, _⟩) | (rintro _ - ⟨_, _, rfl⟩) | (rintro _ - ⟨_, _, rfl, _⟩) | (rintro _ - ⟨_, _, _, rfl⟩) | (rintro _ - ⟨_, _, _, rfl, _⟩)); (conv => whnf))
    | (refine call_x2 (r13_cure_s ⟨_, _, _, _, _, _, _, _, _, _, _, _, _, _, _⟩) ⟨le_Cse .., trivial⟩ ?_; (first | (rintro _ - ⟨_, rfl⟩) | (rintro _ - ⟨_, rfl, _⟩) | (rintro _ - ⟨_, _, rfl⟩) | (rintro _ - ⟨_, _, rfl, _⟩) | (rintro _ - ⟨_, _, _, rfl⟩) | (rintro _ - ⟨_, _, _, rfl, _⟩)); (conv => whnf))
    | (refine fin_cn ?_; (conv => whnf); exact ⟨_, rfl, _, mk_Cse ..⟩)
    | (refine fin_ca ?_; (conv => whnf); refine ⟨_, _, _, _, rfl, ⟨_, mk_Cse ..⟩, by first | omega | (simp only [List.length_cons, List.length_nil]; omega) | (simp; omega) | simp, fun i => ?_⟩; (try simp only [appF]); (repeat' split) <;> exact ⟨_, rfl⟩)
    | (refine aI ?_; (conv => whnf))
    | (refine fin_e ?_; (conv => whnf); exact lfA)
    | fail


end Go.Proofs.YtaomkjcclcgdlaaGreatDoor
namespace Go.Proofs.YtaomkjcclcgdlaaGreatDoor
open Go Ar
set_option linter.unusedVariables false
set_option autoImplicit false
set_option maxHeartbeats 4000000
set_option maxRecDepth 100000

theorem r13_returned_s (c : Cse) (e : Evt) : PureX Tryz.prog gl0 r13_returned [encCse c, encEvt e] (QCse) := by
  refine pure_fnX mixed fn_r13_returned nt_r13_returned hc_r13_returned (by simp) gl0n (by simp [nf]) ?_
  conv => whnf
  repeat' first
    | (refine br_dec (fun h0 => ?_) (fun h0 => ?_) <;> (conv => whnf))
    | (refine br_intro (fun hb => ?_) (fun hb => ?_) <;> ((try rw [hb]); (conv => whnf); (try simp at hb)))
    | (refine aI ?_; (conv => whnf))
    | (refine fin_e ?_; (conv => whnf); exact ⟨by simp [packA, consL, nf], _, mk_Cse ..⟩)
    | fail

theorem r13_taken_s (p : Pol) (c : Cse) (e : Evt) : PureX Tryz.prog gl0 r13_taken [encPol p, encCse c, encEvt e] (QCA 4) := by
  refine pure_fnX mixed fn_r13_taken nt_r13_taken hc_r13_taken (by simp) gl0n (by simp [nf]) ?_
  conv => whnf
  repeat' first
    | (refine br_dec (fun h0 => ?_) (fun h0 => ?_) <;> first | (exfalso; omega) | (conv => whnf))
    | (refine br_intro (fun hb => ?_) (fun hb => ?_) <;> ((try rw [hb]); (conv => whnf); (try simp at hb)))
    | (refine call_x2 (r13_Open_s ⟨_, _, _, _, _, _, _, _, _, _, _, _, _, _, _⟩) ⟨le_Cse .., trivial⟩ ?_; rintro _ - rfl; (conv => whnf))
    | (refine call_x2 (r13_cure_s ⟨_, _, _, _, _, _, _, _, _, _, _, _, _, _, _⟩) ⟨le_Cse .., trivial⟩ ?_; (first | (rintro _ - ⟨_, rfl⟩) | (rintro _ - ⟨_, rfl, _⟩) | (rintro _ - ⟨_, _, rfl⟩) | (rintro _ - ⟨_, _, rfl, _⟩) | (rintro _ - ⟨_, _, _, rfl⟩) | (rintro _ - ⟨_, _, _, rfl, _⟩)); (conv => whnf))
    | (refine call_x2 (r13_ended_s ⟨_, _, _, _, _, _, _, _, _, _, _, _, _, _, _⟩ _) ⟨le_Cse .., Le.refl _, trivial⟩ ?_; (first | (rintro _ - ⟨_, rfl⟩) | (rintro _ - ⟨_, rfl, _⟩) | (rintro _ - ⟨_, _, rfl⟩) | (rintro _ - ⟨_, _, rfl, _⟩) | (rintro _ - ⟨_, _, _, rfl⟩) | (rintro _ - ⟨_, _, _, rfl, _⟩)); (conv => whnf))
    | (refine call_x2 (r13_returned_s ⟨_, _, _, _, _, _, _, _, _, _, _, _, _, _, _⟩ ⟨_, _, _, _⟩) ⟨le_Cse .., le_Evt .., trivial⟩ ?_; (first | (rintro _ - ⟨_, rfl⟩) | (rintro _ - ⟨_, rfl, _⟩) | (rintro _ - ⟨_, _, rfl⟩) | (rintro _ - ⟨_, _, rfl, _⟩) | (rintro _ - ⟨_, _, _, rfl⟩) | (rintro _ - ⟨_, _, _, rfl, _⟩)); (conv => whnf))
    | (refine call_x2 (r13_age_s ⟨_, _, _, _, _, _, _, _, _, _, _, _, _, _, _, _, _, _⟩ ⟨_, _, _, _, _, _, _, _, _, _, _, _, _, _, _⟩ ⟨_, _, _, _⟩) ⟨le_Pol .., le_Cse .., le_Evt .., trivial⟩ ?_; (rintro _ - ⟨_, xs, rfl, _⟩); (conv => whnf))
    | (refine call_x2 (r13_paid_s ⟨_, _, _, _, _, _, _, _, _, _, _, _, _, _, _⟩ ⟨_, _, _, _⟩) ⟨le_Cse .., le_Evt .., trivial⟩ ?_; (rintro _ - ⟨_, xs, rfl, _⟩); (conv => whnf))
    | (refine fin_cn ?_; (conv => whnf); exact ⟨_, rfl, _, mk_Cse ..⟩)
    | (refine fin_ca ?_; (conv => whnf); refine ⟨_, _, _, _, rfl, ⟨_, mk_Cse ..⟩, by first | omega | (simp only [List.length_cons, List.length_nil]; omega) | (simp; omega) | simp, fun i => ?_⟩; (try simp only [appF]); (repeat' split) <;> exact ⟨_, rfl⟩)
    | (refine aI ?_; (conv => whnf))
    | (refine fin_e ?_; (conv => whnf); exact lfA)
    | fail

end Go.Proofs.YtaomkjcclcgdlaaGreatDoor
