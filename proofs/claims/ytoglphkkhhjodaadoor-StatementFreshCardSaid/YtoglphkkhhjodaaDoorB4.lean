/- Days and dates by the document's answer. No condition. -/
import Derived.Test.YtoglphkkhhjodaaDoorB3
import Derived.Test.YtoglphkkhhjodaaDoorD1
set_option linter.all false
namespace Go.Proofs.YtoglphkkhhjodaaDoor
open Go Ar
set_option linter.unusedVariables false
set_option autoImplicit false
set_option maxHeartbeats 4000000
set_option maxRecDepth 100000

theorem isDay_x (day : Int) : PureX Tryd.prog gl0 r2_isDay [I day] (fun r => r = B (decide (1 ≤ day ∧ day ≤ 3652059))) := by
  refine pure_fnX mixed fn_r2_isDay nt_r2_isDay hc_r2_isDay (by simp) gl0n (by simp [nf]) ?_
  conv => whnf
  repeat' first
    | (refine br_dec (fun h0 => ?_) (fun h0 => ?_) <;> (conv => whnf))
    | (refine br_intro (fun hb => ?_) (fun hb => ?_) <;> ((try rw [hb]); (conv => whnf); (try simp at hb)))
    | (refine aI ?_; (conv => whnf))
    | (refine fin_e ?_; (conv => whnf); first | exact ⟨trivial, congrArg (fun b => B b) (decide_eq_true (by omega)).symm⟩ | exact ⟨trivial, congrArg (fun b => B b) (decide_eq_false (by omega)).symm⟩)
    | fail

theorem lpN_iff (y : Nat) : lpN y = 1 ↔ (y % 4 = 0 ∧ (y % 100 ≠ 0 ∨ y % 400 = 0)) := by
  unfold lpN
  by_cases c : y % 4 = 0 ∧ (y % 100 ≠ 0 ∨ y % 400 = 0)
  · rw [if_pos c]; exact ⟨fun _ => c, fun _ => rfl⟩
  · rw [if_neg c]; exact ⟨fun h => absurd h (by decide), fun h => absurd h c⟩

theorem divides_x (y : Nat) : PureX Tryd.prog gl0 r2_divides [I y] (fun r => r = B (decide (lpN y = 1))) := by
  refine pure_fnX mixed fn_r2_divides nt_r2_divides hc_r2_divides (by simp) gl0n (by simp [nf]) ?_
  obtain ⟨a, ha⟩ : ∃ a, a = y % 4 := ⟨_, rfl⟩
  obtain ⟨b, hb⟩ : ∃ b, b = y % 100 := ⟨_, rfl⟩
  obtain ⟨c, hc⟩ : ∃ c, c = y % 400 := ⟨_, rfl⟩
  have m4 : (y : Int).tmod 4 = (a : Nat) := by rw [ha]; exact (Int.ofNat_tmod y 4).symm
  have m100 : (y : Int).tmod 100 = (b : Nat) := by rw [hb]; exact (Int.ofNat_tmod y 100).symm
  have m400 : (y : Int).tmod 400 = (c : Nat) := by rw [hc]; exact (Int.ofNat_tmod y 400).symm
  have hq : decide (lpN y = 1) = decide (a = 0 ∧ (b ≠ 0 ∨ c = 0)) := decide_eq_decide.2 ((lpN_iff y).trans (by rw [ha, hb, hc]))
  rw [hq]
  clear hq ha hb hc
  conv => whnf
  repeat' first
    | (refine br_dec (fun h0 => ?_) (fun h0 => ?_) <;> (conv => whnf))
    | (refine br_intro (fun hb => ?_) (fun hb => ?_) <;> ((try rw [hb]); (conv => whnf); (try simp at hb)))
    | (rw [m4])
    | (rw [m100])
    | (rw [m400])
    | (refine aI ?_; (conv => whnf))
    | (refine fin_e ?_; (conv => whnf); first | exact ⟨trivial, congrArg (fun b => B b) (decide_eq_true (by omega)).symm⟩ | exact ⟨trivial, congrArg (fun b => B b) (decide_eq_false (by omega)).symm⟩)
    | fail

theorem yearLen_x (y : Nat) : PureX Tryd.prog gl0 r2_yearLen [I y] (fun r => r = I ((365 + lpN y : Nat) : Int)) := by
  refine pure_fnX mixed fn_r2_yearLen nt_r2_yearLen hc_r2_yearLen (by simp) gl0n (by simp [nf]) ?_
  conv => whnf
  refine call_x2 (divides_x y) (LeL.refl _) ?_
  rintro _ - rfl
  conv => whnf
  have hl := lpN_le y
  by_cases c : lpN y = 1
  · refine br_true (decide_eq_true (c)) ?_
    conv => whnf
    refine fin_e ?_
    conv => whnf
    exact ⟨trivial, congrArg (fun n => I n) (by omega)⟩
  · refine br_false (decide_eq_false (c)) ?_
    conv => whnf
    refine fin_e ?_
    conv => whnf
    exact ⟨trivial, congrArg (fun n => I n) (by omega)⟩

theorem lenOf_x (y m : Nat) (h1 : 1 ≤ m) (h2 : m ≤ 12) : PureX Tryd.prog gl0 r2_lenOf [I y, I m] (fun r => r = I ((cm (lpN y) (m + 1) - cm (lpN y) m : Nat) : Int)) := by
  refine pure_fnX mixed fn_r2_lenOf nt_r2_lenOf hc_r2_lenOf (by simp) gl0n (by simp [nf]) ?_
  have hl := lpN_le y
  have hd := divides_x y
  generalize lpN y = l at hl hd ⊢
  rcases (show m = 1 ∨ m = 2 ∨ m = 3 ∨ m = 4 ∨ m = 5 ∨ m = 6 ∨ m = 7 ∨ m = 8 ∨ m = 9 ∨ m = 10 ∨ m = 11 ∨ m = 12 by omega) with rfl | rfl | rfl | rfl | rfl | rfl | rfl | rfl | rfl | rfl | rfl | rfl
  all_goals (conv => whnf)
  all_goals first
    | (refine fin_e ?_; (conv => whnf); exact ⟨trivial, congrArg (fun n => I n) (by simp [cm, ahN] <;> omega)⟩)
    | skip
  refine call_x2 hd (LeL.refl _) ?_
  rintro _ - rfl
  conv => whnf
  by_cases c : l = 1
  · refine br_true (decide_eq_true (c)) ?_
    conv => whnf
    refine fin_e ?_
    conv => whnf
    exact ⟨trivial, congrArg (fun n => I n) (by simp [cm, ahN]; omega)⟩
  · refine br_false (decide_eq_false (c)) ?_
    conv => whnf
    refine fin_e ?_
    conv => whnf
    exact ⟨trivial, congrArg (fun n => I n) (by simp [cm, ahN]; omega)⟩

abbrev encDt (y m d : Nat) : AV := .st (.cons (I y) (.cons (I m) (.cons (I d) .nil)))
/-- What both tell of a day: its date, or that it is none. -/
inductive CvV (day : Int) : AV → Prop
  | ok (y m d : Nat) (h : DtIs day.toNat y m d) (h1 : 1 ≤ day) (h2 : day ≤ 3652059) : CvV day (tup2 (encDt y m d) (B true))
  | no (h : ¬ (1 ≤ day ∧ day ≤ 3652059)) : CvV day (tup2 (encDt 0 0 0) (B false))

theorem SB_cyc (c : Nat) : SB (400 * c) = 146097 * c := by
  unfold SB
  omega

theorem r2Civ_x (day : Int) : PureX Tryd.prog gl0 r2_Civil [I day] (CvV day) := by
  refine pure_fnX mixed fn_r2_Civil nt_r2_Civil hc_r2_Civil (by simp) gl0n (by simp [nf]) ?_
  conv => whnf
  refine call_x2 (isDay_x day) (LeL.refl _) ?_
  rintro _ - rfl
  conv => whnf
  by_cases c : 1 ≤ day ∧ day ≤ 3652059
  · refine br_false (by rw [decide_eq_true c]; rfl) ?_
    conv => whnf
    obtain ⟨n, rfl⟩ := Int.eq_ofNat_of_zero_le (show 0 ≤ day by omega)
    have hn1 : 1 ≤ n := by omega
    have hn2 : n ≤ 3652059 := by omega
    obtain ⟨k, hk⟩ : ∃ k, k = (n - 1) / 146097 := ⟨_, rfl⟩
    have w1 : IntKind.i64.wrap (((n : Nat) : Int) - 1) = ((n - 1 : Nat) : Int) := by rw [wrap_id (by unfold in64; omega)]; omega
    have w2 : (((n - 1 : Nat) : Int)).tdiv 146097 = (k : Nat) := by rw [hk]; exact (Int.ofNat_tdiv (n - 1) 146097).symm
    have w3 : IntKind.i64.wrap (k : Nat) = (k : Nat) := wrap_id (by unfold in64; omega)
    have w4 : IntKind.i64.wrap ((k : Nat) * 146097) = ((k * 146097 : Nat) : Int) := by rw [wrap_id (by unfold in64; omega)]; omega
    have w5 : IntKind.i64.wrap (((n : Nat) : Int) - ((k * 146097 : Nat) : Int)) = ((n - k * 146097 : Nat) : Int) := by rw [wrap_id (by unfold in64; omega)]; omega
    have w6 : IntKind.i64.wrap (400 * (k : Nat)) = ((400 * k : Nat) : Int) := by rw [wrap_id (by unfold in64; omega)]; omega
    have w7 : IntKind.i64.wrap (((400 * k : Nat) : Int) + 1) = ((400 * k + 1 : Nat) : Int) := by rw [wrap_id (by unfold in64; omega)]; omega
    repeat' first
      | (rw [wpE_one])
      | (refine And.intro (by decide) ?_; (conv => whnf))
      | (rw [w1])
      | (rw [w2])
      | (rw [w3])
      | (rw [w4])
      | (rw [w5])
      | (rw [w6])
      | (rw [w7])
      | fail
    clear w1 w2 w3 w4 w5 w6 w7
    have hy : ∀ y l : Nat, 1 ≤ l → SB (y - 1) + l = n → y ≤ 9999 := fun y l h1 h2 => by
      apply Classical.byContradiction
      intro hc
      have h3 : SB 9999 ≤ SB (y - 1) := SB_mono (by omega)
      have h4 : SB 9999 = 3652059 := rfl
      omega
    refine loop_at mixed (fun (p : Nat × Nat) => ([(6, I p.1), (5, I p.2), (2, .ptr 0 []), (3, B false)], [(0, .box (encDt 0 0 0))], 1)) (fun p => 1 ≤ p.1 ∧ 1 ≤ p.2 ∧ SB (p.1 - 1) + p.2 = n) (fun p => p.2) (400 * k + 1, n - k * 146097) ⟨by omega, (show 1 ≤ n - k * 146097 by omega), by show SB (400 * k + 1 - 1) + (n - k * 146097) = n; rw [Nat.add_sub_cancel, SB_cyc]; omega⟩ (le_st (le_r rfl) (leE_i rfl rfl (leE_i rfl rfl (leE_ptr rfl rfl (leE_eq rfl (bnd_nf _ (trivial)) trivial)))) (leO_box (lt_r rfl) rfl (LeA.refl _ ) (bnd_nf _ ( (by simp [nf]))) trivial) gl0n) ?_
    clear hk k
    rintro ⟨y, l⟩ ⟨h1, h2, h3⟩
    replace h1 : 1 ≤ y := h1
    replace h2 : 1 ≤ l := h2
    replace h3 : SB (y - 1) + l = n := h3
    have h4 := hy y l h2 h3
    conv => whnf
    refine call_x2 (yearLen_x y) (LeL.refl _) ?_
    rintro _ - rfl
    conv => whnf
    have h5 := lpN_le y
    by_cases c2 : 365 + lpN y < l
    · refine br_true (decide_eq_true ((by omega : ((365 + lpN y : Nat) : Int) < (l : Nat)))) ?_
      conv => whnf
      refine call_x2 (yearLen_x y) (LeL.refl _) ?_
      rintro _ - rfl
      conv => whnf
      have w1 : IntKind.i64.wrap (((l : Nat) : Int) - ((365 + lpN y : Nat) : Int)) = ((l - (365 + lpN y) : Nat) : Int) := by rw [wrap_id (by unfold in64; omega)]; omega
      have w2 : IntKind.i64.wrap (((y : Nat) : Int) + 1) = ((y + 1 : Nat) : Int) := by rw [wrap_id (by unfold in64; omega)]; omega
      refine ⟨(y + 1, l - (365 + lpN y)), ⟨(show 1 ≤ y + 1 by omega), (show 1 ≤ l - (365 + lpN y) by omega), ?_⟩, (show l - (365 + lpN y) < l by omega), (le_st (le_r rfl) (leE_i rfl (w2) (leE_i rfl (w1) (leE_ptr rfl rfl (leE_eq rfl (bnd_nf _ (trivial)) trivial)))) (leO_box (lt_r rfl) rfl (LeA.refl _ ) (bnd_nf _ ( (by simp [nf]))) trivial) gl0n)⟩
      show SB (y + 1 - 1) + (l - (365 + lpN y)) = n
      have h6 := SB_s (y - 1)
      rw [Nat.sub_add_cancel h1] at h6
      rw [Nat.add_sub_cancel]
      omega
    · refine br_false (decide_eq_false ((by omega : ¬ (((365 + lpN y : Nat) : Int) < (l : Nat))))) ?_
      conv => whnf
      have h6 : l ≤ 365 + lpN y := by omega
      clear c2
      refine loop_at mixed (fun (p : Nat × Nat) => ([(7, I p.1), (6, I y), (5, I p.2), (2, .ptr 0 []), (3, B false)], [(0, .box (encDt 0 0 0))], 1)) (fun p => 1 ≤ p.1 ∧ p.1 ≤ 12 ∧ 1 ≤ p.2 ∧ cm (lpN y) p.1 + p.2 = l) (fun p => p.2) (1, l) ⟨Nat.le_refl _, (show 1 ≤ 12 by decide), h2, (show cm (lpN y) 1 + l = l by rw [cm_1, Nat.zero_add])⟩ (le_st (le_r rfl) (leE_i rfl rfl (leE_i rfl rfl (leE_i rfl rfl (leE_ptr rfl rfl (leE_eq rfl (bnd_nf _ (trivial)) trivial))))) (leO_box (lt_r rfl) rfl (LeA.refl _ ) (bnd_nf _ ( (by simp [nf]))) trivial) gl0n) ?_
      rintro ⟨m, d⟩ ⟨m1, m2, d1, hm⟩
      replace m1 : 1 ≤ m := m1
      replace m2 : m ≤ 12 := m2
      replace d1 : 1 ≤ d := d1
      replace hm : cm (lpN y) m + d = l := hm
      have hs := cm_s h5 m1 m2
      conv => whnf
      refine call_x2 (lenOf_x y m m1 m2) (LeL.refl _) ?_
      rintro _ - rfl
      conv => whnf
      by_cases c2 : cm (lpN y) (m + 1) - cm (lpN y) m < d
      · refine br_true (decide_eq_true ((by omega : ((cm (lpN y) (m + 1) - cm (lpN y) m : Nat) : Int) < (d : Nat)))) ?_
        conv => whnf
        refine call_x2 (lenOf_x y m m1 m2) (LeL.refl _) ?_
        rintro _ - rfl
        conv => whnf
        have w1 : IntKind.i64.wrap (((d : Nat) : Int) - ((cm (lpN y) (m + 1) - cm (lpN y) m : Nat) : Int)) = ((d - (cm (lpN y) (m + 1) - cm (lpN y) m) : Nat) : Int) := by rw [wrap_id (by unfold in64; omega)]; omega
        have w2 : IntKind.i64.wrap (((m : Nat) : Int) + 1) = ((m + 1 : Nat) : Int) := by rw [wrap_id (by unfold in64; omega)]; omega
        have hm12 : m + 1 ≤ 12 := by
          apply Classical.byContradiction
          intro hc
          obtain rfl : m = 12 := by omega
          rw [cm_13] at c2 hs
          omega
        exact ⟨(m + 1, d - (cm (lpN y) (m + 1) - cm (lpN y) m)), ⟨(show 1 ≤ m + 1 by omega), hm12, (show 1 ≤ d - (cm (lpN y) (m + 1) - cm (lpN y) m) by omega), (show cm (lpN y) (m + 1) + (d - (cm (lpN y) (m + 1) - cm (lpN y) m)) = l by omega)⟩, (show d - (cm (lpN y) (m + 1) - cm (lpN y) m) < d by omega), (le_st (le_r rfl) (leE_i rfl (w2) (leE_i rfl rfl (leE_i rfl (w1) (leE_ptr rfl rfl (leE_eq rfl (bnd_nf _ (trivial)) trivial))))) (leO_box (lt_r rfl) rfl (LeA.refl _ ) (bnd_nf _ ( (by simp [nf]))) trivial) gl0n)⟩
      · refine br_false (decide_eq_false ((by omega : ¬ (((cm (lpN y) (m + 1) - cm (lpN y) m : Nat) : Int) < (d : Nat))))) ?_
        conv => whnf
        repeat' first
          | (rw [wpE_one])
          | (refine And.intro (by decide) ?_; (conv => whnf))
          | fail
        refine fin_e ?_
        conv => whnf
        exact ⟨by simp [packA, consL, nf], .ok y m d ⟨h1, m1, m2, d1, by omega, by show SB (y - 1) + cm (lpN y) m + d = n; omega⟩ c.1 c.2⟩
  · refine br_true (by rw [decide_eq_false c]; rfl) ?_
    conv => whnf
    refine fin_e ?_
    conv => whnf
    exact ⟨by simp [packA, consL, nf], .no c⟩

end Go.Proofs.YtoglphkkhhjodaaDoor
namespace Go.Proofs.YtoglphkkhhjodaaDoor
open Go Ar
set_option linter.unusedVariables false
set_option autoImplicit false
set_option maxHeartbeats 4000000
set_option maxRecDepth 100000

theorem leap_x (y : Nat) (h1 : 1 ≤ y) (h2 : y ≤ 9999) : PureX Tryd.prog gl0 calendar_Leap [I y] (fun r => r = B (decide (lpN y = 1))) := by
  refine pure_fnX mixed fn_calendar_Leap nt_calendar_Leap hc_calendar_Leap (by simp) gl0n (by simp [nf]) ?_
  obtain ⟨a, ha⟩ : ∃ a, a = y % 4 := ⟨_, rfl⟩
  obtain ⟨b, hb⟩ : ∃ b, b = y % 100 := ⟨_, rfl⟩
  obtain ⟨c, hc⟩ : ∃ c, c = y % 400 := ⟨_, rfl⟩
  have m4 : (y : Int).tmod 4 = (a : Nat) := by rw [ha]; exact (Int.ofNat_tmod y 4).symm
  have m100 : (y : Int).tmod 100 = (b : Nat) := by rw [hb]; exact (Int.ofNat_tmod y 100).symm
  have m400 : (y : Int).tmod 400 = (c : Nat) := by rw [hc]; exact (Int.ofNat_tmod y 400).symm
  have hq : decide (lpN y = 1) = decide (a = 0 ∧ (b ≠ 0 ∨ c = 0)) := decide_eq_decide.2 ((lpN_iff y).trans (by rw [ha, hb, hc]))
  rw [hq]
  clear hq ha hb hc
  conv => whnf
  repeat' first
    | (refine br_dec (fun h0 => ?_) (fun h0 => ?_) <;> first | (exfalso; omega) | (conv => whnf))
    | (refine br_intro (fun hb => ?_) (fun hb => ?_) <;> ((try rw [hb]); (conv => whnf); (try simp at hb)))
    | (rw [m4])
    | (rw [m100])
    | (rw [m400])
    | (refine aI ?_; (conv => whnf))
    | (refine fin_e ?_; (conv => whnf); first | exact ⟨trivial, congrArg (fun b => B b) (decide_eq_true (by omega)).symm⟩ | exact ⟨trivial, congrArg (fun b => B b) (decide_eq_false (by omega)).symm⟩)
    | fail

theorem start_x (y m : Nat) (h1 : 1 ≤ y) (h2 : y ≤ 9999) (m1 : 1 ≤ m) (m2 : m ≤ 12) : PureX Tryd.prog gl0 calendar_start [I y, I m] (fun r => r = I ((cm (lpN y) m : Nat) : Int)) := by
  refine pure_fnX mixed fn_calendar_start nt_calendar_start hc_calendar_start (by simp) gl0n (by simp [nf]) ?_
  have hl := lpN_le y
  have hd := leap_x y h1 h2
  generalize lpN y = l at hl hd ⊢
  have w : IntKind.i64.wrap (((m : Nat) : Int) - 1) = ((m - 1 : Nat) : Int) := by rw [wrap_id (by unfold in64; omega)]; omega
  rcases (show l = 0 ∨ l = 1 by omega) with rfl | rfl <;> rcases (show m = 1 ∨ m = 2 ∨ m = 3 ∨ m = 4 ∨ m = 5 ∨ m = 6 ∨ m = 7 ∨ m = 8 ∨ m = 9 ∨ m = 10 ∨ m = 11 ∨ m = 12 by omega) with rfl | rfl | rfl | rfl | rfl | rfl | rfl | rfl | rfl | rfl | rfl | rfl
  all_goals (conv => whnf)
  all_goals (repeat' first
    | (rw [wpE_one])
    | (rw [w])
    | (refine And.intro (by first | decide | omega | fail) ?_; (conv => whnf))
    | (refine call_x2 hd (LeL.refl _) ?_; rintro _ - rfl; (conv => whnf))
    | (refine fin_e ?_; (conv => whnf); exact ⟨trivial, congrArg (fun n => I n) (by decide)⟩)
    | fail)

theorem calCiv_x (day : Int) : PureX Tryd.prog gl0 calendar_Civil [I day] (CvV day) := by
  refine pure_fnX mixed fn_calendar_Civil nt_calendar_Civil hc_calendar_Civil (by simp) gl0n (by simp [nf]) ?_
  conv => whnf
  by_cases c : 1 ≤ day ∧ day ≤ 3652059
  · refine br_false (decide_eq_false ((by omega : ¬ day < 1))) ?_
    conv => whnf
    refine br_false (decide_eq_false ((by omega : ¬ 3652059 < day))) ?_
    conv => whnf
    obtain ⟨n, hn⟩ : ∃ n : Nat, day = (n : Int) + 1 := ⟨(day - 1).toNat, by omega⟩
    have hn2 : n < 3652059 := by omega
    obtain ⟨k, hk⟩ : ∃ k, k = n / 146097 := ⟨_, rfl⟩
    obtain ⟨r1, hr1⟩ : ∃ r1, r1 = n % 146097 := ⟨_, rfl⟩
    obtain ⟨q1, hq1⟩ : ∃ q1, q1 = r1 / 36524 := ⟨_, rfl⟩
    obtain ⟨h, hh⟩ : ∃ h, h = min q1 3 := ⟨_, rfl⟩
    obtain ⟨r2, hr2⟩ : ∃ r2, r2 = r1 - h * 36524 := ⟨_, rfl⟩
    obtain ⟨f, hf⟩ : ∃ f, f = r2 / 1461 := ⟨_, rfl⟩
    obtain ⟨r3, hr3⟩ : ∃ r3, r3 = r2 % 1461 := ⟨_, rfl⟩
    obtain ⟨q2, hq2⟩ : ∃ q2, q2 = r3 / 365 := ⟨_, rfl⟩
    obtain ⟨o, ho⟩ : ∃ o, o = min q2 3 := ⟨_, rfl⟩
    obtain ⟨r4, hr4⟩ : ∃ r4, r4 = r3 - o * 365 := ⟨_, rfl⟩
    obtain ⟨y, hy⟩ : ∃ y, y = 400 * k + 100 * h + 4 * f + o + 1 := ⟨_, rfl⟩
    have z := civ_y hk hr1 (by rw [hh, hq1]) hr2 hf hr3 (by rw [ho, hq2]) hr4
    have b1 : k ≤ 25 ∧ r1 < 146097 := by omega
    have b2 : r2 ≤ 146097 := by omega
    have b3 : f ≤ 100 ∧ r3 < 1461 := by omega
    have w1 : IntKind.i64.wrap (day - 1) = (n : Nat) := by rw [wrap_id (by unfold in64; omega)]; omega
    have w2 : (n : Int).tdiv 146097 = (k : Nat) := by rw [hk]; exact (Int.ofNat_tdiv n 146097).symm
    have w3 : IntKind.i64.wrap ((k : Nat) : Int) = (k : Nat) := wrap_id (by unfold in64; omega)
    have w4 : IntKind.i64.wrap (400 * ((k : Nat) : Int)) = ((400 * k : Nat) : Int) := by rw [wrap_id (by unfold in64; omega)]; omega
    have w5 : IntKind.i64.wrap (((400 * k : Nat) : Int) + 1) = ((400 * k + 1 : Nat) : Int) := by rw [wrap_id (by unfold in64; omega)]; omega
    have w6 : (n : Int).tmod 146097 = (r1 : Nat) := by rw [hr1]; exact (Int.ofNat_tmod n 146097).symm
    have w7 : (r1 : Int).tdiv 36524 = (q1 : Nat) := by rw [hq1]; exact (Int.ofNat_tdiv r1 36524).symm
    have w8 : IntKind.i64.wrap ((q1 : Nat) : Int) = (q1 : Nat) := wrap_id (by unfold in64; omega)
    have w9 : mmI false ((q1 : Nat) : Int) 3 = (h : Nat) := by unfold mmI; simp only [Bool.false_eq_true, if_false]; omega
    have w10 : IntKind.i64.wrap (((h : Nat) : Int) * 36524) = ((h * 36524 : Nat) : Int) := by rw [wrap_id (by unfold in64; omega)]; omega
    have w11 : IntKind.i64.wrap (((r1 : Nat) : Int) - ((h * 36524 : Nat) : Int)) = (r2 : Nat) := by rw [wrap_id (by unfold in64; omega)]; omega
    have w12 : (r2 : Int).tdiv 1461 = (f : Nat) := by rw [hf]; exact (Int.ofNat_tdiv r2 1461).symm
    have w13 : IntKind.i64.wrap ((f : Nat) : Int) = (f : Nat) := wrap_id (by unfold in64; omega)
    have w14 : (r2 : Int).tmod 1461 = (r3 : Nat) := by rw [hr3]; exact (Int.ofNat_tmod r2 1461).symm
    have w15 : (r3 : Int).tdiv 365 = (q2 : Nat) := by rw [hq2]; exact (Int.ofNat_tdiv r3 365).symm
    have w16 : IntKind.i64.wrap ((q2 : Nat) : Int) = (q2 : Nat) := wrap_id (by unfold in64; omega)
    have w17 : mmI false ((q2 : Nat) : Int) 3 = (o : Nat) := by unfold mmI; simp only [Bool.false_eq_true, if_false]; omega
    have w18 : IntKind.i64.wrap (((o : Nat) : Int) * 365) = ((o * 365 : Nat) : Int) := by rw [wrap_id (by unfold in64; omega)]; omega
    have w19 : IntKind.i64.wrap (((r3 : Nat) : Int) - ((o * 365 : Nat) : Int)) = (r4 : Nat) := by rw [wrap_id (by unfold in64; omega)]; omega
    have w20 : IntKind.i64.wrap (100 * ((h : Nat) : Int)) = ((100 * h : Nat) : Int) := by rw [wrap_id (by unfold in64; omega)]; omega
    have w21 : IntKind.i64.wrap (4 * ((f : Nat) : Int)) = ((4 * f : Nat) : Int) := by rw [wrap_id (by unfold in64; omega)]; omega
    have w22 : IntKind.i64.wrap (((100 * h : Nat) : Int) + ((4 * f : Nat) : Int)) = ((100 * h + 4 * f : Nat) : Int) := by rw [wrap_id (by unfold in64; omega)]; omega
    have w23 : IntKind.i64.wrap (((100 * h + 4 * f : Nat) : Int) + ((o : Nat) : Int)) = ((100 * h + 4 * f + o : Nat) : Int) := by rw [wrap_id (by unfold in64; omega)]; omega
    have w24 : IntKind.i64.wrap (((400 * k + 1 : Nat) : Int) + ((100 * h + 4 * f + o : Nat) : Int)) = ((y : Nat) : Int) := by rw [wrap_id (by unfold in64; omega)]; omega
    clear hk hr1 hq1 hh hr2 hf hr3 hq2 ho hr4
    repeat' first
      | (rw [wpE_one])
      | (refine And.intro (by decide) ?_; (conv => whnf))
      | (rw [w1])
      | (rw [w2])
      | (rw [w3])
      | (rw [w4])
      | (rw [w5])
      | (rw [w6])
      | (rw [w7])
      | (rw [w8])
      | (rw [w9])
      | (rw [w10])
      | (rw [w11])
      | (rw [w12])
      | (rw [w13])
      | (rw [w14])
      | (rw [w15])
      | (rw [w16])
      | (rw [w17])
      | (rw [w18])
      | (rw [w19])
      | (rw [w20])
      | (rw [w21])
      | (rw [w22])
      | (rw [w23])
      | (rw [w24])
      | fail
    have e1 : SB (y - 1) + r4 = n := by rw [hy, Nat.add_sub_cancel]; exact z.1
    have e2 : r4 < 365 + lpN y := by rw [hy]; exact z.2.1
    have y1 : 1 ≤ y := by omega
    have y2 : y ≤ 9999 := by
      apply Classical.byContradiction
      intro hc
      have h3 : SB 9999 ≤ SB (y - 1) := SB_mono (by omega)
      have h4 : SB 9999 = 3652059 := rfl
      omega
    have h5 := lpN_le y
    clear w1 w2 w3 w4 w5 w6 w7 w8 w9 w10 w11 w12 w13 w14 w15 w16 w17 w18 w19 w20 w21 w22 w23 w24 hy z
    refine loop_at mixed (fun (m : Nat) => ([(9, I m), (4, I r4), (5, I y), (2, .ptr 0 []), (3, B false)], [(0, .box (encDt 0 0 0))], 1)) (fun m => 1 ≤ m ∧ m ≤ 12 ∧ cm (lpN y) m ≤ r4) (fun m => 12 - m) 1 ⟨Nat.le_refl _, by decide, by rw [cm_1]; exact Nat.zero_le _⟩ (le_st (le_r rfl) (leE_i rfl rfl (leE_i rfl rfl (leE_i rfl rfl (leE_ptr rfl rfl (leE_eq rfl (bnd_nf _ (trivial)) trivial))))) (leO_box (lt_r rfl) rfl (LeA.refl _ ) (bnd_nf _ ( (by simp [nf]))) trivial) gl0n) ?_
    rintro m ⟨m1, m2, hm⟩
    have hs := cm_s h5 m1 m2
    have v1 : IntKind.i64.wrap (((m : Nat) : Int) + 1) = ((m + 1 : Nat) : Int) := by rw [wrap_id (by unfold in64; omega)]; omega
    have done : (m = 12 ∨ r4 < cm (lpN y) (m + 1)) → DtIs day.toNat y m (r4 - cm (lpN y) m + 1) := fun hd => by
      refine ⟨y1, m1, m2, by omega, ?_, by rw [hn]; show SB (y - 1) + cm (lpN y) m + (r4 - cm (lpN y) m + 1) = n + 1; omega⟩
      rcases hd with rfl | hd
      · have : cm (lpN y) (12 + 1) = 365 + lpN y := cm_13 _
        omega
      · omega
    have v2 : IntKind.i64.wrap (((r4 : Nat) : Int) - ((cm (lpN y) m : Nat) : Int)) = ((r4 - cm (lpN y) m : Nat) : Int) := by rw [wrap_id (by unfold in64; omega)]; omega
    have v3 : IntKind.i64.wrap (((r4 - cm (lpN y) m : Nat) : Int) + 1) = ((r4 - cm (lpN y) m + 1 : Nat) : Int) := by rw [wrap_id (by unfold in64; omega)]; omega
    conv => whnf
    by_cases c1 : m < 12
    · refine br_true (decide_eq_true ((by omega : (m : Int) < 12))) ?_
      conv => whnf
      rw [v1]
      refine call_x2 (start_x y (m + 1) y1 y2 (by omega) (by omega)) (LeL.refl _) ?_
      rintro _ - rfl
      conv => whnf
      by_cases c2 : cm (lpN y) (m + 1) ≤ r4
      · refine br_true (decide_eq_true ((by omega : ((cm (lpN y) (m + 1) : Nat) : Int) ≤ (r4 : Nat)))) ?_
        conv => whnf
        exact ⟨m + 1, ⟨by omega, by omega, c2⟩, (show 12 - (m + 1) < 12 - m by omega), (le_st (le_r rfl) (leE_i rfl (v1) (leE_i rfl rfl (leE_i rfl rfl (leE_ptr rfl rfl (leE_eq rfl (bnd_nf _ (trivial)) trivial))))) (leO_box (lt_r rfl) rfl (LeA.refl _ ) (bnd_nf _ ( (by simp [nf]))) trivial) gl0n)⟩
      · refine br_false (decide_eq_false ((by omega : ¬ (((cm (lpN y) (m + 1) : Nat) : Int) ≤ (r4 : Nat))))) ?_
        conv => whnf
        refine call_x2 (start_x y m y1 y2 m1 m2) (LeL.refl _) ?_
        rintro _ - rfl
        conv => whnf
        repeat' first
          | (rw [wpE_one])
          | (refine And.intro (by decide) ?_; (conv => whnf))
          | (rw [v2])
          | (rw [v3])
          | fail
        refine fin_e ?_
        conv => whnf
        exact ⟨by simp [packA, consL, nf], .ok y m _ (done (.inr (by omega))) c.1 c.2⟩
    · refine br_false (decide_eq_false ((by omega : ¬ ((m : Int) < 12)))) ?_
      conv => whnf
      refine call_x2 (start_x y m y1 y2 m1 m2) (LeL.refl _) ?_
      rintro _ - rfl
      conv => whnf
      repeat' first
        | (rw [wpE_one])
        | (refine And.intro (by decide) ?_; (conv => whnf))
        | (rw [v2])
        | (rw [v3])
        | fail
      refine fin_e ?_
      conv => whnf
      exact ⟨by simp [packA, consL, nf], .ok y m _ (done (.inl (by omega))) c.1 c.2⟩
  · by_cases c1 : day < 1
    · refine br_true (decide_eq_true (c1)) ?_
      conv => whnf
      refine fin_e ?_
      conv => whnf
      exact ⟨by simp [packA, consL, nf], .no c⟩
    · refine br_false (decide_eq_false (c1)) ?_
      conv => whnf
      refine br_true (decide_eq_true ((by omega : 3652059 < day))) ?_
      conv => whnf
      refine fin_e ?_
      conv => whnf
      exact ⟨by simp [packA, consL, nf], .no c⟩

end Go.Proofs.YtoglphkkhhjodaaDoor
namespace Go.Proofs.YtoglphkkhhjodaaDoor
open Go Ar
set_option linter.unusedVariables false
set_option autoImplicit false
set_option maxHeartbeats 4000000
set_option maxRecDepth 100000

theorem decB_size (L n : Nat) : (decB L n).size = L := by
  unfold decB
  rw [strOfNums_size, List.length_map, List.length_range]
theorem decB_s {L n : Nat} (h : n < 10 ^ L) : (⟨#[48]⟩ : ByteArray) ++ decB L n = decB (L + 1) n := by
  rw [show (⟨#[48]⟩ : ByteArray) = strOfNums [48] from rfl]
  unfold decB
  rw [son_app, List.range_succ_eq_map, List.map_cons, List.map_map]
  refine congrArg strOfNums ?_
  refine List.cons_eq_cons.2 ⟨?_, List.map_congr_left fun i hi => ?_⟩
  · have : dgt (L + 1) n 0 = 0 := by
      unfold dgt
      rw [show L + 1 - 1 - 0 = L by omega, Nat.div_eq_of_lt h]
    rw [this]; rfl
  · have hi : i < L := List.mem_range.1 hi
    have : dgt (L + 1) n (i + 1) = dgt L n i := by
      unfold dgt
      rw [show L + 1 - 1 - (i + 1) = L - 1 - i by omega]
    show _ = ((48 + dgt (L + 1) n (i + 1) : Nat) : Int)
    rw [this]
theorem ndg_lt {n w : Nat} (hn : n < 18446744073709551616) (h : n < 10 ^ w) (hw : 1 ≤ w) : ndg n ≤ w := by
  have h1 := ndg_is hn
  rcases h1.ge with e | e
  · omega
  · apply Classical.byContradiction
    intro hc
    have : 10 ^ w ≤ 10 ^ (ndg n - 1) := Nat.pow_le_pow_right (by decide) (by omega)
    omega

theorem padded_x (n w : Nat) (hw : 1 ≤ w) (hw2 : w ≤ 4) (h : n < 10 ^ w) : PureX Tryd.prog gl0 r2_padded [I n, I w] (fun r => r = T (decB w n)) := by
  refine pure_fnX mixed fn_r2_padded nt_r2_padded hc_r2_padded (by simp) gl0n (by simp [nf]) ?_
  have hn : n < 10000 := Nat.lt_of_lt_of_le h (Nat.le_trans (Nat.pow_le_pow_right (by decide) hw2) (by decide))
  conv => whnf
  refine call_x2 (itoaS_x (n : Nat) (by unfold in64; omega)) (LeL.refl _) ?_
  rintro _ - rfl
  rw [show itoaT (n : Nat) = decT n from if_neg (by omega)]
  conv => whnf
  have hd := ndg_is (show n < 18446744073709551616 by omega)
  have hdw := ndg_lt (by omega) h hw
  rw [show decT n = decB (ndg n) n from rfl]
  generalize ndg n = d at hd hdw ⊢
  have hlt := hd.lt
  clear hd
  refine loop_at mixed (fun (k : Nat) => ([(5, T (decB k n)), (1, I w)], [], 0)) (fun k => k ≤ w ∧ n < 10 ^ k) (fun k => w - k) d ⟨hdw, hlt⟩ (le_st (le_r rfl) (leE_eq rfl (bnd_nf _ (trivial)) (leE_i rfl rfl trivial)) trivial gl0n) ?_
  rintro k ⟨hk, hkn⟩
  conv => whnf
  rw [decB_size]
  by_cases c : k < w
  · refine br_true (decide_eq_true ((by omega : (k : Int) < w))) ?_
    conv => whnf
    refine And.intro (by rw [decB_size]; show 1 + k ≤ 9223372036854775807; omega) ?_
    conv => whnf
    try rw [wpE_one]
    conv => whnf
    rw [decB_s hkn]
    exact ⟨k + 1, ⟨c, Nat.lt_of_lt_of_le hkn (Nat.pow_le_pow_right (by decide) (by omega))⟩, (show w - (k + 1) < w - k by omega), (le_st (le_r rfl) (leE_eq rfl (bnd_nf _ (trivial)) (leE_i rfl rfl trivial)) trivial gl0n)⟩
  · refine br_false (decide_eq_false ((by omega : ¬ ((k : Int) < w)))) ?_
    conv => whnf
    obtain rfl : k = w := by omega
    refine fin_e ?_
    conv => whnf
    exact ⟨trivial, rfl⟩

theorem put_g {lo L u q v : Nat} {f g0 g1 : Nat → Int} (hd : v % 10 = dgt L u q) (hq : q + 1 ≤ L) (hg0 : ∀ j, g0 j = if lo + (q + 1) ≤ j ∧ j < lo + L then ((48 + dgt L u (j - lo) : Nat) : Int) else f j) (hg1 : ∀ j, g1 j = if j = lo + ((q : Nat) : Int).toNat then ((48 + v % 10 : Nat) : Int) else g0 j) (j : Nat) : g1 j = if lo + q ≤ j ∧ j < lo + L then ((48 + dgt L u (j - lo) : Nat) : Int) else f j := by
  rw [hg1, hg0, Int.toNat_natCast]
  by_cases c : j = lo + q
  · rw [if_pos c, if_pos (by omega), hd, c, Nat.add_sub_cancel_left]
  · rw [if_neg c]
    by_cases c2 : lo + (q + 1) ≤ j ∧ j < lo + L
    · rw [if_pos c2, if_pos (by omega)]
    · rw [if_neg c2, if_neg (by omega)]

theorem put_i (u lo N L : Nat) (hL : L ≤ 4) (hL1 : 1 ≤ L) (hu : u < 10 ^ L) (hN : lo + L ≤ N) (hN2 : N ≤ 10) (f : Nat → Int) : PureIX Tryd.prog gl0 calendar_put [.sli B0 lo L 1 5, I u] [(B0, .box (.arr N 1 (fun j => Y (f j))))] 0 (fun r o1 n1 => (nk r ∧ nf r) ∧ o1 = [(B0, .box (dgA lo N L u f 0))] ∧ n1 = 0) := by
  refine pureI_fnX mixed fn_calendar_put nt_calendar_put hc_calendar_put (by simp) gl0n ?_
  have hn : u < 10000 := Nat.lt_of_lt_of_le hu (Nat.le_trans (Nat.pow_le_pow_right (by decide) hL) (by decide))
  conv => whnf
  refine loop_at mixed (fun (p : Nat) => ([(4, I ((p : Int) - 1)), (0, .sli B0 lo L 1 5), (1, I (u / 10 ^ (L - p) : Nat))], [(B0, .box (dgA lo N L u f p))], 0)) (fun p => p ≤ L) (fun p => p) L (Nat.le_refl _) (le_st (le_r rfl) (leE_i rfl ((by rw [wrap_id (by unfold in64; omega)])) (leE_eq rfl (.inr (by decide)) (leE_i rfl ((by simp)) trivial))) (leO_lent rfl rfl (LeA.arr (fun j hj => LeA.of_eq (show Y (f j) = Y _ by rw [if_neg (by omega)])) ) (bnd_nf _ ( (fun i => trivial))) trivial) gl0n) ?_
  intro p hp
  conv => whnf
  by_cases c : p = 0
  · refine br_false (decide_eq_false ((by omega : ¬ (0 ≤ (p : Int) - 1)))) ?_
    conv => whnf
    subst c
    exact ⟨⟨[], [(B0, .box (dgA lo N L u f 0))], 0, (le_st (le_r rfl) trivial (leO_lent rfl rfl (LeA.refl _) (bnd_nf _ ((fun i => trivial))) trivial) gl0n), ⟨_, Le.refl _, ⟨trivial, (by intros; trivial)⟩, rfl, rfl⟩⟩⟩
  · refine br_true (decide_eq_true ((by omega : (0 ≤ (p : Int) - 1)))) ?_
    conv => whnf
    obtain ⟨q, rfl⟩ : ∃ q, p = q + 1 := ⟨p - 1, by omega⟩
    obtain ⟨v, hv⟩ : ∃ v, v = u / 10 ^ (L - (q + 1)) := ⟨_, rfl⟩
    rw [← hv]
    have hv1 : v ≤ u := by rw [hv]; exact Nat.div_le_self _ _
    have e0 : ((q + 1 : Nat) : Int) - 1 = (q : Nat) := by omega
    have e1 : (v : Int).tmod 10 = ((v % 10 : Nat) : Int) := (Int.ofNat_tmod v 10).symm
    have e2 : IntKind.i64.wrap (48 + ((v % 10 : Nat) : Int)) = ((48 + v % 10 : Nat) : Int) := by rw [wrap_id (by unfold in64; omega)]; omega
    have e3 : IntKind.u8.wrap ((48 + v % 10 : Nat) : Int) = ((48 + v % 10 : Nat) : Int) := by show ((48 + v % 10 : Nat) : Int) % 256 = _; omega
    have e4 : (v : Int).tdiv 10 = ((v / 10 : Nat) : Int) := (Int.ofNat_tdiv v 10).symm
    have e5 : IntKind.i64.wrap ((v / 10 : Nat) : Int) = ((v / 10 : Nat) : Int) := wrap_id (by unfold in64; omega)
    obtain ⟨g0, hg0⟩ : ∃ g0 : Nat → Int, ∀ j, g0 j = if lo + (q + 1) ≤ j ∧ j < lo + L then ((48 + dgt L u (j - lo) : Nat) : Int) else f j := ⟨_, fun _ => rfl⟩
    have r0 : dgA lo N L u f (q + 1) = .arr N 1 fun j => Y (g0 j) := congrArg (AV.arr N 1) (funext fun j => congrArg (fun n => Y n) (hg0 j).symm)
    obtain ⟨g1, hg1⟩ : ∃ g1 : Nat → Int, ∀ j, g1 j = if j = lo + ((q : Nat) : Int).toNat then ((48 + v % 10 : Nat) : Int) else g0 j := ⟨_, fun _ => rfl⟩
    rw [r0]
    try rw [e0]
    repeat' first
      | (rw [wpE_one])
      | (rw [e1])
      | (rw [e2])
      | (rw [e3])
      | (rw [e4])
      | (rw [e5])
      | (refine And.intro (by first | decide | omega | (constructor <;> omega) | fail) ?_; (conv => whnf))
      | fail
    rw [okN]
    (try conv in (occs := *) (ev gl0 _ _) => all_goals whnf)
    conv => whnf
    rw [st_e hg1]
    repeat' first
      | (rw [wpE_one])
      | (rw [e4])
      | (rw [e5])
      | (refine And.intro (by first | decide | omega | (constructor <;> omega) | fail) ?_; (conv => whnf))
      | fail
    have hq : v / 10 = u / 10 ^ (L - q) := by
      rw [hv, Nat.div_div_eq_div_mul, ← Nat.pow_succ, show (L - (q + 1)).succ = L - q by omega]
    have hd : v % 10 = dgt L u q := by
      unfold dgt
      rw [hv, show L - (q + 1) = L - 1 - q by omega]
    exact ⟨q, (show q ≤ L by omega), Nat.lt_succ_self q, (le_st (le_r rfl) (leE_i rfl (wrap_id (by unfold in64; omega)) (leE_eq rfl (.inr (by decide)) (leE_i rfl (congrArg (fun n : Nat => (n : Int)) hq) trivial))) (leO_lent rfl rfl (LeA.arr (fun j hj => LeA.of_eq (congrArg (fun n => Y n) (put_g hd hp hg0 hg1 j))) ) (bnd_nf _ ( (fun i => trivial))) trivial) gl0n)⟩

end Go.Proofs.YtoglphkkhhjodaaDoor
namespace Go.Proofs.YtoglphkkhhjodaaDoor
open Go Ar
set_option linter.unusedVariables false
set_option autoImplicit false
set_option maxHeartbeats 4000000
set_option maxRecDepth 100000

/-- A date's text. -/
def dtB (y m d : Nat) : ByteArray := decB 4 y ++ ⟨#[45]⟩ ++ decB 2 m ++ ⟨#[45]⟩ ++ decB 2 d
/-- What both tell of a day: its text, or that it is none. -/
inductive FdV (day : Int) : AV → Prop
  | ok (y m d : Nat) (h : DtIs day.toNat y m d) (h1 : 1 ≤ day) (h2 : day ≤ 3652059) : FdV day (tup2 (T (dtB y m d)) (B true))
  | no (h : ¬ (1 ≤ day ∧ day ≤ 3652059)) : FdV day (tup2 (T ⟨#[]⟩) (B false))

theorem r2Fd_x (day : Int) : PureX Tryd.prog gl0 r2_FormatDate [I day] (FdV day) := by
  refine pure_fnX mixed fn_r2_FormatDate nt_r2_FormatDate hc_r2_FormatDate (by simp) gl0n (by simp [nf]) ?_
  conv => whnf
  refine call_x2 (r2Civ_x day) (LeL.refl _) ?_
  rintro _ - (⟨y, m, d, h, h1, h2⟩ | h)
  · conv => whnf
    have y2 : y < 10 ^ 4 := by have := h.y2 (by omega); omega
    have m2 : m < 10 ^ 2 := by have := h.m2; omega
    have d2 : d < 10 ^ 2 := by have := h.d3; omega
    refine call_x2 (padded_x y 4 (by decide) (by decide) y2) (LeL.refl _) ?_
    rintro _ - rfl
    conv => whnf
    try rw [wpE_one]
    rw [decB_size]
    refine And.intro (by decide) ?_
    conv => whnf
    refine call_x2 (padded_x m 2 (by decide) (by decide) m2) (LeL.refl _) ?_
    rintro _ - rfl
    conv => whnf
    obtain ⟨A, hA⟩ : ∃ A, A = decB 4 y ++ ⟨#[45]⟩ := ⟨_, rfl⟩
    have a1 : A.size = 5 := by rw [hA, ByteArray.size_append, decB_size]; rfl
    obtain ⟨A2, hA2⟩ : ∃ A2, A2 = A ++ decB 2 m := ⟨_, rfl⟩
    have a2 : A2.size = 7 := by rw [hA2, ByteArray.size_append, decB_size, a1]
    obtain ⟨A3, hA3⟩ : ∃ A3, A3 = A2 ++ ⟨#[45]⟩ := ⟨_, rfl⟩
    have a3 : A3.size = 8 := by rw [hA3, ByteArray.size_append, a2]; rfl
    rw [← hA, a1, decB_size]
    refine And.intro (by decide) ?_
    conv => whnf
    rw [← hA2, a2]
    refine And.intro (by decide) ?_
    conv => whnf
    refine call_x2 (padded_x d 2 (by decide) (by decide) d2) (LeL.refl _) ?_
    rintro _ - rfl
    conv => whnf
    rw [← hA3, a3, decB_size]
    refine And.intro (by decide) ?_
    conv => whnf
    refine fin_e ?_
    conv => whnf
    rw [hA3, hA2, hA]
    exact ⟨by simp [packA, consL, nf], .ok y m d h h1 h2⟩
  · conv => whnf
    refine fin_e ?_
    conv => whnf
    exact ⟨by simp [packA, consL, nf], .no h⟩

end Go.Proofs.YtoglphkkhhjodaaDoor
namespace Go.Proofs.YtoglphkkhhjodaaDoor
open Go Ar
set_option linter.unusedVariables false
set_option autoImplicit false
set_option maxHeartbeats 4000000
set_option maxRecDepth 100000

theorem wpE_two {b : Bool} {P : Program} {gl : Nat → AV} {e1 e2 : Ent} {K : Post} : wpE b P gl [e1, e2] K = stepE b P gl e1 (stepE b P gl e2 K) := rfl
theorem wpE_three {b : Bool} {P : Program} {gl : Nat → AV} {e1 e2 e3 : Ent} {K : Post} : wpE b P gl [e1, e2, e3] K = stepE b P gl e1 (stepE b P gl e2 (stepE b P gl e3 K)) := rfl
theorem wpE_four {b : Bool} {P : Program} {gl : Nat → AV} {e1 e2 e3 e4 : Ent} {K : Post} : wpE b P gl [e1, e2, e3, e4] K = stepE b P gl e1 (stepE b P gl e2 (stepE b P gl e3 (stepE b P gl e4 K))) := rfl

theorem dt_s {y m d : Nat} {t t1 t2 : Nat → Int} (ht1 : t1 = fun j => if 0 + 0 ≤ j ∧ j < 0 + 4 then ((48 + dgt 4 y (j - 0) : Nat) : Int) else t j) (ht2 : t2 = fun j => if 5 + 0 ≤ j ∧ j < 5 + 2 then ((48 + dgt 2 m (j - 5) : Nat) : Int) else t1 j) (t4 : t 4 = 45) (t7 : t 7 = 45) : strF 10 (fun i => dgV 8 2 d t2 0 (0 + i)) = dtB y m d := by
  have h0 : ∀ j, t1 j = if 0 + 0 ≤ j ∧ j < 0 + 4 then ((48 + dgt 4 y (j - 0) : Nat) : Int) else t j := fun j => by rw [ht1]
  have h5 : ∀ j, t2 j = if 5 + 0 ≤ j ∧ j < 5 + 2 then ((48 + dgt 2 m (j - 5) : Nat) : Int) else t1 j := fun j => by rw [ht2]
  unfold dtB decB strF
  rw [show (⟨#[45]⟩ : ByteArray) = strOfNums [45] from rfl, son_app, son_app, son_app, son_app]
  refine congrArg strOfNums ?_
  show [numA (dgV 8 2 d t2 0 (0 + 0)), numA (dgV 8 2 d t2 0 (0 + 1)), numA (dgV 8 2 d t2 0 (0 + 2)), numA (dgV 8 2 d t2 0 (0 + 3)), numA (dgV 8 2 d t2 0 (0 + 4)), numA (dgV 8 2 d t2 0 (0 + 5)), numA (dgV 8 2 d t2 0 (0 + 6)), numA (dgV 8 2 d t2 0 (0 + 7)), numA (dgV 8 2 d t2 0 (0 + 8)), numA (dgV 8 2 d t2 0 (0 + 9))] = [((48 + dgt 4 y 0 : Nat) : Int), ((48 + dgt 4 y 1 : Nat) : Int), ((48 + dgt 4 y 2 : Nat) : Int), ((48 + dgt 4 y 3 : Nat) : Int), 45, ((48 + dgt 2 m 0 : Nat) : Int), ((48 + dgt 2 m 1 : Nat) : Int), 45, ((48 + dgt 2 d 0 : Nat) : Int), ((48 + dgt 2 d 1 : Nat) : Int)]
  have e : ∀ j, numA (dgV 8 2 d t2 0 (0 + j)) = if 8 ≤ j ∧ j < 10 then ((48 + dgt 2 d (j - 8) : Nat) : Int) else t2 j := fun j => by
    show (if 8 + 0 ≤ 0 + j ∧ 0 + j < 8 + 2 then ((48 + dgt 2 d (0 + j - 8) : Nat) : Int) else t2 (0 + j)) = _
    rw [Nat.zero_add]
  rw [e 0, e 1, e 2, e 3, e 4, e 5, e 6, e 7, e 8, e 9, if_neg (by decide), if_neg (by decide), if_neg (by decide), if_neg (by decide), if_neg (by decide), if_neg (by decide), if_neg (by decide), if_neg (by decide), if_pos (by decide), if_pos (by decide)]
  rw [h5 0, h5 1, h5 2, h5 3, h5 4, h5 5, h5 6, h5 7, if_neg (by decide), if_neg (by decide), if_neg (by decide), if_neg (by decide), if_neg (by decide), if_pos (by decide), if_pos (by decide), if_neg (by decide)]
  rw [h0 0, h0 1, h0 2, h0 3, h0 4, h0 7, if_pos (by decide), if_pos (by decide), if_pos (by decide), if_pos (by decide), if_neg (by decide), if_neg (by decide), t4, t7]

theorem calFd_x (day : Int) : PureX Tryd.prog gl0 calendar_FormatDate [I day] (FdV day) := by
  refine pure_fnX mixed fn_calendar_FormatDate nt_calendar_FormatDate hc_calendar_FormatDate (by simp) gl0n (by simp [nf]) ?_
  conv => whnf
  refine call_x2 (calCiv_x day) (LeL.refl _) ?_
  rintro _ - (⟨y, m, d, h, h1, h2⟩ | h)
  · conv => whnf
    have y2 : y < 10 ^ 4 := by have := h.y2 (by omega); omega
    have m2 : m < 10 ^ 2 := by have := h.m2; omega
    have d2 : d < 10 ^ 2 := by have := h.d3; omega
    try rw [wpE_one]
    generalize hg : fOf _ = g
    generalize hN : List.length _ = N
    obtain rfl : N = 10 := hN.symm.trans rfl
    clear hN
    have g0 : ∀ j, j < 10 → g j = Y (at_ [48, 48, 48, 48, 45, 48, 48, 45, 48, 48] j) := by
      intro j hj
      rw [← hg]
      rcases (show j = 0 ∨ j = 1 ∨ j = 2 ∨ j = 3 ∨ j = 4 ∨ j = 5 ∨ j = 6 ∨ j = 7 ∨ j = 8 ∨ j = 9 by omega) with rfl | rfl | rfl | rfl | rfl | rfl | rfl | rfl | rfl | rfl <;> rfl
    clear hg
    obtain ⟨t, ht⟩ : ∃ t : Nat → Int, t = at_ [48, 48, 48, 48, 45, 48, 48, 45, 48, 48] := ⟨_, rfl⟩
    rw [← ht] at g0
    have t4 : t 4 = 45 := by rw [ht]; rfl
    have t7 : t 7 = 45 := by rw [ht]; rfl
    clear ht
    repeat' first
      | (rw [wpE_one])
      | (rw [wpE_two])
      | (rw [wpE_three])
      | (rw [wpE_four])
      | (refine And.intro (by decide) ?_; (conv => whnf))
      | fail
    refine call_l 1 (put_i y 0 10 4 (by decide) (by decide) y2 (by decide) (by decide) t) rfl (LeA.arr fun j hj => LeA.of_eq (g0 j hj)) (fun i => trivial) (il_1 trivial) ⟨LeA.refl _ |>.le, LeA.refl _ |>.le, trivial⟩ rfl ?_
    rintro r1 _ _ ⟨⟨hr, hr'⟩, rfl, rfl⟩
    refine ⟨_, rfl, rfl, (fun i => trivial), hr, ?_⟩
    conv => whnf
    refine force_iff.2 ?_
    conv => whnf
    repeat' first
      | (rw [wpE_one])
      | (rw [wpE_two])
      | (rw [wpE_three])
      | (rw [wpE_four])
      | (refine And.intro (by decide) ?_; (conv => whnf))
      | fail
    obtain ⟨t1, ht1⟩ : ∃ t1 : Nat → Int, t1 = fun j => if 0 + 0 ≤ j ∧ j < 0 + 4 then ((48 + dgt 4 y (j - 0) : Nat) : Int) else t j := ⟨_, rfl⟩
    refine call_l 1 (put_i m 5 10 2 (by decide) (by decide) m2 (by decide) (by decide) t1) rfl (LeA.of_eq (by rw [ht1])) (fun i => trivial) (il_1 trivial) ⟨LeA.refl _ |>.le, LeA.refl _ |>.le, trivial⟩ rfl ?_
    rintro r2 _ _ ⟨⟨hr, hr'⟩, rfl, rfl⟩
    refine ⟨_, rfl, rfl, (fun i => trivial), hr, ?_⟩
    clear hr'
    conv => whnf
    refine force_iff.2 ?_
    conv => whnf
    repeat' first
      | (rw [wpE_one])
      | (rw [wpE_two])
      | (rw [wpE_three])
      | (rw [wpE_four])
      | (refine And.intro (by decide) ?_; (conv => whnf))
      | fail
    obtain ⟨t2, ht2⟩ : ∃ t2 : Nat → Int, t2 = fun j => if 5 + 0 ≤ j ∧ j < 5 + 2 then ((48 + dgt 2 m (j - 5) : Nat) : Int) else t1 j := ⟨_, rfl⟩
    refine call_l 1 (put_i d 8 10 2 (by decide) (by decide) d2 (by decide) (by decide) t2) rfl (LeA.of_eq (by rw [ht2])) (fun i => trivial) (il_1 trivial) ⟨LeA.refl _ |>.le, LeA.refl _ |>.le, trivial⟩ rfl ?_
    rintro r3 _ _ ⟨⟨hr, hr'⟩, rfl, rfl⟩
    refine ⟨_, rfl, rfl, (fun i => trivial), hr, ?_⟩
    clear hr'
    conv => whnf
    refine force_iff.2 ?_
    conv => whnf
    obtain ⟨t3, ht3⟩ : ∃ t3 : Nat → Int, t3 = fun j => if 8 + 0 ≤ j ∧ j < 8 + 2 then ((48 + dgt 2 d (j - 8) : Nat) : Int) else t2 j := ⟨_, rfl⟩
    repeat' first
      | (rw [wpE_one])
      | (rw [wpE_two])
      | (rw [wpE_three])
      | (rw [wpE_four])
      | (refine And.intro (by first | decide | exact fun i hi => ⟨_, rfl⟩ | fail) ?_; (conv => whnf))
      | fail
    clear g0
    refine fin_e ?_
    conv => whnf
    have hs : strF 10 (fun i => dgV 8 2 d t2 0 (0 + i)) = dtB y m d := dt_s ht1 ht2 t4 t7
    rw [hs]
    exact ⟨by simp [packA, consL, nf], .ok y m d h h1 h2⟩
  · conv => whnf
    refine fin_e ?_
    conv => whnf
    exact ⟨by simp [packA, consL, nf], .no h⟩

end Go.Proofs.YtoglphkkhhjodaaDoor
