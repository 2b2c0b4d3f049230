/- Period, by the document, where all may be. No condition. -/
import Derived.Test.YtdjmplfjpnikkaaD1
set_option linter.all false
namespace Go.Proofs.Ytdjmplfjpnikkaa
open Go Ar
set_option linter.unusedVariables false
set_option autoImplicit false
set_option maxHeartbeats 4000000
set_option maxRecDepth 100000

theorem okN3 {k o i n : Nat} {g : Nat → AV} (h : okP (.fld k o) (g i) = true) : okNav [.fld k o, .idx i n 3] (.arr n 3 g) = true := by
  show ((true && (Nat.beq n n && Nat.beq 3 3)) && okP (.fld k o) (g i)) = true
  rw [h, beq_self]; rfl

theorem leA_setQ {n p q : Nat} {g h : Nat → Rem} {a b c a' b' c' : Int} (e : q = p) (hp : h p = ⟨a, b, c⟩) (ho : ∀ i, i ≠ p → h i = g i) :
    LeA (.arr n 3 fun i => selA (i = q) (.st (.cons (I a) (.cons (I b) (.cons (I c) .nil)))) (selA (i = q) (.st (.cons (I a') (.cons (I b') (.cons (I c') .nil)))) (encRem (g i)))) (.arr n 3 fun i => encRem (h i)) := by
  subst e
  refine LeA.arr fun i hi => LeA.of_eq ?_
  rw [selA_eq, selA_eq]
  by_cases c : i = q
  · rw [if_pos c, c, hp]; rfl
  · rw [if_neg c, if_neg c, ho i c]

theorem isDay_x (x : Int) : PureX Try.prog gl0 r29_isDay [I x] (fun r => r = B (decide (1 ≤ x ∧ x ≤ 3652059))) := by
  refine pure_fnX mixed fn_r29_isDay nt_r29_isDay hc_r29_isDay (by simp) gl0n (by simp [nf]) ?_
  conv => whnf
  repeat' first
    | (refine br_dec (fun h0 => ?_) (fun h0 => ?_) <;> (conv => whnf))
    | (refine br_intro (fun hb => ?_) (fun hb => ?_) <;> ((try rw [hb]); (conv => whnf); (try simp at hb)))
    | (refine aI ?_; (conv => whnf))
    | (refine fin_e ?_; (conv => whnf); first | exact ⟨trivial, congrArg (fun b => B b) (decide_eq_true (by omega)).symm⟩ | exact ⟨trivial, congrArg (fun b => B b) (decide_eq_false (by omega)).symm⟩)
    | fail

theorem leA_remLi {xs : List Shr} {a b : Nat} {n : Nat} {f : Nat → AV} (h : ∀ i, i < n → f i = encRem (remF xs a b i)) : LeA (.arr (remL xs a b n).length 3 (fun i => encRem (at_ (remL xs a b n) i))) (.arr n 3 f) := by
  rw [remL_len]
  refine LeA.arr fun i hi => LeA.of_eq ?_
  rw [h i hi]
  exact congrArg encRem (by unfold remL at_; simp [List.getD_eq_getElem?_getD, hi])

theorem r29_Period_x (ms : List Mov) (xs : List Shr) (rate a1 b1 a2 b2 : Nat) (fr to : Int) (hm : ∀ m ∈ ms, ∀ a, a < 12 → in64 (m.net a)) (hl : ms.length ≤ 1000) (h : (shV xs).1 = 0) (hr : rate ≤ 10000) (f1 : 1 ≤ fr) (f2 : to ≤ 3652059) (f3 : fr ≤ to) (ha1 : a1 < 9223372036854775808) (hb1 : b1 < 9223372036854775808) (ha2 : a2 < 9223372036854775808) (hb2 : b2 < 9223372036854775808) (e1 : colS (fr - 1) 1 ms = a1) (e2 : colS (fr - 1) 2 ms = b1) (e3 : colS to 1 ms = a2) (e4 : colS to 2 ms = b2) : PureX Try.prog gl0 r29_Period [encL encMov 14 ms, encL encShr 2 xs, I rate, I fr, I to] (fun r => r = tup3 (encRs xs.length (mixR (remF xs a2 (b2 - bpsN b2 rate)) (remF xs a1 (b1 - bpsN b1 rate)) xs.length)) (I (IntKind.i64.wrap ((bpsN b2 rate : Nat) - (bpsN b1 rate : Nat)))) (I 0)) := by
  refine pure_fnX mixed fn_r29_Period nt_r29_Period hc_r29_Period (by simp) gl0n (by simp [nf]) ?_
  conv => whnf
  have hsl := shV_0 h
  have hn : (xs.length : Int) < 9223372036854775808 := by omega
  have i1 : in64 (colS (fr - 1) 1 ms) := by rw [e1]; unfold in64; omega
  have i2 : in64 (colS (fr - 1) 2 ms) := by rw [e2]; unfold in64; omega
  have i3 : in64 (colS to 1 ms) := by rw [e3]; unfold in64; omega
  have i4 : in64 (colS to 2 ms) := by rw [e4]; unfold in64; omega
  have w1 : colV (fr - 1) ms = tup3 (I a1) (I b1) (B true) := by unfold colV; rw [if_pos ⟨i1, i2⟩, e1, e2]
  have w2 : colV to ms = tup3 (I a2) (I b2) (B true) := by unfold colV; rw [if_pos ⟨i3, i4⟩, e3, e4]
  refine call_x2 (isDay_x fr) (LeL.refl _) ?_
  rw [decide_eq_true (show 1 ≤ fr ∧ fr ≤ 3652059 by omega)]
  rintro _ - rfl
  conv => whnf
  refine call_x2 (isDay_x to) (LeL.refl _) ?_
  rw [decide_eq_true (show 1 ≤ to ∧ to ≤ 3652059 by omega)]
  rintro _ - rfl
  conv => whnf
  refine br_false (decide_eq_false ((by omega : ¬ (fr > to)))) ?_
  conv => whnf
  refine call_x2 (r29_check_x xs hn) (LeL.refl _) ?_
  rw [h]
  rintro _ - rfl
  conv => whnf
  refine call_x2 (r29_isRate_x rate) (LeL.refl _) ?_
  rw [decide_eq_true (show (0 : Int) ≤ rate ∧ (rate : Int) ≤ 10000 by omega)]
  rintro _ - rfl
  conv => whnf
  refine call_x2 (r29_col_x ms (fr - 1) hm hl) ⟨Le.refl _, Le.of_eq (congrArg (fun n => I n) (wrap_id (by unfold in64; omega))), trivial⟩ ?_
  rw [w1]
  rintro _ - rfl
  conv => whnf
  refine call_x2 (r29_col_x ms to hm hl) (LeL.refl _) ?_
  rw [w2]
  rintro _ - rfl
  conv => whnf
  refine call_x2 (r29_Due_x xs rate a1 b1 h hr ha1 hb1) (LeL.refl _) ?_
  rintro _ - rfl
  conv => whnf
  refine call_o (r29_Due_o xs rate a2 b2 h hr ha2 hb2) (by simp) (LeL.refl _) ?_
  rintro _ _ _ ⟨rfl, rfl, rfl⟩
  refine ⟨⟨⟨.inl (by decide), fun i => nf_encRem _⟩, trivial⟩, ⟨trivial, trivial, trivial, trivial⟩, rfl, ?_⟩
  conv => whnf
  rw [remL_len]
  generalize hF1 : remF xs a1 (b1 - bpsN b1 rate) = H
  refine loop_at mixed (fun (k : Nat) => ([(26, I k), (23, .sli 0 0 xs.length 3 66), (21, encRs xs.length H), (22, I (bpsN b1 rate : Nat)), (24, I (bpsN b2 rate : Nat))], [(0, .box (.arr xs.length 3 (fun i => encRem (mixR (remF xs a2 (b2 - bpsN b2 rate)) H k i))))], 1)) (fun k => k ≤ xs.length) (fun k => xs.length - k) 0 (Nat.zero_le _) (le_st (le_r rfl) (leE_i rfl rfl (leE_eq rfl (.inl (lt_r rfl)) (leE_eq rfl (bnd_nf _ (nf_encRs _ _)) (leE_i rfl rfl (leE_i rfl rfl trivial))))) (leO_box (lt_r rfl) rfl (?_ ) (bnd_nf _ ( (fun i => nf_encRem _))) trivial) gl0n) ?_
  · have := leA_remLi (xs := xs) (a := a2) (b := b2 - bpsN b2 rate) (n := xs.length) (f := fun i => encRem (mixR (remF xs a2 (b2 - bpsN b2 rate)) H 0 i)) (fun i hi => rfl)
    rw [remL_len] at this
    exact this
  generalize hF2 : remF xs a2 (b2 - bpsN b2 rate) = F
  intro k hk
  conv => whnf
  by_cases c : k < xs.length
  · refine br_true (decide_eq_true ((by omega : (k : Int) < xs.length))) ?_
    conv => whnf
    repeat' first
      | (refine And.intro (by first | decide | omega | (constructor <;> omega) | fail) ?_; (conv => whnf))
      | (rw [okN2 rfl (by decide)]; (conv => whnf))
      | (rw [okN3 rfl]; (conv => whnf))
      | fail
    exact ⟨k + 1, c, (by show xs.length - (k + 1) < xs.length - k; omega), (le_st (le_r rfl) (leE_i rfl (inc_id c hn) (leE_eq rfl (.inl (lt_r rfl)) (leE_eq rfl (bnd_nf _ (nf_encRs _ _)) (leE_i rfl rfl (leE_i rfl rfl trivial))))) (leO_box (lt_r rfl) rfl (leA_setQ (Nat.zero_add _) (by simp [mixR, subR]) (fun i hi => (by have hj : i ≠ k := hi; unfold mixR; by_cases h2 : i < k; rw [if_pos h2, if_pos (by omega)]; rw [if_neg h2, if_neg (by omega)])) ) (bnd_nf _ ( (fun i => nf_encRem _))) trivial) gl0n)⟩
  · refine br_false (decide_eq_false ((by omega : ¬ ((k : Int) < xs.length)))) ?_
    conv => whnf
    obtain rfl : k = xs.length := by omega
    refine fin_le (le_freeze 10 0 rfl rfl) ?_
    refine fin_r (tup3 (encRs xs.length (mixR F H xs.length)) (I (IntKind.i64.wrap ((bpsN b2 rate : Nat) - (bpsN b1 rate : Nat)))) (I 0)) ⟨nf_encRs _ _, trivial, trivial, trivial⟩ rfl ?_
    conv => whnf
    exact Le.refl _

end Go.Proofs.Ytdjmplfjpnikkaa
namespace Go.Proofs.Ytdjmplfjpnikkaa
open Go Ar
set_option linter.unusedVariables false
set_option autoImplicit false
set_option maxHeartbeats 4000000
set_option maxRecDepth 100000

def colOK (d : Int) (ms : List Mov) : Prop := in64 (colS d 1 ms) ∧ in64 (colS d 2 ms)
instance (d : Int) (ms : List Mov) : Decidable (colOK d ms) := by unfold colOK; infer_instance
def perE (ms : List Mov) (xs : List Shr) (rate fr to : Int) : Int :=
  if ¬ (1 ≤ fr ∧ to ≤ 3652059 ∧ fr ≤ to) then 2
  else if (shV xs).1 ≠ 0 then (shV xs).1
  else if ¬ (0 ≤ rate ∧ rate ≤ 10000) then 2
  else if ¬ (colOK (fr - 1) ms ∧ colOK to ms) then 3
  else if 0 ≤ colS (fr - 1) 1 ms ∧ 0 ≤ colS (fr - 1) 2 ms ∧ 0 ≤ colS to 1 ms ∧ 0 ≤ colS to 2 ms then 0 else 2

theorem mmI_neg {a b c d : Int} (h : ¬ (0 ≤ a ∧ 0 ≤ b ∧ 0 ≤ c ∧ 0 ≤ d)) : mmI false (mmI false (mmI false a b) c) d < 0 := by
  unfold mmI
  simp only []
  (repeat' split) <;> omega

theorem cA_ok {d : Int} {ms : List Mov} (h : colOK d ms) : cA d ms 2 0 = colS d 1 ms ∧ cA d ms 2 1 = colS d 2 ms :=
  ⟨(show (if 0 < 2 then cV d ms 1 else 0) = _ by rw [if_pos (by decide)]; unfold cV; rw [if_pos h.1]), (show (if 1 < 2 then cV d ms 2 else 0) = _ by rw [if_pos (by decide)]; unfold cV; rw [if_pos h.2])⟩

theorem Period_bad (ms : List Mov) (xs : List Shr) (rate fr to : Int) (hm : ∀ m ∈ ms, ∀ a, a < 12 → in64 (m.net a)) (hl : ms.length ≤ 1000) (hn : xs.length ≤ 64) (h : perE ms xs rate fr to ≠ 0) (h1 : in64 fr) : PureX Try.prog gl0 remit_Period [encL encMov 14 ms, encL encShr 2 xs, I rate, I fr, I to] (fun r => r = noR (perE ms xs rate fr to)) := by
  refine pure_fnX mixed fn_remit_Period nt_remit_Period hc_remit_Period (by simp) gl0n (by simp [nf]) ?_
  conv => whnf
  unfold in64 at h1
  unfold perE at h ⊢
  by_cases c1 : fr < 1
  · refine br_true (decide_eq_true (c1)) ?_
    conv => whnf
    rw [if_pos (by omega)]
    refine fin_e ?_
    conv => whnf
    exact ⟨by simp [packA, consL, nf], rfl⟩
  refine br_false (decide_eq_false (c1)) ?_
  conv => whnf
  by_cases c2 : to > 3652059
  · refine br_true (decide_eq_true (c2)) ?_
    conv => whnf
    rw [if_pos (by omega)]
    refine fin_e ?_
    conv => whnf
    exact ⟨by simp [packA, consL, nf], rfl⟩
  refine br_false (decide_eq_false (c2)) ?_
  conv => whnf
  by_cases c3 : fr > to
  · refine br_true (decide_eq_true (c3)) ?_
    conv => whnf
    rw [if_pos (by omega)]
    refine fin_e ?_
    conv => whnf
    exact ⟨by simp [packA, consL, nf], rfl⟩
  refine br_false (decide_eq_false (c3)) ?_
  conv => whnf
  rw [if_neg (by omega)] at h ⊢
  refine call_x2 (check_x xs (by omega)) (LeL.refl _) ?_
  rintro _ - rfl
  conv => whnf
  by_cases c4 : (shV xs).1 ≠ 0
  · refine br_true (decide_eq_true (c4)) ?_
    conv => whnf
    rw [if_pos c4]
    refine fin_e ?_
    conv => whnf
    exact ⟨by simp [packA, consL, nf], rfl⟩
  refine br_false (decide_eq_false (c4)) ?_
  conv => whnf
  rw [if_neg c4] at h ⊢
  refine call_x2 (isRate_x rate) (LeL.refl _) ?_
  rintro _ - rfl
  conv => whnf
  by_cases c5 : 0 ≤ rate ∧ rate ≤ 10000
  · rw [decide_eq_true c5]
    rw [if_neg (fun q => q c5)] at h ⊢
    conv => whnf
    have q1 := collected_x ms (fr - 1) hm hl
    have q2 := collected_x ms to hm hl
    by_cases k1 : colOK (fr - 1) ms
    · rw [show cK (fr - 1) ms 2 = true from decide_eq_true k1] at q1
      refine call_x2 q1 ⟨Le.refl _, Le.of_eq (congrArg (fun n => I n) (wrap_id (by unfold in64; omega))), trivial⟩ ?_
      rintro _ - rfl
      conv => whnf
      by_cases k2 : colOK to ms
      · rw [show cK to ms 2 = true from decide_eq_true k2] at q2
        refine call_x2 q2 (LeL.refl _) ?_
        rintro _ - rfl
        conv => whnf
        rw [if_neg (fun q => q ⟨k1, k2⟩)] at h ⊢
        repeat' first
          | (refine And.intro (by first | decide | omega | (constructor <;> omega) | fail) ?_; (conv => whnf))
          | fail
        have h5 : ¬ (0 ≤ colS (fr - 1) 1 ms ∧ 0 ≤ colS (fr - 1) 2 ms ∧ 0 ≤ colS to 1 ms ∧ 0 ≤ colS to 2 ms) := fun q => h (if_pos q)
        rw [if_neg h5]
        refine br_true (decide_eq_true ((show mmI false (mmI false (mmI false (cA (fr - 1) ms 2 0) (cA (fr - 1) ms 2 1)) (cA to ms 2 0)) (cA to ms 2 1) < 0 by rw [(cA_ok k1).1, (cA_ok k1).2, (cA_ok k2).1, (cA_ok k2).2]; exact mmI_neg h5))) ?_
        conv => whnf
        refine fin_e ?_
        conv => whnf
        exact ⟨by simp [packA, consL, nf], rfl⟩
      · rw [show cK to ms 2 = false from decide_eq_false k2] at q2
        refine call_x2 q2 (LeL.refl _) ?_
        rintro _ - rfl
        conv => whnf
        rw [if_pos (fun q => k2 q.2)]
        refine fin_e ?_
        conv => whnf
        exact ⟨by simp [packA, consL, nf], rfl⟩
    · rw [show cK (fr - 1) ms 2 = false from decide_eq_false k1] at q1
      refine call_x2 q1 ⟨Le.refl _, Le.of_eq (congrArg (fun n => I n) (wrap_id (by unfold in64; omega))), trivial⟩ ?_
      rintro _ - rfl
      conv => whnf
      refine call_x2 q2 (LeL.refl _) ?_
      rintro _ - rfl
      conv => whnf
      rw [if_pos (fun q => k1 q.1)]
      refine fin_e ?_
      conv => whnf
      exact ⟨by simp [packA, consL, nf], rfl⟩
  · rw [decide_eq_false c5, if_pos c5]
    conv => whnf
    refine fin_e ?_
    conv => whnf
    exact ⟨by simp [packA, consL, nf], rfl⟩

theorem r29_Period_bad (ms : List Mov) (xs : List Shr) (rate fr to : Int) (hm : ∀ m ∈ ms, ∀ a, a < 12 → in64 (m.net a)) (hl : ms.length ≤ 1000) (hn : xs.length ≤ 64) (h : perE ms xs rate fr to ≠ 0) (h1 : in64 fr) : PureX Try.prog gl0 r29_Period [encL encMov 14 ms, encL encShr 2 xs, I rate, I fr, I to] (fun r => r = noR (perE ms xs rate fr to)) := by
  refine pure_fnX mixed fn_r29_Period nt_r29_Period hc_r29_Period (by simp) gl0n (by simp [nf]) ?_
  conv => whnf
  unfold in64 at h1
  unfold perE at h ⊢
  refine call_x2 (isDay_x fr) (LeL.refl _) ?_
  rintro _ - rfl
  conv => whnf
  by_cases c1 : 1 ≤ fr ∧ fr ≤ 3652059
  rotate_left
  · rw [decide_eq_false c1]
    by_cases c0 : ¬ (1 ≤ fr ∧ to ≤ 3652059 ∧ fr ≤ to)
    · rw [if_pos c0]
      conv => whnf
      refine fin_e ?_
      conv => whnf
      exact ⟨by simp [packA, consL, nf], rfl⟩
    · exfalso; omega
  rw [decide_eq_true c1]
  conv => whnf
  refine call_x2 (isDay_x to) (LeL.refl _) ?_
  rintro _ - rfl
  by_cases c2 : 1 ≤ to ∧ to ≤ 3652059
  rotate_left
  · rw [decide_eq_false c2]
    by_cases c0 : ¬ (1 ≤ fr ∧ to ≤ 3652059 ∧ fr ≤ to)
    · rw [if_pos c0]
      conv => whnf
      refine fin_e ?_
      conv => whnf
      exact ⟨by simp [packA, consL, nf], rfl⟩
    · exfalso; omega
  rw [decide_eq_true c2]
  conv => whnf
  by_cases c3 : fr > to
  · refine br_true (decide_eq_true (c3)) ?_
    conv => whnf
    rw [if_pos (by omega)]
    refine fin_e ?_
    conv => whnf
    exact ⟨by simp [packA, consL, nf], rfl⟩
  refine br_false (decide_eq_false (c3)) ?_
  conv => whnf
  rw [if_neg (by omega)] at h ⊢
  refine call_x2 (r29_check_x xs (by omega)) (LeL.refl _) ?_
  rintro _ - rfl
  conv => whnf
  by_cases c4 : (shV xs).1 ≠ 0
  · refine br_true (decide_eq_true (c4)) ?_
    conv => whnf
    rw [if_pos c4]
    refine fin_e ?_
    conv => whnf
    exact ⟨by simp [packA, consL, nf], rfl⟩
  refine br_false (decide_eq_false (c4)) ?_
  conv => whnf
  rw [if_neg c4] at h ⊢
  refine call_x2 (r29_isRate_x rate) (LeL.refl _) ?_
  rintro _ - rfl
  conv => whnf
  by_cases c5 : 0 ≤ rate ∧ rate ≤ 10000
  · rw [decide_eq_true c5]
    rw [if_neg (fun q => q c5)] at h ⊢
    conv => whnf
    have q1 := r29_col_x ms (fr - 1) hm hl
    have q2 := r29_col_x ms to hm hl
    by_cases k1 : colOK (fr - 1) ms
    · rw [show colV (fr - 1) ms = tup3 (I (colS (fr - 1) 1 ms)) (I (colS (fr - 1) 2 ms)) (B true) from if_pos k1] at q1
      refine call_x2 q1 ⟨Le.refl _, Le.of_eq (congrArg (fun n => I n) (wrap_id (by unfold in64; omega))), trivial⟩ ?_
      rintro _ - rfl
      conv => whnf
      by_cases k2 : colOK to ms
      · rw [show colV to ms = tup3 (I (colS to 1 ms)) (I (colS to 2 ms)) (B true) from if_pos k2] at q2
        refine call_x2 q2 (LeL.refl _) ?_
        rintro _ - rfl
        conv => whnf
        rw [if_neg (fun q => q ⟨k1, k2⟩)] at h ⊢
        have h5 : ¬ (0 ≤ colS (fr - 1) 1 ms ∧ 0 ≤ colS (fr - 1) 2 ms ∧ 0 ≤ colS to 1 ms ∧ 0 ≤ colS to 2 ms) := fun q => h (if_pos q)
        rw [if_neg h5]
        refine call_x2 (r29_Due_u xs rate _ _ hn k1.1 k1.2) (LeL.refl _) ?_
        rintro _ - rfl
        conv => whnf
        refine call_x2 (r29_Due_u xs rate _ _ hn k2.1 k2.2) (LeL.refl _) ?_
        rintro _ - rfl
        conv => whnf
        by_cases d1 : dueE xs rate (colS (fr - 1) 1 ms) (colS (fr - 1) 2 ms) ≠ 0
        · refine br_true (decide_eq_true (d1)) ?_
          conv => whnf
          refine fin_e ?_
          conv => whnf
          exact ⟨by simp [packA, consL, nf], rfl⟩
        · refine br_false (decide_eq_false (d1)) ?_
          conv => whnf
          have d2 : dueE xs rate (colS to 1 ms) (colS to 2 ms) ≠ 0 := fun d2 => by
            obtain ⟨_, _, g1, g2⟩ := dueE_0 (Classical.byContradiction d1)
            obtain ⟨_, _, g3, g4⟩ := dueE_0 d2
            exact h5 ⟨g1, g2, g3, g4⟩
          refine br_true (decide_eq_true (d2)) ?_
          conv => whnf
          refine fin_e ?_
          conv => whnf
          exact ⟨by simp [packA, consL, nf], rfl⟩
      · rw [show colV to ms = tup3 (I 0) (I 0) (B false) from if_neg k2] at q2
        refine call_x2 q2 (LeL.refl _) ?_
        rintro _ - rfl
        conv => whnf
        rw [if_pos (fun q => k2 q.2)]
        refine fin_e ?_
        conv => whnf
        exact ⟨by simp [packA, consL, nf], rfl⟩
    · rw [show colV (fr - 1) ms = tup3 (I 0) (I 0) (B false) from if_neg k1] at q1
      refine call_x2 q1 ⟨Le.refl _, Le.of_eq (congrArg (fun n => I n) (wrap_id (by unfold in64; omega))), trivial⟩ ?_
      rintro _ - rfl
      conv => whnf
      rw [if_pos (fun q => k1 q.1)]
      by_cases k2 : colOK to ms
      · rw [show colV to ms = tup3 (I (colS to 1 ms)) (I (colS to 2 ms)) (B true) from if_pos k2] at q2
        refine call_x2 q2 (LeL.refl _) ?_
        rintro _ - rfl
        conv => whnf
        refine fin_e ?_
        conv => whnf
        exact ⟨by simp [packA, consL, nf], rfl⟩
      · rw [show colV to ms = tup3 (I 0) (I 0) (B false) from if_neg k2] at q2
        refine call_x2 q2 (LeL.refl _) ?_
        rintro _ - rfl
        conv => whnf
        refine fin_e ?_
        conv => whnf
        exact ⟨by simp [packA, consL, nf], rfl⟩
  · rw [decide_eq_false c5, if_pos c5]
    conv => whnf
    refine fin_e ?_
    conv => whnf
    exact ⟨by simp [packA, consL, nf], rfl⟩

/-- What is told of a period. -/
def perN (ms : List Mov) (xs : List Shr) (rate fr to : Int) : Nat := if perE ms xs rate fr to = 0 then xs.length else 0
def perF (ms : List Mov) (xs : List Shr) (rate fr to : Int) : Int := if perE ms xs rate fr to = 0 then IntKind.i64.wrap ((bpsN (colS to 2 ms).toNat rate.toNat : Nat) - (bpsN (colS (fr - 1) 2 ms).toNat rate.toNat : Nat)) else 0
def perR (ms : List Mov) (xs : List Shr) (rate fr to : Int) (i : Nat) : Rem :=
  mixR (remF xs (colS to 1 ms).toNat ((colS to 2 ms).toNat - bpsN (colS to 2 ms).toNat rate.toNat)) (remF xs (colS (fr - 1) 1 ms).toNat ((colS (fr - 1) 2 ms).toNat - bpsN (colS (fr - 1) 2 ms).toNat rate.toNat)) xs.length i

theorem perE_0 {ms : List Mov} {xs : List Shr} {rate fr to : Int} (h : perE ms xs rate fr to = 0) : (1 ≤ fr ∧ to ≤ 3652059 ∧ fr ≤ to) ∧ (shV xs).1 = 0 ∧ (0 ≤ rate ∧ rate ≤ 10000) ∧ (colOK (fr - 1) ms ∧ colOK to ms) ∧ (0 ≤ colS (fr - 1) 1 ms ∧ 0 ≤ colS (fr - 1) 2 ms ∧ 0 ≤ colS to 1 ms ∧ 0 ≤ colS to 2 ms) := by
  unfold perE at h
  by_cases c1 : 1 ≤ fr ∧ to ≤ 3652059 ∧ fr ≤ to
  · rw [if_neg (fun q => q c1)] at h
    by_cases c2 : (shV xs).1 ≠ 0
    · rw [if_pos c2] at h; exact absurd h c2
    · rw [if_neg c2] at h
      by_cases c3 : 0 ≤ rate ∧ rate ≤ 10000
      · rw [if_neg (fun q => q c3)] at h
        by_cases c4 : colOK (fr - 1) ms ∧ colOK to ms
        · rw [if_neg (fun q => q c4)] at h
          by_cases c5 : 0 ≤ colS (fr - 1) 1 ms ∧ 0 ≤ colS (fr - 1) 2 ms ∧ 0 ≤ colS to 1 ms ∧ 0 ≤ colS to 2 ms
          · exact ⟨c1, Classical.byContradiction c2, c3, c4, c5⟩
          · rw [if_neg c5] at h; cases h
        · rw [if_pos c4] at h; cases h
      · rw [if_pos c3] at h; cases h
  · rw [if_pos c1] at h; cases h

theorem Period_u (ms : List Mov) (xs : List Shr) (rate fr to : Int) (hm : ∀ m ∈ ms, ∀ a, a < 12 → in64 (m.net a)) (hl : ms.length ≤ 1000) (hn : xs.length ≤ 64) (h1 : in64 fr) :
    PureIX Try.prog gl0 remit_Period [encL encMov 14 ms, encL encShr 2 xs, I rate, I fr, I to] [] 0 (fun r o1 n1 => r = tup3 (.sli 7 0 (perN ms xs rate fr to) 3 66) (I (perF ms xs rate fr to)) (I (perE ms xs rate fr to)) ∧ o1 = [(7, .box (.arr (perN ms xs rate fr to) 3 (fun i => encRem (perR ms xs rate fr to i))))] ∧ n1 = 8) := by
  unfold perN perF
  by_cases h : perE ms xs rate fr to = 0
  · rw [if_pos h, if_pos h, h]
    obtain ⟨⟨c1, c2, c3⟩, c4, ⟨c5, c6⟩, ⟨⟨k1, k2⟩, k3, k4⟩, d1, d2, d3, d4⟩ := perE_0 h
    unfold in64 at k1 k2 k3 k4
    obtain ⟨r, rfl⟩ : ∃ n : Nat, rate = n := ⟨rate.toNat, by omega⟩
    exact Period_i ms xs r _ _ _ _ fr to hm hl c4 (by omega) c1 c2 c3 (by omega) (by omega) (by omega) (by omega) (Int.toNat_of_nonneg d1).symm (Int.toNat_of_nonneg d2).symm (Int.toNat_of_nonneg d3).symm (Int.toNat_of_nonneg d4).symm
  · rw [if_neg h, if_neg h]
    obtain ⟨_, _, rfl, hp⟩ := Period_bad ms xs rate fr to hm hl hn h h1
    exact ⟨_, _, _, ⟨rfl, rfl, rfl⟩, pureI_nil3 7 3 66 _ rfl hp⟩

theorem r29_Period_u (ms : List Mov) (xs : List Shr) (rate fr to : Int) (hm : ∀ m ∈ ms, ∀ a, a < 12 → in64 (m.net a)) (hl : ms.length ≤ 1000) (hn : xs.length ≤ 64) (h1 : in64 fr) :
    PureX Try.prog gl0 r29_Period [encL encMov 14 ms, encL encShr 2 xs, I rate, I fr, I to] (fun r => r = tup3 (encRs (perN ms xs rate fr to) (perR ms xs rate fr to)) (I (perF ms xs rate fr to)) (I (perE ms xs rate fr to))) := by
  unfold perN perF
  by_cases h : perE ms xs rate fr to = 0
  · rw [if_pos h, if_pos h, h]
    obtain ⟨⟨c1, c2, c3⟩, c4, ⟨c5, c6⟩, ⟨⟨k1, k2⟩, k3, k4⟩, d1, d2, d3, d4⟩ := perE_0 h
    unfold in64 at k1 k2 k3 k4
    obtain ⟨r, rfl⟩ : ∃ n : Nat, rate = n := ⟨rate.toNat, by omega⟩
    exact r29_Period_x ms xs r _ _ _ _ fr to hm hl c4 (by omega) c1 c2 c3 (by omega) (by omega) (by omega) (by omega) (Int.toNat_of_nonneg d1).symm (Int.toNat_of_nonneg d2).symm (Int.toNat_of_nonneg d3).symm (Int.toNat_of_nonneg d4).symm
  · rw [if_neg h, if_neg h]
    obtain ⟨_, _, rfl, hp⟩ := r29_Period_bad ms xs rate fr to hm hl hn h h1
    have hf : nf (tup3 (encRs 0 (perR ms xs rate fr to)) (I 0) (I (perE ms xs rate fr to))) := ⟨nf_encRs _ _, trivial, trivial, trivial⟩
    exact ⟨_, hf, rfl, hp.le (LeA.tup (LeA.cons (leA_nil3 _ _) (LeA.refl _))) hf⟩

end Go.Proofs.Ytdjmplfjpnikkaa
namespace Go.Proofs.Ytdjmplfjpnikkaa
open Go Ar
set_option linter.unusedVariables false
set_option autoImplicit false
set_option maxHeartbeats 4000000
set_option maxRecDepth 100000

theorem r29_Period_o (ms : List Mov) (xs : List Shr) (rate a1 b1 a2 b2 : Nat) (fr to : Int) (hm : ∀ m ∈ ms, ∀ a, a < 12 → in64 (m.net a)) (hl : ms.length ≤ 1000) (h : (shV xs).1 = 0) (hr : rate ≤ 10000) (f1 : 1 ≤ fr) (f2 : to ≤ 3652059) (f3 : fr ≤ to) (ha1 : a1 < 9223372036854775808) (hb1 : b1 < 9223372036854775808) (ha2 : a2 < 9223372036854775808) (hb2 : b2 < 9223372036854775808) (e1 : colS (fr - 1) 1 ms = a1) (e2 : colS (fr - 1) 2 ms = b1) (e3 : colS to 1 ms = a2) (e4 : colS to 2 ms = b2) : PureIX Try.prog gl0 r29_Period [encL encMov 14 ms, encL encShr 2 xs, I rate, I fr, I to] [] 0 (fun r o1 n1 => r = tup3 (.sli 0 0 xs.length 3 66) (I (IntKind.i64.wrap ((bpsN b2 rate : Nat) - (bpsN b1 rate : Nat)))) (I 0) ∧ o1 = [(0, .box (.arr xs.length 3 (fun i => encRem (mixR (remF xs a2 (b2 - bpsN b2 rate)) (remF xs a1 (b1 - bpsN b1 rate)) xs.length i))))] ∧ n1 = 1) := by
  refine pureI_fnX mixed fn_r29_Period nt_r29_Period hc_r29_Period (by simp) gl0n ?_
  conv => whnf
  have hsl := shV_0 h
  have hn : (xs.length : Int) < 9223372036854775808 := by omega
  have i1 : in64 (colS (fr - 1) 1 ms) := by rw [e1]; unfold in64; omega
  have i2 : in64 (colS (fr - 1) 2 ms) := by rw [e2]; unfold in64; omega
  have i3 : in64 (colS to 1 ms) := by rw [e3]; unfold in64; omega
  have i4 : in64 (colS to 2 ms) := by rw [e4]; unfold in64; omega
  have w1 : colV (fr - 1) ms = tup3 (I a1) (I b1) (B true) := by unfold colV; rw [if_pos ⟨i1, i2⟩, e1, e2]
  have w2 : colV to ms = tup3 (I a2) (I b2) (B true) := by unfold colV; rw [if_pos ⟨i3, i4⟩, e3, e4]
  refine call_x2 (isDay_x fr) (LeL.refl _) ?_
  rw [decide_eq_true (show 1 ≤ fr ∧ fr ≤ 3652059 by omega)]
  rintro _ - rfl
  conv => whnf
  refine call_x2 (isDay_x to) (LeL.refl _) ?_
  rw [decide_eq_true (show 1 ≤ to ∧ to ≤ 3652059 by omega)]
  rintro _ - rfl
  conv => whnf
  refine br_false (decide_eq_false ((by omega : ¬ (fr > to)))) ?_
  conv => whnf
  refine call_x2 (r29_check_x xs hn) (LeL.refl _) ?_
  rw [h]
  rintro _ - rfl
  conv => whnf
  refine call_x2 (r29_isRate_x rate) (LeL.refl _) ?_
  rw [decide_eq_true (show (0 : Int) ≤ rate ∧ (rate : Int) ≤ 10000 by omega)]
  rintro _ - rfl
  conv => whnf
  refine call_x2 (r29_col_x ms (fr - 1) hm hl) ⟨Le.refl _, Le.of_eq (congrArg (fun n => I n) (wrap_id (by unfold in64; omega))), trivial⟩ ?_
  rw [w1]
  rintro _ - rfl
  conv => whnf
  refine call_x2 (r29_col_x ms to hm hl) (LeL.refl _) ?_
  rw [w2]
  rintro _ - rfl
  conv => whnf
  refine call_x2 (r29_Due_x xs rate a1 b1 h hr ha1 hb1) (LeL.refl _) ?_
  rintro _ - rfl
  conv => whnf
  refine call_o (r29_Due_o xs rate a2 b2 h hr ha2 hb2) (by simp) (LeL.refl _) ?_
  rintro _ _ _ ⟨rfl, rfl, rfl⟩
  refine ⟨⟨⟨.inl (by decide), fun i => nf_encRem _⟩, trivial⟩, ⟨trivial, trivial, trivial, trivial⟩, rfl, ?_⟩
  conv => whnf
  rw [remL_len]
  generalize hF1 : remF xs a1 (b1 - bpsN b1 rate) = H
  refine loop_at mixed (fun (k : Nat) => ([(26, I k), (23, .sli 0 0 xs.length 3 66), (21, encRs xs.length H), (22, I (bpsN b1 rate : Nat)), (24, I (bpsN b2 rate : Nat))], [(0, .box (.arr xs.length 3 (fun i => encRem (mixR (remF xs a2 (b2 - bpsN b2 rate)) H k i))))], 1)) (fun k => k ≤ xs.length) (fun k => xs.length - k) 0 (Nat.zero_le _) (le_st (le_r rfl) (leE_i rfl rfl (leE_eq rfl (.inl (lt_r rfl)) (leE_eq rfl (bnd_nf _ (nf_encRs _ _)) (leE_i rfl rfl (leE_i rfl rfl trivial))))) (leO_box (lt_r rfl) rfl (?_ ) (bnd_nf _ ( (fun i => nf_encRem _))) trivial) gl0n) ?_
  · have := leA_remLi (xs := xs) (a := a2) (b := b2 - bpsN b2 rate) (n := xs.length) (f := fun i => encRem (mixR (remF xs a2 (b2 - bpsN b2 rate)) H 0 i)) (fun i hi => rfl)
    rw [remL_len] at this
    exact this
  generalize hF2 : remF xs a2 (b2 - bpsN b2 rate) = F
  intro k hk
  conv => whnf
  by_cases c : k < xs.length
  · refine br_true (decide_eq_true ((by omega : (k : Int) < xs.length))) ?_
    conv => whnf
    repeat' first
      | (refine And.intro (by first | decide | omega | (constructor <;> omega) | fail) ?_; (conv => whnf))
      | (rw [okN2 rfl (by decide)]; (conv => whnf))
      | (rw [okN3 rfl]; (conv => whnf))
      | fail
    exact ⟨k + 1, c, (by show xs.length - (k + 1) < xs.length - k; omega), (le_st (le_r rfl) (leE_i rfl (inc_id c hn) (leE_eq rfl (.inl (lt_r rfl)) (leE_eq rfl (bnd_nf _ (nf_encRs _ _)) (leE_i rfl rfl (leE_i rfl rfl trivial))))) (leO_box (lt_r rfl) rfl (leA_setQ (Nat.zero_add _) (by simp [mixR, subR]) (fun i hi => (by have hj : i ≠ k := hi; unfold mixR; by_cases h2 : i < k; rw [if_pos h2, if_pos (by omega)]; rw [if_neg h2, if_neg (by omega)])) ) (bnd_nf _ ( (fun i => nf_encRem _))) trivial) gl0n)⟩
  · refine br_false (decide_eq_false ((by omega : ¬ ((k : Int) < xs.length)))) ?_
    conv => whnf
    obtain rfl : k = xs.length := by omega
    refine ⟨⟨[(10, .sli 0 0 xs.length 3 66), (11, I (IntKind.i64.wrap ((bpsN b2 rate : Nat) - (bpsN b1 rate : Nat)))), (12, I 0)], [(0, .box (.arr xs.length 3 (fun i => encRem (mixR F H xs.length i))))], 1, (le_st (le_r rfl) (leE_eq rfl (.inl (lt_r rfl)) (leE_i rfl rfl (leE_i rfl rfl trivial))) (leO_box (lt_r rfl) rfl (LeA.arr (fun i hi => LeA.of_eq rfl) ) (bnd_nf _ ( (fun i => nf_encRem _))) trivial) gl0n), ?_⟩⟩
    conv => whnf
    exact ⟨_, Le.refl _, rfl, rfl, rfl⟩

theorem r29_Due_uo (xs : List Shr) (rate a b : Int) (hn : xs.length ≤ 64) (ha : in64 a) (hb : in64 b) : PureIX Try.prog gl0 r29_Due [encL encShr 2 xs, I rate, I a, I b] [] 0 (fun r o1 n1 => ∃ f : Nat → Rem, r = tup3 (.sli 0 0 (dueN xs rate a b) 3 66) (I (dueF xs rate a b)) (I (dueE xs rate a b)) ∧ o1 = [(0, .box (.arr (dueN xs rate a b) 3 (fun i => encRem (f i))))] ∧ n1 = 1 ∧ ∀ i, i < dueN xs rate a b → f i = dueR xs rate a b i) := by
  unfold dueN dueF
  by_cases h : dueE xs rate a b = 0
  · rw [if_pos h, if_pos h, h]
    obtain ⟨h1, ⟨h2, h3⟩, h4, h5⟩ := dueE_0 h
    unfold in64 at ha hb
    obtain ⟨a, rfl⟩ : ∃ n : Nat, a = n := ⟨a.toNat, by omega⟩
    obtain ⟨b, rfl⟩ : ∃ n : Nat, b = n := ⟨b.toNat, by omega⟩
    obtain ⟨r, rfl⟩ : ∃ n : Nat, rate = n := ⟨rate.toNat, by omega⟩
    have q := r29_Due_o xs r a b h1 (by omega) (by omega) (by omega)
    rw [remL_len] at q
    obtain ⟨x, y, z, ⟨e1, e2, e3⟩, hp⟩ := q
    exact ⟨x, y, z, ⟨_, e1, e2, e3, fun i hi => (by unfold remL at_ dueR; simp [List.getD_eq_getElem?_getD, hi])⟩, hp⟩
  · rw [if_neg h, if_neg h]
    obtain ⟨_, _, rfl, hp⟩ := r29_Due_bad xs rate a b hn h
    exact ⟨_, _, _, ⟨fun i => dueR xs rate a b i, rfl, rfl, rfl, fun i hi => rfl⟩, pureI_nil3 0 3 66 _ rfl hp⟩

theorem r29_Period_uo (ms : List Mov) (xs : List Shr) (rate fr to : Int) (hm : ∀ m ∈ ms, ∀ a, a < 12 → in64 (m.net a)) (hl : ms.length ≤ 1000) (hn : xs.length ≤ 64) (h1 : in64 fr) :
    PureIX Try.prog gl0 r29_Period [encL encMov 14 ms, encL encShr 2 xs, I rate, I fr, I to] [] 0 (fun r o1 n1 => r = tup3 (.sli 0 0 (perN ms xs rate fr to) 3 66) (I (perF ms xs rate fr to)) (I (perE ms xs rate fr to)) ∧ o1 = [(0, .box (.arr (perN ms xs rate fr to) 3 (fun i => encRem (perR ms xs rate fr to i))))] ∧ n1 = 1) := by
  unfold perN perF
  by_cases h : perE ms xs rate fr to = 0
  · rw [if_pos h, if_pos h, h]
    obtain ⟨⟨c1, c2, c3⟩, c4, ⟨c5, c6⟩, ⟨⟨k1, k2⟩, k3, k4⟩, d1, d2, d3, d4⟩ := perE_0 h
    unfold in64 at k1 k2 k3 k4
    obtain ⟨r, rfl⟩ : ∃ n : Nat, rate = n := ⟨rate.toNat, by omega⟩
    exact r29_Period_o ms xs r _ _ _ _ fr to hm hl c4 (by omega) c1 c2 c3 (by omega) (by omega) (by omega) (by omega) (Int.toNat_of_nonneg d1).symm (Int.toNat_of_nonneg d2).symm (Int.toNat_of_nonneg d3).symm (Int.toNat_of_nonneg d4).symm
  · rw [if_neg h, if_neg h]
    obtain ⟨_, _, rfl, hp⟩ := r29_Period_bad ms xs rate fr to hm hl hn h h1
    exact ⟨_, _, _, ⟨rfl, rfl, rfl⟩, pureI_nil3 0 3 66 _ rfl hp⟩

end Go.Proofs.Ytdjmplfjpnikkaa
