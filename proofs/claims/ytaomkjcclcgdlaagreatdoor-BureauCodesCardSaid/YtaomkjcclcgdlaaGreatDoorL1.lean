/- Contracts of the document's policy, collection and waterfall: no call of them can fail. No condition. -/
import Derived.Test.YtaomkjcclcgdlaaGreatDoorZIc3
import Derived.Test.YtaomkjcclcgdlaaGreatDoorK7
set_option linter.all false
namespace Go.Proofs.YtaomkjcclcgdlaaGreatDoor
open Go Ar
set_option linter.unusedVariables false
set_option autoImplicit false
set_option maxHeartbeats 4000000

attribute [simp] nf_I nf_encBk nf_encIns nf_encTrm nf_encCse nf_encPrt nf_encNtc nf_encEty nf_encOwd nf_encPsn nf_encEvt nf_encDte nf_encLn nf_encPol nf_encOtc nf_encStt nf_encOpn nf_encWrk nfL_I nfL_Ins nfL_Ntc nfL_Ety nfL_Ln nfL_Opn nfL_Bk nf_encBf nfL_Bf

/-- Side conditions and ends, found by the same few ways everywhere. -/
theorem aI {A B : Prop} (h : B) (ha : A := by first | omega | rfl | (simp only [List.length_cons, List.length_nil]; omega) | (rw [wrap_id (by unfold in64; omega)]; omega)) : A ∧ B := ⟨ha, h⟩
theorem lfA {A B : Prop} (ha : A := by simp [packA, consL, nf]) (hb : B := by first | exact ⟨_, rfl⟩ | exact ⟨_, _, rfl⟩ | exact ⟨_, _, _, rfl⟩) : A ∧ B := ⟨ha, hb⟩

theorem inc_id {k : Nat} {m : Nat} (h : k < m) (hm : (m : Int) < 9223372036854775808) : IntKind.i64.wrap ((k : Int) + 1) = ((k + 1 : Nat) : Int) := by
  rw [wrap_id (by unfold in64; omega)]; omega

abbrev hasI (p : Pol) : Prop := (p.holidays.length : Int) < 9223372036854775808

/-- Cells that are numbers are a list of numbers. -/
theorem ints_of {tok : Option Nat} {n : Nat} {f : Nat → AV} (h : ∀ i, ∃ x, f i = I x) : ∃ xs : List Int, xs.length = n ∧ LeA (.lst tok n 1 f) (encL I 1 xs) := by
  refine ⟨(List.range n).map fun i => (h i).choose, by simp, ?_⟩
  unfold encL encT
  simp only [List.length_map, List.length_range]
  refine LeA.lst (.inr rfl) fun i hi => LeA.of_eq ?_
  rw [(h i).choose_spec]
  congr 2
  rw [at_lt (by simpa using hi)]
  simp

/-- A row of one's own has grown by a number. -/
theorem leA_grow {τ : Nat → Nat} {xs : List Int} {x : Int} {k e : Nat} {h : Nat → AV} (hk : k = xs.length + 1) (h0 : h 0 = I x) :
    LeA (.arr k e (fun i => ren τ (appF xs.length (fun i => I (at_ xs i)) h i))) (.arr (xs ++ [x]).length e (fun i => I (at_ (xs ++ [x]) i))) := by
  subst hk
  rw [List.length_append]
  refine LeA.arr fun i hi => LeA.of_eq ?_
  unfold appF
  by_cases hlt : i < xs.length
  · rw [if_pos hlt, at_append_left hlt]; rfl
  · obtain rfl : i = xs.length := by omega
    rw [if_neg hlt, at_append_right (Nat.le_refl _)]
    simp only [Nat.sub_self, h0]
    rfl

theorem le_sli {o lo a b e : Nat} {ty : TypeId} (h : a = b) : Le (.sli o lo a e ty) (.sli o lo b e ty) := h ▸ Le.refl _

theorem r12_in_s (x a b : Int) : PureX Tryz.prog gl0 r12_in [I x, I a, I b] (QB) := by
  refine pure_fnX mixed fn_r12_in nt_r12_in hc_r12_in (by simp) gl0n (by simp [nf]) ?_
  conv => whnf
  repeat' first
    | (refine br_dec (fun h0 => ?_) (fun h0 => ?_) <;> (conv => whnf))
    | (refine br_intro (fun hb => ?_) (fun hb => ?_) <;> ((try rw [hb]); (conv => whnf); (try simp at hb)))
    | (refine aI ?_; (conv => whnf))
    | (refine fin_e ?_; (conv => whnf); exact lfA)
    | fail

theorem r12_holidays_s (xs : List Int) (hn : (xs.length : Int) < 9223372036854775808) : PureX Tryz.prog gl0 r12_holidays [encL I 1 xs] (QB) := by
  refine pure_fnX mixed fn_r12_holidays nt_r12_holidays hc_r12_holidays (by simp) gl0n (by simp [nf]) ?_
  conv => whnf
  by_cases h : (xs.length : Int) > 64
  · refine br_true (decide_eq_true (h)) ?_
    conv => whnf
    repeat' first
      | (refine br_dec (fun h0 => ?_) (fun h0 => ?_) <;> (conv => whnf))
      | (refine br_intro (fun hb => ?_) (fun hb => ?_) <;> ((try rw [hb]); (conv => whnf); (try simp at hb)))
      | (refine aI ?_; (conv => whnf))
      | (refine fin_e ?_; (conv => whnf); exact lfA)
      | fail
  · refine br_false (decide_eq_false (h)) ?_
    conv => whnf
    refine loop_at mixed (fun (k : Nat) => ([(3, I k), (0, encL I 1 xs)], [], 0)) (fun k => k ≤ xs.length) (fun k => xs.length - k) 0 (Nat.zero_le _) ?_ ?_
    · exact le_st (le_r rfl) (leE_i rfl rfl (leE_eq rfl (bnd_nf _ (nfL_I _ _)) trivial)) trivial gl0n
    · intro k hk
      conv => whnf
      by_cases c : k < xs.length
      · refine br_true (decide_eq_true ((by omega : (k : Int) < xs.length))) ?_
        conv => whnf
        have step : ∀ (e : Env) (o : Objs) (n : Nat), LeSt gl0 41 e o n ([(3, I ((k + 1 : Nat) : Int)), (0, encL I 1 xs)]) [] 0 → ∃ z, z ≤ xs.length ∧ xs.length - z < xs.length - k ∧ LeSt gl0 41 e o n ([(3, I (z : Int)), (0, encL I 1 xs)]) [] 0 := fun e o n h => ⟨k + 1, c, by omega, h⟩
        repeat' first
          | (refine br_dec (fun h0 => ?_) (fun h0 => ?_) <;> (conv => whnf))
          | (refine br_intro (fun hb => ?_) (fun hb => ?_) <;> ((try rw [hb]); (conv => whnf); (try simp at hb)))
          | (exact step _ _ _ (le_st (le_r rfl) (leE_i rfl (inc_id c hn) (leE_eq rfl (bnd_nf _ (nfL_I _ _)) trivial)) trivial gl0n))
          | (refine aI ?_; (conv => whnf))
          | (refine fin_e ?_; (conv => whnf); exact lfA)
          | fail
      · obtain rfl : k = xs.length := by omega
        refine br_false (decide_eq_false ((by omega : ¬ ((xs.length : Int) < xs.length)))) ?_
        conv => whnf
        repeat' first
          | (refine br_dec (fun h0 => ?_) (fun h0 => ?_) <;> (conv => whnf))
          | (refine br_intro (fun hb => ?_) (fun hb => ?_) <;> ((try rw [hb]); (conv => whnf); (try simp at hb)))
          | (refine aI ?_; (conv => whnf))
          | (refine fin_e ?_; (conv => whnf); exact lfA)
          | fail

theorem r12_may_s (p : Pol) (n : Int) (hn : (p.holidays.length : Int) < 9223372036854775808) (h1 : 1 ≤ n) (h2 : n ≤ 18) : PureX Tryz.prog gl0 r12_may [encPol p, I n] QB := by
  refine pure_fnX mixed fn_r12_may nt_r12_may hc_r12_may (by simp) gl0n (by simp [nf, nf_encPol]) ?_
  have h : n = 1 ∨ n = 2 ∨ n = 3 ∨ n = 4 ∨ n = 5 ∨ n = 6 ∨ n = 7 ∨ n = 8 ∨ n = 9 ∨ n = 10 ∨ n = 11 ∨ n = 12 ∨ n = 13 ∨ n = 14 ∨ n = 15 ∨ n = 16 ∨ n = 17 ∨ n = 18 := by omega
  clear h1 h2
  rcases h with rfl | rfl | rfl | rfl | rfl | rfl | rfl | rfl | rfl | rfl | rfl | rfl | rfl | rfl | rfl | rfl | rfl | rfl <;> (conv => whnf)
  all_goals
   repeat' first
     | (refine br_dec (fun h0 => ?_) (fun h0 => ?_) <;> (conv => whnf))
     | (refine br_intro (fun hb => ?_) (fun hb => ?_) <;> ((try rw [hb]); (conv => whnf); (try simp at hb)))
     | (refine call_x2 (r12_in_s _ _ _) ⟨Le.refl _, Le.refl _, Le.refl _, trivial⟩ ?_; rintro _ - ⟨_ | _, rfl⟩ <;> (conv => whnf))
     | (refine call_x2 (r12_holidays_s _ hn) ⟨Le.refl _, trivial⟩ ?_; rintro _ - ⟨_ | _, rfl⟩ <;> (conv => whnf))
     | (refine aI ?_; (conv => whnf))
     | (refine fin_e ?_; (conv => whnf); exact lfA)
     | fail

end Go.Proofs.YtaomkjcclcgdlaaGreatDoor
namespace Go.Proofs.YtaomkjcclcgdlaaGreatDoor
open Go Ar
set_option linter.unusedVariables false
set_option autoImplicit false
set_option maxHeartbeats 4000000
set_option maxRecDepth 100000

abbrev QCse : AV → Prop := fun r => ∃ c, r = encCse c
abbrev QCA (k : Nat) : AV → Prop := fun r => ∃ c xs, r = tup2 (encCse c) (encL I 1 xs) ∧ xs.length ≤ k

theorem fin_ca {N : Nat} {rs : List RV} {e : Env} {o : Objs} {n : Nat} {k : Nat} (h : resA e o rs fun l => forceL l fun l => ∃ a m tok f, l = [a, .lst tok m 1 f] ∧ (∃ c, a = encCse c) ∧ m ≤ k ∧ ∀ i, ∃ x, f i = I x) : FinP gl0 N rs (QCA k) e o n :=
  ⟨e, o, n, LeSt.refl gl0 N e o n, resA_mono rs (fun l hl => by
    obtain ⟨_, m, tok, f, rfl, ⟨c, rfl⟩, hm, hf⟩ := forceL_iff.1 hl
    obtain ⟨xs, hx, hle⟩ := ints_of (tok := tok) (n := m) hf
    exact ⟨tup2 (encCse c) (encL I 1 xs), ⟨nf_encCse c, nfL_I 1 xs, trivial⟩, ⟨c, xs, rfl, by omega⟩, (LeA.tup (LeA.cons (LeA.refl _) (LeA.cons hle (LeA.refl _)))).le⟩) h⟩

theorem fin_cn {N : Nat} {rs : List RV} {e : Env} {o : Objs} {n : Nat} {k : Nat} (h : resA e o rs fun l => forceL l fun l => ∃ a, l = [a, .val (.slice none 0 0)] ∧ ∃ c, a = encCse c) : FinP gl0 N rs (QCA k) e o n :=
  ⟨e, o, n, LeSt.refl gl0 N e o n, resA_mono rs (fun l hl => by
    obtain ⟨_, rfl, c, rfl⟩ := forceL_iff.1 hl
    exact ⟨tup2 (encCse c) (encL I 1 []), ⟨nf_encCse c, nfL_I 1 [], trivial⟩, ⟨c, [], rfl, by simp⟩, (LeA.tup (LeA.cons (LeA.refl _) (LeA.cons leA_nilL (LeA.refl _)))).le⟩) h⟩

theorem r13_Open_s (c : Cse) : PureX Tryz.prog gl0 r13_Open [encCse c] (fun r => r = B (decide (c.status = 3 ∨ c.status = 4 ∨ c.status = 5))) := by
  refine pure_fnX mixed fn_r13_Open nt_r13_Open hc_r13_Open (by simp) gl0n (by simp [nf]) ?_
  conv => whnf
  repeat' first
    | (refine br_dec (fun h0 => ?_) (fun h0 => ?_) <;> (conv => whnf))
    | (refine br_intro (fun hb => ?_) (fun hb => ?_) <;> ((try rw [hb]); (conv => whnf); (try simp at hb)))
    | (refine aI ?_; (conv => whnf))
    | (refine fin_e ?_; (conv => whnf); first | exact ⟨trivial, congrArg (fun b => B b) (decide_eq_true (by omega)).symm⟩ | exact ⟨trivial, congrArg (fun b => B b) (decide_eq_false (by omega)).symm⟩)
    | fail

theorem r13_Fresh_s (u : Unit) : PureX Tryz.prog gl0 r13_Fresh [] (QCse) := by
  refine pure_fnX mixed fn_r13_Fresh nt_r13_Fresh hc_r13_Fresh (by simp) gl0n (by simp [nf]) ?_
  conv => whnf
  repeat' first
    | (refine br_dec (fun h0 => ?_) (fun h0 => ?_) <;> (conv => whnf))
    | (refine br_intro (fun hb => ?_) (fun hb => ?_) <;> ((try rw [hb]); (conv => whnf); (try simp at hb)))
    | (refine aI ?_; (conv => whnf))
    | (refine fin_e ?_; (conv => whnf); exact ⟨by simp [packA, consL, nf], _, mk_Cse ..⟩)
    | fail

theorem r13_cleared_s (c : Cse) : PureX Tryz.prog gl0 r13_cleared [encCse c] (QCse) := by
  refine pure_fnX mixed fn_r13_cleared nt_r13_cleared hc_r13_cleared (by simp) gl0n (by simp [nf]) ?_
  conv => whnf
  repeat' first
    | (refine br_dec (fun h0 => ?_) (fun h0 => ?_) <;> (conv => whnf))
    | (refine br_intro (fun hb => ?_) (fun hb => ?_) <;> ((try rw [hb]); (conv => whnf); (try simp at hb)))
    | (refine aI ?_; (conv => whnf))
    | (refine fin_e ?_; (conv => whnf); exact ⟨by simp [packA, consL, nf], _, mk_Cse ..⟩)
    | fail

theorem r13_back_s (c : Cse) : PureX Tryz.prog gl0 r13_back [encCse c] (QCse) := by
  refine pure_fnX mixed fn_r13_back nt_r13_back hc_r13_back (by simp) gl0n (by simp [nf]) ?_
  conv => whnf
  repeat' first
    | (refine br_dec (fun h0 => ?_) (fun h0 => ?_) <;> (conv => whnf))
    | (refine br_intro (fun hb => ?_) (fun hb => ?_) <;> ((try rw [hb]); (conv => whnf); (try simp at hb)))
    | (refine call_x2 (r13_cleared_s ⟨_, _, _, _, _, _, _, _, _, _, _, _, _, _, _⟩) ⟨le_Cse .., trivial⟩ ?_; (first | (rintro _ - ⟨_, rfl⟩) | (rintro _ - ⟨_, rfl, _⟩) | (rintro _ - ⟨_, _, rfl⟩) | (rintro _ - ⟨_, _, rfl, _⟩) | (rintro _ - ⟨_, _, _, rfl⟩) | (rintro _ - ⟨_, _, _, rfl, _⟩)); (conv => whnf))
    | (refine aI ?_; (conv => whnf))
    | (refine fin_e ?_; (conv => whnf); exact ⟨by simp [packA, consL, nf], _, mk_Cse ..⟩)
    | fail

theorem r13_ended_s (c : Cse) (n : Int) : PureX Tryz.prog gl0 r13_ended [encCse c, I n] (QCse) := by
  refine pure_fnX mixed fn_r13_ended nt_r13_ended hc_r13_ended (by simp) gl0n (by simp [nf]) ?_
  conv => whnf
  repeat' first
    | (refine br_dec (fun h0 => ?_) (fun h0 => ?_) <;> (conv => whnf))
    | (refine br_intro (fun hb => ?_) (fun hb => ?_) <;> ((try rw [hb]); (conv => whnf); (try simp at hb)))
    | (refine call_x2 (r13_cleared_s ⟨_, _, _, _, _, _, _, _, _, _, _, _, _, _, _⟩) ⟨le_Cse .., trivial⟩ ?_; (first | (rintro _ - ⟨_, rfl⟩) | (rintro _ - ⟨_, rfl, _⟩) | (rintro _ - ⟨_, _, rfl⟩) | (rintro _ - ⟨_, _, rfl, _⟩) | (rintro _ - ⟨_, _, _, rfl⟩) | (rintro _ - ⟨_, _, _, rfl, _⟩)); (conv => whnf))
    | (refine aI ?_; (conv => whnf))
    | (refine fin_e ?_; (conv => whnf); exact ⟨by simp [packA, consL, nf], _, mk_Cse ..⟩)
    | fail

theorem r13_cure_s (c : Cse) : PureX Tryz.prog gl0 r13_cure [encCse c] (QCse) := by
  refine pure_fnX mixed fn_r13_cure nt_r13_cure hc_r13_cure (by simp) gl0n (by simp [nf]) ?_
  conv => whnf
  repeat' first
    | (refine br_dec (fun h0 => ?_) (fun h0 => ?_) <;> (conv => whnf))
    | (refine br_intro (fun hb => ?_) (fun hb => ?_) <;> ((try rw [hb]); (conv => whnf); (try simp at hb)))
    | (refine call_x2 (r13_ended_s ⟨_, _, _, _, _, _, _, _, _, _, _, _, _, _, _⟩ _) ⟨le_Cse .., Le.refl _, trivial⟩ ?_; (first | (rintro _ - ⟨_, rfl⟩) | (rintro _ - ⟨_, rfl, _⟩) | (rintro _ - ⟨_, _, rfl⟩) | (rintro _ - ⟨_, _, rfl, _⟩) | (rintro _ - ⟨_, _, _, rfl⟩) | (rintro _ - ⟨_, _, _, rfl, _⟩)); (conv => whnf))
    | (refine aI ?_; (conv => whnf))
    | (refine fin_e ?_; (conv => whnf); exact ⟨by simp [packA, consL, nf], _, mk_Cse ..⟩)
    | fail

theorem r13_fits_s (a b c : Int) : PureX Tryz.prog gl0 r13_fits [I a, I b, I c] (QB) := by
  refine pure_fnX mixed fn_r13_fits nt_r13_fits hc_r13_fits (by simp) gl0n (by simp [nf]) ?_
  conv => whnf
  repeat' first
    | (refine br_dec (fun h0 => ?_) (fun h0 => ?_) <;> (conv => whnf))
    | (refine br_intro (fun hb => ?_) (fun hb => ?_) <;> ((try rw [hb]); (conv => whnf); (try simp at hb)))
    | (refine aI ?_; (conv => whnf))
    | (refine fin_e ?_; (conv => whnf); exact lfA)
    | fail

theorem r13_numbers_s (p : Pol) (e : Evt) : PureX Tryz.prog gl0 r13_numbers [encPol p, encEvt e] (QI) := by
  refine pure_fnX mixed fn_r13_numbers nt_r13_numbers hc_r13_numbers (by simp) gl0n (by simp [nf]) ?_
  conv => whnf
  repeat' first
    | (refine br_dec (fun h0 => ?_) (fun h0 => ?_) <;> (conv => whnf))
    | (refine br_intro (fun hb => ?_) (fun hb => ?_) <;> ((try rw [hb]); (conv => whnf); (try simp at hb)))
    | (refine aI ?_; (conv => whnf))
    | (refine fin_e ?_; (conv => whnf); exact lfA)
    | fail

theorem r13_standing_s (p : Pol) (c : Cse) (e : Evt) : PureX Tryz.prog gl0 r13_standing [encPol p, encCse c, encEvt e] (QI) := by
  refine pure_fnX mixed fn_r13_standing nt_r13_standing hc_r13_standing (by simp) gl0n (by simp [nf]) ?_
  conv => whnf
  repeat' first
    | (refine br_dec (fun h0 => ?_) (fun h0 => ?_) <;> (conv => whnf))
    | (refine br_intro (fun hb => ?_) (fun hb => ?_) <;> ((try rw [hb]); (conv => whnf); (try simp at hb)))
    | (refine call_x2 (r13_Open_s ⟨_, _, _, _, _, _, _, _, _, _, _, _, _, _, _⟩) ⟨le_Cse .., trivial⟩ ?_; rintro _ - rfl; (conv => whnf))
    | (refine call_x2 (r13_fits_s _ _ _) ⟨Le.refl _, Le.refl _, Le.refl _, trivial⟩ ?_; rintro _ - ⟨_ | _, rfl⟩ <;> (conv => whnf))
    | (refine aI ?_; (conv => whnf))
    | (refine fin_e ?_; (conv => whnf); exact lfA)
    | fail

theorem r13_quiet_s (p : Pol) (c : Cse) (e : Evt) : PureX Tryz.prog gl0 r13_quiet [encPol p, encCse c, encEvt e] (QCA 1) := by
  refine pure_fnX mixed fn_r13_quiet nt_r13_quiet hc_r13_quiet (by simp) gl0n (by simp [nf]) ?_
  conv => whnf
  repeat' first
    | (refine br_dec (fun h0 => ?_) (fun h0 => ?_) <;> (conv => whnf))
    | (refine br_intro (fun hb => ?_) (fun hb => ?_) <;> ((try rw [hb]); (conv => whnf); (try simp at hb)))
    | (refine fin_cn ?_; (conv => whnf); exact ⟨_, rfl, _, mk_Cse ..⟩)
    | (refine fin_ca ?_; (conv => whnf); exact ⟨_, _, _, _, rfl, ⟨_, mk_Cse ..⟩, by first | omega | (simp only [List.length_cons, List.length_nil]; omega) | (simp; omega) | simp, fun i => ⟨_, rfl⟩⟩)
    | (refine aI ?_; (conv => whnf))
    | (refine fin_e ?_; (conv => whnf); exact lfA)
    | fail


end Go.Proofs.YtaomkjcclcgdlaaGreatDoor
