/- The program's exact sum. No condition. -/
import Derived.Test.YtaomkjcclcgdlaaGreatDoorM3
import Derived.Test.YtaomkjcclcgdlaaGreatDoorM1
import Derived.Recover
set_option linter.all false
namespace Go.Proofs.YtaomkjcclcgdlaaGreatDoor
open Go Ar
set_option linter.unusedVariables false
set_option autoImplicit false
set_option maxHeartbeats 4000000
set_option maxRecDepth 100000

theorem add64_x {x y : Int} (hx : 0 ≤ x) (hy : 0 ≤ y) : XPure Tryz.prog 132 [U x, U y, U 0] (tup2 (U ((x + y + 0) % 18446744073709551616)) (U ((x + y + 0) / 18446744073709551616))) :=
  xpure_add64 Tryz.func132 (by kernel_rfl) (by kernel_rfl) (by kernel_rfl) (by kernel_rfl) hx hy (by omega) (by omega)

def inW (S : Int) : Prop := -85070591730234615865843651857942052864 ≤ S ∧ S ≤ 85070591730234615865843651857942052864

theorem sumW_yes {S : Int} (h : inW S) (hh : (S / 18446744073709551616 % 18446744073709551616 = 0 ∧ S % 18446744073709551616 ≤ 9223372036854775807) ∨ (S / 18446744073709551616 % 18446744073709551616 = 18446744073709551615 ∧ S % 18446744073709551616 ≥ 9223372036854775808)) :
    tup2 (I (IntKind.i64.wrap (S % 18446744073709551616))) (B true) = sumV S := by
  unfold inW at h
  have hin : in64 S := by unfold in64; omega
  rw [sumV_yes hin]
  have : IntKind.i64.wrap (S % 18446744073709551616) = S := by
    rw [wrap_i64]
    unfold in64 at hin
    split <;> omega
  rw [this]

theorem sumW_no {S : Int} (h : inW S) (hh : ¬ ((S / 18446744073709551616 % 18446744073709551616 = 0 ∧ S % 18446744073709551616 ≤ 9223372036854775807) ∨ (S / 18446744073709551616 % 18446744073709551616 = 18446744073709551615 ∧ S % 18446744073709551616 ≥ 9223372036854775808))) :
    tup2 (I 0) (B false) = sumV S := by
  unfold inW at h
  have hin : ¬ in64 S := by unfold in64; omega
  rw [sumV_no hin]

theorem sum_inW (xs : List Int) (h : ∀ x ∈ xs, in64 x) : -9223372036854775808 * (xs.length : Int) ≤ xs.sum ∧ xs.sum ≤ 9223372036854775807 * (xs.length : Int) := by
  induction xs with
  | nil => simp
  | cons x r ih =>
    have h1 := h x (List.mem_cons_self ..)
    have h2 := ih (fun y hy => h y (List.mem_cons_of_mem _ hy))
    unfold in64 at h1
    simp only [List.sum_cons, List.length_cons]
    omega

theorem addW_lo (S x : Int) : (S % 18446744073709551616 + IntKind.u64.wrap x + 0) % 18446744073709551616 = (S + x) % 18446744073709551616 := by rw [wrap_u64]; omega
theorem addW_hi {S x : Int} (hx : in64 x) (h : ¬ x < 0) : IntKind.u64.wrap (S / 18446744073709551616 % 18446744073709551616 + (S % 18446744073709551616 + IntKind.u64.wrap x + 0) / 18446744073709551616) = (S + x) / 18446744073709551616 % 18446744073709551616 := by
  rw [wrap_u64, wrap_u64]
  unfold in64 at hx
  omega
theorem addW_hin {S x : Int} (hx : in64 x) (h : x < 0) : IntKind.u64.wrap (IntKind.u64.wrap (S / 18446744073709551616 % 18446744073709551616 + (S % 18446744073709551616 + IntKind.u64.wrap x + 0) / 18446744073709551616) - 1) = (S + x) / 18446744073709551616 % 18446744073709551616 := by
  rw [wrap_u64, wrap_u64, wrap_u64]
  unfold in64 at hx
  omega

theorem mSum_x (xs : List Int) (h : ∀ x ∈ xs, in64 x) (hn : xs.length ≤ 500000000) : PureX Tryz.prog gl0 arrears_money_Sum_int64_ [encL I 1 xs] (fun r => r = sumV xs.sum) := by
  refine pure_fnX mixed fn_arrears_money_Sum_int64_ nt_arrears_money_Sum_int64_ hc_arrears_money_Sum_int64_ (by simp) gl0n (by simp [nf]) ?_
  conv => whnf
  refine loop_at mixed (fun (k : Nat) => ([(11, I k), (10, I xs.length), (9, encL I 1 xs), (4, U ((xs.take k).sum / 18446744073709551616 % 18446744073709551616)), (5, U ((xs.take k).sum % 18446744073709551616))], [], 0)) (fun k => k ≤ xs.length) (fun k => xs.length - k) 0 (Nat.zero_le _) (le_st (le_r rfl) (leE_i rfl rfl (leE_i rfl rfl (leE_eq rfl (bnd_nf _ (nfL_I _ _)) (leE_i rfl rfl (leE_i rfl rfl trivial))))) trivial gl0n) ?_
  intro k hk
  conv => whnf
  have hn2 : (xs.length : Int) < 9223372036854775808 := by omega
  by_cases c : k < xs.length
  · refine br_true (decide_eq_true ((by omega : (k : Int) < xs.length))) ?_
    conv => whnf
    refine ⟨by omega, ?_⟩
    conv => whnf
    have hx := h _ (at_mem c)
    have hu : 0 ≤ IntKind.u64.wrap (at_ xs k) := by rw [wrap_u64]; omega
    have et : (xs.take (k + 1)).sum = (xs.take k).sum + at_ xs k := by rw [take_at c, List.sum_append]; simp
    refine call_x (add64_x (by omega) hu) ?_
    conv => whnf
    by_cases c2 : at_ xs k < 0
    · refine br_true (decide_eq_true (c2)) ?_
      conv => whnf
      exact ⟨k + 1, c, (by show xs.length - (k + 1) < xs.length - k; omega), (le_st (le_r rfl) (leE_i rfl (inc_id c hn2) (leE_i rfl rfl (leE_eq rfl (bnd_nf _ (nfL_I _ _)) (leE_i rfl ((by rw [et]; exact addW_hin hx c2)) (leE_i rfl ((by rw [et]; exact addW_lo _ _)) trivial))))) trivial gl0n)⟩
    · refine br_false (decide_eq_false (c2)) ?_
      conv => whnf
      exact ⟨k + 1, c, (by show xs.length - (k + 1) < xs.length - k; omega), (le_st (le_r rfl) (leE_i rfl (inc_id c hn2) (leE_i rfl rfl (leE_eq rfl (bnd_nf _ (nfL_I _ _)) (leE_i rfl ((by rw [et]; exact addW_hi hx c2)) (leE_i rfl ((by rw [et]; exact addW_lo _ _)) trivial))))) trivial gl0n)⟩
  · obtain rfl : k = xs.length := by omega
    refine br_false (decide_eq_false ((by omega : ¬ ((xs.length : Int) < xs.length)))) ?_
    conv => whnf
    rw [List.take_length]
    have hb : inW xs.sum := by have := sum_inW xs h; unfold inW; omega
    repeat' first
      | (refine br_dec (fun h0 => ?_) (fun h0 => ?_) <;> (conv => whnf))
      | (refine br_intro (fun hb => ?_) (fun hb => ?_) <;> ((try rw [hb]); (conv => whnf); (try simp at hb)))
      | (refine aI ?_; (conv => whnf))
      | (refine fin_e ?_; (conv => whnf); first | exact ⟨by simp [packA, consL, nf], sumW_yes hb (by omega)⟩ | exact ⟨by simp [packA, consL, nf], sumW_no hb (by omega)⟩)
      | fail

end Go.Proofs.YtaomkjcclcgdlaaGreatDoor
namespace Go.Proofs.YtaomkjcclcgdlaaGreatDoor
open Go Ar
set_option linter.unusedVariables false
set_option autoImplicit false
set_option maxHeartbeats 4000000
set_option maxRecDepth 100000

def lastD (xs : List Ins) : Nat → Int
  | 0 => 0
  | k + 1 => (at_ xs k).due
def part (r : Ins) : Nat → Int
  | 0 => r.int
  | _ => r.prin
def amtJ (xs : List Ins) (k j : Nat) : List Int := amtL (xs.take k) ++ [(at_ xs k).int, (at_ xs k).prin].take j
theorem amtJ_0 (xs : List Ins) (k : Nat) : amtJ xs k 0 = amtL (xs.take k) := by simp [amtJ]
theorem amtJ_2 {xs : List Ins} {k : Nat} (h : k < xs.length) : amtJ xs k 2 = amtL (xs.take (k + 1)) := by rw [amtL_snoc h]; rfl
theorem amtJ_s (xs : List Ins) (k : Nat) {j : Nat} (h : j < 2) : amtJ xs k (j + 1) = amtJ xs k j ++ [part (at_ xs k) j] := by
  have : j = 0 ∨ j = 1 := by omega
  rcases this with rfl | rfl <;> simp [amtJ, part]
theorem amtJ_len {xs : List Ins} {k j : Nat} (hk : k ≤ xs.length) (hj : j ≤ 2) : (amtJ xs k j).length ≤ 2 * k + 2 := by
  unfold amtJ
  rw [List.length_append, amtL_len, List.length_take, List.length_take]
  omega

abbrev rowB (l : List Int) : AObj := .box (.arr l.length 1 (fun i => I (at_ l i)))

abbrev sndS (xs : List Ins) (ty : Nat) (y : Option Nat) : Env × Objs × Nat := match y with
    | some k => ([(16, I k), (15, I xs.length), (14, encL encIns 4 xs), (3, B true), (4, I (lastD xs k)), (5, .sli 0 0 (amtL (xs.take k)).length 1 ty)], [(0, rowB (amtL (xs.take k)))], 1)
    | none => ([(16, I xs.length), (15, I xs.length), (14, encL encIns 4 xs), (3, B true), (5, encL I 1 (amtL xs))], [], 0)
def sndO (xs : List Ins) (y : Option Nat) : Prop := match y with
    | some k => k < xs.length ∧ ∀ j, j < k → rowOk xs j
    | none => ∀ j, j < xs.length → rowOk xs j
def sndM (xs : List Ins) (y : Option Nat) : Nat := match y with
    | some k => xs.length - k
    | none => 0

theorem aging_sound_x (xs : List Ins) (hr : rng (encL encIns 4 xs)) (h : xs.length ≤ 1000) : PureX Tryz.prog gl0 aging_sound [encL encIns 4 xs] (fun r => r = B (decide (sndP xs))) := by
  refine pure_fnX mixed fn_aging_sound nt_aging_sound hc_aging_sound (by simp) gl0n (by simp [nf]) ?_
  conv => whnf
  have hw : IntKind.i64.wrap (2 * (xs.length : Int)) = 2 * (xs.length : Int) := wrap_id (by unfold in64; omega)
  refine ⟨⟨by decide, by rw [hw]; omega, by rw [hw]; omega⟩, ?_⟩
  conv => whnf
  have hn : (xs.length : Int) < 9223372036854775808 := by omega
  have hi0 : ∃ y0 : Option Nat, sndO xs y0 ∧ ((y0 = none ∧ xs = []) ∨ (y0 = some 0)) := by
    by_cases hx : xs = []
    · subst hx; exact ⟨none, fun j hj => absurd hj (Nat.not_lt_zero j), .inl ⟨rfl, rfl⟩⟩
    · exact ⟨some 0, ⟨List.length_pos_iff.2 hx, fun j hj => absurd hj (Nat.not_lt_zero j)⟩, .inr rfl⟩
  obtain ⟨y0, hy0, hc0⟩ := hi0
  refine loop_at mixed (sndS xs 2) (sndO xs) (sndM xs) y0 hy0 ?_ ?_
  · rcases hc0 with ⟨rfl, rfl⟩ | rfl
    · exact (le_freeze 5 0 rfl rfl).trans (le_st (le_r rfl) (leE_i rfl rfl (leE_i rfl rfl (leE_eq rfl (bnd_nf _ (nfL_Ins _ _)) (leE_b rfl rfl (leE_le rfl ((LeA.lst (.inl rfl) (fun i hi => absurd hi (Nat.not_lt_zero i))).le ) (bnd_nf _ ( nfL_I _ _)) trivial))))) trivial gl0n)
    · refine (le_st (le_r rfl) (leE_i rfl rfl (leE_i rfl rfl (leE_eq rfl (bnd_nf _ (nfL_Ins _ _)) (leE_b rfl rfl (leE_i rfl rfl (leE_le rfl ?_ (.inl (lt_r rfl)) trivial)))))) (leO_box (lt_r rfl) rfl ?_ (fun i => trivial) trivial) gl0n)
      · exact le_sli rfl
      · exact LeA.arr (fun i hi => absurd hi (Nat.not_lt_zero i))
  · rintro (_ | k) hok
    · conv => whnf
      refine br_false (decide_eq_false ((by omega : ¬ ((xs.length : Int) < xs.length)))) ?_
      conv => whnf
      have e4 : (amtL xs).sum = pre xs xs.length := by rw [← amtL_sum (Nat.le_refl _), List.take_length]
      refine call_x2 (mSum_x (amtL xs) (amtL_in hr) (by rw [amtL_len]; omega)) (LeL.refl _) ?_
      rw [e4]
      rintro _ - rfl
      conv => whnf
      refine fin_e ?_
      conv => whnf
      exact ⟨trivial, congrArg (fun b => B b) (decide_eq_decide.2 ⟨fun hh => ⟨hok, hh⟩, fun hh => hh.2⟩)⟩
    · obtain ⟨hk, hlo⟩ := hok
      conv => whnf
      refine br_true (decide_eq_true ((by omega : (k : Int) < xs.length))) ?_
      conv => whnf
      refine ⟨by omega, ?_⟩
      conv => whnf
      have e1 : ∀ x, lastD xs k < x → 1 ≤ x ∧ (0 < k → (at_ xs (k - 1)).due < x) := fun x hx => by
        cases k with
        | zero => exact ⟨hx, fun h => absurd h (Nat.lt_irrefl 0)⟩
        | succ k => exact ⟨by have := (hlo k (by omega)).1; simp only [lastD] at hx; omega, fun _ => hx⟩
      have e2 : (at_ xs k).due ≤ lastD xs k → ¬ rowOk xs k := fun hl hh => by
        cases k with
        | zero => have := hh.1; simp only [lastD] at hl; omega
        | succ k => have := hh.2.2.2.2 (by omega); simp only [lastD, Nat.add_sub_cancel] at hl this; omega
      refine br_dec (fun h0 => ?_) (fun h0 => ?_)
      · conv => whnf
        refine fin_e ?_
        conv => whnf
        exact ⟨trivial, congrArg (fun b => B b) (decide_eq_false (fun hh => e2 h0 (hh.1 k hk))).symm⟩
      · conv => whnf
        refine br_dec (fun h1 => ?_) (fun h1 => ?_)
        · conv => whnf
          refine fin_e ?_
          conv => whnf
          exact ⟨trivial, congrArg (fun b => B b) (decide_eq_false (fun hh => absurd (hh.1 k hk).2.1 (Int.not_le.2 h1))).symm⟩
        · conv => whnf
          have hrow : 0 ≤ (at_ xs k).int → 0 ≤ (at_ xs k).prin → rowOk xs k := fun q1 q2 => ⟨(e1 _ (Int.not_le.1 h0)).1, Int.not_lt.1 h1, q1, q2, (e1 _ (Int.not_le.1 h0)).2⟩
          refine loop_at mixed (fun (j : Nat) => ([(36, I j), (35, .arr 2 1 (fun i => I (part (at_ xs k) i))), (16, I k), (15, I xs.length), (14, encL encIns 4 xs), (3, B true), (4, I (at_ xs k).due), (5, .sli 0 0 (amtJ xs k j).length 1 2)], [(0, rowB (amtJ xs k j))], 1)) (fun j => j ≤ 2 ∧ (0 < j → 0 ≤ (at_ xs k).int) ∧ (1 < j → 0 ≤ (at_ xs k).prin)) (fun j => 2 - j) 0 ⟨Nat.zero_le _, fun q => absurd q (Nat.lt_irrefl _), fun q => absurd q (by decide)⟩ ?_ ?_
          · rw [amtJ_0]
            refine (le_st (le_r rfl) (leE_i rfl rfl (leE_le rfl ?_ (fun i => trivial) (leE_i rfl rfl (leE_i rfl rfl (leE_eq rfl (bnd_nf _ (nfL_Ins _ _)) (leE_b rfl rfl (leE_i rfl rfl (leE_le rfl (le_sli rfl) (.inl (lt_r rfl)) trivial)))))))) (leO_box (lt_r rfl) rfl (LeA.refl _) (fun i => trivial) trivial) gl0n)
            refine (LeA.arr (fun i hi => ?_)).le
            have : i = 0 ∨ i = 1 := by omega
            rcases this with rfl | rfl <;> exact LeA.refl _
          · rintro j ⟨hj, q1, q2⟩
            conv => whnf
            by_cases c : j < 2
            · refine br_true (decide_eq_true ((by omega : (j : Int) < 2))) ?_
              conv => whnf
              refine ⟨by omega, ?_⟩
              conv => whnf
              by_cases c3 : part (at_ xs k) j < 0
              · refine br_true (decide_eq_true (c3)) ?_
                conv => whnf
                refine fin_e ?_
                conv => whnf
                refine ⟨trivial, congrArg (fun b => B b) (decide_eq_false (fun hh => ?_)).symm⟩
                obtain ⟨_, _, q3, q4, _⟩ := hh.1 k hk
                have : j = 0 ∨ j = 1 := by omega
                rcases this with rfl | rfl
                · exact absurd q3 (Int.not_le.2 c3)
                · exact absurd q4 (Int.not_le.2 c3)
              · refine br_false (decide_eq_false (c3)) ?_
                conv => whnf
                have hl := amtJ_len (xs := xs) (k := k) (j := j) (by omega) hj
                refine ⟨rfl, (by show ((amtJ xs k j).length + 1) * 8 ≤ _; omega), ?_⟩
                conv => whnf
                refine ⟨j + 1, ⟨c, fun _ => ?_, fun q => ?_⟩, (by show 2 - (j + 1) < 2 - j; omega), ?_⟩
                · rcases (show j = 0 ∨ j = 1 by omega) with rfl | rfl
                  · exact Int.not_lt.1 c3
                  · exact q1 (by decide)
                · rcases (show j = 1 by omega) with rfl
                  exact Int.not_lt.1 c3
                · dsimp only
                  rw [amtJ_s xs k c]
                  exact (le_swap 0 2 gl0n).trans (le_st (le_r rfl) (leE_i rfl (inc_id c (by decide)) (leE_eq rfl (fun i => trivial) (leE_i rfl rfl (leE_i rfl rfl (leE_eq rfl (bnd_nf _ (nfL_Ins _ _)) (leE_b rfl rfl (leE_i rfl rfl (leE_le rfl (le_sli (by simp)) (.inl (lt_r rfl)) trivial)))))))) (leO_box (lt_r rfl) rfl (leA_grow rfl rfl) (fun i => trivial) trivial) gl0n)
            · refine br_false (decide_eq_false ((by omega : ¬ ((j : Int) < 2)))) ?_
              conv => whnf
              obtain rfl : j = 2 := by omega
              have hrk := hrow (q1 (by decide)) (q2 (by decide))
              have hlo2 : ∀ j, j < k + 1 → rowOk xs j := fun j hj => by
                by_cases e : j = k
                · subst e; exact hrk
                · exact hlo j (by omega)
              rw [amtJ_2 hk]
              by_cases c4 : k + 1 < xs.length
              · refine ⟨some (k + 1), ⟨c4, hlo2⟩, (by show xs.length - (k + 1) < xs.length - k; omega), ?_⟩
                exact (le_st (le_r rfl) (leE_i rfl (inc_id hk hn) (leE_i rfl rfl (leE_eq rfl (bnd_nf _ (nfL_Ins _ _)) (leE_b rfl rfl (leE_i rfl rfl (leE_le rfl (le_sli rfl) (.inl (lt_r rfl)) trivial)))))) (leO_box (lt_r rfl) rfl (LeA.refl _) (fun i => trivial) trivial) gl0n)
              · have e5 : k + 1 = xs.length := by omega
                refine ⟨none, fun j hj => hlo2 j (by omega), (by show 0 < xs.length - k; omega), ?_⟩
                rw [e5, List.take_length]
                exact (le_freeze 5 0 rfl rfl).trans (le_st (le_r rfl) (leE_i rfl ((by rw [inc_id hk hn, e5])) (leE_i rfl rfl (leE_eq rfl (bnd_nf _ (nfL_Ins _ _)) (leE_b rfl rfl (leE_eq rfl (bnd_nf _ (nfL_I _ _)) trivial))))) trivial gl0n)

end Go.Proofs.YtaomkjcclcgdlaaGreatDoor
namespace Go.Proofs.YtaomkjcclcgdlaaGreatDoor
open Go Ar
set_option linter.unusedVariables false
set_option autoImplicit false
set_option maxHeartbeats 4000000
set_option maxRecDepth 100000

theorem mm_psi (a : Int) : mmI true a 0 = psi a - 0 := by
  unfold mmI psi
  simp only
  (try split) <;> omega

theorem aging_front_x (xs : List Ins) (p : Psn) (hs : sndP xs) (h : xs.length ≤ 1000) (hp : in64 p.applied) : PureX Tryz.prog gl0 aging_front [encL encIns 4 xs, encPsn p] (fun r => r = I (sat xs p.applied p.rest : Nat)) := by
  refine pure_fnX mixed fn_aging_front nt_aging_front hc_aging_front (by simp) gl0n (by simp [nf]) ?_
  conv => whnf
  by_cases c0 : p.rest ≤ 0
  · refine br_true (decide_eq_true (c0)) ?_
    conv => whnf
    refine fin_e ?_
    conv => whnf
    exact ⟨trivial, congrArg (fun b : Nat => I b) (show xs.length = sat xs p.applied p.rest by unfold sat; rw [if_pos c0])⟩
  · refine br_false (decide_eq_false (c0)) ?_
    conv => whnf
    have hst : sat xs p.applied p.rest = frt xs (psi p.applied) := if_neg c0
    have hn : (xs.length : Int) < 9223372036854775808 := by omega
    have p0 : 0 ≤ psi p.applied ∧ psi p.applied ≤ 9223372036854775807 := by unfold psi; unfold in64 at hp; omega
    refine loop_at mixed (fun (k : Nat) => ([(18, I k), (17, I xs.length), (16, encL encIns 4 xs), (0, encL encIns 4 xs), (5, I (psi p.applied - pre xs k)), (3, .ptr 0 [])], [(0, .box (encPsn p))], 1)) (fun k => (k < xs.length ∨ xs.length = 0 ∧ k = 0) ∧ ∀ i, i < k → pre xs (i + 1) ≤ psi p.applied) (fun k => xs.length - k) 0 ⟨by omega, fun i hi => absurd hi (Nat.not_lt_zero i)⟩ (le_st (le_r rfl) (leE_i rfl rfl (leE_i rfl rfl (leE_eq rfl (bnd_nf _ (nfL_Ins _ _)) (leE_eq rfl (bnd_nf _ (nfL_Ins _ _)) (leE_i rfl ((mm_psi p.applied)) (leE_ptr rfl rfl trivial)))))) (leO_box (lt_r rfl) rfl (LeA.refl _) (bnd_nf _ (nf_encPsn _)) trivial) gl0n) ?_
    rintro k ⟨hk, hlo⟩
    conv => whnf
    by_cases c : k < xs.length
    · refine br_true (decide_eq_true ((by omega : (k : Int) < xs.length))) ?_
      conv => whnf
      have p1 := pre_in hs (k := k) (by omega)
      have p2 := pre_in hs (k := k + 1) (by omega)
      have p3 := pre_step hs.1 (k := k) (by omega)
      have e1 : IntKind.i64.wrap ((at_ xs k).int + (at_ xs k).prin) = pre xs (k + 1) - pre xs k := by
        have : pre xs (k + 1) = pre xs k + (at_ xs k).int + (at_ xs k).prin := rfl
        rw [wrap_id (by unfold in64; omega)]; omega
      have e2 : IntKind.i64.wrap ((xs.length : Int) - 1) = (xs.length : Int) - 1 := wrap_id (by unfold in64; omega)
      refine ⟨by omega, ?_⟩
      conv => whnf
      refine ⟨by omega, ?_⟩
      conv => whnf
      by_cases c1 : (k : Int) = xs.length - 1
      · refine br_true (decide_eq_true (show (k : Int) = IntKind.i64.wrap ((xs.length : Int) - 1) by rw [e2]; exact c1)) ?_
        conv => whnf
        refine fin_e ?_
        conv => whnf
        refine ⟨trivial, congrArg (fun b : Nat => I b) ?_⟩
        rw [hst]
        exact (frt_at ⟨by omega, hlo, fun q => by omega⟩).symm
      · refine br_false (decide_eq_false (show ¬ (k : Int) = IntKind.i64.wrap ((xs.length : Int) - 1) by rw [e2]; exact c1)) ?_
        conv => whnf
        by_cases c2 : psi p.applied < pre xs (k + 1)
        · refine br_true (decide_eq_true (show IntKind.i64.wrap ((at_ xs k).int + (at_ xs k).prin) > psi p.applied - pre xs k by rw [e1]; omega)) ?_
          conv => whnf
          refine fin_e ?_
          conv => whnf
          refine ⟨trivial, congrArg (fun b : Nat => I b) ?_⟩
          rw [hst]
          exact (frt_at ⟨by omega, hlo, fun q => c2⟩).symm
        · refine br_false (decide_eq_false (show ¬ IntKind.i64.wrap ((at_ xs k).int + (at_ xs k).prin) > psi p.applied - pre xs k by rw [e1]; omega)) ?_
          conv => whnf
          exact ⟨k + 1, ⟨by omega, fun i hi => (by by_cases e : i = k; subst e; omega; exact hlo i (by omega))⟩, (by show xs.length - (k + 1) < xs.length - k; omega), (le_st (le_r rfl) (leE_i rfl (inc_id c hn) (leE_i rfl rfl (leE_eq rfl (bnd_nf _ (nfL_Ins _ _)) (leE_eq rfl (bnd_nf _ (nfL_Ins _ _)) (leE_i rfl ((show IntKind.i64.wrap (psi p.applied - pre xs k - IntKind.i64.wrap ((at_ xs k).int + (at_ xs k).prin)) = psi p.applied - pre xs (k + 1) by rw [e1, wrap_id (by unfold in64; omega)]; omega)) (leE_ptr rfl rfl trivial)))))) (leO_box (lt_r rfl) rfl (LeA.refl _) (bnd_nf _ (nf_encPsn _)) trivial) gl0n)⟩
    · refine br_false (decide_eq_false ((by omega : ¬ ((k : Int) < xs.length)))) ?_
      conv => whnf
      refine fin_e ?_
      conv => whnf
      refine ⟨trivial, congrArg (fun b : Nat => I b) ?_⟩
      rw [hst]
      exact (frt_at ⟨by omega, fun i hi => absurd hi (Nat.not_lt_zero i), fun q => by omega⟩).symm

theorem aging_Oldest_x (xs : List Ins) (p : Psn) (hr : rng (encL encIns 4 xs)) (h : xs.length ≤ 1000) (hp : in64 p.applied) : PureX Tryz.prog gl0 aging_Oldest [encL encIns 4 xs, encPsn p] (fun r => r = oldV (old xs p.applied p.rest)) := by
  refine pure_fnX mixed fn_aging_Oldest nt_aging_Oldest hc_aging_Oldest (by simp) gl0n (by simp [nf]) ?_
  conv => whnf
  refine call_x2 (aging_sound_x xs hr h) (LeL.refl _) ?_
  rintro _ - rfl
  conv => whnf
  by_cases hs : sndP xs
  · rw [decide_eq_true hs]
    conv => whnf
    refine call_x2 (aging_front_x xs p hs h hp) (LeL.refl _) ?_
    rintro _ - rfl
    conv => whnf
    by_cases c : sat xs p.applied p.rest < xs.length
    · refine br_false (decide_eq_false ((by omega : ¬ ((sat xs p.applied p.rest : Nat) : Int) = xs.length))) ?_
      conv => whnf
      refine fin_e ?_
      conv => whnf
      refine ⟨by simp [packA, consL, nf], ?_⟩
      unfold old
      rw [if_pos ⟨hs, c⟩]
      rfl
    · have : sat xs p.applied p.rest ≤ xs.length := by
        unfold sat
        split
        · exact Nat.le_refl _
        · have := (frt_is xs (psi p.applied)).le; omega
      refine br_true (decide_eq_true ((by omega : ((sat xs p.applied p.rest : Nat) : Int) = xs.length))) ?_
      conv => whnf
      refine fin_e ?_
      conv => whnf
      refine ⟨by simp [packA, consL, nf], ?_⟩
      unfold old
      rw [if_neg (fun hh => c hh.2)]
      rfl
  · rw [decide_eq_false hs]
    conv => whnf
    refine fin_e ?_
    conv => whnf
    refine ⟨by simp [packA, consL, nf], ?_⟩
    unfold old
    rw [if_neg (fun hh => hs hh.1)]
    rfl

theorem aging_late_x (x : Ins) (d : Int) : PureX Tryz.prog gl0 aging_lateness [encIns x, I d] (fun r => r = I (lateV x.due d)) := by
  refine pure_fnX mixed fn_aging_lateness nt_aging_lateness hc_aging_lateness (by simp) gl0n (by simp [nf]) ?_
  conv => whnf
  unfold lateV
  by_cases c : d ≤ x.due
  · refine br_true (decide_eq_true (c)) ?_
    conv => whnf
    rw [if_pos c]
    refine fin_e ?_
    conv => whnf
    exact ⟨trivial, rfl⟩
  · refine br_false (decide_eq_false (c)) ?_
    conv => whnf
    rw [if_neg c]
    refine fin_e ?_
    conv => whnf
    exact ⟨trivial, rfl⟩

theorem aging_Days_x (xs : List Ins) (p : Psn) (d : Int) (hr : rng (encL encIns 4 xs)) (h : xs.length ≤ 1000) (hp : in64 p.applied) : PureX Tryz.prog gl0 aging_Days [encL encIns 4 xs, encPsn p, I d] (fun r => r = I (daysV xs p.applied p.rest d)) := by
  refine pure_fnX mixed fn_aging_Days nt_aging_Days hc_aging_Days (by simp) gl0n (by simp [nf]) ?_
  conv => whnf
  refine call_x2 (aging_Oldest_x xs p hr h hp) (LeL.refl _) ?_
  rintro _ - rfl
  unfold daysV
  cases ho : old xs p.applied p.rest with
  | none =>
    conv => whnf
    refine fin_e ?_
    conv => whnf
    exact ⟨trivial, rfl⟩
  | some n =>
    have hlt := old_lt ho
    conv => whnf
    refine ⟨by omega, ?_⟩
    conv => whnf
    refine call_x2 (aging_late_x (at_ xs n) d) (LeL.refl _) ?_
    rintro _ - rfl
    conv => whnf
    refine fin_e ?_
    conv => whnf
    exact ⟨trivial, rfl⟩

theorem aging_Bucket_x (d : Int) : PureX Tryz.prog gl0 aging_Bucket [I d] (fun r => r = I (bkt d)) := by
  refine pure_fnX mixed fn_aging_Bucket nt_aging_Bucket hc_aging_Bucket (by simp) gl0n (by simp [nf]) ?_
  conv => whnf
  repeat' first
    | (refine br_dec (fun h0 => ?_) (fun h0 => ?_) <;> (conv => whnf))
    | (refine br_intro (fun hb => ?_) (fun hb => ?_) <;> ((try rw [hb]); (conv => whnf); (try simp at hb)))
    | (refine aI ?_; (conv => whnf))
    | (refine fin_e ?_; (conv => whnf); exact ⟨trivial, congrArg (fun x => I x) (by unfold bkt; repeat' split; all_goals omega)⟩)
    | fail

end Go.Proofs.YtaomkjcclcgdlaaGreatDoor
namespace Go.Proofs.YtaomkjcclcgdlaaGreatDoor
open Go Ar
set_option linter.unusedVariables false
set_option autoImplicit false
set_option maxHeartbeats 4000000
set_option maxRecDepth 100000

theorem mm_neg {a : Int} (h : in64 a) : IntKind.i64.wrap (0 - mmI true a 0) = 0 - psi a := by
  have : mmI true a 0 = psi a := by have := mm_psi a; omega
  rw [this]
  exact wrap_id (by unfold psi; unfold in64 at *; omega)
theorem mm_min (a b : Int) : mmI false a b = min a b := by
  unfold mmI
  simp only
  split <;> omega

theorem aging_PastDue_x (xs : List Ins) (p : Psn) (d : Int) (hr : rng (encL encIns 4 xs)) (h : xs.length ≤ 1000) (hp : in64 p.applied) : PureX Tryz.prog gl0 aging_PastDue [encL encIns 4 xs, encPsn p, I d] (fun r => r = I (pdV xs p.applied p.rest d)) := by
  refine pure_fnX mixed fn_aging_PastDue nt_aging_PastDue hc_aging_PastDue (by simp) gl0n (by simp [nf]) ?_
  conv => whnf
  refine call_x2 (aging_Oldest_x xs p hr h hp) (LeL.refl _) ?_
  rintro _ - rfl
  cases ho : old xs p.applied p.rest with
  | none =>
    rw [show pdV xs p.applied p.rest d = 0 by rw [pd_prog, ho]]
    conv => whnf
    refine fin_e ?_
    conv => whnf
    exact ⟨trivial, rfl⟩
  | some n =>
    rw [show pdV xs p.applied p.rest d = (if d ≤ (at_ xs n).due then 0 else if (at_ xs (xs.length - 1)).due < d then p.rest else min (pre xs (fd xs d) - psi p.applied) p.rest) by rw [pd_prog, ho]]
    have hlt := old_lt ho
    have hs : sndP xs := by
      unfold old at ho
      split at ho
      · rename_i hh; exact hh.1
      · cases ho
    conv => whnf
    refine ⟨by omega, ?_⟩
    conv => whnf
    by_cases c1 : d ≤ (at_ xs n).due
    · refine br_true (decide_eq_true (c1)) ?_
      conv => whnf
      refine fin_e ?_
      conv => whnf
      rw [if_pos c1]
      exact ⟨trivial, rfl⟩
    · refine br_false (decide_eq_false (c1)) ?_
      conv => whnf
      rw [if_neg c1]
      have hw : IntKind.i64.wrap ((xs.length : Int) - 1) = ((xs.length - 1 : Nat) : Int) := by rw [wrap_id (by unfold in64; omega)]; omega
      rw [hw]
      conv => whnf
      refine ⟨by omega, ?_⟩
      conv => whnf
      by_cases c2 : (at_ xs (xs.length - 1)).due < d
      · refine br_true (decide_eq_true (c2)) ?_
        conv => whnf
        refine fin_e ?_
        conv => whnf
        rw [if_pos c2]
        exact ⟨trivial, rfl⟩
      · refine br_false (decide_eq_false (c2)) ?_
        conv => whnf
        rw [if_neg c2]
        have hn : (xs.length : Int) < 9223372036854775808 := by omega
        have p0 : 0 ≤ psi p.applied ∧ psi p.applied ≤ 9223372036854775807 := by unfold psi; unfold in64 at hp; omega
        refine loop_at mixed (fun (k : Nat) => ([(46, I k), (45, I xs.length), (44, encL encIns 4 xs), (9, I (pre xs k - psi p.applied)), (2, I d), (4, .ptr 0 [])], [(0, .box (encPsn p))], 1)) (fun k => k < xs.length ∧ ∀ i, i < k → (at_ xs i).due < d) (fun k => xs.length - k) 0 ⟨by omega, fun i hi => absurd hi (Nat.not_lt_zero i)⟩ (le_st (le_r rfl) (leE_i rfl rfl (leE_i rfl rfl (leE_eq rfl (bnd_nf _ (nfL_Ins _ _)) (leE_i rfl ((mm_neg hp)) (leE_i rfl rfl (leE_ptr rfl rfl trivial)))))) (leO_box (lt_r rfl) rfl (LeA.refl _) (bnd_nf _ (nf_encPsn _)) trivial) gl0n) ?_
        rintro k ⟨hk, hlo⟩
        conv => whnf
        refine br_true (decide_eq_true ((by omega : (k : Int) < xs.length))) ?_
        conv => whnf
        refine ⟨by omega, ?_⟩
        conv => whnf
        have p1 := pre_in hs (k := k) (by omega)
        have p2 := pre_in hs (k := k + 1) (by omega)
        have p3 := pre_step hs.1 (k := k) (by omega)
        by_cases c3 : (at_ xs k).due ≥ d
        · refine br_true (decide_eq_true (c3)) ?_
          conv => whnf
          have hfd : fd xs d = k := fd_at ⟨by omega, hlo, fun _ => c3⟩
          refine fin_e ?_
          conv => whnf
          rw [hfd]
          exact ⟨trivial, congrArg (fun x => I x) (mm_min _ _)⟩
        · refine br_false (decide_eq_false (c3)) ?_
          conv => whnf
          have hk2 : k + 1 < xs.length := by
            rcases Nat.lt_or_ge (k + 1) xs.length with q | q
            · exact q
            · rw [show xs.length - 1 = k by omega] at c2; omega
          have e1 : IntKind.i64.wrap ((at_ xs k).int + (at_ xs k).prin) = pre xs (k + 1) - pre xs k := by
            have : pre xs (k + 1) = pre xs k + (at_ xs k).int + (at_ xs k).prin := rfl
            rw [wrap_id (by unfold in64; omega)]; omega
          exact ⟨k + 1, ⟨hk2, fun i hi => (by by_cases e : i = k; subst e; omega; exact hlo i (by omega))⟩, (by show xs.length - (k + 1) < xs.length - k; omega), (le_st (le_r rfl) (leE_i rfl (inc_id hk hn) (leE_i rfl rfl (leE_eq rfl (bnd_nf _ (nfL_Ins _ _)) (leE_i rfl ((show IntKind.i64.wrap (pre xs k - psi p.applied + IntKind.i64.wrap ((at_ xs k).int + (at_ xs k).prin)) = pre xs (k + 1) - psi p.applied by rw [e1, wrap_id (by unfold in64; omega)]; omega)) (leE_i rfl rfl (leE_ptr rfl rfl trivial)))))) (leO_box (lt_r rfl) rfl (LeA.refl _) (bnd_nf _ (nf_encPsn _)) trivial) gl0n)⟩

theorem lBalance_x (b : Bk) (hb : rgBk b) (a : Nat) (ha : a < 12) : PureX Tryz.prog gl0 ledger_Balance [encBk b, I (a : Nat)] (fun r => r = tup2 (I (balB b a)) (I 0)) := by
  refine pure_fnX mixed fn_ledger_Balance nt_ledger_Balance hc_ledger_Balance (by simp) gl0n (by simp [nf, nf_encBk]) ?_
  conv => whnf
  refine br_false (decide_eq_false ((by omega : ¬ ((a : Nat) : Int) ≥ 12))) ?_
  conv => whnf
  refine ⟨by omega, ?_⟩
  conv => whnf
  refine ⟨by omega, ?_⟩
  conv => whnf
  by_cases c : 0 < at_ sideL a
  · refine br_true (decide_eq_true (c)) ?_
    conv => whnf
    refine fin_e ?_
    conv => whnf
    exact ⟨by simp [packA, consL, nf], congrArg (fun x => tup2 (I x) (I 0)) (show b.f a = balB b a by unfold balB; rw [if_pos c])⟩
  · refine br_false (decide_eq_false (c)) ?_
    conv => whnf
    refine br_false (decide_eq_false (b.h a ha)) ?_
    conv => whnf
    refine fin_e ?_
    conv => whnf
    exact ⟨by simp [packA, consL, nf], congrArg (fun x => tup2 (I x) (I 0)) (show IntKind.i64.wrap (0 - b.f a) = balB b a by rw [neg_ok hb ha]; unfold balB; rw [if_neg c])⟩

theorem give_x  : PureX Tryz.prog gl0 loan_give [I 0] (fun r => r = .tup .nil) := by
  refine pure_fnX mixed fn_loan_give nt_loan_give hc_loan_give (by simp) gl0n (by simp [nf]) ?_
  conv => whnf
  refine fin_e ?_
  conv => whnf
  exact ⟨trivial, rfl⟩

theorem balance_x (l : Ln) (a : Nat) (hb : rgBk l.book) (ha : a < 12) : PureX Tryz.prog gl0 loan_balance [encLn l, I a] (fun r => r = I (bal l a)) := by
  refine pure_fnX mixed fn_loan_balance nt_loan_balance hc_loan_balance (by simp) gl0n (by simp [nf]) ?_
  conv => whnf
  refine call_x2 (lBalance_x l.book hb a ha) (LeL.refl _) ?_
  rintro _ - rfl
  conv => whnf
  refine call_x2 give_x (LeL.refl _) ?_
  rintro _ - rfl
  conv => whnf
  refine fin_e ?_
  conv => whnf
  exact ⟨trivial, rfl⟩

theorem owed_x (l : Ln) (hb : rgBk l.book) : PureX Tryz.prog gl0 loan_owed [encLn l] (fun r => r = encOwd (owdOf l)) := by
  refine pure_fnX mixed fn_loan_owed nt_loan_owed hc_loan_owed (by simp) gl0n (by simp [nf]) ?_
  conv => whnf
  refine call_x2 (balance_x l 3 hb (by decide)) (LeL.refl _) ?_
  rintro _ - rfl
  conv => whnf
  refine call_x2 (balance_x l 2 hb (by decide)) (LeL.refl _) ?_
  rintro _ - rfl
  conv => whnf
  refine call_x2 (balance_x l 1 hb (by decide)) (LeL.refl _) ?_
  rintro _ - rfl
  conv => whnf
  refine fin_e ?_
  conv => whnf
  exact ⟨by simp [packA, nf], rfl⟩

theorem position_x (l : Ln) (hb : rgBk l.book) : PureX Tryz.prog gl0 loan_position [encLn l] (fun r => r = encPsn (psnOf l)) := by
  refine pure_fnX mixed fn_loan_position nt_loan_position hc_loan_position (by simp) gl0n (by simp [nf]) ?_
  conv => whnf
  refine call_x2 (owed_x l hb) (LeL.refl _) ?_
  rintro _ - rfl
  conv => whnf
  refine fin_e ?_
  conv => whnf
  exact ⟨by simp [packA, nf], rfl⟩

end Go.Proofs.YtaomkjcclcgdlaaGreatDoor
namespace Go.Proofs.YtaomkjcclcgdlaaGreatDoor
open Go Ar
set_option linter.unusedVariables false
set_option autoImplicit false
set_option maxHeartbeats 4000000
set_option maxRecDepth 100000

theorem look_dfr : DfrP Tryz.prog loan_Look_c1 := ⟨fun ys => ⟨.func loan_Look_c1, ys, loan_Look_c1, ys, rfl, fun w => by
  have hf : Tryz.prog.funcs[loan_Look_c1]? = some Tryz.f24 := fn_loan_Look_c1
  have hn : (Tryz.f24.name == "runtime.NumGoroutine") = false := by kernel_rfl
  have hb : Tryz.f24.body.isNone = false := by kernel_rfl
  simp only [invoke, callFunc, Sem.run_bind, Sem.run_pure, Result.andThen_ok, run_program, hf, hn, Bool.false_eq_true, if_false, hb]
  simp, fun w => by
  refine callsD_of_wpS fn_loan_Look_c1 rfl fun c₀ cs hu => ?_
  apply wpS_seq
  apply wpS_region
  have h1 : 1 < ys.size + (4 - ys.size) := by omega
  have h2 : 2 < ys.size + (4 - ys.size) := by omega
  simp [wpOpsS, go_sem, recoverD, hu, Tryz.ntmps24, Exit.thenS, h1, h2]
  refine wpS_cond (t := false) ?_ ?_
  · simp [Act.eval, h1, h2]
  · simp only [Bool.false_eq_true, if_false]
    refine wpS_of_wp (wp_skip ?_)
    cases c₀
    simp_all [bodyPostS, results, Tryz.results24]⟩⟩

theorem look_x (p : Pol) (l : Ln) (hp : hasI p) (hg : chk p = (0, 0)) (hr : rng (encLn l)) (h : l.plan.length ≤ 1000) : PureX Tryz.prog gl0 loan_Look [encPol p, encLn l] (fun r => r = lookV l) := by
  refine pure_fnX mixed fn_loan_Look nt_loan_Look hc_loan_Look (by simp) gl0n (by simp [nf]) ?_
  conv => whnf
  have hb := (rg_Ln hr).book
  have ha := (rg_Ln hr).applied
  refine ⟨look_dfr, ?_⟩
  conv => whnf
  refine call_x2 (policy_Check_s p hp) (LeL.refl _) ?_
  rw [hg]
  rintro _ - rfl
  conv => whnf
  refine call_x2 give_x (LeL.refl _) ?_
  rintro _ - rfl
  conv => whnf
  refine call_x2 (owed_x l hb) (LeL.refl _) ?_
  rintro _ - rfl
  conv => whnf
  refine call_x2 (position_x l hb) (LeL.refl _) ?_
  rintro _ - rfl
  conv => whnf
  refine call_x2 (aging_Days_x l.plan (psnOf l) l.day hr.2.2.1 h ha) (LeL.refl _) ?_
  rintro _ - rfl
  conv => whnf
  refine call_x2 (aging_PastDue_x l.plan (psnOf l) l.day hr.2.2.1 h ha) (LeL.refl _) ?_
  rintro _ - rfl
  conv => whnf
  refine call_x2 (balance_x l 4 hb (by decide)) (LeL.refl _) ?_
  rintro _ - rfl
  conv => whnf
  refine call_x2 (balance_x l 5 hb (by decide)) (LeL.refl _) ?_
  rintro _ - rfl
  conv => whnf
  refine call_x2 (balance_x l 10 hb (by decide)) (LeL.refl _) ?_
  rintro _ - rfl
  conv => whnf
  refine call_x2 (aging_Bucket_x _) (LeL.refl _) ?_
  rintro _ - rfl
  conv => whnf
  refine call_x2 (aging_Oldest_x l.plan (psnOf l) hr.2.2.1 h ha) (LeL.refl _) ?_
  rintro _ - rfl
  cases ho : old l.plan l.applied (restOf l) with
  | none =>
    rw [show old l.plan (psnOf l).applied (psnOf l).rest = none from ho]
    conv => whnf
    refine fin_e ?_
    conv => whnf
    refine ⟨by simp [packA, nf], ?_⟩
    unfold lookV
    rw [ho]
    rfl
  | some n =>
    rw [show old l.plan (psnOf l).applied (psnOf l).rest = some n from ho]
    have hlt := old_lt ho
    conv => whnf
    refine ⟨by omega, ?_⟩
    conv => whnf
    refine fin_e ?_
    conv => whnf
    refine ⟨by simp [packA, nf], ?_⟩
    unfold lookV
    rw [ho]
    rfl

end Go.Proofs.YtaomkjcclcgdlaaGreatDoor
