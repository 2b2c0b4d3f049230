/- What is set aside for losses: the reckoning. No condition. -/
import Derived.Test.YtjkmmcbfcglkdaaGreatDoorM4
import Derived.Test.YtjkmmcbfcglkdaaGreatDoorN3
import Derived.Test.YtjkmmcbfcglkdaaGreatDoorK8
set_option linter.all false
namespace Go.Proofs.YtjkmmcbfcglkdaaGreatDoor
open Go Ar
set_option linter.unusedVariables false
set_option autoImplicit false
set_option maxHeartbeats 4000000
set_option maxRecDepth 100000
theorem bkt_rng (d : Int) : 0 ≤ bkt d ∧ bkt d ≤ 4 := by unfold bkt; (repeat' split) <;> decide
theorem cls_rng (l : Ln) : 0 ≤ clsOf l ∧ clsOf l ≤ 6 := by
  unfold clsOf
  split
  · decide
  · split
    · decide
    · have := bkt_rng (daysV l.plan l.applied (restOf l) l.day); omega
theorem add_yes {a b : Int} (h : in64 (a + b)) : tup2 (I (IntKind.i64.wrap (a + b))) (B true) = sumV (a + b) := by rw [sumV_yes h, wrap_id h]
theorem add_no {a b : Int} (h : ¬ in64 (a + b)) : tup2 (I 0) (B false) = sumV (a + b) := (sumV_no h).symm
theorem add_x (a b : Int) (ha : in64 a) (hb : in64 b) : PureX Tryz.prog gl0 money_Add [I a, I b] (fun r => r = sumV (a + b)) := by
  refine pure_fnX mixed fn_money_Add nt_money_Add hc_money_Add (by simp) gl0n (by simp [nf]) ?_
  conv => whnf
  have hw := wrap_i64 (a + b)
  unfold in64 at ha hb
  by_cases ca : a ≥ 0 <;> by_cases cb : b ≥ 0 <;> by_cases cs : IntKind.i64.wrap (a + b) ≥ 0
  all_goals
    (repeat' first
      | (refine br_true (decide_eq_true (by assumption)) ?_; (conv => whnf))
      | (refine br_false (decide_eq_false (by assumption)) ?_; (conv => whnf)))
    refine fin_e ?_
    (conv => whnf)
    first
      | exact ⟨by simp [packA, consL, nf], add_yes (by unfold in64; omega)⟩
      | exact ⟨by simp [packA, consL, nf], add_no (by unfold in64; omega)⟩
def expo (l : Ln) : Int := if IntKind.i64.wrap (IntKind.i64.wrap (IntKind.i64.wrap (bal l 3 + bal l 2) + bal l 1) - bal l 5) < 0 then 0 else IntKind.i64.wrap (IntKind.i64.wrap (IntKind.i64.wrap (bal l 3 + bal l 2) + bal l 1) - bal l 5)
theorem expo_rng (l : Ln) : 0 ≤ expo l ∧ in64 (expo l) := by
  unfold expo
  have := wrap_in (IntKind.i64.wrap (IntKind.i64.wrap (bal l 3 + bal l 2) + bal l 1) - bal l 5)
  split
  · exact ⟨by decide, by unfold in64; omega⟩
  · exact ⟨by omega, this⟩
theorem expo_x (l : Ln) : I (expo l) = I (if IntKind.i64.wrap (IntKind.i64.wrap (IntKind.i64.wrap (bal l 3 + bal l 2) + bal l 1) - bal l 5) < 0 then 0 else IntKind.i64.wrap (IntKind.i64.wrap (IntKind.i64.wrap (bal l 3 + bal l 2) + bal l 1) - bal l 5)) := rfl
def clsL (xs : List Ln) (c : Nat) : List Int := (xs.filter (fun l => decide (clsOf l = (c : Int)))).map expo
def Sm (xs : List Ln) (c : Nat) : Int := (clsL xs c).sum
theorem clsL_yes {xs : List Ln} {k c : Nat} (hk : k < xs.length) (h : clsOf (at_ xs k) = (c : Int)) : clsL (xs.take (k + 1)) c = clsL (xs.take k) c ++ [expo (at_ xs k)] := by
  unfold clsL
  rw [take_at hk, List.filter_append, List.map_append]
  simp [h]
theorem clsL_no {xs : List Ln} {k c : Nat} (hk : k < xs.length) (h : ¬ clsOf (at_ xs k) = (c : Int)) : clsL (xs.take (k + 1)) c = clsL (xs.take k) c := by
  unfold clsL
  rw [take_at hk, List.filter_append, List.map_append]
  simp [h]
theorem Sm_yes {xs : List Ln} {k c : Nat} (hk : k < xs.length) (h : clsOf (at_ xs k) = (c : Int)) : Sm (xs.take (k + 1)) c = Sm (xs.take k) c + expo (at_ xs k) := by
  unfold Sm; rw [clsL_yes hk h, List.sum_append]; simp
theorem Sm_no {xs : List Ln} {k c : Nat} (hk : k < xs.length) (h : ¬ clsOf (at_ xs k) = (c : Int)) : Sm (xs.take (k + 1)) c = Sm (xs.take k) c := by
  unfold Sm; rw [clsL_no hk h]
theorem clsL_in (xs : List Ln) (c : Nat) : ∀ x ∈ clsL xs c, 0 ≤ x ∧ in64 x := fun x hx => by
  obtain ⟨l, _, rfl⟩ := List.mem_map.1 hx
  exact expo_rng l
theorem clsL_len (xs : List Ln) (c : Nat) : (clsL xs c).length ≤ xs.length := by
  unfold clsL; rw [List.length_map]; exact List.length_filter_le _ _
theorem Sm_step (xs : List Ln) (c k : Nat) : Sm (xs.take k) c ≤ Sm (xs.take (k + 1)) c := by
  by_cases hk : k < xs.length
  · by_cases h : clsOf (at_ xs k) = (c : Int)
    · rw [Sm_yes hk h]; have := (expo_rng (at_ xs k)).1; omega
    · rw [Sm_no hk h]; exact Int.le_refl _
  · rw [List.take_of_length_le (by omega), List.take_of_length_le (by omega)]; exact Int.le_refl _
theorem Sm_mono (xs : List Ln) (c : Nat) : ∀ d k, Sm (xs.take k) c ≤ Sm (xs.take (k + d)) c
  | 0, k => Int.le_refl _
  | d + 1, k => Int.le_trans (Sm_mono xs c d k) (Sm_step xs c (k + d))
theorem Sm_le (xs : List Ln) (c k : Nat) (hk : k ≤ xs.length) : Sm (xs.take k) c ≤ Sm xs c := by
  have := Sm_mono xs c (xs.length - k) k
  rw [show k + (xs.length - k) = xs.length by omega, List.take_length] at this
  exact this
theorem Sm_0 (xs : List Ln) (c k : Nat) : 0 ≤ Sm (xs.take k) c := by
  have := Sm_mono xs c k 0
  rw [Nat.zero_add, List.take_zero] at this
  exact this
def bps (s r : Int) : Int := (mdN s.natAbs r.natAbs 10000 : Nat)
theorem bps_le {s r : Nat} (hr : r ≤ 10000) : mdN s r 10000 ≤ s := by
  rw [mdN_is]
  have h1 : s * r ≤ s * 10000 := Nat.mul_le_mul_left _ hr
  generalize s * r = P at *
  split <;> omega
theorem mdV_ok {s r : Int} (h0 : 0 ≤ s) (hs : in64 s) (hr : 0 ≤ r) (hr2 : r ≤ 10000) : mdV s r 10000 = tup2 (I (bps s r)) (B true) := by
  unfold mdV
  rw [if_neg (by decide), decide_eq_false (show ¬ s < 0 by omega), decide_eq_false (show ¬ r < 0 by omega), decide_eq_false (show ¬ (10000 : Int) < 0 by decide)]
  have h := bps_le (s := s.natAbs) (r := r.natAbs) (by omega)
  show (if mdN s.natAbs r.natAbs 10000 ≤ 9223372036854775807 then _ else _) = _
  unfold in64 at hs
  rw [if_pos (by omega)]
  rfl
abbrev encR (f : Nat → Int) : AV := .arr 5 1 (fun i => I (f i))
theorem nf_encR (f : Nat → Int) : nf (encR f) := fun _ => trivial
def rtOk (r : Int) : Prop := 0 ≤ r ∧ r ≤ 10000
def okA (xs : List Ln) (rt : Nat → Int) : Prop := ∀ i, i < 5 → rtOk (rt i) ∧ in64 (Sm xs i)
instance (xs : List Ln) (rt : Nat → Int) : Decidable (okA xs rt) := by unfold okA rtOk; infer_instance
def alwV (xs : List Ln) (rt : Nat → Int) : AV := if okA xs rt then tup2 (encR (fun i => bps (Sm xs i) (rt i))) (B true) else tup2 (encR (fun _ => 0)) (B false)
theorem alw_no {xs : List Ln} {rt : Nat → Int} (h : ¬ okA xs rt) : alwV xs rt = tup2 (encR (fun _ => 0)) (B false) := if_neg h
theorem nf_alwV (xs : List Ln) (rt : Nat → Int) : nf (alwV xs rt) := by
  unfold alwV
  split
  · exact ⟨nf_encR _, trivial, trivial⟩
  · exact ⟨nf_encR _, trivial, trivial⟩
def outF (xs : List Ln) (rt : Nat → Int) (c : Nat) (i : Nat) : Int := if i < c then bps (Sm xs i) (rt i) else 0
theorem leA_out {xs : List Ln} {rt : Nat → Int} {c : Nat} {x : Int} (hx : x = bps (Sm xs c) (rt c)) : LeA (.arr 5 1 (fun i => selA (i = c) (I x) (I (outF xs rt c i)))) (encR (outF xs rt (c + 1))) := by
  subst hx
  refine LeA.arr fun i hi => ?_
  rw [selA_eq]
  unfold outF
  by_cases h : i = c
  · subst h
    rw [if_pos rfl, if_pos (Nat.lt_succ_self _)]; exact LeA.refl _
  · rw [if_neg h]
    by_cases h2 : i < c
    · rw [if_pos h2, if_pos (by omega)]; exact LeA.refl _
    · rw [if_neg h2, if_neg (by omega)]; exact LeA.refl _
theorem alw_yes {xs : List Ln} {rt : Nat → Int} (h : okA xs rt) : LeA (tup2 (encR (outF xs rt 5)) (B true)) (alwV xs rt) := by
  unfold alwV
  rw [if_pos h]
  refine LeA.tup (LeA.cons (LeA.arr fun i hi => ?_) (LeA.refl _))
  unfold outF
  rw [if_pos hi]
  exact LeA.refl _
theorem leA_sum {xs : List Ln} {k c : Nat} {x : Int} (hk : k < xs.length) (h : clsOf (at_ xs k) = (c : Int)) (hx : x = Sm (xs.take k) c + expo (at_ xs k)) :
    LeA (.arr 5 1 (fun i => selA (i = c) (I x) (I (Sm (xs.take k) i)))) (encR (Sm (xs.take (k + 1)))) := by
  subst hx
  refine LeA.arr fun i hi => ?_
  rw [selA_eq]
  by_cases e : i = c
  · subst e
    rw [if_pos rfl, Sm_yes hk h]; exact LeA.refl _
  · rw [if_neg e, Sm_no hk (by rw [h]; omega)]; exact LeA.refl _
theorem exposure_x (l : Ln) : PureX Tryz.prog gl0 report_exposure [lookV l] (fun r => r = I (expo l)) := by
  refine pure_fnX mixed fn_report_exposure nt_report_exposure hc_report_exposure (by simp) gl0n (by simp [nf_lookV]) ?_
  conv => whnf
  refine fin_e ?_
  conv => whnf
  refine ⟨trivial, ?_⟩
  rw [expo_x]
  refine congrArg (fun n => I n) (?_ : mmI true 0 _ = _)
  generalize IntKind.i64.wrap (IntKind.i64.wrap (IntKind.i64.wrap (bal l 3 + bal l 2) + bal l 1) - bal l 5) = x
  simp only [mmI]
  split <;> split <;> omega
theorem r21_Exposure_x (p : Pol) (l : Ln) (hp : hasI p) (hg : chk p = (0, 0)) (hr : rng (encLn l)) (h : l.plan.length ≤ 1000) : PureX Tryz.prog gl0 r21_Exposure [encPol p, encLn l] (fun r => r = I (expo l)) := by
  refine pure_fnX mixed fn_r21_Exposure nt_r21_Exposure hc_r21_Exposure (by simp) gl0n (by simp [nf]) ?_
  conv => whnf
  refine call_x2 (r14_Look_x p l hp hg hr h) (LeL.refl _) ?_
  rintro _ - rfl
  conv => whnf
  rw [expo_x]
  by_cases c : IntKind.i64.wrap (IntKind.i64.wrap (IntKind.i64.wrap (bal l 3 + bal l 2) + bal l 1) - bal l 5) < 0
  · refine br_true (decide_eq_true (c)) ?_
    conv => whnf
    refine fin_e ?_
    conv => whnf
    exact ⟨trivial, congrArg (fun n => I n) (if_pos c).symm⟩
  · refine br_false (decide_eq_false (c)) ?_
    conv => whnf
    refine fin_e ?_
    conv => whnf
    exact ⟨trivial, congrArg (fun n => I n) (if_neg c).symm⟩
end Go.Proofs.YtjkmmcbfcglkdaaGreatDoor
namespace Go.Proofs.YtjkmmcbfcglkdaaGreatDoor
open Go Ar
set_option linter.unusedVariables false
set_option autoImplicit false
set_option maxHeartbeats 4000000
set_option maxRecDepth 100000
theorem allowance_x (p : Pol) (s : Stt) (b : Nat) (rt : Nat → Int) (hp : hasI p) (hs : okS b s) (hsr : rng (encStt s)) (hgs : chk p = (0, 0) ∨ s.loans = []) : PureX Tryz.prog gl0 report_Allowance [encPol p, encStt s, encR rt] (fun r => r = alwV s.loans rt) := by
  refine pure_fnX mixed fn_report_Allowance nt_report_Allowance hc_report_Allowance (by simp) gl0n (by simp [nf]) ?_
  conv => whnf
  have hsn := hs.n
  have hn : (s.loans.length : Int) < 9223372036854775808 := by omega
  have h5 : ((5 : Nat) : Int) < 9223372036854775808 := by decide
  refine loop_at mixed (fun (k : Nat) => ([(22, I k), (21, encR rt), (3, .ptr 0 []), (4, .ptr 1 []), (5, .ptr 2 []), (6, .ptr 3 []), (7, B false), (8, .ptr 4 [])], [(0, .box (encPol p)), (1, .box (encStt s)), (2, .box (encR rt)), (3, .box (encR (fun _ => 0))), (4, .box (encR (fun _ => 0)))], 5)) (fun k => k ≤ 5 ∧ ∀ i, i < k → rtOk (rt i)) (fun k => 5 - k) 0 ⟨Nat.zero_le _, fun i hi => absurd hi (Nat.not_lt_zero i)⟩ (le_st (le_r rfl) (leE_i rfl rfl (leE_eq rfl (bnd_nf _ (nf_encR _)) (leE_ptr rfl rfl (leE_ptr rfl rfl (leE_ptr rfl rfl (leE_ptr rfl rfl (leE_b rfl rfl (leE_ptr rfl rfl trivial)))))))) (leO_box (lt_r rfl) rfl (LeA.refl _) (bnd_nf _ (nf_encPol _)) (leO_box (lt_r rfl) rfl (LeA.refl _) (bnd_nf _ (nf_encStt _)) (leO_box (lt_r rfl) rfl (LeA.refl _) (bnd_nf _ (nf_encR _)) (leO_box (lt_r rfl) rfl (LeA.refl _) (bnd_nf _ (nf_encR _)) (leO_box (lt_r rfl) rfl (LeA.refl _) (bnd_nf _ (nf_encR _)) trivial))))) gl0n) ?_
  rintro k ⟨hk, hrk⟩
  conv => whnf
  by_cases c : k < 5
  · refine br_true (decide_eq_true ((by omega : (k : Int) < 5))) ?_
    conv => whnf
    refine ⟨by omega, ?_⟩
    conv => whnf
    by_cases c1 : rt k < 0
    · refine br_true (decide_eq_true (c1)) ?_
      conv => whnf
      refine fin_e ?_
      conv => whnf
      rw [alw_no (fun h => by have := (h k c).1.1; omega)]
      exact ⟨by simp [packA, consL, nf], rfl⟩
    · refine br_false (decide_eq_false (c1)) ?_
      conv => whnf
      by_cases c2 : rt k > 10000
      · refine br_true (decide_eq_true (c2)) ?_
        conv => whnf
        refine fin_e ?_
        conv => whnf
        rw [alw_no (fun h => by have := (h k c).1.2; omega)]
        exact ⟨by simp [packA, consL, nf], rfl⟩
      · refine br_false (decide_eq_false (c2)) ?_
        conv => whnf
        exact ⟨k + 1, ⟨c, fun i hi => by (by_cases e : i = k; (rw [e]; exact ⟨by omega, by omega⟩); exact hrk i (by omega))⟩, (by show 5 - (k + 1) < 5 - k; omega), (le_st (le_r rfl) (leE_i rfl (inc_id c h5) (leE_eq rfl (bnd_nf _ (nf_encR _)) (leE_ptr rfl rfl (leE_ptr rfl rfl (leE_ptr rfl rfl (leE_ptr rfl rfl (leE_b rfl rfl (leE_ptr rfl rfl trivial)))))))) (leO_box (lt_r rfl) rfl (LeA.refl _) (bnd_nf _ (nf_encPol _)) (leO_box (lt_r rfl) rfl (LeA.refl _) (bnd_nf _ (nf_encStt _)) (leO_box (lt_r rfl) rfl (LeA.refl _) (bnd_nf _ (nf_encR _)) (leO_box (lt_r rfl) rfl (LeA.refl _) (bnd_nf _ (nf_encR _)) (leO_box (lt_r rfl) rfl (LeA.refl _) (bnd_nf _ (nf_encR _)) trivial))))) gl0n)⟩
  · refine br_false (decide_eq_false ((by omega : ¬ ((k : Int) < 5)))) ?_
    conv => whnf
    have hk5 : k = 5 := by omega
    subst hk5
    refine loop_at mixed (fun (k : Nat) => ([(36, I k), (35, I s.loans.length), (34, encL encLn 46 s.loans), (3, .ptr 0 []), (4, .ptr 1 []), (5, .ptr 2 []), (6, .ptr 3 []), (7, B false), (8, .ptr 4 [])], [(0, .box (encPol p)), (1, .box (encStt s)), (2, .box (encR rt)), (3, .box (encR (fun _ => 0))), (4, .box (encR (Sm (s.loans.take k))))], 5)) (fun k => k ≤ s.loans.length ∧ ∀ i, i < 5 → in64 (Sm (s.loans.take k) i)) (fun k => s.loans.length - k) 0 ⟨Nat.zero_le _, fun i hi => (by show in64 0; decide)⟩ (le_st (le_r rfl) (leE_i rfl rfl (leE_i rfl rfl (leE_eq rfl (bnd_nf _ (nfL_Ln _ _)) (leE_ptr rfl rfl (leE_ptr rfl rfl (leE_ptr rfl rfl (leE_ptr rfl rfl (leE_b rfl rfl (leE_ptr rfl rfl trivial))))))))) (leO_box (lt_r rfl) rfl (LeA.refl _) (bnd_nf _ (nf_encPol _)) (leO_box (lt_r rfl) rfl (LeA.refl _) (bnd_nf _ (nf_encStt _)) (leO_box (lt_r rfl) rfl (LeA.refl _) (bnd_nf _ (nf_encR _)) (leO_box (lt_r rfl) rfl (LeA.refl _) (bnd_nf _ (nf_encR _)) (leO_box (lt_r rfl) rfl (LeA.refl _ ) (bnd_nf _ ( nf_encR _)) trivial))))) gl0n) ?_
    rintro k ⟨hk, hik⟩
    conv => whnf
    by_cases c : k < s.loans.length
    · refine br_true (decide_eq_true ((by omega : (k : Int) < s.loans.length))) ?_
      conv => whnf
      have hg : chk p = (0, 0) := hgs.resolve_right (fun e => by rw [e] at c; exact absurd c (Nat.not_lt_zero _))
      have hpl := hs.at_ c
      have hlr : rng (encLn (at_ s.loans k)) := rng_at hsr.2.1 c
      refine ⟨by omega, ?_⟩
      conv => whnf
      refine call_x2 (class_x p (at_ s.loans k) hp hg hlr (by omega)) (LeL.refl _) ?_
      rintro _ - rfl
      conv => whnf
      have cr := cls_rng (at_ s.loans k)
      by_cases c5 : clsOf (at_ s.loans k) ≥ 5
      · refine br_true (decide_eq_true (c5)) ?_
        conv => whnf
        have es : ∀ i, i < 5 → Sm (s.loans.take (k + 1)) i = Sm (s.loans.take k) i := fun i hi => Sm_no c (by omega)
        exact ⟨k + 1, ⟨c, fun i hi => by rw [es i hi]; exact hik i hi⟩, (by show s.loans.length - (k + 1) < s.loans.length - k; omega), (le_st (le_r rfl) (leE_i rfl (inc_id c hn) (leE_i rfl rfl (leE_eq rfl (bnd_nf _ (nfL_Ln _ _)) (leE_ptr rfl rfl (leE_ptr rfl rfl (leE_ptr rfl rfl (leE_ptr rfl rfl (leE_b rfl rfl (leE_ptr rfl rfl trivial))))))))) (leO_box (lt_r rfl) rfl (LeA.refl _) (bnd_nf _ (nf_encPol _)) (leO_box (lt_r rfl) rfl (LeA.refl _) (bnd_nf _ (nf_encStt _)) (leO_box (lt_r rfl) rfl (LeA.refl _) (bnd_nf _ (nf_encR _)) (leO_box (lt_r rfl) rfl (LeA.refl _) (bnd_nf _ (nf_encR _)) (leO_box (lt_r rfl) rfl (LeA.arr (fun i hi => LeA.of_eq (congrArg (fun n => I n) (es i hi).symm)) ) (bnd_nf _ ( nf_encR _)) trivial))))) gl0n)⟩
      · refine br_false (decide_eq_false (c5)) ?_
        conv => whnf
        obtain ⟨c', hc'⟩ : ∃ c' : Nat, clsOf (at_ s.loans k) = (c' : Int) := ⟨(clsOf (at_ s.loans k)).toNat, by omega⟩
        rw [hc']
        refine ⟨by omega, ?_⟩
        conv => whnf
        refine call_x2 (look_x p (at_ s.loans k) hp hg hlr (by omega)) (LeL.refl _) ?_
        rintro _ - rfl
        conv => whnf
        refine call_x2 (exposure_x (at_ s.loans k)) (LeL.refl _) ?_
        rintro _ - rfl
        conv => whnf
        have hex := expo_rng (at_ s.loans k)
        have hic := hik c' (by omega)
        have hy := Sm_yes c hc'
        refine call_x2 (add_x (Sm (s.loans.take k) c') (expo (at_ s.loans k)) hic hex.2) (LeL.refl _) ?_
        rintro _ - rfl
        by_cases h : in64 (Sm (s.loans.take k) c' + expo (at_ s.loans k))
        · rw [sumV_yes h]
          conv => whnf
          refine ⟨by omega, ?_⟩
          conv => whnf
          exact ⟨k + 1, ⟨c, fun i hi => by (by_cases e : i = c'; (rw [e, hy]; exact h); (rw [Sm_no c (by omega)]; exact hik i hi))⟩, (by show s.loans.length - (k + 1) < s.loans.length - k; omega), (le_st (le_r rfl) (leE_i rfl (inc_id c hn) (leE_i rfl rfl (leE_eq rfl (bnd_nf _ (nfL_Ln _ _)) (leE_ptr rfl rfl (leE_ptr rfl rfl (leE_ptr rfl rfl (leE_ptr rfl rfl (leE_b rfl rfl (leE_ptr rfl rfl trivial))))))))) (leO_box (lt_r rfl) rfl (LeA.refl _) (bnd_nf _ (nf_encPol _)) (leO_box (lt_r rfl) rfl (LeA.refl _) (bnd_nf _ (nf_encStt _)) (leO_box (lt_r rfl) rfl (LeA.refl _) (bnd_nf _ (nf_encR _)) (leO_box (lt_r rfl) rfl (LeA.refl _) (bnd_nf _ (nf_encR _)) (leO_box (lt_r rfl) rfl (leA_sum c hc' rfl ) (bnd_nf _ ( nf_encR _)) trivial))))) gl0n)⟩
        · rw [sumV_no h]
          conv => whnf
          refine fin_e ?_
          conv => whnf
          have hle := Sm_le s.loans c' (k + 1) (by omega)
          have h0 := Sm_0 s.loans c' k
          rw [alw_no (fun hh => by have := (hh c' (by omega)).2; unfold in64 at this h hic; omega)]
          exact ⟨by simp [packA, consL, nf], rfl⟩
    · refine br_false (decide_eq_false ((by omega : ¬ ((k : Int) < s.loans.length)))) ?_
      conv => whnf
      have hk2 : s.loans.take k = s.loans := List.take_of_length_le (by omega)
      rw [hk2] at hik ⊢
      have hok : okA s.loans rt := fun i hi => ⟨hrk i hi, hik i hi⟩
      refine loop_at mixed (fun (c : Nat) => ([(64, I c), (63, encR (Sm s.loans)), (3, .ptr 0 []), (4, .ptr 1 []), (5, .ptr 2 []), (6, .ptr 3 []), (7, B false), (8, .ptr 4 []), (16, .ptr 5 [])], [(0, .box (encPol p)), (1, .box (encStt s)), (2, .box (encR rt)), (3, .box (encR (fun _ => 0))), (4, .box (encR (Sm s.loans))), (5, .box (encR (outF s.loans rt c)))], 6)) (fun c => c ≤ 5) (fun c => 5 - c) 0 (Nat.zero_le _) (le_st (le_r rfl) (leE_i rfl rfl (leE_eq rfl (bnd_nf _ (nf_encR _)) (leE_ptr rfl rfl (leE_ptr rfl rfl (leE_ptr rfl rfl (leE_ptr rfl rfl (leE_b rfl rfl (leE_ptr rfl rfl (leE_ptr rfl rfl trivial))))))))) (leO_box (lt_r rfl) rfl (LeA.refl _) (bnd_nf _ (nf_encPol _)) (leO_box (lt_r rfl) rfl (LeA.refl _) (bnd_nf _ (nf_encStt _)) (leO_box (lt_r rfl) rfl (LeA.refl _) (bnd_nf _ (nf_encR _)) (leO_box (lt_r rfl) rfl (LeA.refl _) (bnd_nf _ (nf_encR _)) (leO_box (lt_r rfl) rfl (LeA.refl _) (bnd_nf _ (nf_encR _)) (leO_box (lt_r rfl) rfl (LeA.refl _ ) (bnd_nf _ ( nf_encR _)) trivial)))))) gl0n) ?_
      intro c hc
      conv => whnf
      by_cases c5 : c < 5
      · refine br_true (decide_eq_true ((by omega : (c : Int) < 5))) ?_
        conv => whnf
        have h1 := hrk c c5
        have h2 := hik c c5
        have h0 : 0 ≤ Sm s.loans c := by have := Sm_0 s.loans c s.loans.length; rw [List.take_length] at this; exact this
        refine ⟨by omega, ?_⟩
        conv => whnf
        refine ⟨by omega, ?_⟩
        conv => whnf
        refine call_x2 (bps_x (Sm s.loans c) (rt c) h2 (by unfold in64; unfold rtOk at h1; omega)) (LeL.refl _) ?_
        rw [mdV_ok h0 h2 h1.1 h1.2]
        rintro _ - rfl
        conv => whnf
        refine ⟨by omega, ?_⟩
        conv => whnf
        exact ⟨c + 1, c5, (by show 5 - (c + 1) < 5 - c; omega), (le_st (le_r rfl) (leE_i rfl (inc_id c5 h5) (leE_eq rfl (bnd_nf _ (nf_encR _)) (leE_ptr rfl rfl (leE_ptr rfl rfl (leE_ptr rfl rfl (leE_ptr rfl rfl (leE_b rfl rfl (leE_ptr rfl rfl (leE_ptr rfl rfl trivial))))))))) (leO_box (lt_r rfl) rfl (LeA.refl _) (bnd_nf _ (nf_encPol _)) (leO_box (lt_r rfl) rfl (LeA.refl _) (bnd_nf _ (nf_encStt _)) (leO_box (lt_r rfl) rfl (LeA.refl _) (bnd_nf _ (nf_encR _)) (leO_box (lt_r rfl) rfl (LeA.refl _) (bnd_nf _ (nf_encR _)) (leO_box (lt_r rfl) rfl (LeA.refl _) (bnd_nf _ (nf_encR _)) (leO_box (lt_r rfl) rfl (leA_out rfl ) (bnd_nf _ ( nf_encR _)) trivial)))))) gl0n)⟩
      · refine br_false (decide_eq_false ((by omega : ¬ ((c : Int) < 5)))) ?_
        conv => whnf
        have hc5 : c = 5 := by omega
        subst hc5
        refine fin_r (alwV s.loans rt) (nf_alwV _ _) rfl ?_
        conv => whnf
        exact (alw_yes hok).le
end Go.Proofs.YtjkmmcbfcglkdaaGreatDoor
namespace Go.Proofs.YtjkmmcbfcglkdaaGreatDoor
open Go Ar
set_option linter.unusedVariables false
set_option autoImplicit false
set_option maxHeartbeats 4000000
set_option maxRecDepth 100000
theorem of_R {a : AV} (h : Of (.arr 5 1 (.int .i64)) a) : ∃ rt : Nat → Int, LeA a (encR rt) := by
  obtain ⟨f, rfl, hf⟩ := h
  have g : ∀ i, ∃ n : Int, i < 5 → f i = I n := fun i => by
    by_cases hi : i < 5
    · obtain ⟨n, hn, _⟩ := of_i64 (hf i hi)
      exact ⟨n, fun _ => hn⟩
    · exact ⟨0, fun h => absurd h hi⟩
  exact ⟨fun i => (g i).choose, LeA.arr fun i hi => LeA.of_eq ((g i).choose_spec hi)⟩
theorem r21_Allowance_x (p : Pol) (s : Stt) (b : Nat) (rt : Nat → Int) (hp : hasI p) (hs : okS b s) (hsr : rng (encStt s)) (hgs : chk p = (0, 0) ∨ s.loans = []) : PureX Tryz.prog gl0 r21_Allowance [encPol p, encStt s, encR rt] (fun r => r = alwV s.loans rt) := by
  refine pure_fnX mixed fn_r21_Allowance nt_r21_Allowance hc_r21_Allowance (by simp) gl0n (by simp [nf]) ?_
  conv => whnf
  have hsn := hs.n
  have hn : (s.loans.length : Int) < 9223372036854775808 := by omega
  have h5 : ((5 : Nat) : Int) < 9223372036854775808 := by decide
  refine loop_at mixed (fun (c : Nat) => ([(9, I c), (3, .ptr 0 []), (4, .ptr 1 []), (5, .ptr 2 []), (6, .ptr 3 []), (7, B false), (8, .ptr 4 [])], [(0, .box (encPol p)), (1, .box (encStt s)), (2, .box (encR rt)), (3, .box (encR (fun _ => 0))), (4, .box (encR (outF s.loans rt c)))], 5)) (fun c => c ≤ 5 ∧ ∀ i, i < c → rtOk (rt i) ∧ in64 (Sm s.loans i)) (fun c => 5 - c) 0 ⟨Nat.zero_le _, fun i hi => absurd hi (Nat.not_lt_zero i)⟩ (le_st (le_r rfl) (leE_i rfl rfl (leE_ptr rfl rfl (leE_ptr rfl rfl (leE_ptr rfl rfl (leE_ptr rfl rfl (leE_b rfl rfl (leE_ptr rfl rfl trivial))))))) (leO_box (lt_r rfl) rfl (LeA.refl _) (bnd_nf _ (nf_encPol _)) (leO_box (lt_r rfl) rfl (LeA.refl _) (bnd_nf _ (nf_encStt _)) (leO_box (lt_r rfl) rfl (LeA.refl _) (bnd_nf _ (nf_encR _)) (leO_box (lt_r rfl) rfl (LeA.refl _) (bnd_nf _ (nf_encR _)) (leO_box (lt_r rfl) rfl (LeA.refl _ ) (bnd_nf _ ( nf_encR _)) trivial))))) gl0n) ?_
  rintro c ⟨hc, hok⟩
  conv => whnf
  by_cases c5 : c < 5
  · refine br_true (decide_eq_true ((by omega : (c : Int) < 5))) ?_
    conv => whnf
    refine ⟨by omega, ?_⟩
    conv => whnf
    by_cases c1 : rt c < 0
    · refine br_true (decide_eq_true (c1)) ?_
      conv => whnf
      refine fin_e ?_
      conv => whnf
      rw [alw_no (fun h => by have := (h c c5).1.1; omega)]
      exact ⟨by simp [packA, consL, nf], rfl⟩
    · refine br_false (decide_eq_false (c1)) ?_
      conv => whnf
      refine ⟨by omega, ?_⟩
      conv => whnf
      by_cases c2 : rt c > 10000
      · refine br_true (decide_eq_true (c2)) ?_
        conv => whnf
        refine fin_e ?_
        conv => whnf
        rw [alw_no (fun h => by have := (h c c5).1.2; omega)]
        exact ⟨by simp [packA, consL, nf], rfl⟩
      · refine br_false (decide_eq_false (c2)) ?_
        conv => whnf
        refine loop_at mixed (fun (k : Nat) => ([(11, I k), (10, encT (some 5) I 1 (clsL (s.loans.take k) c)), (9, I c), (3, .ptr 0 []), (4, .ptr 1 []), (5, .ptr 2 []), (6, .ptr 3 []), (7, B false), (8, .ptr 4 [])], [(0, .box (encPol p)), (1, .box (encStt s)), (2, .box (encR rt)), (3, .box (encR (fun _ => 0))), (4, .box (encR (outF s.loans rt c))), (5, .room (clsL (s.loans.take k) c).length 1 2)], 6)) (fun k => k ≤ s.loans.length) (fun k => s.loans.length - k) 0 (Nat.zero_le _) ((le_nil 10 1 2 (fun i => I (at_ ([] : List Int) i)) rfl).trans (le_st (le_r rfl) (leE_i rfl rfl (leE_eq rfl (bnd_encT (fun x => trivial) (lt_r rfl)) (leE_i rfl rfl (leE_ptr rfl rfl (leE_ptr rfl rfl (leE_ptr rfl rfl (leE_ptr rfl rfl (leE_b rfl rfl (leE_ptr rfl rfl trivial))))))))) (leO_box (lt_r rfl) rfl (LeA.refl _) (bnd_nf _ (nf_encPol _)) (leO_box (lt_r rfl) rfl (LeA.refl _) (bnd_nf _ (nf_encStt _)) (leO_box (lt_r rfl) rfl (LeA.refl _) (bnd_nf _ (nf_encR _)) (leO_box (lt_r rfl) rfl (LeA.refl _) (bnd_nf _ (nf_encR _)) (leO_box (lt_r rfl) rfl (LeA.refl _) (bnd_nf _ (nf_encR _)) (leO_room (lt_r rfl) rfl trivial)))))) gl0n)) ?_
        intro k hk
        conv => whnf
        have hl := clsL_len (s.loans.take k) c
        rw [List.length_take] at hl
        by_cases kk : k < s.loans.length
        · refine br_true (decide_eq_true ((by omega : (k : Int) < s.loans.length))) ?_
          conv => whnf
          have hg : chk p = (0, 0) := hgs.resolve_right (fun e => by rw [e] at kk; exact absurd kk (Nat.not_lt_zero _))
          have hpl := hs.at_ kk
          have hlr : rng (encLn (at_ s.loans k)) := rng_at hsr.2.1 kk
          refine ⟨by omega, ?_⟩
          conv => whnf
          refine call_x2 (r21_Class_x p (at_ s.loans k) hp hg hlr (by omega)) (LeL.refl _) ?_
          rintro _ - rfl
          conv => whnf
          by_cases h : clsOf (at_ s.loans k) = (c : Int)
          · refine br_true (decide_eq_true (h)) ?_
            conv => whnf
            refine ⟨by omega, ?_⟩
            conv => whnf
            refine call_x2 (r21_Exposure_x p (at_ s.loans k) hp hg hlr (by omega)) (LeL.refl _) ?_
            rintro _ - rfl
            conv => whnf
            repeat' first
              | (refine And.intro (by first | rfl | omega | (show (_ + 1) * 8 ≤ _; omega)) ?_; (conv => whnf))
            refine ⟨k + 1, kk, by show s.loans.length - (k + 1) < s.loans.length - k; omega, ?_⟩
            dsimp only
            rw [clsL_yes kk h]
            exact (le_st (le_r rfl) (leE_i rfl (inc_id kk hn) (leE_le rfl (leA_snoc (enc := I) (by exact LeA.refl _)).le (bnd_encT nf_I (lt_r rfl)) (leE_i rfl rfl (leE_ptr rfl rfl (leE_ptr rfl rfl (leE_ptr rfl rfl (leE_ptr rfl rfl (leE_b rfl rfl (leE_ptr rfl rfl trivial))))))))) (leO_box (lt_r rfl) rfl (LeA.refl _) (bnd_nf _ (nf_encPol _)) (leO_box (lt_r rfl) rfl (LeA.refl _) (bnd_nf _ (nf_encStt _)) (leO_box (lt_r rfl) rfl (LeA.refl _) (bnd_nf _ (nf_encR _)) (leO_box (lt_r rfl) rfl (LeA.refl _) (bnd_nf _ (nf_encR _)) (leO_box (lt_r rfl) rfl (LeA.refl _) (bnd_nf _ (nf_encR _)) (leO_room (lt_r rfl) (by (simp; rfl)) trivial)))))) gl0n)
          · refine br_false (decide_eq_false (h)) ?_
            conv => whnf
            refine ⟨k + 1, kk, by show s.loans.length - (k + 1) < s.loans.length - k; omega, ?_⟩
            dsimp only
            rw [clsL_no kk h]
            exact (le_st (le_r rfl) (leE_i rfl (inc_id kk hn) (leE_eq rfl (bnd_encT (fun x => trivial) (lt_r rfl)) (leE_i rfl rfl (leE_ptr rfl rfl (leE_ptr rfl rfl (leE_ptr rfl rfl (leE_ptr rfl rfl (leE_b rfl rfl (leE_ptr rfl rfl trivial))))))))) (leO_box (lt_r rfl) rfl (LeA.refl _) (bnd_nf _ (nf_encPol _)) (leO_box (lt_r rfl) rfl (LeA.refl _) (bnd_nf _ (nf_encStt _)) (leO_box (lt_r rfl) rfl (LeA.refl _) (bnd_nf _ (nf_encR _)) (leO_box (lt_r rfl) rfl (LeA.refl _) (bnd_nf _ (nf_encR _)) (leO_box (lt_r rfl) rfl (LeA.refl _) (bnd_nf _ (nf_encR _)) (leO_room (lt_r rfl) rfl trivial)))))) gl0n)
        · refine br_false (decide_eq_false ((by omega : ¬ ((k : Int) < s.loans.length)))) ?_
          conv => whnf
          have hk2 : s.loans.take k = s.loans := List.take_of_length_le (by omega)
          rw [hk2] at hl ⊢
          refine call_pure (r1_Sum_x (clsL s.loans c) (fun x hx => (clsL_in s.loans c x hx).2) (by omega)) ⟨leA_drop.le, trivial⟩ ?_
          have h0 : 0 ≤ Sm s.loans c := by have := Sm_0 s.loans c s.loans.length; rw [List.take_length] at this; exact this
          by_cases h : in64 (Sm s.loans c)
          · rw [show (clsL s.loans c).sum = Sm s.loans c from rfl, sumV_yes h]
            conv => whnf
            refine ⟨by omega, ?_⟩
            conv => whnf
            refine call_x2 (r1_Bps_x (Sm s.loans c) (rt c) h (by unfold in64; omega)) (LeL.refl _) ?_
            rw [mdV_ok h0 h (by omega) (by omega)]
            rintro _ - rfl
            conv => whnf
            refine ⟨by omega, ?_⟩
            conv => whnf
            exact ⟨c + 1, ⟨c5, fun i hi => by (by_cases e : i = c; (rw [e]; exact ⟨⟨by omega, by omega⟩, h⟩); exact hok i (by omega))⟩, by show 5 - (c + 1) < 5 - c; omega, (le_st (le_r rfl) (leE_i rfl (inc_id c5 h5) (leE_ptr rfl rfl (leE_ptr rfl rfl (leE_ptr rfl rfl (leE_ptr rfl rfl (leE_b rfl rfl (leE_ptr rfl rfl trivial))))))) (leO_box (lt_r rfl) rfl (LeA.refl _) (bnd_nf _ (nf_encPol _)) (leO_box (lt_r rfl) rfl (LeA.refl _) (bnd_nf _ (nf_encStt _)) (leO_box (lt_r rfl) rfl (LeA.refl _) (bnd_nf _ (nf_encR _)) (leO_box (lt_r rfl) rfl (LeA.refl _) (bnd_nf _ (nf_encR _)) (leO_box (lt_r rfl) rfl (leA_out rfl ) (bnd_nf _ ( nf_encR _)) trivial))))) gl0n)⟩
          · rw [show (clsL s.loans c).sum = Sm s.loans c from rfl, sumV_no h]
            conv => whnf
            refine fin_e ?_
            conv => whnf
            rw [alw_no (fun hh => h (hh c c5).2)]
            exact ⟨by simp [packA, consL, nf], rfl⟩
  · refine br_false (decide_eq_false ((by omega : ¬ ((c : Int) < 5)))) ?_
    conv => whnf
    have hc5 : c = 5 := by omega
    subst hc5
    refine fin_r (alwV s.loans rt) (nf_alwV _ _) rfl ?_
    conv => whnf
    exact (alw_yes (fun i hi => hok i hi)).le
theorem law11_x (p : Pol) (ops : List Opn) (rt : Nat → Int) (hpr : rng (encPol p)) (hw : p.holidays.length * 8 ≤ 140737488351232) (hop : rng (encL encOpn 7 ops)) : Pure Tryz.prog gl0 l21_ReportAllowances [encPol p, encL encOpn 7 ops, encR rt] (B true) := by
  refine pure_fn mixed fn_l21_ReportAllowances nt_l21_ReportAllowances hc_l21_ReportAllowances (by simp) gl0n (by simp [nf]) (by simp [nf]) ?_
  conv => whnf
  have hp := hasI_of hpr
  refine call_x2 (l21_behind_s p ops 200 hpr hop) (LeL.refl _) ?_
  rintro _ - ⟨s, rfl, hs, hsr, hck⟩
  conv => whnf
  refine call_pure (l21_twin_s s hs) (LeL.refl _) ?_
  conv => whnf
  refine call_pure (l21_own_s p hw) (LeL.refl _) ?_
  conv => whnf
  refine call_x2 (allowance_x p s _ rt hp hs hsr hck) (LeL.refl _) ?_
  rintro _ - rfl
  have ha : ∃ f b, alwV s.loans rt = tup2 (encR f) (B b) := by
    unfold alwV
    split
    · exact ⟨_, _, rfl⟩
    · exact ⟨_, _, rfl⟩
  obtain ⟨f, b, ha⟩ := ha
  cases b
  all_goals
    rw [ha]
    (conv => whnf)
    refine call_x2 (r21_Allowance_x p s _ rt hp hs hsr hck) (LeL.refl _) ?_
    rintro _ - rfl
    rw [ha]
    (conv => whnf)
    refine br_true (congrArg (eqSn false) (eqS_refl _ _)) ?_
    (conv => whnf)
    refine call_pure (l21_still_s s hs) (LeL.refl _) ?_
    (conv => whnf)
    refine call_pure (l21_sameDays_s p.holidays hp) (LeL.refl _) ?_
    (conv => whnf)
    exact Le.refl _
end Go.Proofs.YtjkmmcbfcglkdaaGreatDoor
