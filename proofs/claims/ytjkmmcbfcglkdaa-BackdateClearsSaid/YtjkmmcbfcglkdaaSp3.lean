/- What the program's Upto computes. -/
import Derived.Test.YtjkmmcbfcglkdaaSp2
namespace Go.Proofs.Ytjkmmcbfcglkdaa
open Go Ar
set_option linter.unusedVariables false
set_option autoImplicit false

/-- The sum of one account's changes up to a day. -/
def sumU (d : Int) (xs : List Mov) (a : Nat) : Int := (xs.map fun m => if m.day ≤ d then m.ch a else 0).sum

def okU (d : Int) (xs : List Mov) : Prop := ∀ a, a < 12 → in64 (sumU d xs a)

def zeroB : Nat → Int := fun _ => 0

def upV (b : Nat → Int) (ok : Bool) : AV := .tup (.cons (encB b) (.cons (B ok) .nil))

theorem sumU_snoc (d : Int) (xs : List Mov) (m : Mov) (a : Nat) : sumU d (xs ++ [m]) a = sumU d xs a + if m.day ≤ d then m.ch a else 0 := by simp [sumU]

def OkM (m : Mov) : Prop := in64 m.day ∧ ∀ a, a < 12 → in64 (m.ch a)

theorem sumU_bound (d : Int) (xs : List Mov) (h : ∀ m ∈ xs, OkM m) (a : Nat) (ha : a < 12) : -9223372036854775808 * (xs.length : Int) ≤ sumU d xs a ∧ sumU d xs a ≤ 9223372036854775807 * (xs.length : Int) := by
  induction xs with
  | nil => simp [sumU]
  | cons m r ih =>
    have ih := ih (fun x hx => h x (List.mem_cons_of_mem _ hx))
    obtain ⟨h1, h2⟩ := (h m (List.mem_cons_self ..)).2 a ha
    simp only [sumU, List.map_cons, List.sum_cons, List.length_cons] at *
    split <;> omega

theorem upto_spec (xs : List Mov) (d : Int) (hd : in64 d) (h : ∀ m ∈ xs, OkM m) (hn : xs.length ≤ 100000) :
    (okU d xs → Pure Try.prog gl0 10 [encL encM 14 xs, I d] (upV (sumU d xs) true)) ∧ (¬ okU d xs → Pure Try.prog gl0 10 [encL encM 14 xs, I d] (upV zeroB false)) := by
  suffices ∀ (r : AV), nf r → (okU d xs → r = upV (sumU d xs) true) → (¬ okU d xs → r = upV zeroB false) → Pure Try.prog gl0 10 [encL encM 14 xs, I d] r by
    refine ⟨fun hk => this _ ⟨nf_encB _, trivial, trivial⟩ (fun _ => rfl) (fun h => absurd hk h), fun hk => this _ ⟨nf_encB _, trivial, trivial⟩ (fun h => absurd h hk) (fun _ => rfl)⟩
  intro r hr hr1 hr2
  refine pure_fn mixed Try.func10 Try.ntmps10 hc10 (by simp) gl0n (by simp [nf_encL nf_encM, nf]) hr ?_
  conv => whnf
  refine loop_at mixed (fun (k : Nat) => ([(18, I k), (17, I xs.length), (16, encL encM 14 xs), (1, I d), (6, .ptr 1 []), (4, .ptr 0 []), (5, B false)],
    [(0, .box (encB zeroB)), (1, .box (.arr 12 2 fun a => W (sumU d (xs.take k) a)))], 2)) (fun k => k ≤ xs.length) (fun k => xs.length - k) 0 (Nat.zero_le _) ?_ ?_
  · refine le_st (le_r rfl) (leE_i rfl rfl (leE_i rfl rfl (leE_eq rfl (bnd_nf _ (nf_encL nf_encM)) (leE_i rfl rfl (leE_eq rfl (lt_r rfl) (leE_eq rfl (lt_r rfl) (leE_b rfl rfl trivial)))))))
      (leO_box (lt_r rfl) rfl (LeA.of_eq rfl) (bnd_nf _ (nf_encB _)) (leO_box (lt_r rfl) rfl (LeA.of_eq rfl) (bnd_nf _ (fun i => ⟨trivial, trivial, trivial⟩)) trivial)) gl0n
  · intro k hk
    conv => whnf
    by_cases c : k < xs.length
    · rw [decide_eq_true (by omega : (k : Int) < xs.length)]
      conv => whnf
      refine ⟨by omega, ?_⟩
      conv => whnf
      have hm := h _ (at_mem c)
      by_cases c2 : (at_ xs k).day > d
      · refine br_true (decide_eq_true c2) ?_
        conv => whnf
        refine ⟨k + 1, c, by omega, ?_⟩
        refine le_st (le_r rfl) (leE_i rfl ?_ (leE_i rfl rfl (leE_eq rfl (bnd_nf _ (nf_encL nf_encM)) (leE_i rfl rfl (leE_eq rfl (lt_r rfl) (leE_eq rfl (lt_r rfl) (leE_b rfl rfl trivial)))))))
          (leO_box (lt_r rfl) rfl (LeA.of_eq rfl) (bnd_nf _ (nf_encB _)) (leO_box (lt_r rfl) rfl ?_ (bnd_nf _ (fun i => ⟨trivial, trivial, trivial⟩)) trivial)) gl0n
        · show IntKind.i64.wrap (k + 1) = _
          rw [wrap_id (by unfold in64; omega)]; omega
        · refine LeA.arr fun i hi => LeA.of_eq ?_
          rw [take_at c, sumU_snoc, if_neg (by omega), Int.add_zero]
      · refine br_false (decide_eq_false c2) ?_
        conv => whnf
        refine loop_at mixed (fun (j : Nat) => ([(29, I j), (28, .arr 12 1 fun i => I ((at_ xs k).ch i)), (18, I k), (17, I xs.length), (16, encL encM 14 xs), (1, I d), (6, .ptr 1 []), (4, .ptr 0 []), (5, B false)],
          [(0, .box (encB zeroB)), (1, .box (.arr 12 2 fun a => W (if a < j then sumU d (xs.take (k + 1)) a else sumU d (xs.take k) a)))], 2)) (fun j => j ≤ 12) (fun j => 12 - j) 0 (Nat.zero_le _) ?_ ?_
        · refine le_st (le_r rfl) (leE_i rfl rfl (leE_eq rfl (bnd_nf _ fun _ => trivial) (leE_i rfl rfl (leE_i rfl rfl (leE_eq rfl (bnd_nf _ (nf_encL nf_encM)) (leE_i rfl rfl (leE_eq rfl (lt_r rfl) (leE_eq rfl (lt_r rfl) (leE_b rfl rfl trivial)))))))))
            (leO_box (lt_r rfl) rfl (LeA.of_eq rfl) (bnd_nf _ (nf_encB _)) (leO_box (lt_r rfl) rfl (LeA.of_eq rfl) (bnd_nf _ (fun i => ⟨trivial, trivial, trivial⟩)) trivial)) gl0n
        · intro j hj
          conv => whnf
          by_cases c3 : j < 12
          · rw [decide_eq_true (by omega : (j : Int) < 12)]
            conv => whnf
            refine ⟨by omega, ?_⟩
            conv => whnf
            refine ⟨by omega, ?_⟩
            conv => whnf
            refine call_pure (plus_spec (sumU d (xs.take k) j) ((at_ xs k).ch j) (hm.2 j c3)) ⟨?_, Le.refl _, trivial⟩ ?_
            · refine Le.of_eq ?_
              show W (if j < j then sumU d (xs.take (k + 1)) j else sumU d (xs.take k) j) = _
              rw [if_neg (Nat.lt_irrefl j)]
            conv => whnf
            refine ⟨by omega, ?_⟩
            conv => whnf
            refine ⟨j + 1, c3, by omega, ?_⟩
            refine le_st (le_r rfl) (leE_i rfl ?_ (leE_eq rfl (bnd_nf _ fun _ => trivial) (leE_i rfl rfl (leE_i rfl rfl (leE_eq rfl (bnd_nf _ (nf_encL nf_encM)) (leE_i rfl rfl (leE_eq rfl (lt_r rfl) (leE_eq rfl (lt_r rfl) (leE_b rfl rfl trivial)))))))))
              (leO_box (lt_r rfl) rfl (LeA.of_eq rfl) (bnd_nf _ (nf_encB _)) (leO_box (lt_r rfl) rfl ?_ (bnd_nf _ (fun i => ⟨trivial, trivial, trivial⟩)) trivial)) gl0n
            · show IntKind.i64.wrap (j + 1) = _
              rw [wrap_id (by unfold in64; omega)]; omega
            · refine LeA.arr fun i hi => LeA.of_eq ?_
              show selA (i = j) (W (sumU d (xs.take k) j + (at_ xs k).ch j)) (W (if i < j then sumU d (xs.take (k + 1)) i else sumU d (xs.take k) i)) = _
              rw [selA_eq]
              rw [take_at c]
              by_cases e : i = j
              · subst e
                rw [if_pos rfl, if_pos (Nat.lt_succ_self i), sumU_snoc, if_pos (by omega)]
              · rw [if_neg e]
                by_cases l : i < j
                · rw [if_pos l, if_pos (by omega)]
                · rw [if_neg l, if_neg (by omega)]
          · obtain rfl : j = 12 := by omega
            rw [decide_eq_false (by omega : ¬ (((12 : Nat) : Int) < 12))]
            conv => whnf
            refine ⟨k + 1, c, by omega, ?_⟩
            refine le_st (le_r rfl) (leE_i rfl ?_ (leE_i rfl rfl (leE_eq rfl (bnd_nf _ (nf_encL nf_encM)) (leE_i rfl rfl (leE_eq rfl (lt_r rfl) (leE_eq rfl (lt_r rfl) (leE_b rfl rfl trivial)))))))
              (leO_box (lt_r rfl) rfl (LeA.of_eq rfl) (bnd_nf _ (nf_encB _)) (leO_box (lt_r rfl) rfl ?_ (bnd_nf _ (fun i => ⟨trivial, trivial, trivial⟩)) trivial)) gl0n
            · show IntKind.i64.wrap (k + 1) = _
              rw [wrap_id (by unfold in64; omega)]; omega
            · refine LeA.arr fun i hi => LeA.of_eq ?_
              show W (if i < 12 then _ else _) = _
              rw [if_pos hi]
    · obtain rfl : k = xs.length := by omega
      rw [decide_eq_false (by omega : ¬ ((xs.length : Int) < xs.length))]
      conv => whnf
      rw [List.take_length]
      refine loop_at mixed (fun (j : Nat) => ([(43, I j), (42, .arr 12 2 fun a => W (sumU d xs a)), (11, .ptr 2 []), (4, .ptr 0 []), (5, B false)],
        [(0, .box (encB zeroB)), (2, .box (encB fun a => if a < j then sumU d xs a else 0))], 3)) (fun j => j ≤ 12 ∧ ∀ a, a < j → in64 (sumU d xs a)) (fun j => 12 - j) 0 ⟨Nat.zero_le _, fun a ha => absurd ha (Nat.not_lt_zero a)⟩ ?_ ?_
      · exact le_st (le_r rfl) (leE_i rfl rfl (leE_eq rfl (bnd_nf _ fun _ => ⟨trivial, trivial, trivial⟩) (leE_eq rfl (lt_r rfl) (leE_eq rfl (lt_r rfl) (leE_b rfl rfl trivial)))))
          (leO_box (lt_r rfl) rfl (LeA.of_eq rfl) (bnd_nf _ (nf_encB _)) (leO_box (lt_r rfl) rfl (LeA.of_eq rfl) (bnd_nf _ (nf_encB _)) trivial)) gl0n
      · intro j ⟨hj, hin⟩
        conv => whnf
        by_cases c3 : j < 12
        · rw [decide_eq_true (by omega : (j : Int) < 12)]
          conv => whnf
          refine ⟨by omega, ?_⟩
          conv => whnf
          have hb := sumU_bound d xs h j c3
          refine call_pure (cents_spec (sumU d xs j) (by omega)) ⟨Le.refl _, trivial⟩ ?_
          conv => whnf
          by_cases c4 : in64 (sumU d xs j)
          · refine br_false (b := !decide (in64 (sumU d xs j))) (by rw [decide_eq_true c4]; rfl) ?_
            conv => whnf
            refine ⟨by omega, ?_⟩
            conv => whnf
            refine ⟨j + 1, ⟨c3, fun a ha => ?_⟩, by omega, ?_⟩
            · by_cases e : a = j
              · rw [e]; exact c4
              · exact hin a (by omega)
            refine le_st (le_r rfl) (leE_i rfl ?_ (leE_eq rfl (bnd_nf _ fun _ => ⟨trivial, trivial, trivial⟩) (leE_eq rfl (lt_r rfl) (leE_eq rfl (lt_r rfl) (leE_b rfl rfl trivial)))))
              (leO_box (lt_r rfl) rfl (LeA.of_eq rfl) (bnd_nf _ (nf_encB _)) (leO_box (lt_r rfl) rfl (LeA.st (LeA.cons (LeA.arr fun i hi => LeA.of_eq ?_) (LeA.refl _))) (bnd_nf _ (nf_encB _)) trivial)) gl0n
            · show IntKind.i64.wrap (j + 1) = _
              rw [wrap_id (by unfold in64; omega)]; omega
            · show selA (i = j) (I (IntKind.i64.wrap (sumU d xs j))) (I (if i < j then sumU d xs i else 0)) = I (if i < j + 1 then sumU d xs i else 0)
              rw [selA_eq]
              by_cases e : i = j
              · subst e
                rw [if_pos rfl, if_pos (Nat.lt_succ_self i), wrap_id c4]
              · rw [if_neg e]
                by_cases l : i < j
                · rw [if_pos l, if_pos (by omega)]
                · rw [if_neg l, if_neg (by omega)]
          · refine br_true (b := !decide (in64 (sumU d xs j))) (by rw [decide_eq_false c4]; rfl) ?_
            conv => whnf
            rw [hr2 (fun hk => c4 (hk j c3))]
            exact Le.refl _
        · obtain rfl : j = 12 := by omega
          rw [decide_eq_false (by omega : ¬ (((12 : Nat) : Int) < 12))]
          conv => whnf
          rw [hr1 hin]
          refine LeA.le (LeA.tup (LeA.cons (LeA.st (LeA.cons (LeA.arr fun i hi => LeA.of_eq ?_) (LeA.refl _))) (LeA.refl _)))
          show I (if i < 12 then _ else _) = _
          rw [if_pos hi]

end Go.Proofs.Ytjkmmcbfcglkdaa
