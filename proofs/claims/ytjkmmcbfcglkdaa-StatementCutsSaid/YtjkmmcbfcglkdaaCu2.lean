/- The law StatementCuts, as a contract. -/
import Derived.Test.YtjkmmcbfcglkdaaCu1
import Derived.Test.YtjkmmcbfcglkdaaSp5
namespace Go.Proofs.Ytjkmmcbfcglkdaa
open Go Ar
set_option linter.unusedVariables false
set_option autoImplicit false

theorem sumU_small (d : Int) (xs : List Mov) (h : smallP xs) (a : Nat) (ha : a < 12) : -1000000000000000 * (xs.length : Int) ≤ sumU d xs a ∧ sumU d xs a ≤ 1000000000000000 * (xs.length : Int) := by
  replace h := h.2
  induction xs with
  | nil => simp [sumU]
  | cons m r ih =>
    have ih := ih (fun x hx => h x (List.mem_cons_of_mem _ hx))
    obtain ⟨h1, h2⟩ := h m (List.mem_cons_self ..) a ha
    simp only [sumU, List.map_cons, List.sum_cons, List.length_cons] at *
    split <;> omega

def colW (a : Nat) (xs : List Mov) : Int := (xs.map fun m => m.ch a).sum

theorem colW_snoc (a : Nat) (xs : List Mov) (m : Mov) : colW a (xs ++ [m]) = colW a xs + m.ch a := by simp [colW]

theorem colW_small (a : Nat) (ha : a < 12) (xs : List Mov) (h : ∀ m ∈ xs, ∀ a, a < 12 → lowB (m.ch a)) : -1000000000000000 * (xs.length : Int) ≤ colW a xs ∧ colW a xs ≤ 1000000000000000 * (xs.length : Int) := by
  induction xs with
  | nil => simp [colW]
  | cons m r ih =>
    have ih := ih (fun x hx => h x (List.mem_cons_of_mem _ hx))
    obtain ⟨h1, h2⟩ := h m (List.mem_cons_self ..) a ha
    simp only [colW, List.map_cons, List.sum_cons, List.length_cons] at *
    omega

theorem cut_sum (u v : Int) (huv : u ≤ v) (xs : List Mov) (a : Nat) : sumU u xs a + colW a (win (u + 1) v xs) = sumU v xs a := by
  induction xs with
  | nil => rfl
  | cons m r ih =>
    have e : win (u + 1) v (m :: r) = (if u + 1 ≤ m.day ∧ m.day ≤ v then [m] else []) ++ win (u + 1) v r := by
      unfold win
      rw [List.filter_cons]
      by_cases h : u + 1 ≤ m.day ∧ m.day ≤ v <;> simp [h]
    have e2 : sumU u (m :: r) a = (if m.day ≤ u then m.ch a else 0) + sumU u r a := by simp [sumU]
    have e3 : sumU v (m :: r) a = (if m.day ≤ v then m.ch a else 0) + sumU v r a := by simp [sumU]
    rw [e, e2, e3, ← ih]
    unfold colW
    rw [List.map_append, List.sum_append]
    by_cases h : u + 1 ≤ m.day ∧ m.day ≤ v
    · rw [if_pos h, if_neg (by omega), if_pos h.2]; simp; omega
    · rw [if_neg h]
      by_cases h2 : m.day ≤ u
      · rw [if_pos h2, if_pos (by omega)]; simp; omega
      · rw [if_neg h2, if_neg (by omega)]; simp

/-- The movement that stands at its place among the chosen. -/
theorem win_at (u v : Int) (xs : List Mov) (k : Nat) (hk : k < xs.length) (h : u ≤ (at_ xs k).day ∧ (at_ xs k).day ≤ v) :
    (win u v (xs.take k)).length < (win u v xs).length ∧ at_ (win u v xs) (win u v (xs.take k)).length = at_ xs k := by
  have e : win u v xs = win u v (xs.take k) ++ at_ xs k :: win u v (xs.drop (k + 1)) := by
    conv => lhs; rw [← List.take_append_drop k xs]
    unfold win
    rw [List.filter_append, List.drop_eq_getElem_cons hk, List.filter_cons, ← at_lt hk, if_pos (by simpa using h)]
  rw [e]
  refine ⟨by simp, ?_⟩
  rw [at_append_right (Nat.le_refl _), Nat.sub_self]
  rfl

theorem cuts_spec (xs : List Mov) (u v : Int) (hu : in64 u) (hv : in64 v) (h : ∀ m ∈ xs, OkM m) (hn : (xs.length : Int) < 9223372036854775808) : Pure Try.prog gl0 6 [encL encM 14 xs, I u, I v] (B true) := by
  refine pure_fn mixed Try.func6 Try.ntmps6 hc6 (by simp) gl0n (by simp [nf_encL nf_encM, nf]) trivial ?_
  conv => whnf
  obtain ⟨sp1, sp2⟩ := small_spec xs hn
  by_cases hs : smallP xs
  · refine call_pure (sp1 hs) (LeL.refl _) ?_
    have hl : xs.length ≤ 1000 := hs.1
    conv => whnf
    by_cases c1 : v < u
    · rw [decide_eq_true c1]
      conv => whnf
      exact Le.refl _
    · rw [decide_eq_false c1]
      conv => whnf
      by_cases c2 : u = 9223372036854775807
      · rw [decide_eq_true c2]
        conv => whnf
        exact Le.refl _
      · rw [decide_eq_false c2]
        conv => whnf
        have hok : ∀ d, okU d xs := fun d a ha => by
          have := sumU_small d xs hs a ha
          unfold in64; omega
        refine call_pure (copied_spec xs (by omega)) (LeL.refl _) ?_
        conv => whnf
        refine ⟨⟨by omega, by rw [List.length_append]; omega⟩, by omega, ?_⟩
        conv => whnf
        refine call_pure ((upto_spec xs u hu h (by omega)).1 (hok u)) ⟨(le_prefix xs [mark] (by omega)).le, Le.refl _, trivial⟩ ?_
        conv => whnf
        refine call_pure (copied_spec xs (by omega)) (LeL.refl _) ?_
        conv => whnf
        refine ⟨⟨by omega, by rw [List.length_append]; omega⟩, by omega, ?_⟩
        conv => whnf
        refine call_pure ((upto_spec xs v hv h (by omega)).1 (hok v)) ⟨(le_prefix xs [mark] (by omega)).le, Le.refl _, trivial⟩ ?_
        conv => whnf
        refine call_pure (copied_spec xs (by omega)) (LeL.refl _) ?_
        conv => whnf
        refine ⟨⟨by omega, by rw [List.length_append]; omega⟩, by omega, ?_⟩
        conv => whnf
        have hw : IntKind.i64.wrap (u + 1) = u + 1 := wrap_id (by unfold in64 at *; omega)
        refine call_pure (within_spec xs (u + 1) v (by omega)) ⟨(le_prefix xs [mark] (by omega)).le, Le.of_eq (by rw [hw]), Le.refl _, trivial⟩ ?_
        conv => whnf
        have hwl := win_len (u + 1) v xs
        refine loop_at mixed (fun (k : Nat) => ([(13, I k), (12, I (win (u + 1) v (xs.take k)).length), (0, encL encM 14 xs), (11, encL encM 14 (win (u + 1) v xs)), (1, I u), (2, I v), (7, .ptr 0 []), (9, .ptr 1 [])],
          [(0, .box (encB (sumU u xs))), (1, .box (encB (sumU v xs)))], 2)) (fun k => k ≤ xs.length) (fun k => xs.length - k) 0 (Nat.zero_le _) ?_ ?_
        · exact le_st (le_r rfl) (leE_i rfl rfl (leE_i rfl rfl (leE_eq rfl (bnd_nf _ (nf_encL nf_encM)) (leE_eq rfl (bnd_nf _ (nf_encL nf_encM)) (leE_i rfl rfl (leE_i rfl rfl (leE_eq rfl (lt_r rfl) (leE_eq rfl (lt_r rfl) trivial)))))))) (leO_box (lt_r rfl) rfl (LeA.of_eq rfl) (bnd_nf _ (nf_encB _)) (leO_box (lt_r rfl) rfl (LeA.of_eq rfl) (bnd_nf _ (nf_encB _)) trivial)) gl0n
        · intro k hk
          conv => whnf
          by_cases c : k < xs.length
          · refine br_true (decide_eq_true (by omega : (k : Int) < xs.length)) ?_
            conv => whnf
            refine ⟨by omega, ?_⟩
            conv => whnf
            have skip : ¬ (u + 1 ≤ (at_ xs k).day ∧ (at_ xs k).day ≤ v) → win (u + 1) v (xs.take (k + 1)) = win (u + 1) v (xs.take k) := fun h => by
              rw [take_at c, win_snoc, if_neg h, List.append_nil]
            by_cases c3 : (at_ xs k).day > u
            · rw [show decide ((at_ xs (k : Int).toNat).day > u) = true from decide_eq_true c3]
              conv => whnf
              refine ⟨by omega, ?_⟩
              conv => whnf
              by_cases c4 : (at_ xs k).day ≤ v
              · refine br_true (decide_eq_true c4) ?_
                conv => whnf
                have hin : u + 1 ≤ (at_ xs k).day ∧ (at_ xs k).day ≤ v := ⟨by omega, c4⟩
                obtain ⟨w1, w2⟩ := win_at (u + 1) v xs k c hin
                rw [decide_eq_false (by omega : ¬ (((win (u + 1) v (xs.take k)).length : Int) ≥ (win (u + 1) v xs).length))]
                conv => whnf
                refine ⟨by omega, ?_⟩
                conv => whnf
                refine ⟨by omega, ?_⟩
                conv => whnf
                refine br_false (congrArg (eqSn true) (eqS_eq ?_)) ?_
                · show encM (at_ (win (u + 1) v xs) (win (u + 1) v (xs.take k)).length) = encM (at_ xs k)
                  rw [w2]
                conv => whnf
                have e9 : win (u + 1) v (xs.take (k + 1)) = win (u + 1) v (xs.take k) ++ [at_ xs k] := by rw [take_at c, win_snoc, if_pos hin]
                refine ⟨k + 1, c, by omega, ?_⟩
                rw [e9]
                refine le_st (le_r rfl) (leE_i rfl ?_ (leE_i rfl ?_ (leE_eq rfl (bnd_nf _ (nf_encL nf_encM)) (leE_eq rfl (bnd_nf _ (nf_encL nf_encM)) (leE_i rfl rfl (leE_i rfl rfl (leE_eq rfl (lt_r rfl) (leE_eq rfl (lt_r rfl) trivial)))))))) (leO_box (lt_r rfl) rfl (LeA.of_eq rfl) (bnd_nf _ (nf_encB _)) (leO_box (lt_r rfl) rfl (LeA.of_eq rfl) (bnd_nf _ (nf_encB _)) trivial)) gl0n
                · show IntKind.i64.wrap (k + 1) = _
                  rw [wrap_id (by unfold in64; omega)]; omega
                · show IntKind.i64.wrap ((win (u + 1) v (xs.take k)).length + 1) = _
                  rw [wrap_id (by unfold in64; omega), List.length_append]; rfl
              · refine br_false (decide_eq_false c4) ?_
                conv => whnf
                refine ⟨k + 1, c, by omega, ?_⟩
                rw [skip (fun h => c4 h.2)]
                refine le_st (le_r rfl) (leE_i rfl ?_ (leE_i rfl rfl (leE_eq rfl (bnd_nf _ (nf_encL nf_encM)) (leE_eq rfl (bnd_nf _ (nf_encL nf_encM)) (leE_i rfl rfl (leE_i rfl rfl (leE_eq rfl (lt_r rfl) (leE_eq rfl (lt_r rfl) trivial)))))))) (leO_box (lt_r rfl) rfl (LeA.of_eq rfl) (bnd_nf _ (nf_encB _)) (leO_box (lt_r rfl) rfl (LeA.of_eq rfl) (bnd_nf _ (nf_encB _)) trivial)) gl0n
                show IntKind.i64.wrap (k + 1) = _
                rw [wrap_id (by unfold in64; omega)]; omega
            · rw [show decide ((at_ xs (k : Int).toNat).day > u) = false from decide_eq_false c3]
              conv => whnf
              refine ⟨k + 1, c, by omega, ?_⟩
              rw [skip (fun h => by have := h.1; omega)]
              refine le_st (le_r rfl) (leE_i rfl ?_ (leE_i rfl rfl (leE_eq rfl (bnd_nf _ (nf_encL nf_encM)) (leE_eq rfl (bnd_nf _ (nf_encL nf_encM)) (leE_i rfl rfl (leE_i rfl rfl (leE_eq rfl (lt_r rfl) (leE_eq rfl (lt_r rfl) trivial)))))))) (leO_box (lt_r rfl) rfl (LeA.of_eq rfl) (bnd_nf _ (nf_encB _)) (leO_box (lt_r rfl) rfl (LeA.of_eq rfl) (bnd_nf _ (nf_encB _)) trivial)) gl0n
              show IntKind.i64.wrap (k + 1) = _
              rw [wrap_id (by unfold in64; omega)]; omega
          · obtain rfl : k = xs.length := by omega
            rw [decide_eq_false (by omega : ¬ ((xs.length : Int) < xs.length))]
            conv => whnf
            rw [List.take_length]
            refine loop_at mixed (fun (a : Nat) => ([(14, I a), (12, I (win (u + 1) v xs).length), (11, encL encM 14 (win (u + 1) v xs)), (7, .ptr 0 []), (9, .ptr 1 [])],
              [(0, .box (encB (sumU u xs))), (1, .box (encB (sumU v xs)))], 2)) (fun a => a ≤ 12) (fun a => 12 - a) 0 (Nat.zero_le _) ?_ ?_
            · exact le_st (le_r rfl) (leE_i rfl rfl (leE_i rfl rfl (leE_eq rfl (bnd_nf _ (nf_encL nf_encM)) (leE_eq rfl (lt_r rfl) (leE_eq rfl (lt_r rfl) trivial)))))
                (leO_box (lt_r rfl) rfl (LeA.of_eq rfl) (bnd_nf _ (nf_encB _)) (leO_box (lt_r rfl) rfl (LeA.of_eq rfl) (bnd_nf _ (nf_encB _)) trivial)) gl0n
            · intro a ha
              conv => whnf
              by_cases d1 : a < 12
              · refine br_true (decide_eq_true (by omega : (a : Int) < 12)) ?_
                conv => whnf
                refine ⟨by omega, ?_⟩
                conv => whnf
                have hws : ∀ m ∈ win (u + 1) v xs, ∀ a, a < 12 → lowB (m.ch a) := fun m hm => hs.2 m ((List.mem_filter.1 hm).1)
                have hb1 := sumU_small u xs hs a d1
                refine loop_at mixed (fun (k : Nat) => ([(16, I k), (15, I (sumU u xs a + colW a ((win (u + 1) v xs).take k))), (14, I a), (12, I (win (u + 1) v xs).length), (11, encL encM 14 (win (u + 1) v xs)), (7, .ptr 0 []), (9, .ptr 1 [])],
                  [(0, .box (encB (sumU u xs))), (1, .box (encB (sumU v xs)))], 2)) (fun k => k ≤ (win (u + 1) v xs).length) (fun k => (win (u + 1) v xs).length - k) 0 (Nat.zero_le _) ?_ ?_
                · exact le_st (le_r rfl) (leE_i rfl rfl (leE_i rfl (Int.add_zero _).symm (leE_i rfl rfl (leE_i rfl rfl (leE_eq rfl (bnd_nf _ (nf_encL nf_encM)) (leE_eq rfl (lt_r rfl) (leE_eq rfl (lt_r rfl) trivial)))))))
                    (leO_box (lt_r rfl) rfl (LeA.of_eq rfl) (bnd_nf _ (nf_encB _)) (leO_box (lt_r rfl) rfl (LeA.of_eq rfl) (bnd_nf _ (nf_encB _)) trivial)) gl0n
                · intro k hk
                  conv => whnf
                  by_cases d2 : k < (win (u + 1) v xs).length
                  · refine br_true (decide_eq_true (by omega : (k : Int) < (win (u + 1) v xs).length)) ?_
                    conv => whnf
                    refine ⟨by omega, ?_⟩
                    conv => whnf
                    refine ⟨by omega, ?_⟩
                    conv => whnf
                    have hb2 := colW_small a d1 ((win (u + 1) v xs).take (k + 1)) (fun m hm => hws m (List.mem_of_mem_take hm))
                    have hb3 : ((win (u + 1) v xs).take (k + 1)).length ≤ 1000 := by rw [List.length_take]; omega
                    rw [take_at d2, colW_snoc] at hb2
                    rw [take_at d2] at hb3
                    refine ⟨k + 1, d2, by omega, ?_⟩
                    refine le_st (le_r rfl) (leE_i rfl ?_ (leE_i rfl ?_ (leE_i rfl rfl (leE_i rfl rfl (leE_eq rfl (bnd_nf _ (nf_encL nf_encM)) (leE_eq rfl (lt_r rfl) (leE_eq rfl (lt_r rfl) trivial)))))))
                      (leO_box (lt_r rfl) rfl (LeA.of_eq rfl) (bnd_nf _ (nf_encB _)) (leO_box (lt_r rfl) rfl (LeA.of_eq rfl) (bnd_nf _ (nf_encB _)) trivial)) gl0n
                    · show IntKind.i64.wrap (k + 1) = _
                      rw [wrap_id (by unfold in64; omega)]; omega
                    · show IntKind.i64.wrap (sumU u xs a + colW a ((win (u + 1) v xs).take k) + (at_ (win (u + 1) v xs) k).ch a) = _
                      rw [wrap_id (by unfold in64; omega), take_at d2, colW_snoc, Int.add_assoc]
                  · obtain rfl : k = (win (u + 1) v xs).length := by omega
                    rw [decide_eq_false (by omega : ¬ (((win (u + 1) v xs).length : Int) < (win (u + 1) v xs).length))]
                    conv => whnf
                    refine ⟨by omega, ?_⟩
                    conv => whnf
                    refine br_false (decide_eq_false (fun hne => hne ?_)) ?_
                    · show sumU u xs a + colW a ((win (u + 1) v xs).take (win (u + 1) v xs).length) = sumU v xs a
                      rw [List.take_length]
                      exact cut_sum u v (by omega) xs a
                    conv => whnf
                    refine ⟨a + 1, d1, by omega, ?_⟩
                    refine le_st (le_r rfl) (leE_i rfl ?_ (leE_i rfl rfl (leE_eq rfl (bnd_nf _ (nf_encL nf_encM)) (leE_eq rfl (lt_r rfl) (leE_eq rfl (lt_r rfl) trivial)))))
                      (leO_box (lt_r rfl) rfl (LeA.of_eq rfl) (bnd_nf _ (nf_encB _)) (leO_box (lt_r rfl) rfl (LeA.of_eq rfl) (bnd_nf _ (nf_encB _)) trivial)) gl0n
                    show IntKind.i64.wrap (a + 1) = _
                    rw [wrap_id (by unfold in64; omega)]; omega
              · obtain rfl : a = 12 := by omega
                rw [decide_eq_false (by omega : ¬ (((12 : Nat) : Int) < 12))]
                conv => whnf
                refine Le.of_eq (congrArg B (decide_eq_true ?_))
                rfl
  · refine call_pure (sp2 hs) (LeL.refl _) ?_
    conv => whnf
    exact Le.refl _

end Go.Proofs.Ytjkmmcbfcglkdaa
