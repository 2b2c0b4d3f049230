/- What the document's Upto computes: the same. -/
import Derived.Test.YtjkmmcbfcglkdaaSp3
namespace Go.Proofs.Ytjkmmcbfcglkdaa
open Go Ar
set_option linter.unusedVariables false
set_option autoImplicit false

def col (d : Int) (a : Nat) (xs : List Mov) : List Int := (xs.filter fun m => decide (m.day ≤ d)).map fun m => m.ch a

theorem col_snoc (d : Int) (a : Nat) (xs : List Mov) (m : Mov) : col d a (xs ++ [m]) = col d a xs ++ if m.day ≤ d then [m.ch a] else [] := by
  simp only [col, List.filter_append, List.map_append]
  congr 1
  by_cases h : m.day ≤ d <;> simp [h]

theorem col_sum (d : Int) (a : Nat) (xs : List Mov) : (col d a xs).sum = sumU d xs a := by
  induction xs with
  | nil => rfl
  | cons m r ih =>
    simp only [col, sumU, List.map_cons, List.sum_cons, List.filter_cons] at *
    by_cases h : m.day ≤ d <;> simp [h, ih]

theorem col_len (d : Int) (a : Nat) (xs : List Mov) : (col d a xs).length ≤ xs.length := by
  simp only [col, List.length_map]; exact List.length_filter_le ..

theorem col_in (d : Int) (a : Nat) (ha : a < 12) (xs : List Mov) (h : ∀ m ∈ xs, OkM m) : ∀ x ∈ col d a xs, in64 x := by
  intro x hx
  simp only [col, List.mem_map, List.mem_filter] at hx
  obtain ⟨m, ⟨hm, _⟩, rfl⟩ := hx
  exact (h m hm).2 a ha

theorem ref_upto_spec (xs : List Mov) (d : Int) (hd : in64 d) (h : ∀ m ∈ xs, OkM m) (hn : xs.length ≤ 100000) :
    (okU d xs → Pure Try.prog gl0 11 [encL encM 14 xs, I d] (upV (sumU d xs) true)) ∧ (¬ okU d xs → Pure Try.prog gl0 11 [encL encM 14 xs, I d] (upV zeroB false)) := by
  suffices ∀ (r : AV), nf r → (okU d xs → r = upV (sumU d xs) true) → (¬ okU d xs → r = upV zeroB false) → Pure Try.prog gl0 11 [encL encM 14 xs, I d] r by
    refine ⟨fun hk => this _ ⟨nf_encB _, trivial, trivial⟩ (fun _ => rfl) (fun h => absurd hk h), fun hk => this _ ⟨nf_encB _, trivial, trivial⟩ (fun h => absurd h hk) (fun _ => rfl)⟩
  intro r hr hr1 hr2
  refine pure_fn mixed Try.func11 Try.ntmps11 hc11 (by simp) gl0n (by simp [nf_encL nf_encM, nf]) hr ?_
  conv => whnf
  refine loop_at mixed (fun (a : Nat) => ([(7, I a), (0, encL encM 14 xs), (1, I d), (6, .ptr 1 []), (4, .ptr 0 []), (5, B false)],
    [(0, .box (encB zeroB)), (1, .box (encB fun i => if i < a then sumU d xs i else 0))], 2)) (fun a => a ≤ 12 ∧ ∀ i, i < a → in64 (sumU d xs i)) (fun a => 12 - a) 0 ⟨Nat.zero_le _, fun a ha => absurd ha (Nat.not_lt_zero a)⟩ ?_ ?_
  · refine le_st (le_r rfl) (leE_i rfl rfl (leE_eq rfl (bnd_nf _ (nf_encL nf_encM)) (leE_i rfl rfl (leE_eq rfl (lt_r rfl) (leE_eq rfl (lt_r rfl) (leE_b rfl rfl trivial))))))
      (leO_box (lt_r rfl) rfl (LeA.of_eq rfl) (bnd_nf _ (nf_encB _)) (leO_box (lt_r rfl) rfl (LeA.of_eq rfl) (bnd_nf _ (nf_encB _)) trivial)) gl0n
  · intro a ⟨ha, hin⟩
    conv => whnf
    by_cases c : a < 12
    · rw [decide_eq_true (by omega : (a : Int) < 12)]
      conv => whnf
      refine loop_at mixed (fun (k : Nat) => ([(9, I k), (8, encT (some 2) I 1 (col d a (xs.take k))), (7, I a), (0, encL encM 14 xs), (1, I d), (6, .ptr 1 []), (4, .ptr 0 []), (5, B false)],
        [(0, .box (encB zeroB)), (1, .box (encB fun i => if i < a then sumU d xs i else 0)), (2, .room (col d a (xs.take k)).length 1 2)], 3)) (fun k => k ≤ xs.length) (fun k => xs.length - k) 0 (Nat.zero_le _) ?_ ?_
      · refine (le_nil 8 1 2 (fun i => I (at_ (col d a (xs.take 0)) i)) rfl).trans (le_st (le_r rfl) ?_ ?_ gl0n)
        · refine leE_i rfl rfl (leE_eq rfl (bnd_encT (fun _ => trivial) (lt_r rfl)) (leE_i rfl rfl (leE_eq rfl (bnd_nf _ (nf_encL nf_encM)) (leE_i rfl rfl (leE_eq rfl (lt_r rfl) (leE_eq rfl (lt_r rfl) (leE_b rfl rfl trivial)))))))
        · exact leO_box (lt_r rfl) rfl (LeA.of_eq rfl) (bnd_nf _ (nf_encB _)) (leO_box (lt_r rfl) rfl (LeA.of_eq rfl) (bnd_nf _ (nf_encB _)) (leO_room (lt_r rfl) rfl trivial))
      · intro k hk
        conv => whnf
        by_cases c2 : k < xs.length
        · rw [decide_eq_true (by omega : (k : Int) < xs.length)]
          conv => whnf
          refine ⟨by omega, ?_⟩
          conv => whnf
          by_cases c3 : (at_ xs k).day ≤ d
          · refine br_true (decide_eq_true c3) ?_
            conv => whnf
            refine ⟨by omega, ?_⟩
            conv => whnf
            refine ⟨by omega, ?_⟩
            conv => whnf
            have hl := col_len d a (xs.take k)
            rw [List.length_take] at hl
            refine ⟨rfl, by simp; omega, ?_⟩
            conv => whnf
            have e8 : col d a (xs.take (k + 1)) = col d a (xs.take k) ++ [(at_ xs k).ch a] := by rw [take_at c2, col_snoc, if_pos c3]
            refine ⟨k + 1, c2, by omega, ?_⟩
            refine le_st (le_r rfl) (leE_i rfl ?_ (leE_le rfl ?_ (bnd_encT (fun _ => trivial) (lt_r rfl)) (leE_i rfl rfl (leE_eq rfl (bnd_nf _ (nf_encL nf_encM)) (leE_i rfl rfl (leE_eq rfl (lt_r rfl) (leE_eq rfl (lt_r rfl) (leE_b rfl rfl trivial))))))))
              (leO_box (lt_r rfl) rfl (LeA.of_eq rfl) (bnd_nf _ (nf_encB _)) (leO_box (lt_r rfl) rfl (LeA.of_eq rfl) (bnd_nf _ (nf_encB _)) (leO_room (lt_r rfl) ?_ trivial))) gl0n
            · show IntKind.i64.wrap (k + 1) = _
              rw [wrap_id (by unfold in64; omega)]; omega
            · rw [e8]
              exact (leA_snoc (xs := col d a (xs.take k)) (x := (at_ xs k).ch a) (enc := I) (LeA.of_eq rfl)).le
            · rw [e8, List.length_append]
              rfl
          · refine br_false (decide_eq_false c3) ?_
            conv => whnf
            have e8 : col d a (xs.take (k + 1)) = col d a (xs.take k) := by rw [take_at c2, col_snoc, if_neg c3, List.append_nil]
            refine ⟨k + 1, c2, by omega, ?_⟩
            rw [e8]
            refine le_st (le_r rfl) (leE_i rfl ?_ (leE_eq rfl (bnd_encT (fun _ => trivial) (lt_r rfl)) (leE_i rfl rfl (leE_eq rfl (bnd_nf _ (nf_encL nf_encM)) (leE_i rfl rfl (leE_eq rfl (lt_r rfl) (leE_eq rfl (lt_r rfl) (leE_b rfl rfl trivial))))))))
              (leO_box (lt_r rfl) rfl (LeA.of_eq rfl) (bnd_nf _ (nf_encB _)) (leO_box (lt_r rfl) rfl (LeA.of_eq rfl) (bnd_nf _ (nf_encB _)) (leO_room (lt_r rfl) rfl trivial))) gl0n
            show IntKind.i64.wrap (k + 1) = _
            rw [wrap_id (by unfold in64; omega)]; omega
        · obtain rfl : k = xs.length := by omega
          rw [decide_eq_false (by omega : ¬ ((xs.length : Int) < xs.length))]
          conv => whnf
          rw [List.take_length]
          refine call_pure (sum_spec _ (col_in d a c xs h) (Nat.le_trans (col_len d a xs) hn)) ⟨leA_drop.le, trivial⟩ ?_
          rw [col_sum]
          conv => whnf
          by_cases c4 : in64 (sumU d xs a)
          · refine br_false (b := !decide (in64 (sumU d xs a))) (by rw [decide_eq_true c4]; rfl) ?_
            conv => whnf
            refine ⟨by omega, ?_⟩
            conv => whnf
            refine ⟨a + 1, ⟨c, fun i hi => ?_⟩, by omega, ?_⟩
            · by_cases e : i = a
              · rw [e]; exact c4
              · exact hin i (by omega)
            refine le_st (le_r rfl) (leE_i rfl ?_ (leE_eq rfl (bnd_nf _ (nf_encL nf_encM)) (leE_i rfl rfl (leE_eq rfl (lt_r rfl) (leE_eq rfl (lt_r rfl) (leE_b rfl rfl trivial))))))
              (leO_box (lt_r rfl) rfl (LeA.of_eq rfl) (bnd_nf _ (nf_encB _)) (leO_box (lt_r rfl) rfl (LeA.st (LeA.cons (LeA.arr fun i hi => LeA.of_eq ?_) (LeA.refl _))) (bnd_nf _ (nf_encB _)) trivial)) gl0n
            · show IntKind.i64.wrap (a + 1) = _
              rw [wrap_id (by unfold in64; omega)]; omega
            · show (if i = a then I (if in64 (sumU d xs a) then sumU d xs a else 0) else I (if i < a then sumU d xs i else 0)) = I (if i < a + 1 then sumU d xs i else 0)
              by_cases e : i = a
              · subst e
                rw [if_pos rfl, if_pos (Nat.lt_succ_self i), if_pos c4]
              · rw [if_neg e]
                by_cases l : i < a
                · rw [if_pos l, if_pos (by omega)]
                · rw [if_neg l, if_neg (by omega)]
          · refine br_true (b := !decide (in64 (sumU d xs a))) (by rw [decide_eq_false c4]; rfl) ?_
            conv => whnf
            rw [hr2 (fun hk => c4 (hk a c))]
            exact Le.refl _
    · obtain rfl : a = 12 := by omega
      rw [decide_eq_false (by omega : ¬ (((12 : Nat) : Int) < 12))]
      conv => whnf
      rw [hr1 hin]
      refine LeA.le (LeA.tup (LeA.cons (LeA.st (LeA.cons (LeA.arr fun i hi => LeA.of_eq ?_) (LeA.refl _))) (LeA.refl _)))
      show I (if i < 12 then _ else _) = _
      rw [if_pos hi]

end Go.Proofs.Ytjkmmcbfcglkdaa
