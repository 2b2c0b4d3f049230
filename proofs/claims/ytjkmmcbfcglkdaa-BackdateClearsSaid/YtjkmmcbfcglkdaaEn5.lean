/- The law BackdateClears, as a contract. -/
import Derived.Test.YtjkmmcbfcglkdaaEn4
namespace Go.Proofs.Ytjkmmcbfcglkdaa
open Go Ar
set_option linter.unusedVariables false
set_option autoImplicit false

def preB (xs : List Int) (k : Nat) : Nat → Int := fun i => if i < k then pickN xs i else 0

theorem clears_spec (xs : List Int) (hx : ∀ x ∈ xs, in64 x) (hn : (xs.length : Int) < 9223372036854775808) : Pure Try.prog gl0 5 [encL I 1 xs] (B true) := by
  have nfI : ∀ x : Int, nf (I x) := fun _ => trivial
  refine pure_fn mixed Try.func5 Try.ntmps5 hc5 (by simp) gl0n (by simp [nf_encL nfI]) trivial ?_
  conv => whnf
  refine loop_at mixed (fun (k : Nat) => ([(5, I k), (4, I (-(sumTo (pickN xs) k))), (3, .ptr 0 []), (0, encL I 1 xs)], [(0, .box (encB (preB xs k)))], 1)) (fun k => k ≤ 11) (fun k => 11 - k) 0 (Nat.zero_le _) ?_ ?_
  · exact le_st (le_r rfl) (leE_i rfl rfl (leE_i rfl rfl (leE_eq rfl (lt_r rfl) (leE_eq rfl (bnd_nf _ (nf_encL nfI)) trivial))))
      (leO_box (lt_r rfl) rfl (LeA.of_eq rfl) (bnd_nf _ (nf_encB _)) trivial) gl0n
  · intro k hk
    conv => whnf
    have ew : IntKind.i64.wrap ((k : Int) + 1) = ((k + 1 : Nat) : Int) := by rw [wrap_id (by unfold in64; omega)]; omega
    have hsb := sumP_bound xs (k + 1)
    by_cases c : k < 11
    · refine br_true (decide_eq_true (by show IntKind.i64.wrap ((k : Int) + 1) < 12; rw [ew]; omega)) ?_
      conv => whnf
      have next : ∀ (a : Nat → AV) (l : Int), l = -(sumTo (pickN xs) k) - pickN xs k → (∀ i, i < 12 → a i = I (preB xs (k + 1) i)) →
          (pickN xs k = 0 → preB xs (k + 1) = preB xs k) := fun _ _ _ _ h => funext fun i => by
        unfold preB
        by_cases e : i = k
        · subst e; rw [if_pos (by omega), if_neg (by omega)]; exact h
        · by_cases l : i < k
          · rw [if_pos (by omega), if_pos l]
          · rw [if_neg (by omega), if_neg l]
      have skip : pickN xs k = 0 → preB xs (k + 1) = preB xs k ∧ sumTo (pickN xs) (k + 1) = sumTo (pickN xs) k := fun h => ⟨funext fun i => by
        unfold preB
        by_cases e : i = k
        · subst e; rw [if_pos (by omega), if_neg (by omega)]; exact h
        · by_cases l : i < k
          · rw [if_pos (by omega), if_pos l]
          · rw [if_neg (by omega), if_neg l], by simp only [sumTo]; omega⟩
      clear next
      by_cases c1 : k < xs.length
      · rw [show decide ((k : Int) < xs.length) = true from decide_eq_true (by omega)]
        conv => whnf
        refine ⟨by omega, ?_⟩
        conv => whnf
        by_cases c2 : at_ xs k > -500000000000000000
        · rw [show decide (at_ xs (k : Int).toNat > -500000000000000000) = true from decide_eq_true c2]
          conv => whnf
          refine ⟨by omega, ?_⟩
          conv => whnf
          by_cases c3 : at_ xs k < 500000000000000000
          · refine br_true (decide_eq_true c3) ?_
            conv => whnf
            refine ⟨by omega, ?_⟩
            conv => whnf
            refine ⟨by omega, ?_⟩
            conv => whnf
            refine ⟨by omega, ?_⟩
            conv => whnf
            have hp : pickN xs k = at_ xs k := if_pos ⟨c1, c2, c3⟩
            refine ⟨k + 1, c, by omega, ?_⟩
            refine le_st (le_r rfl) (leE_i rfl ?_ (leE_i rfl ?_ (leE_eq rfl (lt_r rfl) (leE_eq rfl (bnd_nf _ (nf_encL nfI)) trivial))))
              (leO_box (lt_r rfl) rfl (LeA.st (LeA.cons (LeA.arr fun i hi => LeA.of_eq ?_) (LeA.refl _))) (bnd_nf _ (nf_encB _)) trivial) gl0n
            · exact ew
            · show IntKind.i64.wrap (-(sumTo (pickN xs) k) - at_ xs k) = _
              simp only [sumTo] at hsb ⊢
              rw [wrap_id (by unfold in64; omega), hp]; omega
            · show I (if i = k then at_ xs k else (if i < k then pickN xs i else 0)) = I (if i < k + 1 then pickN xs i else 0)
              by_cases e : i = k
              · subst e; rw [if_pos rfl, if_pos (by omega), hp]
              · rw [if_neg e]
                by_cases l : i < k
                · rw [if_pos l, if_pos (by omega)]
                · rw [if_neg l, if_neg (by omega)]
          · refine br_false (decide_eq_false c3) ?_
            conv => whnf
            obtain ⟨s1, s2⟩ := skip (if_neg (fun h => c3 h.2.2))
            refine ⟨k + 1, c, by omega, ?_⟩
            rw [s1, s2]
            exact le_st (le_r rfl) (leE_i rfl ew (leE_i rfl rfl (leE_eq rfl (lt_r rfl) (leE_eq rfl (bnd_nf _ (nf_encL nfI)) trivial))))
              (leO_box (lt_r rfl) rfl (LeA.of_eq rfl) (bnd_nf _ (nf_encB _)) trivial) gl0n
        · rw [show decide (at_ xs (k : Int).toNat > -500000000000000000) = false from decide_eq_false c2]
          conv => whnf
          obtain ⟨s1, s2⟩ := skip (if_neg (fun h => c2 h.2.1))
          refine ⟨k + 1, c, by omega, ?_⟩
          rw [s1, s2]
          exact le_st (le_r rfl) (leE_i rfl ew (leE_i rfl rfl (leE_eq rfl (lt_r rfl) (leE_eq rfl (bnd_nf _ (nf_encL nfI)) trivial))))
            (leO_box (lt_r rfl) rfl (LeA.of_eq rfl) (bnd_nf _ (nf_encB _)) trivial) gl0n
      · rw [show decide ((k : Int) < xs.length) = false from decide_eq_false (by omega)]
        conv => whnf
        obtain ⟨s1, s2⟩ := skip (if_neg (fun h => c1 h.1))
        refine ⟨k + 1, c, by omega, ?_⟩
        rw [s1, s2]
        exact le_st (le_r rfl) (leE_i rfl ew (leE_i rfl rfl (leE_eq rfl (lt_r rfl) (leE_eq rfl (bnd_nf _ (nf_encL nfI)) trivial))))
          (leO_box (lt_r rfl) rfl (LeA.of_eq rfl) (bnd_nf _ (nf_encB _)) trivial) gl0n
    · obtain rfl : k = 11 := by omega
      rw [show decide (IntKind.i64.wrap (((11 : Nat) : Int) + 1) < 12) = false from by decide]
      conv => whnf
      refine ⟨by omega, ?_⟩
      conv => whnf
      obtain ⟨o, ho, hp⟩ := entries_spec _ (mkB_ok xs)
      obtain rfl : o = true := ho.2 (mkB_bal xs)
      have hp : Pure Try.prog gl0 13 [encB (mkB xs)] (.tup (.cons (encL encE 3 (ents 12 (mkB xs))) (.cons (B true) .nil))) := hp
      have hbal := (mkB_bal xs).bal (mkB_ok xs)
      have hl := ents_eleven hbal
      have hok := ents_ok 12 _ hbal
      have hacc := ents_acc 12 _ hbal (nz_le _)
      generalize ents 12 (mkB xs) = L at hp hl hok hacc
      refine call_pure hp ⟨LeA.le (LeA.st (LeA.cons (LeA.arr fun i hi => LeA.of_eq ?_) (LeA.refl _))), trivial⟩ ?_
      · rfl
      conv => whnf
      refine br_false (decide_eq_false (by omega : ¬ (L.length : Int) > 11)) ?_
      conv => whnf
      refine loop_at mixed (fun (k : Nat) => ([(9, I k), (6, encL encE 3 L), (3, .ptr 0 []), (8, .ptr 1 [])], [(0, .box (encB (mkB xs))), (1, .box (encB fun a => IntKind.i64.wrap (acc (L.take k) a)))], 2)) (fun k => k ≤ L.length) (fun k => L.length - k) 0 (Nat.zero_le _) ?_ ?_
      · exact le_st (le_r rfl) (leE_i rfl rfl (leE_eq rfl (bnd_nf _ (nf_encL nf_encE)) (leE_eq rfl (lt_r rfl) (leE_eq rfl (lt_r rfl) trivial))))
          (leO_box (lt_r rfl) rfl (LeA.st (LeA.cons (LeA.arr fun i hi => LeA.of_eq rfl) (LeA.refl _))) (bnd_nf _ (nf_encB _)) (leO_box (lt_r rfl) rfl (LeA.st (LeA.cons (LeA.arr fun i hi => LeA.of_eq rfl) (LeA.refl _))) (bnd_nf _ (nf_encB _)) trivial)) gl0n
      · intro k hk
        conv => whnf
        by_cases c : k < L.length
        · refine br_true (decide_eq_true (by omega : (k : Int) < L.length)) ?_
          conv => whnf
          refine ⟨by omega, ?_⟩
          conv => whnf
          refine ⟨by omega, ?_⟩
          conv => whnf
          refine ⟨by omega, ?_⟩
          conv => whnf
          obtain ⟨o1, o2, o3, o4, o5⟩ := hok _ (at_mem c)
          rw [show decide ((at_ L (k : Int).toNat).n < 1) = false from decide_eq_false (by show ¬ (at_ L k).n < 1; omega)]
          conv => whnf
          rw [show decide (((at_ L (k : Int).toNat).d : Int) < 0) = false from decide_eq_false (by omega)]
          conv => whnf
          rw [show decide (((at_ L (k : Int).toNat).d : Int) ≥ 12) = false from decide_eq_false (by show ¬ (((at_ L k).d : Int) ≥ 12); omega)]
          conv => whnf
          rw [show decide (((at_ L (k : Int).toNat).c : Int) < 0) = false from decide_eq_false (by omega)]
          conv => whnf
          rw [show decide (((at_ L (k : Int).toNat).c : Int) ≥ 12) = false from decide_eq_false (by show ¬ (((at_ L k).c : Int) ≥ 12); omega)]
          conv => whnf
          refine br_false (decide_eq_false (by show ¬ (((at_ L k).c : Int) = ((at_ L k).d : Int)); omega)) ?_
          conv => whnf
          refine ⟨by show (0 : Int) ≤ ((at_ L k).d : Int) ∧ ((at_ L k).d : Int) < ((12 : Nat) : Int); omega, ?_⟩
          conv => whnf
          refine ⟨by omega, ?_⟩
          conv => whnf
          refine ⟨(by show (0 : Int) ≤ ((at_ L k).d : Int) ∧ ((at_ L k).d : Int) < ((12 : Nat) : Int); omega), ?_⟩
          conv => whnf
          refine ⟨(by show (0 : Int) ≤ ((at_ L k).c : Int) ∧ ((at_ L k).c : Int) < ((12 : Nat) : Int); omega), ?_⟩
          conv => whnf
          refine ⟨by omega, ?_⟩
          conv => whnf
          refine ⟨(by show (0 : Int) ≤ ((at_ L k).c : Int) ∧ ((at_ L k).c : Int) < ((12 : Nat) : Int); omega), ?_⟩
          conv => whnf
          refine ⟨k + 1, c, by omega, ?_⟩
          refine le_st (le_r rfl) (leE_i rfl ?_ (leE_eq rfl (bnd_nf _ (nf_encL nf_encE)) (leE_eq rfl (lt_r rfl) (leE_eq rfl (lt_r rfl) trivial))))
            (leO_box (lt_r rfl) rfl (LeA.of_eq rfl) (bnd_nf _ (nf_encB _)) (leO_box (lt_r rfl) rfl (LeA.st (LeA.cons (LeA.arr fun i hi => LeA.of_eq ?_) (LeA.refl _))) (bnd_nf _ (nf_encB _)) trivial)) gl0n
          · show IntKind.i64.wrap (k + 1) = _
            rw [wrap_id (by unfold in64; omega)]; omega
          · show I (if i = (at_ L k).c then IntKind.i64.wrap ((if (at_ L k).c = (at_ L k).d then IntKind.i64.wrap (IntKind.i64.wrap (acc (L.take k) (at_ L k).d) + (at_ L k).n) else IntKind.i64.wrap (acc (L.take k) (at_ L k).c)) - (at_ L k).n)
              else (if i = (at_ L k).d then IntKind.i64.wrap (IntKind.i64.wrap (acc (L.take k) (at_ L k).d) + (at_ L k).n) else IntKind.i64.wrap (acc (L.take k) i))) = I (IntKind.i64.wrap (acc (L.take (k + 1)) i))
            rw [take_at c, acc_snoc, if_neg o5, wrap_sub, wrap_add]
            by_cases e1 : i = (at_ L k).c
            · subst e1
              rw [if_pos rfl, if_neg o5, if_pos rfl]
              congr 2
              omega
            · rw [if_neg e1, if_neg e1]
              by_cases e2 : i = (at_ L k).d
              · subst e2
                rw [if_pos rfl, if_pos rfl]
                congr 2
                omega
              · rw [if_neg e2, if_neg e2]
                congr 2
                omega
        · obtain rfl : k = L.length := by omega
          rw [decide_eq_false (by omega : ¬ ((L.length : Int) < L.length))]
          conv => whnf
          rw [List.take_length]
          have heq : ∀ a, a < 12 → IntKind.i64.wrap (acc L a) = mkB xs a := fun a ha => by
            rw [hacc a ha]
            exact wrap_id (mkB_ok xs a ha)
          refine br_false (congrArg (eqSn true) (?_ : eqS _ _ _ = true)) ?_
          · show ((List.range 12).all (fun i => IntKind.i64.wrap (acc L i) == mkB xs i) && true) = true
            rw [Bool.and_true]
            refine List.all_eq_true.2 fun i hi => ?_
            rw [heq i (List.mem_range.1 hi)]
            simp
          conv => whnf
          refine ⟨by omega, ?_⟩
          conv => whnf
          refine ⟨by omega, ?_⟩
          conv => whnf
          obtain ⟨o2, ho2, hp2⟩ := entries_spec _ (mkB1_ok xs)
          obtain rfl : o2 = false := by
            cases o2
            · rfl
            · exact absurd (ho2.1 rfl) (mkB1_not xs)
          have hp2 : Pure Try.prog gl0 13 [encB (mkB1 xs)] (.tup (.cons (encL encE 3 []) (.cons (B false) .nil))) := hp2
          refine call_pure hp2 ⟨LeA.le (LeA.st (LeA.cons (LeA.arr fun i hi => LeA.of_eq ?_) (LeA.refl _))), trivial⟩ ?_
          · show I (if i = 0 then IntKind.i64.wrap (mkB xs 0 + 1) else mkB xs i) = I (if i = 0 then mkB xs 0 + 1 else mkB xs i)
            have := mkB_bound xs 0
            rw [wrap_id (by unfold in64; omega)]
          conv => whnf
          exact Le.refl _

end Go.Proofs.Ytjkmmcbfcglkdaa
