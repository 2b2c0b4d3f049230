/- What small and Within compute. -/
import Derived.Test.YtjkmmcbfcglkdaaSp3
import Derived.Test.YtjkmmcbfcglkdaaIc2
namespace Go.Proofs.Ytjkmmcbfcglkdaa
open Go Ar
set_option linter.unusedVariables false
set_option autoImplicit false

def lowB (x : Int) : Prop := -1000000000000000 ≤ x ∧ x ≤ 1000000000000000
def smallP (xs : List Mov) : Prop := xs.length ≤ 1000 ∧ ∀ m ∈ xs, ∀ a, a < 12 → lowB (m.ch a)

theorem small_spec (xs : List Mov) (hn : (xs.length : Int) < 9223372036854775808) :
    (smallP xs → Pure Try.prog gl0 16 [encL encM 14 xs] (B true)) ∧ (¬ smallP xs → Pure Try.prog gl0 16 [encL encM 14 xs] (B false)) := by
  suffices ∀ (r : Bool), (smallP xs → r = true) → (¬ smallP xs → r = false) → Pure Try.prog gl0 16 [encL encM 14 xs] (B r) by
    exact ⟨fun hk => this _ (fun _ => rfl) (fun h => absurd hk h), fun hk => this _ (fun h => absurd h hk) (fun _ => rfl)⟩
  intro r hr1 hr2
  refine pure_fn mixed Try.func16 Try.ntmps16 hc16 (by simp) gl0n (by simp [nf_encL nf_encM]) trivial ?_
  conv => whnf
  by_cases c : xs.length > 1000
  · refine br_true (decide_eq_true (by omega : (xs.length : Int) > 1000)) ?_
    conv => whnf
    rw [hr2 (fun h => by have := h.1; omega)]
    exact Le.refl _
  · refine br_false (decide_eq_false (by omega : ¬ (xs.length : Int) > 1000)) ?_
    conv => whnf
    refine loop_at mixed (fun (k : Nat) => ([(3, I k), (0, encL encM 14 xs)], [], 0)) (fun k => k ≤ xs.length ∧ ∀ m ∈ xs.take k, ∀ a, a < 12 → lowB (m.ch a)) (fun k => xs.length - k) 0 ⟨Nat.zero_le _, fun m hm => by simp at hm⟩ ?_ ?_
    · exact le_st (le_r rfl) (leE_i rfl rfl (leE_eq rfl (bnd_nf _ (nf_encL nf_encM)) trivial)) trivial gl0n
    · intro k ⟨hk, hin⟩
      conv => whnf
      by_cases c : k < xs.length
      · refine br_true (decide_eq_true (by omega : (k : Int) < xs.length)) ?_
        conv => whnf
        refine loop_at mixed (fun (a : Nat) => ([(4, I a), (3, I k), (0, encL encM 14 xs)], [], 0)) (fun a => a ≤ 12 ∧ ∀ i, i < a → lowB ((at_ xs k).ch i)) (fun a => 12 - a) 0 ⟨Nat.zero_le _, fun i hi => absurd hi (Nat.not_lt_zero i)⟩ ?_ ?_
        · exact le_st (le_r rfl) (leE_i rfl rfl (leE_i rfl rfl (leE_eq rfl (bnd_nf _ (nf_encL nf_encM)) trivial))) trivial gl0n
        · intro a ⟨ha, hia⟩
          conv => whnf
          by_cases c2 : a < 12
          · refine br_true (decide_eq_true (by omega : (a : Int) < 12)) ?_
            conv => whnf
            refine ⟨by omega, ?_⟩
            conv => whnf
            refine ⟨by omega, ?_⟩
            conv => whnf
            have hbad : ¬ lowB ((at_ xs k).ch a) → ¬ smallP xs := fun h hs => h (hs.2 _ (at_mem c) a c2)
            by_cases c3 : (at_ xs k).ch a > 1000000000000000
            · rw [show decide ((at_ xs (k : Int).toNat).ch (a : Int).toNat > 1000000000000000) = true from decide_eq_true c3]
              conv => whnf
              rw [hr2 (hbad (fun h => by have := h.2; omega))]
              exact Le.refl _
            · rw [show decide ((at_ xs (k : Int).toNat).ch (a : Int).toNat > 1000000000000000) = false from decide_eq_false c3]
              conv => whnf
              by_cases c4 : (at_ xs k).ch a < -1000000000000000
              · refine br_true (decide_eq_true c4) ?_
                conv => whnf
                rw [hr2 (hbad (fun h => by have := h.1; omega))]
                exact Le.refl _
              · refine br_false (decide_eq_false c4) ?_
                conv => whnf
                refine ⟨a + 1, ⟨c2, fun i hi => ?_⟩, by omega, ?_⟩
                · by_cases e : i = a
                  · rw [e]; exact ⟨by omega, by omega⟩
                  · exact hia i (by omega)
                refine le_st (le_r rfl) (leE_i rfl ?_ (leE_i rfl rfl (leE_eq rfl (bnd_nf _ (nf_encL nf_encM)) trivial))) trivial gl0n
                show IntKind.i64.wrap (a + 1) = _
                rw [wrap_id (by unfold in64; omega)]; omega
          · obtain rfl : a = 12 := by omega
            rw [decide_eq_false (by omega : ¬ (((12 : Nat) : Int) < 12))]
            conv => whnf
            refine ⟨k + 1, ⟨c, fun m hm => ?_⟩, by omega, ?_⟩
            · rw [take_at c, List.mem_append] at hm
              rcases hm with hm | hm
              · exact hin m hm
              · obtain rfl : m = at_ xs k := by simpa using hm
                exact hia
            refine le_st (le_r rfl) (leE_i rfl ?_ (leE_eq rfl (bnd_nf _ (nf_encL nf_encM)) trivial)) trivial gl0n
            show IntKind.i64.wrap (k + 1) = _
            rw [wrap_id (by unfold in64; omega)]; omega
      · obtain rfl : k = xs.length := by omega
        refine br_false (decide_eq_false (by omega : ¬ ((xs.length : Int) < xs.length))) ?_
        conv => whnf
        rw [List.take_length] at hin
        rw [hr1 ⟨by omega, hin⟩]
        exact Le.refl _

/-- The movements of some days. -/
def win (u v : Int) (xs : List Mov) : List Mov := xs.filter fun m => decide (u ≤ m.day ∧ m.day ≤ v)

theorem win_snoc (u v : Int) (xs : List Mov) (m : Mov) : win u v (xs ++ [m]) = win u v xs ++ if u ≤ m.day ∧ m.day ≤ v then [m] else [] := by
  simp only [win, List.filter_append]
  congr 1
  by_cases h : u ≤ m.day ∧ m.day ≤ v <;> simp [h]

theorem win_len (u v : Int) (xs : List Mov) : (win u v xs).length ≤ xs.length := List.length_filter_le ..

theorem within_spec (xs : List Mov) (u v : Int) (hn : xs.length ≤ 100000) : Pure Try.prog gl0 17 [encL encM 14 xs, I u, I v] (encL encM 14 (win u v xs)) := by
  refine pure_fn mixed Try.func17 Try.ntmps17 hc17 (by simp) gl0n (by simp [nf_encL nf_encM, nf]) (nf_encL nf_encM) ?_
  conv => whnf
  refine loop_at mixed (fun (k : Nat) => ([(12, I k), (7, encT (some 0) encM 14 (win u v (xs.take k))), (11, I xs.length), (10, encL encM 14 xs), (1, I u), (2, I v)], [(0, .room (win u v (xs.take k)).length 14 43)], 1)) (fun k => k ≤ xs.length) (fun k => xs.length - k) 0 (Nat.zero_le _) ?_ ?_
  · refine (le_nil 7 14 43 (fun i => encM (at_ (win u v (xs.take 0)) i)) rfl).trans (le_st (le_r rfl) ?_ ?_ gl0n)
    · exact leE_i rfl rfl (leE_eq rfl (bnd_encT nf_encM (lt_r rfl)) (leE_i rfl rfl (leE_eq rfl (bnd_nf _ (nf_encL nf_encM)) (leE_i rfl rfl (leE_i rfl rfl trivial)))))
    · exact leO_room (lt_r rfl) rfl trivial
  · intro k hk
    conv => whnf
    by_cases c : k < xs.length
    · refine br_true (decide_eq_true (by omega : (k : Int) < xs.length)) ?_
      conv => whnf
      refine ⟨by omega, ?_⟩
      conv => whnf
      have hl := win_len u v (xs.take k)
      rw [List.length_take] at hl
      have skip : ¬ (u ≤ (at_ xs k).day ∧ (at_ xs k).day ≤ v) → win u v (xs.take (k + 1)) = win u v (xs.take k) := fun h => by
        rw [take_at c, win_snoc, if_neg h, List.append_nil]
      by_cases c1 : (at_ xs k).day ≥ u
      · rw [show decide ((at_ xs (k : Int).toNat).day ≥ u) = true from decide_eq_true c1]
        conv => whnf
        by_cases c2 : (at_ xs k).day ≤ v
        · refine br_true (decide_eq_true c2) ?_
          conv => whnf
          refine ⟨rfl, by simp; omega, ?_⟩
          conv => whnf
          have e8 : win u v (xs.take (k + 1)) = win u v (xs.take k) ++ [at_ xs k] := by rw [take_at c, win_snoc, if_pos ⟨c1, c2⟩]
          refine ⟨k + 1, c, by omega, ?_⟩
          refine le_st (le_r rfl) (leE_i rfl ?_ (leE_le rfl ?_ (bnd_encT nf_encM (lt_r rfl)) (leE_i rfl rfl (leE_eq rfl (bnd_nf _ (nf_encL nf_encM)) (leE_i rfl rfl (leE_i rfl rfl trivial)))))) (leO_room (lt_r rfl) ?_ trivial) gl0n
          · show IntKind.i64.wrap (k + 1) = _
            rw [wrap_id (by unfold in64; omega)]; omega
          · rw [e8]
            exact (leA_snoc (xs := win u v (xs.take k)) (x := at_ xs k) (enc := encM) (LeA.of_eq rfl)).le
          · rw [e8, List.length_append]
            rfl
        · refine br_false (decide_eq_false c2) ?_
          conv => whnf
          refine ⟨k + 1, c, by omega, ?_⟩
          rw [skip (fun h => c2 h.2)]
          refine le_st (le_r rfl) (leE_i rfl ?_ (leE_eq rfl (bnd_encT nf_encM (lt_r rfl)) (leE_i rfl rfl (leE_eq rfl (bnd_nf _ (nf_encL nf_encM)) (leE_i rfl rfl (leE_i rfl rfl trivial)))))) (leO_room (lt_r rfl) rfl trivial) gl0n
          show IntKind.i64.wrap (k + 1) = _
          rw [wrap_id (by unfold in64; omega)]; omega
      · rw [show decide ((at_ xs (k : Int).toNat).day ≥ u) = false from decide_eq_false c1]
        conv => whnf
        refine ⟨k + 1, c, by omega, ?_⟩
        rw [skip (fun h => c1 h.1)]
        refine le_st (le_r rfl) (leE_i rfl ?_ (leE_eq rfl (bnd_encT nf_encM (lt_r rfl)) (leE_i rfl rfl (leE_eq rfl (bnd_nf _ (nf_encL nf_encM)) (leE_i rfl rfl (leE_i rfl rfl trivial)))))) (leO_room (lt_r rfl) rfl trivial) gl0n
        show IntKind.i64.wrap (k + 1) = _
        rw [wrap_id (by unfold in64; omega)]; omega
    · obtain rfl : k = xs.length := by omega
      refine br_false (decide_eq_false (by omega : ¬ ((xs.length : Int) < xs.length))) ?_
      conv => whnf
      rw [List.take_length]
      exact leA_drop.le

end Go.Proofs.Ytjkmmcbfcglkdaa
