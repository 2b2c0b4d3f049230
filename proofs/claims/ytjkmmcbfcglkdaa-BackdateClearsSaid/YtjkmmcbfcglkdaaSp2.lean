/- What the functions on lists of movements compute. -/
import Derived.Test.YtjkmmcbfcglkdaaSp1
namespace Go.Proofs.Ytjkmmcbfcglkdaa
open Go Ar
set_option linter.unusedVariables false
set_option autoImplicit false

/-- A movement: the day, the kind, what changes in each account. -/
structure Mov where
  day : Int
  kind : Int
  ch : Nat → Int
instance : Inhabited Mov := ⟨⟨0, 0, fun _ => 0⟩⟩

def encB (b : Nat → Int) : AV := .st (.cons (.arr 12 1 fun i => I (b i)) .nil)
def encM (m : Mov) : AV := .st (.cons (I m.day) (.cons (I m.kind) (.cons (encB m.ch) .nil)))

theorem nf_encB (b : Nat → Int) : nf (encB b) := ⟨fun _ => trivial, trivial⟩
theorem nf_encM (m : Mov) : nf (encM m) := ⟨trivial, trivial, nf_encB _, trivial⟩

/-- The mark. -/
def mark : Mov := ⟨-7, -7, fun _ => 0⟩

theorem copied_spec (xs : List Mov) (hn : xs.length ≤ 100000) : Pure Try.prog gl0 9 [encL encM 14 xs] (encL encM 14 (xs ++ [mark])) := by
  refine pure_fn mixed Try.func9 Try.ntmps9 hc9 (by simp) gl0n (by simp [nf_encL nf_encM]) (nf_encL nf_encM) ?_
  conv => whnf
  refine loop_at mixed (fun (k : Nat) => ([(4, I k), (3, encT (some 0) encM 14 (xs.take k)), (0, encL encM 14 xs)], [(0, .room (xs.take k).length 14 43)], 1)) (fun k => k ≤ xs.length) (fun k => xs.length - k) 0 (Nat.zero_le _) ?_ ?_
  · refine (le_nil 3 14 43 (fun i => encM (at_ (xs.take 0) i)) rfl).trans (le_st (le_r rfl) ?_ ?_ gl0n)
    · refine leE_i rfl rfl (leE_eq rfl (bnd_encT nf_encM (lt_r rfl)) (leE_eq rfl (bnd_nf _ (nf_encL nf_encM)) trivial))
    · exact leO_room (lt_r rfl) rfl trivial
  · intro k hk
    conv => whnf
    by_cases c : k < xs.length
    · rw [decide_eq_true (by omega : (k : Int) < xs.length)]
      conv => whnf
      refine ⟨by omega, ?_⟩
      conv => whnf
      have ht : (xs.take k).length = k := by rw [List.length_take]; omega
      refine ⟨rfl, by rw [ht]; simp; omega, ?_⟩
      conv => whnf
      refine ⟨k + 1, c, by omega, ?_⟩
      refine le_st (le_r rfl) (leE_i rfl ?_ (leE_le rfl ?_ (bnd_encT nf_encM (lt_r rfl)) (leE_eq rfl (bnd_nf _ (nf_encL nf_encM)) trivial))) ?_ gl0n
      · show IntKind.i64.wrap (k + 1) = _
        rw [wrap_id (by unfold in64; omega)]; omega
      · rw [take_at c]
        exact (leA_snoc (xs := xs.take k) (x := at_ xs k) (enc := encM) (LeA.of_eq rfl)).le
      · refine leO_room (lt_r rfl) ?_ trivial
        rw [take_at c, List.length_append]
        rfl
    · obtain rfl : k = xs.length := by omega
      rw [decide_eq_false (by omega : ¬ ((xs.length : Int) < xs.length))]
      conv => whnf
      rw [List.take_length]
      refine ⟨rfl, by simp; omega, ?_⟩
      conv => whnf
      exact (leA_snoc (xs := xs) (x := mark) (enc := encM) (LeA.of_eq rfl)).le.trans leA_drop.le

theorem same_spec (xs : List Mov) (hn : xs.length ≤ 100000) : Pure Try.prog gl0 12 [encL encM 14 xs, encL encM 14 xs] (B true) := by
  refine pure_fn mixed Try.func12 Try.ntmps12 hc12 (by simp) gl0n (by simp [nf_encL nf_encM]) trivial ?_
  conv => whnf
  rw [decide_eq_false (fun h => h rfl : ¬ ((xs.length : Int) ≠ xs.length))]
  conv => whnf
  refine loop_at mixed (fun (k : Nat) => ([(5, I k), (0, encL encM 14 xs), (1, encL encM 14 xs)], [], 0)) (fun k => k ≤ xs.length) (fun k => xs.length - k) 0 (Nat.zero_le _) ?_ ?_
  · exact le_st (Nat.le_refl _) (leE_i rfl rfl (leE_eq rfl (bnd_nf _ (nf_encL nf_encM)) (leE_eq rfl (bnd_nf _ (nf_encL nf_encM)) trivial))) trivial gl0n
  · intro k hk
    conv => whnf
    by_cases c : k < xs.length
    · rw [decide_eq_true (by omega : (k : Int) < xs.length)]
      conv => whnf
      refine ⟨by omega, ?_⟩
      conv => whnf
      refine ⟨by omega, ?_⟩
      conv => whnf
      refine br_false (congrArg (eqSn true) (eqS_eq rfl)) ?_
      conv => whnf
      refine ⟨k + 1, c, by omega, ?_⟩
      refine le_st (le_r rfl) (leE_i rfl ?_ (leE_eq rfl (bnd_nf _ (nf_encL nf_encM)) (leE_eq rfl (bnd_nf _ (nf_encL nf_encM)) trivial))) trivial gl0n
      show IntKind.i64.wrap (k + 1) = _
      rw [wrap_id (by unfold in64; omega)]; omega
    · obtain rfl : k = xs.length := by omega
      rw [decide_eq_false (by omega : ¬ ((xs.length : Int) < xs.length))]
      conv => whnf
      exact Le.refl _

end Go.Proofs.Ytjkmmcbfcglkdaa
