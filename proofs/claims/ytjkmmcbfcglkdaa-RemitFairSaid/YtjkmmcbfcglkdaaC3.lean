/- The statement RemitFair: its law. No condition. -/
import Derived.Test.YtjkmmcbfcglkdaaC2
import Derived.Test.YtjkmmcbfcglkdaaA8
set_option linter.all false
namespace Go.Proofs.Ytjkmmcbfcglkdaa
open Go Ar
set_option linter.unusedVariables false
set_option autoImplicit false
set_option maxHeartbeats 4000000
set_option maxRecDepth 100000

def tyShr : Ty := .st (.cons (.int .i64) (.cons (.int .i64) .nil))
theorem of_Shr {a : AV} (h : Of tyShr a) : ∃ x : Shr, LeA a (encShr x) ∧ True := by
  obtain ⟨b, rfl, c, d, rfl, h1, d1, d2, rfl, h2, rfl⟩ := h
  obtain ⟨n, rfl, _⟩ := of_i64 h1
  obtain ⟨m, rfl, _⟩ := of_i64 h2
  exact ⟨⟨n, m⟩, LeA.refl _, trivial⟩

theorem law8_x (xs : List Shr) (rate p q : Int) (hn : (xs.length : Int) < 9223372036854775808) (hp : in64 p) (hq : in64 q) : Pure Try.prog gl0 l29_RemitFair [encL encShr 2 xs, I rate, I p, I q] (B true) := by
  refine pure_fn mixed fn_l29_RemitFair nt_l29_RemitFair hc_l29_RemitFair (by simp) gl0n (by simp [nf]) (by simp [nf]) ?_
  conv => whnf
  refine call_x2 (works_x ()) trivial ?_
  rintro _ - rfl
  conv => whnf
  refine call_x2 (may_x xs rate hn) (LeL.refl _) ?_
  rintro _ - rfl
  by_cases hm : (shV xs).1 = 0 ∧ 0 ≤ rate ∧ rate ≤ 10000
  · rw [decide_eq_true hm]
    obtain ⟨hm, hr1, hr2⟩ := hm
    conv => whnf
    by_cases c1 : p < 0
    · refine br_true (decide_eq_true (c1)) ?_
      conv => whnf
      exact Le.refl _
    · refine br_false (decide_eq_false (c1)) ?_
      conv => whnf
      by_cases c2 : q < 0
      · refine br_true (decide_eq_true (c2)) ?_
        conv => whnf
        exact Le.refl _
      · refine br_false (decide_eq_false (c2)) ?_
        conv => whnf
        unfold in64 at hp hq
        obtain ⟨a, rfl⟩ : ∃ a : Nat, p = a := ⟨p.toNat, by omega⟩
        obtain ⟨b, rfl⟩ : ∃ b : Nat, q = b := ⟨q.toNat, by omega⟩
        obtain ⟨r, rfl⟩ : ∃ r : Nat, rate = r := ⟨rate.toNat, by omega⟩
        have hl := shV_0 hm
        refine call_x2 (ownS_x xs hl.2.1) (LeL.refl _) ?_
        rintro _ - rfl
        conv => whnf
        refine And.intro (by simp only [List.length_append, List.length_cons, List.length_nil]; constructor <;> omega) ?_
        conv => whnf
        refine And.intro (by omega) ?_
        conv => whnf
        refine call_x2 (Due_x xs r a b hm (by omega) (by omega) (by omega)) ⟨(LeA.lst (.inr rfl) fun i hi => LeA.of_eq (congrArg encShr ?_)).le, Le.refl _, Le.refl _, Le.refl _, trivial⟩ ?_
        · rw [Nat.add_zero]
          exact at_append_left (show i < xs.length from hi)
        rintro _ - rfl
        have hf := bps_le (s := b) (r := r) (by omega)
        generalize bpsN b r = fee at hf ⊢
        conv => whnf
        refine br_true (decide_eq_true ((by omega : ((fee : Nat) : Int) ≤ (b : Nat)))) ?_
        conv => whnf
        refine call_x2 (fair_x xs a (b - fee) hm (by omega) (by omega)) ⟨Le.refl _, Le.refl _, Le.refl _, Le.of_eq (congrArg (fun n => I n) (show IntKind.i64.wrap ((b : Int) - (fee : Nat)) = ((b - fee : Nat) : Int) by rw [wrap_id (by unfold in64; omega)]; omega)), trivial⟩ ?_
        rintro _ - rfl
        conv => whnf
        exact Le.refl _
  · rw [decide_eq_false hm]
    conv => whnf
    exact Le.refl _

end Go.Proofs.Ytjkmmcbfcglkdaa
