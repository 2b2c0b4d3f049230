/- A sum cut by weights, the cents that are left to the largest rests: what everyone has, and that it is fair. No condition. -/
import Derived.Test.YtdjmplfjpnikkaaA7
import Derived.Test.YtdjmplfjpnikkaaB3
set_option linter.all false
namespace Go.Proofs.Ytdjmplfjpnikkaa
open Go Ar
set_option linter.unusedVariables false
set_option autoImplicit false
set_option maxHeartbeats 4000000

def sumN (f : Nat → Nat) : Nat → Nat
  | 0 => 0
  | n + 1 => sumN f n + f n
theorem sumN_congr {f g : Nat → Nat} : ∀ n, (∀ i, i < n → f i = g i) → sumN f n = sumN g n
  | 0, _ => rfl
  | n + 1, h => by show sumN f n + f n = sumN g n + g n; rw [sumN_congr n (fun i hi => h i (by omega)), h n (by omega)]
theorem sumN_le {f g : Nat → Nat} : ∀ n, (∀ i, i < n → f i ≤ g i) → sumN f n ≤ sumN g n
  | 0, _ => Nat.le_refl _
  | n + 1, h => Nat.add_le_add (sumN_le n (fun i hi => h i (by omega))) (h n (by omega))
theorem sumN_add (f g : Nat → Nat) : ∀ n, sumN (fun i => f i + g i) n = sumN f n + sumN g n
  | 0 => rfl
  | n + 1 => by show sumN (fun i => f i + g i) n + (f n + g n) = _; rw [sumN_add f g n]; show _ = (sumN f n + f n) + (sumN g n + g n); omega
theorem sumN_mul (c : Nat) (f : Nat → Nat) : ∀ n, sumN (fun i => c * f i) n = c * sumN f n
  | 0 => rfl
  | n + 1 => by show sumN (fun i => c * f i) n + c * f n = c * (sumN f n + f n); rw [sumN_mul c f n, Nat.mul_add]
theorem sumN_at {f : Nat → Nat} : ∀ {n i : Nat}, i < n → f i ≤ sumN f n
  | 0, i, h => absurd h (Nat.not_lt_zero i)
  | n + 1, i, h => by
    show f i ≤ sumN f n + f n
    by_cases c : i = n
    · subst c; omega
    · have := sumN_at (f := f) (n := n) (i := i) (by omega); omega
theorem sumN_mono {f : Nat → Nat} {k n : Nat} (h : k ≤ n) : sumN f k ≤ sumN f n := by
  induction n with
  | zero => rw [Nat.le_zero.1 h]; exact Nat.le_refl _
  | succ n ih =>
    by_cases c : k = n + 1
    · rw [c]; exact Nat.le_refl _
    · exact Nat.le_trans (ih (by omega)) (Nat.le_add_right _ _)

/-- The greatest of some numbers, the first of them. -/
def bestF (f : Nat → Int) : Nat → Nat
  | 0 => 0
  | i + 1 => if f i > f (bestF f i) then i else bestF f i
theorem bestF_spec (f : Nat → Int) : ∀ n, 0 < n → bestF f n < n ∧ (∀ i, i < n → f i ≤ f (bestF f n)) ∧ ∀ i, i < bestF f n → f i < f (bestF f n)
  | 0, h => absurd h (Nat.lt_irrefl 0)
  | 1, _ => by
    have e : bestF f 1 = 0 := if_neg (Int.lt_irrefl _)
    rw [e]
    exact ⟨Nat.one_pos, fun i hi => by rw [Nat.lt_one_iff.1 hi]; exact Int.le_refl _, fun i hi => absurd hi (Nat.not_lt_zero i)⟩
  | n + 2, _ => by
    obtain ⟨h1, h2, h3⟩ := bestF_spec f (n + 1) (Nat.succ_pos n)
    show (if f (n + 1) > f (bestF f (n + 1)) then n + 1 else bestF f (n + 1)) < n + 2 ∧ _
    by_cases c : f (n + 1) > f (bestF f (n + 1))
    · have e : bestF f (n + 2) = n + 1 := if_pos c
      rw [if_pos c, e]
      refine ⟨by omega, fun i hi => ?_, fun i hi => ?_⟩
      · by_cases ci : i = n + 1
        · rw [ci]; exact Int.le_refl _
        · have := h2 i (by omega); omega
      · have := h2 i (by omega); omega
    · have e : bestF f (n + 2) = bestF f (n + 1) := if_neg c
      rw [if_neg c, e]
      refine ⟨by omega, fun i hi => ?_, h3⟩
      by_cases ci : i = n + 1
      · rw [ci]; omega
      · exact h2 i (by omega)

/-- The rests, -1 where one was taken. -/
def rst (r : Nat → Nat) (ch : Nat → Bool) (i : Nat) : Int := if ch i = true then -1 else (r i : Int)
/-- Who has a cent more behind so many rounds. -/
def chS (r : Nat → Nat) (n : Nat) : Nat → Nat → Bool
  | 0 => fun _ => false
  | j + 1 => fun i => chS r n j i || decide (i = bestF (rst r (chS r n j)) n)
theorem rst_no {r : Nat → Nat} {ch : Nat → Bool} {i : Nat} (h : ch i = false) : rst r ch i = (r i : Int) := if_neg (by rw [h]; decide)
def one_ (ch : Nat → Bool) (i : Nat) : Nat := if ch i = true then 1 else 0

theorem sumN_one_set (ch : Nat → Bool) (b : Nat) (hb : ch b = false) : ∀ n, sumN (one_ (fun i => ch i || decide (i = b))) n = sumN (one_ ch) n + if b < n then 1 else 0
  | 0 => rfl
  | n + 1 => by
    show sumN (one_ (fun i => ch i || decide (i = b))) n + one_ (fun i => ch i || decide (i = b)) n = sumN (one_ ch) n + one_ ch n + _
    rw [sumN_one_set ch b hb n]
    unfold one_
    by_cases c : n = b
    · subst c
      simp [hb]
    · by_cases c2 : b < n
      · simp [c, c2, show b < n + 1 by omega]; omega
      · simp [c, c2, show ¬ b < n + 1 by omega]

structure ChI (r : Nat → Nat) (n j : Nat) : Prop where
  cnt : sumN (one_ (chS r n j)) n = j
  pos : ∀ i, chS r n j i = true → i < n ∧ 0 < r i
  ord : ∀ i k, i < n → chS r n j k = true → chS r n j i = false → r i < r k ∨ (r i = r k ∧ k < i)

theorem one_0 : ∀ n, sumN (one_ (fun _ => false)) n = 0
  | 0 => rfl
  | n + 1 => by show sumN (one_ (fun _ => false)) n + one_ (fun _ => false) n = 0; rw [one_0 n]; rfl

theorem ChI.zero (r : Nat → Nat) (n : Nat) : ChI r n 0 := ⟨one_0 n, fun i h => (by cases h), fun i k _ h => (by cases h)⟩

theorem ChI.best {r : Nat → Nat} {n j W L : Nat} (h : ChI r n j) (hW0 : 0 < W) (hr : ∀ i, i < n → r i < W) (hs : sumN r n = L * W) (hj : j < L) : chS r n j (bestF (rst r (chS r n j)) n) = false ∧ bestF (rst r (chS r n j)) n < n ∧ 0 < r (bestF (rst r (chS r n j)) n) := by
  have hW : 0 < L * W := Nat.mul_pos (by omega) hW0
  have hn : 0 < n := by
    rcases Nat.eq_zero_or_pos n with e | e
    · subst e; have : sumN r 0 = 0 := rfl; omega
    · exact e
  obtain ⟨b1, b2, b3⟩ := bestF_spec (rst r (chS r n j)) n hn
  generalize bestF (rst r (chS r n j)) n = b at *
  have ex : ∃ i, i < n ∧ chS r n j i = false ∧ 0 < r i := by
    refine Classical.byContradiction fun hx => ?_
    have h0 : ∀ i, i < n → r i ≤ (W - 1) * one_ (chS r n j) i := fun i hi => by
      unfold one_
      cases c : chS r n j i with
      | true => have := hr i hi; simp; omega
      | false =>
        have : ¬ 0 < r i := fun hp => hx ⟨i, hi, c, hp⟩
        simp; omega
    have h1 := sumN_le n h0
    rw [sumN_mul, h.cnt, hs] at h1
    have h2 : (W - 1) * j ≤ W * j := Nat.mul_le_mul_right _ (Nat.sub_le _ _)
    have h3 : W * j < L * W := by
      rw [Nat.mul_comm L W]
      exact Nat.mul_lt_mul_of_pos_left hj (Nat.pos_of_ne_zero fun e => by rw [e, Nat.mul_zero] at hW; exact absurd hW (Nat.lt_irrefl 0))
    omega
  obtain ⟨i, hi, c, hp⟩ := ex
  have h4 := b2 i hi
  rw [rst_no c] at h4
  cases cb : chS r n j b with
  | true => unfold rst at h4; rw [if_pos cb] at h4; omega
  | false => rw [rst_no cb] at h4; exact ⟨rfl, b1, by omega⟩

theorem ChI.step {r : Nat → Nat} {n j W L : Nat} (h : ChI r n j) (hW0 : 0 < W) (hr : ∀ i, i < n → r i < W) (hs : sumN r n = L * W) (hj : j < L) : ChI r n (j + 1) := by
  obtain ⟨c0, c1, c2⟩ := h.best hW0 hr hs hj
  obtain ⟨b1, b2, b3⟩ := bestF_spec (rst r (chS r n j)) n (by omega)
  have hset : ∀ i, chS r n (j + 1) i = (chS r n j i || decide (i = bestF (rst r (chS r n j)) n)) := fun i => rfl
  refine ⟨?_, fun i hi => ?_, fun i k hi hk hki => ?_⟩
  · show sumN (one_ (fun i => chS r n j i || decide (i = bestF (rst r (chS r n j)) n))) n = j + 1
    rw [sumN_one_set _ _ c0, h.cnt, if_pos c1]
  · rw [hset] at hi
    rcases Bool.or_eq_true_iff.1 hi with hi | hi
    · exact h.pos i hi
    · rw [of_decide_eq_true hi]; exact ⟨c1, c2⟩
  · rw [hset] at hk hki
    obtain ⟨e1, e2⟩ := Bool.or_eq_false_iff.1 hki
    have e3 := of_decide_eq_false e2
    rcases Bool.or_eq_true_iff.1 hk with hk | hk
    · exact h.ord i k hi hk e1
    · have hk := of_decide_eq_true hk
      subst hk
      have h4 := b2 i hi
      have h5 := b3 i
      rw [rst_no e1, rst_no c0] at h4 h5
      generalize bestF (rst r (chS r n j)) n = b at *
      by_cases c : r i = r b
      · refine .inr ⟨c, ?_⟩
        rcases Nat.lt_or_ge i b with h6 | h6
        · have := h5 h6; omega
        · omega
      · exact .inl (by omega)

/-! The parts. -/
def qN (T : Nat) (w : Nat → Nat) (n i : Nat) : Nat := T * w i / sumN w n
def rN (T : Nat) (w : Nat → Nat) (n i : Nat) : Nat := T * w i % sumN w n
def LN (T : Nat) (w : Nat → Nat) (n : Nat) : Nat := T - sumN (qN T w n) n
def pN (T : Nat) (w : Nat → Nat) (n i : Nat) : Nat := qN T w n i + one_ (chS (rN T w n) n (LN T w n)) i

theorem q_r (T : Nat) (w : Nat → Nat) (n : Nat) : sumN w n * sumN (qN T w n) n + sumN (rN T w n) n = T * sumN w n := by
  rw [← sumN_mul, ← sumN_add, ← sumN_mul]
  refine sumN_congr n fun i _ => ?_
  exact Nat.div_add_mod (T * w i) (sumN w n)
theorem q_le {T : Nat} {w : Nat → Nat} {n : Nat} (hW : 0 < sumN w n) : sumN (qN T w n) n ≤ T := by
  have h := q_r T w n
  have h2 : sumN w n * sumN (qN T w n) n ≤ sumN w n * T := by rw [Nat.mul_comm (sumN w n) T]; omega
  exact Nat.le_of_mul_le_mul_left h2 hW
theorem r_sum {T : Nat} {w : Nat → Nat} {n : Nat} (hW : 0 < sumN w n) : sumN (rN T w n) n = LN T w n * sumN w n := by
  have h := q_r T w n
  unfold LN
  rw [Nat.sub_mul, Nat.mul_comm (sumN (qN T w n) n)]
  omega
theorem chI_all {T : Nat} {w : Nat → Nat} {n : Nat} (hW : 0 < sumN w n) : ∀ j, j ≤ LN T w n → ChI (rN T w n) n j
  | 0, _ => ChI.zero _ _
  | j + 1, h => (chI_all hW j (by omega)).step hW (fun i _ => Nat.mod_lt _ hW) (r_sum hW) (by omega)

theorem p_sum {T : Nat} {w : Nat → Nat} {n : Nat} (hW : 0 < sumN w n) : sumN (pN T w n) n = T := by
  show sumN (fun i => qN T w n i + one_ (chS (rN T w n) n (LN T w n)) i) n = T
  rw [sumN_add, (chI_all hW _ (Nat.le_refl _)).cnt]
  have := q_le (T := T) hW
  unfold LN
  omega
theorem p_near {T : Nat} {w : Nat → Nat} {n : Nat} (hW : 0 < sumN w n) (i : Nat) : pN T w n i = qN T w n i ∨ (pN T w n i = qN T w n i + 1 ∧ 0 < rN T w n i) := by
  unfold pN one_
  cases c : chS (rN T w n) n (LN T w n) i with
  | true => exact .inr ⟨rfl, ((chI_all hW _ (Nat.le_refl _)).pos i c).2⟩
  | false => exact .inl rfl
theorem p_more {T : Nat} {w : Nat → Nat} {n i k : Nat} (hW : 0 < sumN w n) (hi : i < n) (hk : k < n) (h : w k < w i) : pN T w n k ≤ pN T w n i := by
  have hc := chI_all (T := T) hW _ (Nat.le_refl _)
  have e1 := Nat.div_add_mod (T * w i) (sumN w n)
  have e2 := Nat.div_add_mod (T * w k) (sumN w n)
  have hq : qN T w n k ≤ qN T w n i := Nat.div_le_div_right (Nat.mul_le_mul_left T (Nat.le_of_lt h))
  unfold pN one_
  rcases Nat.lt_or_ge (qN T w n k) (qN T w n i) with h1 | h1
  · split <;> split <;> omega
  · have hqe : qN T w n k = qN T w n i := Nat.le_antisymm hq h1
    rw [hqe]
    cases c : chS (rN T w n) n (LN T w n) k with
    | false => simp
    | true =>
      cases c2 : chS (rN T w n) n (LN T w n) i with
      | true => exact Nat.le_refl _
      | false =>
        exfalso
        have hp := (hc.pos k c).2
        have ho := hc.ord i k hi c c2
        unfold qN at hqe
        unfold rN at hp ho
        rw [hqe] at e2
        have hT : 0 < T := by
          rcases Nat.eq_zero_or_pos T with e | e
          · subst e; rw [Nat.zero_mul, Nat.zero_mod] at hp; exact absurd hp (Nat.lt_irrefl 0)
          · exact e
        have hlt : T * w k < T * w i := Nat.mul_lt_mul_of_pos_left h hT
        omega
theorem p_same {T : Nat} {w : Nat → Nat} {n i k : Nat} (hW : 0 < sumN w n) (hi : i < n) (hk : k < n) (h : w k = w i) (hki : k < i) : pN T w n i ≤ pN T w n k ∧ pN T w n k ≤ pN T w n i + 1 := by
  have hc := chI_all (T := T) hW _ (Nat.le_refl _)
  have hq : qN T w n k = qN T w n i := by unfold qN; rw [h]
  have hr : rN T w n k = rN T w n i := by unfold rN; rw [h]
  unfold pN one_
  rw [hq]
  cases c : chS (rN T w n) n (LN T w n) i with
  | false =>
    cases c2 : chS (rN T w n) n (LN T w n) k with
    | true => simp
    | false => simp
  | true =>
    cases c2 : chS (rN T w n) n (LN T w n) k with
    | true => simp
    | false =>
      exfalso
      have ho := hc.ord k i hk c c2
      omega

end Go.Proofs.Ytdjmplfjpnikkaa
namespace Go.Proofs.Ytdjmplfjpnikkaa
open Go Ar
set_option linter.unusedVariables false
set_option autoImplicit false
set_option maxHeartbeats 4000000
set_option maxRecDepth 100000

theorem magN (x : Nat) (hx : x < 9223372036854775808) : PureX Try.prog gl0 money_magnitude [I x] (fun r => r = U (x : Nat)) := by
  have h := magnitude_x x (by unfold in64; omega)
  rwa [Int.natAbs_natCast] at h

theorem mul_hi {a b c n : Nat} (ha : a < n) (hb : b ≤ c) (hc : 0 < c) : a * b / n < c := by
  refine (Nat.div_lt_iff_lt_mul (Nat.lt_of_le_of_lt (Nat.zero_le _) ha)).2 ?_
  rw [Nat.mul_comm c n]
  exact Nat.lt_of_le_of_lt (Nat.mul_le_mul_left a hb) (Nat.mul_lt_mul_of_pos_right ha hc)

theorem mul_quo {a b c : Nat} (hb : b ≤ c) (hc : 0 < c) : a * b / c ≤ a :=
  Nat.div_le_of_le_mul (by rw [Nat.mul_comm c a]; exact Nat.mul_le_mul_left a hb)

theorem fd_x (a b c : Nat) (ha : a < 9223372036854775808) (hc : 0 < c) (hc2 : c < 9223372036854775808) (hb : b ≤ c) : PureX Try.prog gl0 money_MulDivFloor [I a, I b, I c] (fun r => r = tup3 (I (a * b / c : Nat)) (I (a * b % c : Nat)) (B true)) := by
  refine pure_fnX mixed fn_money_MulDivFloor nt_money_MulDivFloor hc_money_MulDivFloor (by simp) gl0n (by simp [nf]) ?_
  conv => whnf
  refine br_false (decide_eq_false ((by omega : ¬ ((c : Nat) : Int) ≤ 0))) ?_
  conv => whnf
  rw [wrapN c (by omega)]
  refine call_x2 (magN a ha) (LeL.refl _) ?_
  rintro _ - rfl
  conv => whnf
  refine call_x2 (magN b (by omega)) (LeL.refl _) ?_
  rintro _ - rfl
  conv => whnf
  refine call_x2 (bits_Mul64_x a b (by omega) (by omega)) (LeL.refl _) ?_
  rintro _ - rfl
  conv => whnf
  have f1 : a * b / 18446744073709551616 < c := mul_hi (by omega) hb hc
  have f2 : a * b / c ≤ a := mul_quo hb hc
  generalize a * b = P at *
  refine br_false (decide_eq_false ((by omega : ¬ ((P / 18446744073709551616 : Nat) : Int) ≥ (c : Nat)))) ?_
  conv => whnf
  have hq := bits_Div64_x (P / 18446744073709551616) (P % 18446744073709551616) c (Nat.mod_lt _ (by decide)) (by omega) f1
  rw [Nat.div_add_mod' P 18446744073709551616] at hq
  refine call_x2 hq (LeL.refl _) ?_
  clear hq
  rintro _ - rfl
  conv => whnf
  have hr := Nat.mod_lt P hc
  generalize P / c = Q at *
  generalize P % c = r at *
  refine call_x2 (withSign_x false Q (by omega)) (LeL.refl _) ?_
  rw [show sgnV false Q = tup2 (I Q) (B true) from if_pos (by omega)]
  rintro _ - rfl
  conv => whnf
  refine fin_e ?_
  conv => whnf
  refine ⟨by simp [packA, consL, nf], ?_⟩
  show tup3 (I Q) (I (IntKind.i64.wrap (r : Int))) (B true) = _
  rw [wrap_id (by unfold in64; omega)]

/-- A row of numbers. -/
abbrev encF (n : Nat) (f : Nat → Nat) : AV := .lst none n 1 (fun i => I (f i : Nat))
theorem nf_encF (n : Nat) (f : Nat → Nat) : nf (encF n f) := ⟨rfl, fun _ => trivial⟩

/-- Weights that a division may go by. -/
structure WtN (w : Nat → Nat) (n : Nat) : Prop where
  n1 : 1 ≤ n
  n2 : n ≤ 32
  w : ∀ i, i < n → 1 ≤ w i ∧ w i ≤ 1000000000000
theorem WtN.aux {w : Nat → Nat} : ∀ n, (∀ i, i < n → 1 ≤ w i ∧ w i ≤ 1000000000000) → n ≤ sumN w n ∧ sumN w n ≤ 1000000000000 * n
  | 0, _ => ⟨Nat.le_refl _, Nat.le_refl _⟩
  | n + 1, h => by
    have h1 := h n (Nat.lt_succ_self n)
    have h2 := WtN.aux n (fun i hi => h i (by omega))
    show n + 1 ≤ sumN w n + w n ∧ sumN w n + w n ≤ _
    omega
theorem WtN.sum {w : Nat → Nat} {n : Nat} (h : WtN w n) : 1 ≤ sumN w n ∧ sumN w n ≤ 32000000000000 := by
  have h1 := WtN.aux n h.w
  have h2 := h.n1; have h3 := h.n2
  omega

def lstF (w : Nat → Nat) (n : Nat) : List Int := (List.range n).map fun i => (w i : Int)
theorem lstF_len (w : Nat → Nat) (n : Nat) : (lstF w n).length = n := by simp [lstF]
theorem lstF_sum (w : Nat → Nat) : ∀ n, (lstF w n).sum = (sumN w n : Nat)
  | 0 => rfl
  | n + 1 => by
    have h := lstF_sum w n
    unfold lstF at h ⊢
    rw [List.range_succ, List.map_append, List.sum_append, h]
    show _ = ((sumN w n + w n : Nat) : Int)
    simp
theorem leA_lstF (w : Nat → Nat) (n : Nat) : LeA (encF n w) (encL I 1 (lstF w n)) := by
  unfold encL encT
  rw [lstF_len]
  refine LeA.lst (.inl rfl) fun i hi => LeA.of_eq (congrArg (fun n => I n) ?_)
  rw [at_lt (by rw [lstF_len]; exact hi)]
  simp [lstF]

theorem weighed_x (T n : Nat) (w : Nat → Nat) (h : WtN w n) : PureX Try.prog gl0 money_weighed [I T, encF n w] (fun r => r = tup2 (I (sumN w n : Nat)) (B true)) := by
  refine pure_fnX mixed fn_money_weighed nt_money_weighed hc_money_weighed (by simp) gl0n (by simp [nf]) ?_
  conv => whnf
  have h1 := h.n1
  have h2 := h.n2
  have hs := h.sum
  have hn : (n : Int) < 9223372036854775808 := by omega
  refine br_false (decide_eq_false ((by omega : ¬ (n : Int) < 1))) ?_
  conv => whnf
  refine br_false (decide_eq_false ((by omega : ¬ (n : Int) > 1000))) ?_
  conv => whnf
  refine loop_at mixed (fun (k : Nat) => ([(24, I k), (23, I n), (22, encF n w), (1, encF n w)], [], 0)) (fun k => k ≤ n) (fun k => n - k) 0 (Nat.zero_le _) (le_st (le_r rfl) (leE_i rfl rfl (leE_i rfl rfl (leE_eq rfl (bnd_nf _ (nf_encF _ _)) (leE_eq rfl (bnd_nf _ (nf_encF _ _)) trivial)))) trivial gl0n) ?_
  intro k hk
  conv => whnf
  by_cases c : k < n
  · refine br_true (decide_eq_true ((by omega : (k : Int) < n))) ?_
    conv => whnf
    have hw := h.w k c
    refine ⟨by omega, ?_⟩
    conv => whnf
    exact ⟨k + 1, c, (by show n - (k + 1) < n - k; omega), (le_st (le_r rfl) (leE_i rfl (inc_id c hn) (leE_i rfl rfl (leE_eq rfl (bnd_nf _ (nf_encF _ _)) (leE_eq rfl (bnd_nf _ (nf_encF _ _)) trivial)))) trivial gl0n)⟩
  · refine br_false (decide_eq_false ((by omega : ¬ ((k : Int) < n)))) ?_
    conv => whnf
    refine call_x2 (mSum_x (lstF w n) (fun x hx => by obtain ⟨i, hi, rfl⟩ := List.mem_map.1 hx; have := h.w i (List.mem_range.1 hi); unfold in64; omega) (by rw [lstF_len]; omega)) ⟨(leA_lstF w n).le, trivial⟩ ?_
    rw [lstF_sum, sumV_yes (by unfold in64; omega)]
    rintro _ - rfl
    conv => whnf
    refine br_true (decide_eq_true ((by omega : ((sumN w n : Nat) : Int) > 0))) ?_
    conv => whnf
    refine fin_e ?_
    conv => whnf
    exact ⟨by simp [packA, consL, nf], rfl⟩

end Go.Proofs.Ytdjmplfjpnikkaa
namespace Go.Proofs.Ytdjmplfjpnikkaa
open Go Ar
set_option linter.unusedVariables false
set_option autoImplicit false
set_option maxHeartbeats 4000000
set_option maxRecDepth 100000

theorem leA_setF {n p q : Nat} {g h : Nat → Int} {x : Int} (e : q = p) (hp : h p = x) (ho : ∀ i, i ≠ p → h i = g i) : LeA (.arr n 1 (fun i => selA (i = q) (I x) (I (g i)))) (.arr n 1 (fun i => I (h i))) := by
  subst e
  refine LeA.arr fun i hi => LeA.of_eq ?_
  rw [selA_eq]
  by_cases c : i = q
  · rw [if_pos c, c, hp]
  · rw [if_neg c, ho i c]

theorem okN {i n e : Nat} {f : Nat → AV} : okNav [.idx i n e] (.arr n e f) = true := by simp [okNav, okP, nav]

/-- What has been laid out so far. -/
def upF (f : Nat → Nat) (k i : Nat) : Int := if i < k then (f i : Int) else 0
theorem upF_s {f : Nat → Nat} {k : Nat} : upF f (k + 1) k = (f k : Int) := if_pos (Nat.lt_succ_self k)
theorem upF_o {f : Nat → Nat} {k i : Nat} (h : i ≠ k) : upF f (k + 1) i = upF f k i := by
  unfold upF
  by_cases c : i < k
  · rw [if_pos c, if_pos (by omega)]
  · rw [if_neg c, if_neg (by omega)]

def pJ (T : Nat) (w : Nat → Nat) (n j i : Nat) : Int := ((qN T w n i + one_ (chS (rN T w n) n j) i : Nat) : Int)

theorem q_one {T : Nat} {w : Nat → Nat} {n i : Nat} (hW : 0 < sumN w n) (hi : i < n) : qN T w n i + LN T w n ≤ T := by
  have h1 := q_le (T := T) hW
  have h2 := sumN_at (f := qN T w n) hi
  unfold LN
  omega

def rJ (T : Nat) (w : Nat → Nat) (n j i : Nat) : Int := rst (rN T w n) (chS (rN T w n) n j) i
def bJ (T : Nat) (w : Nat → Nat) (n j i : Nat) : Nat := bestF (rJ T w n j) i
theorem bJ_lt (T : Nat) (w : Nat → Nat) (n j : Nat) (hn : 0 < n) : ∀ i, i ≤ n → bJ T w n j i < n
  | 0, _ => hn
  | i + 1, h => Nat.lt_of_lt_of_le (bestF_spec _ (i + 1) (Nat.succ_pos i)).1 h
theorem bJ_s {T : Nat} {w : Nat → Nat} {n j i : Nat} (h : rJ T w n j i > rJ T w n j (bJ T w n j i)) : bJ T w n j (i + 1) = i := if_pos h
theorem bJ_o {T : Nat} {w : Nat → Nat} {n j i : Nat} (h : ¬ rJ T w n j i > rJ T w n j (bJ T w n j i)) : bJ T w n j (i + 1) = bJ T w n j i := if_neg h

theorem ch_b (T : Nat) (w : Nat → Nat) (n j : Nat) : chS (rN T w n) n (j + 1) (bJ T w n j n) = true := by
  show (chS (rN T w n) n j _ || decide (_ = bestF (rst (rN T w n) (chS (rN T w n) n j)) n)) = true
  rw [Bool.or_eq_true_iff]
  exact .inr (decide_eq_true rfl)
theorem ch_o {T : Nat} {w : Nat → Nat} {n j i : Nat} (h : i ≠ bJ T w n j n) : chS (rN T w n) n (j + 1) i = chS (rN T w n) n j i := by
  show (chS (rN T w n) n j i || decide (i = bestF (rst (rN T w n) (chS (rN T w n) n j)) n)) = _
  rw [decide_eq_false (show ¬ i = bestF (rst (rN T w n) (chS (rN T w n) n j)) n from h), Bool.or_false]
theorem pJ_b {T : Nat} {w : Nat → Nat} {n j : Nat} (c0 : chS (rN T w n) n j (bJ T w n j n) = false) : pJ T w n (j + 1) (bJ T w n j n) = pJ T w n j (bJ T w n j n) + 1 := by
  unfold pJ one_
  rw [ch_b, c0]
  simp
theorem pJ_o {T : Nat} {w : Nat → Nat} {n j i : Nat} (h : i ≠ bJ T w n j n) : pJ T w n (j + 1) i = pJ T w n j i := by
  unfold pJ one_
  rw [ch_o h]
theorem rJ_b (T : Nat) (w : Nat → Nat) (n j : Nat) : rJ T w n (j + 1) (bJ T w n j n) = -1 := if_pos (ch_b T w n j)
theorem rJ_o {T : Nat} {w : Nat → Nat} {n j i : Nat} (h : i ≠ bJ T w n j n) : rJ T w n (j + 1) i = rJ T w n j i := by
  unfold rJ rst
  rw [ch_o h]
theorem pJ_0 (T : Nat) (w : Nat → Nat) (n i : Nat) : pJ T w n 0 i = (qN T w n i : Nat) := rfl
theorem rJ_0 (T : Nat) (w : Nat → Nat) (n i : Nat) : rJ T w n 0 i = (rN T w n i : Nat) := rfl
theorem pJ_in {T : Nat} {w : Nat → Nat} {n j : Nat} (hT : T < 9223372036854775808) (hW : 0 < sumN w n) (hj : j < LN T w n) (hb : bJ T w n j n < n) (c0 : chS (rN T w n) n j (bJ T w n j n) = false) : IntKind.i64.wrap (pJ T w n j (bJ T w n j n) + 1) = pJ T w n (j + 1) (bJ T w n j n) := by
  have h := q_one (T := T) hW hb
  rw [pJ_b c0]
  refine wrap_id ?_
  unfold pJ one_
  rw [c0]
  unfold in64
  simp only [Bool.false_eq_true, if_false]
  omega

theorem split_x (T n : Nat) (w : Nat → Nat) (hT : T < 9223372036854775808) (h : WtN w n) : PureX Try.prog gl0 money_Split [I T, encF n w] (fun r => r = tup2 (encF n (pN T w n)) (B true)) := by
  refine pure_fnX mixed fn_money_Split nt_money_Split hc_money_Split (by simp) gl0n (by simp [nf]) ?_
  conv => whnf
  have h1 := h.n1
  have h2 := h.n2
  have hs := h.sum
  have hn : (n : Int) < 9223372036854775808 := by omega
  have hW : 0 < sumN w n := by omega
  refine call_x2 (weighed_x T n w h) (LeL.refl _) ?_
  rintro _ - rfl
  conv => whnf
  repeat' first
    | (refine And.intro (by first | omega | (constructor <;> omega) | (refine ⟨by omega, by omega, by omega⟩)) ?_; (conv => whnf))
  refine loop_at mixed (fun (k : Nat) => ([(33, I k), (32, I n), (31, encF n w), (0, I T), (6, I (sumN w n : Nat)), (8, .sli 0 0 n 1 2), (9, .sli 1 0 n 1 2), (10, I (T - sumN (qN T w n) k : Nat))], [(0, .box (.arr n 1 (fun i => I (upF (qN T w n) k i)))), (1, .box (.arr n 1 (fun i => I (upF (rN T w n) k i))))], 2)) (fun k => k ≤ n) (fun k => n - k) 0 (Nat.zero_le _) (le_st (le_r rfl) (leE_i rfl rfl (leE_i rfl rfl (leE_eq rfl (bnd_nf _ (nf_encF _ _)) (leE_i rfl rfl (leE_i rfl rfl (leE_eq rfl (.inl (lt_r rfl)) (leE_eq rfl (.inl (lt_r rfl)) (leE_i rfl rfl trivial)))))))) (leO_box (lt_r rfl) rfl (LeA.arr (fun i hi => LeA.refl _) ) (bnd_nf _ ( (fun i => trivial))) (leO_box (lt_r rfl) rfl (LeA.arr (fun i hi => LeA.refl _) ) (bnd_nf _ ( (fun i => trivial))) trivial)) gl0n) ?_
  intro k hk
  conv => whnf
  by_cases c : k < n
  · refine br_true (decide_eq_true ((by omega : (k : Int) < n))) ?_
    conv => whnf
    have hw := h.w k c
    have hwk := sumN_at (f := w) c
    refine ⟨by omega, ?_⟩
    conv => whnf
    refine call_x2 (fd_x T (w k) (sumN w n) hT hW (by omega) hwk) (LeL.refl _) ?_
    rintro _ - rfl
    conv => whnf
    repeat' first
      | (refine And.intro (by first | omega | (constructor <;> omega)) ?_; (conv => whnf))
      | (rw [okN]; (conv => whnf))
    have hq := q_le (T := T) hW
    have hm := sumN_mono (f := qN T w n) (k := k + 1) (n := n) c
    have hsk : sumN (qN T w n) (k + 1) = sumN (qN T w n) k + qN T w n k := rfl
    refine ⟨k + 1, c, (by show n - (k + 1) < n - k; omega), (le_st (le_r rfl) (leE_i rfl (inc_id c hn) (leE_i rfl rfl (leE_eq rfl (bnd_nf _ (nf_encF _ _)) (leE_i rfl rfl (leE_i rfl rfl (leE_eq rfl (.inl (lt_r rfl)) (leE_eq rfl (.inl (lt_r rfl)) (leE_i rfl (?_) trivial)))))))) (leO_box (lt_r rfl) rfl (leA_setF (Nat.zero_add _) upF_s (fun i hi => upF_o hi) ) (bnd_nf _ ( (fun i => trivial))) (leO_box (lt_r rfl) rfl (leA_setF (Nat.zero_add _) upF_s (fun i hi => upF_o hi) ) (bnd_nf _ ( (fun i => trivial))) trivial)) gl0n)⟩
    rw [if_pos rfl, show ((T * w k / sumN w n : Nat) : Int) = (qN T w n k : Nat) from rfl, wrap_id (by unfold in64; omega), hsk]
    omega
  · refine br_false (decide_eq_false ((by omega : ¬ ((k : Int) < n)))) ?_
    conv => whnf
    have hk2 : k = n := by omega
    refine loop_at mixed (fun (j : Nat) => ([(10, I (LN T w n - j : Nat)), (8, .sli 0 0 n 1 2), (9, .sli 1 0 n 1 2)], [(0, .box (.arr n 1 (fun i => I (pJ T w n j i)))), (1, .box (.arr n 1 (fun i => I (rJ T w n j i))))], 2)) (fun j => j ≤ LN T w n) (fun j => LN T w n - j) 0 (Nat.zero_le _) (le_st (le_r rfl) (leE_i rfl ((by rw [hk2]; rfl)) (leE_eq rfl (.inl (lt_r rfl)) (leE_eq rfl (.inl (lt_r rfl)) trivial))) (leO_box (lt_r rfl) rfl (LeA.arr (fun i hi => LeA.of_eq (congrArg (fun n => I n) (if_pos (by omega)))) ) (bnd_nf _ ( (fun i => trivial))) (leO_box (lt_r rfl) rfl (LeA.arr (fun i hi => LeA.of_eq (congrArg (fun n => I n) (if_pos (by omega)))) ) (bnd_nf _ ( (fun i => trivial))) trivial)) gl0n) ?_
    clear hk2 c hk
    intro j hj
    conv => whnf
    by_cases cj : j < LN T w n
    · refine br_true (decide_eq_true ((by omega : ((LN T w n - j : Nat) : Int) > 0))) ?_
      conv => whnf
      have hI := chI_all (T := T) hW j hj
      obtain ⟨c0, c1, c2⟩ := hI.best hW (fun i _ => Nat.mod_lt _ hW) (r_sum hW) cj
      have c0 : chS (rN T w n) n j (bJ T w n j n) = false := c0
      have c1 : bJ T w n j n < n := c1
      clear c2
      refine loop_at mixed (fun (i : Nat) => ([(65, I i), (64, I n), (63, .sli 1 0 n 1 2), (13, I (bJ T w n j i : Nat)), (10, I (LN T w n - j : Nat)), (8, .sli 0 0 n 1 2), (9, .sli 1 0 n 1 2)], [(0, .box (.arr n 1 (fun i => I (pJ T w n j i)))), (1, .box (.arr n 1 (fun i => I (rJ T w n j i))))], 2)) (fun i => i ≤ n) (fun i => n - i) 0 (Nat.zero_le _) (le_st (le_r rfl) (leE_i rfl rfl (leE_i rfl rfl (leE_eq rfl (.inl (lt_r rfl)) (leE_i rfl rfl (leE_i rfl rfl (leE_eq rfl (.inl (lt_r rfl)) (leE_eq rfl (.inl (lt_r rfl)) trivial))))))) (leO_box (lt_r rfl) rfl (LeA.refl _) (bnd_nf _ ((fun i => trivial))) (leO_box (lt_r rfl) rfl (LeA.refl _) (bnd_nf _ ((fun i => trivial))) trivial)) gl0n) ?_
      intro i hi
      conv => whnf
      by_cases ci : i < n
      · refine br_true (decide_eq_true ((by omega : (i : Int) < n))) ?_
        conv => whnf
        have hb := bJ_lt T w n j (by omega) i hi
        repeat' first
          | (refine And.intro (by first | omega | (constructor <;> omega)) ?_; (conv => whnf))
          | (rw [okN]; (conv => whnf))
        have z1 : 0 + Int.toNat (i : Int) = i := Nat.zero_add _
        have z2 : 0 + Int.toNat (bJ T w n j i : Int) = bJ T w n j i := Nat.zero_add _
        rw [z1, z2]
        by_cases cg : rJ T w n j i > rJ T w n j (bJ T w n j i)
        · refine br_true (decide_eq_true (cg)) ?_
          conv => whnf
          exact ⟨i + 1, ci, (by show n - (i + 1) < n - i; omega), (le_st (le_r rfl) (leE_i rfl (inc_id ci hn) (leE_i rfl rfl (leE_eq rfl (.inl (lt_r rfl)) (leE_i rfl ((by rw [bJ_s cg])) (leE_i rfl rfl (leE_eq rfl (.inl (lt_r rfl)) (leE_eq rfl (.inl (lt_r rfl)) trivial))))))) (leO_box (lt_r rfl) rfl (LeA.refl _) (bnd_nf _ ((fun i => trivial))) (leO_box (lt_r rfl) rfl (LeA.refl _) (bnd_nf _ ((fun i => trivial))) trivial)) gl0n)⟩
        · refine br_false (decide_eq_false (cg)) ?_
          conv => whnf
          exact ⟨i + 1, ci, (by show n - (i + 1) < n - i; omega), (le_st (le_r rfl) (leE_i rfl (inc_id ci hn) (leE_i rfl rfl (leE_eq rfl (.inl (lt_r rfl)) (leE_i rfl ((by rw [bJ_o cg])) (leE_i rfl rfl (leE_eq rfl (.inl (lt_r rfl)) (leE_eq rfl (.inl (lt_r rfl)) trivial))))))) (leO_box (lt_r rfl) rfl (LeA.refl _) (bnd_nf _ ((fun i => trivial))) (leO_box (lt_r rfl) rfl (LeA.refl _) (bnd_nf _ ((fun i => trivial))) trivial)) gl0n)⟩
      · refine br_false (decide_eq_false ((by omega : ¬ ((i : Int) < n)))) ?_
        conv => whnf
        have hi2 : i = n := by omega
        subst hi2
        have hLT : LN T w i ≤ T := Nat.sub_le _ _
        repeat' first
          | (refine And.intro (by first | omega | (constructor <;> omega)) ?_; (conv => whnf))
          | (rw [okN]; (conv => whnf))
        exact ⟨j + 1, cj, (by show LN T w i - (j + 1) < LN T w i - j; omega), (le_st (le_r rfl) (leE_i rfl ((by rw [wrap_id (by unfold in64; omega)]; omega)) (leE_eq rfl (.inl (lt_r rfl)) (leE_eq rfl (.inl (lt_r rfl)) trivial))) (leO_box (lt_r rfl) rfl (leA_setF (Nat.zero_add _) (by rw [show 0 + Int.toNat (bJ T w i j i : Int) = bJ T w i j i from Nat.zero_add _]; exact (pJ_in hT hW cj c1 c0).symm) (fun q hq => pJ_o hq) ) (bnd_nf _ ( (fun i => trivial))) (leO_box (lt_r rfl) rfl (leA_setF (Nat.zero_add _) (rJ_b T w i j) (fun q hq => rJ_o hq) ) (bnd_nf _ ( (fun i => trivial))) trivial)) gl0n)⟩
    · refine br_false (decide_eq_false ((by omega : ¬ ((LN T w n - j : Nat) : Int) > 0))) ?_
      conv => whnf
      have hj2 : j = LN T w n := by omega
      refine fin_le (le_freeze 4 0 rfl rfl) ?_
      refine fin_r (tup2 (encF n (pN T w n)) (B true)) ⟨nf_encF _ _, trivial, trivial⟩ rfl ?_
      conv => whnf
      rw [hj2]
      exact Le.refl _

end Go.Proofs.Ytdjmplfjpnikkaa
namespace Go.Proofs.Ytdjmplfjpnikkaa
open Go Ar
set_option linter.unusedVariables false
set_option autoImplicit false
set_option maxHeartbeats 4000000
set_option maxRecDepth 100000

theorem col1_ptr : PtrFn Try.prog remit_columns_c1 1 := fun w b x => by
  refine calls_of_wp fn_remit_columns_c1 rfl ?_
  apply wp_seq
  apply wp_region
  simp [wpOps, go_sem]
  left
  apply wp_seq
  apply wp_region
  simp [wpOps, go_sem]
  refine .inl (.inl (.inl (.inl ?_)))
  refine wp_ret ?_
  refine ⟨rfl, .pointer (some ⟨b, x + 1, none⟩), ?_, rfl, rfl⟩
  simp [results, Try.results35]

theorem col1_ok : FnOk Try.prog remit_columns_c1 := ⟨Try.f35, _, fn_remit_columns_c1, by kernel_rfl, rfl⟩

theorem col2_ptr : PtrFn Try.prog remit_columns_c2 2 := fun w b x => by
  refine calls_of_wp fn_remit_columns_c2 rfl ?_
  apply wp_seq
  apply wp_region
  simp [wpOps, go_sem]
  left
  apply wp_seq
  apply wp_region
  simp [wpOps, go_sem]
  refine .inl (.inl (.inl (.inl ?_)))
  refine wp_ret ?_
  refine ⟨rfl, .pointer (some ⟨b, x + 2, none⟩), ?_, rfl, rfl⟩
  simp [results, Try.results36]

theorem col2_ok : FnOk Try.prog remit_columns_c2 := ⟨Try.f36, _, fn_remit_columns_c2, by kernel_rfl, rfl⟩

end Go.Proofs.Ytdjmplfjpnikkaa
namespace Go.Proofs.Ytdjmplfjpnikkaa
open Go Ar
set_option linter.unusedVariables false
set_option autoImplicit false
set_option maxHeartbeats 4000000
set_option maxRecDepth 100000

structure Shr where
  inv : Int
  w : Int
instance : Inhabited Shr := ⟨⟨0, 0⟩⟩
def encShr (x : Shr) : AV := .st (.cons (I x.inv) (.cons (I x.w) .nil))
theorem nf_encShr (x : Shr) : nf (encShr x) := ⟨trivial, trivial, trivial⟩
theorem nfL_Shr (e : Nat) (xs : List Shr) : nf (encL encShr e xs) := nf_encL nf_encShr
attribute [simp] nf_encShr nfL_Shr nf_encF

def lastI (xs : List Shr) : Nat → Int
  | 0 => 0
  | k + 1 => (at_ xs k).inv
def leftI (xs : List Shr) : Nat → Int
  | 0 => 1000000000000
  | k + 1 => leftI xs k - (at_ xs k).w
/-- May that share be, behind the others? -/
def shOk (xs : List Shr) (k : Nat) : Prop := lastI xs k < (at_ xs k).inv ∧ (at_ xs k).inv ≤ 999999 ∧ 1 ≤ (at_ xs k).w ∧ (at_ xs k).w ≤ leftI xs k
instance (xs : List Shr) (k : Nat) : Decidable (shOk xs k) := by unfold shOk; infer_instance
/-- The error and the place that shares get. -/
def shV (xs : List Shr) : Int × Int := if xs.length = 0 then (2, 0) else if xs.length > 32 then (1, 0) else match (List.range xs.length).find? (fun i => !decide (shOk xs i)) with
  | some i => (2, i)
  | none => (0, 0)

theorem shV_at {xs : List Shr} {k : Nat} (h1 : xs.length ≠ 0) (h2 : ¬ xs.length > 32) (h : ∀ j, j < k → shOk xs j) (hk : k < xs.length) (hq : ¬ shOk xs k) : shV xs = (2, (k : Int)) := by
  unfold shV
  rw [if_neg h1, if_neg h2, show (List.range xs.length).find? (fun i => !decide (shOk xs i)) = some k from List.find?_range_eq_some.2 ⟨by simp [hq], List.mem_range.2 hk, fun j hj => by simp [h j hj]⟩]
theorem shV_end {xs : List Shr} (h1 : xs.length ≠ 0) (h2 : ¬ xs.length > 32) (h : ∀ j, j < xs.length → shOk xs j) : shV xs = (0, 0) := by
  unfold shV
  rw [if_neg h1, if_neg h2, List.find?_eq_none.2 (fun x hx => by simp [h x (List.mem_range.1 hx)])]
theorem shV_0 {xs : List Shr} (h : (shV xs).1 = 0) : 1 ≤ xs.length ∧ xs.length ≤ 32 ∧ ∀ j, j < xs.length → shOk xs j := by
  unfold shV at h
  split at h
  · cases h
  · split at h
    · cases h
    · split at h
      · cases h
      · rename_i h1 h2 _ h3
        refine ⟨by omega, by omega, fun j hj => ?_⟩
        have := List.find?_eq_none.1 h3 j (List.mem_range.2 hj)
        simpa using this
theorem leftI_rng {xs : List Shr} : ∀ k, (∀ j, j < k → shOk xs j) → 0 ≤ leftI xs k ∧ leftI xs k ≤ 1000000000000
  | 0, _ => ⟨(by decide : (0 : Int) ≤ 1000000000000), (by decide : (1000000000000 : Int) ≤ 1000000000000)⟩
  | k + 1, h => by
    have h1 := leftI_rng k (fun j hj => h j (by omega))
    obtain ⟨_, _, h3, h4⟩ := h k (Nat.lt_succ_self k)
    show 0 ≤ leftI xs k - (at_ xs k).w ∧ leftI xs k - (at_ xs k).w ≤ _
    omega

theorem check_x (xs : List Shr) (hn : (xs.length : Int) < 9223372036854775808) : PureX Try.prog gl0 remit_Check [encL encShr 2 xs] (fun r => r = tup2 (I (shV xs).1) (I (shV xs).2)) := by
  refine pure_fnX mixed fn_remit_Check nt_remit_Check hc_remit_Check (by simp) gl0n (by simp [nf]) ?_
  conv => whnf
  by_cases z : xs.length = 0
  · refine br_true (decide_eq_true ((by omega : (xs.length : Int) = 0))) ?_
    conv => whnf
    refine fin_e ?_
    conv => whnf
    unfold shV
    rw [if_pos z]
    exact ⟨by simp [packA, consL, nf], rfl⟩
  · refine br_false (decide_eq_false ((by omega : ¬ (xs.length : Int) = 0))) ?_
    conv => whnf
    by_cases z2 : xs.length > 32
    · refine br_true (decide_eq_true ((by omega : (xs.length : Int) > 32))) ?_
      conv => whnf
      refine fin_e ?_
      conv => whnf
      unfold shV
      rw [if_neg z, if_pos z2]
      exact ⟨by simp [packA, consL, nf], rfl⟩
    · refine br_false (decide_eq_false ((by omega : ¬ (xs.length : Int) > 32))) ?_
      conv => whnf
      refine loop_at mixed (fun (k : Nat) => ([(18, I k), (17, I xs.length), (0, encL encShr 2 xs), (4, I (lastI xs k)), (5, I (leftI xs k))], [], 0)) (fun k => k ≤ xs.length ∧ ∀ j, j < k → shOk xs j) (fun k => xs.length - k) 0 ⟨Nat.zero_le _, fun j hj => absurd hj (Nat.not_lt_zero j)⟩ (le_st (le_r rfl) (leE_i rfl rfl (leE_i rfl rfl (leE_eq rfl (bnd_nf _ (nfL_Shr _ _)) (leE_i rfl rfl (leE_i rfl rfl trivial))))) trivial gl0n) ?_
      rintro k ⟨hk, hok⟩
      conv => whnf
      by_cases c : k < xs.length
      · refine br_true (decide_eq_true ((by omega : (k : Int) < xs.length))) ?_
        conv => whnf
        have hl := leftI_rng k hok
        refine ⟨by omega, ?_⟩
        conv => whnf
        by_cases k1 : (at_ xs k).inv ≤ lastI xs k
        · refine br_true (decide_eq_true (k1)) ?_
          conv => whnf
          refine fin_e ?_
          conv => whnf
          rw [shV_at z z2 hok c (fun h => by have := h.1; omega)]
          exact ⟨by simp [packA, consL, nf], rfl⟩
        · refine br_false (decide_eq_false (k1)) ?_
          conv => whnf
          by_cases k2 : (at_ xs k).inv > 999999
          · refine br_true (decide_eq_true (k2)) ?_
            conv => whnf
            refine fin_e ?_
            conv => whnf
            rw [shV_at z z2 hok c (fun h => by have := h.2.1; omega)]
            exact ⟨by simp [packA, consL, nf], rfl⟩
          · refine br_false (decide_eq_false (k2)) ?_
            conv => whnf
            by_cases k3 : (at_ xs k).w < 1
            · refine br_true (decide_eq_true (k3)) ?_
              conv => whnf
              refine fin_e ?_
              conv => whnf
              rw [shV_at z z2 hok c (fun h => by have := h.2.2.1; omega)]
              exact ⟨by simp [packA, consL, nf], rfl⟩
            · refine br_false (decide_eq_false (k3)) ?_
              conv => whnf
              by_cases k4 : (at_ xs k).w > leftI xs k
              · refine br_true (decide_eq_true (k4)) ?_
                conv => whnf
                refine fin_e ?_
                conv => whnf
                rw [shV_at z z2 hok c (fun h => by have := h.2.2.2; omega)]
                exact ⟨by simp [packA, consL, nf], rfl⟩
              · refine br_false (decide_eq_false (k4)) ?_
                conv => whnf
                exact ⟨k + 1, ⟨c, fun j hj => by (by_cases e : j = k; (rw [e]; exact ⟨by omega, by omega, by omega, by omega⟩); exact hok j (by omega))⟩, (by show xs.length - (k + 1) < xs.length - k; omega), (le_st (le_r rfl) (leE_i rfl (inc_id c hn) (leE_i rfl rfl (leE_eq rfl (bnd_nf _ (nfL_Shr _ _)) (leE_i rfl rfl (leE_i rfl (wrap_id (by unfold in64; show _ ≤ leftI xs k - (at_ xs k).w ∧ leftI xs k - (at_ xs k).w ≤ _; omega)) trivial))))) trivial gl0n)⟩
      · refine br_false (decide_eq_false ((by omega : ¬ ((k : Int) < xs.length)))) ?_
        conv => whnf
        have hk2 : k = xs.length := by omega
        rw [hk2] at hok
        refine fin_e ?_
        conv => whnf
        rw [shV_end z z2 hok]
        exact ⟨by simp [packA, consL, nf], rfl⟩

theorem r29_check_x (xs : List Shr) (hn : (xs.length : Int) < 9223372036854775808) : PureX Try.prog gl0 r29_Check [encL encShr 2 xs] (fun r => r = tup2 (I (shV xs).1) (I (shV xs).2)) := by
  refine pure_fnX mixed fn_r29_Check nt_r29_Check hc_r29_Check (by simp) gl0n (by simp [nf]) ?_
  conv => whnf
  by_cases z : xs.length = 0
  · refine br_true (decide_eq_true ((by omega : (xs.length : Int) = 0))) ?_
    conv => whnf
    refine fin_e ?_
    conv => whnf
    unfold shV
    rw [if_pos z]
    exact ⟨by simp [packA, consL, nf], rfl⟩
  · refine br_false (decide_eq_false ((by omega : ¬ (xs.length : Int) = 0))) ?_
    conv => whnf
    by_cases z2 : xs.length > 32
    · refine br_true (decide_eq_true ((by omega : (xs.length : Int) > 32))) ?_
      conv => whnf
      refine fin_e ?_
      conv => whnf
      unfold shV
      rw [if_neg z, if_pos z2]
      exact ⟨by simp [packA, consL, nf], rfl⟩
    · refine br_false (decide_eq_false ((by omega : ¬ (xs.length : Int) > 32))) ?_
      conv => whnf
      refine loop_at mixed (fun (k : Nat) => ([(6, I k), (0, encL encShr 2 xs), (4, I (lastI xs k)), (5, I (leftI xs k))], [], 0)) (fun k => k ≤ xs.length ∧ ∀ j, j < k → shOk xs j) (fun k => xs.length - k) 0 ⟨Nat.zero_le _, fun j hj => absurd hj (Nat.not_lt_zero j)⟩ (le_st (le_r rfl) (leE_i rfl rfl (leE_eq rfl (bnd_nf _ (nfL_Shr _ _)) (leE_i rfl rfl (leE_i rfl rfl trivial)))) trivial gl0n) ?_
      rintro k ⟨hk, hok⟩
      conv => whnf
      by_cases c : k < xs.length
      · refine br_true (decide_eq_true ((by omega : (k : Int) < xs.length))) ?_
        conv => whnf
        have hl := leftI_rng k hok
        refine ⟨by omega, ?_⟩
        conv => whnf
        by_cases k1 : (at_ xs k).inv ≤ lastI xs k
        · refine br_true (decide_eq_true (k1)) ?_
          conv => whnf
          refine fin_e ?_
          conv => whnf
          rw [shV_at z z2 hok c (fun h => by have := h.1; omega)]
          exact ⟨by simp [packA, consL, nf], rfl⟩
        · refine br_false (decide_eq_false (k1)) ?_
          conv => whnf
          by_cases k2 : (at_ xs k).inv > 999999
          · refine br_true (decide_eq_true (k2)) ?_
            conv => whnf
            refine fin_e ?_
            conv => whnf
            rw [shV_at z z2 hok c (fun h => by have := h.2.1; omega)]
            exact ⟨by simp [packA, consL, nf], rfl⟩
          · refine br_false (decide_eq_false (k2)) ?_
            conv => whnf
            by_cases k3 : (at_ xs k).w < 1
            · refine br_true (decide_eq_true (k3)) ?_
              conv => whnf
              refine fin_e ?_
              conv => whnf
              rw [shV_at z z2 hok c (fun h => by have := h.2.2.1; omega)]
              exact ⟨by simp [packA, consL, nf], rfl⟩
            · refine br_false (decide_eq_false (k3)) ?_
              conv => whnf
              by_cases k4 : (at_ xs k).w > leftI xs k
              · refine br_true (decide_eq_true (k4)) ?_
                conv => whnf
                refine fin_e ?_
                conv => whnf
                rw [shV_at z z2 hok c (fun h => by have := h.2.2.2; omega)]
                exact ⟨by simp [packA, consL, nf], rfl⟩
              · refine br_false (decide_eq_false (k4)) ?_
                conv => whnf
                exact ⟨k + 1, ⟨c, fun j hj => by (by_cases e : j = k; (rw [e]; exact ⟨by omega, by omega, by omega, by omega⟩); exact hok j (by omega))⟩, (by show xs.length - (k + 1) < xs.length - k; omega), (le_st (le_r rfl) (leE_i rfl (inc_id c hn) (leE_eq rfl (bnd_nf _ (nfL_Shr _ _)) (leE_i rfl rfl (leE_i rfl (wrap_id (by unfold in64; show _ ≤ leftI xs k - (at_ xs k).w ∧ leftI xs k - (at_ xs k).w ≤ _; omega)) trivial)))) trivial gl0n)⟩
      · refine br_false (decide_eq_false ((by omega : ¬ ((k : Int) < xs.length)))) ?_
        conv => whnf
        have hk2 : k = xs.length := by omega
        rw [hk2] at hok
        refine fin_e ?_
        conv => whnf
        rw [shV_end z z2 hok]
        exact ⟨by simp [packA, consL, nf], rfl⟩

end Go.Proofs.Ytdjmplfjpnikkaa
