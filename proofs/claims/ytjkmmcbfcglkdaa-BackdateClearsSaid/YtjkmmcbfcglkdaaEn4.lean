/- The plain law of a change's moves, more: they add up to it; at most eleven. -/
import Derived.Test.YtjkmmcbfcglkdaaEn2
namespace Go.Proofs.Ytjkmmcbfcglkdaa
open Go Ar
set_option linter.unusedVariables false
set_option autoImplicit false

theorem nz_one {b : Nat → Int} (h : Bal b) : nz b ≠ 1 := by
  intro h1
  have hz : ¬ zeroP b := fun hz => by rw [zero_nz hz] at h1; omega
  obtain ⟨⟨d, hd⟩, ⟨c, hc⟩⟩ := h.has hz
  obtain ⟨hne, _, _, hb, hl⟩ := step h hd hc
  have h0 : zeroP (nxt b d c) := nz_zero (by omega)
  -- two numbers that aren't 0, but one is counted
  have hd2 := hd.2.1
  have hc2 := hc.2.1
  have := countP_lt (p := fun i => decide (i = d)) (q := fun i => decide (b i ≠ 0)) (List.range 12)
    (fun x _ hx => by have := of_decide_eq_true hx; subst this; exact decide_eq_true (by omega))
    ⟨c, List.mem_range.2 hc.1, decide_eq_true (by omega), decide_eq_false (Ne.symm hne)⟩
  have h2 : 0 < (List.range 12).countP fun i => decide (i = d) := List.countP_pos_iff.2 ⟨d, List.mem_range.2 hd.1, by simp⟩
  unfold nz at h1
  omega

theorem ents_few : ∀ (k : Nat) (b : Nat → Int), Bal b → (ents k b).length + 1 ≤ nz b ∨ (ents k b).length = 0
  | 0, b, _ => .inr rfl
  | k + 1, b, h => by
    by_cases hz : zeroP b
    · right; rw [ents_zero hz]; rfl
    · obtain ⟨⟨d, hd⟩, ⟨c, hc⟩⟩ := h.has hz
      obtain ⟨_, _, _, hb, hl⟩ := step h hd hc
      have h1 := nz_one h
      have h2 : nz b ≠ 0 := fun h0 => hz (nz_zero h0)
      left
      unfold ents
      rw [if_neg hz]
      simp only [fstOf_eq hd, fstOf_eq hc, List.length_cons]
      rcases ents_few k _ hb with l | l
      · omega
      · rw [l]; omega

theorem ents_eleven {b : Nat → Int} (h : Bal b) : (ents 12 b).length ≤ 11 := by
  have := nz_le b
  rcases ents_few 12 b h with l | l <;> omega

def acc (l : List Ent) (a : Nat) : Int := (l.map fun e => (if a = e.d then e.n else 0) - (if a = e.c then e.n else 0)).sum

theorem acc_snoc (l : List Ent) (e : Ent) (a : Nat) : acc (l ++ [e]) a = acc l a + ((if a = e.d then e.n else 0) - (if a = e.c then e.n else 0)) := by simp [acc]

theorem ents_acc : ∀ (k : Nat) (b : Nat → Int), Bal b → nz b ≤ k → ∀ a, a < 12 → acc (ents k b) a = b a
  | 0, b, h, hk, a, ha => by rw [show b a = 0 from nz_zero (by omega) a ha]; rfl
  | k + 1, b, h, hk, a, ha => by
    by_cases hz : zeroP b
    · rw [ents_zero hz, hz a ha]; rfl
    · obtain ⟨⟨d, hd⟩, ⟨c, hc⟩⟩ := h.has hz
      obtain ⟨hne, _, _, hb, hl⟩ := step h hd hc
      unfold ents
      rw [if_neg hz]
      simp only [fstOf_eq hd, fstOf_eq hc]
      have ih := ents_acc k (nxt b d c) hb (by omega) a ha
      unfold acc at ih ⊢
      rw [List.map_cons, List.sum_cons, ih]
      show (if a = d then amt b d c else 0) - (if a = c then amt b d c else 0) + (if a = c then b c + amt b d c else if a = d then b d - amt b d c else b a) = b a
      by_cases e1 : a = c
      · subst e1
        rw [if_neg (Ne.symm hne), if_pos rfl, if_pos rfl]; omega
      · rw [if_neg e1, if_neg e1]
        by_cases e2 : a = d
        · subst e2
          rw [if_pos rfl, if_pos rfl]; omega
        · rw [if_neg e2, if_neg e2]; omega

def OkE (e : Ent) : Prop := 1 ≤ e.n ∧ e.n ≤ 9223372036854775807 ∧ e.d < 12 ∧ e.c < 12 ∧ e.c ≠ e.d

theorem ents_ok : ∀ (k : Nat) (b : Nat → Int), Bal b → ∀ e ∈ ents k b, OkE e
  | 0, b, h, e, he => by cases he
  | k + 1, b, h, e, he => by
    by_cases hz : zeroP b
    · rw [ents_zero hz] at he; cases he
    · obtain ⟨⟨d, hd⟩, ⟨c, hc⟩⟩ := h.has hz
      obtain ⟨hne, h1, h2, hb, hl⟩ := step h hd hc
      unfold ents at he
      rw [if_neg hz] at he
      simp only [fstOf_eq hd, fstOf_eq hc] at he
      rcases List.mem_cons.1 he with rfl | he
      · exact ⟨h1, h2, hd.1, hc.1, Ne.symm hne⟩
      · exact ents_ok k _ hb e he

/-- What the law makes of the numbers that come in. -/
def pickN (xs : List Int) (i : Nat) : Int := if i < xs.length ∧ at_ xs i > -500000000000000000 ∧ at_ xs i < 500000000000000000 then at_ xs i else 0

def mkB (xs : List Int) : Nat → Int := upB 11 (-(sumTo (pickN xs) 11)) (fun i => if i < 11 then pickN xs i else 0)

theorem pickN_bound (xs : List Int) (i : Nat) : -500000000000000000 ≤ pickN xs i ∧ pickN xs i ≤ 500000000000000000 := by unfold pickN; split <;> omega

theorem sumP_bound (xs : List Int) : ∀ n : Nat, -500000000000000000 * (n : Int) ≤ sumTo (pickN xs) n ∧ sumTo (pickN xs) n ≤ 500000000000000000 * (n : Int)
  | 0 => by simp [sumTo]
  | n + 1 => by
    have := sumP_bound xs n
    have h := pickN_bound xs n
    simp only [sumTo]
    omega

theorem sumTo_cong {b c : Nat → Int} : ∀ n, (∀ i, i < n → b i = c i) → sumTo b n = sumTo c n
  | 0, _ => rfl
  | n + 1, h => by simp only [sumTo]; rw [sumTo_cong n (fun i hi => h i (by omega)), h n (by omega)]

theorem mkB_sum (xs : List Int) : sumTo (mkB xs) 12 = 0 := by
  have h : sumTo (mkB xs) 11 = sumTo (pickN xs) 11 := sumTo_cong 11 fun i hi => by
    show (if i = 11 then _ else if i < 11 then pickN xs i else 0) = _
    rw [if_neg (by omega), if_pos hi]
  have h2 : mkB xs 11 = -(sumTo (pickN xs) 11) := by unfold mkB upB; rw [if_pos rfl]
  show sumTo (mkB xs) 11 + mkB xs 11 = 0
  rw [h, h2]; omega

theorem mkB_bound (xs : List Int) (i : Nat) : -5500000000000000000 ≤ mkB xs i ∧ mkB xs i ≤ 5500000000000000000 := by
  have h1 := sumP_bound xs 11
  have h2 := pickN_bound xs i
  show -5500000000000000000 ≤ (if i = 11 then _ else if i < 11 then pickN xs i else 0) ∧ (if i = 11 then _ else if i < 11 then pickN xs i else 0) ≤ 5500000000000000000
  split
  · omega
  · split <;> omega

theorem mkB_bal (xs : List Int) : balP (mkB xs) := ⟨fun i hi => by have := mkB_bound xs i; omega, mkB_sum xs⟩
theorem mkB_ok (xs : List Int) : OkB (mkB xs) := fun i hi => by have := mkB_bound xs i; unfold in64; omega

def mkB1 (xs : List Int) : Nat → Int := upB 0 (mkB xs 0 + 1) (mkB xs)
theorem mkB1_ok (xs : List Int) : OkB (mkB1 xs) := fun i hi => by
  have h1 := mkB_bound xs i
  have h2 := mkB_bound xs 0
  show in64 (if i = 0 then mkB xs 0 + 1 else mkB xs i)
  unfold in64
  split <;> omega
theorem mkB1_not (xs : List Int) : ¬ balP (mkB1 xs) := fun h => by
  have := h.2
  unfold mkB1 at this
  rw [sumTo_up, mkB_sum, if_pos (by omega)] at this
  omega

theorem wrap_add (x y : Int) : IntKind.i64.wrap (IntKind.i64.wrap x + y) = IntKind.i64.wrap (x + y) := by
  simp only [wrap_i64]; split <;> split <;> split <;> omega
theorem wrap_sub (x y : Int) : IntKind.i64.wrap (IntKind.i64.wrap x - y) = IntKind.i64.wrap (x - y) := by
  simp only [wrap_i64]; split <;> split <;> split <;> omega

end Go.Proofs.Ytjkmmcbfcglkdaa
