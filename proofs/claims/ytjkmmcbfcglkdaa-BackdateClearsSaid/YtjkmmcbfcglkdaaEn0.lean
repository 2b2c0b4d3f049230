/- The plain law of a change's moves: no program in sight. -/
import Derived.Test.YtjkmmcbfcglkdaaArO
namespace Go.Proofs.Ytjkmmcbfcglkdaa
open Go Ar
set_option linter.unusedVariables false
set_option autoImplicit false

def sumTo (b : Nat → Int) : Nat → Int
  | 0 => 0
  | n + 1 => sumTo b n + b n

def upB (j : Nat) (x : Int) (b : Nat → Int) : Nat → Int := fun i => if i = j then x else b i

theorem sumTo_up (j : Nat) (x : Int) (b : Nat → Int) : ∀ n, sumTo (upB j x b) n = sumTo b n + if j < n then x - b j else 0
  | 0 => by simp [sumTo]
  | n + 1 => by
    simp only [sumTo, sumTo_up j x b n, upB]
    by_cases h : n = j
    · subst h; simp; omega
    · by_cases h2 : j < n
      · rw [if_pos h2, if_neg h, if_pos (by omega)]; omega
      · rw [if_neg h2, if_neg h, if_neg (by omega)]; omega

theorem sumTo_neg (b : Nat → Int) : ∀ n, (∀ i, i < n → b i ≤ 0) → sumTo b n ≤ 0 ∧ ((∃ j, j < n ∧ b j < 0) → sumTo b n < 0)
  | 0, _ => ⟨Int.le_refl _, fun ⟨j, h, _⟩ => absurd h (Nat.not_lt_zero j)⟩
  | n + 1, h => by
    obtain ⟨h1, h2⟩ := sumTo_neg b n (fun i hi => h i (by omega))
    have h3 := h n (by omega)
    refine ⟨by simp only [sumTo]; omega, fun ⟨j, hj, hn⟩ => ?_⟩
    simp only [sumTo]
    by_cases e : j = n
    · subst e; omega
    · have := h2 ⟨j, by omega, hn⟩; omega

theorem sumTo_pos (b : Nat → Int) : ∀ n, (∀ i, i < n → 0 ≤ b i) → 0 ≤ sumTo b n ∧ ((∃ j, j < n ∧ 0 < b j) → 0 < sumTo b n)
  | 0, _ => ⟨Int.le_refl _, fun ⟨j, h, _⟩ => absurd h (Nat.not_lt_zero j)⟩
  | n + 1, h => by
    obtain ⟨h1, h2⟩ := sumTo_pos b n (fun i hi => h i (by omega))
    have h3 := h n (by omega)
    refine ⟨by simp only [sumTo]; omega, fun ⟨j, hj, hn⟩ => ?_⟩
    simp only [sumTo]
    by_cases e : j = n
    · subst e; omega
    · have := h2 ⟨j, by omega, hn⟩; omega

/-- The first of twelve. -/
def Fst (p : Nat → Prop) (j : Nat) : Prop := j < 12 ∧ p j ∧ ∀ i, i < j → ¬ p i

theorem Fst.unique {p : Nat → Prop} {i j : Nat} (h : Fst p i) (h' : Fst p j) : i = j := by
  rcases Nat.lt_trichotomy i j with l | l | l
  · exact absurd h.2.1 (h'.2.2 i l)
  · exact l
  · exact absurd h'.2.1 (h.2.2 j l)

theorem exists_fst {p : Nat → Prop} : ∀ n, n < 12 → p n → ∃ j, Fst p j := by
  intro n
  induction n using Nat.strongRecOn with
  | ind n ih =>
    intro hn hp
    by_cases h : ∃ i, i < n ∧ p i
    · obtain ⟨i, hi, hpi⟩ := h
      exact ih i hi (by omega) hpi
    · exact ⟨n, hn, hp, fun i hi hpi => h ⟨i, hi, hpi⟩⟩

noncomputable def fstOf (p : Nat → Prop) : Nat := open Classical in if h : ∃ j, Fst p j then h.choose else 12

theorem fstOf_eq {p : Nat → Prop} {j : Nat} (h : Fst p j) : fstOf p = j := by
  have hx : ∃ j, Fst p j := ⟨j, h⟩
  unfold fstOf
  rw [dif_pos hx]
  exact hx.choose_spec.unique h

/-- A change that balances, its numbers such as can be turned. -/
structure Bal (b : Nat → Int) : Prop where
  low : ∀ i, i < 12 → -9223372036854775807 ≤ b i ∧ b i ≤ 9223372036854775807
  sum : sumTo b 12 = 0

def zeroP (b : Nat → Int) : Prop := ∀ i, i < 12 → b i = 0

def nz (b : Nat → Int) : Nat := (List.range 12).countP fun i => decide (b i ≠ 0)

theorem countP_lt {α : Type} {p q : α → Bool} : ∀ (l : List α), (∀ x ∈ l, p x = true → q x = true) → (∃ x ∈ l, q x = true ∧ p x = false) → l.countP p < l.countP q
  | [], _, ⟨x, h, _⟩ => by cases h
  | a :: r, h, ⟨x, hx, hq, hp⟩ => by
    have hr : r.countP p ≤ r.countP q := List.countP_mono_left (fun x hx => h x (List.mem_cons_of_mem _ hx))
    rw [List.countP_cons, List.countP_cons]
    rcases List.mem_cons.1 hx with e | e
    · subst e
      rw [hq, hp]
      simp; omega
    · have := countP_lt r (fun x hx => h x (List.mem_cons_of_mem _ hx)) ⟨x, e, hq, hp⟩
      have h2 := h a (List.mem_cons_self ..)
      cases ha : p a with
      | true => rw [h2 ha]; simp; omega
      | false => simp only [Bool.false_eq_true, if_false]; omega

theorem nz_le (b : Nat → Int) : nz b ≤ 12 := by
  have := List.countP_le_length (p := fun i => decide (b i ≠ 0)) (l := List.range 12)
  simpa [nz] using this

theorem nz_zero {b : Nat → Int} (h : nz b = 0) : zeroP b := by
  intro i hi
  have := List.countP_eq_zero.1 h i (List.mem_range.2 hi)
  simpa using this

theorem zero_nz {b : Nat → Int} (h : zeroP b) : nz b = 0 :=
  List.countP_eq_zero.2 fun i hi => by simp [h i (List.mem_range.1 hi)]

theorem Bal.has {b : Nat → Int} (h : Bal b) (hz : ¬ zeroP b) : (∃ d, Fst (fun i => b i > 0) d) ∧ ∃ c, Fst (fun i => b i < 0) c := by
  have hne : ∃ i, i < 12 ∧ b i ≠ 0 := by
    apply Classical.byContradiction
    intro hn
    exact hz fun i hi => Classical.byContradiction fun hb => hn ⟨i, hi, hb⟩
  obtain ⟨i, hi, hb⟩ := hne
  constructor
  · apply Classical.byContradiction
    intro hn
    have hall : ∀ j, j < 12 → b j ≤ 0 := fun j hj => Classical.byContradiction fun hb => hn (exists_fst j hj (by omega))
    have h1 := (sumTo_neg b 12 hall).2 ⟨i, hi, by have := hall i hi; omega⟩
    have := h.sum; omega
  · apply Classical.byContradiction
    intro hn
    have hall : ∀ j, j < 12 → 0 ≤ b j := fun j hj => Classical.byContradiction fun hb => hn (exists_fst j hj (by omega))
    have h1 := (sumTo_pos b 12 hall).2 ⟨i, hi, by have := hall i hi; omega⟩
    have := h.sum; omega

/-- One move. -/
structure Ent where
  d : Nat
  c : Nat
  n : Int
instance : Inhabited Ent := ⟨⟨0, 0, 0⟩⟩

def amt (b : Nat → Int) (d c : Nat) : Int := if b d ≤ -(b c) then b d else -(b c)
def nxt (b : Nat → Int) (d c : Nat) : Nat → Int := upB c (b c + amt b d c) (upB d (b d - amt b d c) b)

theorem step {b : Nat → Int} (h : Bal b) {d c : Nat} (hd : Fst (fun i => b i > 0) d) (hc : Fst (fun i => b i < 0) c) :
    d ≠ c ∧ 1 ≤ amt b d c ∧ amt b d c ≤ 9223372036854775807 ∧ Bal (nxt b d c) ∧ nz (nxt b d c) < nz b := by
  obtain ⟨d1, d2, _⟩ := hd
  obtain ⟨c1, c2, _⟩ := hc
  have hne : d ≠ c := by rintro rfl; omega
  have ld := h.low d d1
  have lc := h.low c c1
  have ha : 1 ≤ amt b d c ∧ amt b d c ≤ b d ∧ amt b d c ≤ -(b c) ∧ (amt b d c = b d ∨ amt b d c = -(b c)) := by unfold amt; split <;> omega
  obtain ⟨a1, a2, a3, a4⟩ := ha
  have hv : ∀ i, nxt b d c i = if i = c then b c + amt b d c else if i = d then b d - amt b d c else b i := fun i => rfl
  refine ⟨hne, a1, by omega, ⟨fun i hi => ?_, ?_⟩, ?_⟩
  · rw [hv]
    have := h.low i hi
    split
    · omega
    · split <;> omega
  · unfold nxt
    rw [sumTo_up, sumTo_up, h.sum, if_pos d1, if_pos c1]
    have : upB d (b d - amt b d c) b c = b c := if_neg (Ne.symm hne)
    rw [this]; omega
  · refine countP_lt _ (fun i hi hp => ?_) ?_
    · have hp := of_decide_eq_true hp
      refine decide_eq_true ?_
      rw [hv] at hp
      split at hp
      · rename_i e; subst e; omega
      · split at hp
        · rename_i e; subst e; omega
        · exact hp
    · rcases a4 with e | e
      · refine ⟨d, List.mem_range.2 d1, decide_eq_true (by omega), decide_eq_false ?_⟩
        rw [hv, if_neg hne, if_pos rfl]; omega
      · refine ⟨c, List.mem_range.2 c1, decide_eq_true (by omega), decide_eq_false ?_⟩
        rw [hv, if_pos rfl]; omega

open Classical in
noncomputable def ents : Nat → (Nat → Int) → List Ent
  | 0, _ => []
  | k + 1, b => if zeroP b then [] else
    let d := fstOf fun i => b i > 0
    let c := fstOf fun i => b i < 0
    ⟨d, c, amt b d c⟩ :: ents k (nxt b d c)

theorem ents_zero {b : Nat → Int} (h : zeroP b) (k : Nat) : ents k b = [] := by
  cases k with
  | zero => rfl
  | succ k => unfold ents; rw [if_pos h]

theorem ents_fuel : ∀ (k m : Nat) (b : Nat → Int), Bal b → nz b ≤ k → nz b ≤ m → ents k b = ents m b
  | 0, m, b, _, hk, _ => by rw [ents_zero (nz_zero (by omega)), ents_zero (nz_zero (by omega))]
  | k + 1, 0, b, _, _, hm => by rw [ents_zero (nz_zero (by omega)), ents_zero (nz_zero (by omega))]
  | k + 1, m + 1, b, h, hk, hm => by
    by_cases hz : zeroP b
    · rw [ents_zero hz, ents_zero hz]
    · obtain ⟨⟨d, hd⟩, ⟨c, hc⟩⟩ := h.has hz
      obtain ⟨_, _, _, hb, hl⟩ := step h hd hc
      unfold ents
      rw [if_neg hz, if_neg hz]
      simp only [fstOf_eq hd, fstOf_eq hc]
      rw [ents_fuel k m _ hb (by omega) (by omega)]

theorem ents_step {b : Nat → Int} (h : Bal b) {d c : Nat} (hd : Fst (fun i => b i > 0) d) (hc : Fst (fun i => b i < 0) c) : ents 12 b = ⟨d, c, amt b d c⟩ :: ents 12 (nxt b d c) := by
  have hz : ¬ zeroP b := fun hz => by have h1 := hd.2.1; have h2 := hz d hd.1; omega
  obtain ⟨_, _, _, hb, hl⟩ := step h hd hc
  have hle := nz_le b
  rw [ents_fuel 12 13 b h hle (by omega)]
  conv => lhs; unfold ents
  rw [if_neg hz]
  simp only [fstOf_eq hd, fstOf_eq hc]

end Go.Proofs.Ytjkmmcbfcglkdaa
