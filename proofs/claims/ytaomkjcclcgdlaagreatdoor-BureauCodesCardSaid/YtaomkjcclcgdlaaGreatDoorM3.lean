/- Sums in two halves: what they come to. No condition. -/
import Derived.Test.YtaomkjcclcgdlaaGreatDoorL1
import Derived.Test.YtaomkjcclcgdlaaGreatDoorK7
import Derived.Test.YtaomkjcclcgdlaaGreatDoorM1
import Derived.Test.YtaomkjcclcgdlaaGreatDoorM2
set_option linter.all false
namespace Go.Proofs.YtaomkjcclcgdlaaGreatDoor
open Go Ar
set_option linter.unusedVariables false
set_option autoImplicit false
set_option maxHeartbeats 4000000
set_option maxRecDepth 100000

theorem r1_high_x (x : Int) : Pure Tryz.prog gl0 r1_high [I x] (I (x / 4294967296)) := by
  refine pure_fn mixed fn_r1_high nt_r1_high hc_r1_high (by simp) gl0n (by simp [nf]) (by simp [nf]) ?_
  conv => whnf
  refine ⟨by omega, ?_⟩
  conv => whnf
  refine Le.of_eq ?_
  have : (2 : Int) ^ min (Int.toNat 32) IntKind.i64.bits = 4294967296 := by decide
  show I (x.fdiv (2 ^ min (Int.toNat 32) IntKind.i64.bits)) = _
  rw [this, Int.fdiv_eq_ediv_of_nonneg _ (by omega)]

theorem r1_low_x (x : Int) (hx : in64 x) : Pure Tryz.prog gl0 r1_lowOf [I x] (I (x % 4294967296)) := by
  refine pure_fn mixed fn_r1_lowOf nt_r1_lowOf hc_r1_lowOf (by simp) gl0n (by simp [nf]) (by simp [nf]) ?_
  conv => whnf
  refine call_pure (r1_high_x x) (LeL.refl _) ?_
  conv => whnf
  refine Le.of_eq ?_
  obtain ⟨h1, h2⟩ := hx
  show I (IntKind.i64.wrap (x - IntKind.i64.wrap (x / 4294967296 * 4294967296))) = _
  rw [wrap_id (n := x / 4294967296 * 4294967296) (by unfold in64; omega), wrap_id (by unfold in64; omega)]
  congr 2
  omega

instance (n : Int) : Decidable (in64 n) := by unfold in64; infer_instance

abbrev sumV (S : Int) : AV := tup2 (I (if in64 S then S else 0)) (B (decide (in64 S)))
theorem sumV_yes {S : Int} (h : in64 S) : sumV S = tup2 (I S) (B true) := by unfold sumV; rw [if_pos h, decide_eq_true h]
theorem sumV_no {S : Int} (h : ¬ in64 S) : sumV S = tup2 (I 0) (B false) := by unfold sumV; rw [if_neg h, decide_eq_false h]

theorem r1_joined_x (h l : Int) (hh : -4611686018427387904 ≤ h ∧ h ≤ 4611686018427387904) (hl : 0 ≤ l ∧ l ≤ 4611686018427387904) : Pure Tryz.prog gl0 r1_joined [I h, I l] (sumV (h * 4294967296 + l)) := by
  refine pure_fn mixed fn_r1_joined nt_r1_joined hc_r1_joined (by simp) gl0n (by simp [nf]) (by simp [nf]) ?_
  conv => whnf
  have e2 : (2 : Int) ^ min (Int.toNat 32) IntKind.i64.bits = 4294967296 := by decide
  have e3 : l.fdiv (2 ^ min (Int.toNat 32) IntKind.i64.bits) = l / 4294967296 := by rw [e2, Int.fdiv_eq_ediv_of_nonneg _ (by omega)]
  have e4 : IntKind.i64.wrap (h + l / 4294967296) = h + l / 4294967296 := wrap_id (by unfold in64; omega)
  have e5 : IntKind.i64.wrap (l - IntKind.i64.wrap (l / 4294967296 * 4294967296)) = l % 4294967296 := by
    rw [wrap_id (n := l / 4294967296 * 4294967296) (by unfold in64; omega), wrap_id (by unfold in64; omega)]; omega
  refine ⟨by omega, ?_⟩
  conv => whnf
  have q1 : (decide (IntKind.i64.wrap (h + l.fdiv (2 ^ min (Int.toNat 32) IntKind.i64.bits)) < -2147483648)) = decide (h + l / 4294967296 < -2147483648) := by rw [e3, e4]
  have q2 : (decide (IntKind.i64.wrap (h + l.fdiv (2 ^ min (Int.toNat 32) IntKind.i64.bits)) > 2147483647)) = decide (h + l / 4294967296 > 2147483647) := by rw [e3, e4]
  conv => whnf
  rw [q1]
  by_cases c1 : h + l / 4294967296 < -2147483648
  · rw [decide_eq_true c1]
    conv => whnf
    have : ¬ in64 (h * 4294967296 + l) := by unfold in64; omega
    refine Le.of_eq ?_
    rw [sumV_no this]
    rfl
  · rw [decide_eq_false c1]
    conv => whnf
    rw [q2]
    by_cases c2 : h + l / 4294967296 > 2147483647
    · rw [decide_eq_true c2]
      conv => whnf
      have : ¬ in64 (h * 4294967296 + l) := by unfold in64; omega
      refine Le.of_eq ?_
      rw [sumV_no this]
      rfl
    · rw [decide_eq_false c2]
      conv => whnf
      have hin : in64 (h * 4294967296 + l) := by unfold in64; omega
      refine Le.of_eq ?_
      rw [sumV_yes hin]
      have e6 : IntKind.i64.wrap (IntKind.i64.wrap (IntKind.i64.wrap (h + l.fdiv (2 ^ min (Int.toNat 32) IntKind.i64.bits)) * 4294967296) + IntKind.i64.wrap (l - IntKind.i64.wrap (l.fdiv (2 ^ min (Int.toNat 32) IntKind.i64.bits) * 4294967296))) = h * 4294967296 + l := by
        rw [e3, e4, e5, wrap_id (n := (h + l / 4294967296) * 4294967296) (by unfold in64; omega), wrap_id (by unfold in64; omega)]
        omega
      show AV.tup (.cons (I (IntKind.i64.wrap (IntKind.i64.wrap (IntKind.i64.wrap (h + l.fdiv (2 ^ min (Int.toNat 32) IntKind.i64.bits)) * 4294967296) + IntKind.i64.wrap (l - IntKind.i64.wrap (l.fdiv (2 ^ min (Int.toNat 32) IntKind.i64.bits) * 4294967296))))) _) = _
      rw [e6]
      rfl

/-! Sums of a list, by halves. -/
def sumH (xs : List Int) : Int := (xs.map (· / 4294967296)).sum
def sumL (xs : List Int) : Int := (xs.map (· % 4294967296)).sum

theorem sum_halves (xs : List Int) : sumH xs * 4294967296 + sumL xs = xs.sum := by
  induction xs with
  | nil => rfl
  | cons a r ih => simp only [sumH, sumL, List.map_cons, List.sum_cons] at *; omega

theorem sum_bounds (xs : List Int) (h : ∀ x ∈ xs, in64 x) : -2147483648 * (xs.length : Int) ≤ sumH xs ∧ sumH xs ≤ 2147483647 * (xs.length : Int) ∧ 0 ≤ sumL xs ∧ sumL xs ≤ 4294967295 * (xs.length : Int) := by
  induction xs with
  | nil => simp [sumH, sumL]
  | cons a r ih =>
    have ih := ih (fun x hx => h x (List.mem_cons_of_mem _ hx))
    have ha := h a (List.mem_cons_self ..)
    obtain ⟨h1, h2⟩ := ha
    simp only [sumH, sumL, List.map_cons, List.sum_cons, List.length_cons] at *
    omega

theorem sumH_snoc (xs : List Int) (x : Int) : sumH (xs ++ [x]) = sumH xs + x / 4294967296 := by simp [sumH]
theorem sumL_snoc (xs : List Int) (x : Int) : sumL (xs ++ [x]) = sumL xs + x % 4294967296 := by simp [sumL]

theorem r1_Sum_x (xs : List Int) (h : ∀ x ∈ xs, in64 x) (hn : xs.length ≤ 500000000) : Pure Tryz.prog gl0 r1_Sum [encL I 1 xs] (sumV xs.sum) := by
  refine pure_fn mixed fn_r1_Sum nt_r1_Sum hc_r1_Sum (by simp) gl0n (by simp [nf]) (by simp [nf]) ?_
  conv => whnf
  refine loop_at mixed (fun (k : Nat) => ([(6, I k), (4, I (sumH (xs.take k))), (5, I (sumL (xs.take k))), (0, encL I 1 xs)], [], 0)) (fun k => k ≤ xs.length) (fun k => xs.length - k) 0 (Nat.zero_le _) (le_st (le_r rfl) (leE_i rfl rfl (leE_i rfl rfl (leE_i rfl rfl (leE_eq rfl (bnd_nf _ (nfL_I _ _)) trivial)))) trivial gl0n) ?_
  intro k hk
  conv => whnf
  have hn2 : (xs.length : Int) < 9223372036854775808 := by omega
  by_cases c : k < xs.length
  · refine br_true (decide_eq_true ((by omega : (k : Int) < xs.length))) ?_
    conv => whnf
    refine ⟨by omega, ?_⟩
    conv => whnf
    have hx := h _ (at_mem c)
    refine call_pure (r1_high_x (at_ xs k)) ⟨Le.refl _, trivial⟩ ?_
    conv => whnf
    refine ⟨by omega, ?_⟩
    conv => whnf
    refine call_pure (r1_low_x (at_ xs k) hx) ⟨Le.refl _, trivial⟩ ?_
    conv => whnf
    have b1 := sum_bounds (xs.take (k + 1)) (fun x hm => h x (List.mem_of_mem_take hm))
    have b2 : (xs.take (k + 1)).length ≤ 500000000 := by rw [List.length_take]; omega
    rw [take_at c, sumH_snoc, sumL_snoc] at b1
    rw [take_at c] at b2
    refine ⟨k + 1, c, (by show xs.length - (k + 1) < xs.length - k; omega), (le_st (le_r rfl) (leE_i rfl (inc_id c hn2) (leE_i rfl ?_ (leE_i rfl ?_ (leE_eq rfl (bnd_nf _ (nfL_I _ _)) trivial)))) trivial gl0n)⟩
    · show IntKind.i64.wrap (sumH (xs.take k) + at_ xs k / 4294967296) = _
      rw [wrap_id (by unfold in64; omega), take_at c, sumH_snoc]
    · show IntKind.i64.wrap (sumL (xs.take k) + at_ xs k % 4294967296) = _
      rw [wrap_id (by unfold in64; omega), take_at c, sumL_snoc]
  · obtain rfl : k = xs.length := by omega
    refine br_false (decide_eq_false ((by omega : ¬ ((xs.length : Int) < xs.length)))) ?_
    conv => whnf
    have hb := sum_bounds xs h
    refine call_pure (r1_joined_x _ _ (by rw [List.take_length]; omega) (by rw [List.take_length]; omega)) (LeL.refl _) ?_
    rw [List.take_length, sum_halves]
    conv => whnf
    exact Le.refl _

end Go.Proofs.YtaomkjcclcgdlaaGreatDoor
namespace Go.Proofs.YtaomkjcclcgdlaaGreatDoor
open Go Ar
set_option linter.unusedVariables false
set_option autoImplicit false
set_option maxHeartbeats 4000000
set_option maxRecDepth 100000

/-- What the rows 0 to k - 1 come to. -/
def pre (pl : List Ins) : Nat → Int
  | 0 => 0
  | k + 1 => pre pl k + (at_ pl k).int + (at_ pl k).prin

def rowOk (pl : List Ins) (i : Nat) : Prop := 1 ≤ (at_ pl i).due ∧ (at_ pl i).due ≤ 3652059 ∧ 0 ≤ (at_ pl i).int ∧ 0 ≤ (at_ pl i).prin ∧ (0 < i → (at_ pl (i - 1)).due < (at_ pl i).due)
instance (pl : List Ins) (i : Nat) : Decidable (rowOk pl i) := by unfold rowOk; infer_instance

def sndP (pl : List Ins) : Prop := (∀ i, i < pl.length → rowOk pl i) ∧ in64 (pre pl pl.length)
instance (pl : List Ins) : Decidable (sndP pl) := by unfold sndP in64; infer_instance

theorem pre_step {pl : List Ins} (h : ∀ i, i < pl.length → rowOk pl i) {k : Nat} (hk : k < pl.length) : pre pl k ≤ pre pl k + (at_ pl k).int ∧ pre pl k + (at_ pl k).int ≤ pre pl (k + 1) ∧ 0 ≤ (at_ pl k).int ∧ 0 ≤ (at_ pl k).prin := by
  obtain ⟨_, _, h1, h2, _⟩ := h k hk
  simp only [pre]
  omega

theorem pre_mono {pl : List Ins} (h : ∀ i, i < pl.length → rowOk pl i) {k : Nat} : ∀ m, k + m ≤ pl.length → pre pl k ≤ pre pl (k + m)
  | 0, _ => Int.le_refl _
  | m + 1, hm => by
    have h1 := pre_mono h (k := k) m (by omega)
    have h2 := pre_step h (k := k + m) (by omega)
    show pre pl k ≤ pre pl (k + m + 1)
    omega

theorem pre_le {pl : List Ins} (h : ∀ i, i < pl.length → rowOk pl i) {k m : Nat} (hkm : k ≤ m) (hm : m ≤ pl.length) : pre pl k ≤ pre pl m := by
  have := pre_mono h (k := k) (m - k) (by omega)
  rwa [show k + (m - k) = m by omega] at this

theorem pre_nn {pl : List Ins} (h : ∀ i, i < pl.length → rowOk pl i) {k : Nat} (hk : k ≤ pl.length) : 0 ≤ pre pl k := pre_le h (k := 0) (Nat.zero_le _) hk

theorem pre_in {pl : List Ins} (h : sndP pl) {k : Nat} (hk : k ≤ pl.length) : 0 ≤ pre pl k ∧ pre pl k ≤ 9223372036854775807 :=
  ⟨pre_nn h.1 hk, Int.le_trans (pre_le h.1 hk (Nat.le_refl _)) h.2.2⟩

theorem due_le {pl : List Ins} (h : ∀ i, i < pl.length → rowOk pl i) {k : Nat} : ∀ m, k + m < pl.length → (at_ pl k).due ≤ (at_ pl (k + m)).due
  | 0, _ => Int.le_refl _
  | m + 1, hm => by
    have h1 := due_le h (k := k) m (by omega)
    have h2 := (h (k + m + 1) (by omega)).2.2.2.2 (by omega)
    simp only [Nat.add_sub_cancel] at h2
    show (at_ pl k).due ≤ (at_ pl (k + m + 1)).due
    omega

theorem due_mono {pl : List Ins} (h : ∀ i, i < pl.length → rowOk pl i) {k m : Nat} (hkm : k ≤ m) (hm : m < pl.length) : (at_ pl k).due ≤ (at_ pl m).due := by
  have := due_le h (k := k) (m - k) (by omega)
  rwa [show k + (m - k) = m by omega] at this

/-- The rows that so much pays, the last one left out. -/
def frt (pl : List Ins) (a : Int) : Nat := ((List.range (pl.length - 1)).find? (fun i => decide (a < pre pl (i + 1)))).getD (pl.length - 1)

structure FrtIs (pl : List Ins) (a : Int) (n : Nat) : Prop where
  le : n ≤ pl.length - 1
  lo : ∀ i, i < n → pre pl (i + 1) ≤ a
  hi : n < pl.length - 1 → a < pre pl (n + 1)

theorem frt_is (pl : List Ins) (a : Int) : FrtIs pl a (frt pl a) := by
  unfold frt
  cases h : (List.range (pl.length - 1)).find? (fun i => decide (a < pre pl (i + 1))) with
  | none =>
    have h1 := List.find?_eq_none.1 h
    refine ⟨Nat.le_refl _, fun i hi => ?_, fun hn => absurd hn (Nat.lt_irrefl _)⟩
    have := h1 i (List.mem_range.2 hi)
    simp at this
    exact this
  | some n =>
    rw [List.find?_range_eq_some] at h
    obtain ⟨h1, h2, h3⟩ := h
    refine ⟨Nat.le_of_lt (List.mem_range.1 h2), fun i hi => ?_, fun _ => by simpa using h1⟩
    have := h3 i hi
    simpa using this

theorem FrtIs.eq {pl : List Ins} {a : Int} {n m : Nat} (h : FrtIs pl a n) (h' : FrtIs pl a m) : n = m := by
  rcases Nat.lt_trichotomy n m with c | c | c
  · have h1 := h'.lo n c
    have h2 := h.hi (by have := h'.le; omega)
    omega
  · exact c
  · have h1 := h.lo m c
    have h2 := h'.hi (by have := h.le; omega)
    omega

theorem frt_at {pl : List Ins} {a : Int} {n : Nat} (h : FrtIs pl a n) : frt pl a = n := (frt_is pl a).eq h

def psi (a : Int) : Int := max a 0

def sat (pl : List Ins) (a r : Int) : Nat := if r ≤ 0 then pl.length else frt pl (psi a)
def old (pl : List Ins) (a r : Int) : Option Nat := if sndP pl ∧ sat pl a r < pl.length then some (sat pl a r) else none
def oldV : Option Nat → AV
  | some n => tup2 (I n) (B true)
  | none => tup2 (I 0) (B false)
def lateV (due t : Int) : Int := if t ≤ due then 0 else IntKind.i64.wrap (t - due)
def daysV (pl : List Ins) (a r t : Int) : Int := match old pl a r with
  | some n => lateV (at_ pl n).due t
  | none => 0
def fd (pl : List Ins) (t : Int) : Nat := ((List.range pl.length).find? (fun i => decide (t ≤ (at_ pl i).due))).getD pl.length
def pdV (pl : List Ins) (a r t : Int) : Int :=
  if sndP pl ∧ 0 < r ∧ pl ≠ [] then (if (at_ pl (pl.length - 1)).due < t then r else max 0 (min (pre pl (fd pl t) - psi a) r)) else 0
def bkt (d : Int) : Int := if d ≥ 90 then 4 else if d ≥ 60 then 3 else if d ≥ 30 then 2 else if d ≥ 1 then 1 else 0

structure FdIs (pl : List Ins) (t : Int) (n : Nat) : Prop where
  le : n ≤ pl.length
  lo : ∀ i, i < n → (at_ pl i).due < t
  hi : n < pl.length → t ≤ (at_ pl n).due

theorem fd_is (pl : List Ins) (t : Int) : FdIs pl t (fd pl t) := by
  unfold fd
  cases h : (List.range pl.length).find? (fun i => decide (t ≤ (at_ pl i).due)) with
  | none =>
    have h1 := List.find?_eq_none.1 h
    refine ⟨Nat.le_refl _, fun i hi => ?_, fun hn => absurd hn (Nat.lt_irrefl _)⟩
    have := h1 i (List.mem_range.2 hi)
    simp at this
    exact this
  | some n =>
    rw [List.find?_range_eq_some] at h
    obtain ⟨h1, h2, h3⟩ := h
    refine ⟨Nat.le_of_lt (List.mem_range.1 h2), fun i hi => ?_, fun _ => by simpa using h1⟩
    have := h3 i hi
    simpa using this

theorem FdIs.eq {pl : List Ins} {t : Int} {n m : Nat} (h : FdIs pl t n) (h' : FdIs pl t m) : n = m := by
  rcases Nat.lt_trichotomy n m with c | c | c
  · have h1 := h'.lo n c
    have h2 := h.hi (by have := h'.le; omega)
    omega
  · exact c
  · have h1 := h.lo m c
    have h2 := h'.hi (by have := h.le; omega)
    omega

theorem fd_at {pl : List Ins} {t : Int} {n : Nat} (h : FdIs pl t n) : fd pl t = n := (fd_is pl t).eq h

/-- What is past due, as the program reckons it. -/
theorem pd_prog (pl : List Ins) (a r t : Int) : pdV pl a r t = match old pl a r with
    | some n => if t ≤ (at_ pl n).due then 0 else if (at_ pl (pl.length - 1)).due < t then r else min (pre pl (fd pl t) - psi a) r
    | none => 0 := by
  unfold pdV old
  by_cases hs : sndP pl
  · by_cases hr : 0 < r
    · by_cases he : pl = []
      · subst he; simp
      · have hlen : 0 < pl.length := List.length_pos_iff.2 he
        have hst : sat pl a r = frt pl (psi a) := by unfold sat; rw [if_neg (by omega)]
        have F := frt_is pl (psi a)
        have D := fd_is pl t
        have hF : frt pl (psi a) < pl.length := by have := F.le; omega
        rw [if_pos (show sndP pl ∧ 0 < r ∧ pl ≠ [] from ⟨hs, hr, he⟩), hst, if_pos (show sndP pl ∧ frt pl (psi a) < pl.length from ⟨hs, hF⟩)]
        show _ = (if t ≤ (at_ pl (frt pl (psi a))).due then 0 else if (at_ pl (pl.length - 1)).due < t then r else min (pre pl (fd pl t) - psi a) r)
        by_cases c : (at_ pl (pl.length - 1)).due < t
        · have := due_mono hs.1 (k := frt pl (psi a)) (m := pl.length - 1) F.le (by omega)
          rw [if_pos c, if_neg (by omega), if_pos c]
        · rw [if_neg c, if_neg c]
          have hm : fd pl t ≤ pl.length - 1 := by
            rcases Nat.lt_or_ge (pl.length - 1) (fd pl t) with h | h
            · exact absurd (D.lo _ h) c
            · exact h
          by_cases c2 : t ≤ (at_ pl (frt pl (psi a))).due
          · rw [if_pos c2]
            have hle : fd pl t ≤ frt pl (psi a) := by
              rcases Nat.lt_or_ge (frt pl (psi a)) (fd pl t) with h | h
              · have := D.lo _ h; omega
              · exact h
            have : pre pl (fd pl t) ≤ psi a := by
              refine Int.le_trans (pre_le hs.1 hle (by omega)) ?_
              rcases Nat.eq_zero_or_pos (frt pl (psi a)) with h | h
              · rw [h]; unfold psi; simp only [pre]; omega
              · have := F.lo (frt pl (psi a) - 1) (by omega)
                rwa [show frt pl (psi a) - 1 + 1 = frt pl (psi a) by omega] at this
            omega
          · rw [if_neg c2]
            have hlt : frt pl (psi a) < fd pl t := by
              rcases Nat.lt_or_ge (frt pl (psi a)) (fd pl t) with h | h
              · exact h
              · have h1 := D.hi (by omega)
                have h2 := due_mono hs.1 h hF
                omega
            have h1 := F.hi (by omega)
            have h2 := pre_le hs.1 (k := frt pl (psi a) + 1) (m := fd pl t) hlt D.le
            omega
    · rw [if_neg (fun h => hr h.2.1)]
      have : sat pl a r = pl.length := by unfold sat; rw [if_pos (by omega)]
      rw [this, if_neg (fun h => absurd h.2 (Nat.lt_irrefl _))]
  · rw [if_neg (fun h => hs h.1), if_neg (fun h => hs h.1)]

/-- The balance of an account on its own side. -/
def bal (l : Ln) (a : Nat) : Int := if 0 < at_ sideL a then l.book.f a else - l.book.f a
def restOf (l : Ln) : Int := IntKind.i64.wrap (bal l 2 + bal l 1)
def psnOf (l : Ln) : Psn := ⟨l.applied, restOf l⟩
def owdOf (l : Ln) : Owd := ⟨bal l 3, bal l 2, bal l 1⟩

theorem bal_in {l : Ln} (h : rng (encLn l)) {a : Nat} (ha : a < 12) : in64 (bal l a) := by
  have h1 := (rg_Ln h).book a ha
  have h2 := l.book.h a ha
  unfold bal
  unfold in64 at *
  split <;> omega

/-- What Look tells of a loan. -/
def lookV (l : Ln) : AV :=
  .st (.cons (I l.case.status) (.cons (I (daysV l.plan l.applied (restOf l) l.day)) (.cons (I (bkt (daysV l.plan l.applied (restOf l) l.day))) (.cons (I (pdV l.plan l.applied (restOf l) l.day))
    (.cons (I (bal l 3)) (.cons (I (bal l 2)) (.cons (I (bal l 1)) (.cons (I (bal l 4)) (.cons (I (bal l 5)) (.cons (I l.case.cycles) (.cons (I l.case.cures) (.cons (I l.case.kept) (.cons (I l.case.broken)
    (.cons (I l.case.restr) (.cons (I l.case.promises) (.cons (I l.case.promiseDue) (.cons (I l.case.deadline) (.cons (I (match old l.plan l.applied (restOf l) with | some n => (at_ l.plan n).due | none => 0))
    (.cons (I l.case.lifeFees) (.cons (I l.chargedOff) (.cons (I (bal l 10)) .nil)))))))))))))))))))))
theorem nf_lookV (l : Ln) : nf (lookV l) := by simp [lookV, nf]

end Go.Proofs.YtaomkjcclcgdlaaGreatDoor
namespace Go.Proofs.YtaomkjcclcgdlaaGreatDoor
open Go Ar
set_option linter.unusedVariables false
set_option autoImplicit false
set_option maxHeartbeats 4000000
set_option maxRecDepth 100000

/-- The rows' interests and principal parts, one behind the other. -/
def amtL : List Ins → List Int
  | [] => []
  | r :: l => r.int :: r.prin :: amtL l

theorem amtL_append (a b : List Ins) : amtL (a ++ b) = amtL a ++ amtL b := by
  induction a with
  | nil => rfl
  | cons r l ih => simp [amtL, ih]
theorem amtL_len (a : List Ins) : (amtL a).length = 2 * a.length := by
  induction a with
  | nil => rfl
  | cons r l ih => simp [amtL, ih]; omega
theorem amtL_snoc {pl : List Ins} {k : Nat} (h : k < pl.length) : amtL (pl.take (k + 1)) = amtL (pl.take k) ++ [(at_ pl k).int, (at_ pl k).prin] := by
  rw [take_at h, amtL_append]; rfl
theorem amtL_sum {pl : List Ins} {k : Nat} (h : k ≤ pl.length) : (amtL (pl.take k)).sum = pre pl k := by
  induction k with
  | zero => simp [amtL, pre]
  | succ k ih => rw [amtL_snoc h, List.sum_append, ih (by omega)]; simp [pre]; omega
theorem amtL_in {pl : List Ins} (hr : rng (encL encIns 4 pl)) : ∀ x ∈ amtL pl, in64 x := by
  have h := rg_L (fun _ => rg_Ins) hr
  induction pl with
  | nil => intro x hx; cases hx
  | cons r l ih =>
    have h1 := h r (List.mem_cons_self ..)
    intro x hx
    simp only [amtL, List.mem_cons] at hx
    rcases hx with rfl | rfl | hx
    · exact h1.int
    · exact h1.prin
    · have ih2 : (∀ x ∈ l, rgIns x) → ∀ x ∈ amtL l, in64 x := by
        clear ih hr h h1 hx
        intro h
        induction l with
        | nil => intro x hx; cases hx
        | cons r l ih =>
          have h1 := h r (List.mem_cons_self ..)
          intro x hx
          simp only [amtL, List.mem_cons] at hx
          rcases hx with rfl | rfl | hx
          · exact h1.int
          · exact h1.prin
          · exact ih (fun y hy => h y (List.mem_cons_of_mem _ hy)) x hx
      exact ih2 (fun y hy => h y (List.mem_cons_of_mem _ hy)) x hx

theorem r10_amounts_x (xs : List Ins) (h : xs.length ≤ 1000) : PureX Tryz.prog gl0 r10_amounts [encL encIns 4 xs] (fun r => r = encL I 1 (amtL xs)) := by
  refine pure_fnX mixed fn_r10_amounts nt_r10_amounts hc_r10_amounts (by simp) gl0n (by simp [nf]) ?_
  conv => whnf
  refine loop_at mixed (fun (k : Nat) => ([(4, I k), (3, encT (some 0) I 1 (amtL (xs.take k))), (0, encL encIns 4 xs)], [(0, .room (amtL (xs.take k)).length 1 2)], 1)) (fun k => k ≤ xs.length) (fun k => xs.length - k) 0 (Nat.zero_le _) ((le_nil 3 1 2 (fun i => I (at_ ([] : List Int) i)) rfl).trans (le_st (le_r rfl) (leE_i rfl rfl (leE_eq rfl (bnd_encT nf_I (lt_r rfl)) (leE_eq rfl (bnd_nf _ (nfL_Ins _ _)) trivial))) (leO_room (lt_r rfl) rfl trivial) gl0n)) ?_
  intro k hk
  conv => whnf
  have hn : (xs.length : Int) < 9223372036854775808 := by omega
  by_cases c : k < xs.length
  · refine br_true (decide_eq_true ((by omega : (k : Int) < xs.length))) ?_
    conv => whnf
    have e1 : (amtL (xs.take k)).length = 2 * k := by rw [amtL_len, List.length_take]; omega
    repeat' first
      | (refine br_dec (fun h0 => ?_) (fun h0 => ?_) <;> (conv => whnf))
      | (refine br_intro (fun hb => ?_) (fun hb => ?_) <;> ((try rw [hb]); (conv => whnf); (try simp at hb)))
      | (refine And.intro (by rw [e1]; omega) ?_; (conv => whnf))
      | (refine ⟨k + 1, c, (by show xs.length - (k + 1) < xs.length - k; omega), ?_⟩; dsimp only; rw [amtL_snoc c]; exact (le_st (le_r rfl) (leE_i rfl (inc_id c hn) (leE_le rfl (leA_two rfl rfl rfl).le (bnd_encT nf_I (lt_r rfl)) (leE_eq rfl (bnd_nf _ (nfL_Ins _ _)) trivial))) (leO_room (lt_r rfl) (by (simp; rfl)) trivial) gl0n))
      | (refine aI ?_; (conv => whnf))
      | (refine fin_e ?_; (conv => whnf); exact lfA)
      | fail
  · obtain rfl : k = xs.length := by omega
    refine br_false (decide_eq_false ((by omega : ¬ ((xs.length : Int) < xs.length)))) ?_
    conv => whnf
    rw [List.take_length]
    refine fin_r (encL I 1 (amtL xs)) (nfL_I _ _) rfl ?_
    conv => whnf
    exact leA_drop.le

theorem r10_Sound_x (xs : List Ins) (hr : rng (encL encIns 4 xs)) (h : xs.length ≤ 1000) : PureX Tryz.prog gl0 r10_Sound [encL encIns 4 xs] (fun r => r = B (decide (sndP xs))) := by
  refine pure_fnX mixed fn_r10_Sound nt_r10_Sound hc_r10_Sound (by simp) gl0n (by simp [nf]) ?_
  conv => whnf
  refine loop_at mixed (fun (k : Nat) => ([(3, I k), (0, encL encIns 4 xs)], [], 0)) (fun k => k ≤ xs.length ∧ ∀ j, j < k → rowOk xs j) (fun k => xs.length - k) 0 ⟨Nat.zero_le _, fun j hj => absurd hj (Nat.not_lt_zero j)⟩ (le_st (le_r rfl) (leE_i rfl rfl (leE_eq rfl (bnd_nf _ (nfL_Ins _ _)) trivial)) trivial gl0n) ?_
  rintro k ⟨hk, hok⟩
  conv => whnf
  have hn : (xs.length : Int) < 9223372036854775808 := by omega
  by_cases c : k < xs.length
  · refine br_true (decide_eq_true ((by omega : (k : Int) < xs.length))) ?_
    conv => whnf
    have e1 : (Int.toNat (k : Int)) = k := rfl
    have e2 : (IntKind.i64.wrap ((k : Int) - 1)).toNat = k - 1 := by
      by_cases c0 : k = 0
      · subst c0; decide
      · rw [wrap_id (by unfold in64; omega)]; omega
    have e3 : rowOk xs k → ∀ j, j < k + 1 → rowOk xs j := fun hx j hj => by
      by_cases e : j = k
      · subst e; exact hx
      · exact hok j (by omega)
    repeat' first
      | (refine br_dec (fun h0 => ?_) (fun h0 => ?_) <;> (conv => whnf))
      | (refine br_intro (fun hb => ?_) (fun hb => ?_) <;> ((try rw [hb]); (conv => whnf); (try simp at hb)))
      | (refine ⟨k + 1, ⟨c, e3 ?_⟩, (by show xs.length - (k + 1) < xs.length - k; omega), (le_st (le_r rfl) (leE_i rfl (inc_id c hn) (leE_eq rfl (bnd_nf _ (nfL_Ins _ _)) trivial)) trivial gl0n)⟩; unfold rowOk; simp only [e1, e2] at *; omega)
      | (refine aI ?_; (conv => whnf))
      | (refine fin_e ?_; (conv => whnf); exact ⟨trivial, congrArg (fun b => B b) (decide_eq_false (fun hh => by have := hh.1 k c; unfold rowOk at this; simp only [e1, e2] at *; omega)).symm⟩)
      | fail
  · obtain rfl : k = xs.length := by omega
    refine br_false (decide_eq_false ((by omega : ¬ ((xs.length : Int) < xs.length)))) ?_
    conv => whnf
    refine call_x2 (r10_amounts_x xs h) (LeL.refl _) ?_
    rintro _ - rfl
    conv => whnf
    have e4 : (amtL xs).sum = pre xs xs.length := by rw [← amtL_sum (Nat.le_refl _), List.take_length]
    refine call_pure (r1_Sum_x (amtL xs) (amtL_in hr) (by rw [amtL_len]; omega)) (LeL.refl _) ?_
    rw [e4]
    conv => whnf
    refine fin_e ?_
    conv => whnf
    exact ⟨trivial, congrArg (fun b => B b) (decide_eq_decide.2 ⟨fun hh => ⟨hok, hh⟩, fun hh => hh.2⟩)⟩

def rowsL (pl : List Ins) : List Ins := if sndP pl then pl else []
theorem rowsL_snd (pl : List Ins) : sndP (rowsL pl) := by
  unfold rowsL
  split
  · assumption
  · exact ⟨fun i hi => absurd hi (Nat.not_lt_zero i), by decide⟩
theorem rowsL_len (pl : List Ins) : (rowsL pl).length ≤ pl.length := by unfold rowsL; split <;> simp
theorem rowsL_yes {pl : List Ins} (h : sndP pl) : rowsL pl = pl := if_pos h
theorem rowsL_no {pl : List Ins} (h : ¬ sndP pl) : rowsL pl = [] := if_neg h

theorem r10_rows_x (xs : List Ins) (hr : rng (encL encIns 4 xs)) (h : xs.length ≤ 1000) : PureX Tryz.prog gl0 r10_rows [encL encIns 4 xs] (fun r => r = encL encIns 4 (rowsL xs)) := by
  refine pure_fnX mixed fn_r10_rows nt_r10_rows hc_r10_rows (by simp) gl0n (by simp [nf]) ?_
  conv => whnf
  refine call_x2 (r10_Sound_x xs hr h) (LeL.refl _) ?_
  rintro _ - rfl
  by_cases c : sndP xs
  · rw [decide_eq_true c, rowsL_yes c]
    conv => whnf
    refine fin_r (encL encIns 4 xs) (nfL_Ins _ _) rfl ?_
    conv => whnf
    exact Le.refl _
  · rw [decide_eq_false c, rowsL_no c]
    conv => whnf
    refine fin_r (encL encIns 4 []) (nfL_Ins _ _) rfl ?_
    conv => whnf
    exact leA_nilL.le

theorem r10_paid_x (p : Psn) : PureX Tryz.prog gl0 r10_paid [encPsn p] (fun r => r = I (psi p.applied)) := by
  refine pure_fnX mixed fn_r10_paid nt_r10_paid hc_r10_paid (by simp) gl0n (by simp [nf]) ?_
  conv => whnf
  by_cases c : p.applied < 0
  · refine br_true (decide_eq_true (c)) ?_
    conv => whnf
    refine fin_e ?_
    conv => whnf
    exact ⟨trivial, congrArg (fun b => I b) (by unfold psi; omega)⟩
  · refine br_false (decide_eq_false (c)) ?_
    conv => whnf
    refine fin_e ?_
    conv => whnf
    exact ⟨trivial, congrArg (fun b => I b) (by unfold psi; omega)⟩

theorem r10_satisfied_x (xs : List Ins) (p : Psn) (hs : sndP xs) (h : xs.length ≤ 1000) : PureX Tryz.prog gl0 r10_satisfied [encL encIns 4 xs, encPsn p] (fun r => r = I (sat xs p.applied p.rest : Nat)) := by
  refine pure_fnX mixed fn_r10_satisfied nt_r10_satisfied hc_r10_satisfied (by simp) gl0n (by simp [nf]) ?_
  conv => whnf
  by_cases c0 : p.rest ≤ 0
  · refine br_true (decide_eq_true (c0)) ?_
    conv => whnf
    refine fin_e ?_
    conv => whnf
    exact ⟨trivial, congrArg (fun b : Nat => I b) (show xs.length = sat xs p.applied p.rest by unfold sat; rw [if_pos c0])⟩
  · refine br_false (decide_eq_false (c0)) ?_
    conv => whnf
    have F0 := frt_is xs (psi p.applied)
    have hst : sat xs p.applied p.rest = frt xs (psi p.applied) := if_neg c0
    refine loop_at mixed (fun (k : Nat) => ([(7, I k), (5, I (min k (frt xs (psi p.applied)) : Nat)), (6, I (pre xs k)), (0, encL encIns 4 xs), (3, .ptr 0 [])], [(0, .box (encPsn p))], 1)) (fun k => k ≤ xs.length ∧ (k = 0 ∨ k + 1 ≤ xs.length)) (fun k => xs.length + 1 - k) 0 ⟨Nat.zero_le _, .inl rfl⟩ (le_st (le_r rfl) (leE_i rfl rfl (leE_i rfl ((by simp)) (leE_i rfl rfl (leE_eq rfl (bnd_nf _ (nfL_Ins _ _)) (leE_ptr rfl rfl trivial))))) (leO_box (lt_r rfl) rfl (LeA.refl _) (bnd_nf _ (nf_encPsn _)) trivial) gl0n) ?_
    rintro k ⟨hk, hk1⟩
    conv => whnf
    have hw : IntKind.i64.wrap ((k : Int) + 1) = ((k + 1 : Nat) : Int) := by rw [wrap_id (by unfold in64; omega)]; omega
    rw [hw]
    by_cases c : k + 1 < xs.length
    · refine br_true (decide_eq_true ((by omega : ((k + 1 : Nat) : Int) < xs.length))) ?_
      conv => whnf
      have p1 := pre_in hs (k := k) hk
      have p2 := pre_in hs (k := k + 1) (by omega)
      have p3 := pre_step hs.1 (k := k) (by omega)
      have e1 : IntKind.i64.wrap (IntKind.i64.wrap (pre xs k + (at_ xs k).int) + (at_ xs k).prin) = pre xs (k + 1) := by
        rw [wrap_id (n := pre xs k + (at_ xs k).int) (by unfold in64; omega)]
        exact wrap_id (n := pre xs (k + 1)) (by unfold in64; omega)
      refine ⟨by omega, ?_⟩
      conv => whnf
      refine ⟨by omega, ?_⟩
      conv => whnf
      refine call_x2 (r10_paid_x p) (LeL.refl _) ?_
      rintro _ - rfl
      conv => whnf
      by_cases c2 : pre xs (k + 1) ≤ psi p.applied
      · have hm : min (k + 1) (frt xs (psi p.applied)) = k + 1 := by
          rcases Nat.lt_or_ge k (frt xs (psi p.applied)) with h1 | h1
          · omega
          · have : frt xs (psi p.applied) = k ∨ frt xs (psi p.applied) < k := by omega
            rcases this with h2 | h2
            · have := F0.hi (by omega); rw [h2] at this; omega
            · have h3 := F0.hi (by omega)
              have h4 := pre_le hs.1 (k := frt xs (psi p.applied) + 1) (m := k + 1) (by omega) (by omega)
              omega
        refine br_true (decide_eq_true (show IntKind.i64.wrap (IntKind.i64.wrap (pre xs k + (at_ xs k).int) + (at_ xs k).prin) ≤ psi p.applied by rw [e1]; exact c2)) ?_
        conv => whnf
        exact ⟨k + 1, ⟨by omega, .inr c⟩, (by show xs.length + 1 - (k + 1) < xs.length + 1 - k; omega), (le_st (le_r rfl) (leE_i rfl (hw) (leE_i rfl ((by rw [hm]; exact hw)) (leE_i rfl (e1) (leE_eq rfl (bnd_nf _ (nfL_Ins _ _)) (leE_ptr rfl rfl trivial))))) (leO_box (lt_r rfl) rfl (LeA.refl _) (bnd_nf _ (nf_encPsn _)) trivial) gl0n)⟩
      · have hm : min (k + 1) (frt xs (psi p.applied)) = min k (frt xs (psi p.applied)) := by
          rcases Nat.lt_or_ge k (frt xs (psi p.applied)) with h1 | h1
          · exact absurd (F0.lo k h1) c2
          · omega
        refine br_false (decide_eq_false (show ¬ IntKind.i64.wrap (IntKind.i64.wrap (pre xs k + (at_ xs k).int) + (at_ xs k).prin) ≤ psi p.applied by rw [e1]; exact c2)) ?_
        conv => whnf
        exact ⟨k + 1, ⟨by omega, .inr c⟩, (by show xs.length + 1 - (k + 1) < xs.length + 1 - k; omega), (le_st (le_r rfl) (leE_i rfl (hw) (leE_i rfl ((by rw [hm])) (leE_i rfl (e1) (leE_eq rfl (bnd_nf _ (nfL_Ins _ _)) (leE_ptr rfl rfl trivial))))) (leO_box (lt_r rfl) rfl (LeA.refl _) (bnd_nf _ (nf_encPsn _)) trivial) gl0n)⟩
    · refine br_false (decide_eq_false ((by omega : ¬ (((k + 1 : Nat) : Int) < xs.length)))) ?_
      conv => whnf
      refine fin_e ?_
      conv => whnf
      refine ⟨trivial, congrArg (fun b : Nat => I b) ?_⟩
      have := F0.le
      rw [hst]
      omega

end Go.Proofs.YtaomkjcclcgdlaaGreatDoor
namespace Go.Proofs.YtaomkjcclcgdlaaGreatDoor
open Go Ar
set_option linter.unusedVariables false
set_option autoImplicit false
set_option maxHeartbeats 4000000
set_option maxRecDepth 100000

theorem r10_Oldest_x (xs : List Ins) (p : Psn) (hr : rng (encL encIns 4 xs)) (h : xs.length ≤ 1000) : PureX Tryz.prog gl0 r10_Oldest [encL encIns 4 xs, encPsn p] (fun r => r = oldV (old xs p.applied p.rest)) := by
  refine pure_fnX mixed fn_r10_Oldest nt_r10_Oldest hc_r10_Oldest (by simp) gl0n (by simp [nf]) ?_
  conv => whnf
  refine call_x2 (r10_rows_x xs hr h) (LeL.refl _) ?_
  rintro _ - rfl
  conv => whnf
  have hl := rowsL_len xs
  refine call_x2 (r10_satisfied_x (rowsL xs) p (rowsL_snd xs) (by omega)) (LeL.refl _) ?_
  rintro _ - rfl
  conv => whnf
  by_cases c : sat (rowsL xs) p.applied p.rest < (rowsL xs).length
  · refine br_false (decide_eq_false ((by omega : ¬ ((sat (rowsL xs) p.applied p.rest : Nat) : Int) ≥ (rowsL xs).length))) ?_
    conv => whnf
    have hs : sndP xs := Classical.byContradiction fun hs => by rw [rowsL_no hs] at c; exact absurd c (Nat.not_lt_zero _)
    rw [rowsL_yes hs] at c ⊢
    refine fin_e ?_
    conv => whnf
    refine ⟨by simp [packA, consL, nf], ?_⟩
    unfold old
    rw [if_pos ⟨hs, c⟩]
    rfl
  · refine br_true (decide_eq_true ((by omega : ((sat (rowsL xs) p.applied p.rest : Nat) : Int) ≥ (rowsL xs).length))) ?_
    conv => whnf
    refine fin_e ?_
    conv => whnf
    refine ⟨by simp [packA, consL, nf], ?_⟩
    unfold old
    rw [if_neg (fun hh => by rw [rowsL_yes hh.1] at c; exact c hh.2)]
    rfl

theorem old_lt {pl : List Ins} {a r : Int} {n : Nat} (h : old pl a r = some n) : n < pl.length := by
  unfold old at h
  split at h
  · rename_i h1; injection h with h; subst h; exact h1.2
  · cases h

theorem r10_Days_x (xs : List Ins) (p : Psn) (d : Int) (hr : rng (encL encIns 4 xs)) (h : xs.length ≤ 1000) : PureX Tryz.prog gl0 r10_Days [encL encIns 4 xs, encPsn p, I d] (fun r => r = I (daysV xs p.applied p.rest d)) := by
  refine pure_fnX mixed fn_r10_Days nt_r10_Days hc_r10_Days (by simp) gl0n (by simp [nf]) ?_
  conv => whnf
  refine call_x2 (r10_Oldest_x xs p hr h) (LeL.refl _) ?_
  rintro _ - rfl
  unfold daysV
  cases ho : old xs p.applied p.rest with
  | none =>
    conv => whnf
    refine fin_e ?_
    conv => whnf
    exact ⟨trivial, rfl⟩
  | some n =>
    have hlt := old_lt ho
    conv => whnf
    refine ⟨by omega, ?_⟩
    conv => whnf
    refine call_pure (r10_late_s (at_ xs n) d) (LeL.refl _) ?_
    conv => whnf
    refine fin_e ?_
    conv => whnf
    exact ⟨trivial, rfl⟩

theorem r10_before_x (xs : List Ins) (n : Nat) (hs : sndP xs) (h : xs.length ≤ 1000) (h1 : n ≤ xs.length) : PureX Tryz.prog gl0 r10_before [encL encIns 4 xs, I n] (fun r => r = I (pre xs n)) := by
  refine pure_fnX mixed fn_r10_before nt_r10_before hc_r10_before (by simp) gl0n (by simp [nf]) ?_
  conv => whnf
  refine loop_at mixed (fun (k : Nat) => ([(6, I k), (5, I (pre xs k)), (0, encL encIns 4 xs), (1, I n)], [], 0)) (fun k => k ≤ n) (fun k => n - k) 0 (Nat.zero_le _) (le_st (le_r rfl) (leE_i rfl rfl (leE_i rfl rfl (leE_eq rfl (bnd_nf _ (nfL_Ins _ _)) (leE_i rfl rfl trivial)))) trivial gl0n) ?_
  intro k hk
  conv => whnf
  have hn : (xs.length : Int) < 9223372036854775808 := by omega
  by_cases c : k < n
  · refine br_true (decide_eq_true ((by omega : (k : Int) < n))) ?_
    conv => whnf
    have p1 := pre_in hs (k := k) (by omega)
    have p2 := pre_in hs (k := k + 1) (by omega)
    have p3 := pre_step hs.1 (k := k) (by omega)
    have e1 : IntKind.i64.wrap (IntKind.i64.wrap (pre xs k + (at_ xs k).int) + (at_ xs k).prin) = pre xs (k + 1) := by
      rw [wrap_id (n := pre xs k + (at_ xs k).int) (by unfold in64; omega)]
      exact wrap_id (n := pre xs (k + 1)) (by unfold in64; omega)
    have cc : k < xs.length := by omega
    refine ⟨by omega, ?_⟩
    conv => whnf
    refine ⟨by omega, ?_⟩
    conv => whnf
    exact ⟨k + 1, c, (by show n - (k + 1) < n - k; omega), (le_st (le_r rfl) (leE_i rfl (inc_id cc hn) (leE_i rfl (e1) (leE_eq rfl (bnd_nf _ (nfL_Ins _ _)) (leE_i rfl rfl trivial)))) trivial gl0n)⟩
  · obtain rfl : k = n := by omega
    refine br_false (decide_eq_false ((by omega : ¬ ((k : Int) < k)))) ?_
    conv => whnf
    refine fin_e ?_
    conv => whnf
    exact ⟨trivial, rfl⟩

theorem r10_PastDue_x (xs : List Ins) (p : Psn) (d : Int) (hr : rng (encL encIns 4 xs)) (h : xs.length ≤ 1000) (hp : in64 p.applied) : PureX Tryz.prog gl0 r10_PastDue [encL encIns 4 xs, encPsn p, I d] (fun r => r = I (pdV xs p.applied p.rest d)) := by
  refine pure_fnX mixed fn_r10_PastDue nt_r10_PastDue hc_r10_PastDue (by simp) gl0n (by simp [nf]) ?_
  conv => whnf
  refine call_x2 (r10_rows_x xs hr h) (LeL.refl _) ?_
  rintro _ - rfl
  conv => whnf
  have hl := rowsL_len xs
  have hs := rowsL_snd xs
  have hpd : pdV xs p.applied p.rest d = pdV (rowsL xs) p.applied p.rest d := by
    by_cases c : sndP xs
    · rw [rowsL_yes c]
    · rw [rowsL_no c]; unfold pdV; rw [if_neg (fun hh => c hh.1), if_neg (fun hh => hh.2.2 rfl)]
  rw [hpd]
  clear hpd
  generalize rowsL xs = ys at *
  by_cases c0 : p.rest ≤ 0
  · refine br_true (decide_eq_true (c0)) ?_
    conv => whnf
    refine fin_e ?_
    conv => whnf
    refine ⟨trivial, congrArg (fun b => I b) ?_⟩
    unfold pdV
    rw [if_neg (fun hh => by omega)]
  · refine br_false (decide_eq_false (c0)) ?_
    conv => whnf
    by_cases c1 : ys.length = 0
    · refine br_true (decide_eq_true ((by omega : (ys.length : Int) = 0))) ?_
      conv => whnf
      refine fin_e ?_
      conv => whnf
      refine ⟨trivial, congrArg (fun b => I b) ?_⟩
      unfold pdV
      rw [if_neg (fun hh => hh.2.2 (List.length_eq_zero_iff.1 c1))]
    · refine br_false (decide_eq_false ((by omega : ¬ (ys.length : Int) = 0))) ?_
      conv => whnf
      have hw : IntKind.i64.wrap ((ys.length : Int) - 1) = ((ys.length - 1 : Nat) : Int) := by rw [wrap_id (by unfold in64; omega)]; omega
      rw [hw]
      conv => whnf
      refine ⟨by omega, ?_⟩
      conv => whnf
      have hpd : pdV ys p.applied p.rest d = if (at_ ys (ys.length - 1)).due < d then p.rest else max 0 (min (pre ys (fd ys d) - psi p.applied) p.rest) := by
        unfold pdV
        rw [if_pos ⟨hs, by omega, fun e => c1 (by rw [e]; rfl)⟩]
      rw [hpd]
      by_cases c2 : (at_ ys (ys.length - 1)).due < d
      · refine br_true (decide_eq_true (c2)) ?_
        conv => whnf
        refine fin_e ?_
        conv => whnf
        rw [if_pos c2]
        exact ⟨trivial, rfl⟩
      · refine br_false (decide_eq_false (c2)) ?_
        conv => whnf
        rw [if_neg c2]
        have hn : (ys.length : Int) < 9223372036854775808 := by omega
        refine loop_at mixed (fun (k : Nat) => ([(8, I k), (7, encL encIns 4 ys), (2, I d), (4, .ptr 0 [])], [(0, .box (encPsn p))], 1)) (fun k => k < ys.length ∧ ∀ i, i < k → (at_ ys i).due < d) (fun k => ys.length - k) 0 ⟨by omega, fun i hi => absurd hi (Nat.not_lt_zero i)⟩ (le_st (le_r rfl) (leE_i rfl rfl (leE_eq rfl (bnd_nf _ (nfL_Ins _ _)) (leE_i rfl rfl (leE_ptr rfl rfl trivial)))) (leO_box (lt_r rfl) rfl (LeA.refl _) (bnd_nf _ (nf_encPsn _)) trivial) gl0n) ?_
        rintro k ⟨hk, hlo⟩
        conv => whnf
        refine br_true (decide_eq_true ((by omega : (k : Int) < ys.length))) ?_
        conv => whnf
        refine ⟨by omega, ?_⟩
        conv => whnf
        by_cases c3 : (at_ ys k).due < d
        · refine br_true (decide_eq_true (c3)) ?_
          conv => whnf
          have hk2 : k + 1 < ys.length := by
            rcases Nat.lt_or_ge (k + 1) ys.length with q | q
            · exact q
            · rw [show ys.length - 1 = k by omega] at c2; exact absurd c3 c2
          exact ⟨k + 1, ⟨hk2, fun i hi => (by by_cases e : i = k; subst e; exact c3; exact hlo i (by omega))⟩, (by show ys.length - (k + 1) < ys.length - k; omega), (le_st (le_r rfl) (leE_i rfl (inc_id hk hn) (leE_eq rfl (bnd_nf _ (nfL_Ins _ _)) (leE_i rfl rfl (leE_ptr rfl rfl trivial)))) (leO_box (lt_r rfl) rfl (LeA.refl _) (bnd_nf _ (nf_encPsn _)) trivial) gl0n)⟩
        · refine br_false (decide_eq_false (c3)) ?_
          conv => whnf
          have hfd : fd ys d = k := fd_at ⟨by omega, hlo, fun _ => by omega⟩
          rw [hfd]
          have p1 := pre_in hs (k := k) (by omega)
          have p0 : 0 ≤ psi p.applied ∧ psi p.applied ≤ 9223372036854775807 := by unfold psi; unfold in64 at hp; omega
          refine call_x2 (r10_before_x ys k hs (by omega) (by omega)) (LeL.refl _) ?_
          rintro _ - rfl
          conv => whnf
          refine call_x2 (r10_paid_x p) (LeL.refl _) ?_
          rintro _ - rfl
          conv => whnf
          have e5 : IntKind.i64.wrap (pre ys k - psi p.applied) = pre ys k - psi p.applied := wrap_id (by unfold in64; omega)
          repeat' first
            | (refine br_dec (fun h0 => ?_) (fun h0 => ?_) <;> (conv => whnf))
            | (refine br_intro (fun hb => ?_) (fun hb => ?_) <;> ((try rw [hb]); (conv => whnf); (try simp at hb)))
            | (refine aI ?_; (conv => whnf))
            | (refine fin_e ?_; (conv => whnf); exact ⟨trivial, congrArg (fun b => I b) (by rw [e5] at *; omega)⟩)
            | fail

def thr : Nat → Int
  | 0 => 1
  | 1 => 30
  | 2 => 60
  | _ => 90
def bkn (d : Int) : Nat → Int
  | 0 => 0
  | k + 1 => bkn d k + (if d ≥ thr k then 1 else 0)
theorem bkn_le (d : Int) : ∀ k, 0 ≤ bkn d k ∧ bkn d k ≤ k
  | 0 => by simp [bkn]
  | k + 1 => by have := bkn_le d k; simp only [bkn]; split <;> omega

theorem r10_Bucket_x (d : Int) : PureX Tryz.prog gl0 r10_Bucket [I d] (fun r => r = I (bkt d)) := by
  refine pure_fnX mixed fn_r10_Bucket nt_r10_Bucket hc_r10_Bucket (by simp) gl0n (by simp [nf]) ?_
  conv => whnf
  refine loop_at mixed (fun (k : Nat) => ([(7, I k), (3, I (bkn d k)), (6, .arr 4 1 (fun i => I (thr i))), (0, I d)], [], 0)) (fun k => k ≤ 4) (fun k => 4 - k) 0 (Nat.zero_le _) (le_st (le_r rfl) (leE_i rfl rfl (leE_i rfl rfl (leE_le rfl ((LeA.arr (fun i hi => (by have : i = 0 ∨ i = 1 ∨ i = 2 ∨ i = 3 := (by omega); rcases this with rfl | rfl | rfl | rfl <;> exact LeA.refl _))).le ) (bnd_nf _ ( (fun i => trivial))) (leE_i rfl rfl trivial)))) trivial gl0n) ?_
  intro k hk
  conv => whnf
  by_cases c : k < 4
  · refine br_true (decide_eq_true ((by omega : (k : Int) < 4))) ?_
    conv => whnf
    refine ⟨by omega, ?_⟩
    conv => whnf
    have hb := bkn_le d k
    by_cases c2 : d ≥ thr k
    · refine br_true (decide_eq_true (c2)) ?_
      conv => whnf
      exact ⟨k + 1, c, (by show 4 - (k + 1) < 4 - k; omega), (le_st (le_r rfl) (leE_i rfl (inc_id c (by decide)) (leE_i rfl ((by rw [wrap_id (by unfold in64; omega)]; simp [bkn, c2])) (leE_eq rfl (bnd_nf _ ((fun i => trivial))) (leE_i rfl rfl trivial)))) trivial gl0n)⟩
    · refine br_false (decide_eq_false (c2)) ?_
      conv => whnf
      exact ⟨k + 1, c, (by show 4 - (k + 1) < 4 - k; omega), (le_st (le_r rfl) (leE_i rfl (inc_id c (by decide)) (leE_i rfl ((by simp [bkn, c2])) (leE_eq rfl (bnd_nf _ ((fun i => trivial))) (leE_i rfl rfl trivial)))) trivial gl0n)⟩
  · refine br_false (decide_eq_false ((by omega : ¬ ((k : Int) < 4)))) ?_
    conv => whnf
    obtain rfl : k = 4 := by omega
    refine fin_e ?_
    conv => whnf
    refine ⟨trivial, congrArg (fun b => I b) ?_⟩
    simp only [bkn, thr, bkt]
    repeat' split
    all_goals omega

end Go.Proofs.YtaomkjcclcgdlaaGreatDoor
namespace Go.Proofs.YtaomkjcclcgdlaaGreatDoor
open Go Ar
set_option linter.unusedVariables false
set_option autoImplicit false
set_option maxHeartbeats 4000000
set_option maxRecDepth 100000

def balB (b : Bk) (a : Nat) : Int := if 0 < at_ sideL a then b.f a else - b.f a
theorem balB_in {b : Bk} (h : rgBk b) {a : Nat} (ha : a < 12) : in64 (balB b a) := by
  have h1 := h a ha
  have h2 := b.h a ha
  unfold balB
  unfold in64 at *
  split <;> omega

theorem r8_is_x (a : Int) : PureX Tryz.prog gl0 r8_is [I a] (fun r => r = B (decide (0 ≤ a ∧ a < 12))) := by
  refine pure_fnX mixed fn_r8_is nt_r8_is hc_r8_is (by simp) gl0n (by simp [nf]) ?_
  conv => whnf
  repeat' first
    | (refine br_dec (fun h0 => ?_) (fun h0 => ?_) <;> (conv => whnf))
    | (refine br_intro (fun hb => ?_) (fun hb => ?_) <;> ((try rw [hb]); (conv => whnf); (try simp at hb)))
    | (refine aI ?_; (conv => whnf))
    | (refine fin_e ?_; (conv => whnf); first | exact ⟨trivial, congrArg (fun b => B b) (decide_eq_true (by omega)).symm⟩ | exact ⟨trivial, congrArg (fun b => B b) (decide_eq_false (by omega)).symm⟩)
    | fail

theorem r8_Debits_x (a : Nat) (ha : a < 12) : PureX Tryz.prog gl0 r8_Debits [I (a : Nat)] (fun r => r = B (decide (0 < at_ sideL a))) := by
  refine pure_fnX mixed fn_r8_Debits nt_r8_Debits hc_r8_Debits (by simp) gl0n (by simp [nf]) ?_
  have h : a = 0 ∨ a = 1 ∨ a = 2 ∨ a = 3 ∨ a = 4 ∨ a = 5 ∨ a = 6 ∨ a = 7 ∨ a = 8 ∨ a = 9 ∨ a = 10 ∨ a = 11 := by omega
  clear ha
  rcases h with rfl | rfl | rfl | rfl | rfl | rfl | rfl | rfl | rfl | rfl | rfl | rfl <;> (conv => whnf)
  all_goals
    refine fin_e ?_
    conv => whnf
    exact ⟨trivial, rfl⟩

theorem neg_ok {b : Bk} (h : rgBk b) {a : Nat} (ha : a < 12) : IntKind.i64.wrap (0 - b.f a) = - b.f a := by
  rw [Int.zero_sub]
  have h1 := h a ha
  have h2 := b.h a ha
  refine wrap_id ?_
  unfold in64 at *
  omega

theorem r8_Balance_x (b : Bk) (hb : rgBk b) (a : Nat) (ha : a < 12) : PureX Tryz.prog gl0 r8_Balance [encBk b, I (a : Nat)] (fun r => r = tup2 (I (balB b a)) (I 0)) := by
  refine pure_fnX mixed fn_r8_Balance nt_r8_Balance hc_r8_Balance (by simp) gl0n (by simp [nf, nf_encBk]) ?_
  conv => whnf
  refine call_x2 (r8_is_x (a : Nat)) (LeL.refl _) ?_
  rintro _ - rfl
  rw [decide_eq_true (show (0 : Int) ≤ (a : Nat) ∧ ((a : Nat) : Int) < 12 by omega)]
  conv => whnf
  refine ⟨by omega, ?_⟩
  conv => whnf
  refine call_x2 (r8_Debits_x a ha) (LeL.refl _) ?_
  rintro _ - rfl
  by_cases c : 0 < at_ sideL a
  · rw [decide_eq_true c]
    conv => whnf
    refine fin_e ?_
    conv => whnf
    exact ⟨by simp [packA, consL, nf], congrArg (fun x => tup2 (I x) (I 0)) (show b.f a = balB b a by unfold balB; rw [if_pos c])⟩
  · rw [decide_eq_false c]
    conv => whnf
    refine br_false (decide_eq_false (b.h a ha)) ?_
    conv => whnf
    refine fin_e ?_
    conv => whnf
    exact ⟨by simp [packA, consL, nf], congrArg (fun x => tup2 (I x) (I 0)) (show IntKind.i64.wrap (0 - b.f a) = balB b a by rw [neg_ok hb ha]; unfold balB; rw [if_neg c])⟩

theorem r14_of_x (l : Ln) (a : Nat) (hb : rgBk l.book) (ha : a < 12) : PureX Tryz.prog gl0 r14_of [encLn l, I a] (fun r => r = I (bal l a)) := by
  refine pure_fnX mixed fn_r14_of nt_r14_of hc_r14_of (by simp) gl0n (by simp [nf]) ?_
  conv => whnf
  refine call_x2 (r8_Balance_x l.book hb a ha) (LeL.refl _) ?_
  rintro _ - rfl
  conv => whnf
  refine fin_e ?_
  conv => whnf
  exact ⟨trivial, rfl⟩

theorem r14_Position_x (l : Ln) (hb : rgBk l.book) : PureX Tryz.prog gl0 r14_Position [encLn l] (fun r => r = encPsn (psnOf l)) := by
  refine pure_fnX mixed fn_r14_Position nt_r14_Position hc_r14_Position (by simp) gl0n (by simp [nf]) ?_
  conv => whnf
  refine call_x2 (r14_of_x l 2 hb (by decide)) (LeL.refl _) ?_
  rintro _ - rfl
  conv => whnf
  refine call_x2 (r14_of_x l 1 hb (by decide)) (LeL.refl _) ?_
  rintro _ - rfl
  conv => whnf
  refine fin_e ?_
  conv => whnf
  exact ⟨by simp [packA, nf], rfl⟩

theorem r14_days_x (l : Ln) (hr : rng (encLn l)) (h : l.plan.length ≤ 1000) : PureX Tryz.prog gl0 r14_days [encLn l] (fun r => r = I (daysV l.plan l.applied (restOf l) l.day)) := by
  refine pure_fnX mixed fn_r14_days nt_r14_days hc_r14_days (by simp) gl0n (by simp [nf]) ?_
  conv => whnf
  refine call_x2 (r14_Position_x l (rg_Ln hr).book) (LeL.refl _) ?_
  rintro _ - rfl
  conv => whnf
  refine call_x2 (r10_Days_x l.plan (psnOf l) l.day hr.2.2.1 h) (LeL.refl _) ?_
  rintro _ - rfl
  conv => whnf
  refine fin_e ?_
  conv => whnf
  exact ⟨trivial, rfl⟩

theorem r14_pastDue_x (l : Ln) (hr : rng (encLn l)) (h : l.plan.length ≤ 1000) : PureX Tryz.prog gl0 r14_pastDue [encLn l] (fun r => r = I (pdV l.plan l.applied (restOf l) l.day)) := by
  refine pure_fnX mixed fn_r14_pastDue nt_r14_pastDue hc_r14_pastDue (by simp) gl0n (by simp [nf]) ?_
  conv => whnf
  refine call_x2 (r14_Position_x l (rg_Ln hr).book) (LeL.refl _) ?_
  rintro _ - rfl
  conv => whnf
  refine call_x2 (r10_PastDue_x l.plan (psnOf l) l.day hr.2.2.1 h (rg_Ln hr).applied) (LeL.refl _) ?_
  rintro _ - rfl
  conv => whnf
  refine fin_e ?_
  conv => whnf
  exact ⟨trivial, rfl⟩

theorem r14_Look_x (p : Pol) (l : Ln) (hp : hasI p) (hg : chk p = (0, 0)) (hr : rng (encLn l)) (h : l.plan.length ≤ 1000) : PureX Tryz.prog gl0 r14_Look [encPol p, encLn l] (fun r => r = lookV l) := by
  refine pure_fnX mixed fn_r14_Look nt_r14_Look hc_r14_Look (by simp) gl0n (by simp [nf]) ?_
  conv => whnf
  have hb := (rg_Ln hr).book
  refine call_x2 (r12_Check_x p hp) (LeL.refl _) ?_
  rw [hg]
  rintro _ - rfl
  conv => whnf
  refine call_x2 (r14_days_x l hr h) (LeL.refl _) ?_
  rintro _ - rfl
  conv => whnf
  refine call_x2 (r14_pastDue_x l hr h) (LeL.refl _) ?_
  rintro _ - rfl
  conv => whnf
  refine call_x2 (r10_Bucket_x _) (LeL.refl _) ?_
  rintro _ - rfl
  conv => whnf
  refine call_x2 (r14_of_x l 3 hb (by decide)) (LeL.refl _) ?_
  rintro _ - rfl
  conv => whnf
  refine call_x2 (r14_of_x l 2 hb (by decide)) (LeL.refl _) ?_
  rintro _ - rfl
  conv => whnf
  refine call_x2 (r14_of_x l 1 hb (by decide)) (LeL.refl _) ?_
  rintro _ - rfl
  conv => whnf
  refine call_x2 (r14_of_x l 4 hb (by decide)) (LeL.refl _) ?_
  rintro _ - rfl
  conv => whnf
  refine call_x2 (r14_of_x l 5 hb (by decide)) (LeL.refl _) ?_
  rintro _ - rfl
  conv => whnf
  refine call_x2 (r14_Position_x l hb) (LeL.refl _) ?_
  rintro _ - rfl
  conv => whnf
  refine call_x2 (r10_Oldest_x l.plan (psnOf l) hr.2.2.1 h) (LeL.refl _) ?_
  rintro _ - rfl
  cases ho : old l.plan l.applied (restOf l) with
  | none =>
    rw [show old l.plan (psnOf l).applied (psnOf l).rest = none from ho]
    conv => whnf
    refine call_x2 (r14_of_x l 10 hb (by decide)) (LeL.refl _) ?_
    rintro _ - rfl
    conv => whnf
    refine fin_e ?_
    conv => whnf
    refine ⟨by simp [packA, nf], ?_⟩
    unfold lookV
    rw [ho]
    rfl
  | some n =>
    rw [show old l.plan (psnOf l).applied (psnOf l).rest = some n from ho]
    have hlt := old_lt ho
    conv => whnf
    refine ⟨by omega, ?_⟩
    conv => whnf
    refine call_x2 (r14_of_x l 10 hb (by decide)) (LeL.refl _) ?_
    rintro _ - rfl
    conv => whnf
    refine fin_e ?_
    conv => whnf
    refine ⟨by simp [packA, nf], ?_⟩
    unfold lookV
    rw [ho]
    rfl

end Go.Proofs.YtaomkjcclcgdlaaGreatDoor
