/- What each investor should have, by the program: exact where the shares, the rate and the sums may be. No condition. -/
import Derived.Test.YtdjmplfjpnikkaaC1
set_option linter.all false
namespace Go.Proofs.Ytdjmplfjpnikkaa
open Go Ar
set_option linter.unusedVariables false
set_option autoImplicit false
set_option maxHeartbeats 4000000
set_option maxRecDepth 100000

/-- So many basis points of an amount. -/
def bpsN (s r : Nat) : Nat := mdN s r 10000
theorem bps_le {s r : Nat} (hr : r ≤ 10000) : bpsN s r ≤ s := by
  unfold bpsN
  rw [mdN_is]
  have h1 : s * r ≤ s * 10000 := Nat.mul_le_mul_left _ hr
  generalize s * r = P at *
  split <;> omega
theorem mdV_ok {s r : Nat} (hs : s < 9223372036854775808) (hr : r ≤ 10000) : mdV (s : Int) (r : Int) 10000 = tup2 (I (bpsN s r : Nat)) (B true) := by
  unfold mdV
  rw [if_neg (by decide), decide_eq_false (show ¬ (s : Int) < 0 by omega), decide_eq_false (show ¬ (r : Int) < 0 by omega), decide_eq_false (show ¬ (10000 : Int) < 0 by decide)]
  have h := bps_le (s := s) hr
  show (if mdN (s : Int).natAbs (r : Int).natAbs 10000 ≤ 9223372036854775807 then _ else _) = _
  rw [Int.natAbs_natCast, Int.natAbs_natCast]
  unfold bpsN at h ⊢
  rw [if_pos (by omega)]
  rfl

structure Rem where
  inv : Int
  p : Int
  i : Int
instance : Inhabited Rem := ⟨⟨0, 0, 0⟩⟩
def encRem (x : Rem) : AV := .st (.cons (I x.inv) (.cons (I x.p) (.cons (I x.i) .nil)))
theorem nf_encRem (x : Rem) : nf (encRem x) := ⟨trivial, trivial, trivial, trivial⟩
abbrev encRs (n : Nat) (f : Nat → Rem) : AV := .lst none n 3 (fun i => encRem (f i))
theorem nf_encRs (n : Nat) (f : Nat → Rem) : nf (encRs n f) := ⟨rfl, fun _ => nf_encRem _⟩
attribute [simp] nf_encRem nf_encRs

theorem leA_setR {n p q : Nat} {g h : Nat → Rem} (x : Rem) (e : q = p) (hp : h p = x) (ho : ∀ i, i ≠ p → h i = g i) : LeA (.arr n 3 (fun i => selA (i = q) (encRem x) (encRem (g i)))) (.arr n 3 (fun i => encRem (h i))) := by
  subst e
  refine LeA.arr fun i hi => LeA.of_eq ?_
  rw [selA_eq]
  by_cases c : i = q
  · rw [if_pos c, c, hp]
  · rw [if_neg c, ho i c]

abbrev encP (a b : Nat) : AV := .arr 2 1 (fun i => I (if i = 0 then (a : Int) else (b : Int)))
theorem nf_encP (a b : Nat) : nf (encP a b) := fun _ => trivial
attribute [simp] nf_encP

def colA (a f : Nat) : AV := .st (.cons (I a) (.cons (.clo (.func f) .nil .nil) .nil))
def encCol : AV := .arr 2 2 (fun i => if i = 0 then colA 1 remit_columns_c1 else colA 2 remit_columns_c2)
theorem nf_encCol : nf encCol := fun i => by
  show nf (if i = 0 then _ else _)
  split
  · exact ⟨trivial, ⟨trivial, trivial⟩, trivial⟩
  · exact ⟨trivial, ⟨trivial, trivial⟩, trivial⟩

theorem columns_x (u : Unit) : PureX Try.prog gl0 remit_columns [] (fun r => r = encCol) := by
  refine pure_fnX mixed fn_remit_columns nt_remit_columns hc_remit_columns (by simp) gl0n (by simp [nf]) ?_
  conv => whnf
  refine fin_r encCol nf_encCol rfl ?_
  conv => whnf
  refine (LeA.arr fun i hi => ?_).le
  match i, hi with
  | 0, _ => exact LeA.of_eq rfl
  | 1, _ => exact LeA.of_eq rfl

theorem okN2 {k o i n : Nat} {f : Nat → Rem} (h : k = o) (h3 : k < 3) : okNav [.fld k o, .idx i n 3] (.arr n 3 (fun i => encRem (f i))) = true := by
  subst h
  match k, h3 with
  | 0, _ => simp [okNav, okP, nav, compP, encRem, hasN, offIs, subS, size]
  | 1, _ => simp [okNav, okP, nav, compP, encRem, hasN, offIs, subS, size]
  | 2, _ => simp [okNav, okP, nav, compP, encRem, hasN, offIs, subS, size]

/-- The weights. -/
def wS (xs : List Shr) (i : Nat) : Nat := (at_ xs i).w.toNat
theorem wS_ok {xs : List Shr} (h : (shV xs).1 = 0) : WtN (wS xs) xs.length := by
  obtain ⟨h1, h2, h3⟩ := shV_0 h
  refine ⟨h1, h2, fun i hi => ?_⟩
  obtain ⟨_, _, h4, h5⟩ := h3 i hi
  have h6 := leftI_rng i (fun j hj => h3 j (by omega))
  unfold wS
  omega
theorem wS_i {xs : List Shr} (h : (shV xs).1 = 0) {i : Nat} (hi : i < xs.length) : (at_ xs i).w = (wS xs i : Nat) := by
  obtain ⟨_, _, h4, _⟩ := (shV_0 h).2.2 i hi
  unfold wS
  omega

/-- What each has. -/
def remF (xs : List Shr) (a b : Nat) (i : Nat) : Rem := ⟨(at_ xs i).inv, (pN a (wS xs) xs.length i : Nat), (pN b (wS xs) xs.length i : Nat)⟩
def rem0 (xs : List Shr) (k i : Nat) : Rem := if i < k then ⟨(at_ xs i).inv, 0, 0⟩ else ⟨0, 0, 0⟩
def rem1 (xs : List Shr) (a k i : Nat) : Rem := if i < k then ⟨(at_ xs i).inv, (pN a (wS xs) xs.length i : Nat), 0⟩ else ⟨(at_ xs i).inv, 0, 0⟩
def rem2 (xs : List Shr) (a b k i : Nat) : Rem := if i < k then remF xs a b i else ⟨(at_ xs i).inv, (pN a (wS xs) xs.length i : Nat), 0⟩
def remC (xs : List Shr) (a b c i : Nat) : Rem := match c with
  | 0 => ⟨(at_ xs i).inv, 0, 0⟩
  | 1 => ⟨(at_ xs i).inv, (pN a (wS xs) xs.length i : Nat), 0⟩
  | _ => remF xs a b i

theorem rem0_o {xs : List Shr} {k i : Nat} (h : i ≠ k) : rem0 xs (k + 1) i = rem0 xs k i := by
  unfold rem0
  by_cases c : i < k
  · rw [if_pos c, if_pos (by omega)]
  · rw [if_neg c, if_neg (by omega)]
theorem rem1_o {xs : List Shr} {a k i : Nat} (h : i ≠ k) : rem1 xs a (k + 1) i = rem1 xs a k i := by
  unfold rem1
  by_cases c : i < k
  · rw [if_pos c, if_pos (by omega)]
  · rw [if_neg c, if_neg (by omega)]
theorem rem2_o {xs : List Shr} {a b k i : Nat} (h : i ≠ k) : rem2 xs a b (k + 1) i = rem2 xs a b k i := by
  unfold rem2
  by_cases c : i < k
  · rw [if_pos c, if_pos (by omega)]
  · rw [if_neg c, if_neg (by omega)]
theorem nf_colA (a f : Nat) : nf (colA a f) := ⟨trivial, ⟨trivial, trivial⟩, trivial⟩

theorem due_x (xs : List Shr) (rate a b : Nat) (h : (shV xs).1 = 0) (hr : rate ≤ 10000) (ha : a < 9223372036854775808) (hb : b < 9223372036854775808) : PureX Try.prog gl0 remit_due [encL encShr 2 xs, I rate, encP a b] (fun r => r = tup2 (encRs xs.length (remF xs a (b - bpsN b rate))) (I (bpsN b rate : Nat))) := by
  refine pure_fnX mixed fn_remit_due nt_remit_due hc_remit_due (by simp) gl0n (by simp [nf]) ?_
  conv => whnf
  have hw := wS_ok h
  have h1 := hw.n1
  have h2 := hw.n2
  have hn : (xs.length : Int) < 9223372036854775808 := by omega
  refine And.intro (by decide) ?_
  conv => whnf
  refine call_x2 (bps_x (b : Int) (rate : Int) (by unfold in64; omega) (by unfold in64; omega)) (LeL.refl _) ?_
  rw [mdV_ok hb hr]
  rintro _ - rfl
  conv => whnf
  have hf := bps_le (s := b) hr
  generalize bpsN b rate = fee at hf ⊢
  repeat' first
    | (refine And.intro (by first | omega | decide | (constructor <;> omega) | (refine ⟨by omega, by omega, by omega⟩)) ?_; (conv => whnf))
    | fail
  refine loop_at mixed (fun (k : Nat) => ([(39, I k), (38, I xs.length), (37, encL encShr 2 xs), (5, .ptr 0 []), (8, I fee), (10, .sli 1 0 xs.length 1 2), (11, .sli 2 0 xs.length 3 66)], [(0, .box (encP a (b - fee))), (1, .box (.arr xs.length 1 (fun i => I (upF (wS xs) k i)))), (2, .box (.arr xs.length 3 (fun i => encRem (rem0 xs k i))))], 3)) (fun k => k ≤ xs.length) (fun k => xs.length - k) 0 (Nat.zero_le _) (le_st (le_r rfl) (leE_i rfl rfl (leE_i rfl rfl (leE_eq rfl (bnd_nf _ (nfL_Shr _ _)) (leE_ptr rfl rfl (leE_i rfl rfl (leE_eq rfl (.inl (lt_r rfl)) (leE_eq rfl (.inl (lt_r rfl)) trivial))))))) (leO_box (lt_r rfl) rfl (?_ ) (bnd_nf _ ( nf_encP _ _)) (leO_box (lt_r rfl) rfl (LeA.arr (fun i hi => LeA.refl _) ) (bnd_nf _ ( (fun i => trivial))) (leO_box (lt_r rfl) rfl (LeA.arr (fun i hi => LeA.refl _) ) (bnd_nf _ ( (fun i => nf_encRem _))) trivial))) gl0n) ?_
  · refine LeA.arr fun i hi => ?_
    match i, hi with
    | 0, _ => exact LeA.of_eq rfl
    | 1, _ =>
      refine LeA.of_eq (congrArg (fun n => I n) (?_ : IntKind.i64.wrap ((b : Int) - (fee : Nat)) = ((b - fee : Nat) : Int)))
      rw [wrap_id (by unfold in64; omega)]
      omega
  intro k hk
  conv => whnf
  by_cases c : k < xs.length
  · refine br_true (decide_eq_true ((by omega : (k : Int) < xs.length))) ?_
    conv => whnf
    repeat' first
      | (refine And.intro (by first | omega | (constructor <;> omega) | fail) ?_; (conv => whnf))
      | (rw [okN]; (conv => whnf))
      | (rw [okN2 rfl (by decide)]; (conv => whnf))
      | fail
    exact ⟨k + 1, c, (by show xs.length - (k + 1) < xs.length - k; omega), (le_st (le_r rfl) (leE_i rfl (inc_id c hn) (leE_i rfl rfl (leE_eq rfl (bnd_nf _ (nfL_Shr _ _)) (leE_ptr rfl rfl (leE_i rfl rfl (leE_eq rfl (.inl (lt_r rfl)) (leE_eq rfl (.inl (lt_r rfl)) trivial))))))) (leO_box (lt_r rfl) rfl (LeA.refl _) (bnd_nf _ (nf_encP _ _)) (leO_box (lt_r rfl) rfl (leA_setF (Nat.zero_add _) (upF_s.trans (wS_i h c).symm) (fun i hi => upF_o hi) ) (bnd_nf _ ( (fun i => trivial))) (leO_box (lt_r rfl) rfl (leA_setR ⟨(at_ xs k).inv, (rem0 xs k (0 + Int.toNat (k : Int))).p, (rem0 xs k (0 + Int.toNat (k : Int))).i⟩ (Nat.zero_add _) (by rw [Nat.zero_add]; simp [rem0]) (fun i hi => rem0_o hi) ) (bnd_nf _ ( (fun i => nf_encRem _))) trivial))) gl0n)⟩
  · refine br_false (decide_eq_false ((by omega : ¬ ((k : Int) < xs.length)))) ?_
    conv => whnf
    have hk2 : k = xs.length := by omega
    refine call_x2 (columns_x ()) trivial ?_
    rintro _ - rfl
    conv => whnf
    refine loop_at mixed (fun (c : Nat) => ([(57, I c), (56, encCol), (5, .ptr 0 []), (8, I fee), (10, encF xs.length (wS xs)), (11, .sli 2 0 xs.length 3 66)], [(0, .box (encP a (b - fee))), (2, .box (.arr xs.length 3 (fun i => encRem (remC xs a (b - fee) c i))))], 3)) (fun c => c ≤ 2) (fun c => 2 - c) 0 (Nat.zero_le _) ((le_freeze 10 1 rfl rfl).trans (le_st (le_r rfl) (leE_i rfl rfl (leE_eq rfl (bnd_nf _ (nf_encCol)) (leE_ptr rfl rfl (leE_i rfl rfl (leE_le rfl ((LeA.lst (.inl rfl) (fun i hi => LeA.of_eq (congrArg (fun n => I n) (if_pos (by omega))))).le ) (bnd_nf _ ( nf_encF _ _)) (leE_eq rfl (.inl (lt_r rfl)) trivial)))))) (leO_box (lt_r rfl) rfl (LeA.refl _) (bnd_nf _ (nf_encP _ _)) (leO_box (lt_r rfl) rfl (LeA.arr (fun i hi => LeA.of_eq (congrArg encRem (if_pos (by omega)))) ) (bnd_nf _ ( (fun i => nf_encRem _))) trivial)) gl0n)) ?_
    clear hk2 c hk
    intro c hc
    rcases (show c = 0 ∨ c = 1 ∨ c = 2 by omega) with rfl | rfl | rfl
    · conv => whnf
      repeat' first
        | (refine And.intro (by first | decide | omega | (constructor <;> omega) | fail) ?_; (conv => whnf))
        | fail
      refine call_x2 (split_x a xs.length (wS xs) ha hw) (LeL.refl _) ?_
      rintro _ - rfl
      conv => whnf
      refine loop_at mixed (fun (k : Nat) => ([(71, I k), (70, I xs.length), (16, encF xs.length (pN a (wS xs) xs.length)), (15, .ptr 3 []), (57, I 0), (56, encCol), (5, .ptr 0 []), (8, I fee), (10, encF xs.length (wS xs)), (11, .sli 2 0 xs.length 3 66)], [(0, .box (encP a (b - fee))), (2, .box (.arr xs.length 3 (fun i => encRem (rem1 xs a k i)))), (3, .box (colA 1 remit_columns_c1))], 4)) (fun k => k ≤ xs.length) (fun k => xs.length - k) 0 (Nat.zero_le _) (le_st (le_r rfl) (leE_i rfl rfl (leE_i rfl rfl (leE_eq rfl (bnd_nf _ (nf_encF _ _)) (leE_ptr rfl rfl (leE_i rfl rfl (leE_eq rfl (bnd_nf _ (nf_encCol)) (leE_ptr rfl rfl (leE_i rfl rfl (leE_eq rfl (bnd_nf _ (nf_encF _ _)) (leE_eq rfl (.inl (lt_r rfl)) trivial)))))))))) (leO_box (lt_r rfl) rfl (LeA.refl _) (bnd_nf _ (nf_encP _ _)) (leO_box (lt_r rfl) rfl (LeA.arr (fun i hi => LeA.refl _) ) (bnd_nf _ ( (fun i => nf_encRem _))) (leO_box (lt_r rfl) rfl (LeA.refl _ ) (bnd_nf _ ( nf_colA _ _)) trivial))) gl0n) ?_
      intro k hk
      conv => whnf
      by_cases c : k < xs.length
      · refine br_true (decide_eq_true ((by omega : (k : Int) < xs.length))) ?_
        conv => whnf
        repeat' first
          | (refine And.intro (by first | omega | (constructor <;> omega) | fail) ?_; (conv => whnf))
          | fail
        refine ⟨col1_ok, call_ptr 1 col1_ptr ?_⟩
        conv => whnf
        repeat' first
          | (refine And.intro (by first | omega | (constructor <;> omega) | fail) ?_; (conv => whnf))
          | (rw [okN2 rfl (by decide)]; (conv => whnf))
          | fail
        exact ⟨k + 1, c, (by show xs.length - (k + 1) < xs.length - k; omega), (le_st (le_r rfl) (leE_i rfl (inc_id c hn) (leE_i rfl rfl (leE_eq rfl (bnd_nf _ (nf_encF _ _)) (leE_ptr rfl rfl (leE_i rfl rfl (leE_eq rfl (bnd_nf _ (nf_encCol)) (leE_ptr rfl rfl (leE_i rfl rfl (leE_eq rfl (bnd_nf _ (nf_encF _ _)) (leE_eq rfl (.inl (lt_r rfl)) trivial)))))))))) (leO_box (lt_r rfl) rfl (LeA.refl _) (bnd_nf _ (nf_encP _ _)) (leO_box (lt_r rfl) rfl (leA_setR ⟨(rem1 xs a k (0 + Int.toNat (k : Int))).inv, (pN a (wS xs) xs.length k : Nat), (rem1 xs a k (0 + Int.toNat (k : Int))).i⟩ (Nat.zero_add _) (by rw [Nat.zero_add]; simp [rem1, remF]) (fun i hi => by exact rem1_o hi) ) (bnd_nf _ ( (fun i => nf_encRem _))) (leO_box (lt_r rfl) rfl (LeA.refl _) (bnd_nf _ (nf_colA _ _)) trivial))) gl0n)⟩
      · refine br_false (decide_eq_false ((by omega : ¬ ((k : Int) < xs.length)))) ?_
        conv => whnf
        have hk2 : k = xs.length := by omega
        exact ⟨1, by decide, by decide, (le_st (le_r rfl) (leE_i rfl ((by decide)) (leE_eq rfl (bnd_nf _ (nf_encCol)) (leE_ptr rfl rfl (leE_i rfl rfl (leE_eq rfl (bnd_nf _ (nf_encF _ _)) (leE_eq rfl (.inl (lt_r rfl)) trivial)))))) (leO_box (lt_r rfl) rfl (LeA.refl _) (bnd_nf _ (nf_encP _ _)) (leO_box (lt_r rfl) rfl (LeA.arr (fun i hi => LeA.of_eq (congrArg encRem (if_pos (by omega)))) ) (bnd_nf _ ( (fun i => nf_encRem _))) trivial)) gl0n)⟩
    · conv => whnf
      repeat' first
        | (refine And.intro (by first | decide | omega | (constructor <;> omega) | fail) ?_; (conv => whnf))
        | fail
      refine call_x2 (split_x (b - fee) xs.length (wS xs) (by omega) hw) (LeL.refl _) ?_
      rintro _ - rfl
      conv => whnf
      refine loop_at mixed (fun (k : Nat) => ([(71, I k), (70, I xs.length), (16, encF xs.length (pN (b - fee) (wS xs) xs.length)), (15, .ptr 3 []), (57, I 1), (56, encCol), (5, .ptr 0 []), (8, I fee), (10, encF xs.length (wS xs)), (11, .sli 2 0 xs.length 3 66)], [(0, .box (encP a (b - fee))), (2, .box (.arr xs.length 3 (fun i => encRem (rem2 xs a (b - fee) k i)))), (3, .box (colA 2 remit_columns_c2))], 4)) (fun k => k ≤ xs.length) (fun k => xs.length - k) 0 (Nat.zero_le _) (le_st (le_r rfl) (leE_i rfl rfl (leE_i rfl rfl (leE_eq rfl (bnd_nf _ (nf_encF _ _)) (leE_ptr rfl rfl (leE_i rfl rfl (leE_eq rfl (bnd_nf _ (nf_encCol)) (leE_ptr rfl rfl (leE_i rfl rfl (leE_eq rfl (bnd_nf _ (nf_encF _ _)) (leE_eq rfl (.inl (lt_r rfl)) trivial)))))))))) (leO_box (lt_r rfl) rfl (LeA.refl _) (bnd_nf _ (nf_encP _ _)) (leO_box (lt_r rfl) rfl (LeA.arr (fun i hi => LeA.refl _) ) (bnd_nf _ ( (fun i => nf_encRem _))) (leO_box (lt_r rfl) rfl (LeA.refl _ ) (bnd_nf _ ( nf_colA _ _)) trivial))) gl0n) ?_
      intro k hk
      conv => whnf
      by_cases c : k < xs.length
      · refine br_true (decide_eq_true ((by omega : (k : Int) < xs.length))) ?_
        conv => whnf
        repeat' first
          | (refine And.intro (by first | omega | (constructor <;> omega) | fail) ?_; (conv => whnf))
          | fail
        refine ⟨col2_ok, call_ptr 2 col2_ptr ?_⟩
        conv => whnf
        repeat' first
          | (refine And.intro (by first | omega | (constructor <;> omega) | fail) ?_; (conv => whnf))
          | (rw [okN2 rfl (by decide)]; (conv => whnf))
          | fail
        exact ⟨k + 1, c, (by show xs.length - (k + 1) < xs.length - k; omega), (le_st (le_r rfl) (leE_i rfl (inc_id c hn) (leE_i rfl rfl (leE_eq rfl (bnd_nf _ (nf_encF _ _)) (leE_ptr rfl rfl (leE_i rfl rfl (leE_eq rfl (bnd_nf _ (nf_encCol)) (leE_ptr rfl rfl (leE_i rfl rfl (leE_eq rfl (bnd_nf _ (nf_encF _ _)) (leE_eq rfl (.inl (lt_r rfl)) trivial)))))))))) (leO_box (lt_r rfl) rfl (LeA.refl _) (bnd_nf _ (nf_encP _ _)) (leO_box (lt_r rfl) rfl (leA_setR ⟨(rem2 xs a (b - fee) k (0 + Int.toNat (k : Int))).inv, (rem2 xs a (b - fee) k (0 + Int.toNat (k : Int))).p, (pN (b - fee) (wS xs) xs.length k : Nat)⟩ (Nat.zero_add _) (by rw [Nat.zero_add]; simp [rem2, remF]) (fun i hi => by exact rem2_o hi) ) (bnd_nf _ ( (fun i => nf_encRem _))) (leO_box (lt_r rfl) rfl (LeA.refl _) (bnd_nf _ (nf_colA _ _)) trivial))) gl0n)⟩
      · refine br_false (decide_eq_false ((by omega : ¬ ((k : Int) < xs.length)))) ?_
        conv => whnf
        have hk2 : k = xs.length := by omega
        exact ⟨2, by decide, by decide, (le_st (le_r rfl) (leE_i rfl ((by decide)) (leE_eq rfl (bnd_nf _ (nf_encCol)) (leE_ptr rfl rfl (leE_i rfl rfl (leE_eq rfl (bnd_nf _ (nf_encF _ _)) (leE_eq rfl (.inl (lt_r rfl)) trivial)))))) (leO_box (lt_r rfl) rfl (LeA.refl _) (bnd_nf _ (nf_encP _ _)) (leO_box (lt_r rfl) rfl (LeA.arr (fun i hi => LeA.of_eq (congrArg encRem (if_pos (by omega)))) ) (bnd_nf _ ( (fun i => nf_encRem _))) trivial)) gl0n)⟩
    · conv => whnf
      refine fin_le (le_freeze 6 2 rfl rfl) ?_
      refine fin_r (tup2 (encRs xs.length (remF xs a (b - fee))) (I fee)) ⟨nf_encRs _ _, trivial, trivial⟩ rfl ?_
      conv => whnf
      exact Le.refl _

end Go.Proofs.Ytdjmplfjpnikkaa
namespace Go.Proofs.Ytdjmplfjpnikkaa
open Go Ar
set_option linter.unusedVariables false
set_option autoImplicit false
set_option maxHeartbeats 4000000
set_option maxRecDepth 100000

theorem isRate_x (x : Int) : PureX Try.prog gl0 remit_isRate [I x] (fun r => r = B (decide (0 ≤ x ∧ x ≤ 10000))) := by
  refine pure_fnX mixed fn_remit_isRate nt_remit_isRate hc_remit_isRate (by simp) gl0n (by simp [nf]) ?_
  conv => whnf
  repeat' first
    | (refine br_dec (fun h0 => ?_) (fun h0 => ?_) <;> (conv => whnf))
    | (refine br_intro (fun hb => ?_) (fun hb => ?_) <;> ((try rw [hb]); (conv => whnf); (try simp at hb)))
    | (refine aI ?_; (conv => whnf))
    | (refine fin_e ?_; (conv => whnf); first | exact ⟨trivial, congrArg (fun b => B b) (decide_eq_true (by omega)).symm⟩ | exact ⟨trivial, congrArg (fun b => B b) (decide_eq_false (by omega)).symm⟩)
    | fail

theorem Due_x (xs : List Shr) (rate a b : Nat) (h : (shV xs).1 = 0) (hr : rate ≤ 10000) (ha : a < 9223372036854775808) (hb : b < 9223372036854775808) : PureX Try.prog gl0 remit_Due [encL encShr 2 xs, I rate, I a, I b] (fun r => r = tup3 (encRs xs.length (remF xs a (b - bpsN b rate))) (I (bpsN b rate : Nat)) (I 0)) := by
  refine pure_fnX mixed fn_remit_Due nt_remit_Due hc_remit_Due (by simp) gl0n (by simp [nf]) ?_
  conv => whnf
  have hl := shV_0 h
  refine call_x2 (check_x xs (by omega)) (LeL.refl _) ?_
  rw [h]
  rintro _ - rfl
  conv => whnf
  refine call_x2 (isRate_x rate) (LeL.refl _) ?_
  rw [decide_eq_true (show (0 : Int) ≤ rate ∧ (rate : Int) ≤ 10000 by omega)]
  rintro _ - rfl
  conv => whnf
  refine call_x2 (due_x xs rate a b h hr ha hb) ⟨Le.refl _, Le.refl _, (LeA.arr fun i hi => ?_).le, trivial⟩ ?_
  · match i, hi with
    | 0, _ => exact LeA.of_eq rfl
    | 1, _ => exact LeA.of_eq rfl
  rintro _ - rfl
  conv => whnf
  refine fin_e ?_
  conv => whnf
  exact ⟨⟨nf_encRs _ _, trivial, trivial, trivial⟩, rfl⟩

theorem ownS_x (xs : List Shr) (hn : xs.length ≤ 32) : PureX Try.prog gl0 l29_ownShares [encL encShr 2 xs] (fun r => r = encL encShr 2 (xs ++ [⟨-7, 0⟩])) := by
  refine pure_fnX mixed fn_l29_ownShares nt_l29_ownShares hc_l29_ownShares (by simp) gl0n (by simp [nf]) ?_
  conv => whnf
  repeat' first
    | (refine And.intro (by first | omega | rfl | (show _ * 16 ≤ _; omega) | (show (_ + _) * 16 ≤ _; simp only [List.length_cons, List.length_nil]; omega) | fail) ?_; (conv => whnf))
    | fail
  refine fin_r (encL encShr 2 (xs ++ [⟨-7, 0⟩])) (nfL_Shr _ _) rfl ?_
  conv => whnf
  exact (leA_snoc (enc := encShr) (x := ⟨-7, 0⟩) (LeA.of_eq rfl)).le.trans leA_drop.le

end Go.Proofs.Ytdjmplfjpnikkaa
