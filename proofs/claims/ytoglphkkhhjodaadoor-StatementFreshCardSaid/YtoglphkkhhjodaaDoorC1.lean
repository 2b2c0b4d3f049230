/- Sums in 128 bits by the program. No condition. -/
import Derived.Test.YtoglphkkhhjodaaDoorB4
import Derived.Test.YtoglphkkhhjodaaDoorB1
set_option linter.all false
namespace Go.Proofs.YtoglphkkhhjodaaDoor
open Go Ar
set_option linter.unusedVariables false
set_option autoImplicit false
set_option maxHeartbeats 4000000
set_option maxRecDepth 100000

abbrev Wd (S : Int) : AV := .st (.cons (U (S / 18446744073709551616 % 18446744073709551616)) (.cons (U (S % 18446744073709551616)) .nil))
theorem nf_Wd (S : Int) : nf (Wd S) := ⟨trivial, trivial, trivial⟩
theorem wd_eq {h l h' l' : Int} (a : h = h') (b : l = l') : (.st (.cons (U h) (.cons (U l) .nil)) : AV) = .st (.cons (U h') (.cons (U l') .nil)) := by rw [a, b]

theorem shr63i {x : Int} (hx : in64 x) : x.fdiv (2 ^ min (Int.toNat 63) IntKind.i64.bits) = if x < 0 then -1 else 0 := by
  obtain ⟨h1, h2⟩ := hx
  have : (2 : Int) ^ min (Int.toNat 63) IntKind.i64.bits = 9223372036854775808 := by decide
  rw [this, Int.fdiv_eq_ediv_of_nonneg _ (by omega)]
  split <;> omega

theorem add64_x {x y c : Int} (hx : 0 ≤ x) (hy : 0 ≤ y) (h0 : 0 ≤ c) (h1 : c ≤ 1) : XPure Tryd.prog 42 [U x, U y, U c] (tup2 (U ((x + y + c) % 18446744073709551616)) (U ((x + y + c) / 18446744073709551616))) :=
  xpure_add64 Tryd.func42 (by kernel_rfl) (by kernel_rfl) (by kernel_rfl) (by kernel_rfl) hx hy h0 h1

theorem plus_x (S x : Int) (hx : in64 x) : PureX Tryd.prog gl0 statement_wide_plus [Wd S, I x] (fun r => r = Wd (S + x)) := by
  refine pure_fnX mixed fn_statement_wide_plus nt_statement_wide_plus hc_statement_wide_plus (by simp) gl0n (by simp [nf]) ?_
  conv => whnf
  have hu : IntKind.u64.wrap x = x % 18446744073709551616 := wrap_u64 x
  have hs := shr63i hx
  have hv : IntKind.u64.wrap (if x < 0 then -1 else 0) = (if x < 0 then -1 else 0) % 18446744073709551616 := wrap_u64 _
  have hc : (S % 18446744073709551616 + x % 18446744073709551616 + 0) / 18446744073709551616 ≤ 1 ∧ 0 ≤ (S % 18446744073709551616 + x % 18446744073709551616 + 0) / 18446744073709551616 := by omega
  rw [hu]
  refine call_x (add64_x (by omega) (by omega) (by omega) (by omega)) ?_
  conv => whnf
  refine And.intro (by decide) ?_
  conv => whnf
  rw [hs, hv]
  refine call_x (add64_x (by omega) (by omega) hc.2 hc.1) ?_
  conv => whnf
  refine fin_e ?_
  conv => whnf
  unfold in64 at hx
  refine ⟨by simp [packA, consL, nf], wd_eq ?_ ?_⟩
  · split <;> omega
  · omega

theorem cents_x (S : Int) (h : -170141183460469231731687303715884105728 ≤ S ∧ S ≤ 170141183460469231731687303715884105727) : PureX Tryd.prog gl0 statement_wide_cents [Wd S] (fun r => r = tup2 (I (IntKind.i64.wrap S)) (B (decide (in64 S)))) := by
  refine pure_fnX mixed fn_statement_wide_cents nt_statement_wide_cents hc_statement_wide_cents (by simp) gl0n (by simp [nf]) ?_
  conv => whnf
  have hs := shr63i (wrap_in (S % 18446744073709551616))
  have hw : IntKind.i64.wrap (S % 18446744073709551616) = IntKind.i64.wrap S := by simp only [wrap_i64]; split <;> split <;> omega
  have hd : decide (IntKind.u64.wrap ((IntKind.i64.wrap (S % 18446744073709551616)).fdiv (2 ^ min (Int.toNat 63) IntKind.i64.bits)) = S / 18446744073709551616 % 18446744073709551616) = decide (in64 S) := by
    rw [hs]
    congr 1
    unfold in64
    rw [hw, wrap_i64, wrap_u64]
    apply propext
    split <;> split <;> omega
  refine And.intro (by decide) ?_
  conv => whnf
  rw [hd, hw]
  by_cases c : in64 S
  · refine br_true (decide_eq_true (c)) ?_
    conv => whnf
    refine fin_e ?_
    conv => whnf
    exact ⟨by simp [packA, consL, nf], congrArg (fun b => tup2 (I (IntKind.i64.wrap S)) (B b)) (decide_eq_true c).symm⟩
  · refine br_false (decide_eq_false (c)) ?_
    conv => whnf
    refine fin_e ?_
    conv => whnf
    exact ⟨by simp [packA, consL, nf], congrArg (fun b => tup2 (I (IntKind.i64.wrap S)) (B b)) (decide_eq_false c).symm⟩

end Go.Proofs.YtoglphkkhhjodaaDoor
namespace Go.Proofs.YtoglphkkhhjodaaDoor
open Go Ar
set_option linter.unusedVariables false
set_option autoImplicit false
set_option maxHeartbeats 4000000
set_option maxRecDepth 100000

structure Mov where
  day : Int
  kind : Int
  net : Nat → Int
instance : Inhabited Mov := ⟨⟨0, 0, fun _ => 0⟩⟩
def encMov (m : Mov) : AV := .st (.cons (I m.day) (.cons (I m.kind) (.cons (encBf m.net) .nil)))
theorem nf_encMov (m : Mov) : nf (encMov m) := ⟨trivial, trivial, nf_encBf _, trivial⟩
theorem nfL_Mov (e : Nat) (xs : List Mov) : nf (encL encMov e xs) := nf_encL nf_encMov
attribute [simp] nf_encMov nfL_Mov

def okM (ms : List Mov) : Prop := ∀ m ∈ ms, ∀ a, a < 12 → in64 (m.net a)
/-- The numbers of an account up to a day. -/
def colD (d : Int) (a : Nat) (ms : List Mov) : List Int := (ms.filter fun m => decide (m.day ≤ d)).map fun m => m.net a
def sD (d : Int) (ms : List Mov) (a : Nat) : Int := (colD d a ms).sum
def oneD (d : Int) (a : Nat) (m : Mov) : List Int := if m.day ≤ d then [m.net a] else []
theorem colD_take {d : Int} {a : Nat} {ms : List Mov} {k : Nat} (h : k < ms.length) : colD d a (ms.take (k + 1)) = colD d a (ms.take k) ++ oneD d a (at_ ms k) := by
  unfold colD oneD
  rw [take_at h, List.filter_append, List.map_append]
  refine congrArg _ ?_
  by_cases c : (at_ ms k).day ≤ d
  · rw [if_pos c]; simp [c]
  · rw [if_neg c]; simp [c]
theorem sD_yes {d : Int} {a : Nat} {ms : List Mov} {k : Nat} (h : k < ms.length) (c : (at_ ms k).day ≤ d) : sD d (ms.take (k + 1)) a = sD d (ms.take k) a + (at_ ms k).net a := by
  unfold sD
  rw [colD_take h, oneD, if_pos c, List.sum_append]
  simp
theorem sD_no {d : Int} {a : Nat} {ms : List Mov} {k : Nat} (h : k < ms.length) (c : ¬ (at_ ms k).day ≤ d) : sD d (ms.take (k + 1)) a = sD d (ms.take k) a := by
  unfold sD
  rw [colD_take h, oneD, if_neg c, List.append_nil]
theorem colD_in {d : Int} {a : Nat} {ms : List Mov} (h : okM ms) (ha : a < 12) : ∀ x ∈ colD d a ms, in64 x := by
  intro x hx
  obtain ⟨m, hm, rfl⟩ := List.mem_map.1 hx
  exact h m ((List.mem_filter.1 hm).1) a ha
theorem colD_len (d : Int) (a : Nat) (ms : List Mov) : (colD d a ms).length ≤ ms.length := by
  unfold colD
  rw [List.length_map]
  exact List.length_filter_le _ _
theorem sum_bnd : ∀ (xs : List Int), (∀ x ∈ xs, in64 x) → -9223372036854775808 * (xs.length : Int) ≤ xs.sum ∧ xs.sum ≤ 9223372036854775807 * (xs.length : Int)
  | [], _ => by simp
  | x :: r, h => by
    have ih := sum_bnd r (fun y hy => h y (List.mem_cons_of_mem _ hy))
    obtain ⟨h1, h2⟩ := h x (List.mem_cons_self ..)
    simp only [List.sum_cons, List.length_cons]
    omega
theorem sD_128 {d : Int} {a : Nat} {ms : List Mov} (h : okM ms) (hn : ms.length ≤ 100000) (ha : a < 12) : -170141183460469231731687303715884105728 ≤ sD d ms a ∧ sD d ms a ≤ 170141183460469231731687303715884105727 := by
  have h1 := sum_bnd (colD d a ms) (colD_in h ha)
  have h2 := colD_len d a ms
  unfold sD
  omega
def okU (d : Int) (ms : List Mov) : Prop := ∀ a, a < 12 → in64 (sD d ms a)
abbrev zN : Nat → Int := fun _ => 0
open Classical in
/-- What both tell of a day. -/
noncomputable def upV (d : Int) (ms : List Mov) : AV := if okU d ms then tup2 (encBf (sD d ms)) (B true) else tup2 (encBf zN) (B false)
theorem upV_yes {d : Int} {ms : List Mov} (h : okU d ms) : upV d ms = tup2 (encBf (sD d ms)) (B true) := if_pos h
theorem upV_no {d : Int} {ms : List Mov} (h : ¬ okU d ms) : upV d ms = tup2 (encBf zN) (B false) := if_neg h
theorem leA_Bf12 {f g : Nat → Int} (h : ∀ i, i < 12 → f i = g i) : LeA (.st (.cons (.arr 12 1 fun i => I (f i)) .nil)) (encBf g) :=
  LeA.st (LeA.cons (LeA.arr fun i hi => LeA.of_eq (by rw [h i hi])) (LeA.refl _))

theorem up_set {S x : Nat → Int} {a : Nat} (i : Nat) : selA (i = Int.toNat (a : Int)) (Wd (S a + (if a < a then x a else 0) + x a)) (Wd (S i + if i < a then x i else 0)) = Wd (S i + if i < a + 1 then x i else 0) := by
  rw [selA_eq, Int.toNat_natCast]
  by_cases c : i = a
  · rw [if_pos c, c, if_neg (Nat.lt_irrefl a), if_pos (Nat.lt_succ_self a), Int.add_zero]
  · rw [if_neg c]
    by_cases c2 : i < a
    · rw [if_pos c2, if_pos (by omega)]
    · rw [if_neg c2, if_neg (by omega)]

theorem upto_x (ms : List Mov) (d : Int) (hm : okM ms) (hn : ms.length ≤ 100000) : PureX Tryd.prog gl0 statement_Upto [encL encMov 14 ms, I d] (fun r => r = upV d ms) := by
  refine pure_fnX mixed fn_statement_Upto nt_statement_Upto hc_statement_Upto (by simp) gl0n (by simp [nf]) ?_
  conv => whnf
  have hl : (ms.length : Int) < 9223372036854775808 := by omega
  refine loop_at mixed (fun (k : Nat) => ([(18, I k), (17, I ms.length), (16, encL encMov 14 ms), (1, I d), (6, .ptr 1 []), (4, .ptr 0 []), (5, B false)], [(0, .box (encBf zN)), (1, .box (.arr 12 2 (fun i => Wd (sD d (ms.take k) i))))], 2)) (fun k => k ≤ ms.length) (fun k => ms.length - k) 0 (Nat.zero_le _) (le_st (le_r rfl) (leE_i rfl rfl (leE_i rfl rfl (leE_eq rfl (bnd_nf _ (nfL_Mov _ _)) (leE_i rfl rfl (leE_ptr rfl rfl (leE_ptr rfl rfl (leE_eq rfl (bnd_nf _ (trivial)) trivial))))))) (leO_box (lt_r rfl) rfl (LeA.refl _) (bnd_nf _ (nf_encBf _)) (leO_box (lt_r rfl) rfl (LeA.refl _ ) (bnd_nf _ ( (fun i => nf_Wd _))) trivial)) gl0n) ?_
  intro k hk
  conv => whnf
  by_cases c : k < ms.length
  · refine br_true (decide_eq_true ((by omega : (k : Int) < ms.length))) ?_
    conv => whnf
    refine ⟨by omega, ?_⟩
    conv => whnf
    by_cases c1 : (at_ ms k).day ≤ d
    · refine br_false (decide_eq_false ((by omega : ¬ (d < (at_ ms k).day)))) ?_
      conv => whnf
      refine loop_at mixed (fun (a : Nat) => ([(29, I a), (28, .arr 12 1 (fun i => I ((at_ ms k).net i))), (18, I k), (17, I ms.length), (16, encL encMov 14 ms), (1, I d), (6, .ptr 1 []), (4, .ptr 0 []), (5, B false)], [(0, .box (encBf zN)), (1, .box (.arr 12 2 (fun i => Wd (sD d (ms.take k) i + if i < a then (at_ ms k).net i else 0))))], 2)) (fun a => a ≤ 12) (fun a => 12 - a) 0 (Nat.zero_le _) (le_st (le_r rfl) (leE_i rfl rfl (leE_eq rfl (bnd_nf _ ((fun i => trivial))) (leE_i rfl rfl (leE_i rfl rfl (leE_eq rfl (bnd_nf _ (nfL_Mov _ _)) (leE_i rfl rfl (leE_ptr rfl rfl (leE_ptr rfl rfl (leE_eq rfl (bnd_nf _ (trivial)) trivial))))))))) (leO_box (lt_r rfl) rfl (LeA.refl _) (bnd_nf _ (nf_encBf _)) (leO_box (lt_r rfl) rfl (LeA.arr (fun i hi => LeA.of_eq (by rw [if_neg (Nat.not_lt_zero i), Int.add_zero])) ) (bnd_nf _ ( (fun i => nf_Wd _))) trivial)) gl0n) ?_
      intro a ha
      conv => whnf
      by_cases c2 : a < 12
      · refine br_true (decide_eq_true ((by omega : (a : Int) < 12))) ?_
        conv => whnf
        repeat' first
          | (refine And.intro (by first | omega | (constructor <;> omega) | fail) ?_; (conv => whnf))
          | fail
        refine call_x2 (plus_x (sD d (ms.take k) a + if a < a then (at_ ms k).net a else 0) ((at_ ms k).net a) (hm _ (at_mem c) a c2)) (LeL.refl _) ?_
        rintro _ - rfl
        conv => whnf
        repeat' first
          | (rw [wpE_one])
          | (refine And.intro (by first | omega | (constructor <;> omega) | fail) ?_; (conv => whnf))
          | (rw [okN]; (try conv in (occs := *) (ev gl0 _ _) => all_goals whnf); (conv => whnf))
          | fail
        exact ⟨a + 1, c2, (by show 12 - (a + 1) < 12 - a; omega), (le_st (le_r rfl) (leE_i rfl (inc_id c2 (show ((12 : Nat) : Int) < 9223372036854775808 by decide)) (leE_eq rfl (bnd_nf _ ((fun i => trivial))) (leE_i rfl rfl (leE_i rfl rfl (leE_eq rfl (bnd_nf _ (nfL_Mov _ _)) (leE_i rfl rfl (leE_ptr rfl rfl (leE_ptr rfl rfl (leE_eq rfl (bnd_nf _ (trivial)) trivial))))))))) (leO_box (lt_r rfl) rfl (LeA.refl _) (bnd_nf _ (nf_encBf _)) (leO_box (lt_r rfl) rfl (LeA.arr (fun i hi => LeA.of_eq (up_set i)) ) (bnd_nf _ ( (fun i => nf_Wd _))) trivial)) gl0n)⟩
      · refine br_false (decide_eq_false ((by omega : ¬ ((a : Int) < 12)))) ?_
        conv => whnf
        obtain rfl : a = 12 := by omega
        exact ⟨k + 1, c, (by show ms.length - (k + 1) < ms.length - k; omega), (le_st (le_r rfl) (leE_i rfl (inc_id c hl) (leE_i rfl rfl (leE_eq rfl (bnd_nf _ (nfL_Mov _ _)) (leE_i rfl rfl (leE_ptr rfl rfl (leE_ptr rfl rfl (leE_eq rfl (bnd_nf _ (trivial)) trivial))))))) (leO_box (lt_r rfl) rfl (LeA.refl _) (bnd_nf _ (nf_encBf _)) (leO_box (lt_r rfl) rfl (LeA.arr (fun i hi => LeA.of_eq (by rw [sD_yes c c1, if_pos hi])) ) (bnd_nf _ ( (fun i => nf_Wd _))) trivial)) gl0n)⟩
    · refine br_true (decide_eq_true ((by omega : (d < (at_ ms k).day)))) ?_
      conv => whnf
      exact ⟨k + 1, c, (by show ms.length - (k + 1) < ms.length - k; omega), (le_st (le_r rfl) (leE_i rfl (inc_id c hl) (leE_i rfl rfl (leE_eq rfl (bnd_nf _ (nfL_Mov _ _)) (leE_i rfl rfl (leE_ptr rfl rfl (leE_ptr rfl rfl (leE_eq rfl (bnd_nf _ (trivial)) trivial))))))) (leO_box (lt_r rfl) rfl (LeA.refl _) (bnd_nf _ (nf_encBf _)) (leO_box (lt_r rfl) rfl (LeA.arr (fun i hi => LeA.of_eq (by rw [sD_no c c1])) ) (bnd_nf _ ( (fun i => nf_Wd _))) trivial)) gl0n)⟩
  · refine br_false (decide_eq_false ((by omega : ¬ ((k : Int) < ms.length)))) ?_
    conv => whnf
    obtain rfl : k = ms.length := by omega
    rw [List.take_length]
    refine loop_at mixed (fun (a : Nat) => ([(43, I a), (42, .arr 12 2 (fun i => Wd (sD d ms i))), (11, .ptr 2 []), (4, .ptr 0 []), (5, B false)], [(0, .box (encBf zN)), (2, .box (encBf fun i => if i < a then sD d ms i else 0))], 3)) (fun a => a ≤ 12 ∧ ∀ i, i < a → in64 (sD d ms i)) (fun a => 12 - a) 0 ⟨Nat.zero_le _, fun a ha => absurd ha (Nat.not_lt_zero a)⟩ (le_st (le_r rfl) (leE_i rfl rfl (leE_eq rfl (bnd_nf _ ((fun i => nf_Wd _))) (leE_ptr rfl rfl (leE_ptr rfl rfl (leE_eq rfl (bnd_nf _ (trivial)) trivial))))) (leO_box (lt_r rfl) rfl (LeA.refl _) (bnd_nf _ (nf_encBf _)) (leO_box (lt_r rfl) rfl (LeA.refl _) (bnd_nf _ (nf_encBf _)) trivial)) gl0n) ?_
    rintro a ⟨ha, hin⟩
    conv => whnf
    by_cases c2 : a < 12
    · refine br_true (decide_eq_true ((by omega : (a : Int) < 12))) ?_
      conv => whnf
      repeat' first
        | (rw [wpE_one])
        | (refine And.intro (by first | omega | (constructor <;> omega) | fail) ?_; (conv => whnf))
        | fail
      refine call_x2 (cents_x (sD d ms a) (sD_128 hm hn c2)) (LeL.refl _) ?_
      by_cases c3 : in64 (sD d ms a)
      · rw [decide_eq_true c3, wrap_id c3]
        rintro _ - rfl
        conv => whnf
        repeat' first
          | (rw [wpE_one])
          | (refine And.intro (by first | omega | (constructor <;> omega) | fail) ?_; (conv => whnf))
          | (rw [okN]; (try conv in (occs := *) (ev gl0 _ _) => all_goals whnf); (conv => whnf))
          | fail
        refine ⟨a + 1, ⟨c2, fun i hi => ?_⟩, (by show 12 - (a + 1) < 12 - a; omega), (le_st (le_r rfl) (leE_i rfl (inc_id c2 (show ((12 : Nat) : Int) < 9223372036854775808 by decide)) (leE_eq rfl (bnd_nf _ ((fun i => nf_Wd _))) (leE_ptr rfl rfl (leE_ptr rfl rfl (leE_eq rfl (bnd_nf _ (trivial)) trivial))))) (leO_box (lt_r rfl) rfl (LeA.refl _) (bnd_nf _ (nf_encBf _)) (leO_box (lt_r rfl) rfl (leA_Bf12 (f := fun i => if i = a then sD d ms a else if i < a then sD d ms i else 0) ?_ ) (bnd_nf _ ( nf_encBf _)) trivial)) gl0n)⟩
        · by_cases e : i = a
          · rw [e]; exact c3
          · exact hin i (by omega)
        · intro i hi
          by_cases e : i = a
          · subst e; simp
          · by_cases e2 : i < a
            · rw [if_neg e, if_pos e2, if_pos (by omega)]
            · rw [if_neg e, if_neg e2, if_neg (by omega)]
      · rw [decide_eq_false c3]
        rintro _ - rfl
        conv => whnf
        rw [upV_no (fun h => c3 (h a c2))]
        refine fin_e ?_
        conv => whnf
        exact ⟨by simp [packA, consL, nf], rfl⟩
    · refine br_false (decide_eq_false ((by omega : ¬ ((a : Int) < 12)))) ?_
      conv => whnf
      obtain rfl : a = 12 := by omega
      rw [upV_yes hin]
      refine fin_r (tup2 (encBf (sD d ms)) (B true)) ⟨nf_encBf _, trivial, trivial⟩ rfl ?_
      conv => whnf
      exact (LeA.tup (LeA.cons (leA_Bf12 fun i hi => by rw [if_pos hi]) (LeA.refl _))).le

end Go.Proofs.YtoglphkkhhjodaaDoor
namespace Go.Proofs.YtoglphkkhhjodaaDoor
open Go Ar
set_option linter.unusedVariables false
set_option autoImplicit false
set_option maxHeartbeats 4000000
set_option maxRecDepth 100000

theorem r22_upto_x (ms : List Mov) (d : Int) (hm : okM ms) (hn : ms.length ≤ 100000) : PureX Tryd.prog gl0 r22_Upto [encL encMov 14 ms, I d] (fun r => r = upV d ms) := by
  refine pure_fnX mixed fn_r22_Upto nt_r22_Upto hc_r22_Upto (by simp) gl0n (by simp [nf]) ?_
  conv => whnf
  have hl : (ms.length : Int) < 9223372036854775808 := by omega
  refine loop_at mixed (fun (a : Nat) => ([(7, I a), (0, encL encMov 14 ms), (1, I d), (6, .ptr 1 []), (4, .ptr 0 []), (5, B false)], [(0, .box (encBf zN)), (1, .box (encBf fun i => if i < a then sD d ms i else 0))], 2)) (fun a => a ≤ 12 ∧ ∀ i, i < a → in64 (sD d ms i)) (fun a => 12 - a) 0 ⟨Nat.zero_le _, fun a ha => absurd ha (Nat.not_lt_zero a)⟩ (le_st (le_r rfl) (leE_i rfl rfl (leE_eq rfl (bnd_nf _ (nfL_Mov _ _)) (leE_i rfl rfl (leE_ptr rfl rfl (leE_ptr rfl rfl (leE_eq rfl (bnd_nf _ (trivial)) trivial)))))) (leO_box (lt_r rfl) rfl (LeA.refl _) (bnd_nf _ (nf_encBf _)) (leO_box (lt_r rfl) rfl (LeA.refl _) (bnd_nf _ (nf_encBf _)) trivial)) gl0n) ?_
  rintro a ⟨ha, hin⟩
  conv => whnf
  by_cases c2 : a < 12
  · refine br_true (decide_eq_true ((by omega : (a : Int) < 12))) ?_
    conv => whnf
    refine loop_at mixed (fun (k : Nat) => ([(9, I k), (8, encT (some 2) I 1 (colD d a (ms.take k))), (7, I a), (0, encL encMov 14 ms), (1, I d), (6, .ptr 1 []), (4, .ptr 0 []), (5, B false)], [(0, .box (encBf zN)), (1, .box (encBf fun i => if i < a then sD d ms i else 0)), (2, .room (colD d a (ms.take k)).length 1 2)], 3)) (fun k => k ≤ ms.length) (fun k => ms.length - k) 0 (Nat.zero_le _) ((le_nil 8 1 2 (fun i => I (at_ (colD d a (ms.take 0)) i)) rfl).trans (le_st (le_r rfl) (leE_i rfl rfl (leE_eq rfl (bnd_encT nf_I (lt_r rfl)) (leE_i rfl rfl (leE_eq rfl (bnd_nf _ (nfL_Mov _ _)) (leE_i rfl rfl (leE_ptr rfl rfl (leE_ptr rfl rfl (leE_eq rfl (bnd_nf _ (trivial)) trivial)))))))) (leO_box (lt_r rfl) rfl (LeA.refl _) (bnd_nf _ (nf_encBf _)) (leO_box (lt_r rfl) rfl (LeA.refl _) (bnd_nf _ (nf_encBf _)) (leO_room (lt_r rfl) rfl trivial))) gl0n)) ?_
    intro k hk
    conv => whnf
    by_cases c : k < ms.length
    · refine br_true (decide_eq_true ((by omega : (k : Int) < ms.length))) ?_
      conv => whnf
      refine ⟨by omega, ?_⟩
      conv => whnf
      have hlen := colD_len d a (ms.take k)
      rw [List.length_take] at hlen
      by_cases c1 : (at_ ms k).day ≤ d
      · refine br_true (decide_eq_true (c1)) ?_
        conv => whnf
        repeat' first
          | (refine And.intro (by first | rfl | omega | (constructor <;> omega) | (simp only [List.length_cons, List.length_nil]; omega) | fail) ?_; (conv => whnf))
          | fail
        refine ⟨k + 1, c, (by show ms.length - (k + 1) < ms.length - k; omega), ?_⟩
        dsimp only
        rw [colD_take c, show oneD d a (at_ ms k) = [(at_ ms k).net a] from if_pos c1]
        exact (le_st (le_r rfl) (leE_i rfl (inc_id c hl) (leE_le rfl (leA_snoc (enc := I) (by exact LeA.refl _)).le (bnd_encT nf_I (lt_r rfl)) (leE_i rfl rfl (leE_eq rfl (bnd_nf _ (nfL_Mov _ _)) (leE_i rfl rfl (leE_ptr rfl rfl (leE_ptr rfl rfl (leE_eq rfl (bnd_nf _ (trivial)) trivial)))))))) (leO_box (lt_r rfl) rfl (LeA.refl _) (bnd_nf _ (nf_encBf _)) (leO_box (lt_r rfl) rfl (LeA.refl _) (bnd_nf _ (nf_encBf _)) (leO_room (lt_r rfl) (by (simp; rfl)) trivial))) gl0n)
      · refine br_false (decide_eq_false (c1)) ?_
        conv => whnf
        refine ⟨k + 1, c, (by show ms.length - (k + 1) < ms.length - k; omega), ?_⟩
        dsimp only
        rw [colD_take c, show oneD d a (at_ ms k) = [] from if_neg c1, List.append_nil]
        exact (le_st (le_r rfl) (leE_i rfl (inc_id c hl) (leE_eq rfl (bnd_encT nf_I (lt_r rfl)) (leE_i rfl rfl (leE_eq rfl (bnd_nf _ (nfL_Mov _ _)) (leE_i rfl rfl (leE_ptr rfl rfl (leE_ptr rfl rfl (leE_eq rfl (bnd_nf _ (trivial)) trivial)))))))) (leO_box (lt_r rfl) rfl (LeA.refl _) (bnd_nf _ (nf_encBf _)) (leO_box (lt_r rfl) rfl (LeA.refl _) (bnd_nf _ (nf_encBf _)) (leO_room (lt_r rfl) rfl trivial))) gl0n)
    · refine br_false (decide_eq_false ((by omega : ¬ ((k : Int) < ms.length)))) ?_
      conv => whnf
      obtain rfl : k = ms.length := by omega
      rw [List.take_length]
      refine call_pure (r1_Sum_x (colD d a ms) (colD_in hm c2) (by have := colD_len d a ms; omega)) ⟨(leA_drop (enc := I) (xs := colD d a ms)).le, trivial⟩ ?_
      rw [show (colD d a ms).sum = sD d ms a from rfl]
      by_cases c3 : in64 (sD d ms a)
      · rw [sumV_yes c3]
        conv => whnf
        refine ⟨by omega, ?_⟩
        conv => whnf
        refine ⟨a + 1, ⟨c2, fun i hi => ?_⟩, (by show 12 - (a + 1) < 12 - a; omega), (le_st (le_r rfl) (leE_i rfl (inc_id c2 (show ((12 : Nat) : Int) < 9223372036854775808 by decide)) (leE_eq rfl (bnd_nf _ (nfL_Mov _ _)) (leE_i rfl rfl (leE_ptr rfl rfl (leE_ptr rfl rfl (leE_eq rfl (bnd_nf _ (trivial)) trivial)))))) (leO_box (lt_r rfl) rfl (LeA.refl _) (bnd_nf _ (nf_encBf _)) (leO_box (lt_r rfl) rfl (leA_Bf12 (f := fun i => if i = a then sD d ms a else if i < a then sD d ms i else 0) ?_ ) (bnd_nf _ ( nf_encBf _)) trivial)) gl0n)⟩
        · by_cases e : i = a
          · rw [e]; exact c3
          · exact hin i (by omega)
        · intro i hi
          by_cases e : i = a
          · subst e; simp
          · by_cases e2 : i < a
            · rw [if_neg e, if_pos e2, if_pos (by omega)]
            · rw [if_neg e, if_neg e2, if_neg (by omega)]
      · rw [sumV_no c3]
        conv => whnf
        rw [upV_no (fun h => c3 (h a c2))]
        refine fin_e ?_
        conv => whnf
        exact ⟨by simp [packA, consL, nf], rfl⟩
  · refine br_false (decide_eq_false ((by omega : ¬ ((a : Int) < 12)))) ?_
    conv => whnf
    obtain rfl : a = 12 := by omega
    rw [upV_yes hin]
    refine fin_r (tup2 (encBf (sD d ms)) (B true)) ⟨nf_encBf _, trivial, trivial⟩ rfl ?_
    conv => whnf
    exact (LeA.tup (LeA.cons (leA_Bf12 fun i hi => by rw [if_pos hi]) (LeA.refl _))).le

end Go.Proofs.YtoglphkkhhjodaaDoor
namespace Go.Proofs.YtoglphkkhhjodaaDoor
open Go Ar
set_option linter.unusedVariables false
set_option autoImplicit false
set_option maxHeartbeats 4000000
set_option maxRecDepth 100000

/-- An amount of a line. -/
def tellL (sg : Bool) (x : Int) : List Int := (if sg = true ∧ 0 < x then [43] else []) ++ fmtL x
def colL (sg : Bool) (n : Nat → Int) : List Int := 32 :: (tellL sg (n 1) ++ 32 :: (tellL sg (n 2) ++ 32 :: (tellL sg (n 3) ++ 32 :: tellL sg (-n 4))))
/-- What both tell of a book. -/
def colsV (sg : Bool) (n : Nat → Int) : AV := if n 4 = -9223372036854775808 then tup2 (T ⟨#[]⟩) (B false) else tup2 (T (strOfNums (colL sg n))) (B true)
theorem colsV_no {sg : Bool} {n : Nat → Int} (h : n 4 = -9223372036854775808) : colsV sg n = tup2 (T ⟨#[]⟩) (B false) := if_pos h
theorem colsV_yes {sg : Bool} {n : Nat → Int} (h : ¬ n 4 = -9223372036854775808) : colsV sg n = tup2 (T (strOfNums (colL sg n))) (B true) := if_neg h

theorem sonS (l : List Int) : (strOfNums l).size = l.length := strOfNums_size l
theorem fmtL_len {x : Int} (hx : in64 x) : (fmtL x).length ≤ 24 := by
  unfold fmtL fmtN
  have := ndg_le (u := x.natAbs / 100) (by unfold in64 at hx; omega)
  rw [List.length_append, List.length_append, decL_len]
  split <;> simp <;> omega
theorem tellL_len {sg : Bool} {x : Int} (hx : in64 x) : (tellL sg x).length ≤ 25 := by
  have := fmtL_len hx
  unfold tellL
  rw [List.length_append]
  split <;> simp <;> omega

theorem tell_x (x : Int) (sg : Bool) (hx : in64 x) : PureX Tryd.prog gl0 r22_tell [I x, B sg] (fun r => r = T (strOfNums (tellL sg x))) := by
  refine pure_fnX mixed fn_r22_tell nt_r22_tell hc_r22_tell (by simp) gl0n (by simp [nf]) ?_
  conv => whnf
  refine call_x2 (r1Fmt_x x hx) (LeL.refl _) ?_
  rintro _ - rfl
  have hl := fmtL_len hx
  have hf : (fmtT x).size = (fmtL x).length := sonS _
  cases sg with
  | false =>
    conv => whnf
    refine fin_e ?_
    conv => whnf
    exact ⟨trivial, rfl⟩
  | true =>
    conv => whnf
    by_cases c : 0 < x
    · refine br_true (decide_eq_true (c)) ?_
      conv => whnf
      refine And.intro (by rw [hf]; show 1 + _ ≤ 9223372036854775807; omega) ?_
      conv => whnf
      try rw [wpE_one]
      conv => whnf
      refine fin_e ?_
      conv => whnf
      refine ⟨trivial, congrArg (fun s => T s) ?_⟩
      rw [show (⟨#[43]⟩ : ByteArray) = strOfNums [43] from rfl, fmtT, son_app, tellL, if_pos ⟨rfl, c⟩]
    · refine br_false (decide_eq_false (c)) ?_
      conv => whnf
      refine fin_e ?_
      conv => whnf
      refine ⟨trivial, congrArg (fun s => T s) ?_⟩
      rw [tellL, if_neg (fun h => c h.2)]
      rfl

theorem sub0_x (b : Int) (hb : in64 b) : PureX Tryd.prog gl0 r1_Sub [I 0, I b] (fun r => r = sumV (-b)) := by
  refine pure_fnX mixed fn_r1_Sub nt_r1_Sub hc_r1_Sub (by simp) gl0n (by simp [nf]) ?_
  conv => whnf
  unfold in64 at hb
  refine call_pure (r1_high_x 0) (LeL.refl _) ?_
  conv => whnf
  refine call_pure (r1_high_x b) (LeL.refl _) ?_
  conv => whnf
  refine call_pure (r1_low_x 0 (by unfold in64; omega)) (LeL.refl _) ?_
  conv => whnf
  refine call_pure (r1_low_x b hb) (LeL.refl _) ?_
  conv => whnf
  have e1 : IntKind.i64.wrap (0 / 4294967296 - b / 4294967296) = 0 / 4294967296 - b / 4294967296 := wrap_id (by unfold in64; omega)
  have e2 : IntKind.i64.wrap (0 % 4294967296 - b % 4294967296) = 0 % 4294967296 - b % 4294967296 := wrap_id (by unfold in64; omega)
  rw [e1, e2]
  refine call_pure (r1_joined_x _ _ (by omega) (by omega)) (LeL.refl _) ?_
  rw [show (0 / 4294967296 - b / 4294967296) * 4294967296 + (0 % 4294967296 - b % 4294967296) = -b by omega]
  conv => whnf
  refine fin_e ?_
  conv => whnf
  exact ⟨by simp [packA, consL, nf], rfl⟩

end Go.Proofs.YtoglphkkhhjodaaDoor
namespace Go.Proofs.YtoglphkkhhjodaaDoor
open Go Ar
set_option linter.unusedVariables false
set_option autoImplicit false
set_option maxHeartbeats 4000000
set_option maxRecDepth 100000

theorem sp_app (l : List Int) : strOfNums l ++ (⟨#[32]⟩ : ByteArray) = strOfNums (l ++ [32]) := by
  rw [show (⟨#[32]⟩ : ByteArray) = strOfNums [32] from rfl, son_app]
theorem sp_cons (l : List Int) : (⟨#[32]⟩ : ByteArray) ++ strOfNums l = strOfNums (32 :: l) := by
  rw [show (⟨#[32]⟩ : ByteArray) = strOfNums [32] from rfl, son_app]; rfl

theorem z32 : (⟨#[32]⟩ : ByteArray).size = 1 := rfl

theorem r22_cols_x (n : Nat → Int) (sg : Bool) (hn : ∀ a, a < 12 → in64 (n a)) : PureX Tryd.prog gl0 r22_columns [encBf n, B sg] (fun r => r = colsV sg n) := by
  refine pure_fnX mixed fn_r22_columns nt_r22_columns hc_r22_columns (by simp) gl0n (by simp [nf]) ?_
  conv => whnf
  have h1 := hn 1 (by decide)
  have h2 := hn 2 (by decide)
  have h3 := hn 3 (by decide)
  have h4 := hn 4 (by decide)
  repeat' first
    | (rw [wpE_one])
    | (refine And.intro (by first | decide | omega | (constructor <;> omega) | fail) ?_; (conv => whnf))
    | fail
  refine call_x2 (sub0_x (n 4) h4) (LeL.refl _) ?_
  by_cases c : n 4 = -9223372036854775808
  · rw [sumV_no (by unfold in64; omega), colsV_no c]
    rintro _ - rfl
    conv => whnf
    refine fin_e ?_
    conv => whnf
    exact ⟨by simp [packA, consL, nf], rfl⟩
  · have h5 : in64 (-n 4) := by unfold in64 at h4 ⊢; omega
    rw [sumV_yes h5, colsV_yes c]
    rintro _ - rfl
    have l1 := tellL_len (sg := sg) h1
    have l2 := tellL_len (sg := sg) h2
    have l3 := tellL_len (sg := sg) h3
    have l4 := tellL_len (sg := sg) h5
    conv => whnf
    repeat' first
      | (rw [wpE_one])
      | (refine And.intro (by first | decide | omega | (constructor <;> omega) | (simp only [z32, sonS, List.length_append, List.length_cons, List.length_nil]; omega) | fail) ?_; (conv => whnf))
      | (refine call_x2 (tell_x (n 1) sg h1) (LeL.refl _) ?_; rintro _ - rfl; (conv => whnf))
      | (refine call_x2 (tell_x (n 2) sg h2) (LeL.refl _) ?_; rintro _ - rfl; (conv => whnf))
      | (refine call_x2 (tell_x (n 3) sg h3) (LeL.refl _) ?_; rintro _ - rfl; (conv => whnf))
      | (refine call_x2 (tell_x (-n 4) sg h5) (LeL.refl _) ?_; rintro _ - rfl; (conv => whnf))
      | (rw [sp_cons])
      | (rw [sp_app])
      | (rw [son_app])
      | fail
    refine fin_e ?_
    conv => whnf
    refine ⟨by simp [packA, consL, nf], congrArg (fun l => tup2 (T (strOfNums l)) (B true)) ?_⟩
    unfold colL
    simp only [List.append_assoc, List.cons_append, List.nil_append]

end Go.Proofs.YtoglphkkhhjodaaDoor
namespace Go.Proofs.YtoglphkkhhjodaaDoor
open Go Ar
set_option linter.unusedVariables false
set_option autoImplicit false
set_option maxHeartbeats 4000000
set_option maxRecDepth 100000

/-- The four numbers of a line. -/
def v4 (n : Nat → Int) (i : Nat) : Int := match i with | 0 => n 1 | 1 => n 2 | 2 => n 3 | _ => -n 4
def txtL (sg : Bool) (n : Nat → Int) (k : Nat) : List Int := (List.range k).flatMap fun i => 32 :: tellL sg (v4 n i)
theorem txtL_s (sg : Bool) (n : Nat → Int) (k : Nat) : txtL sg n (k + 1) = txtL sg n k ++ 32 :: tellL sg (v4 n k) := by
  unfold txtL
  rw [List.range_succ, List.flatMap_append]
  simp
theorem txtL_4 (sg : Bool) (n : Nat → Int) : txtL sg n 4 = colL sg n := by
  rw [txtL_s, txtL_s, txtL_s, txtL_s]
  show ([] ++ 32 :: tellL sg (n 1) ++ 32 :: tellL sg (n 2) ++ 32 :: tellL sg (n 3) ++ 32 :: tellL sg (-n 4)) = colL sg n
  unfold colL
  simp only [List.append_assoc, List.cons_append, List.nil_append]
theorem txtL_len {sg : Bool} {n : Nat → Int} (h : ∀ i, i < 4 → in64 (v4 n i)) : ∀ k, k ≤ 4 → (txtL sg n k).length ≤ 26 * k
  | 0, _ => Nat.le_refl _
  | k + 1, hk => by
    have := txtL_len (sg := sg) h k (by omega)
    have := tellL_len (sg := sg) (h k (by omega))
    rw [txtL_s, List.length_append, List.length_cons]
    omega

theorem z43 : (⟨#[43]⟩ : ByteArray).size = 1 := rfl
theorem pl_app (l : List Int) : strOfNums l ++ (⟨#[43]⟩ : ByteArray) = strOfNums (l ++ [43]) := by
  rw [show (⟨#[43]⟩ : ByteArray) = strOfNums [43] from rfl, son_app]
theorem v4_arr {n : Nat → Int} {h : Int} {g : Nat → AV} (hh : h = n 4) (g0 : g 0 = I (n 1)) (g1 : g 1 = I (n 2)) (g2 : g 2 = I (n 3)) (g3 : g 3 = I (-h)) : LeA (.arr 4 1 g) (.arr 4 1 (fun i => I (v4 n i))) :=
  LeA.arr fun i hi => by
    match i, hi with
    | 0, _ => exact LeA.of_eq g0
    | 1, _ => exact LeA.of_eq g1
    | 2, _ => exact LeA.of_eq g2
    | 3, _ => exact LeA.of_eq (g3.trans (congrArg (fun x => I (-x)) hh))

theorem cols_x (n : Nat → Int) (sg : Bool) (hn : ∀ a, a < 12 → in64 (n a)) : PureX Tryd.prog gl0 statement_columns [encBf n, B sg] (fun r => r = colsV sg n) := by
  refine pure_fnX mixed fn_statement_columns nt_statement_columns hc_statement_columns (by simp) gl0n (by simp [nf]) ?_
  conv => whnf
  have h1 := hn 1 (by decide)
  have h2 := hn 2 (by decide)
  have h3 := hn 3 (by decide)
  have h4 := hn 4 (by decide)
  repeat' first
    | (rw [wpE_one])
    | (refine And.intro (by first | decide | omega | (constructor <;> omega) | fail) ?_; (conv => whnf))
    | fail
  obtain ⟨h, hh⟩ : ∃ h, h = n 4 := ⟨_, rfl⟩
  rw [show n (Int.toNat 4) = h from hh.symm]
  rw [← hh] at h4
  by_cases c : h = -9223372036854775808
  · have e : IntKind.i64.wrap (0 - h) = h := by rw [c]; rfl
    rw [e, colsV_no (hh.symm.trans c)]
    refine br_true (decide_eq_true ((rfl : h = h))) ?_
    conv => whnf
    refine br_true (decide_eq_true ((by omega : h ≠ 0))) ?_
    conv => whnf
    refine fin_e ?_
    conv => whnf
    exact ⟨by simp [packA, consL, nf], rfl⟩
  · have h5 : in64 (-h) := by unfold in64 at h4 ⊢; omega
    have e : IntKind.i64.wrap (0 - h) = -h := by rw [wrap_id (by unfold in64 at h4 ⊢; omega)]; omega
    rw [e, colsV_yes (fun x => c (hh.trans x))]
    have hv : ∀ i, i < 4 → in64 (v4 n i) := fun i hi => by
      match i, hi with
      | 0, _ => exact h1
      | 1, _ => exact h2
      | 2, _ => exact h3
      | 3, _ => show in64 (-n 4); rw [← hh]; exact h5
    by_cases c2 : h = -h
    all_goals first
      | (refine br_true (decide_eq_true (by assumption)) ?_; (conv => whnf); refine br_false (decide_eq_false (by omega : ¬ (h ≠ 0))) ?_; (conv => whnf))
      | (refine br_false (decide_eq_false (by assumption)) ?_; (conv => whnf))
    all_goals
      repeat' first
        | (rw [wpE_one])
        | (refine And.intro (by first | decide | omega | (constructor <;> omega) | fail) ?_; (conv => whnf))
        | (rw [e])
        | fail
    all_goals
      refine loop_at mixed (fun (a : Nat) => ([(33, I a), (32, .arr 4 1 (fun i => I (v4 n i))), (7, T (strOfNums (txtL sg n a))), (1, B sg)], [], 0)) (fun a => a ≤ 4) (fun a => 4 - a) 0 (Nat.zero_le _) (le_st (le_r rfl) (leE_i rfl rfl (leE_le rfl ((v4_arr hh rfl rfl rfl rfl).le ) (bnd_nf _ ( (fun i => trivial))) (leE_eq rfl (bnd_nf _ (trivial)) (leE_eq rfl (bnd_nf _ (trivial)) trivial)))) trivial gl0n) ?_
      intro a ha
      have hta := txtL_len (sg := sg) hv a ha
      conv => whnf
      by_cases c3 : a < 4
      · refine br_true (decide_eq_true ((by omega : (a : Int) < 4))) ?_
        conv => whnf
        have hv3 := hv a c3
        have hl3 := fmtL_len hv3
        repeat' first
          | (rw [wpE_one])
          | (rw [pl_app])
          | (rw [sp_app])
          | (rw [son_app])
          | (refine And.intro (by first | decide | omega | (constructor <;> omega) | (simp only [z32, z43, sonS, List.length_append, List.length_cons, List.length_nil]; omega) | fail) ?_; (conv => whnf))
          | (refine call_x2 (fmt_x (v4 n a) hv3) (LeL.refl _) ?_; rintro _ - rfl; rw [fmtT]; (conv => whnf))
          | fail
        rcases (show sg = true ∨ sg = false by cases sg <;> simp) with hs | hs <;> subst hs
        · conv => whnf
          by_cases c4 : 0 < v4 n a
          · refine br_true (decide_eq_true (c4)) ?_
            conv => whnf
            repeat' first
              | (rw [wpE_one])
              | (rw [pl_app])
              | (rw [sp_app])
              | (rw [son_app])
              | (refine And.intro (by first | decide | omega | (constructor <;> omega) | (simp only [z32, z43, sonS, List.length_append, List.length_cons, List.length_nil]; omega) | fail) ?_; (conv => whnf))
              | (refine call_x2 (fmt_x (v4 n a) hv3) (LeL.refl _) ?_; rintro _ - rfl; rw [fmtT]; (conv => whnf))
              | fail
            exact ⟨a + 1, c3, (by show 4 - (a + 1) < 4 - a; omega), (le_st (le_r rfl) (leE_i rfl (inc_id c3 (show ((4 : Nat) : Int) < 9223372036854775808 by decide)) (leE_eq rfl (bnd_nf _ ((fun i => trivial))) (leE_le rfl (Le.of_eq (congrArg (fun l => T (strOfNums l)) (by rw [txtL_s, tellL, if_pos ⟨rfl, c4⟩]; simp only [List.append_assoc, List.cons_append, List.nil_append])) ) (bnd_nf _ ( trivial)) (leE_eq rfl (bnd_nf _ (trivial)) trivial)))) trivial gl0n)⟩
          · refine br_false (decide_eq_false (c4)) ?_
            conv => whnf
            repeat' first
              | (rw [wpE_one])
              | (rw [pl_app])
              | (rw [sp_app])
              | (rw [son_app])
              | (refine And.intro (by first | decide | omega | (constructor <;> omega) | (simp only [z32, z43, sonS, List.length_append, List.length_cons, List.length_nil]; omega) | fail) ?_; (conv => whnf))
              | (refine call_x2 (fmt_x (v4 n a) hv3) (LeL.refl _) ?_; rintro _ - rfl; rw [fmtT]; (conv => whnf))
              | fail
            exact ⟨a + 1, c3, (by show 4 - (a + 1) < 4 - a; omega), (le_st (le_r rfl) (leE_i rfl (inc_id c3 (show ((4 : Nat) : Int) < 9223372036854775808 by decide)) (leE_eq rfl (bnd_nf _ ((fun i => trivial))) (leE_le rfl (Le.of_eq (congrArg (fun l => T (strOfNums l)) (by rw [txtL_s, tellL, if_neg (fun x => c4 x.2)]; simp only [List.append_assoc, List.cons_append, List.nil_append])) ) (bnd_nf _ ( trivial)) (leE_eq rfl (bnd_nf _ (trivial)) trivial)))) trivial gl0n)⟩
        · conv => whnf
          repeat' first
            | (rw [wpE_one])
            | (rw [pl_app])
            | (rw [sp_app])
            | (rw [son_app])
            | (refine And.intro (by first | decide | omega | (constructor <;> omega) | (simp only [z32, z43, sonS, List.length_append, List.length_cons, List.length_nil]; omega) | fail) ?_; (conv => whnf))
            | (refine call_x2 (fmt_x (v4 n a) hv3) (LeL.refl _) ?_; rintro _ - rfl; rw [fmtT]; (conv => whnf))
            | fail
          exact ⟨a + 1, c3, (by show 4 - (a + 1) < 4 - a; omega), (le_st (le_r rfl) (leE_i rfl (inc_id c3 (show ((4 : Nat) : Int) < 9223372036854775808 by decide)) (leE_eq rfl (bnd_nf _ ((fun i => trivial))) (leE_le rfl (Le.of_eq (congrArg (fun l => T (strOfNums l)) (by rw [txtL_s, tellL, if_neg (fun x => Bool.false_ne_true x.1)]; simp only [List.append_assoc, List.cons_append, List.nil_append])) ) (bnd_nf _ ( trivial)) (leE_eq rfl (bnd_nf _ (trivial)) trivial)))) trivial gl0n)⟩
      · refine br_false (decide_eq_false ((by omega : ¬ ((a : Int) < 4)))) ?_
        conv => whnf
        obtain rfl : a = 4 := by omega
        refine fin_e ?_
        conv => whnf
        exact ⟨by simp [packA, consL, nf], congrArg (fun l => tup2 (T (strOfNums l)) (B true)) (txtL_4 sg n)⟩

end Go.Proofs.YtoglphkkhhjodaaDoor
