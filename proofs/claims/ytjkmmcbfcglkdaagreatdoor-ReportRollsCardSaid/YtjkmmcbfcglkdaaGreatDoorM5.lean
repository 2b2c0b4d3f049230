/- The policy in memory of its own, and its days once more. No condition. -/
import Derived.Test.YtjkmmcbfcglkdaaGreatDoorM2
import Derived.Test.YtjkmmcbfcglkdaaGreatDoorM4
set_option linter.all false
namespace Go.Proofs.YtjkmmcbfcglkdaaGreatDoor
open Go Ar
set_option linter.unusedVariables false
set_option autoImplicit false
set_option maxHeartbeats 4000000
set_option maxRecDepth 100000

theorem l21_own_s (p : Pol) (hw : p.holidays.length * 8 ≤ 140737488351232) : Pure Tryz.prog gl0 l21_own [encPol p] (encPol p) := by
  refine pure_fn mixed fn_l21_own nt_l21_own hc_l21_own (by simp) gl0n (by simp [nf]) (by simp [nf]) ?_
  conv => whnf
  refine ⟨(by show p.holidays.length * 8 ≤ _; omega), ?_⟩
  conv => whnf
  refine (LeA.st ?_).le
  iterate 17 refine LeA.cons (LeA.refl _) ?_
  exact LeA.cons (LeA.lst (.inr rfl) (fun i hi => LeA.refl _)) (LeA.refl _)

theorem l21_sameDays_s (xs : List Int) (hn : (xs.length : Int) < 9223372036854775808) : Pure Tryz.prog gl0 l21_sameDays [encL I 1 xs, encL I 1 xs] (B true) := by
  refine pure_fn mixed fn_l21_sameDays nt_l21_sameDays hc_l21_sameDays (by simp) gl0n (by simp [nf]) (by simp [nf]) ?_
  conv => whnf
  refine br_false (decide_eq_false ((by omega : ¬ (xs.length : Int) ≠ xs.length))) ?_
  conv => whnf
  refine loop_at mixed (fun (k : Nat) => ([(5, I k), (0, encL I 1 xs), (1, encL I 1 xs)], [], 0)) (fun k => k ≤ xs.length) (fun k => xs.length - k) 0 (Nat.zero_le _) (le_st (le_r rfl) (leE_i rfl rfl (leE_eq rfl (bnd_nf _ (nfL_I _ _)) (leE_eq rfl (bnd_nf _ (nfL_I _ _)) trivial))) trivial gl0n) ?_
  intro k hk
  conv => whnf
  by_cases c : k < xs.length
  · refine br_true (decide_eq_true ((by omega : (k : Int) < xs.length))) ?_
    conv => whnf
    refine ⟨by omega, ?_⟩
    conv => whnf
    refine ⟨by omega, ?_⟩
    conv => whnf
    refine br_false (decide_eq_false ((by omega : ¬ (at_ xs k ≠ at_ xs k)))) ?_
    conv => whnf
    exact ⟨k + 1, c, (by show xs.length - (k + 1) < xs.length - k; omega), (le_st (le_r rfl) (leE_i rfl (inc_id c hn) (leE_eq rfl (bnd_nf _ (nfL_I _ _)) (leE_eq rfl (bnd_nf _ (nfL_I _ _)) trivial))) trivial gl0n)⟩
  · refine br_false (decide_eq_false ((by omega : ¬ ((k : Int) < xs.length)))) ?_
    conv => whnf
    exact Le.refl _

end Go.Proofs.YtjkmmcbfcglkdaaGreatDoor
namespace Go.Proofs.YtjkmmcbfcglkdaaGreatDoor
open Go Ar
set_option linter.unusedVariables false
set_option autoImplicit false
set_option maxHeartbeats 4000000
set_option maxRecDepth 100000

theorem bkt_rng (d : Int) : 0 ≤ bkt d ∧ bkt d ≤ 4 := by unfold bkt; (repeat' split) <;> decide
theorem cls_rng (l : Ln) : 0 ≤ clsOf l ∧ clsOf l ≤ 6 := by
  unfold clsOf
  split
  · decide
  · split
    · decide
    · have := bkt_rng (daysV l.plan l.applied (restOf l) l.day); omega

abbrev Grid := Nat → Nat → Int
def encG (f : Grid) : AV := .arr 7 7 (fun i => .arr 7 1 (fun j => I (f i j)))
def bump (f : Grid) (a b : Nat) : Grid := fun i j => if i = a ∧ j = b then IntKind.i64.wrap (f i j + 1) else f i j
def rollJ (x : Ln) (ys : List Ln) (f : Grid) : Nat → Grid
  | 0 => f
  | j + 1 => if x.id = (at_ ys j).id then bump (rollJ x ys f j) (clsOf x).toNat (clsOf (at_ ys j)).toNat else rollJ x ys f j
def rollF (xs ys : List Ln) : Nat → Grid
  | 0 => fun _ _ => 0
  | k + 1 => rollJ (at_ xs k) ys (rollF xs ys k) ys.length

theorem rollJ_miss {x : Ln} {ys : List Ln} {f : Grid} : ∀ k, (∀ j, j < k → x.id ≠ (at_ ys j).id) → rollJ x ys f k = f
  | 0, _ => rfl
  | k + 1, h => by
    show (if x.id = (at_ ys k).id then _ else _) = _
    rw [if_neg (h k (Nat.lt_succ_self k)), rollJ_miss k (fun j hj => h j (Nat.lt_succ_of_lt hj))]

theorem ids_lt {ys : List Ln} (h : (ys.map Ln.id).Pairwise (· < ·)) {i j : Nat} (hij : i < j) (hj : j < ys.length) : (at_ ys i).id < (at_ ys j).id := by
  have := (List.pairwise_iff_getElem.1 h) i j (by rw [List.length_map]; omega) (by rw [List.length_map]; omega) hij
  rw [List.getElem_map, List.getElem_map] at this
  rw [at_lt (by omega), at_lt hj]
  exact this

theorem ids_ne {ys : List Ln} (h : (ys.map Ln.id).Pairwise (· < ·)) {i j : Nat} (hi : i < ys.length) (hj : j < ys.length) (hne : i ≠ j) : (at_ ys i).id ≠ (at_ ys j).id := by
  rcases Nat.lt_or_gt_of_ne hne with c | c
  · have := ids_lt h c hj; omega
  · have := ids_lt h c hi; omega

theorem rollJ_hit {x : Ln} {ys : List Ln} {f : Grid} (h : (ys.map Ln.id).Pairwise (· < ·)) {p : Nat} (hp : p < ys.length) (e : x.id = (at_ ys p).id) :
    ∀ k, p < k → k ≤ ys.length → rollJ x ys f k = bump f (clsOf x).toNat (clsOf (at_ ys p)).toNat
  | 0, hk, _ => absurd hk (Nat.not_lt_zero _)
  | k + 1, hk, hl => by
    show (if x.id = (at_ ys k).id then _ else _) = _
    by_cases c : p = k
    · subst c
      rw [if_pos e, rollJ_miss p (fun j hj => by rw [e]; exact ids_ne h hp (by omega) (by omega))]
    · rw [if_neg (by rw [e]; exact ids_ne h hp (by omega) c), rollJ_hit h hp e k (by omega) (by omega)]

/-- The class of each loan of a list, by its number. -/
def laterF (ys : List Ln) : Nat → Int → Option AV
  | 0 => fun _ => none
  | m + 1 => fun y => if y = (at_ ys m).id then some (I (clsOf (at_ ys m))) else laterF ys m y

theorem later_is (ys : List Ln) (y : Int) : ∀ k, (laterF ys k y = none ∧ ∀ j, j < k → y ≠ (at_ ys j).id) ∨ ∃ j, j < k ∧ y = (at_ ys j).id ∧ laterF ys k y = some (I (clsOf (at_ ys j)))
  | 0 => .inl ⟨rfl, fun j hj => absurd hj (Nat.not_lt_zero _)⟩
  | k + 1 => by
    show ((if y = (at_ ys k).id then _ else _) = _ ∧ _) ∨ ∃ j, _ ∧ _ ∧ (if y = (at_ ys k).id then _ else _) = _
    by_cases c : y = (at_ ys k).id
    · exact .inr ⟨k, Nat.lt_succ_self k, c, by rw [if_pos c]⟩
    · rw [if_neg c]
      rcases later_is ys y k with ⟨h1, h2⟩ | ⟨j, h1, h2, h3⟩
      · exact .inl ⟨h1, fun j hj => by by_cases e : j = k; subst e; exact c; exact h2 j (by omega)⟩
      · exact .inr ⟨j, by omega, h2, h3⟩

end Go.Proofs.YtjkmmcbfcglkdaaGreatDoor
namespace Go.Proofs.YtjkmmcbfcglkdaaGreatDoor
open Go Ar
set_option linter.unusedVariables false
set_option autoImplicit false
set_option maxHeartbeats 4000000
set_option maxRecDepth 100000

theorem leE_mp {e r : Env} {m t o : Nat} (h : lookE t e = .mp o) (ho : (Nat.blt o m || Nat.ble LENT o) = true) (hr : LeE e m r) : LeE e m ((t, .mp o) :: r) :=
  ⟨⟨by rw [h]; exact Le.refl _, by
    rw [Bool.or_eq_true] at ho
    exact ho.imp Nat.le_of_ble_eq_true Nat.le_of_ble_eq_true⟩, hr⟩
theorem leO_dict {o r : Objs} {m k : Nat} {q : IntKind} {h f : Int → Option AV} (hk : k < m) (hl : lookO k o = some (.dict q h)) (hd : DLe m h f) (hr : LeO o m r) : LeO o m ((k, .dict q f) :: r) :=
  ⟨⟨.inl hk, h, hl, hd⟩, hr⟩
theorem dle_nf {m : Nat} {h f : Int → Option AV} (e : ∀ n, h n = f n) (hf : ∀ n v, f n = some v → nf v) : DLe m h f := fun n => by
  cases c : f n with
  | none => exact (e n).trans c
  | some b => exact ⟨b, (e n).trans c, Le.refl _, bnd_nf _ (hf n b c)⟩

theorem nf_later (ys : List Ln) (k : Nat) (n : Int) (v : AV) (h : laterF ys k n = some v) : nf v := by
  rcases later_is ys n k with ⟨h1, _⟩ | ⟨j, _, _, h1⟩
  · rw [h1] at h; cases h
  · rw [h1] at h; injection h with h; subst h; trivial

theorem nf_encG (f : Grid) : nf (encG f) := fun _ _ => trivial

theorem leA_bump {g' f : Grid} {a b : Nat} {x : Int} (hg : g' = bump f a b) (hx : x = IntKind.i64.wrap (f a b + 1)) :
    LeA (.arr 7 7 (fun i => selA (i = a) (.arr 7 1 (fun j => selA (j = b) (I x) (I (f a j)))) (.arr 7 1 (fun j => I (f i j))))) (encG g') := by
  subst hg; subst hx
  refine LeA.arr fun i hi => ?_
  rw [selA_eq]
  by_cases h : i = a
  · subst h
    rw [if_pos rfl]
    refine LeA.arr fun j hj => ?_
    rw [selA_eq]
    unfold bump
    by_cases h : j = b
    · rw [if_pos h, if_pos ⟨rfl, h⟩, h]; exact LeA.refl _
    · rw [if_neg h, if_neg (fun e => h e.2)]; exact LeA.refl _
  · rw [if_neg h]
    refine LeA.arr fun j hj => ?_
    unfold bump
    rw [if_neg (fun e => h e.1)]
    exact LeA.refl _

theorem roll_x (p : Pol) (s t : Stt) (b c : Nat) (hp : hasI p) (hs : okS b s) (ht : okS c t) (hsr : rng (encStt s)) (htr : rng (encStt t)) (hgs : chk p = (0, 0) ∨ s.loans = []) (hgt : chk p = (0, 0) ∨ t.loans = []) : PureX Tryz.prog gl0 report_Roll [encPol p, encStt s, encStt t] (fun r => r = encG (rollF s.loans t.loans s.loans.length)) := by
  refine pure_fnX mixed fn_report_Roll nt_report_Roll hc_report_Roll (by simp) gl0n (by simp [nf]) ?_
  conv => whnf
  have hsn := hs.n
  have htn := ht.n
  have hn : (s.loans.length : Int) < 9223372036854775808 := by omega
  have hn2 : (t.loans.length : Int) < 9223372036854775808 := by omega
  refine loop_at mixed (fun (k : Nat) => ([(19, I k), (18, I t.loans.length), (17, encL encLn 46 t.loans), (3, .ptr 0 []), (4, .ptr 1 []), (5, .ptr 2 []), (6, .ptr 3 []), (7, .mp 4)], [(0, .box (encPol p)), (1, .box (encStt s)), (2, .box (encStt t)), (3, .box (encG (fun _ _ => 0))), (4, .dict .i64 (laterF t.loans k))], 5)) (fun k => k ≤ t.loans.length) (fun k => t.loans.length - k) 0 (Nat.zero_le _) (le_st (le_r rfl) (leE_i rfl rfl (leE_i rfl rfl (leE_eq rfl (bnd_nf _ (nfL_Ln _ _)) (leE_ptr rfl rfl (leE_ptr rfl rfl (leE_ptr rfl rfl (leE_ptr rfl rfl (leE_mp rfl rfl trivial)))))))) (leO_box (lt_r rfl) rfl (LeA.refl _) (bnd_nf _ (nf_encPol _)) (leO_box (lt_r rfl) rfl (LeA.refl _) (bnd_nf _ (nf_encStt _)) (leO_box (lt_r rfl) rfl (LeA.refl _) (bnd_nf _ (nf_encStt _)) (leO_box (lt_r rfl) rfl (LeA.refl _) (bnd_nf _ (nf_encG _)) (leO_dict (lt_r rfl) rfl (dle_nf (fun _ => rfl) (nf_later _ _)) trivial))))) gl0n) ?_
  intro k hk
  conv => whnf
  by_cases c : k < t.loans.length
  · refine br_true (decide_eq_true ((by omega : (k : Int) < t.loans.length))) ?_
    conv => whnf
    have hg : chk p = (0, 0) := hgt.resolve_right (fun e => by rw [e] at c; exact absurd c (Nat.not_lt_zero _))
    have hpl := ht.at_ c
    have hlr : rng (encLn (at_ t.loans k)) := rng_at htr.2.1 c
    refine ⟨by omega, ?_⟩
    conv => whnf
    refine call_x2 (class_x p (at_ t.loans k) hp hg hlr (by omega)) (LeL.refl _) ?_
    rintro _ - rfl
    conv => whnf
    exact ⟨k + 1, c, (by show t.loans.length - (k + 1) < t.loans.length - k; omega), (le_st (le_r rfl) (leE_i rfl (inc_id c hn2) (leE_i rfl rfl (leE_eq rfl (bnd_nf _ (nfL_Ln _ _)) (leE_ptr rfl rfl (leE_ptr rfl rfl (leE_ptr rfl rfl (leE_ptr rfl rfl (leE_mp rfl rfl trivial)))))))) (leO_box (lt_r rfl) rfl (LeA.refl _) (bnd_nf _ (nf_encPol _)) (leO_box (lt_r rfl) rfl (LeA.refl _) (bnd_nf _ (nf_encStt _)) (leO_box (lt_r rfl) rfl (LeA.refl _) (bnd_nf _ (nf_encStt _)) (leO_box (lt_r rfl) rfl (LeA.refl _) (bnd_nf _ (nf_encG _)) (leO_dict (lt_r rfl) rfl (dle_nf (fun _ => rfl) (nf_later _ _)) trivial))))) gl0n)⟩
  · refine br_false (decide_eq_false ((by omega : ¬ ((k : Int) < t.loans.length)))) ?_
    conv => whnf
    have hk2 : k = t.loans.length := by omega
    have hg := fun y => later_is t.loans y k
    have hgn := nf_later t.loans k
    generalize laterF t.loans k = g at hg hgn ⊢
    rw [hk2] at hg
    clear hk2 c hk
    refine loop_at mixed (fun (k : Nat) => ([(33, I k), (32, I s.loans.length), (31, encL encLn 46 s.loans), (3, .ptr 0 []), (4, .ptr 1 []), (5, .ptr 2 []), (6, .ptr 3 []), (7, .mp 4), (10, .ptr 5 [])], [(0, .box (encPol p)), (1, .box (encStt s)), (2, .box (encStt t)), (3, .box (encG (fun _ _ => 0))), (4, .dict .i64 g), (5, .box (encG (rollF s.loans t.loans k)))], 6)) (fun k => k ≤ s.loans.length) (fun k => s.loans.length - k) 0 (Nat.zero_le _) (le_st (le_r rfl) (leE_i rfl rfl (leE_i rfl rfl (leE_eq rfl (bnd_nf _ (nfL_Ln _ _)) (leE_ptr rfl rfl (leE_ptr rfl rfl (leE_ptr rfl rfl (leE_ptr rfl rfl (leE_mp rfl rfl (leE_ptr rfl rfl trivial))))))))) (leO_box (lt_r rfl) rfl (LeA.refl _) (bnd_nf _ (nf_encPol _)) (leO_box (lt_r rfl) rfl (LeA.refl _) (bnd_nf _ (nf_encStt _)) (leO_box (lt_r rfl) rfl (LeA.refl _) (bnd_nf _ (nf_encStt _)) (leO_box (lt_r rfl) rfl (LeA.refl _) (bnd_nf _ (nf_encG _)) (leO_dict (lt_r rfl) rfl (dle_nf (fun _ => rfl) hgn) (leO_box (lt_r rfl) rfl (LeA.refl _) (bnd_nf _ (nf_encG _)) trivial)))))) gl0n) ?_
    intro k hk
    conv => whnf
    by_cases c : k < s.loans.length
    · refine br_true (decide_eq_true ((by omega : (k : Int) < s.loans.length))) ?_
      conv => whnf
      have hgp : chk p = (0, 0) := hgs.resolve_right (fun e => by rw [e] at c; exact absurd c (Nat.not_lt_zero _))
      have hpl := hs.at_ c
      have hlr : rng (encLn (at_ s.loans k)) := rng_at hsr.2.1 c
      refine ⟨by omega, ?_⟩
      conv => whnf
      rcases hg (at_ s.loans (Int.toNat (k : Int))).id with ⟨h1, h2⟩ | ⟨j, hj, e, h1⟩
      · rw [h1]
        conv => whnf
        have er : rollF s.loans t.loans (k + 1) = rollF s.loans t.loans k := rollJ_miss _ h2
        exact ⟨k + 1, c, (by show s.loans.length - (k + 1) < s.loans.length - k; omega), (le_st (le_r rfl) (leE_i rfl (inc_id c hn) (leE_i rfl rfl (leE_eq rfl (bnd_nf _ (nfL_Ln _ _)) (leE_ptr rfl rfl (leE_ptr rfl rfl (leE_ptr rfl rfl (leE_ptr rfl rfl (leE_mp rfl rfl (leE_ptr rfl rfl trivial))))))))) (leO_box (lt_r rfl) rfl (LeA.refl _) (bnd_nf _ (nf_encPol _)) (leO_box (lt_r rfl) rfl (LeA.refl _) (bnd_nf _ (nf_encStt _)) (leO_box (lt_r rfl) rfl (LeA.refl _) (bnd_nf _ (nf_encStt _)) (leO_box (lt_r rfl) rfl (LeA.refl _) (bnd_nf _ (nf_encG _)) (leO_dict (lt_r rfl) rfl (dle_nf (fun _ => rfl) hgn) (leO_box (lt_r rfl) rfl (LeA.of_eq (congrArg encG er.symm) ) (bnd_nf _ ( nf_encG _)) trivial)))))) gl0n)⟩
      · rw [h1]
        conv => whnf
        refine call_x2 (class_x p (at_ s.loans k) hp hgp hlr (by omega)) (LeL.refl _) ?_
        rintro _ - rfl
        conv => whnf
        have cr := cls_rng (at_ s.loans k)
        have cr2 := cls_rng (at_ t.loans j)
        repeat' first
          | (refine And.intro (by omega) ?_; (conv => whnf))
        have er : rollF s.loans t.loans (k + 1) = bump (rollF s.loans t.loans k) (clsOf (at_ s.loans k)).toNat (clsOf (at_ t.loans j)).toNat := rollJ_hit ht.d hj e _ hj (Nat.le_refl _)
        exact ⟨k + 1, c, (by show s.loans.length - (k + 1) < s.loans.length - k; omega), (le_st (le_r rfl) (leE_i rfl (inc_id c hn) (leE_i rfl rfl (leE_eq rfl (bnd_nf _ (nfL_Ln _ _)) (leE_ptr rfl rfl (leE_ptr rfl rfl (leE_ptr rfl rfl (leE_ptr rfl rfl (leE_mp rfl rfl (leE_ptr rfl rfl trivial))))))))) (leO_box (lt_r rfl) rfl (LeA.refl _) (bnd_nf _ (nf_encPol _)) (leO_box (lt_r rfl) rfl (LeA.refl _) (bnd_nf _ (nf_encStt _)) (leO_box (lt_r rfl) rfl (LeA.refl _) (bnd_nf _ (nf_encStt _)) (leO_box (lt_r rfl) rfl (LeA.refl _) (bnd_nf _ (nf_encG _)) (leO_dict (lt_r rfl) rfl (dle_nf (fun _ => rfl) hgn) (leO_box (lt_r rfl) rfl (leA_bump er rfl ) (bnd_nf _ ( nf_encG _)) trivial)))))) gl0n)⟩
    · refine br_false (decide_eq_false ((by omega : ¬ ((k : Int) < s.loans.length)))) ?_
      conv => whnf
      have hk2 : k = s.loans.length := by omega
      refine fin_e ?_
      conv => whnf
      rw [hk2]
      exact ⟨nf_encG _, rfl⟩

theorem r21_roll_x (p : Pol) (s t : Stt) (b c : Nat) (hp : hasI p) (hs : okS b s) (ht : okS c t) (hsr : rng (encStt s)) (htr : rng (encStt t)) (hgs : chk p = (0, 0) ∨ s.loans = []) : PureX Tryz.prog gl0 r21_Roll [encPol p, encStt s, encStt t] (fun r => r = encG (rollF s.loans t.loans s.loans.length)) := by
  refine pure_fnX mixed fn_r21_Roll nt_r21_Roll hc_r21_Roll (by simp) gl0n (by simp [nf]) ?_
  conv => whnf
  have hsn := hs.n
  have htn := ht.n
  have hn : (s.loans.length : Int) < 9223372036854775808 := by omega
  have hn2 : (t.loans.length : Int) < 9223372036854775808 := by omega
  refine loop_at mixed (fun (k : Nat) => ([(8, I k), (3, .ptr 0 []), (4, .ptr 1 []), (5, .ptr 2 []), (6, .ptr 3 []), (7, .ptr 4 [])], [(0, .box (encPol p)), (1, .box (encStt s)), (2, .box (encStt t)), (3, .box (encG (fun _ _ => 0))), (4, .box (encG (rollF s.loans t.loans k)))], 5)) (fun k => k ≤ s.loans.length) (fun k => s.loans.length - k) 0 (Nat.zero_le _) (le_st (le_r rfl) (leE_i rfl rfl (leE_ptr rfl rfl (leE_ptr rfl rfl (leE_ptr rfl rfl (leE_ptr rfl rfl (leE_ptr rfl rfl trivial)))))) (leO_box (lt_r rfl) rfl (LeA.refl _) (bnd_nf _ (nf_encPol _)) (leO_box (lt_r rfl) rfl (LeA.refl _) (bnd_nf _ (nf_encStt _)) (leO_box (lt_r rfl) rfl (LeA.refl _) (bnd_nf _ (nf_encStt _)) (leO_box (lt_r rfl) rfl (LeA.refl _) (bnd_nf _ (nf_encG _)) (leO_box (lt_r rfl) rfl (LeA.refl _) (bnd_nf _ (nf_encG _)) trivial))))) gl0n) ?_
  intro k hk
  conv => whnf
  by_cases c : k < s.loans.length
  · refine br_true (decide_eq_true ((by omega : (k : Int) < s.loans.length))) ?_
    conv => whnf
    have hgp : chk p = (0, 0) := hgs.resolve_right (fun e => by rw [e] at c; exact absurd c (Nat.not_lt_zero _))
    have hpl := hs.at_ c
    have hlr : rng (encLn (at_ s.loans k)) := rng_at hsr.2.1 c
    refine loop_at mixed (fun (j : Nat) => ([(9, I j), (8, I k), (3, .ptr 0 []), (4, .ptr 1 []), (5, .ptr 2 []), (6, .ptr 3 []), (7, .ptr 4 [])], [(0, .box (encPol p)), (1, .box (encStt s)), (2, .box (encStt t)), (3, .box (encG (fun _ _ => 0))), (4, .box (encG (rollJ (at_ s.loans k) t.loans (rollF s.loans t.loans k) j)))], 5)) (fun j => j ≤ t.loans.length) (fun j => t.loans.length - j) 0 (Nat.zero_le _) (le_st (le_r rfl) (leE_i rfl rfl (leE_i rfl rfl (leE_ptr rfl rfl (leE_ptr rfl rfl (leE_ptr rfl rfl (leE_ptr rfl rfl (leE_ptr rfl rfl trivial))))))) (leO_box (lt_r rfl) rfl (LeA.refl _) (bnd_nf _ (nf_encPol _)) (leO_box (lt_r rfl) rfl (LeA.refl _) (bnd_nf _ (nf_encStt _)) (leO_box (lt_r rfl) rfl (LeA.refl _) (bnd_nf _ (nf_encStt _)) (leO_box (lt_r rfl) rfl (LeA.refl _) (bnd_nf _ (nf_encG _)) (leO_box (lt_r rfl) rfl (LeA.refl _) (bnd_nf _ (nf_encG _)) trivial))))) gl0n) ?_
    intro j hj
    conv => whnf
    by_cases c2 : j < t.loans.length
    · refine br_true (decide_eq_true ((by omega : (j : Int) < t.loans.length))) ?_
      conv => whnf
      have hpl2 := ht.at_ c2
      have hlr2 : rng (encLn (at_ t.loans j)) := rng_at htr.2.1 c2
      refine ⟨by omega, ?_⟩
      conv => whnf
      refine ⟨by omega, ?_⟩
      conv => whnf
      by_cases e : (at_ s.loans k).id = (at_ t.loans j).id
      · refine br_true (decide_eq_true (e)) ?_
        conv => whnf
        refine ⟨by omega, ?_⟩
        conv => whnf
        refine call_x2 (r21_Class_x p (at_ s.loans k) hp hgp hlr (by omega)) (LeL.refl _) ?_
        rintro _ - rfl
        conv => whnf
        refine ⟨by omega, ?_⟩
        conv => whnf
        refine call_x2 (r21_Class_x p (at_ t.loans j) hp hgp hlr2 (by omega)) (LeL.refl _) ?_
        rintro _ - rfl
        conv => whnf
        have cr := cls_rng (at_ s.loans k)
        have cr2 := cls_rng (at_ t.loans j)
        repeat' first
          | (refine And.intro (by omega) ?_; (conv => whnf))
        have er : rollJ (at_ s.loans k) t.loans (rollF s.loans t.loans k) (j + 1) = bump (rollJ (at_ s.loans k) t.loans (rollF s.loans t.loans k) j) (clsOf (at_ s.loans k)).toNat (clsOf (at_ t.loans j)).toNat := if_pos e
        exact ⟨j + 1, c2, (by show t.loans.length - (j + 1) < t.loans.length - j; omega), (le_st (le_r rfl) (leE_i rfl (inc_id c2 hn2) (leE_i rfl rfl (leE_ptr rfl rfl (leE_ptr rfl rfl (leE_ptr rfl rfl (leE_ptr rfl rfl (leE_ptr rfl rfl trivial))))))) (leO_box (lt_r rfl) rfl (LeA.refl _) (bnd_nf _ (nf_encPol _)) (leO_box (lt_r rfl) rfl (LeA.refl _) (bnd_nf _ (nf_encStt _)) (leO_box (lt_r rfl) rfl (LeA.refl _) (bnd_nf _ (nf_encStt _)) (leO_box (lt_r rfl) rfl (LeA.refl _) (bnd_nf _ (nf_encG _)) (leO_box (lt_r rfl) rfl (leA_bump er rfl ) (bnd_nf _ ( nf_encG _)) trivial))))) gl0n)⟩
      · refine br_false (decide_eq_false (e)) ?_
        conv => whnf
        have er : rollJ (at_ s.loans k) t.loans (rollF s.loans t.loans k) (j + 1) = rollJ (at_ s.loans k) t.loans (rollF s.loans t.loans k) j := if_neg e
        exact ⟨j + 1, c2, (by show t.loans.length - (j + 1) < t.loans.length - j; omega), (le_st (le_r rfl) (leE_i rfl (inc_id c2 hn2) (leE_i rfl rfl (leE_ptr rfl rfl (leE_ptr rfl rfl (leE_ptr rfl rfl (leE_ptr rfl rfl (leE_ptr rfl rfl trivial))))))) (leO_box (lt_r rfl) rfl (LeA.refl _) (bnd_nf _ (nf_encPol _)) (leO_box (lt_r rfl) rfl (LeA.refl _) (bnd_nf _ (nf_encStt _)) (leO_box (lt_r rfl) rfl (LeA.refl _) (bnd_nf _ (nf_encStt _)) (leO_box (lt_r rfl) rfl (LeA.refl _) (bnd_nf _ (nf_encG _)) (leO_box (lt_r rfl) rfl (LeA.of_eq (congrArg encG er.symm) ) (bnd_nf _ ( nf_encG _)) trivial))))) gl0n)⟩
    · refine br_false (decide_eq_false ((by omega : ¬ ((j : Int) < t.loans.length)))) ?_
      conv => whnf
      have hj2 : j = t.loans.length := by omega
      subst hj2
      exact ⟨k + 1, c, (by show s.loans.length - (k + 1) < s.loans.length - k; omega), (le_st (le_r rfl) (leE_i rfl (inc_id c hn) (leE_ptr rfl rfl (leE_ptr rfl rfl (leE_ptr rfl rfl (leE_ptr rfl rfl (leE_ptr rfl rfl trivial)))))) (leO_box (lt_r rfl) rfl (LeA.refl _) (bnd_nf _ (nf_encPol _)) (leO_box (lt_r rfl) rfl (LeA.refl _) (bnd_nf _ (nf_encStt _)) (leO_box (lt_r rfl) rfl (LeA.refl _) (bnd_nf _ (nf_encStt _)) (leO_box (lt_r rfl) rfl (LeA.refl _) (bnd_nf _ (nf_encG _)) (leO_box (lt_r rfl) rfl (LeA.refl _ ) (bnd_nf _ ( nf_encG _)) trivial))))) gl0n)⟩
  · refine br_false (decide_eq_false ((by omega : ¬ ((k : Int) < s.loans.length)))) ?_
    conv => whnf
    have hk2 : k = s.loans.length := by omega
    refine fin_e ?_
    conv => whnf
    rw [hk2]
    exact ⟨nf_encG _, rfl⟩

end Go.Proofs.YtjkmmcbfcglkdaaGreatDoor
namespace Go.Proofs.YtjkmmcbfcglkdaaGreatDoor
open Go Ar
set_option linter.unusedVariables false
set_option autoImplicit false
set_option maxHeartbeats 4000000
set_option maxRecDepth 100000

theorem law7_x (p : Pol) (ops : List Opn) (n : Int) (hpr : rng (encPol p)) (hw : p.holidays.length * 8 ≤ 140737488351232) (hop : rng (encL encOpn 7 ops)) : Pure Tryz.prog gl0 l21_ReportRolls [encPol p, encL encOpn 7 ops, I n] (B true) := by
  refine pure_fn mixed fn_l21_ReportRolls nt_l21_ReportRolls hc_l21_ReportRolls (by simp) gl0n (by simp [nf]) (by simp [nf]) ?_
  conv => whnf
  have hp := hasI_of hpr
  refine call_x2 (l21_behind_s p ops n hpr hop) (LeL.refl _) ?_
  rintro _ - ⟨s, rfl, hs, hsr, hck⟩
  conv => whnf
  refine call_x2 (l21_behind_s p ops 200 hpr hop) (LeL.refl _) ?_
  rintro _ - ⟨t, rfl, ht, htr, hct⟩
  conv => whnf
  refine call_pure (l21_twin_s s hs) (LeL.refl _) ?_
  conv => whnf
  refine call_pure (l21_twin_s t ht) (LeL.refl _) ?_
  conv => whnf
  refine call_pure (l21_own_s p hw) (LeL.refl _) ?_
  conv => whnf
  refine call_x2 (roll_x p s t _ _ hp hs ht hsr htr hck hct) (LeL.refl _) ?_
  rintro _ - rfl
  conv => whnf
  refine call_x2 (roll_x p t s _ _ hp ht hs htr hsr hct hck) (LeL.refl _) ?_
  rintro _ - rfl
  conv => whnf
  refine call_x2 (r21_roll_x p s t _ _ hp hs ht hsr htr hck) (LeL.refl _) ?_
  rintro _ - rfl
  conv => whnf
  refine br_true (congrArg (eqSn false) (eqS_refl _ _)) ?_
  conv => whnf
  refine call_x2 (r21_roll_x p t s _ _ hp ht hs htr hsr hct) (LeL.refl _) ?_
  rintro _ - rfl
  conv => whnf
  refine br_true (congrArg (eqSn false) (eqS_refl _ _)) ?_
  conv => whnf
  refine call_pure (l21_still_s s hs) (LeL.refl _) ?_
  conv => whnf
  refine call_pure (l21_still_s t ht) (LeL.refl _) ?_
  conv => whnf
  refine call_pure (l21_sameDays_s p.holidays hp) (LeL.refl _) ?_
  conv => whnf
  exact Le.refl _

end Go.Proofs.YtjkmmcbfcglkdaaGreatDoor
