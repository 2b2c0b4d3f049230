/- What is due, by the document: exact, and the same as the program's. No condition. -/
import Derived.Test.YtdjmplfjpnikkaaC3
set_option linter.all false
namespace Go.Proofs.Ytdjmplfjpnikkaa
open Go Ar
set_option linter.unusedVariables false
set_option autoImplicit false
set_option maxHeartbeats 4000000
set_option maxRecDepth 100000

theorem r29_isRate_x (x : Int) : PureX Try.prog gl0 r29_isRate [I x] (fun r => r = B (decide (0 ≤ x ∧ x ≤ 10000))) := by
  refine pure_fnX mixed fn_r29_isRate nt_r29_isRate hc_r29_isRate (by simp) gl0n (by simp [nf]) ?_
  conv => whnf
  repeat' first
    | (refine br_dec (fun h0 => ?_) (fun h0 => ?_) <;> (conv => whnf))
    | (refine br_intro (fun hb => ?_) (fun hb => ?_) <;> ((try rw [hb]); (conv => whnf); (try simp at hb)))
    | (refine aI ?_; (conv => whnf))
    | (refine fin_e ?_; (conv => whnf); refine ⟨trivial, ?_⟩; first | exact congrArg (fun b => B b) (decide_eq_true (by omega)).symm | exact congrArg (fun b => B b) (decide_eq_false (by omega)).symm)
    | fail

theorem lstF_s (w : Nat → Nat) (k : Nat) : lstF w (k + 1) = lstF w k ++ [(w k : Int)] := by
  unfold lstF
  rw [List.range_succ, List.map_append]; rfl

theorem leA_F (tok : Option Nat) (w : Nat → Nat) (n : Nat) : LeA (encT tok I 1 (lstF w n)) (encF n w) := by
  show LeA (.lst tok (lstF w n).length 1 (fun i => I (at_ (lstF w n) i))) (.lst none n 1 fun i => I (w i : Nat))
  rw [lstF_len]
  exact LeA.lst (.inr rfl) fun i hi => LeA.of_eq (congrArg (fun n => I n) (by unfold lstF at_; simp [List.getD_eq_getElem?_getD, hi]))

def remL (xs : List Shr) (a b k : Nat) : List Rem := (List.range k).map (remF xs a b)
theorem remL_len (xs : List Shr) (a b k : Nat) : (remL xs a b k).length = k := by simp [remL]
theorem remL_s (xs : List Shr) (a b k : Nat) : remL xs a b (k + 1) = remL xs a b k ++ [remF xs a b k] := by
  unfold remL
  rw [List.range_succ, List.map_append]; rfl
theorem leA_remL (tok : Option Nat) (xs : List Shr) (a b n : Nat) : LeA (encT tok encRem 3 (remL xs a b n)) (encRs n (remF xs a b)) := by
  show LeA (.lst tok (remL xs a b n).length 3 (fun i => encRem (at_ (remL xs a b n) i))) (.lst none n 3 fun i => encRem (remF xs a b i))
  rw [remL_len]
  exact LeA.lst (.inr rfl) fun i hi => LeA.of_eq (congrArg encRem (by unfold remL at_; simp [List.getD_eq_getElem?_getD, hi]))

theorem r29_Due_x (xs : List Shr) (rate a b : Nat) (h : (shV xs).1 = 0) (hr : rate ≤ 10000) (ha : a < 9223372036854775808) (hb : b < 9223372036854775808) : PureX Try.prog gl0 r29_Due [encL encShr 2 xs, I rate, I a, I b] (fun r => r = tup3 (encRs xs.length (remF xs a (b - bpsN b rate))) (I (bpsN b rate : Nat)) (I 0)) := by
  refine pure_fnX mixed fn_r29_Due nt_r29_Due hc_r29_Due (by simp) gl0n (by simp [nf]) ?_
  conv => whnf
  have hl := shV_0 h
  have hw := wS_ok h
  have h1 := hw.n1
  have h2 := hw.n2
  have hn : (xs.length : Int) < 9223372036854775808 := by omega
  refine call_x2 (r29_check_x xs (by omega)) (LeL.refl _) ?_
  rw [h]
  rintro _ - rfl
  conv => whnf
  refine call_x2 (r29_isRate_x rate) (LeL.refl _) ?_
  rw [decide_eq_true (show (0 : Int) ≤ rate ∧ (rate : Int) ≤ 10000 by omega)]
  rintro _ - rfl
  conv => whnf
  refine loop_at mixed (fun (k : Nat) => ([(14, I k), (13, encT (some 0) I 1 (lstF (wS xs) k)), (0, encL encShr 2 xs), (1, I rate), (2, I a), (3, I b)], [(0, .room (lstF (wS xs) k).length 1 2)], 1)) (fun k => k ≤ xs.length) (fun k => xs.length - k) 0 (Nat.zero_le _) ((le_nil 13 1 2 (fun i => I (at_ (lstF (wS xs) 0) i)) rfl).trans (le_st (le_r rfl) (leE_i rfl rfl (leE_eq rfl (bnd_encT nf_I (lt_r rfl)) (leE_eq rfl (bnd_nf _ (nfL_Shr _ _)) (leE_i rfl rfl (leE_i rfl rfl (leE_i rfl rfl trivial)))))) (leO_room (lt_r rfl) rfl trivial) gl0n)) ?_
  intro k hk
  conv => whnf
  by_cases c : k < xs.length
  · refine br_true (decide_eq_true ((by omega : (k : Int) < xs.length))) ?_
    conv => whnf
    refine ⟨by omega, ?_⟩
    conv => whnf
    have hlk : (lstF (wS xs) k).length = k := lstF_len _ _
    refine ⟨rfl, (by rw [hlk]; (show (k + 1) * 8 ≤ _); omega), ?_⟩
    conv => whnf
    refine ⟨k + 1, c, (by show xs.length - (k + 1) < xs.length - k; omega), ?_⟩
    dsimp only
    rw [lstF_s, ← wS_i h c]
    exact (le_st (le_r rfl) (leE_i rfl (inc_id c hn) (leE_le rfl (leA_snoc (enc := I) (by exact LeA.refl _)).le (bnd_encT nf_I (lt_r rfl)) (leE_eq rfl (bnd_nf _ (nfL_Shr _ _)) (leE_i rfl rfl (leE_i rfl rfl (leE_i rfl rfl trivial)))))) (leO_room (lt_r rfl) (by (simp; rfl)) trivial) gl0n)
  · refine br_false (decide_eq_false ((by omega : ¬ ((k : Int) < xs.length)))) ?_
    conv => whnf
    obtain rfl : k = xs.length := by omega
    refine call_x2 (r1_Bps_x (b : Int) (rate : Int) (by unfold in64; omega) (by unfold in64; omega)) (LeL.refl _) ?_
    rw [mdV_ok hb hr]
    rintro _ - rfl
    conv => whnf
    refine call_x2 (r1_split_x a xs.length (wS xs) ha hw) ⟨Le.refl _, (leA_F _ _ _).le, trivial⟩ ?_
    rintro _ - rfl
    conv => whnf
    have hf := bps_le (s := b) hr
    have e : IntKind.i64.wrap ((b : Int) - (bpsN b rate : Nat)) = ((b - bpsN b rate : Nat) : Int) := by
      rw [wrap_id (by unfold in64; omega)]; omega
    rw [e]
    clear e
    refine call_x2 (r1_split_x (b - bpsN b rate) xs.length (wS xs) (by omega) hw) ⟨Le.refl _, (leA_F _ _ _).le, trivial⟩ ?_
    rintro _ - rfl
    conv => whnf
    generalize bpsN b rate = fee at hf ⊢
    refine loop_at mixed (fun (k : Nat) => ([(22, I k), (21, encT (some 1) encRem 3 (remL xs a (b - fee) k)), (0, encL encShr 2 xs), (15, I fee), (17, encF xs.length (pN a (wS xs) xs.length)), (19, encF xs.length (pN (b - fee) (wS xs) xs.length))], [(1, .room (remL xs a (b - fee) k).length 3 66)], 2)) (fun k => k ≤ xs.length) (fun k => xs.length - k) 0 (Nat.zero_le _) ((le_nil 21 3 66 (fun i => encRem (at_ (remL xs a (b - fee) 0) i)) rfl).trans (le_st (le_r rfl) (leE_i rfl rfl (leE_eq rfl (bnd_encT nf_encRem (lt_r rfl)) (leE_eq rfl (bnd_nf _ (nfL_Shr _ _)) (leE_i rfl rfl (leE_eq rfl (bnd_nf _ (nf_encF _ _)) (leE_eq rfl (bnd_nf _ (nf_encF _ _)) trivial)))))) (leO_room (lt_r rfl) rfl trivial) gl0n)) ?_
    intro k hk
    conv => whnf
    by_cases c : k < xs.length
    · refine br_true (decide_eq_true ((by omega : (k : Int) < xs.length))) ?_
      conv => whnf
      repeat' first
        | (refine And.intro (by first | rfl | omega | (constructor <;> omega) | (rw [remL_len]; (show (k + 1) * 24 ≤ _); omega) | fail) ?_; (conv => whnf))
        | fail
      refine ⟨k + 1, c, (by show xs.length - (k + 1) < xs.length - k; omega), ?_⟩
      dsimp only
      rw [remL_s]
      exact (le_st (le_r rfl) (leE_i rfl (inc_id c hn) (leE_le rfl (leA_snoc (enc := encRem) (by exact LeA.refl _)).le (bnd_encT nf_encRem (lt_r rfl)) (leE_eq rfl (bnd_nf _ (nfL_Shr _ _)) (leE_i rfl rfl (leE_eq rfl (bnd_nf _ (nf_encF _ _)) (leE_eq rfl (bnd_nf _ (nf_encF _ _)) trivial)))))) (leO_room (lt_r rfl) (by (simp; rfl)) trivial) gl0n)
    · refine br_false (decide_eq_false ((by omega : ¬ ((k : Int) < xs.length)))) ?_
      conv => whnf
      have hk2 : k = xs.length := by omega
      refine fin_r (tup3 (encRs xs.length (remF xs a (b - fee))) (I fee) (I 0)) ⟨nf_encRs _ _, trivial, trivial, trivial⟩ rfl ?_
      conv => whnf
      rw [hk2]
      exact (LeA.tup (LeA.cons (leA_remL _ _ _ _ _) (LeA.refl _))).le

end Go.Proofs.Ytdjmplfjpnikkaa
namespace Go.Proofs.Ytdjmplfjpnikkaa
open Go Ar
set_option linter.unusedVariables false
set_option autoImplicit false
set_option maxHeartbeats 4000000
set_option maxRecDepth 100000

structure Mov where
  day : Int
  kind : Int
  net : Nat → Int
instance : Inhabited Mov := ⟨⟨0, 0, fun _ => 0⟩⟩
def encMov (m : Mov) : AV := .st (.cons (I m.day) (.cons (I m.kind) (.cons (encBf m.net) .nil)))
theorem nf_encMov (m : Mov) : nf (encMov m) := ⟨trivial, trivial, nf_encBf _, trivial⟩
theorem nfL_Mov (e : Nat) (xs : List Mov) : nf (encL encMov e xs) := nf_encL nf_encMov
attribute [simp] nf_encMov nfL_Mov

def selM (d : Int) (m : Mov) : Prop := (m.kind = 2 ∨ m.kind = 3) ∧ m.day ≤ d
instance (d : Int) (m : Mov) : Decidable (selM d m) := by unfold selM; infer_instance
def lowM (d : Int) (a : Nat) (m : Mov) : List Int := if selM d m then [-1 - m.net a, 1] else []
def lowL (d : Int) (a : Nat) (ms : List Mov) : List Int := ms.flatMap (lowM d a)

theorem lowM_len (d : Int) (a : Nat) (m : Mov) : (lowM d a m).length ≤ 2 := by unfold lowM; split <;> simp
theorem lowL_len (d : Int) (a : Nat) : ∀ ms : List Mov, (lowL d a ms).length ≤ 2 * ms.length
  | [] => Nat.le_refl _
  | m :: r => by
    have h1 := lowM_len d a m
    have h2 := lowL_len d a r
    show (lowM d a m ++ lowL d a r).length ≤ 2 * (r.length + 1)
    rw [List.length_append]; omega
theorem lowL_take {d : Int} {a : Nat} {ms : List Mov} {k : Nat} (h : k < ms.length) : lowL d a (ms.take (k + 1)) = lowL d a (ms.take k) ++ lowM d a (at_ ms k) := by
  unfold lowL
  rw [take_at h, List.flatMap_append]
  simp

theorem leA_two {tok : Option Nat} {e : Nat} {xs : List Int} {x y : Int} {h : Nat → AV} (h0 : LeA (h 0) (I x)) (h1 : LeA (h 1) (I y)) :
    LeA (.lst tok (xs.length + 2) e (appF xs.length (fun i => I (at_ xs i)) h)) (encT tok I e (xs ++ [x, y])) :=
  leA_app (ys := [x, y]) rfl (fun i hi => by
    match i, hi with
    | 0, _ => exact h0
    | 1, _ => exact h1)

theorem lowered_x (ms : List Mov) (d : Int) (a : Nat) (ha : a < 12) (hm : ∀ m ∈ ms, in64 (m.net a)) (hn : ms.length ≤ 1000) : PureX Try.prog gl0 r29_lowered [encL encMov 14 ms, I d, I a] (fun r => r = sumV (lowL d a ms).sum) := by
  refine pure_fnX mixed fn_r29_lowered nt_r29_lowered hc_r29_lowered (by simp) gl0n (by simp [nf]) ?_
  conv => whnf
  have hn2 : (ms.length : Int) < 9223372036854775808 := by omega
  refine loop_at mixed (fun (k : Nat) => ([(9, I k), (8, encT (some 0) I 1 (lowL d a (ms.take k))), (0, encL encMov 14 ms), (1, I d), (2, I a)], [(0, .room (lowL d a (ms.take k)).length 1 2)], 1)) (fun k => k ≤ ms.length) (fun k => ms.length - k) 0 (Nat.zero_le _) ((le_nil 8 1 2 (fun i => I (at_ (lowL d a (ms.take 0)) i)) rfl).trans (le_st (le_r rfl) (leE_i rfl rfl (leE_eq rfl (bnd_encT nf_I (lt_r rfl)) (leE_eq rfl (bnd_nf _ (nfL_Mov _ _)) (leE_i rfl rfl (leE_i rfl rfl trivial))))) (leO_room (lt_r rfl) rfl trivial) gl0n)) ?_
  intro k hk
  conv => whnf
  by_cases c : k < ms.length
  · refine br_true (decide_eq_true ((by omega : (k : Int) < ms.length))) ?_
    conv => whnf
    refine ⟨by omega, ?_⟩
    conv => whnf
    have hmk := hm _ (at_mem c)
    have hlen := lowL_len d a (ms.take k)
    rw [List.length_take] at hlen
    by_cases c1 : (at_ ms k).kind = 2
    · refine br_true (decide_eq_true (c1)) ?_
      conv => whnf
      by_cases c3 : (at_ ms k).day ≤ d
      · refine br_true (decide_eq_true (c3)) ?_
        conv => whnf
        repeat' first
          | (refine And.intro (by first | rfl | omega | (constructor <;> omega) | (simp only [List.length_cons, List.length_nil]; omega) | fail) ?_; (conv => whnf))
          | fail
        refine ⟨k + 1, c, (by show ms.length - (k + 1) < ms.length - k; omega), ?_⟩
        dsimp only
        rw [lowL_take c, show lowM d a (at_ ms k) = [-1 - (at_ ms k).net a, 1] from if_pos ⟨.inl c1, c3⟩]
        exact le_st (le_r rfl) (leE_i rfl (inc_id c hn2) (leE_le rfl (leA_two (LeA.of_eq (congrArg (fun n => I n) (show IntKind.i64.wrap (-1 - (at_ ms k).net a) = -1 - (at_ ms k).net a from wrap_id (by unfold in64 at hmk ⊢; omega)))) (LeA.refl _)).le (bnd_encT nf_I (lt_r rfl)) (leE_eq rfl (bnd_nf _ (nfL_Mov _ _)) (leE_i rfl rfl (leE_i rfl rfl trivial))))) (leO_room (lt_r rfl) (by simp; rfl) trivial) gl0n
      · refine br_false (decide_eq_false (c3)) ?_
        conv => whnf
        refine ⟨k + 1, c, (by show ms.length - (k + 1) < ms.length - k; omega), ?_⟩
        dsimp only
        rw [lowL_take c, show lowM d a (at_ ms k) = [] from if_neg (fun h => c3 h.2), List.append_nil]
        exact (le_st (le_r rfl) (leE_i rfl (inc_id c hn2) (leE_eq rfl (bnd_encT nf_I (lt_r rfl)) (leE_eq rfl (bnd_nf _ (nfL_Mov _ _)) (leE_i rfl rfl (leE_i rfl rfl trivial))))) (leO_room (lt_r rfl) rfl trivial) gl0n)
    · refine br_false (decide_eq_false (c1)) ?_
      conv => whnf
      by_cases c2 : (at_ ms k).kind = 3
      · refine br_true (decide_eq_true (c2)) ?_
        conv => whnf
        by_cases c3 : (at_ ms k).day ≤ d
        · refine br_true (decide_eq_true (c3)) ?_
          conv => whnf
          repeat' first
            | (refine And.intro (by first | rfl | omega | (constructor <;> omega) | (simp only [List.length_cons, List.length_nil]; omega) | fail) ?_; (conv => whnf))
            | fail
          refine ⟨k + 1, c, (by show ms.length - (k + 1) < ms.length - k; omega), ?_⟩
          dsimp only
          rw [lowL_take c, show lowM d a (at_ ms k) = [-1 - (at_ ms k).net a, 1] from if_pos ⟨.inr c2, c3⟩]
          exact le_st (le_r rfl) (leE_i rfl (inc_id c hn2) (leE_le rfl (leA_two (LeA.of_eq (congrArg (fun n => I n) (show IntKind.i64.wrap (-1 - (at_ ms k).net a) = -1 - (at_ ms k).net a from wrap_id (by unfold in64 at hmk ⊢; omega)))) (LeA.refl _)).le (bnd_encT nf_I (lt_r rfl)) (leE_eq rfl (bnd_nf _ (nfL_Mov _ _)) (leE_i rfl rfl (leE_i rfl rfl trivial))))) (leO_room (lt_r rfl) (by simp; rfl) trivial) gl0n
        · refine br_false (decide_eq_false (c3)) ?_
          conv => whnf
          refine ⟨k + 1, c, (by show ms.length - (k + 1) < ms.length - k; omega), ?_⟩
          dsimp only
          rw [lowL_take c, show lowM d a (at_ ms k) = [] from if_neg (fun h => c3 h.2), List.append_nil]
          exact (le_st (le_r rfl) (leE_i rfl (inc_id c hn2) (leE_eq rfl (bnd_encT nf_I (lt_r rfl)) (leE_eq rfl (bnd_nf _ (nfL_Mov _ _)) (leE_i rfl rfl (leE_i rfl rfl trivial))))) (leO_room (lt_r rfl) rfl trivial) gl0n)
      · refine br_false (decide_eq_false (c2)) ?_
        conv => whnf
        refine ⟨k + 1, c, (by show ms.length - (k + 1) < ms.length - k; omega), ?_⟩
        dsimp only
        rw [lowL_take c, show lowM d a (at_ ms k) = [] from if_neg (fun h => h.1.elim c1 c2), List.append_nil]
        exact (le_st (le_r rfl) (leE_i rfl (inc_id c hn2) (leE_eq rfl (bnd_encT nf_I (lt_r rfl)) (leE_eq rfl (bnd_nf _ (nfL_Mov _ _)) (leE_i rfl rfl (leE_i rfl rfl trivial))))) (leO_room (lt_r rfl) rfl trivial) gl0n)
  · refine br_false (decide_eq_false ((by omega : ¬ ((k : Int) < ms.length)))) ?_
    conv => whnf
    obtain rfl : k = ms.length := by omega
    rw [List.take_length]
    refine call_x2 (r1_Sum_x2 (lowL d a ms) (fun x hx => ?_) (by have := lowL_len d a ms; omega)) ⟨(leA_drop (enc := I) (xs := lowL d a ms)).le, trivial⟩ ?_
    · obtain ⟨m, h1, h2⟩ := List.mem_flatMap.1 hx
      have h3 := hm m h1
      unfold lowM at h2
      split at h2
      · simp only [List.mem_cons, List.mem_nil_iff, or_false] at h2
        unfold in64 at h3 ⊢
        omega
      · cases h2
    have e2 : ∃ n b, sumV (lowL d a ms).sum = tup2 (I n) (B b) := by unfold sumV; split <;> exact ⟨_, _, rfl⟩
    obtain ⟨n, b, e2⟩ := e2
    rw [e2]
    rintro _ - rfl
    conv => whnf
    refine fin_e ?_
    conv => whnf
    exact ⟨by simp [packA, consL, nf], rfl⟩

/-- What an account was lowered by. -/
def colS (d : Int) (a : Nat) (ms : List Mov) : Int := (lowL d a ms).sum
def colV (d : Int) (ms : List Mov) : AV := if in64 (colS d 1 ms) ∧ in64 (colS d 2 ms) then tup3 (I (colS d 1 ms)) (I (colS d 2 ms)) (B true) else tup3 (I 0) (I 0) (B false)

theorem r29_col_x (ms : List Mov) (d : Int) (hm : ∀ m ∈ ms, ∀ a, a < 12 → in64 (m.net a)) (hn : ms.length ≤ 1000) : PureX Try.prog gl0 r29_Collected [encL encMov 14 ms, I d] (fun r => r = colV d ms) := by
  refine pure_fnX mixed fn_r29_Collected nt_r29_Collected hc_r29_Collected (by simp) gl0n (by simp [nf]) ?_
  conv => whnf
  have q1 := lowered_x ms d 1 (by decide) (fun m h => hm m h 1 (by decide)) hn
  have q2 := lowered_x ms d 2 (by decide) (fun m h => hm m h 2 (by decide)) hn
  rw [show (lowL d 1 ms).sum = colS d 1 ms from rfl] at q1
  rw [show (lowL d 2 ms).sum = colS d 2 ms from rfl] at q2
  unfold colV
  by_cases c1 : in64 (colS d 1 ms)
  · rw [sumV_yes c1] at q1
    by_cases c2 : in64 (colS d 2 ms)
    · rw [sumV_yes c2] at q2
      rw [if_pos ⟨c1, c2⟩]
      refine call_x2 q1 (LeL.refl _) ?_
      rintro _ - rfl
      conv => whnf
      refine call_x2 q2 (LeL.refl _) ?_
      rintro _ - rfl
      conv => whnf
      refine fin_e ?_
      conv => whnf
      exact ⟨by simp [packA, consL, nf], rfl⟩
    · rw [sumV_no c2] at q2
      rw [if_neg (fun h => c2 h.2)]
      refine call_x2 q1 (LeL.refl _) ?_
      rintro _ - rfl
      conv => whnf
      refine call_x2 q2 (LeL.refl _) ?_
      rintro _ - rfl
      conv => whnf
      refine fin_e ?_
      conv => whnf
      exact ⟨by simp [packA, consL, nf], rfl⟩
  · rw [sumV_no c1] at q1
    rw [if_neg (fun h => c1 h.1)]
    by_cases c2 : in64 (colS d 2 ms)
    · rw [sumV_yes c2] at q2
      refine call_x2 q1 (LeL.refl _) ?_
      rintro _ - rfl
      conv => whnf
      refine call_x2 q2 (LeL.refl _) ?_
      rintro _ - rfl
      conv => whnf
      refine fin_e ?_
      conv => whnf
      exact ⟨by simp [packA, consL, nf], rfl⟩
    · rw [sumV_no c2] at q2
      refine call_x2 q1 (LeL.refl _) ?_
      rintro _ - rfl
      conv => whnf
      refine call_x2 q2 (LeL.refl _) ?_
      rintro _ - rfl
      conv => whnf
      refine fin_e ?_
      conv => whnf
      exact ⟨by simp [packA, consL, nf], rfl⟩

end Go.Proofs.Ytdjmplfjpnikkaa
namespace Go.Proofs.Ytdjmplfjpnikkaa
open Go Ar
set_option linter.unusedVariables false
set_option autoImplicit false
set_option maxHeartbeats 4000000
set_option maxRecDepth 100000

def dueE (xs : List Shr) (rate a b : Int) : Int := if (shV xs).1 ≠ 0 then (shV xs).1 else if 0 ≤ rate ∧ rate ≤ 10000 ∧ 0 ≤ a ∧ 0 ≤ b then 0 else 2
abbrev noR (e : Int) : AV := tup3 (.val (.slice none 0 0)) (I 0) (I e)

theorem Due_bad (xs : List Shr) (rate a b : Int) (hn : xs.length ≤ 64) (h : dueE xs rate a b ≠ 0) : PureX Try.prog gl0 remit_Due [encL encShr 2 xs, I rate, I a, I b] (fun r => r = noR (dueE xs rate a b)) := by
  refine pure_fnX mixed fn_remit_Due nt_remit_Due hc_remit_Due (by simp) gl0n (by simp [nf]) ?_
  conv => whnf
  refine call_x2 (check_x xs (by omega)) (LeL.refl _) ?_
  rintro _ - rfl
  conv => whnf
  unfold dueE at h ⊢
  by_cases c1 : (shV xs).1 ≠ 0
  · refine br_true (decide_eq_true (c1)) ?_
    conv => whnf
    rw [if_pos c1]
    refine fin_e ?_
    conv => whnf
    exact ⟨by simp [packA, consL, nf], rfl⟩
  · refine br_false (decide_eq_false (c1)) ?_
    conv => whnf
    rw [if_neg c1] at h ⊢
    refine call_x2 (isRate_x rate) (LeL.refl _) ?_
    rintro _ - rfl
    conv => whnf
    by_cases c2 : 0 ≤ rate ∧ rate ≤ 10000
    · rw [decide_eq_true c2]
      conv => whnf
      by_cases c3 : a < 0
      · refine br_true (decide_eq_true (c3)) ?_
        conv => whnf
        rw [if_neg (by omega)]
        refine fin_e ?_
        conv => whnf
        exact ⟨by simp [packA, consL, nf], rfl⟩
      · refine br_false (decide_eq_false (c3)) ?_
        conv => whnf
        by_cases c4 : b < 0
        · refine br_true (decide_eq_true (c4)) ?_
          conv => whnf
          rw [if_neg (by omega)]
          refine fin_e ?_
          conv => whnf
          exact ⟨by simp [packA, consL, nf], rfl⟩
        · exact absurd (if_pos (by omega)) h
    · rw [decide_eq_false c2, if_neg (fun h => c2 ⟨h.1, h.2.1⟩)]
      conv => whnf
      refine fin_e ?_
      conv => whnf
      exact ⟨by simp [packA, consL, nf], rfl⟩

theorem r29_Due_bad (xs : List Shr) (rate a b : Int) (hn : xs.length ≤ 64) (h : dueE xs rate a b ≠ 0) : PureX Try.prog gl0 r29_Due [encL encShr 2 xs, I rate, I a, I b] (fun r => r = noR (dueE xs rate a b)) := by
  refine pure_fnX mixed fn_r29_Due nt_r29_Due hc_r29_Due (by simp) gl0n (by simp [nf]) ?_
  conv => whnf
  refine call_x2 (r29_check_x xs (by omega)) (LeL.refl _) ?_
  rintro _ - rfl
  conv => whnf
  unfold dueE at h ⊢
  by_cases c1 : (shV xs).1 ≠ 0
  · refine br_true (decide_eq_true (c1)) ?_
    conv => whnf
    rw [if_pos c1]
    refine fin_e ?_
    conv => whnf
    exact ⟨by simp [packA, consL, nf], rfl⟩
  · refine br_false (decide_eq_false (c1)) ?_
    conv => whnf
    rw [if_neg c1] at h ⊢
    refine call_x2 (r29_isRate_x rate) (LeL.refl _) ?_
    rintro _ - rfl
    conv => whnf
    by_cases c2 : 0 ≤ rate ∧ rate ≤ 10000
    · rw [decide_eq_true c2]
      conv => whnf
      by_cases c3 : a < 0
      · refine br_true (decide_eq_true (c3)) ?_
        conv => whnf
        rw [if_neg (by omega)]
        refine fin_e ?_
        conv => whnf
        exact ⟨by simp [packA, consL, nf], rfl⟩
      · refine br_false (decide_eq_false (c3)) ?_
        conv => whnf
        by_cases c4 : b < 0
        · refine br_true (decide_eq_true (c4)) ?_
          conv => whnf
          rw [if_neg (by omega)]
          refine fin_e ?_
          conv => whnf
          exact ⟨by simp [packA, consL, nf], rfl⟩
        · exact absurd (if_pos (by omega)) h
    · rw [decide_eq_false c2, if_neg (fun h => c2 ⟨h.1, h.2.1⟩)]
      conv => whnf
      refine fin_e ?_
      conv => whnf
      exact ⟨by simp [packA, consL, nf], rfl⟩

end Go.Proofs.Ytdjmplfjpnikkaa
