/- A kind's word, a day's text, the line of a book, the line of a movement. No condition. -/
import Derived.Test.YtoglphkkhhjodaaDoorC1
set_option linter.all false
namespace Go.Proofs.YtoglphkkhhjodaaDoor
open Go Ar
set_option linter.unusedVariables false
set_option autoImplicit false
set_option maxHeartbeats 4000000
set_option maxRecDepth 100000

abbrev vDay (d : Int) : Prop := 1 ≤ d ∧ d ≤ 3652059
open Classical in
/-- A day's text. -/
noncomputable def dateT (day : Int) : ByteArray := if h : vDay day ∧ ∃ t : Nat × Nat × Nat, DtIs day.toNat t.1 t.2.1 t.2.2 then dtB h.2.choose.1 h.2.choose.2.1 h.2.choose.2.2 else ⟨#[]⟩
theorem FdV.is {day : Int} {r : AV} (h : FdV day r) : r = tup2 (T (dateT day)) (B (decide (vDay day))) := by
  rcases h with ⟨y, m, d, h, h1, h2⟩ | h
  · have hx : vDay day ∧ ∃ t : Nat × Nat × Nat, DtIs day.toNat t.1 t.2.1 t.2.2 := ⟨⟨h1, h2⟩, (y, m, d), h⟩
    have e := h.uniq hx.2.choose_spec
    unfold dateT
    rw [dif_pos hx, decide_eq_true hx.1, ← e.1, ← e.2.1, ← e.2.2]
  · unfold dateT
    rw [dif_neg (fun x => h x.1), decide_eq_false h]
theorem dtB_size (y m d : Nat) : (dtB y m d).size = 10 := by
  unfold dtB
  rw [ByteArray.size_append, ByteArray.size_append, ByteArray.size_append, ByteArray.size_append, decB_size, decB_size, decB_size]
  rfl
theorem dateT_size (day : Int) : (dateT day).size ≤ 10 := by
  unfold dateT
  split
  · rw [dtB_size]; exact Nat.le_refl _
  · exact Nat.zero_le _

/-- A kind's word. -/
def wrd (k : Int) : ByteArray := if 1 ≤ k ∧ k ≤ 8 then at_ wordL k.toNat else ⟨#[]⟩

theorem word_x (k : Int) : PureX Tryd.prog gl0 r22_word [I k] (fun r => r = T (wrd k)) := by
  refine pure_fnX mixed fn_r22_word nt_r22_word hc_r22_word (by simp) gl0n (by simp [nf]) ?_
  conv => whnf
  by_cases c : 1 ≤ k ∧ k ≤ 8
  · rcases (show k = 1 ∨ k = 2 ∨ k = 3 ∨ k = 4 ∨ k = 5 ∨ k = 6 ∨ k = 7 ∨ k = 8 by omega) with rfl | rfl | rfl | rfl | rfl | rfl | rfl | rfl
    all_goals (conv => whnf)
    all_goals (refine fin_e ?_; (conv => whnf); exact ⟨trivial, rfl⟩)
  · refine br_false (decide_eq_false ((by omega : ¬ k = 1))) ?_
    conv => whnf
    refine br_false (decide_eq_false ((by omega : ¬ k = 2))) ?_
    conv => whnf
    refine br_false (decide_eq_false ((by omega : ¬ k = 3))) ?_
    conv => whnf
    refine br_false (decide_eq_false ((by omega : ¬ k = 4))) ?_
    conv => whnf
    refine br_false (decide_eq_false ((by omega : ¬ k = 5))) ?_
    conv => whnf
    refine br_false (decide_eq_false ((by omega : ¬ k = 6))) ?_
    conv => whnf
    refine br_false (decide_eq_false ((by omega : ¬ k = 7))) ?_
    conv => whnf
    refine br_false (decide_eq_false ((by omega : ¬ k = 8))) ?_
    conv => whnf
    refine fin_e ?_
    conv => whnf
    exact ⟨trivial, congrArg (fun s => T s) (if_neg c).symm⟩

/-- Can the line of a book be told? -/
def okT (d : Int) (ms : List Mov) : Prop := okU d ms ∧ ¬ sD d ms 4 = -9223372036854775808
inductive TotV (hd : ByteArray) (d : Int) (ms : List Mov) : AV → Prop
  | ok (h : okT d ms) : TotV hd d ms (tup2 (T (hd ++ strOfNums (colL false (sD d ms)))) (B true))
  | no (h : ¬ okT d ms) (t : ByteArray) : TotV hd d ms (tup2 (T t) (B false))

theorem colL_len {sg : Bool} {n : Nat → Int} (hn : ∀ a, a < 12 → in64 (n a)) (h : ¬ n 4 = -9223372036854775808) : (colL sg n).length ≤ 104 := by
  have l1 := tellL_len (sg := sg) (hn 1 (by decide))
  have l2 := tellL_len (sg := sg) (hn 2 (by decide))
  have l3 := tellL_len (sg := sg) (hn 3 (by decide))
  have l4 := tellL_len (sg := sg) (show in64 (-n 4) by have := hn 4 (by decide); unfold in64 at this ⊢; omega)
  unfold colL
  simp only [List.length_append, List.length_cons]
  omega

theorem total_x (hd : ByteArray) (ms : List Mov) (d : Int) (hh : hd.size ≤ 100) (hm : okM ms) (hn : ms.length ≤ 100000) : PureX Tryd.prog gl0 statement_total [T hd, encL encMov 14 ms, I d] (TotV hd d ms) := by
  refine pure_fnX mixed fn_statement_total nt_statement_total hc_statement_total (by simp) gl0n (by simp [nf]) ?_
  conv => whnf
  refine call_x2 (upto_x ms d hm hn) (LeL.refl _) ?_
  by_cases c : okU d ms
  · rw [upV_yes c]
    rintro _ - rfl
    conv => whnf
    refine call_x2 (cols_x (sD d ms) false c) (LeL.refl _) ?_
    by_cases c2 : sD d ms 4 = -9223372036854775808
    · rw [colsV_no c2]
      rintro _ - rfl
      conv => whnf
      refine And.intro (by show _ + 0 ≤ _; omega) ?_
      conv => whnf
      repeat' first
        | (rw [wpE_one]; (conv => whnf))
        | fail
      refine fin_e ?_
      conv => whnf
      exact ⟨by simp [packA, consL, nf], .no (fun h => h.2 c2) _⟩
    · rw [colsV_yes c2]
      have hl := colL_len (sg := false) c c2
      rintro _ - rfl
      conv => whnf
      refine And.intro (by rw [sonS]; omega) ?_
      conv => whnf
      repeat' first
        | (rw [wpE_one]; (conv => whnf))
        | fail
      refine fin_e ?_
      conv => whnf
      exact ⟨by simp [packA, consL, nf], .ok ⟨c, c2⟩⟩
  · rw [upV_no c]
    rintro _ - rfl
    conv => whnf
    refine fin_e ?_
    conv => whnf
    exact ⟨by simp [packA, consL, nf], .no (fun h => c h.1) _⟩

theorem stand_x (hd : ByteArray) (ms : List Mov) (d : Int) (hh : hd.size ≤ 100) (hm : okM ms) (hn : ms.length ≤ 100000) : PureX Tryd.prog gl0 r22_standing [T hd, encL encMov 14 ms, I d] (TotV hd d ms) := by
  refine pure_fnX mixed fn_r22_standing nt_r22_standing hc_r22_standing (by simp) gl0n (by simp [nf]) ?_
  conv => whnf
  refine call_x2 (r22_upto_x ms d hm hn) (LeL.refl _) ?_
  by_cases c : okU d ms
  · rw [upV_yes c]
    rintro _ - rfl
    conv => whnf
    refine call_x2 (r22_cols_x (sD d ms) false c) (LeL.refl _) ?_
    by_cases c2 : sD d ms 4 = -9223372036854775808
    · rw [colsV_no c2]
      rintro _ - rfl
      conv => whnf
      refine And.intro (by show _ + 0 ≤ _; omega) ?_
      conv => whnf
      repeat' first
        | (rw [wpE_one]; (conv => whnf))
        | fail
      refine fin_e ?_
      conv => whnf
      exact ⟨by simp [packA, consL, nf], .no (fun h => h.2 c2) _⟩
    · rw [colsV_yes c2]
      have hl := colL_len (sg := false) c c2
      rintro _ - rfl
      conv => whnf
      refine And.intro (by rw [sonS]; omega) ?_
      conv => whnf
      repeat' first
        | (rw [wpE_one]; (conv => whnf))
        | fail
      refine fin_e ?_
      conv => whnf
      exact ⟨by simp [packA, consL, nf], .ok ⟨c, c2⟩⟩
  · rw [upV_no c]
    have hz : ∀ a, a < 12 → in64 (zN a) := fun a _ => show in64 0 by unfold in64; omega
    rintro _ - rfl
    conv => whnf
    refine call_x2 (r22_cols_x zN false hz) (LeL.refl _) ?_
    rw [colsV_yes (by decide)]
    rintro _ - rfl
    conv => whnf
    have hl := colL_len (sg := false) (n := zN) hz (by decide)
    refine And.intro (by rw [sonS]; omega) ?_
    conv => whnf
    repeat' first
      | (rw [wpE_one]; (conv => whnf))
      | fail
    refine fin_e ?_
    conv => whnf
    exact ⟨by simp [packA, consL, nf], .no (fun h => c h.1) _⟩

/-- Can a movement's line be told? -/
def okR (m : Mov) : Prop := (1 ≤ m.kind ∧ m.kind ≤ 8) ∧ ¬ m.net 4 = -9223372036854775808
noncomputable def rowT (m : Mov) : ByteArray := dateT m.day ++ ⟨#[32]⟩ ++ wrd m.kind ++ strOfNums (colL true m.net)
inductive RowV (m : Mov) : AV → Prop
  | ok (h : okR m) : RowV m (tup2 (T (rowT m)) (B true))
  | no (h : ¬ okR m) (t : ByteArray) : RowV m (tup2 (T t) (B false))
theorem wrd_size (k : Int) : (wrd k).size ≤ 11 := by
  unfold wrd
  by_cases c : 1 ≤ k ∧ k ≤ 8
  · rw [if_pos c]
    rcases (show k = 1 ∨ k = 2 ∨ k = 3 ∨ k = 4 ∨ k = 5 ∨ k = 6 ∨ k = 7 ∨ k = 8 by omega) with rfl | rfl | rfl | rfl | rfl | rfl | rfl | rfl <;> decide
  · rw [if_neg c]; decide

theorem z00 : (⟨#[]⟩ : ByteArray).size = 0 := rfl

theorem row_x (m : Mov) (hm : ∀ a, a < 12 → in64 (m.net a)) : PureX Tryd.prog gl0 statement_row [encMov m] (RowV m) := by
  refine pure_fnX mixed fn_statement_row nt_statement_row hc_statement_row (by simp) gl0n (by simp [nf]) ?_
  conv => whnf
  by_cases c0 : m.kind < 1
  · refine br_true (decide_eq_true (c0)) ?_
    conv => whnf
    refine fin_e ?_
    conv => whnf
    exact ⟨by simp [packA, consL, nf], .no (fun h => by have := h.1; omega) _⟩
  · refine br_false (decide_eq_false (c0)) ?_
    conv => whnf
    by_cases c1 : 8 < m.kind
    · refine br_true (decide_eq_true (c1)) ?_
      conv => whnf
      refine fin_e ?_
      conv => whnf
      exact ⟨by simp [packA, consL, nf], .no (fun h => by have := h.1; omega) _⟩
    · refine br_false (decide_eq_false (c1)) ?_
      conv => whnf
      refine call_x2 (calFd_x m.day) (LeL.refl _) ?_
      rintro _ - hfd
      rw [hfd.is]
      conv => whnf
      refine call_x2 (cols_x m.net true hm) (LeL.refl _) ?_
      have hw : at_ wordL m.kind.toNat = wrd m.kind := (if_pos (by omega)).symm
      have s1 := dateT_size m.day
      have s2 := wrd_size m.kind
      by_cases c2 : m.net 4 = -9223372036854775808
      · rw [colsV_no c2]
        rintro _ - rfl
        conv => whnf
        repeat' first
          | (rw [wpE_one])
          | (rw [hw])
          | (refine And.intro (by first | decide | omega | (constructor <;> omega) | (simp only [z32, sonS, ByteArray.size_append]; omega) | (simp only [z32, z00, ByteArray.size_append]; omega) | fail) ?_; (conv => whnf))
          | fail
        refine fin_e ?_
        conv => whnf
        exact ⟨by simp [packA, consL, nf], .no (fun h => h.2 c2) _⟩
      · rw [colsV_yes c2]
        have hl := colL_len (sg := true) hm c2
        rintro _ - rfl
        conv => whnf
        repeat' first
          | (rw [wpE_one])
          | (rw [hw])
          | (refine And.intro (by first | decide | omega | (constructor <;> omega) | (simp only [z32, sonS, ByteArray.size_append]; omega) | (simp only [z32, z00, ByteArray.size_append]; omega) | fail) ?_; (conv => whnf))
          | fail
        refine fin_e ?_
        conv => whnf
        exact ⟨by simp [packA, consL, nf], .ok ⟨by omega, c2⟩⟩

end Go.Proofs.YtoglphkkhhjodaaDoor
namespace Go.Proofs.YtoglphkkhhjodaaDoor
open Go Ar
set_option linter.unusedVariables false
set_option autoImplicit false
set_option maxHeartbeats 4000000
set_option maxRecDepth 100000

/-- The movements of the days from one to another. -/
def wiL (fr to : Int) (ms : List Mov) : List Mov := ms.filter fun m => decide (fr ≤ m.day ∧ m.day ≤ to)
theorem wiL_yes {fr to : Int} {ms : List Mov} {k : Nat} (h : k < ms.length) (c : fr ≤ (at_ ms k).day ∧ (at_ ms k).day ≤ to) : wiL fr to (ms.take (k + 1)) = wiL fr to (ms.take k) ++ [at_ ms k] := by
  unfold wiL
  rw [take_at h, List.filter_append]
  simp [c]
theorem wiL_no {fr to : Int} {ms : List Mov} {k : Nat} (h : k < ms.length) (c : ¬ (fr ≤ (at_ ms k).day ∧ (at_ ms k).day ≤ to)) : wiL fr to (ms.take (k + 1)) = wiL fr to (ms.take k) := by
  unfold wiL
  rw [take_at h, List.filter_append]
  simp [c]
theorem wiL_len (fr to : Int) (ms : List Mov) : (wiL fr to ms).length ≤ ms.length := List.length_filter_le _ _

theorem within_x (ms : List Mov) (fr to : Int) (hn : ms.length ≤ 100000) : PureX Tryd.prog gl0 statement_Within [encL encMov 14 ms, I fr, I to] (fun r => r = encL encMov 14 (wiL fr to ms)) := by
  refine pure_fnX mixed fn_statement_Within nt_statement_Within hc_statement_Within (by simp) gl0n (by simp [nf]) ?_
  conv => whnf
  have hl : (ms.length : Int) < 9223372036854775808 := by omega
  refine loop_at mixed (fun (k : Nat) => ([(12, I k), (11, I ms.length), (10, encL encMov 14 ms), (7, encT (some 0) encMov 14 (wiL fr to (ms.take k))), (1, I fr), (2, I to)], [(0, .room (wiL fr to (ms.take k)).length 14 29)], 1)) (fun k => k ≤ ms.length) (fun k => ms.length - k) 0 (Nat.zero_le _) ((le_nil 7 14 29 (fun i => encMov (at_ (wiL fr to (ms.take 0)) i)) rfl).trans (le_st (le_r rfl) (leE_i rfl rfl (leE_i rfl rfl (leE_eq rfl (bnd_nf _ (nfL_Mov _ _)) (leE_eq rfl (bnd_encT nf_encMov (lt_r rfl)) (leE_i rfl rfl (leE_i rfl rfl trivial)))))) (leO_room (lt_r rfl) rfl trivial) gl0n)) ?_
  intro k hk
  conv => whnf
  by_cases c : k < ms.length
  · refine br_true (decide_eq_true ((by omega : (k : Int) < ms.length))) ?_
    conv => whnf
    refine ⟨by omega, ?_⟩
    conv => whnf
    have hlen := wiL_len fr to (ms.take k)
    rw [List.length_take] at hlen
    by_cases c1 : fr ≤ (at_ ms k).day ∧ (at_ ms k).day ≤ to
    · refine br_true (decide_eq_true (c1.1)) ?_
      conv => whnf
      refine br_true (decide_eq_true (c1.2)) ?_
      conv => whnf
      repeat' first
        | (rw [wpE_one])
        | (refine And.intro (by first | rfl | omega | (constructor <;> omega) | (show (_ + 1) * 112 ≤ 140737488355328; omega) | fail) ?_; (conv => whnf))
        | fail
      refine ⟨k + 1, c, (by show ms.length - (k + 1) < ms.length - k; omega), ?_⟩
      dsimp only
      rw [wiL_yes c c1]
      exact (le_st (le_r rfl) (leE_i rfl (inc_id c hl) (leE_i rfl rfl (leE_eq rfl (bnd_nf _ (nfL_Mov _ _)) (leE_le rfl (leA_snoc (enc := encMov) (by exact LeA.refl _)).le (bnd_encT nf_encMov (lt_r rfl)) (leE_i rfl rfl (leE_i rfl rfl trivial)))))) (leO_room (lt_r rfl) (by (simp; rfl)) trivial) gl0n)
    · by_cases c2 : fr ≤ (at_ ms k).day
      · refine br_true (decide_eq_true (c2)) ?_
        conv => whnf
        refine br_false (decide_eq_false ((fun h => c1 ⟨c2, h⟩))) ?_
        conv => whnf
        refine ⟨k + 1, c, (by show ms.length - (k + 1) < ms.length - k; omega), ?_⟩
        dsimp only
        rw [wiL_no c c1]
        exact (le_st (le_r rfl) (leE_i rfl (inc_id c hl) (leE_i rfl rfl (leE_eq rfl (bnd_nf _ (nfL_Mov _ _)) (leE_eq rfl (bnd_encT nf_encMov (lt_r rfl)) (leE_i rfl rfl (leE_i rfl rfl trivial)))))) (leO_room (lt_r rfl) rfl trivial) gl0n)
      · refine br_false (decide_eq_false (c2)) ?_
        conv => whnf
        refine ⟨k + 1, c, (by show ms.length - (k + 1) < ms.length - k; omega), ?_⟩
        dsimp only
        rw [wiL_no c c1]
        exact (le_st (le_r rfl) (leE_i rfl (inc_id c hl) (leE_i rfl rfl (leE_eq rfl (bnd_nf _ (nfL_Mov _ _)) (leE_eq rfl (bnd_encT nf_encMov (lt_r rfl)) (leE_i rfl rfl (leE_i rfl rfl trivial)))))) (leO_room (lt_r rfl) rfl trivial) gl0n)
  · refine br_false (decide_eq_false ((by omega : ¬ ((k : Int) < ms.length)))) ?_
    conv => whnf
    obtain rfl : k = ms.length := by omega
    rw [List.take_length]
    refine fin_r (encL encMov 14 (wiL fr to ms)) (nfL_Mov _ _) rfl ?_
    conv => whnf
    exact leA_drop.le

theorem r22_within_x (ms : List Mov) (fr to : Int) (hn : ms.length ≤ 100000) : PureX Tryd.prog gl0 r22_Within [encL encMov 14 ms, I fr, I to] (fun r => r = encL encMov 14 (wiL fr to ms)) := by
  refine pure_fnX mixed fn_r22_Within nt_r22_Within hc_r22_Within (by simp) gl0n (by simp [nf]) ?_
  conv => whnf
  have hl : (ms.length : Int) < 9223372036854775808 := by omega
  refine loop_at mixed (fun (k : Nat) => ([(8, I k), (0, encL encMov 14 ms), (7, encT (some 0) encMov 14 (wiL fr to (ms.take k))), (1, I fr), (2, I to)], [(0, .room (wiL fr to (ms.take k)).length 14 29)], 1)) (fun k => k ≤ ms.length) (fun k => ms.length - k) 0 (Nat.zero_le _) ((le_nil 7 14 29 (fun i => encMov (at_ (wiL fr to (ms.take 0)) i)) rfl).trans (le_st (le_r rfl) (leE_i rfl rfl (leE_eq rfl (bnd_nf _ (nfL_Mov _ _)) (leE_eq rfl (bnd_encT nf_encMov (lt_r rfl)) (leE_i rfl rfl (leE_i rfl rfl trivial))))) (leO_room (lt_r rfl) rfl trivial) gl0n)) ?_
  intro k hk
  conv => whnf
  by_cases c : k < ms.length
  · refine br_true (decide_eq_true ((by omega : (k : Int) < ms.length))) ?_
    conv => whnf
    refine ⟨by omega, ?_⟩
    conv => whnf
    have hlen := wiL_len fr to (ms.take k)
    rw [List.length_take] at hlen
    by_cases c1 : fr ≤ (at_ ms k).day ∧ (at_ ms k).day ≤ to
    · refine br_true (decide_eq_true (c1.1)) ?_
      conv => whnf
      refine ⟨by omega, ?_⟩
      conv => whnf
      refine br_true (decide_eq_true (c1.2)) ?_
      conv => whnf
      repeat' first
        | (rw [wpE_one])
        | (refine And.intro (by first | rfl | omega | (constructor <;> omega) | (show (_ + 1) * 112 ≤ 140737488355328; omega) | fail) ?_; (conv => whnf))
        | fail
      refine ⟨k + 1, c, (by show ms.length - (k + 1) < ms.length - k; omega), ?_⟩
      dsimp only
      rw [wiL_yes c c1]
      exact (le_st (le_r rfl) (leE_i rfl (inc_id c hl) (leE_eq rfl (bnd_nf _ (nfL_Mov _ _)) (leE_le rfl (leA_snoc (enc := encMov) (by exact LeA.refl _)).le (bnd_encT nf_encMov (lt_r rfl)) (leE_i rfl rfl (leE_i rfl rfl trivial))))) (leO_room (lt_r rfl) (by (simp; rfl)) trivial) gl0n)
    · by_cases c2 : fr ≤ (at_ ms k).day
      · refine br_true (decide_eq_true (c2)) ?_
        conv => whnf
        refine ⟨by omega, ?_⟩
        conv => whnf
        refine br_false (decide_eq_false ((fun h => c1 ⟨c2, h⟩))) ?_
        conv => whnf
        refine ⟨k + 1, c, (by show ms.length - (k + 1) < ms.length - k; omega), ?_⟩
        dsimp only
        rw [wiL_no c c1]
        exact (le_st (le_r rfl) (leE_i rfl (inc_id c hl) (leE_eq rfl (bnd_nf _ (nfL_Mov _ _)) (leE_eq rfl (bnd_encT nf_encMov (lt_r rfl)) (leE_i rfl rfl (leE_i rfl rfl trivial))))) (leO_room (lt_r rfl) rfl trivial) gl0n)
      · refine br_false (decide_eq_false (c2)) ?_
        conv => whnf
        refine ⟨k + 1, c, (by show ms.length - (k + 1) < ms.length - k; omega), ?_⟩
        dsimp only
        rw [wiL_no c c1]
        exact (le_st (le_r rfl) (leE_i rfl (inc_id c hl) (leE_eq rfl (bnd_nf _ (nfL_Mov _ _)) (leE_eq rfl (bnd_encT nf_encMov (lt_r rfl)) (leE_i rfl rfl (leE_i rfl rfl trivial))))) (leO_room (lt_r rfl) rfl trivial) gl0n)
  · refine br_false (decide_eq_false ((by omega : ¬ ((k : Int) < ms.length)))) ?_
    conv => whnf
    obtain rfl : k = ms.length := by omega
    rw [List.take_length]
    refine fin_r (encL encMov 14 (wiL fr to ms)) (nfL_Mov _ _) rfl ?_
    conv => whnf
    exact leA_drop.le

end Go.Proofs.YtoglphkkhhjodaaDoor
namespace Go.Proofs.YtoglphkkhhjodaaDoor
open Go Ar
set_option linter.unusedVariables false
set_option autoImplicit false
set_option maxHeartbeats 4000000
set_option maxRecDepth 100000

def encS (s : ByteArray) : AV := .val (.string s)
theorem nf_encS (s : ByteArray) : nf (encS s) := trivial
theorem nfL_S (e : Nat) (xs : List ByteArray) : nf (encL encS e xs) := nf_encL nf_encS
attribute [simp] nf_encS nfL_S
abbrev sFROM : ByteArray := ⟨#[70, 82, 79, 77, 32]⟩
abbrev sTO : ByteArray := ⟨#[32, 84, 79, 32]⟩
abbrev sOPEN : ByteArray := ⟨#[79, 80, 69, 78, 73, 78, 71]⟩
abbrev sCLOSE : ByteArray := ⟨#[67, 76, 79, 83, 73, 78, 71]⟩
/-- The lines of an account. -/
noncomputable def headL (fr to : Int) (ms : List Mov) : List ByteArray := [sFROM ++ dateT fr ++ sTO ++ dateT to, sOPEN ++ strOfNums (colL false (sD (fr - 1) ms))]
noncomputable def lastT (to : Int) (ms : List Mov) : ByteArray := sCLOSE ++ strOfNums (colL false (sD to ms))
noncomputable def linL (fr to : Int) (ms : List Mov) : List ByteArray := headL fr to ms ++ (wiL fr to ms).map rowT ++ [lastT to ms]
structure okL (fr to : Int) (ms : List Mov) : Prop where
  f : vDay fr
  t : vDay to
  le : fr ≤ to
  o : okT (fr - 1) ms
  c : okT to ms
  r : ∀ i, i < (wiL fr to ms).length → okR (at_ (wiL fr to ms) i)
abbrev nilA : AV := .val (.slice none 0 0)
inductive LinV (fr to : Int) (ms : List Mov) : AV → Prop
  | ok (h : okL fr to ms) : LinV fr to ms (tup2 (encL encS 1 (linL fr to ms)) (B true))
  | no (h : ¬ okL fr to ms) : LinV fr to ms (tup2 nilA (B false))

theorem zFR : sFROM.size = 5 := rfl
theorem zTO : sTO.size = 4 := rfl

theorem lst_two {tok : Option Nat} {g : Nat → AV} {x y : ByteArray} (h0 : g 0 = encS x) (h1 : g 1 = encS y) : LeA (.lst tok 2 1 g) (encT tok encS 1 [x, y]) :=
  LeA.lst (.inl rfl) fun i hi => by
    match i, hi with
    | 0, _ => exact LeA.of_eq h0
    | 1, _ => exact LeA.of_eq h1

theorem lines_x (ms : List Mov) (fr to : Int) (hf : in64 fr) (hm : okM ms) (hn : ms.length ≤ 10000) : PureX Tryd.prog gl0 statement_Lines [encL encMov 14 ms, I fr, I to] (LinV fr to ms) := by
  refine pure_fnX mixed fn_statement_Lines nt_statement_Lines hc_statement_Lines (by simp) gl0n (by simp [nf]) ?_
  conv => whnf
  have d1 := dateT_size fr
  have d2 := dateT_size to
  by_cases c1 : vDay fr
  · by_cases c2 : vDay to
    · by_cases c3 : fr ≤ to
      · skip
        refine call_x2 (calFd_x fr) (LeL.refl _) ?_
        rintro _ - h1
        rw [h1.is, decide_eq_true c1]
        conv => whnf
        refine call_x2 (calFd_x to) (LeL.refl _) ?_
        rintro _ - h2
        rw [h2.is, decide_eq_true c2]
        conv => whnf
        refine br_false (decide_eq_false ((by omega : ¬ (to < fr)))) ?_
        conv => whnf
        rw [wrap_id (n := fr - 1) (by unfold in64; omega)]
        refine call_x2 (total_x sOPEN ms (fr - 1) (by decide) hm (by omega)) (LeL.refl _) ?_
        rintro _ - (ho | ⟨ho, s⟩)
        · conv => whnf
          repeat' first
            | (rw [wpE_one])
            | (refine And.intro (by first | decide | omega | (simp only [zFR, zTO, ByteArray.size_append]; omega) | fail) ?_; (conv => whnf))
            | fail
          refine call_x2 (within_x ms fr to (by omega)) (LeL.refl _) ?_
          rintro _ - rfl
          have hW := wiL_len fr to ms
          have hmW : okM (wiL fr to ms) := fun m hx => hm m (List.mem_filter.1 hx).1
          have hr : (∀ i, i < (wiL fr to ms).length → okR (at_ (wiL fr to ms) i)) → okT to ms → okL fr to ms := fun h h' => ⟨c1, c2, c3, ho, h', h⟩
          have hno : okL fr to ms → ∀ i, i < (wiL fr to ms).length → okR (at_ (wiL fr to ms) i) := fun h => h.r
          have hlin : linL fr to ms = headL fr to ms ++ (wiL fr to ms).map rowT ++ [lastT to ms] := rfl
          generalize wiL fr to ms = X at hW hmW hr hno hlin ⊢
          have hX : (X.length : Int) < 9223372036854775808 := by omega
          conv => whnf
          refine loop_at mixed (fun (k : Nat) => ([(61, I k), (60, I X.length), (59, encL encMov 14 X), (13, encT (some 0) encS 1 (headL fr to ms ++ (X.take k).map rowT)), (0, encL encMov 14 ms), (2, I to)], [(0, .room (headL fr to ms ++ (X.take k).map rowT).length 1 9)], 1)) (fun k => k ≤ X.length ∧ ∀ i, i < k → okR (at_ X i)) (fun k => X.length - k) 0 ⟨Nat.zero_le _, fun i hi => absurd hi (Nat.not_lt_zero i)⟩ (le_st (le_r rfl) (leE_i rfl rfl (leE_i rfl rfl (leE_eq rfl (bnd_nf _ (nfL_Mov _ _)) (leE_le rfl ?_ (bnd_encT nf_encS (lt_r rfl)) (leE_eq rfl (bnd_nf _ (nfL_Mov _ _)) (leE_i rfl rfl trivial)))))) (leO_room (lt_r rfl) (by rfl) trivial) gl0n) ?_
          · exact (lst_two rfl rfl).le
          rintro k ⟨hk, hok⟩
          conv => whnf
          by_cases c : k < X.length
          · refine br_true (decide_eq_true ((by omega : (k : Int) < X.length))) ?_
            conv => whnf
            refine ⟨by omega, ?_⟩
            conv => whnf
            refine call_x2 (row_x (at_ X k) (fun a ha => hmW _ (at_mem c) a ha)) (LeL.refl _) ?_
            rintro _ - (hR | ⟨hR, s⟩)
            · conv => whnf
              have hlen : (headL fr to ms ++ (X.take k).map rowT).length = 2 + k := by
                rw [List.length_append, List.length_map, List.length_take, Nat.min_eq_left hk]; rfl
              repeat' first
                | (rw [wpE_one])
                | (refine And.intro (by first | rfl | (rw [hlen]; show (2 + k + 1) * 16 ≤ 140737488355328; omega) | fail) ?_; (conv => whnf))
                | fail
              refine ⟨k + 1, ⟨c, fun i hi => ?_⟩, (by show X.length - (k + 1) < X.length - k; omega), ?_⟩
              · by_cases e : i = k
                · rw [e]; exact hR
                · exact hok i (by omega)
              · dsimp only
                rw [take_at c, List.map_append, ← List.append_assoc]
                exact (le_st (le_r rfl) (leE_i rfl (inc_id c hX) (leE_i rfl rfl (leE_eq rfl (bnd_nf _ (nfL_Mov _ _)) (leE_le rfl (leA_snoc (enc := encS) (by exact LeA.refl _)).le (bnd_encT nf_encS (lt_r rfl)) (leE_eq rfl (bnd_nf _ (nfL_Mov _ _)) (leE_i rfl rfl trivial)))))) (leO_room (lt_r rfl) (by (simp; rfl)) trivial) gl0n)
            · conv => whnf
              refine fin_e ?_
              conv => whnf
              exact ⟨by simp [packA, consL, nf], .no (fun h => hR (hno h k c))⟩
          · refine br_false (decide_eq_false ((by omega : ¬ ((k : Int) < X.length)))) ?_
            conv => whnf
            obtain rfl : k = X.length := by omega
            rw [List.take_length]
            refine call_x2 (total_x sCLOSE ms to (by decide) hm (by omega)) (LeL.refl _) ?_
            rintro _ - (hc | ⟨hc, s⟩)
            · conv => whnf
              have hlen : (headL fr to ms ++ X.map rowT).length = 2 + X.length := by
                rw [List.length_append, List.length_map]; rfl
              repeat' first
                | (rw [wpE_one])
                | (refine And.intro (by first | rfl | (rw [hlen]; show (2 + X.length + 1) * 16 ≤ 140737488355328; omega) | fail) ?_; (conv => whnf))
                | fail
              refine fin_r (tup2 (encL encS 1 (linL fr to ms)) (B true)) ⟨nfL_S _ _, trivial, trivial⟩ (.ok (hr hok hc)) ?_
              conv => whnf
              rw [hlin]
              exact (LeA.tup (LeA.cons ((leA_snoc (enc := encS) (x := lastT to ms) (LeA.of_eq rfl)).trans leA_drop) (LeA.refl _))).le
            · conv => whnf
              refine fin_e ?_
              conv => whnf
              exact ⟨by simp [packA, consL, nf], .no (fun h => hc h.c)⟩
        · conv => whnf
          refine fin_e ?_
          conv => whnf
          exact ⟨by simp [packA, consL, nf], .no (fun h => ho h.o)⟩
      · skip
        refine call_x2 (calFd_x fr) (LeL.refl _) ?_
        rintro _ - h1
        rw [h1.is, decide_eq_true c1]
        conv => whnf
        refine call_x2 (calFd_x to) (LeL.refl _) ?_
        rintro _ - h2
        rw [h2.is, decide_eq_true c2]
        conv => whnf
        refine br_true (decide_eq_true ((by omega : (to < fr)))) ?_
        conv => whnf
        refine fin_e ?_
        conv => whnf
        exact ⟨by simp [packA, consL, nf], .no (fun h => c3 h.le)⟩
    · skip
      refine call_x2 (calFd_x fr) (LeL.refl _) ?_
      rintro _ - h1
      rw [h1.is, decide_eq_true c1]
      conv => whnf
      refine call_x2 (calFd_x to) (LeL.refl _) ?_
      rintro _ - h2
      rw [h2.is, decide_eq_false c2]
      conv => whnf
      refine fin_e ?_
      conv => whnf
      exact ⟨by simp [packA, consL, nf], .no (fun h => c2 h.t)⟩
  · by_cases c2 : vDay to
    · skip
      refine call_x2 (calFd_x fr) (LeL.refl _) ?_
      rintro _ - h1
      rw [h1.is, decide_eq_false c1]
      conv => whnf
      refine call_x2 (calFd_x to) (LeL.refl _) ?_
      rintro _ - h2
      rw [h2.is, decide_eq_true c2]
      conv => whnf
      refine fin_e ?_
      conv => whnf
      exact ⟨by simp [packA, consL, nf], .no (fun h => c1 h.f)⟩
    · skip
      refine call_x2 (calFd_x fr) (LeL.refl _) ?_
      rintro _ - h1
      rw [h1.is, decide_eq_false c1]
      conv => whnf
      refine call_x2 (calFd_x to) (LeL.refl _) ?_
      rintro _ - h2
      rw [h2.is, decide_eq_false c2]
      conv => whnf
      refine fin_e ?_
      conv => whnf
      exact ⟨by simp [packA, consL, nf], .no (fun h => c1 h.f)⟩

end Go.Proofs.YtoglphkkhhjodaaDoor
namespace Go.Proofs.YtoglphkkhhjodaaDoor
open Go Ar
set_option linter.unusedVariables false
set_option autoImplicit false
set_option maxHeartbeats 4000000
set_option maxRecDepth 100000

theorem wrd_eq (k : Int) : ((wrd k).toList == (⟨#[]⟩ : ByteArray).toList) = !decide (1 ≤ k ∧ k ≤ 8) := by
  rw [ByteArray.toList_eq, ByteArray.toList_eq]
  unfold wrd
  by_cases c : 1 ≤ k ∧ k ≤ 8
  · rw [if_pos c, decide_eq_true c]
    rcases (show k = 1 ∨ k = 2 ∨ k = 3 ∨ k = 4 ∨ k = 5 ∨ k = 6 ∨ k = 7 ∨ k = 8 by omega) with rfl | rfl | rfl | rfl | rfl | rfl | rfl | rfl <;> rfl
  · rw [if_neg c, decide_eq_false c]; rfl

theorem r22_lines_x (ms : List Mov) (fr to : Int) (hf : in64 fr) (hm : okM ms) (hn : ms.length ≤ 10000) : PureX Tryd.prog gl0 r22_Lines [encL encMov 14 ms, I fr, I to] (LinV fr to ms) := by
  refine pure_fnX mixed fn_r22_Lines nt_r22_Lines hc_r22_Lines (by simp) gl0n (by simp [nf]) ?_
  conv => whnf
  have d1 := dateT_size fr
  have d2 := dateT_size to
  by_cases c1 : vDay fr
  · by_cases c2 : vDay to
    · by_cases c3 : fr ≤ to
      · skip
        refine call_x2 (r2Fd_x fr) (LeL.refl _) ?_
        rintro _ - h1
        rw [h1.is, decide_eq_true c1]
        conv => whnf
        refine call_x2 (r2Fd_x to) (LeL.refl _) ?_
        rintro _ - h2
        rw [h2.is, decide_eq_true c2]
        conv => whnf
        refine br_false (decide_eq_false ((by omega : ¬ (to < fr)))) ?_
        conv => whnf
        rw [wrap_id (n := fr - 1) (by unfold in64; omega)]
        refine call_x2 (stand_x sOPEN ms (fr - 1) (by decide) hm (by omega)) (LeL.refl _) ?_
        rintro _ - (ho | ⟨ho, s⟩)
        · conv => whnf
          refine call_x2 (stand_x sCLOSE ms to (by decide) hm (by omega)) (LeL.refl _) ?_
          rintro _ - (hc | ⟨hc, s⟩)
          · conv => whnf
            repeat' first
              | (rw [wpE_one])
              | (refine And.intro (by first | decide | rfl | omega | (simp only [zFR, zTO, ByteArray.size_append]; omega) | (simp only [List.length_cons, List.length_nil]; omega) | fail) ?_; (conv => whnf))
              | fail
            refine call_x2 (r22_within_x ms fr to (by omega)) (LeL.refl _) ?_
            rintro _ - rfl
            have hW := wiL_len fr to ms
            have hmW : okM (wiL fr to ms) := fun m hx => hm m (List.mem_filter.1 hx).1
            have hr : (∀ i, i < (wiL fr to ms).length → okR (at_ (wiL fr to ms) i)) → okL fr to ms := fun h => ⟨c1, c2, c3, ho, hc, h⟩
            have hno : okL fr to ms → ∀ i, i < (wiL fr to ms).length → okR (at_ (wiL fr to ms) i) := fun h => h.r
            have hlin : linL fr to ms = headL fr to ms ++ (wiL fr to ms).map rowT ++ [lastT to ms] := rfl
            generalize wiL fr to ms = X at hW hmW hr hno hlin ⊢
            have hX : (X.length : Int) < 9223372036854775808 := by omega
            conv => whnf
            refine loop_at mixed (fun (k : Nat) => ([(18, I k), (17, encL encMov 14 X), (16, encT (some 1) encS 1 (headL fr to ms ++ (X.take k).map rowT)), (14, T (lastT to ms))], [(1, .room (headL fr to ms ++ (X.take k).map rowT).length 1 9)], 2)) (fun k => k ≤ X.length ∧ ∀ i, i < k → okR (at_ X i)) (fun k => X.length - k) 0 ⟨Nat.zero_le _, fun i hi => absurd hi (Nat.not_lt_zero i)⟩ (le_st (le_r rfl) (leE_i rfl rfl (leE_eq rfl (bnd_nf _ (nfL_Mov _ _)) (leE_le rfl ?_ (bnd_encT nf_encS (lt_r rfl)) (leE_eq rfl (bnd_nf _ (trivial)) trivial)))) (leO_room (lt_r rfl) (by rfl) trivial) gl0n) ?_
            · exact (lst_two rfl rfl).le
            rintro k ⟨hk, hok⟩
            conv => whnf
            by_cases c : k < X.length
            · refine br_true (decide_eq_true ((by omega : (k : Int) < X.length))) ?_
              conv => whnf
              refine ⟨by omega, ?_⟩
              conv => whnf
              refine call_x2 (r2Fd_x (at_ X k).day) (LeL.refl _) ?_
              rintro _ - hfd
              rw [hfd.is]
              have s1 := dateT_size (at_ X k).day
              have s2 := wrd_size (at_ X k).kind
              conv => whnf
              refine ⟨by omega, ?_⟩
              conv => whnf
              refine call_x2 (r22_cols_x (at_ X k).net true (fun a ha => hmW _ (at_mem c) a ha)) (LeL.refl _) ?_
              by_cases c4 : (at_ X k).net 4 = -9223372036854775808
              · rw [colsV_no c4]
                rintro _ - rfl
                conv => whnf
                refine fin_e ?_
                conv => whnf
                exact ⟨by simp [packA, consL, nf], .no (fun h => (hno h k c).2 c4)⟩
              · rw [colsV_yes c4]
                have hl := colL_len (sg := true) (hmW _ (at_mem c)) c4
                rintro _ - rfl
                conv => whnf
                repeat' first
                  | (rw [wpE_one])
                  | (refine And.intro (by first | decide | rfl | omega | (constructor <;> omega) | fail) ?_; (conv => whnf))
                  | fail
                refine call_x2 (word_x (at_ X k).kind) (LeL.refl _) ?_
                rintro _ - rfl
                conv => whnf
                rw [wrd_eq]
                by_cases c5 : 1 ≤ (at_ X k).kind ∧ (at_ X k).kind ≤ 8
                · refine br_false (by rw [decide_eq_true c5]; rfl) ?_
                  conv => whnf
                  have hlen : (headL fr to ms ++ (X.take k).map rowT).length = 2 + k := by
                    rw [List.length_append, List.length_map, List.length_take, Nat.min_eq_left hk]; rfl
                  repeat' first
                    | (rw [wpE_one])
                    | (refine And.intro (by first | decide | rfl | (rw [hlen]; show (2 + k + 1) * 16 ≤ 140737488355328; omega) | omega | (constructor <;> omega) | (simp only [z32, sonS, ByteArray.size_append]; omega) | fail) ?_; (conv => whnf))
                    | (refine call_x2 (word_x (at_ X k).kind) (LeL.refl _) ?_; rintro _ - rfl; (conv => whnf))
                    | fail
                  refine ⟨k + 1, ⟨c, fun i hi => ?_⟩, (by show X.length - (k + 1) < X.length - k; omega), ?_⟩
                  · by_cases e : i = k
                    · rw [e]; exact ⟨c5, c4⟩
                    · exact hok i (by omega)
                  · dsimp only
                    rw [take_at c, List.map_append, ← List.append_assoc]
                    exact (le_st (le_r rfl) (leE_i rfl (inc_id c hX) (leE_eq rfl (bnd_nf _ (nfL_Mov _ _)) (leE_le rfl (leA_snoc (enc := encS) (by exact LeA.refl _)).le (bnd_encT nf_encS (lt_r rfl)) (leE_eq rfl (bnd_nf _ (trivial)) trivial)))) (leO_room (lt_r rfl) (by (simp; rfl)) trivial) gl0n)
                · refine br_true (by rw [decide_eq_false c5]; rfl) ?_
                  conv => whnf
                  refine fin_e ?_
                  conv => whnf
                  exact ⟨by simp [packA, consL, nf], .no (fun h => c5 (hno h k c).1)⟩
            · refine br_false (decide_eq_false ((by omega : ¬ ((k : Int) < X.length)))) ?_
              conv => whnf
              obtain rfl : k = X.length := by omega
              rw [List.take_length]
              have hlen : (headL fr to ms ++ X.map rowT).length = 2 + X.length := by
                rw [List.length_append, List.length_map]; rfl
              repeat' first
                | (rw [wpE_one])
                | (refine And.intro (by first | rfl | (rw [hlen]; show (2 + X.length + 1) * 16 ≤ 140737488355328; omega) | fail) ?_; (conv => whnf))
                | fail
              refine fin_r (tup2 (encL encS 1 (linL fr to ms)) (B true)) ⟨nfL_S _ _, trivial, trivial⟩ (.ok (hr hok)) ?_
              conv => whnf
              rw [hlin]
              exact (LeA.tup (LeA.cons ((leA_snoc (enc := encS) (x := lastT to ms) (LeA.of_eq rfl)).trans leA_drop) (LeA.refl _))).le
          · conv => whnf
            refine fin_e ?_
            conv => whnf
            exact ⟨by simp [packA, consL, nf], .no (fun h => hc h.c)⟩
        · conv => whnf
          refine call_x2 (stand_x sCLOSE ms to (by decide) hm (by omega)) (LeL.refl _) ?_
          rintro _ - (hc | ⟨hc, s⟩)
          · conv => whnf
            refine fin_e ?_
            conv => whnf
            exact ⟨by simp [packA, consL, nf], .no (fun h => ho h.o)⟩
          · conv => whnf
            refine fin_e ?_
            conv => whnf
            exact ⟨by simp [packA, consL, nf], .no (fun h => ho h.o)⟩
      · skip
        refine call_x2 (r2Fd_x fr) (LeL.refl _) ?_
        rintro _ - h1
        rw [h1.is, decide_eq_true c1]
        conv => whnf
        refine call_x2 (r2Fd_x to) (LeL.refl _) ?_
        rintro _ - h2
        rw [h2.is, decide_eq_true c2]
        conv => whnf
        refine br_true (decide_eq_true ((by omega : (to < fr)))) ?_
        conv => whnf
        refine fin_e ?_
        conv => whnf
        exact ⟨by simp [packA, consL, nf], .no (fun h => c3 h.le)⟩
    · skip
      refine call_x2 (r2Fd_x fr) (LeL.refl _) ?_
      rintro _ - h1
      rw [h1.is, decide_eq_true c1]
      conv => whnf
      refine call_x2 (r2Fd_x to) (LeL.refl _) ?_
      rintro _ - h2
      rw [h2.is, decide_eq_false c2]
      conv => whnf
      refine fin_e ?_
      conv => whnf
      exact ⟨by simp [packA, consL, nf], .no (fun h => c2 h.t)⟩
  · by_cases c2 : vDay to
    · skip
      refine call_x2 (r2Fd_x fr) (LeL.refl _) ?_
      rintro _ - h1
      rw [h1.is, decide_eq_false c1]
      conv => whnf
      refine call_x2 (r2Fd_x to) (LeL.refl _) ?_
      rintro _ - h2
      rw [h2.is, decide_eq_true c2]
      conv => whnf
      refine fin_e ?_
      conv => whnf
      exact ⟨by simp [packA, consL, nf], .no (fun h => c1 h.f)⟩
    · skip
      refine call_x2 (r2Fd_x fr) (LeL.refl _) ?_
      rintro _ - h1
      rw [h1.is, decide_eq_false c1]
      conv => whnf
      refine call_x2 (r2Fd_x to) (LeL.refl _) ?_
      rintro _ - h2
      rw [h2.is, decide_eq_false c2]
      conv => whnf
      refine fin_e ?_
      conv => whnf
      exact ⟨by simp [packA, consL, nf], .no (fun h => c1 h.f)⟩

end Go.Proofs.YtoglphkkhhjodaaDoor
namespace Go.Proofs.YtoglphkkhhjodaaDoor
open Go Ar
set_option linter.unusedVariables false
set_option autoImplicit false
set_option maxHeartbeats 4000000
set_option maxRecDepth 100000

abbrev markM (ms : List Mov) : List Mov := ms ++ [⟨-7, -7, fun _ => 0⟩]
theorem markM_at {ms : List Mov} {i : Nat} (hi : i < ms.length) : at_ (markM ms) i = at_ ms i := at_append_left hi
theorem eqM (x : Mov) : eqSn true (eqS (.st (.cons .int (.cons .int (.cons (.st (.cons (.arr 12 1 .int) .nil)) .nil)))) (encMov x) (encMov x)) = false := by simp [eqSn, eqS, encMov, encBf]

theorem copied_x (ms : List Mov) (hn : ms.length ≤ 10000) : PureX Tryd.prog gl0 l22_copied [encL encMov 14 ms] (fun r => r = encL encMov 14 (markM ms)) := by
  refine pure_fnX mixed fn_l22_copied nt_l22_copied hc_l22_copied (by simp) gl0n (by simp [nf]) ?_
  conv => whnf
  have hl : (ms.length : Int) < 9223372036854775808 := by omega
  refine loop_at mixed (fun (k : Nat) => ([(4, I k), (0, encL encMov 14 ms), (3, encT (some 0) encMov 14 (ms.take k))], [(0, .room (ms.take k).length 14 29)], 1)) (fun k => k ≤ ms.length) (fun k => ms.length - k) 0 (Nat.zero_le _) ((le_nil 3 14 29 (fun i => encMov (at_ (ms.take 0) i)) rfl).trans (le_st (le_r rfl) (leE_i rfl rfl (leE_eq rfl (bnd_nf _ (nfL_Mov _ _)) (leE_eq rfl (bnd_encT nf_encMov (lt_r rfl)) trivial))) (leO_room (lt_r rfl) rfl trivial) gl0n)) ?_
  intro k hk
  conv => whnf
  have hlen : (ms.take k).length = k := by rw [List.length_take]; omega
  by_cases c : k < ms.length
  · refine br_true (decide_eq_true ((by omega : (k : Int) < ms.length))) ?_
    conv => whnf
    repeat' first
      | (rw [wpE_one])
      | (refine And.intro (by first | rfl | omega | (constructor <;> omega) | (rw [hlen]; show (_ + 1) * 112 ≤ 140737488355328; omega) | fail) ?_; (conv => whnf))
      | fail
    refine ⟨k + 1, c, (by show ms.length - (k + 1) < ms.length - k; omega), ?_⟩
    dsimp only
    rw [take_at c]
    exact (le_st (le_r rfl) (leE_i rfl (inc_id c hl) (leE_eq rfl (bnd_nf _ (nfL_Mov _ _)) (leE_le rfl (leA_snoc (enc := encMov) (by exact LeA.refl _)).le (bnd_encT nf_encMov (lt_r rfl)) trivial))) (leO_room (lt_r rfl) (by (simp; rfl)) trivial) gl0n)
  · refine br_false (decide_eq_false ((by omega : ¬ ((k : Int) < ms.length)))) ?_
    conv => whnf
    obtain rfl : k = ms.length := by omega
    rw [List.take_length]
    repeat' first
      | (rw [wpE_one])
      | (refine And.intro (by first | rfl | omega | (constructor <;> omega) | (show (_ + 1) * 112 ≤ 140737488355328; omega) | fail) ?_; (conv => whnf))
      | fail
    refine fin_r (encL encMov 14 (markM ms)) (nfL_Mov _ _) rfl ?_
    conv => whnf
    exact (leA_snoc (enc := encMov) (x := ⟨-7, -7, fun _ => 0⟩) (LeA.of_eq rfl)).le.trans leA_drop.le

theorem sameM_x (ys : List Mov) (hn : (ys.length : Int) < 9223372036854775808) : PureX Tryd.prog gl0 l22_sameMoves [encL encMov 14 ys, encL encMov 14 ys] (fun r => r = B true) := by
  refine pure_fnX mixed fn_l22_sameMoves nt_l22_sameMoves hc_l22_sameMoves (by simp) gl0n (by simp [nf]) ?_
  conv => whnf
  refine br_false (by simp) ?_
  conv => whnf
  refine loop_at mixed (fun (k : Nat) => ([(5, I k), (0, encL encMov 14 ys), (1, encL encMov 14 ys)], [], 0)) (fun k => k ≤ ys.length) (fun k => ys.length - k) 0 (Nat.zero_le _) (le_st (le_r rfl) (leE_i rfl rfl (leE_eq rfl (bnd_nf _ (nfL_Mov _ _)) (leE_eq rfl (bnd_nf _ (nfL_Mov _ _)) trivial))) trivial gl0n) ?_
  intro k hk
  conv => whnf
  by_cases c : k < ys.length
  · refine br_true (decide_eq_true ((by omega : (k : Int) < ys.length))) ?_
    conv => whnf
    repeat' first
      | (refine And.intro (by first | rfl | omega | (constructor <;> omega) | fail) ?_; (conv => whnf))
      | fail
    refine br_false (eqM (at_ ys k)) ?_
    conv => whnf
    exact ⟨k + 1, c, (by show ys.length - (k + 1) < ys.length - k; omega), (le_st (le_r rfl) (leE_i rfl (inc_id c hn) (leE_eq rfl (bnd_nf _ (nfL_Mov _ _)) (leE_eq rfl (bnd_nf _ (nfL_Mov _ _)) trivial))) trivial gl0n)⟩
  · refine br_false (decide_eq_false ((by omega : ¬ ((k : Int) < ys.length)))) ?_
    conv => whnf
    refine fin_e ?_
    conv => whnf
    exact ⟨trivial, rfl⟩

theorem sameL_x (ys : List ByteArray) (hn : (ys.length : Int) < 9223372036854775808) : PureX Tryd.prog gl0 l22_sameLines [encL encS 1 ys, encL encS 1 ys] (fun r => r = B true) := by
  refine pure_fnX mixed fn_l22_sameLines nt_l22_sameLines hc_l22_sameLines (by simp) gl0n (by simp [nf]) ?_
  conv => whnf
  refine br_false (by simp) ?_
  conv => whnf
  refine loop_at mixed (fun (k : Nat) => ([(5, I k), (0, encL encS 1 ys), (1, encL encS 1 ys)], [], 0)) (fun k => k ≤ ys.length) (fun k => ys.length - k) 0 (Nat.zero_le _) (le_st (le_r rfl) (leE_i rfl rfl (leE_eq rfl (bnd_nf _ (nfL_S _ _)) (leE_eq rfl (bnd_nf _ (nfL_S _ _)) trivial))) trivial gl0n) ?_
  intro k hk
  conv => whnf
  by_cases c : k < ys.length
  · refine br_true (decide_eq_true ((by omega : (k : Int) < ys.length))) ?_
    conv => whnf
    repeat' first
      | (refine And.intro (by first | rfl | omega | (constructor <;> omega) | fail) ?_; (conv => whnf))
      | fail
    refine br_false (by simp) ?_
    conv => whnf
    exact ⟨k + 1, c, (by show ys.length - (k + 1) < ys.length - k; omega), (le_st (le_r rfl) (leE_i rfl (inc_id c hn) (leE_eq rfl (bnd_nf _ (nfL_S _ _)) (leE_eq rfl (bnd_nf _ (nfL_S _ _)) trivial))) trivial gl0n)⟩
  · refine br_false (decide_eq_false ((by omega : ¬ ((k : Int) < ys.length)))) ?_
    conv => whnf
    refine fin_e ?_
    conv => whnf
    exact ⟨trivial, rfl⟩

end Go.Proofs.YtoglphkkhhjodaaDoor
namespace Go.Proofs.YtoglphkkhhjodaaDoor
open Go Ar
set_option linter.unusedVariables false
set_option autoImplicit false
set_option maxHeartbeats 4000000
set_option maxRecDepth 100000

theorem leA_mM {ms : List Mov} : LeA (.lst none ((ms.length : Int).toNat - 0) 14 (fun i => (fun i => encMov (at_ (markM ms) i)) (i + 0))) (encL encMov 14 ms) :=
  LeA.lst (n := ms.length) (.inl rfl) fun i hi => LeA.of_eq (congrArg encMov (markM_at hi))
theorem linL_len (fr to : Int) (ms : List Mov) : (linL fr to ms).length ≤ ms.length + 3 := by
  have := wiL_len fr to ms
  unfold linL headL
  simp only [List.length_append, List.length_map, List.length_cons, List.length_nil]
  omega

theorem law12_x (ms : List Mov) (fr to : Int) (hN : (ms.length : Int) < 9223372036854775808) (hm : okM ms) (hf : in64 fr) : PureX Tryd.prog gl0 l22_StatementLines [encL encMov 14 ms, I fr, I to] (fun r => r = B true) := by
  refine pure_fnX mixed fn_l22_StatementLines nt_l22_StatementLines hc_l22_StatementLines (by simp) gl0n (by simp [nf]) ?_
  conv => whnf
  by_cases c0 : 4000 < ms.length
  · refine br_true (decide_eq_true ((by omega : (4000 : Int) < ms.length))) ?_
    conv => whnf
    refine fin_e ?_
    conv => whnf
    exact ⟨trivial, rfl⟩
  · refine br_false (decide_eq_false ((by omega : ¬ ((4000 : Int) < ms.length)))) ?_
    conv => whnf
    refine call_x2 (copied_x ms (by omega)) (LeL.refl _) ?_
    rintro _ - rfl
    conv => whnf
    have hl : (markM ms).length = ms.length + 1 := by simp
    repeat' first
      | (rw [wpE_one])
      | (refine And.intro (by first | rfl | omega | (constructor <;> omega) | (rw [hl]; omega) | (rw [hl]; constructor <;> omega) | fail) ?_; (conv => whnf))
      | fail
    refine call_x2 (lines_x ms fr to hf hm (by omega)) ⟨leA_mM.le, Le.refl _, Le.refl _, trivial⟩ ?_
    have hlin := linL_len fr to ms
    rintro _ - (h | h)
    · conv => whnf
      refine call_x2 (r22_lines_x ms fr to hf hm (by omega)) (LeL.refl _) ?_
      rintro _ - (h' | h')
      · conv => whnf
        refine call_x2 (sameL_x (linL fr to ms) (by omega)) (LeL.refl _) ?_
        rintro _ - rfl
        conv => whnf
        refine call_x2 (copied_x ms (by omega)) (LeL.refl _) ?_
        rintro _ - rfl
        conv => whnf
        refine call_x2 (sameM_x (markM ms) (by rw [hl]; omega)) (LeL.refl _) ?_
        rintro _ - rfl
        conv => whnf
        refine fin_e ?_
        conv => whnf
        exact ⟨trivial, rfl⟩
      · exact absurd h h'
    · conv => whnf
      refine call_x2 (r22_lines_x ms fr to hf hm (by omega)) (LeL.refl _) ?_
      rintro _ - (h' | h')
      · exact absurd h' h
      conv => whnf
      refine call_x2 (sameL_x [] (by decide)) ⟨leA_nilL.le, leA_nilL.le, trivial⟩ ?_
      rintro _ - rfl
      conv => whnf
      refine call_x2 (copied_x ms (by omega)) (LeL.refl _) ?_
      rintro _ - rfl
      conv => whnf
      refine call_x2 (sameM_x (markM ms) (by rw [hl]; omega)) (LeL.refl _) ?_
      rintro _ - rfl
      conv => whnf
      refine fin_e ?_
      conv => whnf
      exact ⟨trivial, rfl⟩

end Go.Proofs.YtoglphkkhhjodaaDoor
