/- The program's lists as rows of the caller's own. No condition. -/
import Derived.Test.YtoglphkkhhjodaaDoorC2
import Derived.Test.YtoglphkkhhjodaaDoorA10
set_option linter.all false
namespace Go.Proofs.YtoglphkkhhjodaaDoor
open Go Ar
set_option linter.unusedVariables false
set_option autoImplicit false
set_option maxHeartbeats 4000000
set_option maxRecDepth 100000

theorem fl_Mov (x : Mov) : fl (encMov x) := ⟨trivial, trivial, ⟨fun _ => trivial, trivial⟩, trivial⟩
theorem fl_S (x : ByteArray) : fl (encS x) := trivial

theorem within_o (ms : List Mov) (fr to : Int) (hn : ms.length ≤ 100000) : PureIX Tryd.prog gl0 statement_Within [encL encMov 14 ms, I fr, I to] [] 0 (fun r o1 n1 => r = .sli 0 0 (wiL fr to ms).length 14 29 ∧ o1 = [(0, .box (.arr (wiL fr to ms).length 14 (fun i => encMov (at_ (wiL fr to ms) i))))] ∧ n1 = 1) := by
  refine pureO1_fn mixed 0 _ _ _ _ fn_statement_Within nt_statement_Within hc_statement_Within (by simp) gl0n rfl (fun i => fl_Mov _) (fun i => nf_encMov _) ?_
  conv => whnf
  have hl : (ms.length : Int) < 9223372036854775808 := by omega
  refine loop_at mixed (fun (k : Nat) => ([(12, I k), (11, I ms.length), (10, encL encMov 14 ms), (7, encT (some 0) encMov 14 (wiL fr to (ms.take k))), (1, I fr), (2, I to)], [(0, .room (wiL fr to (ms.take k)).length 14 29)], 1)) (fun k => k ≤ ms.length) (fun k => ms.length - k) 0 (Nat.zero_le _) ((le_nil 7 14 29 (fun i => encMov (at_ (wiL fr to (ms.take 0)) i)) rfl).trans (le_st (le_r rfl) (leE_i rfl rfl (leE_i rfl rfl (leE_eq rfl (bnd_nf _ (nfL_Mov _ _)) (leE_eq rfl (bnd_encT nf_encMov (lt_r rfl)) (leE_i rfl rfl (leE_i rfl rfl trivial)))))) (leO_room (lt_r rfl) rfl trivial) gl0n)) ?_
  intro k hk
  conv => whnf
  by_cases c : k < ms.length
  · refine br_true (decide_eq_true ((by omega : (k : Int) < ms.length))) ?_
    conv => whnf
    refine ⟨by omega, ?_⟩
    conv => whnf
    have hlen := wiL_len fr to (ms.take k)
    rw [List.length_take] at hlen
    by_cases c1 : fr ≤ (at_ ms k).day ∧ (at_ ms k).day ≤ to
    · refine br_true (decide_eq_true (c1.1)) ?_
      conv => whnf
      refine br_true (decide_eq_true (c1.2)) ?_
      conv => whnf
      repeat' first
        | (rw [wpE_one])
        | (refine And.intro (by first | rfl | omega | (constructor <;> omega) | (show (_ + 1) * 112 ≤ 140737488355328; omega) | fail) ?_; (conv => whnf))
        | fail
      refine ⟨k + 1, c, (by show ms.length - (k + 1) < ms.length - k; omega), ?_⟩
      dsimp only
      rw [wiL_yes c c1]
      exact (le_st (le_r rfl) (leE_i rfl (inc_id c hl) (leE_i rfl rfl (leE_eq rfl (bnd_nf _ (nfL_Mov _ _)) (leE_le rfl (leA_snoc (enc := encMov) (by exact LeA.refl _)).le (bnd_encT nf_encMov (lt_r rfl)) (leE_i rfl rfl (leE_i rfl rfl trivial)))))) (leO_room (lt_r rfl) (by (simp; rfl)) trivial) gl0n)
    · by_cases c2 : fr ≤ (at_ ms k).day
      · refine br_true (decide_eq_true (c2)) ?_
        conv => whnf
        refine br_false (decide_eq_false ((fun h => c1 ⟨c2, h⟩))) ?_
        conv => whnf
        refine ⟨k + 1, c, (by show ms.length - (k + 1) < ms.length - k; omega), ?_⟩
        dsimp only
        rw [wiL_no c c1]
        exact (le_st (le_r rfl) (leE_i rfl (inc_id c hl) (leE_i rfl rfl (leE_eq rfl (bnd_nf _ (nfL_Mov _ _)) (leE_eq rfl (bnd_encT nf_encMov (lt_r rfl)) (leE_i rfl rfl (leE_i rfl rfl trivial)))))) (leO_room (lt_r rfl) rfl trivial) gl0n)
      · refine br_false (decide_eq_false (c2)) ?_
        conv => whnf
        refine ⟨k + 1, c, (by show ms.length - (k + 1) < ms.length - k; omega), ?_⟩
        dsimp only
        rw [wiL_no c c1]
        exact (le_st (le_r rfl) (leE_i rfl (inc_id c hl) (leE_i rfl rfl (leE_eq rfl (bnd_nf _ (nfL_Mov _ _)) (leE_eq rfl (bnd_encT nf_encMov (lt_r rfl)) (leE_i rfl rfl (leE_i rfl rfl trivial)))))) (leO_room (lt_r rfl) rfl trivial) gl0n)
  · refine br_false (decide_eq_false ((by omega : ¬ ((k : Int) < ms.length)))) ?_
    conv => whnf
    obtain rfl : k = ms.length := by omega
    rw [List.take_length]
    refine ⟨⟨_, _, _, LeSt.refl _ _ _ _ _, ?_, ?_⟩⟩
    · simp [lookO]
    · conv => whnf
      exact (LeA.refl _).le


open Classical in
/-- What the program's lines are, as a list. -/
noncomputable def linC (fr to : Int) (ms : List Mov) : List ByteArray := if okL fr to ms then linL fr to ms else []

theorem lines_ok (ms : List Mov) (fr to : Int) (hf : in64 fr) (hm : okM ms) (hn : ms.length ≤ 10000) (h : okL fr to ms) : PureIX Tryd.prog gl0 statement_Lines [encL encMov 14 ms, I fr, I to] [] 0 (fun r o1 n1 => r = tup2 (.sli 0 0 (linL fr to ms).length 1 9) (B true) ∧ o1 = [(0, .box (.arr (linL fr to ms).length 1 (fun i => encS (at_ (linL fr to ms) i))))] ∧ n1 = 1) := by
  refine pureO2_fn mixed 0 _ _ _ _ (.bool true) fn_statement_Lines nt_statement_Lines hc_statement_Lines (by simp) gl0n rfl (fun i => fl_S _) (fun i => nf_encS _) ?_
  have d1 := dateT_size fr
  have d2 := dateT_size to
  have hfl := h.le
  conv => whnf
  refine call_x2 (calFd_x fr) (LeL.refl _) ?_
  rintro _ - h1
  rw [h1.is, decide_eq_true h.f]
  conv => whnf
  refine call_x2 (calFd_x to) (LeL.refl _) ?_
  rintro _ - h2
  rw [h2.is, decide_eq_true h.t]
  conv => whnf
  refine br_false (decide_eq_false ((by omega : ¬ (to < fr)))) ?_
  conv => whnf
  rw [wrap_id (n := fr - 1) (by have := h.f; unfold in64; omega)]
  refine call_x2 (total_x sOPEN ms (fr - 1) (by decide) hm (by omega)) (LeL.refl _) ?_
  rintro _ - (ho | ⟨ho, s⟩)
  · conv => whnf
    repeat' first
      | (rw [wpE_one])
      | (refine And.intro (by first | decide | omega | (simp only [zFR, zTO, ByteArray.size_append]; omega) | fail) ?_; (conv => whnf))
      | fail
    refine call_x2 (within_x ms fr to (by omega)) (LeL.refl _) ?_
    rintro _ - rfl
    have hW := wiL_len fr to ms
    have hmW : okM (wiL fr to ms) := fun m hx => hm m (List.mem_filter.1 hx).1
    have hno := h.r
    have hlin : linL fr to ms = headL fr to ms ++ (wiL fr to ms).map rowT ++ [lastT to ms] := rfl
    generalize wiL fr to ms = X at hW hmW hno hlin ⊢
    have hX : (X.length : Int) < 9223372036854775808 := by omega
    conv => whnf
    refine loop_at mixed (fun (k : Nat) => ([(61, I k), (60, I X.length), (59, encL encMov 14 X), (13, encT (some 0) encS 1 (headL fr to ms ++ (X.take k).map rowT)), (0, encL encMov 14 ms), (2, I to)], [(0, .room (headL fr to ms ++ (X.take k).map rowT).length 1 9)], 1)) (fun k => k ≤ X.length ∧ ∀ i, i < k → okR (at_ X i)) (fun k => X.length - k) 0 ⟨Nat.zero_le _, fun i hi => absurd hi (Nat.not_lt_zero i)⟩ (le_st (le_r rfl) (leE_i rfl rfl (leE_i rfl rfl (leE_eq rfl (bnd_nf _ (nfL_Mov _ _)) (leE_le rfl ?_ (bnd_encT nf_encS (lt_r rfl)) (leE_eq rfl (bnd_nf _ (nfL_Mov _ _)) (leE_i rfl rfl trivial)))))) (leO_room (lt_r rfl) (by rfl) trivial) gl0n) ?_
    · exact (lst_two rfl rfl).le
    rintro k ⟨hk, hok⟩
    conv => whnf
    by_cases c : k < X.length
    · refine br_true (decide_eq_true ((by omega : (k : Int) < X.length))) ?_
      conv => whnf
      refine ⟨by omega, ?_⟩
      conv => whnf
      refine call_x2 (row_x (at_ X k) (fun a ha => hmW _ (at_mem c) a ha)) (LeL.refl _) ?_
      rintro _ - (hR | ⟨hR, s⟩)
      · conv => whnf
        have hlen : (headL fr to ms ++ (X.take k).map rowT).length = 2 + k := by
          rw [List.length_append, List.length_map, List.length_take, Nat.min_eq_left hk]; rfl
        repeat' first
          | (rw [wpE_one])
          | (refine And.intro (by first | rfl | (rw [hlen]; show (2 + k + 1) * 16 ≤ 140737488355328; omega) | fail) ?_; (conv => whnf))
          | fail
        refine ⟨k + 1, ⟨c, fun i hi => ?_⟩, (by show X.length - (k + 1) < X.length - k; omega), ?_⟩
        · by_cases e : i = k
          · rw [e]; exact hR
          · exact hok i (by omega)
        · dsimp only
          rw [take_at c, List.map_append, ← List.append_assoc]
          exact (le_st (le_r rfl) (leE_i rfl (inc_id c hX) (leE_i rfl rfl (leE_eq rfl (bnd_nf _ (nfL_Mov _ _)) (leE_le rfl (leA_snoc (enc := encS) (by exact LeA.refl _)).le (bnd_encT nf_encS (lt_r rfl)) (leE_eq rfl (bnd_nf _ (nfL_Mov _ _)) (leE_i rfl rfl trivial)))))) (leO_room (lt_r rfl) (by (simp; rfl)) trivial) gl0n)
      · exact absurd (hno k c) hR
    · refine br_false (decide_eq_false ((by omega : ¬ ((k : Int) < X.length)))) ?_
      conv => whnf
      obtain rfl : k = X.length := by omega
      rw [List.take_length]
      refine call_x2 (total_x sCLOSE ms to (by decide) hm (by omega)) (LeL.refl _) ?_
      rintro _ - (hc | ⟨hc, s⟩)
      · conv => whnf
        have hlen : (headL fr to ms ++ X.map rowT).length = 2 + X.length := by
          rw [List.length_append, List.length_map]; rfl
        repeat' first
          | (rw [wpE_one])
          | (refine And.intro (by first | rfl | (rw [hlen]; show (2 + X.length + 1) * 16 ≤ 140737488355328; omega) | fail) ?_; (conv => whnf))
          | fail
        refine ⟨⟨_, _, _, LeSt.refl _ _ _ _ _, ?_, ?_⟩⟩
        · rw [hlin]
          simp [lookO]
          omega
        · conv => whnf
          rw [hlin]
          exact (LeA.tup (LeA.cons (leA_snoc (enc := encS) (x := lastT to ms) (LeA.of_eq rfl)) (LeA.refl _))).le
      · exact absurd h.c hc
  · exact absurd h.o ho

theorem lines_o (ms : List Mov) (fr to : Int) (hf : in64 fr) (hm : okM ms) (hn : ms.length ≤ 10000) : PureIX Tryd.prog gl0 statement_Lines [encL encMov 14 ms, I fr, I to] [] 0 (fun r o1 n1 => ∃ b, r = tup2 (.sli 0 0 (linC fr to ms).length 1 9) (B b) ∧ o1 = [(0, .box (.arr (linC fr to ms).length 1 (fun i => encS (at_ (linC fr to ms) i))))] ∧ n1 = 1) := by
  by_cases h : okL fr to ms
  · rw [show linC fr to ms = linL fr to ms from if_pos h]
    obtain ⟨r, o1, n1, ⟨h1, h2, h3⟩, h4⟩ := lines_ok ms fr to hf hm hn h
    exact ⟨r, o1, n1, ⟨true, h1, h2, h3⟩, h4⟩
  · rw [show linC fr to ms = [] from if_neg h]
    obtain ⟨r, hr, hl, hp⟩ := lines_x ms fr to hf hm hn
    rcases hl with h' | h'
    · exact absurd h' h
    · exact ⟨_, _, _, ⟨false, rfl, rfl, rfl⟩, pureI_nil2 0 1 9 (fun i => encS (at_ ([] : List ByteArray) i)) rfl hp⟩

end Go.Proofs.YtoglphkkhhjodaaDoor
namespace Go.Proofs.YtoglphkkhhjodaaDoor
open Go Ar
set_option linter.unusedVariables false
set_option autoImplicit false
set_option maxHeartbeats 4000000
set_option maxRecDepth 100000

theorem leA_kept {tok : Option Nat} {n : Nat} {h : Nat → AV} {X : List Mov} (hn : n = X.length) (hh : ∀ i, i < n → h i = encMov (at_ X i)) : LeA (.lst tok n 14 h) (encT tok encMov 14 X) := by
  subst hn
  exact LeA.lst (.inl rfl) fun i hi => LeA.of_eq (hh i hi)

abbrev mk (d : Int) : Mov := ⟨d, 0, fun _ => 0⟩
/-- While the first list is written full. -/
abbrev stA (ms X : List Mov) (fr to : Int) (k : Nat) : Env × Objs × Nat := ([(12, I k), (10, I X.length), (0, encL encMov 14 ms), (1, I fr), (2, I to), (7, encL encMov 14 (markM ms)), (8, .sli 0 0 X.length 14 29), (9, encT (some 1) encMov 14 X)], [(0, .box (.arr X.length 14 (fun i => encMov (if i < k then mk (-1) else at_ X i)))), (1, .room X.length 14 29)], 2)
/-- It has been written full, and goes on to grow. -/
abbrev stB (ms X : List Mov) (fr to : Int) : Env × Objs × Nat := ([(12, I X.length), (10, I X.length), (0, encL encMov 14 ms), (1, I fr), (2, I to), (7, encL encMov 14 (markM ms)), (8, encT (some 2) encMov 14 (List.replicate X.length (mk (-1)))), (9, encT (some 1) encMov 14 X)], [(2, .room X.length 14 29), (1, .room X.length 14 29)], 3)

theorem rep_at {n i : Nat} {d : Int} (h : i < n) : at_ (List.replicate n (mk d)) i = mk d := by
  rw [at_lt (by rw [List.length_replicate]; exact h), List.getElem_replicate]
theorem stAB (ms X : List Mov) (fr to : Int) {N : Nat} : LeSt gl0 N (stA ms X fr to X.length).1 (stA ms X fr to X.length).2.1 (stA ms X fr to X.length).2.2 (stB ms X fr to).1 (stB ms X fr to).2.1 (stB ms X fr to).2.2 := by
  refine (le_grow 8 0 rfl rfl).trans (le_st (le_r rfl) (leE_i rfl rfl (leE_i rfl rfl (leE_eq rfl (bnd_nf _ (nfL_Mov _ _)) (leE_i rfl rfl (leE_i rfl rfl (leE_eq rfl (bnd_nf _ (nfL_Mov _ _)) (leE_le rfl ?_ (bnd_encT nf_encMov (lt_r rfl)) (leE_eq rfl (bnd_encT nf_encMov (lt_r rfl)) trivial)))))))) (leO_room (lt_r rfl) rfl (leO_room (lt_r rfl) rfl trivial)) gl0n)
  exact (leA_kept List.length_replicate.symm (fun i hi => by
    show encMov (if i < X.length then mk (-1) else at_ X i) = _
    rw [if_pos hi, rep_at hi])).le


/-- A list of the same, and another behind. -/
abbrev gL (n : Nat) (d e : Int) : List Mov := List.replicate n (mk d) ++ [mk e]
theorem gL_len (n : Nat) (d e : Int) : (gL n d e).length = n + 1 := by simp
theorem gL_at {n : Nat} {d e : Int} : at_ (gL n d e) n = mk e := by
  rw [at_lt (by simp)]
  simp
/-- While the second list is written full. -/
abbrev stC (ms X : List Mov) (fr to : Int) (k : Nat) : Env × Objs × Nat := ([(15, I k), (10, I X.length), (0, encL encMov 14 ms), (1, I fr), (2, I to), (7, encL encMov 14 (markM ms)), (8, encT (some 2) encMov 14 (List.replicate X.length (mk (-1)))), (13, encT (some 2) encMov 14 (gL X.length (-1) (-2))), (14, .sli 4 0 X.length 14 29)], [(4, .box (.arr X.length 14 (fun i => encMov (if i < k then mk (-3) else at_ X i))))], 5)
abbrev stD (ms X : List Mov) (fr to : Int) : Env × Objs × Nat := ([(15, I X.length), (10, I X.length), (0, encL encMov 14 ms), (1, I fr), (2, I to), (7, encL encMov 14 (markM ms)), (8, encT (some 2) encMov 14 (List.replicate X.length (mk (-1)))), (13, encT (some 2) encMov 14 (gL X.length (-1) (-2))), (14, encT (some 5) encMov 14 (List.replicate X.length (mk (-3))))], [(5, .room X.length 14 29)], 6)
theorem stCD (ms X : List Mov) (fr to : Int) {N : Nat} : LeSt gl0 N (stC ms X fr to X.length).1 (stC ms X fr to X.length).2.1 (stC ms X fr to X.length).2.2 (stD ms X fr to).1 (stD ms X fr to).2.1 (stD ms X fr to).2.2 := by
  refine (le_grow 14 4 rfl rfl).trans (le_st (le_r rfl) (leE_i rfl rfl (leE_i rfl rfl (leE_eq rfl (bnd_nf _ (nfL_Mov _ _)) (leE_i rfl rfl (leE_i rfl rfl (leE_eq rfl (bnd_nf _ (nfL_Mov _ _)) (leE_eq rfl (bnd_encT nf_encMov (lt_r rfl)) (leE_eq rfl (bnd_encT nf_encMov (lt_r rfl)) (leE_le rfl ?_ (bnd_encT nf_encMov (lt_r rfl)) trivial))))))))) (leO_room (lt_r rfl) rfl trivial) gl0n)
  exact (leA_kept List.length_replicate.symm (fun i hi => by
    show encMov (if i < X.length then mk (-3) else at_ X i) = _
    rw [if_pos hi, rep_at hi])).le

theorem leA_setW {n k : Nat} {V : AV} {X : List Mov} {d : Int} (hV : V = encMov (mk d)) : LeA (.arr n 14 (fun i => selA (i = 0 + Int.toNat (k : Int)) V (encMov (if i < k then mk d else at_ X i)))) (.arr n 14 (fun i => encMov (if i < k + 1 then mk d else at_ X i))) :=
  LeA.arr fun i hi => LeA.of_eq (by
    rw [selA_eq, Nat.zero_add, Int.toNat_natCast, hV]
    by_cases c : i = k
    · rw [if_pos c, if_pos (by omega)]
    · rw [if_neg c]
      by_cases c2 : i < k
      · rw [if_pos c2, if_pos (by omega)]
      · rw [if_neg c2, if_neg (by omega)])
theorem leA_setL {n k m : Nat} {V : AV} {X : List Mov} {d : Int} (hk : k + 1 = m) (hV : V = encMov (mk d)) : LeA (.arr n 14 (fun i => selA (i = 0 + Int.toNat (k : Int)) V (encMov (if i < k then mk d else at_ X i)))) (.arr n 14 (fun i => encMov (if i < m then mk d else at_ X i))) := by
  subst hk
  exact leA_setW hV

theorem leA_was {tok : Option Nat} {n : Nat} {h : Nat → AV} {X : List ByteArray} (hn : n = X.length) (hh : ∀ i, i < n → h i = encS (at_ X i)) : LeA (.lst tok n 1 h) (encT tok encS 1 X) := by
  subst hn
  exact LeA.lst (.inl rfl) fun i hi => LeA.of_eq (hh i hi)
abbrev sX : ByteArray := ⟨#[120]⟩
/-- While the lines are written over. -/
abbrev stE (ms X : List Mov) (C : List ByteArray) (fr to : Int) (k : Nat) : Env × Objs × Nat := ([(20, I k), (10, I X.length), (0, encL encMov 14 ms), (1, I fr), (2, I to), (7, encL encMov 14 (markM ms)), (8, encT (some 2) encMov 14 (List.replicate X.length (mk (-1)))), (13, encT (some 2) encMov 14 (gL X.length (-1) (-2))), (14, encT (some 5) encMov 14 (List.replicate X.length (mk (-3)))), (16, encT (some 5) encMov 14 (gL X.length (-3) (-4))), (17, .sli 7 0 C.length 1 9), (19, encT (some 8) encS 1 C)], [(7, .box (.arr C.length 1 (fun i => encS (if i < k then sX else at_ C i))))], 9)

theorem leA_setX {n k : Nat} {X : List ByteArray} : LeA (.arr n 1 (fun i => selA (i = 0 + Int.toNat (k : Int)) (AV.val (.string sX)) ((fun i => encS (if i < k then sX else at_ X i)) i))) (.arr n 1 (fun i => encS (if i < k + 1 then sX else at_ X i))) :=
  LeA.arr fun i hi => LeA.of_eq (by
    rw [selA_eq, Nat.zero_add, Int.toNat_natCast]
    by_cases c : i = k
    · rw [if_pos c, if_pos (by omega)]; rfl
    · rw [if_neg c]
      show encS (if i < k then sX else at_ X i) = _
      by_cases c2 : i < k
      · rw [if_pos c2, if_pos (by omega)]
      · rw [if_neg c2, if_neg (by omega)])

theorem law10_x (ms : List Mov) (fr to : Int) (hN : (ms.length : Int) < 9223372036854775808) (hm : okM ms) (hf : in64 fr) : PureX Tryd.prog gl0 l22_StatementFresh [encL encMov 14 ms, I fr, I to] (fun r => r = B true) := by
  refine pure_fnX mixed fn_l22_StatementFresh nt_l22_StatementFresh hc_l22_StatementFresh (by simp) gl0n (by simp [nf]) ?_
  conv => whnf
  obtain ⟨X, hX⟩ : ∃ X, X = wiL fr to ms := ⟨_, rfl⟩
  have hW : X.length ≤ ms.length := by rw [hX]; exact wiL_len fr to ms
  by_cases c0 : 4000 < ms.length
  · refine br_true (decide_eq_true ((by omega : (4000 : Int) < ms.length))) ?_
    conv => whnf
    refine fin_e ?_
    conv => whnf
    exact ⟨trivial, rfl⟩
  · refine br_false (decide_eq_false ((by omega : ¬ ((4000 : Int) < ms.length)))) ?_
    conv => whnf
    refine call_x2 (copied_x ms (by omega)) (LeL.refl _) ?_
    rintro _ - rfl
    conv => whnf
    have hl : (markM ms).length = ms.length + 1 := by simp
    repeat' first
      | (rw [wpE_one])
      | (refine And.intro (by first | rfl | omega | (constructor <;> omega) | (rw [hl]; omega) | (rw [hl]; constructor <;> omega) | fail) ?_; (conv => whnf))
      | fail
    have hwo := within_o ms fr to (by omega)
    rw [← hX] at hwo
    refine call_o hwo (by simp) ⟨leA_mM.le, Le.refl _, Le.refl _, trivial⟩ ?_
    rintro _ _ _ ⟨rfl, rfl, rfl⟩
    refine ⟨⟨⟨.inl (by decide), fun i => nf_encMov _⟩, trivial⟩, trivial, rfl, ?_⟩
    conv => whnf
    repeat' first
      | (rw [wpE_one])
      | (refine And.intro (by first | rfl | omega | (show (0 + _) * 112 ≤ 140737488355328; omega) | fail) ?_; (conv => whnf))
      | fail
    refine loop_at mixed (fun (k : Nat) => ([(11, I k), (10, I (wiL fr to (ms.take k)).length), (0, encL encMov 14 ms), (1, I fr), (2, I to), (7, encL encMov 14 (markM ms)), (8, .sli 0 0 X.length 14 29), (9, encT (some 1) encMov 14 X)], [(0, .box (.arr X.length 14 (fun i => encMov (at_ X i)))), (1, .room X.length 14 29)], 2)) (fun k => k ≤ ms.length) (fun k => ms.length - k) 0 (Nat.zero_le _) (le_st (le_r rfl) (leE_i rfl rfl (leE_i rfl rfl (leE_eq rfl (bnd_nf _ (nfL_Mov _ _)) (leE_i rfl rfl (leE_i rfl rfl (leE_eq rfl (bnd_nf _ (nfL_Mov _ _)) (leE_eq rfl (.inl (lt_r rfl)) (leE_le rfl ?_ (bnd_encT nf_encMov (lt_r rfl)) trivial)))))))) (leO_box (lt_r rfl) rfl (LeA.refl _ ) (bnd_nf _ ( (fun i => nf_encMov _))) (leO_room (lt_r rfl) (by (show some (AObj.room (0 + _) 14 29) = _; rw [Nat.zero_add])) trivial)) gl0n) ?_
    · exact (leA_kept (Nat.zero_add _) (fun i hi => by show (if i < 0 then _ else encMov (at_ X (0 + (i - 0)))) = _; rw [if_neg (Nat.not_lt_zero i), Nat.zero_add]; rfl)).le
    intro k hk
    conv => whnf
    by_cases c : k < ms.length
    · refine br_true (decide_eq_true ((by omega : (k : Int) < ms.length))) ?_
      conv => whnf
      refine ⟨by omega, ?_⟩
      conv => whnf
      by_cases c1 : fr ≤ (at_ ms k).day ∧ (at_ ms k).day ≤ to
      · refine br_true (decide_eq_true (c1.1)) ?_
        conv => whnf
        refine ⟨by omega, ?_⟩
        conv => whnf
        refine br_true (decide_eq_true (c1.2)) ?_
        conv => whnf
        exact ⟨k + 1, c, (by show ms.length - (k + 1) < ms.length - k; omega), (le_st (le_r rfl) (leE_i rfl (inc_id c hN) (leE_i rfl ((by rw [wiL_yes c c1, List.length_append, wrap_id (by have := wiL_len fr to (ms.take k); rw [List.length_take] at this; unfold in64; omega)]; rfl)) (leE_eq rfl (bnd_nf _ (nfL_Mov _ _)) (leE_i rfl rfl (leE_i rfl rfl (leE_eq rfl (bnd_nf _ (nfL_Mov _ _)) (leE_eq rfl (.inl (lt_r rfl)) (leE_eq rfl (bnd_encT nf_encMov (lt_r rfl)) trivial)))))))) (leO_box (lt_r rfl) rfl (LeA.refl _) (bnd_nf _ ((fun i => nf_encMov _))) (leO_room (lt_r rfl) rfl trivial)) gl0n)⟩
      · by_cases c2 : fr ≤ (at_ ms k).day
        · refine br_true (decide_eq_true (c2)) ?_
          conv => whnf
          refine ⟨by omega, ?_⟩
          conv => whnf
          refine br_false (decide_eq_false ((fun h => c1 ⟨c2, h⟩))) ?_
          conv => whnf
          exact ⟨k + 1, c, (by show ms.length - (k + 1) < ms.length - k; omega), (le_st (le_r rfl) (leE_i rfl (inc_id c hN) (leE_i rfl ((by rw [wiL_no c c1])) (leE_eq rfl (bnd_nf _ (nfL_Mov _ _)) (leE_i rfl rfl (leE_i rfl rfl (leE_eq rfl (bnd_nf _ (nfL_Mov _ _)) (leE_eq rfl (.inl (lt_r rfl)) (leE_eq rfl (bnd_encT nf_encMov (lt_r rfl)) trivial)))))))) (leO_box (lt_r rfl) rfl (LeA.refl _) (bnd_nf _ ((fun i => nf_encMov _))) (leO_room (lt_r rfl) rfl trivial)) gl0n)⟩
        · refine br_false (decide_eq_false (c2)) ?_
          conv => whnf
          exact ⟨k + 1, c, (by show ms.length - (k + 1) < ms.length - k; omega), (le_st (le_r rfl) (leE_i rfl (inc_id c hN) (leE_i rfl ((by rw [wiL_no c c1])) (leE_eq rfl (bnd_nf _ (nfL_Mov _ _)) (leE_i rfl rfl (leE_i rfl rfl (leE_eq rfl (bnd_nf _ (nfL_Mov _ _)) (leE_eq rfl (.inl (lt_r rfl)) (leE_eq rfl (bnd_encT nf_encMov (lt_r rfl)) trivial)))))))) (leO_box (lt_r rfl) rfl (LeA.refl _) (bnd_nf _ ((fun i => nf_encMov _))) (leO_room (lt_r rfl) rfl trivial)) gl0n)⟩
    · refine br_false (decide_eq_false ((by omega : ¬ ((k : Int) < ms.length)))) ?_
      conv => whnf
      obtain rfl : k = ms.length := by omega
      rw [List.take_length, ← hX]
      refine br_false (decide_eq_false ((fun h => h rfl))) ?_
      conv => whnf
      refine loop_at mixed (fun (y : Option Nat) => match y with
        | some k => stA ms X fr to k
        | none => stB ms X fr to) (fun y => match y with
        | some k => k < X.length
        | none => True) (fun y => match y with
        | some k => X.length - k + 1
        | none => 0) (if X.length = 0 then none else some 0) ?_ ?_ ?_
      · by_cases hz : X.length = 0
        · rw [if_pos hz]; trivial
        · rw [if_neg hz]; exact Nat.pos_of_ne_zero hz
      · by_cases hz : X.length = 0
        · rw [if_pos hz]
          refine (?_ : LeSt gl0 _ _ _ _ (stA ms X fr to X.length).1 (stA ms X fr to X.length).2.1 (stA ms X fr to X.length).2.2).trans (stAB ms X fr to)
          exact (le_st (le_r rfl) (leE_i rfl ((by rw [hz]; rfl)) (leE_i rfl rfl (leE_eq rfl (bnd_nf _ (nfL_Mov _ _)) (leE_i rfl rfl (leE_i rfl rfl (leE_eq rfl (bnd_nf _ (nfL_Mov _ _)) (leE_eq rfl (.inl (lt_r rfl)) (leE_eq rfl (bnd_encT nf_encMov (lt_r rfl)) trivial)))))))) (leO_box (lt_r rfl) rfl (LeA.arr (fun i hi => by omega) ) (bnd_nf _ ( (fun i => nf_encMov _))) (leO_room (lt_r rfl) rfl trivial)) gl0n)
        · rw [if_neg hz]
          exact (le_st (le_r rfl) (leE_i rfl rfl (leE_i rfl rfl (leE_eq rfl (bnd_nf _ (nfL_Mov _ _)) (leE_i rfl rfl (leE_i rfl rfl (leE_eq rfl (bnd_nf _ (nfL_Mov _ _)) (leE_eq rfl (.inl (lt_r rfl)) (leE_eq rfl (bnd_encT nf_encMov (lt_r rfl)) trivial)))))))) (leO_box (lt_r rfl) rfl (LeA.arr (fun i hi => LeA.of_eq (by rw [if_neg (Nat.not_lt_zero i)])) ) (bnd_nf _ ( (fun i => nf_encMov _))) (leO_room (lt_r rfl) rfl trivial)) gl0n)
      rintro (_ | k) hk
      · conv => whnf
        refine br_false (decide_eq_false ((by omega : ¬ ((X.length : Int) < X.length)))) ?_
        conv => whnf
        have hl : (markM ms).length = ms.length + 1 := by simp
        repeat' first
          | (rw [wpE_one])
          | (refine And.intro (by first | rfl | exact List.length_replicate | omega | (constructor <;> omega) | (rw [List.length_replicate]; show (X.length + 1) * 112 ≤ 140737488355328; omega) | (rw [hl]; omega) | (rw [hl]; constructor <;> omega) | fail) ?_; (conv => whnf))
          | fail
        refine call_o hwo (by simp) ⟨leA_mM.le, Le.refl _, Le.refl _, trivial⟩ ?_
        rintro _ _ _ ⟨rfl, rfl, rfl⟩
        refine ⟨⟨⟨.inl (by decide), fun i => nf_encMov _⟩, trivial⟩, trivial, rfl, ?_⟩
        conv => whnf
        refine call_thaw 4 rfl (leW_s (show 0 + X.length ≤ X.length by omega) (leW_k leW_nil)) ?_
        refine call_x2 (sameM_x X (by omega)) ⟨(LeA.lst (n := X.length) (.inl rfl) fun i hi => LeA.of_eq (congrArg (fun j => encMov (at_ X j)) (Nat.zero_add i))).le, (leA_drop (enc := encMov) (xs := X)).le, trivial⟩ ?_
        rintro _ - rfl
        conv => whnf
        refine ⟨trivial, ⟨trivial, trivial, trivial, trivial⟩, rfl, rfl, ?_⟩
        conv => whnf
        refine call_x2 (copied_x ms (by omega)) (LeL.refl _) ?_
        rintro _ - rfl
        conv => whnf
        refine call_x2 (sameM_x (markM ms) (by rw [hl]; omega)) (LeL.refl _) ?_
        rintro _ - rfl
        conv => whnf
        refine loop_at mixed (fun (y : Option Nat) => match y with
          | some k => stC ms X fr to k
          | none => stD ms X fr to) (fun y => match y with
          | some k => k < X.length
          | none => True) (fun y => match y with
          | some k => X.length - k + 1
          | none => 0) (if X.length = 0 then none else some 0) ?_ ?_ ?_
        · by_cases hz : X.length = 0
          · rw [if_pos hz]; trivial
          · rw [if_neg hz]; exact Nat.pos_of_ne_zero hz
        · by_cases hz : X.length = 0
          · rw [if_pos hz]
            refine (?_ : LeSt gl0 _ _ _ _ (stC ms X fr to X.length).1 (stC ms X fr to X.length).2.1 (stC ms X fr to X.length).2.2).trans (stCD ms X fr to)
            refine (le_st (le_r rfl) (leE_i rfl ((by rw [hz]; rfl)) (leE_i rfl rfl (leE_eq rfl (bnd_nf _ (nfL_Mov _ _)) (leE_i rfl rfl (leE_i rfl rfl (leE_eq rfl (bnd_nf _ (nfL_Mov _ _)) (leE_eq rfl (bnd_encT nf_encMov (lt_r rfl)) (leE_le rfl (leA_snoc (enc := encMov) (by exact LeA.refl _)).le (bnd_encT nf_encMov (lt_r rfl)) (leE_eq rfl (.inl (lt_r rfl)) trivial))))))))) (leO_box (lt_r rfl) rfl (LeA.arr (fun i hi => by omega) ) (bnd_nf _ ( (fun i => nf_encMov _))) trivial) gl0n)
          · rw [if_neg hz]
            refine (le_st (le_r rfl) (leE_i rfl rfl (leE_i rfl rfl (leE_eq rfl (bnd_nf _ (nfL_Mov _ _)) (leE_i rfl rfl (leE_i rfl rfl (leE_eq rfl (bnd_nf _ (nfL_Mov _ _)) (leE_eq rfl (bnd_encT nf_encMov (lt_r rfl)) (leE_le rfl (leA_snoc (enc := encMov) (by exact LeA.refl _)).le (bnd_encT nf_encMov (lt_r rfl)) (leE_eq rfl (.inl (lt_r rfl)) trivial))))))))) (leO_box (lt_r rfl) rfl (LeA.arr (fun i hi => LeA.of_eq (by rw [if_neg (Nat.not_lt_zero i)])) ) (bnd_nf _ ( (fun i => nf_encMov _))) trivial) gl0n)
        rintro (_ | k) hk
        · conv => whnf
          refine br_false (decide_eq_false ((by rw [List.length_replicate]; omega : ¬ ((X.length : Int) < ((List.replicate X.length (mk (-3))).length : Nat))))) ?_
          conv => whnf
          repeat' first
            | (rw [wpE_one])
            | (refine And.intro (by first | rfl | exact List.length_replicate | omega | (constructor <;> omega) | (rw [List.length_replicate]; show (X.length + 1) * 112 ≤ 140737488355328; omega) | (rw [hl]; omega) | (rw [hl]; constructor <;> omega) | fail) ?_; (conv => whnf))
            | fail
          have hlo := lines_o ms fr to hf hm (by omega)
          have hC := linL_len fr to ms
          have hC2 : (linC fr to ms).length ≤ ms.length + 3 := by
            unfold linC
            split
            · exact hC
            · exact Nat.zero_le _
          obtain ⟨C, hCd⟩ : ∃ C, C = linC fr to ms := ⟨_, rfl⟩
          rw [← hCd] at hlo hC2
          refine call_o hlo (by simp) ⟨leA_mM.le, Le.refl _, Le.refl _, trivial⟩ ?_
          rintro _ _ _ ⟨bl, rfl, rfl, rfl⟩
          refine ⟨⟨⟨.inl (by decide), fun i => nf_encS _⟩, trivial⟩, ⟨trivial, trivial, trivial⟩, rfl, ?_⟩
          conv => whnf
          repeat' first
            | (rw [wpE_one])
            | (refine And.intro (by first | rfl | omega | (constructor <;> omega) | (show (0 + C.length) * 16 ≤ 140737488355328; omega) | fail) ?_; (conv => whnf))
            | fail
          refine loop_at mixed (fun (k : Nat) => stE ms X C fr to k) (fun k => k ≤ C.length) (fun k => C.length - k) 0 (Nat.zero_le _) (le_st (le_r rfl) (leE_i rfl rfl (leE_i rfl rfl (leE_eq rfl (bnd_nf _ (nfL_Mov _ _)) (leE_i rfl rfl (leE_i rfl rfl (leE_eq rfl (bnd_nf _ (nfL_Mov _ _)) (leE_eq rfl (bnd_encT nf_encMov (lt_r rfl)) (leE_eq rfl (bnd_encT nf_encMov (lt_r rfl)) (leE_eq rfl (bnd_encT nf_encMov (lt_r rfl)) (leE_le rfl (leA_snoc (enc := encMov) (by exact LeA.refl _)).le (bnd_encT nf_encMov (lt_r rfl)) (leE_eq rfl (.inl (lt_r rfl)) (leE_le rfl ?_ (bnd_encT nf_encS (lt_r rfl)) trivial)))))))))))) (leO_box (lt_r rfl) rfl (LeA.arr (fun i hi => LeA.of_eq (by rw [if_neg (Nat.not_lt_zero i)])) ) (bnd_nf _ ( (fun i => nf_encS _))) trivial) gl0n) ?_
          · exact (leA_was (Nat.zero_add _) (fun i hi => by show (if i < 0 then _ else encS (at_ C (0 + (i - 0)))) = _; rw [if_neg (Nat.not_lt_zero i), Nat.zero_add]; rfl)).le
          intro k hk
          conv => whnf
          by_cases c1 : k < C.length
          · refine br_true (decide_eq_true ((by omega : (k : Int) < C.length))) ?_
            conv => whnf
            repeat' first
              | (rw [wpE_one])
              | (refine And.intro (by first | rfl | omega | (constructor <;> omega) | fail) ?_; (conv => whnf))
              | (rw [okN]; (try conv in (occs := *) (ev gl0 _ _) => all_goals whnf); (conv => whnf))
              | fail
            exact ⟨k + 1, c1, (by show C.length - (k + 1) < C.length - k; omega), (le_st (le_r rfl) (leE_i rfl (inc_id c1 (by omega)) (leE_i rfl rfl (leE_eq rfl (bnd_nf _ (nfL_Mov _ _)) (leE_i rfl rfl (leE_i rfl rfl (leE_eq rfl (bnd_nf _ (nfL_Mov _ _)) (leE_eq rfl (bnd_encT nf_encMov (lt_r rfl)) (leE_eq rfl (bnd_encT nf_encMov (lt_r rfl)) (leE_eq rfl (bnd_encT nf_encMov (lt_r rfl)) (leE_eq rfl (bnd_encT nf_encMov (lt_r rfl)) (leE_eq rfl (.inl (lt_r rfl)) (leE_eq rfl (bnd_encT nf_encS (lt_r rfl)) trivial)))))))))))) (leO_box (lt_r rfl) rfl (leA_setX ) (bnd_nf _ ( (fun i => nf_encS _))) trivial) gl0n)⟩
          · refine br_false (decide_eq_false ((by omega : ¬ ((k : Int) < C.length)))) ?_
            conv => whnf
            obtain rfl : k = C.length := by omega
            repeat' first
              | (rw [wpE_one])
              | (refine And.intro (by first | rfl | omega | (constructor <;> omega) | (rw [hl]; omega) | (rw [hl]; constructor <;> omega) | fail) ?_; (conv => whnf))
              | fail
            refine call_x2 (lines_x ms fr to hf hm (by omega)) ⟨leA_mM.le, Le.refl _, Le.refl _, trivial⟩ ?_
            have hg1 : (at_ (gL X.length (-1) (-2)) X.length).day = -2 := by rw [gL_at]
            have hg2 : (at_ (gL X.length (-3) (-4)) X.length).day = -4 := by rw [gL_at]
            have hgl := gL_len X.length (-1) (-2)
            have hgl2 := gL_len X.length (-3) (-4)
            rintro _ - (h | h)
            · conv => whnf
              obtain rfl : C = linL fr to ms := hCd.trans (if_pos h)
              refine And.intro (by rw [hgl]; constructor <;> omega) ?_
              conv => whnf
              refine br_false (decide_eq_false ((fun x => x hg1))) ?_
              conv => whnf
              refine And.intro (by rw [hgl2]; constructor <;> omega) ?_
              conv => whnf
              refine br_false (decide_eq_false ((fun x => x hg2))) ?_
              conv => whnf
              refine call_x2 (sameL_x (linL fr to ms) (by omega)) ⟨LeA.refl _ |>.le, (leA_drop (enc := encS) (xs := linL fr to ms)).le, trivial⟩ ?_
              rintro _ - rfl
              conv => whnf
              refine loop_at mixed (fun (k : Nat) => ([(23, I k), (10, I X.length), (0, encL encMov 14 ms), (7, encL encMov 14 (markM ms)), (8, encT (some 2) encMov 14 (List.replicate X.length (mk (-1)))), (14, encT (some 5) encMov 14 (List.replicate X.length (mk (-3))))], [], 6)) (fun k => k ≤ X.length) (fun k => X.length - k) 0 (Nat.zero_le _) (le_st (le_r rfl) (leE_i rfl rfl (leE_i rfl rfl (leE_eq rfl (bnd_nf _ (nfL_Mov _ _)) (leE_eq rfl (bnd_nf _ (nfL_Mov _ _)) (leE_eq rfl (bnd_encT nf_encMov (lt_r rfl)) (leE_eq rfl (bnd_encT nf_encMov (lt_r rfl)) trivial)))))) trivial gl0n) ?_
              intro k hk
              conv => whnf
              by_cases c3 : k < X.length
              · refine br_true (decide_eq_true ((by omega : (k : Int) < X.length))) ?_
                conv => whnf
                have hr1 : (at_ (List.replicate X.length (mk (-1))) k).day = -1 := by rw [rep_at c3]
                have hr2 : (at_ (List.replicate X.length (mk (-3))) k).day = -3 := by rw [rep_at c3]
                refine And.intro (by rw [List.length_replicate]; constructor <;> omega) ?_
                conv => whnf
                refine br_false (decide_eq_false ((fun x => x hr1))) ?_
                conv => whnf
                refine And.intro (by rw [List.length_replicate]; constructor <;> omega) ?_
                conv => whnf
                refine br_false (decide_eq_false ((fun x => x hr2))) ?_
                conv => whnf
                exact ⟨k + 1, c3, (by show X.length - (k + 1) < X.length - k; omega), (le_st (le_r rfl) (leE_i rfl (inc_id c3 (by omega)) (leE_i rfl rfl (leE_eq rfl (bnd_nf _ (nfL_Mov _ _)) (leE_eq rfl (bnd_nf _ (nfL_Mov _ _)) (leE_eq rfl (bnd_encT nf_encMov (lt_r rfl)) (leE_eq rfl (bnd_encT nf_encMov (lt_r rfl)) trivial)))))) trivial gl0n)⟩
              · refine br_false (decide_eq_false ((by omega : ¬ ((k : Int) < X.length)))) ?_
                conv => whnf
                refine call_x2 (copied_x ms (by omega)) (LeL.refl _) ?_
                rintro _ - rfl
                conv => whnf
                refine call_x2 (sameM_x (markM ms) (by rw [hl]; omega)) (LeL.refl _) ?_
                rintro _ - rfl
                conv => whnf
                refine fin_e ?_
                conv => whnf
                exact ⟨trivial, rfl⟩
            · conv => whnf
              obtain rfl : C = [] := hCd.trans (if_neg h)
              refine And.intro (by rw [hgl]; constructor <;> omega) ?_
              conv => whnf
              refine br_false (decide_eq_false ((fun x => x hg1))) ?_
              conv => whnf
              refine And.intro (by rw [hgl2]; constructor <;> omega) ?_
              conv => whnf
              refine br_false (decide_eq_false ((fun x => x hg2))) ?_
              conv => whnf
              refine call_x2 (sameL_x [] (by decide)) ⟨leA_nilL.le, (leA_drop (enc := encS) (xs := [])).le, trivial⟩ ?_
              rintro _ - rfl
              conv => whnf
              refine loop_at mixed (fun (k : Nat) => ([(23, I k), (10, I X.length), (0, encL encMov 14 ms), (7, encL encMov 14 (markM ms)), (8, encT (some 2) encMov 14 (List.replicate X.length (mk (-1)))), (14, encT (some 5) encMov 14 (List.replicate X.length (mk (-3))))], [], 6)) (fun k => k ≤ X.length) (fun k => X.length - k) 0 (Nat.zero_le _) (le_st (le_r rfl) (leE_i rfl rfl (leE_i rfl rfl (leE_eq rfl (bnd_nf _ (nfL_Mov _ _)) (leE_eq rfl (bnd_nf _ (nfL_Mov _ _)) (leE_eq rfl (bnd_encT nf_encMov (lt_r rfl)) (leE_eq rfl (bnd_encT nf_encMov (lt_r rfl)) trivial)))))) trivial gl0n) ?_
              intro k hk
              conv => whnf
              by_cases c3 : k < X.length
              · refine br_true (decide_eq_true ((by omega : (k : Int) < X.length))) ?_
                conv => whnf
                have hr1 : (at_ (List.replicate X.length (mk (-1))) k).day = -1 := by rw [rep_at c3]
                have hr2 : (at_ (List.replicate X.length (mk (-3))) k).day = -3 := by rw [rep_at c3]
                refine And.intro (by rw [List.length_replicate]; constructor <;> omega) ?_
                conv => whnf
                refine br_false (decide_eq_false ((fun x => x hr1))) ?_
                conv => whnf
                refine And.intro (by rw [List.length_replicate]; constructor <;> omega) ?_
                conv => whnf
                refine br_false (decide_eq_false ((fun x => x hr2))) ?_
                conv => whnf
                exact ⟨k + 1, c3, (by show X.length - (k + 1) < X.length - k; omega), (le_st (le_r rfl) (leE_i rfl (inc_id c3 (by omega)) (leE_i rfl rfl (leE_eq rfl (bnd_nf _ (nfL_Mov _ _)) (leE_eq rfl (bnd_nf _ (nfL_Mov _ _)) (leE_eq rfl (bnd_encT nf_encMov (lt_r rfl)) (leE_eq rfl (bnd_encT nf_encMov (lt_r rfl)) trivial)))))) trivial gl0n)⟩
              · refine br_false (decide_eq_false ((by omega : ¬ ((k : Int) < X.length)))) ?_
                conv => whnf
                refine call_x2 (copied_x ms (by omega)) (LeL.refl _) ?_
                rintro _ - rfl
                conv => whnf
                refine call_x2 (sameM_x (markM ms) (by rw [hl]; omega)) (LeL.refl _) ?_
                rintro _ - rfl
                conv => whnf
                refine fin_e ?_
                conv => whnf
                exact ⟨trivial, rfl⟩
        · conv => whnf
          replace hk : k < X.length := hk
          refine br_true (decide_eq_true ((by omega : (k : Int) < X.length))) ?_
          conv => whnf
          repeat' first
            | (rw [wpE_one])
            | (refine And.intro (by first | rfl | omega | (constructor <;> omega) | fail) ?_; (conv => whnf))
            | (rw [okN]; (try conv in (occs := *) (ev gl0 _ _) => all_goals whnf); (conv => whnf))
            | fail
          have hin := inc_id (k := k) (m := X.length) hk (by omega)
          by_cases hlast : k + 1 < X.length
          · exact ⟨some (k + 1), hlast, (by show X.length - (k + 1) + 1 < X.length - k + 1; omega), (le_st (le_r rfl) (leE_i rfl (hin) (leE_i rfl rfl (leE_eq rfl (bnd_nf _ (nfL_Mov _ _)) (leE_i rfl rfl (leE_i rfl rfl (leE_eq rfl (bnd_nf _ (nfL_Mov _ _)) (leE_eq rfl (bnd_encT nf_encMov (lt_r rfl)) (leE_eq rfl (bnd_encT nf_encMov (lt_r rfl)) (leE_eq rfl (.inl (lt_r rfl)) trivial))))))))) (leO_box (lt_r rfl) rfl (leA_setW rfl ) (bnd_nf _ ( (fun i => nf_encMov _))) trivial) gl0n)⟩
          · have hkk : k + 1 = X.length := by omega
            refine ⟨none, trivial, (by show 0 < X.length - k + 1; omega), ?_⟩
            refine (?_ : LeSt gl0 _ _ _ _ (stC ms X fr to X.length).1 (stC ms X fr to X.length).2.1 (stC ms X fr to X.length).2.2).trans (stCD ms X fr to)
            exact (le_st (le_r rfl) (leE_i rfl ((hin.trans (congrArg (fun n : Nat => (n : Int)) hkk))) (leE_i rfl rfl (leE_eq rfl (bnd_nf _ (nfL_Mov _ _)) (leE_i rfl rfl (leE_i rfl rfl (leE_eq rfl (bnd_nf _ (nfL_Mov _ _)) (leE_eq rfl (bnd_encT nf_encMov (lt_r rfl)) (leE_eq rfl (bnd_encT nf_encMov (lt_r rfl)) (leE_eq rfl (.inl (lt_r rfl)) trivial))))))))) (leO_box (lt_r rfl) rfl (leA_setL hkk rfl ) (bnd_nf _ ( (fun i => nf_encMov _))) trivial) gl0n)
      · conv => whnf
        replace hk : k < X.length := hk
        refine br_true (decide_eq_true ((by omega : (k : Int) < X.length))) ?_
        conv => whnf
        repeat' first
          | (rw [wpE_one])
          | (refine And.intro (by first | rfl | omega | (constructor <;> omega) | fail) ?_; (conv => whnf))
          | (rw [okN]; (try conv in (occs := *) (ev gl0 _ _) => all_goals whnf); (conv => whnf))
          | fail
        have hin := inc_id (k := k) (m := X.length) hk (by omega)
        by_cases hlast : k + 1 < X.length
        · exact ⟨some (k + 1), hlast, (by show X.length - (k + 1) + 1 < X.length - k + 1; omega), (le_st (le_r rfl) (leE_i rfl (hin) (leE_i rfl rfl (leE_eq rfl (bnd_nf _ (nfL_Mov _ _)) (leE_i rfl rfl (leE_i rfl rfl (leE_eq rfl (bnd_nf _ (nfL_Mov _ _)) (leE_eq rfl (.inl (lt_r rfl)) (leE_eq rfl (bnd_encT nf_encMov (lt_r rfl)) trivial)))))))) (leO_box (lt_r rfl) rfl (leA_setW rfl ) (bnd_nf _ ( (fun i => nf_encMov _))) (leO_room (lt_r rfl) rfl trivial)) gl0n)⟩
        · have hkk : k + 1 = X.length := by omega
          refine ⟨none, trivial, (by show 0 < X.length - k + 1; omega), ?_⟩
          refine (?_ : LeSt gl0 _ _ _ _ (stA ms X fr to X.length).1 (stA ms X fr to X.length).2.1 (stA ms X fr to X.length).2.2).trans (stAB ms X fr to)
          exact (le_st (le_r rfl) (leE_i rfl ((hin.trans (congrArg (fun n : Nat => (n : Int)) hkk))) (leE_i rfl rfl (leE_eq rfl (bnd_nf _ (nfL_Mov _ _)) (leE_i rfl rfl (leE_i rfl rfl (leE_eq rfl (bnd_nf _ (nfL_Mov _ _)) (leE_eq rfl (.inl (lt_r rfl)) (leE_eq rfl (bnd_encT nf_encMov (lt_r rfl)) trivial)))))))) (leO_box (lt_r rfl) rfl (leA_setL hkk rfl ) (bnd_nf _ ( (fun i => nf_encMov _))) (leO_room (lt_r rfl) rfl trivial)) gl0n)

end Go.Proofs.YtoglphkkhhjodaaDoor
