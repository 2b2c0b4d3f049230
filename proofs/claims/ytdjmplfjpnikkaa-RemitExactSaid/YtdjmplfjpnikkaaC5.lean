/- What was collected: by the program (begun). No condition. -/
import Derived.Test.YtdjmplfjpnikkaaC4
set_option linter.all false
namespace Go.Proofs.Ytdjmplfjpnikkaa
open Go Ar
set_option linter.unusedVariables false
set_option autoImplicit false
set_option maxHeartbeats 4000000
set_option maxRecDepth 100000

theorem xor_id {n : Int} (h : in64 n) : IntKind.i64.wrap ((BitVec.ofInt 64 (-1) ^^^ BitVec.ofInt 64 n).toNat) = -1 - n := by
  have e : BitVec.ofInt 64 (-1) = BitVec.allOnes 64 := by decide
  rw [e, BitVec.allOnes_xor, BitVec.toNat_not, BitVec.toNat_ofInt, IntKind.wrap_i64]
  unfold in64 at h
  omega

def upM (d : Int) (a : Nat) (m : Mov) : List Int := if selM d m then [-1 - m.net a] else []
def upL (d : Int) (a : Nat) (ms : List Mov) : List Int := ms.flatMap (upM d a)
theorem upM_len (d : Int) (a : Nat) (m : Mov) : (upM d a m).length ≤ 1 := by unfold upM; split <;> simp
theorem upL_len (d : Int) (a : Nat) : ∀ ms : List Mov, (upL d a ms).length ≤ ms.length
  | [] => Nat.le_refl _
  | m :: r => by
    have h1 := upM_len d a m
    have h2 := upL_len d a r
    show (upM d a m ++ upL d a r).length ≤ r.length + 1
    rw [List.length_append]; omega
theorem upL_take {d : Int} {a : Nat} {ms : List Mov} {k : Nat} (h : k < ms.length) : upL d a (ms.take (k + 1)) = upL d a (ms.take k) ++ upM d a (at_ ms k) := by
  unfold upL
  rw [take_at h, List.flatMap_append]
  simp

/-- The program's list and its length come to what the document's list comes to. -/
theorem up_low (d : Int) (a : Nat) : ∀ ms : List Mov, (upL d a ms).sum + (upL d a ms).length = colS d a ms
  | [] => rfl
  | m :: r => by
    have h := up_low d a r
    show (upM d a m ++ upL d a r).sum + ((upM d a m ++ upL d a r).length : Nat) = (lowM d a m ++ lowL d a r).sum
    have h : (upL d a r).sum + ((upL d a r).length : Nat) = (lowL d a r).sum := h
    rw [List.sum_append, List.sum_append, List.length_append, ← h]
    unfold upM lowM
    split
    · simp; omega
    · simp

end Go.Proofs.Ytdjmplfjpnikkaa
namespace Go.Proofs.Ytdjmplfjpnikkaa
open Go Ar
set_option linter.unusedVariables false
set_option autoImplicit false
set_option maxHeartbeats 4000000
set_option maxRecDepth 100000

def cV (d : Int) (ms : List Mov) (a : Nat) : Int := if in64 (colS d a ms) then colS d a ms else 0
def cA (d : Int) (ms : List Mov) (c i : Nat) : Int := if i < c then cV d ms (i + 1) else 0
def cK (d : Int) (ms : List Mov) (c : Nat) : Bool := match c with
  | 0 => true
  | 1 => decide (in64 (colS d 1 ms))
  | _ => decide (in64 (colS d 1 ms) ∧ in64 (colS d 2 ms))

theorem collected_x (ms : List Mov) (d : Int) (hm : ∀ m ∈ ms, ∀ a, a < 12 → in64 (m.net a)) (hn : ms.length ≤ 1000) : PureX Try.prog gl0 remit_collected [encL encMov 14 ms, I d] (fun r => r = tup2 (.arr 2 1 (fun i => I (cA d ms 2 i))) (B (cK d ms 2))) := by
  refine pure_fnX mixed fn_remit_collected nt_remit_collected hc_remit_collected (by simp) gl0n (by simp [nf]) ?_
  conv => whnf
  have hn2 : (ms.length : Int) < 9223372036854775808 := by omega
  refine loop_at mixed (fun (c : Nat) => ([(12, I c), (0, encL encMov 14 ms), (1, I d), (4, .ptr 0 []), (5, B (cK d ms c))], [(0, .box (.arr 2 1 (fun i => I (cA d ms c i))))], 1)) (fun c => c ≤ 2) (fun c => 2 - c) 0 (Nat.zero_le _) (le_st (le_r rfl) (leE_i rfl rfl (leE_eq rfl (bnd_nf _ (nfL_Mov _ _)) (leE_i rfl rfl (leE_ptr rfl rfl (leE_eq rfl (bnd_nf _ (trivial)) trivial))))) (leO_box (lt_r rfl) rfl (LeA.arr (fun i hi => LeA.of_eq rfl) ) (bnd_nf _ ( (fun i => trivial))) trivial) gl0n) ?_
  intro c hc
  rcases (show c = 0 ∨ c = 1 ∨ c = 2 by omega) with rfl | rfl | rfl
  · conv => whnf
    refine loop_at mixed (fun (k : Nat) => ([(17, I k), (16, I ms.length), (15, encL encMov 14 ms), (7, encT (some 1) I 1 (upL d 1 (ms.take k))), (0, encL encMov 14 ms), (1, I d), (4, .ptr 0 []), (5, B (cK d ms 0)), (6, I 0), (12, I 0)], [(0, .box (.arr 2 1 (fun i => I (cA d ms 0 i)))), (1, .room (upL d 1 (ms.take k)).length 1 2)], 2)) (fun k => k ≤ ms.length) (fun k => ms.length - k) 0 (Nat.zero_le _) ((le_nil 7 1 2 (fun i => I (at_ (upL d 1 (ms.take 0)) i)) rfl).trans (le_st (le_r rfl) (leE_i rfl rfl (leE_i rfl rfl (leE_eq rfl (bnd_nf _ (nfL_Mov _ _)) (leE_eq rfl (bnd_encT nf_I (lt_r rfl)) (leE_eq rfl (bnd_nf _ (nfL_Mov _ _)) (leE_i rfl rfl (leE_ptr rfl rfl (leE_eq rfl (bnd_nf _ (trivial)) (leE_i rfl rfl (leE_i rfl rfl trivial)))))))))) (leO_box (lt_r rfl) rfl (LeA.refl _) (bnd_nf _ ((fun i => trivial))) (leO_room (lt_r rfl) rfl trivial)) gl0n)) ?_
    intro k hk
    conv => whnf
    by_cases c : k < ms.length
    · refine br_true (decide_eq_true ((by omega : (k : Int) < ms.length))) ?_
      conv => whnf
      refine ⟨by omega, ?_⟩
      conv => whnf
      have hmk := hm _ (at_mem c) 1 (by decide)
      have hlen := upL_len d 1 (ms.take k)
      rw [List.length_take] at hlen
      by_cases c1 : (at_ ms k).kind = 2
      · refine br_true (decide_eq_true (c1)) ?_
        conv => whnf
        by_cases c3 : (at_ ms k).day ≤ d
        · refine br_true (decide_eq_true (c3)) ?_
          conv => whnf
          repeat' first
            | (refine call_x2 (columns_x ()) trivial ?_; (rintro _ - rfl); (conv => whnf))
            | (refine And.intro (by first | rfl | omega | decide | (constructor <;> omega) | (simp only [List.length_cons, List.length_nil]; omega) | fail) ?_; (conv => whnf))
            | fail
          refine ⟨k + 1, c, (by show ms.length - (k + 1) < ms.length - k; omega), ?_⟩
          dsimp only
          rw [upL_take c, show upM d 1 (at_ ms k) = [-1 - (at_ ms k).net 1] from if_pos ⟨.inl c1, c3⟩]
          exact le_st (le_r rfl) (leE_i rfl (inc_id c hn2) (leE_i rfl rfl (leE_eq rfl (bnd_nf _ (nfL_Mov _ _)) (leE_le rfl (leA_snoc (enc := I) (LeA.of_eq (congrArg (fun n => I n) (show IntKind.i64.wrap ((BitVec.ofInt 64 (-1) ^^^ BitVec.ofInt 64 ((at_ ms k).net 1)).toNat) = -1 - (at_ ms k).net 1 from xor_id hmk)))).le (bnd_encT nf_I (lt_r rfl)) (leE_eq rfl (bnd_nf _ (nfL_Mov _ _)) (leE_i rfl rfl (leE_ptr rfl rfl (leE_b rfl rfl (leE_i rfl rfl (leE_i rfl rfl trivial)))))))))) (leO_box (lt_r rfl) rfl (LeA.refl _) (bnd_nf _ (fun i => trivial)) (leO_room (lt_r rfl) (by simp; rfl) trivial)) gl0n
        · refine br_false (decide_eq_false (c3)) ?_
          conv => whnf
          refine ⟨k + 1, c, (by show ms.length - (k + 1) < ms.length - k; omega), ?_⟩
          dsimp only
          rw [upL_take c, show upM d 1 (at_ ms k) = [] from if_neg (fun h => c3 h.2), List.append_nil]
          exact (le_st (le_r rfl) (leE_i rfl (inc_id c hn2) (leE_i rfl rfl (leE_eq rfl (bnd_nf _ (nfL_Mov _ _)) (leE_eq rfl (bnd_encT nf_I (lt_r rfl)) (leE_eq rfl (bnd_nf _ (nfL_Mov _ _)) (leE_i rfl rfl (leE_ptr rfl rfl (leE_eq rfl (bnd_nf _ (trivial)) (leE_i rfl rfl (leE_i rfl rfl trivial)))))))))) (leO_box (lt_r rfl) rfl (LeA.refl _) (bnd_nf _ ((fun i => trivial))) (leO_room (lt_r rfl) rfl trivial)) gl0n)
      · refine br_false (decide_eq_false (c1)) ?_
        conv => whnf
        by_cases c2 : (at_ ms k).kind = 3
        · refine br_true (decide_eq_true (c2)) ?_
          conv => whnf
          by_cases c3 : (at_ ms k).day ≤ d
          · refine br_true (decide_eq_true (c3)) ?_
            conv => whnf
            repeat' first
              | (refine call_x2 (columns_x ()) trivial ?_; (rintro _ - rfl); (conv => whnf))
              | (refine And.intro (by first | rfl | omega | decide | (constructor <;> omega) | (simp only [List.length_cons, List.length_nil]; omega) | fail) ?_; (conv => whnf))
              | fail
            refine ⟨k + 1, c, (by show ms.length - (k + 1) < ms.length - k; omega), ?_⟩
            dsimp only
            rw [upL_take c, show upM d 1 (at_ ms k) = [-1 - (at_ ms k).net 1] from if_pos ⟨.inr c2, c3⟩]
            exact le_st (le_r rfl) (leE_i rfl (inc_id c hn2) (leE_i rfl rfl (leE_eq rfl (bnd_nf _ (nfL_Mov _ _)) (leE_le rfl (leA_snoc (enc := I) (LeA.of_eq (congrArg (fun n => I n) (show IntKind.i64.wrap ((BitVec.ofInt 64 (-1) ^^^ BitVec.ofInt 64 ((at_ ms k).net 1)).toNat) = -1 - (at_ ms k).net 1 from xor_id hmk)))).le (bnd_encT nf_I (lt_r rfl)) (leE_eq rfl (bnd_nf _ (nfL_Mov _ _)) (leE_i rfl rfl (leE_ptr rfl rfl (leE_b rfl rfl (leE_i rfl rfl (leE_i rfl rfl trivial)))))))))) (leO_box (lt_r rfl) rfl (LeA.refl _) (bnd_nf _ (fun i => trivial)) (leO_room (lt_r rfl) (by simp; rfl) trivial)) gl0n
          · refine br_false (decide_eq_false (c3)) ?_
            conv => whnf
            refine ⟨k + 1, c, (by show ms.length - (k + 1) < ms.length - k; omega), ?_⟩
            dsimp only
            rw [upL_take c, show upM d 1 (at_ ms k) = [] from if_neg (fun h => c3 h.2), List.append_nil]
            exact (le_st (le_r rfl) (leE_i rfl (inc_id c hn2) (leE_i rfl rfl (leE_eq rfl (bnd_nf _ (nfL_Mov _ _)) (leE_eq rfl (bnd_encT nf_I (lt_r rfl)) (leE_eq rfl (bnd_nf _ (nfL_Mov _ _)) (leE_i rfl rfl (leE_ptr rfl rfl (leE_eq rfl (bnd_nf _ (trivial)) (leE_i rfl rfl (leE_i rfl rfl trivial)))))))))) (leO_box (lt_r rfl) rfl (LeA.refl _) (bnd_nf _ ((fun i => trivial))) (leO_room (lt_r rfl) rfl trivial)) gl0n)
        · refine br_false (decide_eq_false (c2)) ?_
          conv => whnf
          refine ⟨k + 1, c, (by show ms.length - (k + 1) < ms.length - k; omega), ?_⟩
          dsimp only
          rw [upL_take c, show upM d 1 (at_ ms k) = [] from if_neg (fun h => h.1.elim c1 c2), List.append_nil]
          exact (le_st (le_r rfl) (leE_i rfl (inc_id c hn2) (leE_i rfl rfl (leE_eq rfl (bnd_nf _ (nfL_Mov _ _)) (leE_eq rfl (bnd_encT nf_I (lt_r rfl)) (leE_eq rfl (bnd_nf _ (nfL_Mov _ _)) (leE_i rfl rfl (leE_ptr rfl rfl (leE_eq rfl (bnd_nf _ (trivial)) (leE_i rfl rfl (leE_i rfl rfl trivial)))))))))) (leO_box (lt_r rfl) rfl (LeA.refl _) (bnd_nf _ ((fun i => trivial))) (leO_room (lt_r rfl) rfl trivial)) gl0n)
    · refine br_false (decide_eq_false ((by omega : ¬ ((k : Int) < ms.length)))) ?_
      conv => whnf
      obtain rfl : k = ms.length := by omega
      rw [List.take_length]
      have hln := upL_len d 1 ms
      refine And.intro rfl (And.intro (by simp only [List.length_cons, List.length_nil]; omega) ?_)
      conv => whnf
      have hS := mSum_x (upL d 1 ms ++ [((upL d 1 ms).length : Int)]) (fun x hx => (by
        rcases List.mem_append.1 hx with hx | hx
        · obtain ⟨m, h1, h2⟩ := List.mem_flatMap.1 hx
          have h3 := hm m h1 1 (by decide)
          unfold upM at h2
          split at h2
          · simp only [List.mem_cons, List.mem_nil_iff, or_false] at h2
            unfold in64 at h3 ⊢
            omega
          · cases h2
        · simp only [List.mem_cons, List.mem_nil_iff, or_false] at hx
          unfold in64
          omega)) (by simp; omega)
      rw [show (upL d 1 ms ++ [((upL d 1 ms).length : Int)]).sum = colS d 1 ms by rw [List.sum_append, ← up_low d 1 ms]; simp] at hS
      by_cases c5 : in64 (colS d 1 ms)
      · rw [sumV_yes c5] at hS
        refine call_x2 hS ⟨((leA_snoc (enc := I) (tok := some 1) (LeA.refl _)).trans leA_drop).le, trivial⟩ ?_
        rintro _ - rfl
        conv => whnf
        refine And.intro (by decide) ?_
        conv => whnf
        repeat' first
          | (rw [okN]; (conv => whnf))
          | fail
        exact ⟨1, by decide, by decide, (le_st (le_r rfl) (leE_i rfl ((by decide)) (leE_eq rfl (bnd_nf _ (nfL_Mov _ _)) (leE_i rfl rfl (leE_ptr rfl rfl (leE_le rfl ((LeA.of_eq (congrArg (fun b => B b) ((decide_eq_true c5).symm))).le ) (bnd_nf _ ( trivial)) trivial))))) (leO_box (lt_r rfl) rfl (leA_setF (p := 0) rfl (by simp [cA, cV, c5]) (fun i hi => by unfold cA; by_cases h : i < 0; rw [if_pos h, if_pos (by omega)]; rw [if_neg h, if_neg (by omega)]) ) (bnd_nf _ ( (fun i => trivial))) trivial) gl0n)⟩
      · rw [sumV_no c5] at hS
        refine call_x2 hS ⟨((leA_snoc (enc := I) (tok := some 1) (LeA.refl _)).trans leA_drop).le, trivial⟩ ?_
        rintro _ - rfl
        conv => whnf
        refine And.intro (by decide) ?_
        conv => whnf
        repeat' first
          | (rw [okN]; (conv => whnf))
          | fail
        exact ⟨1, by decide, by decide, (le_st (le_r rfl) (leE_i rfl ((by decide)) (leE_eq rfl (bnd_nf _ (nfL_Mov _ _)) (leE_i rfl rfl (leE_ptr rfl rfl (leE_le rfl ((LeA.of_eq (congrArg (fun b => B b) ((decide_eq_false c5).symm))).le ) (bnd_nf _ ( trivial)) trivial))))) (leO_box (lt_r rfl) rfl (leA_setF (p := 0) rfl (by simp [cA, cV, c5]) (fun i hi => by unfold cA; by_cases h : i < 0; rw [if_pos h, if_pos (by omega)]; rw [if_neg h, if_neg (by omega)]) ) (bnd_nf _ ( (fun i => trivial))) trivial) gl0n)⟩
  · conv => whnf
    refine loop_at mixed (fun (k : Nat) => ([(17, I k), (16, I ms.length), (15, encL encMov 14 ms), (7, encT (some 1) I 1 (upL d 2 (ms.take k))), (0, encL encMov 14 ms), (1, I d), (4, .ptr 0 []), (5, B (cK d ms 1)), (6, I 1), (12, I 1)], [(0, .box (.arr 2 1 (fun i => I (cA d ms 1 i)))), (1, .room (upL d 2 (ms.take k)).length 1 2)], 2)) (fun k => k ≤ ms.length) (fun k => ms.length - k) 0 (Nat.zero_le _) ((le_nil 7 1 2 (fun i => I (at_ (upL d 2 (ms.take 0)) i)) rfl).trans (le_st (le_r rfl) (leE_i rfl rfl (leE_i rfl rfl (leE_eq rfl (bnd_nf _ (nfL_Mov _ _)) (leE_eq rfl (bnd_encT nf_I (lt_r rfl)) (leE_eq rfl (bnd_nf _ (nfL_Mov _ _)) (leE_i rfl rfl (leE_ptr rfl rfl (leE_eq rfl (bnd_nf _ (trivial)) (leE_i rfl rfl (leE_i rfl rfl trivial)))))))))) (leO_box (lt_r rfl) rfl (LeA.refl _) (bnd_nf _ ((fun i => trivial))) (leO_room (lt_r rfl) rfl trivial)) gl0n)) ?_
    intro k hk
    conv => whnf
    by_cases c : k < ms.length
    · refine br_true (decide_eq_true ((by omega : (k : Int) < ms.length))) ?_
      conv => whnf
      refine ⟨by omega, ?_⟩
      conv => whnf
      have hmk := hm _ (at_mem c) 2 (by decide)
      have hlen := upL_len d 2 (ms.take k)
      rw [List.length_take] at hlen
      by_cases c1 : (at_ ms k).kind = 2
      · refine br_true (decide_eq_true (c1)) ?_
        conv => whnf
        by_cases c3 : (at_ ms k).day ≤ d
        · refine br_true (decide_eq_true (c3)) ?_
          conv => whnf
          repeat' first
            | (refine call_x2 (columns_x ()) trivial ?_; (rintro _ - rfl); (conv => whnf))
            | (refine And.intro (by first | rfl | omega | decide | (constructor <;> omega) | (simp only [List.length_cons, List.length_nil]; omega) | fail) ?_; (conv => whnf))
            | fail
          refine ⟨k + 1, c, (by show ms.length - (k + 1) < ms.length - k; omega), ?_⟩
          dsimp only
          rw [upL_take c, show upM d 2 (at_ ms k) = [-1 - (at_ ms k).net 2] from if_pos ⟨.inl c1, c3⟩]
          exact le_st (le_r rfl) (leE_i rfl (inc_id c hn2) (leE_i rfl rfl (leE_eq rfl (bnd_nf _ (nfL_Mov _ _)) (leE_le rfl (leA_snoc (enc := I) (LeA.of_eq (congrArg (fun n => I n) (show IntKind.i64.wrap ((BitVec.ofInt 64 (-1) ^^^ BitVec.ofInt 64 ((at_ ms k).net 2)).toNat) = -1 - (at_ ms k).net 2 from xor_id hmk)))).le (bnd_encT nf_I (lt_r rfl)) (leE_eq rfl (bnd_nf _ (nfL_Mov _ _)) (leE_i rfl rfl (leE_ptr rfl rfl (leE_b rfl rfl (leE_i rfl rfl (leE_i rfl rfl trivial)))))))))) (leO_box (lt_r rfl) rfl (LeA.refl _) (bnd_nf _ (fun i => trivial)) (leO_room (lt_r rfl) (by simp; rfl) trivial)) gl0n
        · refine br_false (decide_eq_false (c3)) ?_
          conv => whnf
          refine ⟨k + 1, c, (by show ms.length - (k + 1) < ms.length - k; omega), ?_⟩
          dsimp only
          rw [upL_take c, show upM d 2 (at_ ms k) = [] from if_neg (fun h => c3 h.2), List.append_nil]
          exact (le_st (le_r rfl) (leE_i rfl (inc_id c hn2) (leE_i rfl rfl (leE_eq rfl (bnd_nf _ (nfL_Mov _ _)) (leE_eq rfl (bnd_encT nf_I (lt_r rfl)) (leE_eq rfl (bnd_nf _ (nfL_Mov _ _)) (leE_i rfl rfl (leE_ptr rfl rfl (leE_eq rfl (bnd_nf _ (trivial)) (leE_i rfl rfl (leE_i rfl rfl trivial)))))))))) (leO_box (lt_r rfl) rfl (LeA.refl _) (bnd_nf _ ((fun i => trivial))) (leO_room (lt_r rfl) rfl trivial)) gl0n)
      · refine br_false (decide_eq_false (c1)) ?_
        conv => whnf
        by_cases c2 : (at_ ms k).kind = 3
        · refine br_true (decide_eq_true (c2)) ?_
          conv => whnf
          by_cases c3 : (at_ ms k).day ≤ d
          · refine br_true (decide_eq_true (c3)) ?_
            conv => whnf
            repeat' first
              | (refine call_x2 (columns_x ()) trivial ?_; (rintro _ - rfl); (conv => whnf))
              | (refine And.intro (by first | rfl | omega | decide | (constructor <;> omega) | (simp only [List.length_cons, List.length_nil]; omega) | fail) ?_; (conv => whnf))
              | fail
            refine ⟨k + 1, c, (by show ms.length - (k + 1) < ms.length - k; omega), ?_⟩
            dsimp only
            rw [upL_take c, show upM d 2 (at_ ms k) = [-1 - (at_ ms k).net 2] from if_pos ⟨.inr c2, c3⟩]
            exact le_st (le_r rfl) (leE_i rfl (inc_id c hn2) (leE_i rfl rfl (leE_eq rfl (bnd_nf _ (nfL_Mov _ _)) (leE_le rfl (leA_snoc (enc := I) (LeA.of_eq (congrArg (fun n => I n) (show IntKind.i64.wrap ((BitVec.ofInt 64 (-1) ^^^ BitVec.ofInt 64 ((at_ ms k).net 2)).toNat) = -1 - (at_ ms k).net 2 from xor_id hmk)))).le (bnd_encT nf_I (lt_r rfl)) (leE_eq rfl (bnd_nf _ (nfL_Mov _ _)) (leE_i rfl rfl (leE_ptr rfl rfl (leE_b rfl rfl (leE_i rfl rfl (leE_i rfl rfl trivial)))))))))) (leO_box (lt_r rfl) rfl (LeA.refl _) (bnd_nf _ (fun i => trivial)) (leO_room (lt_r rfl) (by simp; rfl) trivial)) gl0n
          · refine br_false (decide_eq_false (c3)) ?_
            conv => whnf
            refine ⟨k + 1, c, (by show ms.length - (k + 1) < ms.length - k; omega), ?_⟩
            dsimp only
            rw [upL_take c, show upM d 2 (at_ ms k) = [] from if_neg (fun h => c3 h.2), List.append_nil]
            exact (le_st (le_r rfl) (leE_i rfl (inc_id c hn2) (leE_i rfl rfl (leE_eq rfl (bnd_nf _ (nfL_Mov _ _)) (leE_eq rfl (bnd_encT nf_I (lt_r rfl)) (leE_eq rfl (bnd_nf _ (nfL_Mov _ _)) (leE_i rfl rfl (leE_ptr rfl rfl (leE_eq rfl (bnd_nf _ (trivial)) (leE_i rfl rfl (leE_i rfl rfl trivial)))))))))) (leO_box (lt_r rfl) rfl (LeA.refl _) (bnd_nf _ ((fun i => trivial))) (leO_room (lt_r rfl) rfl trivial)) gl0n)
        · refine br_false (decide_eq_false (c2)) ?_
          conv => whnf
          refine ⟨k + 1, c, (by show ms.length - (k + 1) < ms.length - k; omega), ?_⟩
          dsimp only
          rw [upL_take c, show upM d 2 (at_ ms k) = [] from if_neg (fun h => h.1.elim c1 c2), List.append_nil]
          exact (le_st (le_r rfl) (leE_i rfl (inc_id c hn2) (leE_i rfl rfl (leE_eq rfl (bnd_nf _ (nfL_Mov _ _)) (leE_eq rfl (bnd_encT nf_I (lt_r rfl)) (leE_eq rfl (bnd_nf _ (nfL_Mov _ _)) (leE_i rfl rfl (leE_ptr rfl rfl (leE_eq rfl (bnd_nf _ (trivial)) (leE_i rfl rfl (leE_i rfl rfl trivial)))))))))) (leO_box (lt_r rfl) rfl (LeA.refl _) (bnd_nf _ ((fun i => trivial))) (leO_room (lt_r rfl) rfl trivial)) gl0n)
    · refine br_false (decide_eq_false ((by omega : ¬ ((k : Int) < ms.length)))) ?_
      conv => whnf
      obtain rfl : k = ms.length := by omega
      rw [List.take_length]
      have hln := upL_len d 2 ms
      refine And.intro rfl (And.intro (by simp only [List.length_cons, List.length_nil]; omega) ?_)
      conv => whnf
      have hS := mSum_x (upL d 2 ms ++ [((upL d 2 ms).length : Int)]) (fun x hx => (by
        rcases List.mem_append.1 hx with hx | hx
        · obtain ⟨m, h1, h2⟩ := List.mem_flatMap.1 hx
          have h3 := hm m h1 2 (by decide)
          unfold upM at h2
          split at h2
          · simp only [List.mem_cons, List.mem_nil_iff, or_false] at h2
            unfold in64 at h3 ⊢
            omega
          · cases h2
        · simp only [List.mem_cons, List.mem_nil_iff, or_false] at hx
          unfold in64
          omega)) (by simp; omega)
      rw [show (upL d 2 ms ++ [((upL d 2 ms).length : Int)]).sum = colS d 2 ms by rw [List.sum_append, ← up_low d 2 ms]; simp] at hS
      by_cases c5 : in64 (colS d 2 ms)
      · rw [sumV_yes c5] at hS
        refine call_x2 hS ⟨((leA_snoc (enc := I) (tok := some 1) (LeA.refl _)).trans leA_drop).le, trivial⟩ ?_
        rintro _ - rfl
        conv => whnf
        by_cases c6 : in64 (colS d 1 ms)
        · refine br_true (decide_eq_true (c6)) ?_
          conv => whnf
          refine br_true (decide_eq_true (c6)) ?_
          conv => whnf
          repeat' first
            | (refine And.intro (by first | decide | omega | (constructor <;> omega) | fail) ?_; (conv => whnf))
            | (rw [okN]; (conv => whnf))
            | fail
          exact ⟨2, by decide, by decide, (le_st (le_r rfl) (leE_i rfl ((by decide)) (leE_eq rfl (bnd_nf _ (nfL_Mov _ _)) (leE_i rfl rfl (leE_ptr rfl rfl (leE_le rfl ((LeA.of_eq (congrArg (fun b => B b) ((decide_eq_true ⟨c6, c5⟩).symm))).le ) (bnd_nf _ ( trivial)) trivial))))) (leO_box (lt_r rfl) rfl (leA_setF (p := 1) rfl (by simp [cA, cV, c5]) (fun i hi => by unfold cA; by_cases h : i < 1; rw [if_pos h, if_pos (by omega)]; rw [if_neg h, if_neg (by omega)]) ) (bnd_nf _ ( (fun i => trivial))) trivial) gl0n)⟩
        · refine br_false (decide_eq_false (c6)) ?_
          conv => whnf
          refine br_false (decide_eq_false (c6)) ?_
          conv => whnf
          repeat' first
            | (refine And.intro (by first | decide | omega | (constructor <;> omega) | fail) ?_; (conv => whnf))
            | (rw [okN]; (conv => whnf))
            | fail
          exact ⟨2, by decide, by decide, (le_st (le_r rfl) (leE_i rfl ((by decide)) (leE_eq rfl (bnd_nf _ (nfL_Mov _ _)) (leE_i rfl rfl (leE_ptr rfl rfl (leE_le rfl ((LeA.of_eq (congrArg (fun b => B b) ((decide_eq_false (fun h => c6 h.1)).symm))).le ) (bnd_nf _ ( trivial)) trivial))))) (leO_box (lt_r rfl) rfl (leA_setF (p := 1) rfl (by simp [cA, cV, c5]) (fun i hi => by unfold cA; by_cases h : i < 1; rw [if_pos h, if_pos (by omega)]; rw [if_neg h, if_neg (by omega)]) ) (bnd_nf _ ( (fun i => trivial))) trivial) gl0n)⟩
      · rw [sumV_no c5] at hS
        refine call_x2 hS ⟨((leA_snoc (enc := I) (tok := some 1) (LeA.refl _)).trans leA_drop).le, trivial⟩ ?_
        rintro _ - rfl
        conv => whnf
        by_cases c6 : in64 (colS d 1 ms)
        · refine br_true (decide_eq_true (c6)) ?_
          conv => whnf
          refine br_true (decide_eq_true (c6)) ?_
          conv => whnf
          repeat' first
            | (refine And.intro (by first | decide | omega | (constructor <;> omega) | fail) ?_; (conv => whnf))
            | (rw [okN]; (conv => whnf))
            | fail
          exact ⟨2, by decide, by decide, (le_st (le_r rfl) (leE_i rfl ((by decide)) (leE_eq rfl (bnd_nf _ (nfL_Mov _ _)) (leE_i rfl rfl (leE_ptr rfl rfl (leE_le rfl ((LeA.of_eq (congrArg (fun b => B b) ((decide_eq_false (fun h => c5 h.2)).symm))).le ) (bnd_nf _ ( trivial)) trivial))))) (leO_box (lt_r rfl) rfl (leA_setF (p := 1) rfl (by simp [cA, cV, c5]) (fun i hi => by unfold cA; by_cases h : i < 1; rw [if_pos h, if_pos (by omega)]; rw [if_neg h, if_neg (by omega)]) ) (bnd_nf _ ( (fun i => trivial))) trivial) gl0n)⟩
        · refine br_false (decide_eq_false (c6)) ?_
          conv => whnf
          refine br_false (decide_eq_false (c6)) ?_
          conv => whnf
          repeat' first
            | (refine And.intro (by first | decide | omega | (constructor <;> omega) | fail) ?_; (conv => whnf))
            | (rw [okN]; (conv => whnf))
            | fail
          exact ⟨2, by decide, by decide, (le_st (le_r rfl) (leE_i rfl ((by decide)) (leE_eq rfl (bnd_nf _ (nfL_Mov _ _)) (leE_i rfl rfl (leE_ptr rfl rfl (leE_le rfl ((LeA.of_eq (congrArg (fun b => B b) ((decide_eq_false (fun h => c6 h.1)).symm))).le ) (bnd_nf _ ( trivial)) trivial))))) (leO_box (lt_r rfl) rfl (leA_setF (p := 1) rfl (by simp [cA, cV, c5]) (fun i hi => by unfold cA; by_cases h : i < 1; rw [if_pos h, if_pos (by omega)]; rw [if_neg h, if_neg (by omega)]) ) (bnd_nf _ ( (fun i => trivial))) trivial) gl0n)⟩
  · conv => whnf
    refine fin_e ?_
    conv => whnf
    exact ⟨⟨fun i => trivial, trivial, trivial⟩, rfl⟩

end Go.Proofs.Ytdjmplfjpnikkaa
namespace Go.Proofs.Ytdjmplfjpnikkaa
open Go Ar
set_option linter.unusedVariables false
set_option autoImplicit false
set_option maxHeartbeats 4000000
set_option maxRecDepth 100000

theorem col_x (ms : List Mov) (d : Int) (hm : ∀ m ∈ ms, ∀ a, a < 12 → in64 (m.net a)) (hn : ms.length ≤ 1000) : PureX Try.prog gl0 remit_Collected [encL encMov 14 ms, I d] (fun r => r = colV d ms) := by
  refine pure_fnX mixed fn_remit_Collected nt_remit_Collected hc_remit_Collected (by simp) gl0n (by simp [nf]) ?_
  conv => whnf
  refine call_x2 (collected_x ms d hm hn) (LeL.refl _) ?_
  rintro _ - rfl
  conv => whnf
  unfold colV
  by_cases c : in64 (colS d 1 ms) ∧ in64 (colS d 2 ms)
  · refine br_false (show (!cK d ms 2) = false by rw [show cK d ms 2 = true from decide_eq_true c]; rfl) ?_
    conv => whnf
    rw [if_pos c]
    repeat' first
      | (refine And.intro (by first | decide | omega | (constructor <;> omega) | fail) ?_; (conv => whnf))
      | fail
    refine fin_e ?_
    conv => whnf
    refine ⟨by simp [packA, consL, nf], ?_⟩
    show tup3 (I (cA d ms 2 0)) (I (cA d ms 2 1)) (B true) = _
    simp [cA, cV, c.1, c.2]
  · refine br_true (show (!cK d ms 2) = true by rw [show cK d ms 2 = false from decide_eq_false c]; rfl) ?_
    conv => whnf
    rw [if_neg c]
    refine fin_e ?_
    conv => whnf
    exact ⟨by simp [packA, consL, nf], rfl⟩

end Go.Proofs.Ytdjmplfjpnikkaa
