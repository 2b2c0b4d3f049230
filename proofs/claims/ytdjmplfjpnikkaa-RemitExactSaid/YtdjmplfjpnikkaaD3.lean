/- Movements and shares are written over in their own places. No condition. -/
import Derived.Test.YtdjmplfjpnikkaaD2
import Derived.Test.YtdjmplfjpnikkaaA8
set_option linter.all false
namespace Go.Proofs.Ytdjmplfjpnikkaa
open Go Ar
set_option linter.unusedVariables false
set_option autoImplicit false
set_option maxHeartbeats 4000000
set_option maxRecDepth 100000

def newM (i : Nat) (m : Mov) : Mov := ⟨m.day, m.kind, fun a => if a = 1 then -(2 * (i : Int)) - 1 else if a = 2 then -(i : Int) - 1 else m.net a⟩
def newS (i : Nat) : Shr := ⟨(i : Int) + 1, (i : Int) % 3 + 1⟩
def nM (ms : List Mov) : List Mov := (List.range ms.length).map fun i => newM i (at_ ms i)
def nS (n : Nat) : List Shr := (List.range n).map newS
theorem nM_len (ms : List Mov) : (nM ms).length = ms.length := by simp [nM]
theorem nS_len (n : Nat) : (nS n).length = n := by simp [nS]
theorem nM_at {ms : List Mov} {i : Nat} (h : i < ms.length) : at_ (nM ms) i = newM i (at_ ms i) := by
  unfold nM at_
  simp [List.getD_eq_getElem?_getD, h]
theorem nS_at {n i : Nat} (h : i < n) : at_ (nS n) i = newS i := by
  unfold nS at_
  simp [List.getD_eq_getElem?_getD, h]
theorem nM_net {ms : List Mov} (hl : ms.length ≤ 400) (hm : ∀ m ∈ ms, ∀ a, a < 12 → in64 (m.net a)) : ∀ m ∈ nM ms, ∀ a, a < 12 → in64 (m.net a) := by
  intro m h a ha
  obtain ⟨i, h1, rfl⟩ := List.mem_map.1 h
  have h1 := List.mem_range.1 h1
  show in64 (if a = 1 then -(2 * (i : Int)) - 1 else if a = 2 then -(i : Int) - 1 else (at_ ms i).net a)
  split
  · unfold in64; omega
  · split
    · unfold in64; omega
    · exact hm _ (at_mem h1) a ha

theorem newS_w {k : Nat} (h : k < 9223372036854775806) : (⟨IntKind.i64.wrap ((k : Int) + 1), IntKind.i64.wrap (Int.tmod (k : Int) 3 + 1)⟩ : Shr) = newS k := by
  rw [Int.tmod_eq_emod_of_nonneg (by omega), wrap_id (show in64 ((k : Int) + 1) by unfold in64; omega), wrap_id (show in64 ((k : Int) % 3 + 1) by unfold in64; omega)]
  rfl

theorem leA_nS {n : Nat} {g : Nat → Shr} : LeA (.lst none n 2 (fun i => encShr ((fun i => if i < n then newS i else g i) (0 + i)))) (encL encShr 2 (nS n)) := by
  show LeA _ (.lst none (nS n).length 2 (fun i => encShr (at_ (nS n) i)))
  rw [nS_len]
  exact LeA.lst (.inr rfl) fun i hi => LeA.of_eq (congrArg encShr (by rw [Nat.zero_add]; show (if i < n then newS i else g i) = _; rw [if_pos hi, nS_at hi]))

theorem leA_nM {ms : List Mov} : LeA (.lst none ms.length 14 (fun i => encMov ((fun i => if i < ms.length then newM i (at_ (markM ms) i) else at_ (markM ms) i) (0 + i)))) (encL encMov 14 (nM ms)) := by
  show LeA _ (.lst none (nM ms).length 14 (fun i => encMov (at_ (nM ms) i)))
  rw [nM_len]
  exact LeA.lst (.inr rfl) fun i hi => LeA.of_eq (congrArg encMov (by rw [Nat.zero_add]; show (if i < ms.length then newM i (at_ (markM ms) i) else at_ (markM ms) i) = _; rw [if_pos hi, nM_at hi, markM_at hi]))

theorem leA_same {n : Nat} {f g : Nat → Rem} (h : ∀ i, i < n → f i = g i) : LeA (.lst none n 3 (fun i => encRem (f (0 + i)))) (encRs n g) :=
  LeA.lst (.inr rfl) fun i hi => LeA.of_eq (congrArg encRem (by rw [Nat.zero_add, h i hi]))

theorem colV_eq (d : Int) (ms : List Mov) : colV d ms = tup3 (I (if in64 (colS d 1 ms) ∧ in64 (colS d 2 ms) then colS d 1 ms else 0)) (I (if in64 (colS d 1 ms) ∧ in64 (colS d 2 ms) then colS d 2 ms else 0)) (B (decide (in64 (colS d 1 ms) ∧ in64 (colS d 2 ms)))) := by
  unfold colV
  by_cases c : in64 (colS d 1 ms) ∧ in64 (colS d 2 ms)
  · rw [if_pos c, if_pos c, if_pos c, decide_eq_true c]
  · rw [if_neg c, if_neg c, if_neg c, decide_eq_false c]

theorem okN4 {p1 p2 p3 : PE} {i n e : Nat} {g : Nat → AV} (h : okNav [p1, p2, p3] (g i) = true) : okNav [p1, p2, p3, .idx i n e] (.arr n e g) = true := by
  have : okNav [p1, p2, p3, .idx i n e] (.arr n e g) = ((((true && (Nat.beq n n && Nat.beq e e)) && okP p3 (g i)) && okP p2 (compP p3 (g i))) && okP p1 (compP p2 (compP p3 (g i)))) := rfl
  rw [this, beq_self, beq_self]
  exact h

theorem szN4 {p1 p2 p3 : PE} {i n e s : Nat} {g : Nat → AV} (h : sizeIs (nav [p1, p2, p3] (g i)) s = true) : sizeIs (nav [p1, p2, p3, .idx i n e] (.arr n e g)) s = true := h

theorem leA_setM {n p q : Nat} {g h : Nat → Mov} {X1 X2 : AV} (e : q = p) (hX : X2 = encMov (h p)) (ho : ∀ i, i ≠ p → h i = g i) : LeA (.arr n 14 (fun i => selA (i = q) X2 (selA (i = q) X1 (encMov (g i))))) (.arr n 14 (fun i => encMov (h i))) := by
  subst e
  refine LeA.arr fun i hi => LeA.of_eq ?_
  rw [selA_eq, selA_eq]
  by_cases c : i = q
  · rw [if_pos c, c, hX]
  · rw [if_neg c, if_neg c, ho i c]

theorem leA_setH {n p q : Nat} {g h : Nat → Shr} (x : Shr) (e : q = p) (hp : h p = x) (ho : ∀ i, i ≠ p → h i = g i) : LeA (.arr n 2 (fun i => selA (i = q) (encShr x) (encShr (g i)))) (.arr n 2 (fun i => encShr (h i))) := by
  subst e
  refine LeA.arr fun i hi => LeA.of_eq ?_
  rw [selA_eq]
  by_cases c : i = q
  · rw [if_pos c, c, hp]
  · rw [if_neg c, ho i c]

theorem anew_i (ms : List Mov) (xs : List Shr) (rate fr to : Int) (hm : ∀ m ∈ ms, ∀ a, a < 12 → in64 (m.net a)) (hl : ms.length ≤ 400) (hn : xs.length ≤ 64) (h1 : in64 fr) :
    PureIX Try.prog gl0 l29_anew [.sli 0 0 ms.length 14 50, .sli 1 0 xs.length 2 52, I rate, I fr, I to] [(0, .box (.arr (markM ms).length 14 (fun i => encMov (at_ (markM ms) i)))), (1, .box (.arr (markS xs).length 2 (fun i => encShr (at_ (markS xs) i))))] 2 (fun r o1 n1 => r = B true ∧ o1 = [] ∧ n1 = 0) := by
  have hlm : (markM ms).length = ms.length + 1 := by simp
  have hls : (markS xs).length = xs.length + 1 := by simp
  refine pureI_fnX mixed fn_l29_anew nt_l29_anew hc_l29_anew (by simp) gl0n ?_
  conv => whnf
  have hn2 : (ms.length : Int) < 9223372036854775808 := by omega
  have hn3 : (xs.length : Int) < 9223372036854775808 := by omega
  refine loop_at mixed (fun (k : Nat) => ([(11, I k), (0, .sli 0 0 ms.length 14 50), (1, .sli 1 0 xs.length 2 52), (2, I rate), (3, I fr), (4, I to)], [(0, .box (.arr (markM ms).length 14 (fun i => encMov (if i < k then newM i (at_ (markM ms) i) else at_ (markM ms) i)))), (1, .box (.arr (markS xs).length 2 (fun i => encShr (at_ (markS xs) i))))], 2)) (fun k => k ≤ ms.length) (fun k => ms.length - k) 0 (Nat.zero_le _) (le_st (le_r rfl) (leE_i rfl rfl (leE_eq rfl (.inl (lt_r rfl)) (leE_eq rfl (.inl (lt_r rfl)) (leE_i rfl rfl (leE_i rfl rfl (leE_i rfl rfl trivial)))))) (leO_box (lt_r rfl) rfl (LeA.arr (fun i hi => LeA.of_eq (by rw [if_neg (Nat.not_lt_zero i)])) ) (bnd_nf _ ( (fun i => nf_encMov _))) (leO_box (lt_r rfl) rfl (LeA.arr (fun i hi => LeA.refl _) ) (bnd_nf _ ( (fun i => nf_encShr _))) trivial)) gl0n) ?_
  intro k hk
  conv => whnf
  by_cases c : k < ms.length
  · refine br_true (decide_eq_true ((by omega : (k : Int) < ms.length))) ?_
    conv => whnf
    repeat' first
      | (refine And.intro (by first | decide | omega | (constructor <;> omega) | fail) ?_; (conv => whnf))
      | (rw [okN4 rfl]; (conv => whnf))
      | (rw [okN4 (by show okNav _ (selA _ _ _) = true; rw [selA_eq, if_pos rfl]; rfl)]; (conv => whnf))
      | (rw [szN4 (by show sizeIs (nav _ (selA _ _ _)) _ = true; rw [selA_eq, if_pos rfl]; rfl)]; (conv => whnf))
      | fail
    refine ⟨k + 1, c, (by show ms.length - (k + 1) < ms.length - k; omega), (le_st (le_r rfl) (leE_i rfl (inc_id c hn2) (leE_eq rfl (.inl (lt_r rfl)) (leE_eq rfl (.inl (lt_r rfl)) (leE_i rfl rfl (leE_i rfl rfl (leE_i rfl rfl trivial)))))) (leO_box (lt_r rfl) rfl (leA_setM (Nat.zero_add _) ?_ (fun i hi => (by have hj : i ≠ k := hi; by_cases h2 : i < k; rw [if_pos h2, if_pos (by omega)]; rw [if_neg h2, if_neg (by omega)])) ) (bnd_nf _ ( (fun i => nf_encMov _))) (leO_box (lt_r rfl) rfl (LeA.arr (fun i hi => LeA.refl _) ) (bnd_nf _ ( (fun i => nf_encShr _))) trivial)) gl0n)⟩
    have hkk : 0 + Int.toNat (k : Int) = k := Nat.zero_add _
    simp [nav, compP, setComp, setNth, nth, selA_eq, encMov, encBf, newM]
    have w1 : IntKind.i64.wrap (IntKind.i64.wrap (-IntKind.i64.wrap (2 * (k : Int))) - 1) = -(2 * (k : Int)) - 1 := by
      rw [show IntKind.i64.wrap (2 * (k : Int)) = 2 * (k : Int) from wrap_id (by unfold in64; omega), show IntKind.i64.wrap (-(2 * (k : Int))) = -(2 * (k : Int)) from wrap_id (by unfold in64; omega)]; exact wrap_id (by unfold in64; omega)
    have w2 : IntKind.i64.wrap (IntKind.i64.wrap (-(k : Int)) - 1) = -(k : Int) - 1 := by
      rw [show IntKind.i64.wrap (-(k : Int)) = -(k : Int) from wrap_id (by unfold in64; omega)]; exact wrap_id (by unfold in64; omega)
    funext i
    by_cases d1 : i = 1
    · rw [if_pos d1, if_pos d1]; exact congrArg (fun n => I n) w1
    · rw [if_neg d1, if_neg d1]
      by_cases d2 : i = 2
      · rw [if_pos d2, if_pos d2]; exact congrArg (fun n => I n) w2
      · rw [if_neg d2, if_neg d2]
  · refine br_false (decide_eq_false ((by omega : ¬ ((k : Int) < ms.length)))) ?_
    conv => whnf
    obtain rfl : k = ms.length := by omega
    refine loop_at mixed (fun (k : Nat) => ([(12, I k), (0, .sli 0 0 ms.length 14 50), (1, .sli 1 0 xs.length 2 52), (2, I rate), (3, I fr), (4, I to)], [(0, .box (.arr (markM ms).length 14 (fun i => encMov (if i < ms.length then newM i (at_ (markM ms) i) else at_ (markM ms) i)))), (1, .box (.arr (markS xs).length 2 (fun i => encShr (if i < k then newS i else at_ (markS xs) i))))], 2)) (fun k => k ≤ xs.length) (fun k => xs.length - k) 0 (Nat.zero_le _) (le_st (le_r rfl) (leE_i rfl rfl (leE_eq rfl (.inl (lt_r rfl)) (leE_eq rfl (.inl (lt_r rfl)) (leE_i rfl rfl (leE_i rfl rfl (leE_i rfl rfl trivial)))))) (leO_box (lt_r rfl) rfl (LeA.arr (fun i hi => LeA.refl _) ) (bnd_nf _ ( (fun i => nf_encMov _))) (leO_box (lt_r rfl) rfl (LeA.arr (fun i hi => LeA.of_eq (by rw [if_neg (Nat.not_lt_zero i)])) ) (bnd_nf _ ( (fun i => nf_encShr _))) trivial)) gl0n) ?_
    clear c hk
    intro k hk
    conv => whnf
    by_cases c : k < xs.length
    · refine br_true (decide_eq_true ((by omega : (k : Int) < xs.length))) ?_
      conv => whnf
      repeat' first
        | (refine And.intro (by first | decide | omega | (constructor <;> omega) | fail) ?_; (conv => whnf))
        | (rw [okN]; (conv => whnf))
        | fail
      exact ⟨k + 1, c, (by show xs.length - (k + 1) < xs.length - k; omega), (le_st (le_r rfl) (leE_i rfl (inc_id c hn3) (leE_eq rfl (.inl (lt_r rfl)) (leE_eq rfl (.inl (lt_r rfl)) (leE_i rfl rfl (leE_i rfl rfl (leE_i rfl rfl trivial)))))) (leO_box (lt_r rfl) rfl (LeA.arr (fun i hi => LeA.refl _) ) (bnd_nf _ ( (fun i => nf_encMov _))) (leO_box (lt_r rfl) rfl (leA_setH ⟨IntKind.i64.wrap ((k : Int) + 1), IntKind.i64.wrap (Int.tmod (k : Int) 3 + 1)⟩ (Nat.zero_add _) (by rw [Int.toNat_natCast, if_pos (Nat.lt_succ_self k)]; exact (newS_w (by omega)).symm) (fun i hi => (by have hj : i ≠ k := hi; by_cases h2 : i < k; rw [if_pos h2, if_pos (by omega)]; rw [if_neg h2, if_neg (by omega)])) ) (bnd_nf _ ( (fun i => nf_encShr _))) trivial)) gl0n)⟩
    · refine br_false (decide_eq_false ((by omega : ¬ ((k : Int) < xs.length)))) ?_
      conv => whnf
      obtain rfl : k = xs.length := by omega
      have hM := nM_net hl hm
      have hW0 : 0 + ms.length ≤ (markM ms).length := by omega
      have hW1 : 0 + xs.length ≤ (markS xs).length := by omega
      have nS_l := nS_len xs.length
      have nM_l := nM_len ms
      refine call_thaw 1 rfl (leW_s hW1 leW_nil) ?_
      refine call_x2 (check_x (nS xs.length) (by omega)) ⟨leA_nS.le, trivial⟩ ?_
      rintro _ - rfl
      conv => whnf
      refine ⟨(by repeat' first | exact trivial | refine ⟨?_, ?_⟩), (by repeat first | exact trivial | apply flL_S | apply flL_M | apply flL_R), rfl, rfl, ?_⟩
      conv => whnf
      refine call_thaw 1 rfl (leW_s hW1 leW_nil) ?_
      refine call_x2 (r29_check_x (nS xs.length) (by omega)) ⟨leA_nS.le, trivial⟩ ?_
      rintro _ - rfl
      conv => whnf
      refine ⟨(by repeat' first | exact trivial | refine ⟨?_, ?_⟩), (by repeat first | exact trivial | apply flL_S | apply flL_M | apply flL_R), rfl, rfl, ?_⟩
      conv => whnf
      refine call_thaw 0 rfl (leW_s hW0 (leW_k leW_nil)) ?_
      refine call_x2 (col_x (nM ms) to hM (by omega)) ⟨leA_nM.le, Le.refl _, trivial⟩ ?_
      rintro _ - rfl
      rw [colV_eq]
      conv => whnf
      refine ⟨(by repeat' first | exact trivial | refine ⟨?_, ?_⟩), (by repeat first | exact trivial | apply flL_S | apply flL_M | apply flL_R), rfl, rfl, ?_⟩
      conv => whnf
      refine call_thaw 0 rfl (leW_s hW0 (leW_k leW_nil)) ?_
      refine call_x2 (r29_col_x (nM ms) to hM (by omega)) ⟨leA_nM.le, Le.refl _, trivial⟩ ?_
      rintro _ - rfl
      rw [colV_eq]
      conv => whnf
      refine ⟨(by repeat' first | exact trivial | refine ⟨?_, ?_⟩), (by repeat first | exact trivial | apply flL_S | apply flL_M | apply flL_R), rfl, rfl, ?_⟩
      conv => whnf
      refine br_false (decide_eq_false ((fun h => h rfl))) ?_
      conv => whnf
      refine br_false (decide_eq_false ((fun h => h rfl))) ?_
      conv => whnf
      refine br_false (decide_eq_false ((fun h => h rfl))) ?_
      conv => whnf
      refine br_false (by simp) ?_
      conv => whnf
      refine br_false (by simp) ?_
      conv => whnf
      refine call_thaw 1 rfl (leW_s hW1 (leW_k (leW_k (leW_k leW_nil)))) ?_
      refine call_o (Due_u (nS xs.length) rate 1000 333 (by omega) (by unfold in64; omega) (by unfold in64; omega)) (by simp) ⟨leA_nS.le, Le.refl _, Le.refl _, Le.refl _, trivial⟩ ?_
      rintro _ _ _ ⟨rfl, rfl, rfl⟩
      refine ⟨⟨⟨.inl (by decide), fun i => nf_encRem _⟩, trivial⟩, ⟨trivial, trivial, trivial, trivial⟩, rfl, ?_⟩
      conv => whnf
      refine ⟨(by repeat' first | exact trivial | refine ⟨?_, ?_⟩), (by repeat first | exact trivial | apply flL_S | apply flL_M | apply flL_R), rfl, rfl, ?_⟩
      conv => whnf
      refine call_thaw 1 rfl (leW_s hW1 (leW_k (leW_k (leW_k leW_nil)))) ?_
      refine call_o (r29_Due_uo (nS xs.length) rate 1000 333 (by omega) (by unfold in64; omega) (by unfold in64; omega)) (by simp) ⟨leA_nS.le, Le.refl _, Le.refl _, Le.refl _, trivial⟩ ?_
      rintro _ _ _ ⟨f, rfl, rfl, rfl, hf⟩
      refine ⟨⟨⟨.inl (by decide), fun i => nf_encRem _⟩, trivial⟩, ⟨trivial, trivial, trivial, trivial⟩, rfl, ?_⟩
      conv => whnf
      refine ⟨(by repeat' first | exact trivial | refine ⟨?_, ?_⟩), (by repeat first | exact trivial | apply flL_S | apply flL_M | apply flL_R), rfl, rfl, ?_⟩
      conv => whnf
      have hdn : dueN (nS xs.length) rate 1000 333 ≤ 64 := by unfold dueN; split <;> omega
      refine br_false (decide_eq_false ((fun h => h rfl))) ?_
      conv => whnf
      refine br_false (decide_eq_false ((fun h => h rfl))) ?_
      conv => whnf
      refine call_thaw 4 rfl (leW_s (by omega) (leW_k leW_nil)) ?_
      refine call_thaw 5 rfl (leW_k (leW_s (by omega) leW_nil)) ?_
      refine call_x2 (same_x (dueN (nS xs.length) rate 1000 333) (dueR (nS xs.length) rate 1000 333) (by omega)) ⟨(leA_same (fun i hi => rfl)).le, (leA_same hf).le, trivial⟩ ?_
      rintro _ - rfl
      conv => whnf
      refine ⟨(by repeat' first | exact trivial | refine ⟨?_, ?_⟩), (by repeat first | exact trivial | apply flL_S | apply flL_M | apply flL_R), rfl, rfl, ?_⟩
      conv => whnf
      refine ⟨(by repeat' first | exact trivial | refine ⟨?_, ?_⟩), (by repeat first | exact trivial | apply flL_S | apply flL_M | apply flL_R), rfl, rfl, ?_⟩
      conv => whnf
      refine call_thaw 0 rfl (leW_s hW0 (leW_k (leW_k (leW_k (leW_k leW_nil))))) ?_
      refine call_thaw 1 rfl (leW_k (leW_s hW1 (leW_k (leW_k (leW_k leW_nil))))) ?_
      refine call_o (Period_u (nM ms) (nS xs.length) rate fr to hM (by omega) (by omega) h1) (by simp) ⟨leA_nM.le, leA_nS.le, Le.refl _, Le.refl _, Le.refl _, trivial⟩ ?_
      rintro _ _ _ ⟨rfl, rfl, rfl⟩
      refine ⟨⟨⟨.inl (by decide), fun i => nf_encRem _⟩, trivial⟩, ⟨trivial, trivial, trivial, trivial⟩, rfl, ?_⟩
      conv => whnf
      refine ⟨(by repeat' first | exact trivial | refine ⟨?_, ?_⟩), (by repeat first | exact trivial | apply flL_S | apply flL_M | apply flL_R), rfl, rfl, ?_⟩
      conv => whnf
      refine ⟨(by repeat' first | exact trivial | refine ⟨?_, ?_⟩), (by repeat first | exact trivial | apply flL_S | apply flL_M | apply flL_R), rfl, rfl, ?_⟩
      conv => whnf
      refine call_thaw 0 rfl (leW_s hW0 (leW_k (leW_k (leW_k (leW_k leW_nil))))) ?_
      refine call_thaw 1 rfl (leW_k (leW_s hW1 (leW_k (leW_k (leW_k leW_nil))))) ?_
      refine call_o (r29_Period_uo (nM ms) (nS xs.length) rate fr to hM (by omega) (by omega) h1) (by simp) ⟨leA_nM.le, leA_nS.le, Le.refl _, Le.refl _, Le.refl _, trivial⟩ ?_
      rintro _ _ _ ⟨rfl, rfl, rfl⟩
      refine ⟨⟨⟨.inl (by decide), fun i => nf_encRem _⟩, trivial⟩, ⟨trivial, trivial, trivial, trivial⟩, rfl, ?_⟩
      conv => whnf
      refine ⟨(by repeat' first | exact trivial | refine ⟨?_, ?_⟩), (by repeat first | exact trivial | apply flL_S | apply flL_M | apply flL_R), rfl, rfl, ?_⟩
      conv => whnf
      refine ⟨(by repeat' first | exact trivial | refine ⟨?_, ?_⟩), (by repeat first | exact trivial | apply flL_S | apply flL_M | apply flL_R), rfl, rfl, ?_⟩
      conv => whnf
      have hpn : perN (nM ms) (nS xs.length) rate fr to ≤ 64 := by unfold perN; split <;> omega
      refine br_true (decide_eq_true ((rfl))) ?_
      conv => whnf
      refine br_true (decide_eq_true ((rfl))) ?_
      conv => whnf
      refine call_thaw 13 rfl (leW_s (by omega) (leW_k leW_nil)) ?_
      refine call_thaw 14 rfl (leW_k (leW_s (by omega) leW_nil)) ?_
      refine call_x2 (same_x (perN (nM ms) (nS xs.length) rate fr to) (perR (nM ms) (nS xs.length) rate fr to) (by omega)) ⟨(leA_same (fun i hi => rfl)).le, (leA_same (fun i hi => rfl)).le, trivial⟩ ?_
      rintro _ - rfl
      conv => whnf
      refine ⟨(by repeat' first | exact trivial | refine ⟨?_, ?_⟩), (by repeat first | exact trivial | apply flL_S | apply flL_M | apply flL_R), rfl, rfl, ?_⟩
      conv => whnf
      refine ⟨(by repeat' first | exact trivial | refine ⟨?_, ?_⟩), (by repeat first | exact trivial | apply flL_S | apply flL_M | apply flL_R), rfl, rfl, ?_⟩
      conv => whnf
      refine ⟨⟨[(10, B true)], [], 0, (le_st (le_r rfl) (leE_eq rfl (bnd_nf _ (trivial)) trivial) trivial gl0n), ?_⟩⟩
      conv => whnf
      exact ⟨_, Le.refl _, rfl, rfl, rfl⟩

end Go.Proofs.Ytdjmplfjpnikkaa
namespace Go.Proofs.Ytdjmplfjpnikkaa
open Go Ar
set_option linter.unusedVariables false
set_option autoImplicit false
set_option maxHeartbeats 4000000
set_option maxRecDepth 100000

def tyShr : Ty := .st (.cons (.int .i64) (.cons (.int .i64) .nil))
theorem of_Shr {a : AV} (h : Of tyShr a) : ∃ x : Shr, LeA a (encShr x) ∧ True := by
  obtain ⟨b, rfl, c, d, rfl, h1, d1, d2, rfl, h2, rfl⟩ := h
  obtain ⟨n, rfl, _⟩ := of_i64 h1
  obtain ⟨m, rfl, _⟩ := of_i64 h2
  exact ⟨⟨n, m⟩, LeA.refl _, trivial⟩
def tyMov : Ty := .st (.cons (.int .i64) (.cons (.int .i64) (.cons (.st (.cons (.arr 12 1 (.int .i64)) .nil)) .nil)))
theorem of_Mov {a : AV} (h : Of tyMov a) : ∃ x : Mov, LeA a (encMov x) ∧ ∀ a, a < 12 → in64 (x.net a) := by
  obtain ⟨b, rfl, c, d, rfl, h1, d1, d2, rfl, h2, e1, e2, rfl, ⟨z, rfl, y1, y2, rfl, ⟨f, rfl, hf⟩, rfl⟩, rfl⟩ := h
  obtain ⟨n, rfl, _⟩ := of_i64 h1
  obtain ⟨m, rfl, _⟩ := of_i64 h2
  have hc : ∀ i, ∃ m, i < 12 → f i = I m ∧ in64 m := fun i => by
    by_cases hi : i < 12
    · obtain ⟨m, h1, h2⟩ := of_i64 (hf i hi)
      exact ⟨m, fun _ => ⟨h1, h2⟩⟩
    · exact ⟨0, fun h => absurd h hi⟩
  refine ⟨⟨n, m, fun i => (hc i).choose⟩, LeA.st (LeA.cons (LeA.refl _) (LeA.cons (LeA.refl _) (LeA.cons (LeA.st (LeA.cons (LeA.arr fun i hi => LeA.of_eq ((hc i).choose_spec hi).1) (LeA.refl _))) (LeA.refl _)))), fun a ha => ((hc a).choose_spec ha).2⟩

theorem leA_mS {xs : List Shr} : LeA (.lst none xs.length 2 (fun i => encShr (at_ (markS xs) (0 + i)))) (encL encShr 2 xs) :=
  LeA.lst (.inr rfl) fun i hi => LeA.of_eq (congrArg encShr (by rw [Nat.zero_add]; exact markS_at hi))
theorem leA_mM {ms : List Mov} : LeA (.lst none ms.length 14 (fun i => encMov (at_ (markM ms) (0 + i)))) (encL encMov 14 ms) :=
  LeA.lst (.inr rfl) fun i hi => LeA.of_eq (congrArg encMov (by rw [Nat.zero_add]; exact markM_at hi))

theorem law9_x (ms : List Mov) (xs : List Shr) (rate p q fr to : Int) (hM : (ms.length : Int) < 9223372036854775808) (hN : (xs.length : Int) < 9223372036854775808) (hm : ∀ m ∈ ms, ∀ a, a < 12 → in64 (m.net a)) (hp : in64 p) (hq : in64 q) (hfr : in64 fr) : Pure Try.prog gl0 l29_RemitExact [encL encMov 14 ms, encL encShr 2 xs, I rate, I p, I q, I fr, I to] (B true) := by
  refine pure_fn mixed fn_l29_RemitExact nt_l29_RemitExact hc_l29_RemitExact (by simp) gl0n (by simp [nf]) (by simp [nf]) ?_
  conv => whnf
  by_cases c1 : (ms.length : Int) > 400
  · refine br_true (decide_eq_true (c1)) ?_
    conv => whnf
    exact Le.refl _
  refine br_false (decide_eq_false (c1)) ?_
  conv => whnf
  by_cases c2 : (xs.length : Int) > 64
  · refine br_true (decide_eq_true (c2)) ?_
    conv => whnf
    exact Le.refl _
  refine br_false (decide_eq_false (c2)) ?_
  conv => whnf
  have hlm : (markM ms).length = ms.length + 1 := by simp
  have hls : (markS xs).length = xs.length + 1 := by simp
  have hW0 : 0 + ms.length ≤ (markM ms).length := by omega
  have hW1 : 0 + xs.length ≤ (markS xs).length := by omega
  have hdn : dueN xs rate p q ≤ 64 := by unfold dueN; split <;> omega
  have hpn : perN ms xs rate fr to ≤ 64 := by unfold perN; split <;> omega
  refine call_o (ownM_o ms (by omega)) (by simp) (LeL.refl _) ?_
  rintro _ _ _ ⟨rfl, rfl, rfl⟩
  refine ⟨⟨⟨.inl (by decide), fun i => nf_encMov _⟩, trivial⟩, trivial, rfl, ?_⟩
  conv => whnf
  refine call_o (ownS_o xs (by omega)) (by simp) (LeL.refl _) ?_
  rintro _ _ _ ⟨rfl, rfl, rfl⟩
  refine ⟨⟨⟨.inl (by decide), fun i => nf_encShr _⟩, trivial⟩, trivial, rfl, ?_⟩
  conv => whnf
  repeat' first
    | (refine And.intro (by first | decide | omega | (constructor <;> omega) | (left; rfl) | fail) ?_; (conv => whnf))
    | fail
  refine call_thaw 1 rfl (leW_s hW1 leW_nil) ?_
  refine call_x2 (check_x xs (by omega)) ⟨leA_mS.le, trivial⟩ ?_
  rintro _ - rfl
  conv => whnf
  refine ⟨(by repeat' first | exact trivial | refine ⟨?_, ?_⟩), (by repeat first | exact trivial | apply flL_S | apply flL_M | apply flL_R), rfl, rfl, ?_⟩
  conv => whnf
  refine call_x2 (r29_check_x xs (by omega)) (LeL.refl _) ?_
  rintro _ - rfl
  conv => whnf
  refine br_false (decide_eq_false ((fun h => h rfl))) ?_
  conv => whnf
  refine br_false (decide_eq_false ((fun h => h rfl))) ?_
  conv => whnf
  repeat' first
    | (refine And.intro (by first | decide | omega | (constructor <;> omega) | (left; rfl) | fail) ?_; (conv => whnf))
    | fail
  refine call_thaw 0 rfl (leW_s hW0 (leW_k leW_nil)) ?_
  refine call_x2 (col_x ms to hm (by omega)) ⟨leA_mM.le, Le.refl _, trivial⟩ ?_
  rintro _ - rfl
  rw [colV_eq]
  conv => whnf
  refine ⟨(by repeat' first | exact trivial | refine ⟨?_, ?_⟩), (by repeat first | exact trivial | apply flL_S | apply flL_M | apply flL_R), rfl, rfl, ?_⟩
  conv => whnf
  refine call_x2 (r29_col_x ms to hm (by omega)) (LeL.refl _) ?_
  rintro _ - rfl
  rw [colV_eq]
  conv => whnf
  refine br_false (decide_eq_false ((fun h => h rfl))) ?_
  conv => whnf
  refine br_false (decide_eq_false ((fun h => h rfl))) ?_
  conv => whnf
  refine br_false (by simp) ?_
  conv => whnf
  repeat' first
    | (refine And.intro (by first | decide | omega | (constructor <;> omega) | (left; rfl) | fail) ?_; (conv => whnf))
    | fail
  refine call_thaw 1 rfl (leW_s hW1 (leW_k (leW_k (leW_k leW_nil)))) ?_
  refine call_o (Due_u xs rate p q (by omega) hp hq) (by simp) ⟨leA_mS.le, Le.refl _, Le.refl _, Le.refl _, trivial⟩ ?_
  rintro _ _ _ ⟨rfl, rfl, rfl⟩
  refine ⟨⟨⟨.inl (by decide), fun i => nf_encRem _⟩, trivial⟩, ⟨trivial, trivial, trivial, trivial⟩, rfl, ?_⟩
  conv => whnf
  refine ⟨(by repeat' first | exact trivial | refine ⟨?_, ?_⟩), (by repeat first | exact trivial | apply flL_S | apply flL_M | apply flL_R), rfl, rfl, ?_⟩
  conv => whnf
  repeat' first
    | (refine And.intro (by first | decide | omega | (constructor <;> omega) | (left; rfl) | fail) ?_; (conv => whnf))
    | fail
  refine call_thaw 1 rfl (leW_s hW1 (leW_k (leW_k (leW_k leW_nil)))) ?_
  refine call_o (Due_u xs rate p q (by omega) hp hq) (by simp) ⟨leA_mS.le, Le.refl _, Le.refl _, Le.refl _, trivial⟩ ?_
  rintro _ _ _ ⟨rfl, rfl, rfl⟩
  refine ⟨⟨⟨.inl (by decide), fun i => nf_encRem _⟩, trivial⟩, ⟨trivial, trivial, trivial, trivial⟩, rfl, ?_⟩
  conv => whnf
  refine ⟨(by repeat' first | exact trivial | refine ⟨?_, ?_⟩), (by repeat first | exact trivial | apply flL_S | apply flL_M | apply flL_R), rfl, rfl, ?_⟩
  conv => whnf
  refine call_x2 (r29_Due_u xs rate p q (by omega) hp hq) (LeL.refl _) ?_
  rintro _ - rfl
  conv => whnf
  refine br_false (decide_eq_false ((fun h => h rfl))) ?_
  conv => whnf
  refine br_false (decide_eq_false ((fun h => h rfl))) ?_
  conv => whnf
  refine br_false (decide_eq_false ((fun h => h rfl))) ?_
  conv => whnf
  refine call_thaw 4 rfl (leW_s (by omega) (leW_k leW_nil)) ?_
  refine call_x2 (same_x (dueN xs rate p q) (dueR xs rate p q) (by omega)) ⟨(leA_same (fun i hi => rfl)).le, Le.refl _, trivial⟩ ?_
  rintro _ - rfl
  conv => whnf
  refine ⟨(by repeat' first | exact trivial | refine ⟨?_, ?_⟩), (by repeat first | exact trivial | apply flL_S | apply flL_M | apply flL_R), rfl, rfl, ?_⟩
  conv => whnf
  refine call_g 4 (spoil_i (dueN xs rate p q) (dueR xs rate p q) (by omega)) rfl rfl (LeA.refl _) (fun i => nf_encRem _) (fun a h => by simp only [List.mem_cons, List.mem_nil_iff, or_false] at h; subst h; exact .inl (by decide)) ⟨Le.refl _, trivial⟩ ?_
  rintro _ _ _ ⟨rfl, rfl, rfl⟩
  refine ⟨trivial, trivial, rfl, ?_⟩
  conv => whnf
  refine br_false (decide_eq_false ((by rw [wrap_id (by unfold in64; omega)]; omega))) ?_
  conv => whnf
  refine call_thaw 7 rfl (leW_s (by omega) (leW_k leW_nil)) ?_
  refine call_x2 (same_x (dueN xs rate p q) (dueR xs rate p q) (by omega)) ⟨(leA_same (fun i hi => rfl)).le, Le.refl _, trivial⟩ ?_
  rintro _ - rfl
  conv => whnf
  refine ⟨(by repeat' first | exact trivial | refine ⟨?_, ?_⟩), (by repeat first | exact trivial | apply flL_S | apply flL_M | apply flL_R), rfl, rfl, ?_⟩
  conv => whnf
  repeat' first
    | (refine And.intro (by first | decide | omega | (constructor <;> omega) | (left; rfl) | fail) ?_; (conv => whnf))
    | fail
  refine call_thaw 0 rfl (leW_s hW0 (leW_k (leW_k (leW_k (leW_k leW_nil))))) ?_
  refine call_thaw 1 rfl (leW_k (leW_s hW1 (leW_k (leW_k (leW_k leW_nil))))) ?_
  refine call_o (Period_u ms xs rate fr to hm (by omega) (by omega) hfr) (by simp) ⟨leA_mM.le, leA_mS.le, Le.refl _, Le.refl _, Le.refl _, trivial⟩ ?_
  rintro _ _ _ ⟨rfl, rfl, rfl⟩
  refine ⟨⟨⟨.inl (by decide), fun i => nf_encRem _⟩, trivial⟩, ⟨trivial, trivial, trivial, trivial⟩, rfl, ?_⟩
  conv => whnf
  refine ⟨(by repeat' first | exact trivial | refine ⟨?_, ?_⟩), (by repeat first | exact trivial | apply flL_S | apply flL_M | apply flL_R), rfl, rfl, ?_⟩
  conv => whnf
  refine ⟨(by repeat' first | exact trivial | refine ⟨?_, ?_⟩), (by repeat first | exact trivial | apply flL_S | apply flL_M | apply flL_R), rfl, rfl, ?_⟩
  conv => whnf
  repeat' first
    | (refine And.intro (by first | decide | omega | (constructor <;> omega) | (left; rfl) | fail) ?_; (conv => whnf))
    | fail
  refine call_thaw 0 rfl (leW_s hW0 (leW_k (leW_k (leW_k (leW_k leW_nil))))) ?_
  refine call_thaw 1 rfl (leW_k (leW_s hW1 (leW_k (leW_k (leW_k leW_nil))))) ?_
  refine call_o (Period_u ms xs rate fr to hm (by omega) (by omega) hfr) (by simp) ⟨leA_mM.le, leA_mS.le, Le.refl _, Le.refl _, Le.refl _, trivial⟩ ?_
  rintro _ _ _ ⟨rfl, rfl, rfl⟩
  refine ⟨⟨⟨.inl (by decide), fun i => nf_encRem _⟩, trivial⟩, ⟨trivial, trivial, trivial, trivial⟩, rfl, ?_⟩
  conv => whnf
  refine ⟨(by repeat' first | exact trivial | refine ⟨?_, ?_⟩), (by repeat first | exact trivial | apply flL_S | apply flL_M | apply flL_R), rfl, rfl, ?_⟩
  conv => whnf
  refine ⟨(by repeat' first | exact trivial | refine ⟨?_, ?_⟩), (by repeat first | exact trivial | apply flL_S | apply flL_M | apply flL_R), rfl, rfl, ?_⟩
  conv => whnf
  refine call_x2 (r29_Period_u ms xs rate fr to hm (by omega) (by omega) hfr) (LeL.refl _) ?_
  rintro _ - rfl
  conv => whnf
  refine br_false (decide_eq_false ((fun h => h rfl))) ?_
  conv => whnf
  refine br_false (decide_eq_false ((fun h => h rfl))) ?_
  conv => whnf
  refine br_false (decide_eq_false ((fun h => h rfl))) ?_
  conv => whnf
  refine call_thaw 15 rfl (leW_s (by omega) (leW_k leW_nil)) ?_
  refine call_x2 (same_x (perN ms xs rate fr to) (perR ms xs rate fr to) (by omega)) ⟨(leA_same (fun i hi => rfl)).le, Le.refl _, trivial⟩ ?_
  rintro _ - rfl
  conv => whnf
  refine ⟨(by repeat' first | exact trivial | refine ⟨?_, ?_⟩), (by repeat first | exact trivial | apply flL_S | apply flL_M | apply flL_R), rfl, rfl, ?_⟩
  conv => whnf
  refine call_g 15 (spoil_i (perN ms xs rate fr to) (perR ms xs rate fr to) (by omega)) rfl rfl (LeA.refl _) (fun i => nf_encRem _) (fun a h => by simp only [List.mem_cons, List.mem_nil_iff, or_false] at h; subst h; exact .inl (by decide)) ⟨Le.refl _, trivial⟩ ?_
  rintro _ _ _ ⟨rfl, rfl, rfl⟩
  refine ⟨trivial, trivial, rfl, ?_⟩
  conv => whnf
  refine br_false (decide_eq_false ((by rw [wrap_id (by unfold in64; omega)]; omega))) ?_
  conv => whnf
  refine call_thaw 23 rfl (leW_s (by omega) (leW_k leW_nil)) ?_
  refine call_x2 (same_x (perN ms xs rate fr to) (perR ms xs rate fr to) (by omega)) ⟨(leA_same (fun i hi => rfl)).le, Le.refl _, trivial⟩ ?_
  rintro _ - rfl
  conv => whnf
  refine ⟨(by repeat' first | exact trivial | refine ⟨?_, ?_⟩), (by repeat first | exact trivial | apply flL_S | apply flL_M | apply flL_R), rfl, rfl, ?_⟩
  conv => whnf
  refine call_thaw 0 rfl (leW_s (Nat.le_of_eq (Nat.zero_add _)) (leW_k leW_nil)) ?_
  refine call_x2 (sameM_x ms (by omega)) ⟨(LeA.lst (.inr rfl) fun i hi => LeA.of_eq (congrArg encMov (by rw [Nat.zero_add]))).le, Le.refl _, trivial⟩ ?_
  rintro _ - rfl
  conv => whnf
  refine ⟨(by repeat' first | exact trivial | refine ⟨?_, ?_⟩), (by repeat first | exact trivial | apply flL_S | apply flL_M | apply flL_R), rfl, rfl, ?_⟩
  conv => whnf
  refine call_thaw 1 rfl (leW_s (Nat.le_of_eq (Nat.zero_add _)) (leW_k leW_nil)) ?_
  refine call_x2 (sameS_x xs (by omega)) ⟨(LeA.lst (.inr rfl) fun i hi => LeA.of_eq (congrArg encShr (by rw [Nat.zero_add]))).le, Le.refl _, trivial⟩ ?_
  rintro _ - rfl
  conv => whnf
  refine ⟨(by repeat' first | exact trivial | refine ⟨?_, ?_⟩), (by repeat first | exact trivial | apply flL_S | apply flL_M | apply flL_R), rfl, rfl, ?_⟩
  conv => whnf
  repeat' first
    | (refine And.intro (by first | decide | omega | (constructor <;> omega) | (left; rfl) | fail) ?_; (conv => whnf))
    | fail
  refine call_g2 0 1 (anew_i ms xs rate fr to hm (by omega) (by omega) hfr) rfl rfl rfl rfl rfl (LeA.refl _) (LeA.refl _) (fun i => nf_encMov _) (fun i => nf_encShr _) (fun a h => ?_) ⟨Le.refl _, Le.refl _, Le.refl _, Le.refl _, Le.refl _, trivial⟩ ?_
  · simp only [List.mem_cons, List.mem_nil_iff, or_false] at h
    rcases h with rfl | rfl | rfl | rfl | rfl
    · exact .inl (by decide)
    · exact .inl (by decide)
    · trivial
    · trivial
    · trivial
  rintro _ _ _ ⟨rfl, rfl, rfl⟩
  refine ⟨trivial, trivial, rfl, ?_⟩
  conv => whnf
  exact Le.refl _

end Go.Proofs.Ytdjmplfjpnikkaa
