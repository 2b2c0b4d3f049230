/- Contracts of the document's engine (chapter 15), first part. No condition. -/
import Derived.Test.YtaomkjcclcgdlaaGreatDoorL8
import Derived.Test.YtaomkjcclcgdlaaGreatDoorL7
set_option linter.all false
namespace Go.Proofs.YtaomkjcclcgdlaaGreatDoor
open Go Ar
set_option linter.unusedVariables false
set_option autoImplicit false
set_option maxHeartbeats 4000000
set_option maxRecDepth 100000

def encRep (e : Int) (xs : List Int) : AV := .st (.cons (I e) (.cons (encL I 1 xs) .nil))
theorem nf_encRep (e : Int) (xs : List Int) : nf (encRep e xs) := ⟨trivial, nfL_I 1 xs, trivial⟩

structure okS (b : Nat) (s : Stt) : Prop where
  n : s.loans.length ≤ 64
  p : ∀ x ∈ s.loans, x.plan.length ≤ 1000
  b : s.notices.length ≤ b
  d : (s.loans.map Ln.id).Pairwise (· < ·)

theorem okS.at_ {b : Nat} {s : Stt} (h : okS b s) {i : Nat} (hi : i < s.loans.length) : (at_ s.loans i).plan.length ≤ 1000 := h.p _ (at_mem hi)

def zStt : AV := .st (.cons (I 0) (.cons (.val (.slice none 0 0)) (.cons (.val (.slice none 0 0)) .nil)))
theorem nf_zStt : nf zStt := by simp [zStt, nf]

theorem r15_Begin_s (p : Pol) : PureX Tryz.prog gl0 r15_Begin [encPol p] (fun r => r = encStt ⟨p.firstDay, [], []⟩) := by
  refine pure_fnX mixed fn_r15_Begin nt_r15_Begin hc_r15_Begin (by simp) gl0n (by simp [nf, nf_encPol]) ?_
  conv => whnf
  refine fin_r (encStt ⟨p.firstDay, [], []⟩) (nf_encStt _) rfl ?_
  conv => whnf
  exact (LeA.st (LeA.cons (LeA.refl _) (LeA.cons leA_nilL (LeA.cons leA_nilL (LeA.refl _))))).le

theorem r15_refusal_s (e : Int) : PureX Tryz.prog gl0 r15_refusal [I e] (fun r => r = encRep e []) := by
  refine pure_fnX mixed fn_r15_refusal nt_r15_refusal hc_r15_refusal (by simp) gl0n (by simp [nf]) ?_
  conv => whnf
  refine fin_r (encRep e []) (nf_encRep _ _) rfl ?_
  conv => whnf
  exact (LeA.st (LeA.cons (LeA.refl _) (LeA.cons leA_nilL (LeA.refl _)))).le

theorem r15_place_s (s : Stt) (i : Int) (h : s.loans.length ≤ 64) : PureX Tryz.prog gl0 r15_place [encStt s, I i] (fun r => ∃ n, r = I n ∧ n < s.loans.length ∧ -1 ≤ n) := by
  refine pure_fnX mixed fn_r15_place nt_r15_place hc_r15_place (by simp) gl0n (by simp [nf]) ?_
  conv => whnf
  refine loop_at mixed (fun (k : Nat) => ([(5, I k), (1, I i), (2, .ptr 0 [])], [(0, .box (encStt s))], 1)) (fun k => k ≤ s.loans.length) (fun k => s.loans.length - k) 0 (Nat.zero_le _) (le_st (le_r rfl) (leE_i rfl rfl (leE_i rfl rfl (leE_ptr rfl rfl trivial))) (leO_box (lt_r rfl) rfl (LeA.refl _) (bnd_nf _ (nf_encStt _)) trivial) gl0n) ?_
  intro k hk
  conv => whnf
  have hn : (s.loans.length : Int) < 9223372036854775808 := by omega
  by_cases c : k < s.loans.length
  · refine br_true (decide_eq_true ((by omega : (k : Int) < s.loans.length))) ?_
    conv => whnf
    repeat' first
      | (refine br_dec (fun h0 => ?_) (fun h0 => ?_) <;> (conv => whnf))
      | (refine br_intro (fun hb => ?_) (fun hb => ?_) <;> ((try rw [hb]); (conv => whnf); (try simp at hb)))
      | (refine fin_e ?_; (conv => whnf); exact ⟨trivial, _, rfl, by omega, by omega⟩)
      | (exact ⟨k + 1, c, (by show s.loans.length - (k + 1) < s.loans.length - k; omega), (le_st (le_r rfl) (leE_i rfl (inc_id c hn) (leE_i rfl rfl (leE_ptr rfl rfl trivial))) (leO_box (lt_r rfl) rfl (LeA.refl _) (bnd_nf _ (nf_encStt _)) trivial) gl0n)⟩)
      | (refine aI ?_; (conv => whnf))
      | (refine fin_e ?_; (conv => whnf); exact lfA)
      | fail
  · refine br_false (decide_eq_false ((by omega : ¬ ((k : Int) < s.loans.length)))) ?_
    conv => whnf
    repeat' first
      | (refine br_dec (fun h0 => ?_) (fun h0 => ?_) <;> (conv => whnf))
      | (refine br_intro (fun hb => ?_) (fun hb => ?_) <;> ((try rw [hb]); (conv => whnf); (try simp at hb)))
      | (refine fin_e ?_; (conv => whnf); exact ⟨trivial, _, rfl, by omega, by omega⟩)
      | (refine aI ?_; (conv => whnf))
      | (refine fin_e ?_; (conv => whnf); exact lfA)
      | fail

abbrev QNo (s : Stt) (k : Nat) : AV → Prop := fun r => ∃ ns, r = encStt ⟨s.today, s.loans, ns⟩ ∧ ns.length = s.notices.length + k

theorem r15_noticed_s (s : Stt) (xs : List Ntc) (h : s.notices.length ≤ 1000000000000) (h2 : xs.length ≤ 1000000000) : PureX Tryz.prog gl0 r15_noticed [encStt s, encL encNtc 6 xs] (QNo s xs.length) := by
  refine pure_fnX mixed fn_r15_noticed nt_r15_noticed hc_r15_noticed (by simp) gl0n (by simp [nf]) ?_
  conv => whnf
  refine loop_at mixed (fun (y : Nat × List Ntc) => ([(6, I y.1), (5, encT (some 2) encNtc 6 y.2), (2, .ptr 0 []), (4, .ptr 1 []), (1, encL encNtc 6 xs)], [(0, .box (encStt s)), (1, .box zStt), (2, .room y.2.length 6 131)], 3)) (fun y => y.1 ≤ s.notices.length ∧ y.2.length = y.1) (fun y => s.notices.length - y.1) (0, []) ⟨Nat.zero_le _, rfl⟩ ((le_nil 5 6 131 (fun i => encNtc (at_ ([] : List Ntc) i)) rfl).trans (le_st (le_r rfl) (leE_i rfl rfl (leE_eq rfl (bnd_encT nf_encNtc (lt_r rfl)) (leE_ptr rfl rfl (leE_ptr rfl rfl (leE_eq rfl (bnd_nf _ (nfL_Ntc _ _)) trivial))))) (leO_box (lt_r rfl) rfl (LeA.refl _) (bnd_nf _ (nf_encStt _)) (leO_box (lt_r rfl) rfl (LeA.refl _) (bnd_nf _ (nf_zStt)) (leO_room (lt_r rfl) rfl trivial))) gl0n)) ?_
  rintro ⟨k, ys⟩ ⟨hk, hl⟩
  dsimp only at hk hl ⊢
  conv => whnf
  have hn : (s.notices.length : Int) < 9223372036854775808 := by omega
  by_cases c : k < s.notices.length
  · refine br_true (decide_eq_true ((by omega : (k : Int) < s.notices.length))) ?_
    conv => whnf
    repeat' first
      | (refine br_dec (fun h0 => ?_) (fun h0 => ?_) <;> (conv => whnf))
      | (refine br_intro (fun hb => ?_) (fun hb => ?_) <;> ((try rw [hb]); (conv => whnf); (try simp at hb)))
      | (exact ⟨(k + 1, ys ++ [at_ s.notices k]), ⟨c, by show (ys ++ [_]).length = k + 1; (simp; omega)⟩, (by show s.notices.length - (k + 1) < s.notices.length - k; omega), (le_st (le_r rfl) (leE_i rfl (inc_id c hn) (leE_le rfl (leA_snoc (enc := encNtc) (by exact LeA.refl _)).le (bnd_encT nf_encNtc (lt_r rfl)) (leE_ptr rfl rfl (leE_ptr rfl rfl (leE_eq rfl (bnd_nf _ (nfL_Ntc _ _)) trivial))))) (leO_box (lt_r rfl) rfl (LeA.refl _) (bnd_nf _ (nf_encStt _)) (leO_box (lt_r rfl) rfl (LeA.refl _) (bnd_nf _ (nf_zStt)) (leO_room (lt_r rfl) (by (simp; rfl)) trivial))) gl0n)⟩)
      | (refine aI ?_; (conv => whnf))
      | (refine fin_e ?_; (conv => whnf); exact lfA)
      | fail
  · refine br_false (decide_eq_false ((by omega : ¬ ((k : Int) < s.notices.length)))) ?_
    conv => whnf
    have hys : ys.length = s.notices.length := by omega
    repeat' first
      | (refine br_dec (fun h0 => ?_) (fun h0 => ?_) <;> (conv => whnf))
      | (refine br_intro (fun hb => ?_) (fun hb => ?_) <;> ((try rw [hb]); (conv => whnf); (try simp at hb)))
      | (exact True.elim trivial)
      | (refine aI ?_; (conv => whnf))
      | (refine fin_e ?_; (conv => whnf); exact lfA)
      | fail
    refine loop_at mixed (fun (y : Nat × List Ntc) => ([(7, I y.1), (5, encT (some 2) encNtc 6 y.2), (2, .ptr 0 []), (4, .ptr 1 []), (1, encL encNtc 6 xs)], [(0, .box (encStt s)), (1, .box zStt), (2, .room y.2.length 6 131)], 3)) (fun y => y.1 ≤ xs.length ∧ y.2.length = s.notices.length + y.1) (fun y => xs.length - y.1) (0, ys) ⟨Nat.zero_le _, hys⟩ (le_st (le_r rfl) (leE_i rfl rfl (leE_eq rfl (bnd_encT nf_encNtc (lt_r rfl)) (leE_ptr rfl rfl (leE_ptr rfl rfl (leE_eq rfl (bnd_nf _ (nfL_Ntc _ _)) trivial))))) (leO_box (lt_r rfl) rfl (LeA.refl _) (bnd_nf _ (nf_encStt _)) (leO_box (lt_r rfl) rfl (LeA.refl _) (bnd_nf _ (nf_zStt)) (leO_room (lt_r rfl) rfl trivial))) gl0n) ?_
    rintro ⟨j, zs⟩ ⟨hj, hz⟩
    dsimp only at hj hz ⊢
    conv => whnf
    have hn2 : (xs.length : Int) < 9223372036854775808 := by omega
    by_cases c2 : j < xs.length
    · refine br_true (decide_eq_true ((by omega : (j : Int) < xs.length))) ?_
      conv => whnf
      repeat' first
        | (refine br_dec (fun h0 => ?_) (fun h0 => ?_) <;> (conv => whnf))
        | (refine br_intro (fun hb => ?_) (fun hb => ?_) <;> ((try rw [hb]); (conv => whnf); (try simp at hb)))
        | (exact ⟨(j + 1, zs ++ [⟨_, _, _, _, _, _⟩]), ⟨c2, by show (zs ++ [_]).length = s.notices.length + (j + 1); (simp; omega)⟩, (by show xs.length - (j + 1) < xs.length - j; omega), (le_st (le_r rfl) (leE_i rfl (inc_id c2 hn2) (leE_le rfl (leA_snoc (enc := encNtc) (leA_Ntc ..)).le (bnd_encT nf_encNtc (lt_r rfl)) (leE_ptr rfl rfl (leE_ptr rfl rfl (leE_eq rfl (bnd_nf _ (nfL_Ntc _ _)) trivial))))) (leO_box (lt_r rfl) rfl (LeA.refl _) (bnd_nf _ (nf_encStt _)) (leO_box (lt_r rfl) rfl (LeA.refl _) (bnd_nf _ nf_zStt) (leO_room (lt_r rfl) (by (simp; rfl)) trivial))) gl0n)⟩)
        | (refine aI ?_; (conv => whnf))
        | (refine fin_e ?_; (conv => whnf); exact lfA)
        | fail
    · refine br_false (decide_eq_false ((by omega : ¬ ((j : Int) < xs.length)))) ?_
      conv => whnf
      refine fin_r (encStt ⟨s.today, s.loans, zs⟩) (nf_encStt _) ⟨_, rfl, by omega⟩ ?_
      conv => whnf
      exact (LeA.st (LeA.cons (LeA.refl _) (LeA.cons (LeA.refl _) (LeA.cons leA_drop (LeA.refl _))))).le

end Go.Proofs.YtaomkjcclcgdlaaGreatDoor
namespace Go.Proofs.YtaomkjcclcgdlaaGreatDoor
open Go Ar
set_option linter.unusedVariables false
set_option autoImplicit false
set_option maxHeartbeats 4000000
set_option maxRecDepth 100000

theorem snoc_all {α : Type} {P : α → Prop} {ys : List α} {y : α} (h : ∀ x ∈ ys, P x) (hy : P y) : ∀ x ∈ ys ++ [y], P x := fun x hx => by
  rcases List.mem_append.1 hx with hx | hx
  · exact h x hx
  · simp at hx; exact hx ▸ hy

abbrev QCh (s : Stt) (b : Nat) : AV → Prop := fun r => ∃ s', r = encStt s' ∧ s'.loans.length = s.loans.length ∧ okS b s'

abbrev PL (x : Ln) : Prop := x.plan.length ≤ 1000

theorem r15_changed_s (s : Stt) (i : Int) (o : Otc) (b : Nat) (h : okS b s) (hb : b ≤ 100000000000) (h2 : o.loan.plan.length ≤ 1000) (h3 : o.notices.length ≤ 10000) (hid : ∀ k : Nat, i = k → k < s.loans.length → o.loan.id = (at_ s.loans k).id) : PureX Tryz.prog gl0 r15_changed [encStt s, I i, encOtc o] (QCh s (b + 10000)) := by
  refine pure_fnX mixed fn_r15_changed nt_r15_changed hc_r15_changed (by simp) gl0n (by simp [nf]) ?_
  conv => whnf
  have hsn := h.n
  have hsb := h.b
  refine loop_at mixed (fun (y : Nat × List Ln) => ([(8, I y.1), (7, encT (some 3) encLn 46 y.2), (1, I i), (3, .ptr 0 []), (5, .ptr 1 []), (6, .ptr 2 [])], [(0, .box (encStt s)), (1, .box (encOtc o)), (2, .box zStt), (3, .room y.2.length 46 41)], 4)) (fun y => y.1 ≤ s.loans.length ∧ y.2.length = y.1 ∧ (∀ x ∈ y.2, PL x) ∧ y.2.map Ln.id = (s.loans.take y.1).map Ln.id) (fun y => s.loans.length - y.1) (0, []) ⟨Nat.zero_le _, rfl, fun x hx => (by cases hx), rfl⟩ ((le_nil 7 46 41 (fun i => encLn (at_ ([] : List Ln) i)) rfl).trans (le_st (le_r rfl) (leE_i rfl rfl (leE_eq rfl (bnd_encT nf_encLn (lt_r rfl)) (leE_i rfl rfl (leE_ptr rfl rfl (leE_ptr rfl rfl (leE_ptr rfl rfl trivial)))))) (leO_box (lt_r rfl) rfl (LeA.refl _) (bnd_nf _ (nf_encStt _)) (leO_box (lt_r rfl) rfl (LeA.refl _) (bnd_nf _ (nf_encOtc _)) (leO_box (lt_r rfl) rfl (LeA.refl _) (bnd_nf _ (nf_zStt)) (leO_room (lt_r rfl) rfl trivial)))) gl0n)) ?_
  rintro ⟨k, ys⟩ ⟨hk, hl, hp, hd⟩
  dsimp only at hk hl hp hd ⊢
  conv => whnf
  have hn : (s.loans.length : Int) < 9223372036854775808 := by omega
  by_cases c : k < s.loans.length
  · refine br_true (decide_eq_true ((by omega : (k : Int) < s.loans.length))) ?_
    conv => whnf
    repeat' first
      | (refine br_dec (fun h0 => ?_) (fun h0 => ?_) <;> (conv => whnf))
      | (refine br_intro (fun hb => ?_) (fun hb => ?_) <;> ((try rw [hb]); (conv => whnf); (try simp at hb)))
      | (refine ⟨(k + 1, ys ++ [⟨_, ⟨_, _, _, _, _, _⟩, _, _, ⟨_, _, _, _, _, _, _, _, _, _, _, _, _, _, _⟩, _, _, _, ⟨_, _, _, _, _⟩, _, _, _⟩]), ⟨c, by show (ys ++ [_]).length = k + 1; (simp; omega), ?_, ?_⟩, (by show s.loans.length - (k + 1) < s.loans.length - k; omega), (le_st (le_r rfl) (leE_i rfl (inc_id c hn) (leE_le rfl (leA_snoc (enc := encLn) (leA_Ln ..)).le (bnd_encT nf_encLn (lt_r rfl)) (leE_i rfl rfl (leE_ptr rfl rfl (leE_ptr rfl rfl (leE_ptr rfl rfl trivial)))))) (leO_box (lt_r rfl) rfl (LeA.refl _) (bnd_nf _ (nf_encStt _)) (leO_box (lt_r rfl) rfl (LeA.refl _) (bnd_nf _ (nf_encOtc _)) (leO_box (lt_r rfl) rfl (LeA.refl _) (bnd_nf _ nf_zStt) (leO_room (lt_r rfl) (by (simp; rfl)) trivial)))) gl0n)⟩; exact snoc_all hp (by first | exact h2 | exact h.at_ c); (show List.map Ln.id (ys ++ [_]) = List.map Ln.id (s.loans.take (k + 1))); (rw [take_at c, List.map_append, List.map_append, hd]); first | rfl | exact congrArg (fun x => (s.loans.take k).map Ln.id ++ [x]) (hid k (by omega) c))
      | (refine aI ?_; (conv => whnf))
      | (refine fin_e ?_; (conv => whnf); exact lfA)
      | fail
  · refine br_false (decide_eq_false ((by omega : ¬ ((k : Int) < s.loans.length)))) ?_
    conv => whnf
    repeat' first
      | (refine br_dec (fun h0 => ?_) (fun h0 => ?_) <;> (conv => whnf))
      | (refine br_intro (fun hb => ?_) (fun hb => ?_) <;> ((try rw [hb]); (conv => whnf); (try simp at hb)))
      | (refine call_x2 (r15_noticed_s ⟨s.today, ys, s.notices⟩ o.notices (by show s.notices.length ≤ _; omega) (by omega)) ⟨(LeA.st (LeA.cons (LeA.refl _) (LeA.cons leA_drop (LeA.refl _)))).le, Le.refl _, trivial⟩ ?_; (rintro _ - ⟨ns, rfl, hns⟩); (dsimp only at hns); (conv => whnf))
      | (refine fin_r (encStt ⟨s.today, ys, ns⟩) (nf_encStt _) ⟨_, rfl, ?_, ⟨?_, hp, ?_, ?_⟩⟩ ?_; (show ys.length = _; omega); (show ys.length ≤ _; omega); (show ns.length ≤ _; omega); (show (ys.map Ln.id).Pairwise _); (rw [hd, List.take_of_length_le (by omega)]); exact h.d; (conv => whnf); exact Le.refl _)
      | (refine aI ?_; (conv => whnf))
      | (refine fin_e ?_; (conv => whnf); exact lfA)
      | fail

theorem leA_ints {tok : Option Nat} {k : Nat} {h : Nat → AV} (hh : ∀ i, i < k → ∃ x, h i = I x) : ∃ xs : List Int, xs.length = k ∧ LeA (.lst tok k 1 h) (encL I 1 xs) := by
  have : ∀ k, (∀ i, i < k → ∃ x, h i = I x) → ∃ xs : List Int, xs.length = k ∧ ∀ i, i < k → h i = I (at_ xs i) := by
    intro k
    induction k with
    | zero => exact fun _ => ⟨[], rfl, fun i hi => by omega⟩
    | succ k ih =>
      intro hk
      obtain ⟨xs, h1, h2⟩ := ih (fun i hi => hk i (by omega))
      obtain ⟨x, hx⟩ := hk k (by omega)
      refine ⟨xs ++ [x], by simp [h1], fun i hi => ?_⟩
      by_cases c : i < k
      · rw [h2 i c, at_lt (by omega), at_lt (by simp; omega), List.getElem_append_left (by omega)]
      · obtain rfl : i = k := by omega
        rw [hx, at_lt (by simp; omega), List.getElem_append_right (by omega)]
        simp [h1]
  obtain ⟨xs, h1, h2⟩ := this k hh
  refine ⟨xs, h1, ?_⟩
  subst h1
  exact LeA.lst (.inr rfl) fun i hi => LeA.of_eq (h2 i hi)

abbrev QNu (b : Nat) : AV → Prop := fun r => ∃ xs, r = encL I 1 xs ∧ xs.length ≤ b

theorem fin_nu {N b : Nat} {rs : List RV} {e : Env} {o : Objs} {n : Nat} (h : resA e o rs fun q => ∃ tok k f, packA q = .lst tok k 1 f ∧ k ≤ b ∧ ∀ i, i < k → ∃ x, f i = I x) : FinP gl0 N rs (QNu b) e o n :=
  ⟨e, o, n, LeSt.refl gl0 N e o n, resA_mono rs (fun q hq => by
    obtain ⟨tok, k, f, h1, h2, h3⟩ := hq
    obtain ⟨xs, h4, h5⟩ := leA_ints (tok := tok) h3
    exact ⟨encL I 1 xs, nfL_I 1 xs, ⟨xs, rfl, by omega⟩, by rw [h1]; exact h5.le⟩) h⟩

theorem r15_first_s (l : Ln) (h : l.plan.length ≤ 1000) : PureX Tryz.prog gl0 r15_first [encLn l] (QNu 10) := by
  refine pure_fnX mixed fn_r15_first nt_r15_first hc_r15_first (by simp) gl0n (by simp [nf]) ?_
  conv => whnf
  repeat' first
    | (refine br_dec (fun h0 => ?_) (fun h0 => ?_) <;> (conv => whnf))
    | (refine br_intro (fun hb => ?_) (fun hb => ?_) <;> ((try rw [hb]); (conv => whnf); (try simp at hb)))
    | (refine fin_nu ?_; (conv => whnf); refine ⟨_, _, _, rfl, by (simp only [List.length_cons, List.length_nil]; omega), ?_⟩; intro i hi; simp only [List.length_cons, List.length_nil] at hi; rcases i with _ | _ | _ | _ | i <;> first | exact ⟨_, rfl⟩ | (exfalso; omega))
    | (refine aI ?_; (conv => whnf))
    | (refine fin_e ?_; (conv => whnf); exact lfA)
    | fail

end Go.Proofs.YtaomkjcclcgdlaaGreatDoor
namespace Go.Proofs.YtaomkjcclcgdlaaGreatDoor
open Go Ar
set_option linter.unusedVariables false
set_option autoImplicit false
set_option maxHeartbeats 4000000
set_option maxRecDepth 100000

theorem r15_called_s (p : Pol) (l : Ln) (o : Opn) (hp : hasI p) (h : l.plan.length ≤ 1000) : PureX Tryz.prog gl0 r15_called [encPol p, encLn l, encOpn o] (QO l.id) := by
  refine pure_fnX mixed fn_r15_called nt_r15_called hc_r15_called (by simp) gl0n (by simp [nf]) ?_
  conv => whnf
  repeat' first
    | (refine br_dec (fun h0 => ?_) (fun h0 => ?_) <;> (conv => whnf))
    | (refine br_intro (fun hb => ?_) (fun hb => ?_) <;> ((try rw [hb]); (conv => whnf); (try simp at hb)))
    | (refine call_x2 (r14_Pay_s p l _ hp h) (LeL.refl _) ?_; (rintro _ - ⟨o', rfl, h1, h2⟩); (conv => whnf); refine fin_r (encOtc o') (nf_encOtc _) ⟨_, rfl, h1, h2⟩ ?_; (conv => whnf); exact Le.refl _)
    | (refine call_x2 (r14_Return_s p l hp h) (LeL.refl _) ?_; (rintro _ - ⟨o', rfl, h1, h2⟩); (conv => whnf); refine fin_r (encOtc o') (nf_encOtc _) ⟨_, rfl, h1, h2⟩ ?_; (conv => whnf); exact Le.refl _)
    | (refine call_x2 (r14_Refund_s p l _ hp h) (LeL.refl _) ?_; (rintro _ - ⟨o', rfl, h1, h2⟩); (conv => whnf); refine fin_r (encOtc o') (nf_encOtc _) ⟨_, rfl, h1, h2⟩ ?_; (conv => whnf); exact Le.refl _)
    | (refine call_x2 (r14_Waive_s p l _ hp h) (LeL.refl _) ?_; (rintro _ - ⟨o', rfl, h1, h2⟩); (conv => whnf); refine fin_r (encOtc o') (nf_encOtc _) ⟨_, rfl, h1, h2⟩ ?_; (conv => whnf); exact Le.refl _)
    | (refine call_x2 (r14_Promise_s p l _ _ hp h) (LeL.refl _) ?_; (rintro _ - ⟨o', rfl, h1, h2⟩); (conv => whnf); refine fin_r (encOtc o') (nf_encOtc _) ⟨_, rfl, h1, h2⟩ ?_; (conv => whnf); exact Le.refl _)
    | (refine call_x2 (r14_Restructure_s p l _ _ hp h) (LeL.refl _) ?_; (rintro _ - ⟨o', rfl, h1, h2⟩); (conv => whnf); refine fin_r (encOtc o') (nf_encOtc _) ⟨_, rfl, h1, h2⟩ ?_; (conv => whnf); exact Le.refl _)
    | (refine aI ?_; (conv => whnf))
    | (refine fin_e ?_; (conv => whnf); exact lfA)
    | fail

theorem r15_numbers_s (o : Opn) (q : Otc) (h : q.loan.plan.length ≤ 1000) : PureX Tryz.prog gl0 r15_numbers [encOpn o, encOtc q] (QNu 100) := by
  refine pure_fnX mixed fn_r15_numbers nt_r15_numbers hc_r15_numbers (by simp) gl0n (by simp [nf]) ?_
  conv => whnf
  repeat' first
    | (refine br_dec (fun h0 => ?_) (fun h0 => ?_) <;> (conv => whnf))
    | (refine br_intro (fun hb => ?_) (fun hb => ?_) <;> ((try rw [hb]); (conv => whnf); (try simp at hb)))
    | (refine call_x2 (r8_Balance_s _ _) ⟨Le.refl _, Le.refl _, trivial⟩ ?_; (rintro _ - ⟨_, _, rfl⟩); (conv => whnf))
    | (refine call_x2 (r15_first_s q.loan h) ⟨le_Ln .., trivial⟩ ?_; (rintro _ - ⟨xs, rfl, hx⟩); (conv => whnf))
    | (refine fin_nu ?_; (conv => whnf); refine ⟨_, _, _, rfl, by (simp only [List.length_cons, List.length_nil]; omega), ?_⟩; intro i hi; simp only [List.length_cons, List.length_nil] at hi; rcases i with _ | _ | _ | _ | _ | _ | i <;> first | exact ⟨_, rfl⟩ | (exfalso; omega))
    | (refine aI ?_; (conv => whnf))
    | (refine fin_e ?_; (conv => whnf); exact lfA)
    | fail

end Go.Proofs.YtaomkjcclcgdlaaGreatDoor
namespace Go.Proofs.YtaomkjcclcgdlaaGreatDoor
open Go Ar
set_option linter.unusedVariables false
set_option autoImplicit false
set_option maxHeartbeats 4000000
set_option maxRecDepth 100000

def zRep : AV := .st (.cons (I 0) (.cons (.val (.slice none 0 0)) .nil))
theorem nf_zRep : nf zRep := by simp [zRep, nf]
def zOtc : AV := .st (.cons zLn (.cons (encPrt ⟨0, 0, 0, 0, 0⟩) (.cons (.val (.slice none 0 0)) (.cons (I 0) .nil))))

theorem leZR (e : Int) : LeA (.st (.cons (I e) (.cons (.val (.slice none 0 0)) .nil))) (encRep e []) := LeA.st (LeA.cons (LeA.refl _) (LeA.cons leA_nilL (LeA.refl _)))

abbrev QS (b : Nat) : AV → Prop := fun r => ∃ s e xs, r = tup2 (encStt s) (encRep e xs) ∧ okS b s

theorem fin_s {N b : Nat} {rs : List RV} {e : Env} {o : Objs} {n : Nat} (h : resA e o rs fun q => ∃ a c s' k xs, q = [a, c] ∧ LeA a (encStt s') ∧ LeA c (encRep k xs) ∧ okS b s') : FinP gl0 N rs (QS b) e o n :=
  ⟨e, o, n, LeSt.refl gl0 N e o n, resA_mono rs (fun q hq => by
    obtain ⟨a, c, s', k, xs, rfl, h1, h2, h3⟩ := hq
    exact ⟨tup2 (encStt s') (encRep k xs), ⟨nf_encStt _, nf_encRep _ _, trivial⟩, ⟨s', k, xs, rfl, h3⟩, (LeA.tup (LeA.cons h1 (LeA.cons h2 (LeA.refl _)))).le⟩) h⟩

theorem okS.mono {a b : Nat} {s : Stt} (h : okS a s) (hab : a ≤ b) : okS b s := ⟨h.n, h.p, Nat.le_trans h.b hab, h.d⟩

/-- The numbers of the loans below, and above, a number. -/
def idsL (l : List Ln) (k : Nat) (n : Int) : List Int := ((l.take k).map Ln.id).filter (fun x => decide (x < n))
def idsG (l : List Ln) (k : Nat) (n : Int) : List Int := ((l.take k).map Ln.id).filter (fun x => decide (n < x))
theorem idsL_lt {l : List Ln} {k : Nat} {n : Int} (c : k < l.length) (h : (at_ l k).id < n) : idsL l (k + 1) n = idsL l k n ++ [(at_ l k).id] := by
  unfold idsL
  rw [take_at c, List.map_append, List.filter_append]
  simp [h]
theorem idsL_ge {l : List Ln} {k : Nat} {n : Int} (c : k < l.length) (h : ¬ (at_ l k).id < n) : idsL l (k + 1) n = idsL l k n := by
  unfold idsL
  rw [take_at c, List.map_append, List.filter_append]
  simp [h]
theorem idsG_lt {l : List Ln} {k : Nat} {n : Int} (c : k < l.length) (h : (at_ l k).id > n) : idsG l (k + 1) n = idsG l k n ++ [(at_ l k).id] := by
  unfold idsG
  rw [take_at c, List.map_append, List.filter_append]
  simp [show n < _ from h]
theorem idsG_ge {l : List Ln} {k : Nat} {n : Int} (c : k < l.length) (h : ¬ (at_ l k).id > n) : idsG l (k + 1) n = idsG l k n := by
  unfold idsG
  rw [take_at c, List.map_append, List.filter_append]
  simp [show ¬ n < _ from h]
theorem idsP {l : List Ln} {n : Int} {k j : Nat} (h : (l.map Ln.id).Pairwise (· < ·)) (hk : l.length ≤ k) (hj : l.length ≤ j) : (idsL l k n ++ n :: idsG l j n).Pairwise (· < ·) := by
  have hl : ∀ x ∈ idsL l k n, x < n := fun x hx => of_decide_eq_true (List.mem_filter.1 hx).2
  have hg : ∀ x ∈ idsG l j n, n < x := fun x hx => of_decide_eq_true (p := n < x) (List.mem_filter.1 hx).2
  have pl : (idsL l k n).Pairwise (· < ·) := by unfold idsL; rw [List.take_of_length_le hk]; exact h.filter _
  have pg : (idsG l j n).Pairwise (· < ·) := by unfold idsG; rw [List.take_of_length_le hj]; exact h.filter _
  rw [List.pairwise_append, List.pairwise_cons]
  refine ⟨pl, ⟨hg, pg⟩, fun x hx y hy => ?_⟩
  have h1 := hl x hx
  rcases List.mem_cons.1 hy with rfl | hy
  · exact h1
  · have h2 := hg y hy; omega

abbrev PL1 (k : Nat) (ys : List Ln) : Prop := ys.length ≤ k ∧ ∀ x ∈ ys, PL x

theorem r15_opened_s (p : Pol) (s : Stt) (o : Opn) (b : Nat) (hp : hasI p) (h : okS b s) (hb : b ≤ 100000000000) : PureX Tryz.prog gl0 r15_opened [encPol p, encStt s, encOpn o] (QS (b + 10000)) := by
  refine pure_fnX mixed fn_r15_opened nt_r15_opened hc_r15_opened (by simp) gl0n (by simp [nf]) ?_
  conv => whnf
  have hsn := h.n
  have hsb := h.b
  repeat' first
    | (refine br_dec (fun h0 => ?_) (fun h0 => ?_) <;> (conv => whnf))
    | (refine br_intro (fun hb => ?_) (fun hb => ?_) <;> ((try rw [hb]); (conv => whnf); (try simp at hb)))
    | (refine call_x2 (r15_refusal_s _) (LeL.refl _) ?_; rintro _ - rfl; (conv => whnf))
    | (refine call_x2 (r15_place_s s _ h.n) (LeL.refl _) ?_; (rintro _ - ⟨_, rfl, _, _⟩); (conv => whnf))
    | (refine call_x2 (r14_Open_s p _ ⟨_, _, _, _, _, _⟩ hp) ⟨Le.refl _, Le.refl _, le_Trm .., trivial⟩ ?_; (rintro _ - ⟨oc, rfl, ho1, ho2⟩); (conv => whnf))
    | (refine fin_s ?_; (conv => whnf); exact ⟨_, _, s, _, [], rfl, LeA.refl _, LeA.refl _, h.mono (Nat.le_add_right _ _)⟩)
    | (refine fin_s ?_; (conv => whnf); exact ⟨_, _, s, _, [], rfl, LeA.refl _, leZR _, h.mono (Nat.le_add_right _ _)⟩)
    | (exact True.elim trivial)
    | (refine aI ?_; (conv => whnf))
    | (refine fin_e ?_; (conv => whnf); exact lfA)
    | fail
  have hn : (s.loans.length : Int) < 9223372036854775808 := by omega
  have hs31 : s.loans.length ≤ 31 := by omega
  have hoid : oc.loan.id = o.loan := ho2.2 (by omega)
  refine loop_at mixed (fun (y : Nat × List Ln) => ([(10, I y.1), (9, encT (some 6) encLn 46 y.2), (3, .ptr 0 []), (4, .ptr 1 []), (5, .ptr 2 []), (6, .ptr 3 []), (7, .ptr 4 []), (8, .ptr 5 [])], [(0, .box (encPol p)), (1, .box (encStt s)), (2, .box (encOpn o)), (3, .box zStt), (4, .box zRep), (5, .box (encOtc oc)), (6, .room y.2.length 46 41)], 7)) (fun y => y.1 ≤ s.loans.length ∧ PL1 y.1 y.2 ∧ y.2.map Ln.id = idsL s.loans y.1 o.loan) (fun y => s.loans.length - y.1) (0, []) ⟨Nat.zero_le _, ⟨Nat.le_refl _, fun x hx => (by cases hx)⟩, rfl⟩ ((le_nil 9 46 41 (fun i => encLn (at_ ([] : List Ln) i)) rfl).trans (le_st (le_r rfl) (leE_i rfl rfl (leE_eq rfl (bnd_encT nf_encLn (lt_r rfl)) (leE_ptr rfl rfl (leE_ptr rfl rfl (leE_ptr rfl rfl (leE_ptr rfl rfl (leE_ptr rfl rfl (leE_ptr rfl rfl trivial)))))))) (leO_box (lt_r rfl) rfl (LeA.refl _) (bnd_nf _ (nf_encPol _)) (leO_box (lt_r rfl) rfl (LeA.refl _) (bnd_nf _ (nf_encStt _)) (leO_box (lt_r rfl) rfl (LeA.refl _) (bnd_nf _ (nf_encOpn _)) (leO_box (lt_r rfl) rfl (LeA.refl _) (bnd_nf _ (nf_zStt)) (leO_box (lt_r rfl) rfl (LeA.refl _) (bnd_nf _ (nf_zRep)) (leO_box (lt_r rfl) rfl (LeA.refl _) (bnd_nf _ (nf_encOtc _)) (leO_room (lt_r rfl) rfl trivial))))))) gl0n)) ?_
  rintro ⟨k, ys⟩ ⟨hk, ⟨hl, hpl⟩, hd⟩
  dsimp only at hk hl hpl hd ⊢
  conv => whnf
  by_cases c : k < s.loans.length
  · refine br_true (decide_eq_true ((by omega : (k : Int) < s.loans.length))) ?_
    conv => whnf
    repeat' first
      | (refine br_dec (fun h0 => ?_) (fun h0 => ?_) <;> (conv => whnf))
      | (refine br_intro (fun hb => ?_) (fun hb => ?_) <;> ((try rw [hb]); (conv => whnf); (try simp at hb)))
      | (refine ⟨(k + 1, ys), ⟨c, ⟨Nat.le_succ_of_le hl, hpl⟩, hd.trans (idsL_ge c (by first | assumption | omega)).symm⟩, (by show s.loans.length - (k + 1) < s.loans.length - k; omega), (le_st (le_r rfl) (leE_i rfl (inc_id c hn) (leE_eq rfl (bnd_encT nf_encLn (lt_r rfl)) (leE_ptr rfl rfl (leE_ptr rfl rfl (leE_ptr rfl rfl (leE_ptr rfl rfl (leE_ptr rfl rfl (leE_ptr rfl rfl trivial)))))))) (leO_box (lt_r rfl) rfl (LeA.refl _) (bnd_nf _ (nf_encPol _)) (leO_box (lt_r rfl) rfl (LeA.refl _) (bnd_nf _ (nf_encStt _)) (leO_box (lt_r rfl) rfl (LeA.refl _) (bnd_nf _ (nf_encOpn _)) (leO_box (lt_r rfl) rfl (LeA.refl _) (bnd_nf _ (nf_zStt)) (leO_box (lt_r rfl) rfl (LeA.refl _) (bnd_nf _ (nf_zRep)) (leO_box (lt_r rfl) rfl (LeA.refl _) (bnd_nf _ (nf_encOtc _)) (leO_room (lt_r rfl) rfl trivial))))))) gl0n)⟩)
      | (refine ⟨(k + 1, ys ++ [⟨_, ⟨_, _, _, _, _, _⟩, _, _, ⟨_, _, _, _, _, _, _, _, _, _, _, _, _, _, _⟩, _, _, _, ⟨_, _, _, _, _⟩, _, _, _⟩]), ⟨c, ⟨by show (ys ++ [_]).length ≤ k + 1; (simp; omega), ?_⟩, ?_⟩, (by show s.loans.length - (k + 1) < s.loans.length - k; omega), (le_st (le_r rfl) (leE_i rfl (inc_id c hn) (leE_le rfl (leA_snoc (enc := encLn) (leA_Ln ..)).le (bnd_encT nf_encLn (lt_r rfl)) (leE_ptr rfl rfl (leE_ptr rfl rfl (leE_ptr rfl rfl (leE_ptr rfl rfl (leE_ptr rfl rfl (leE_ptr rfl rfl trivial)))))))) (leO_box (lt_r rfl) rfl (LeA.refl _) (bnd_nf _ (nf_encPol _)) (leO_box (lt_r rfl) rfl (LeA.refl _) (bnd_nf _ (nf_encStt _)) (leO_box (lt_r rfl) rfl (LeA.refl _) (bnd_nf _ (nf_encOpn _)) (leO_box (lt_r rfl) rfl (LeA.refl _) (bnd_nf _ nf_zStt) (leO_box (lt_r rfl) rfl (LeA.refl _) (bnd_nf _ nf_zRep) (leO_box (lt_r rfl) rfl (LeA.refl _) (bnd_nf _ (nf_encOtc _)) (leO_room (lt_r rfl) (by (simp; rfl)) trivial))))))) gl0n)⟩; exact snoc_all hpl (h.at_ c); (show List.map Ln.id (ys ++ [_]) = idsL s.loans (k + 1) o.loan); (rw [List.map_append, hd, idsL_lt c (by first | assumption | omega)]); rfl)
      | (refine aI ?_; (conv => whnf))
      | (refine fin_e ?_; (conv => whnf); exact lfA)
      | fail
  · refine br_false (decide_eq_false ((by omega : ¬ ((k : Int) < s.loans.length)))) ?_
    conv => whnf
    repeat' first
      | (refine br_dec (fun h0 => ?_) (fun h0 => ?_) <;> (conv => whnf))
      | (refine br_intro (fun hb => ?_) (fun hb => ?_) <;> ((try rw [hb]); (conv => whnf); (try simp at hb)))
      | (exact True.elim trivial)
      | (refine aI ?_; (conv => whnf))
      | (refine fin_e ?_; (conv => whnf); exact lfA)
      | fail
    refine loop_at mixed (fun (y : Nat × List Ln) => ([(11, I y.1), (9, encT (some 6) encLn 46 y.2), (3, .ptr 0 []), (4, .ptr 1 []), (5, .ptr 2 []), (6, .ptr 3 []), (7, .ptr 4 []), (8, .ptr 5 [])], [(0, .box (encPol p)), (1, .box (encStt s)), (2, .box (encOpn o)), (3, .box zStt), (4, .box zRep), (5, .box (encOtc oc)), (6, .room y.2.length 46 41)], 7)) (fun y => y.1 ≤ s.loans.length ∧ PL1 (32 + y.1) y.2 ∧ y.2.map Ln.id = idsL s.loans s.loans.length o.loan ++ o.loan :: idsG s.loans y.1 o.loan) (fun y => s.loans.length - y.1) (0, ys ++ [⟨_, ⟨_, _, _, _, _, _⟩, _, _, ⟨_, _, _, _, _, _, _, _, _, _, _, _, _, _, _⟩, _, _, _, ⟨_, _, _, _, _⟩, _, _, _⟩]) ?_ (le_st (le_r rfl) (leE_i rfl rfl (leE_le rfl (leA_snoc (enc := encLn) (leA_Ln ..)).le (bnd_encT nf_encLn (lt_r rfl)) (leE_ptr rfl rfl (leE_ptr rfl rfl (leE_ptr rfl rfl (leE_ptr rfl rfl (leE_ptr rfl rfl (leE_ptr rfl rfl trivial)))))))) (leO_box (lt_r rfl) rfl (LeA.refl _) (bnd_nf _ (nf_encPol _)) (leO_box (lt_r rfl) rfl (LeA.refl _) (bnd_nf _ (nf_encStt _)) (leO_box (lt_r rfl) rfl (LeA.refl _) (bnd_nf _ (nf_encOpn _)) (leO_box (lt_r rfl) rfl (LeA.refl _) (bnd_nf _ nf_zStt) (leO_box (lt_r rfl) rfl (LeA.refl _) (bnd_nf _ nf_zRep) (leO_box (lt_r rfl) rfl (LeA.refl _) (bnd_nf _ (nf_encOtc _)) (leO_room (lt_r rfl) (by (simp; rfl)) trivial))))))) gl0n) ?_
    · refine ⟨Nat.zero_le _, ⟨by (show (ys ++ [_]).length ≤ 32 + 0; simp; omega), snoc_all hpl ho1⟩, ?_⟩
      show List.map Ln.id (ys ++ [_]) = idsL s.loans s.loans.length o.loan ++ [o.loan]
      rw [List.map_append, hd, show s.loans.length = k by omega, ← hoid]
      rfl
    clear hl hpl hd
    clear ys
    rintro ⟨j, ys⟩ ⟨hj, ⟨hl, hpl⟩, hd⟩
    dsimp only at hj hl hpl hd ⊢
    conv => whnf
    by_cases c2 : j < s.loans.length
    · refine br_true (decide_eq_true ((by omega : (j : Int) < s.loans.length))) ?_
      conv => whnf
      repeat' first
        | (refine br_dec (fun h0 => ?_) (fun h0 => ?_) <;> (conv => whnf))
        | (refine br_intro (fun hb => ?_) (fun hb => ?_) <;> ((try rw [hb]); (conv => whnf); (try simp at hb)))
        | (refine ⟨(j + 1, ys), ⟨c2, ⟨Nat.le_succ_of_le hl, hpl⟩, (by rw [idsG_ge c2 (by first | assumption | omega)]; exact hd)⟩, (by show s.loans.length - (j + 1) < s.loans.length - j; omega), (le_st (le_r rfl) (leE_i rfl (inc_id c2 hn) (leE_eq rfl (bnd_encT nf_encLn (lt_r rfl)) (leE_ptr rfl rfl (leE_ptr rfl rfl (leE_ptr rfl rfl (leE_ptr rfl rfl (leE_ptr rfl rfl (leE_ptr rfl rfl trivial)))))))) (leO_box (lt_r rfl) rfl (LeA.refl _) (bnd_nf _ (nf_encPol _)) (leO_box (lt_r rfl) rfl (LeA.refl _) (bnd_nf _ (nf_encStt _)) (leO_box (lt_r rfl) rfl (LeA.refl _) (bnd_nf _ (nf_encOpn _)) (leO_box (lt_r rfl) rfl (LeA.refl _) (bnd_nf _ (nf_zStt)) (leO_box (lt_r rfl) rfl (LeA.refl _) (bnd_nf _ (nf_zRep)) (leO_box (lt_r rfl) rfl (LeA.refl _) (bnd_nf _ (nf_encOtc _)) (leO_room (lt_r rfl) rfl trivial))))))) gl0n)⟩)
        | (refine ⟨(j + 1, ys ++ [⟨_, ⟨_, _, _, _, _, _⟩, _, _, ⟨_, _, _, _, _, _, _, _, _, _, _, _, _, _, _⟩, _, _, _, ⟨_, _, _, _, _⟩, _, _, _⟩]), ⟨c2, ⟨by show (ys ++ [_]).length ≤ 32 + (j + 1); (simp; omega), ?_⟩, ?_⟩, (by show s.loans.length - (j + 1) < s.loans.length - j; omega), (le_st (le_r rfl) (leE_i rfl (inc_id c2 hn) (leE_le rfl (leA_snoc (enc := encLn) (leA_Ln ..)).le (bnd_encT nf_encLn (lt_r rfl)) (leE_ptr rfl rfl (leE_ptr rfl rfl (leE_ptr rfl rfl (leE_ptr rfl rfl (leE_ptr rfl rfl (leE_ptr rfl rfl trivial)))))))) (leO_box (lt_r rfl) rfl (LeA.refl _) (bnd_nf _ (nf_encPol _)) (leO_box (lt_r rfl) rfl (LeA.refl _) (bnd_nf _ (nf_encStt _)) (leO_box (lt_r rfl) rfl (LeA.refl _) (bnd_nf _ (nf_encOpn _)) (leO_box (lt_r rfl) rfl (LeA.refl _) (bnd_nf _ nf_zStt) (leO_box (lt_r rfl) rfl (LeA.refl _) (bnd_nf _ nf_zRep) (leO_box (lt_r rfl) rfl (LeA.refl _) (bnd_nf _ (nf_encOtc _)) (leO_room (lt_r rfl) (by (simp; rfl)) trivial))))))) gl0n)⟩; exact snoc_all hpl (h.at_ c2); (show List.map Ln.id (ys ++ [_]) = idsL s.loans s.loans.length o.loan ++ o.loan :: idsG s.loans (j + 1) o.loan); (rw [List.map_append, hd, idsG_lt c2 (by first | assumption | omega), List.append_assoc]); rfl)
        | (refine aI ?_; (conv => whnf))
        | (refine fin_e ?_; (conv => whnf); exact lfA)
        | fail
    · refine br_false (decide_eq_false ((by omega : ¬ ((j : Int) < s.loans.length)))) ?_
      conv => whnf
      repeat' first
        | (refine br_dec (fun h0 => ?_) (fun h0 => ?_) <;> (conv => whnf))
        | (refine br_intro (fun hb => ?_) (fun hb => ?_) <;> ((try rw [hb]); (conv => whnf); (try simp at hb)))
        | (refine call_x2 (r15_noticed_s ⟨s.today, ys, s.notices⟩ oc.notices (by show s.notices.length ≤ _; omega) (by omega)) ⟨(LeA.st (LeA.cons (LeA.refl _) (LeA.cons leA_drop (LeA.refl _)))).le, Le.refl _, trivial⟩ ?_; (rintro _ - ⟨ns, rfl, hns⟩); (dsimp only at hns); (conv => whnf))
        | (refine call_x2 (r15_first_s oc.loan ho1) (LeL.refl _) ?_; (rintro _ - ⟨xs, rfl, hx⟩); (conv => whnf))
        | (refine fin_s ?_; (conv => whnf); refine ⟨_, _, ⟨s.today, ys, ns⟩, _, xs, rfl, LeA.refl _, LeA.refl _, ⟨?_, hpl, ?_, ?_⟩⟩; (show ys.length ≤ _; omega); (show ns.length ≤ _; omega); (show (ys.map Ln.id).Pairwise _); (rw [hd]); exact idsP h.d (Nat.le_refl _) (by omega))
        | (refine aI ?_; (conv => whnf))
        | (refine fin_e ?_; (conv => whnf); exact lfA)
        | fail

end Go.Proofs.YtaomkjcclcgdlaaGreatDoor
namespace Go.Proofs.YtaomkjcclcgdlaaGreatDoor
open Go Ar
set_option linter.unusedVariables false
set_option autoImplicit false
set_option maxHeartbeats 4000000
set_option maxRecDepth 100000

theorem inc_id2 {k : Nat} {n : Int} (h : (k : Int) ≤ n) (h2 : (k : Int) < n) (hm : n < 9223372036854775808) : IntKind.i64.wrap ((k : Int) + 1) = ((k + 1 : Nat) : Int) := by
  rw [wrap_id (by unfold in64; omega)]; omega

theorem r15_onLoan_s (p : Pol) (s : Stt) (o : Opn) (b : Nat) (hp : hasI p) (h : okS b s) (hb : b ≤ 90000000000) : PureX Tryz.prog gl0 r15_onLoan [encPol p, encStt s, encOpn o] (QS (b + 10000)) := by
  refine pure_fnX mixed fn_r15_onLoan nt_r15_onLoan hc_r15_onLoan (by simp) gl0n (by simp [nf]) ?_
  conv => whnf
  have hsn := h.n
  repeat' first
    | (refine br_dec (fun h0 => ?_) (fun h0 => ?_) <;> (conv => whnf))
    | (refine br_intro (fun hb => ?_) (fun hb => ?_) <;> ((try rw [hb]); (conv => whnf); (try simp at hb)))
    | (refine call_x2 (r15_refusal_s _) (LeL.refl _) ?_; rintro _ - rfl; (conv => whnf))
    | (refine call_x2 (r15_place_s s _ h.n) (LeL.refl _) ?_; (rintro _ - ⟨m, rfl, hm1, hm2⟩); (conv => whnf))
    | (refine call_x2 (r15_called_s p (at_ s.loans _) o hp (h.at_ ?_)) (LeL.refl _) ?_; omega; (rintro _ - ⟨oc, rfl, ho1, ho2⟩); (conv => whnf))
    | (refine call_x2 (r15_changed_s s _ ⟨⟨_, ⟨_, _, _, _, _, _⟩, _, _, ⟨_, _, _, _, _, _, _, _, _, _, _, _, _, _, _⟩, _, _, _, ⟨_, _, _, _, _⟩, _, _, _⟩, ⟨_, _, _, _, _⟩, _, _⟩ b h (by omega) ?_ ?_ ?_) ⟨Le.refl _, Le.refl _, le_Otc .., trivial⟩ ?_; exact ho1; exact ho2.1; (intro q hq1 hq2); (exact (ho2.2 (by omega)).trans (by rw [hq1]; rfl)); (rintro _ - ⟨s', rfl, hs1, hs2⟩); (conv => whnf))
    | (refine call_x2 (r15_numbers_s o ⟨⟨_, ⟨_, _, _, _, _, _⟩, _, _, ⟨_, _, _, _, _, _, _, _, _, _, _, _, _, _, _⟩, _, _, _, ⟨_, _, _, _, _⟩, _, _, _⟩, ⟨_, _, _, _, _⟩, _, _⟩ ?_) ⟨Le.refl _, le_Otc .., trivial⟩ ?_; exact ho1; (rintro _ - ⟨xs, rfl, hx⟩); (conv => whnf))
    | (refine fin_s ?_; (conv => whnf); exact ⟨_, _, s', _, _, rfl, LeA.refl _, LeA.refl _, hs2⟩)
    | (refine fin_s ?_; (conv => whnf); exact ⟨_, _, s, _, [], rfl, LeA.refl _, LeA.refl _, h.mono (Nat.le_add_right _ _)⟩)
    | (refine fin_s ?_; (conv => whnf); exact ⟨_, _, s, _, [], rfl, LeA.refl _, leZR _, h.mono (Nat.le_add_right _ _)⟩)
    | (refine aI ?_; (conv => whnf))
    | (refine fin_e ?_; (conv => whnf); exact lfA)
    | fail

theorem r15_rolled_s (p : Pol) (s : Stt) (b : Nat) (hp : hasI p) (h : okS b s) (hb : b ≤ 80000000000) : PureX Tryz.prog gl0 r15_rolled [encPol p, encStt s] (fun r => ∃ s' e, r = tup2 (encStt s') (I e) ∧ okS (b + 640000) s') := by
  refine pure_fnX mixed fn_r15_rolled nt_r15_rolled hc_r15_rolled (by simp) gl0n (by simp [nf]) ?_
  conv => whnf
  have hsn := h.n
  refine loop_at mixed (fun (y : Nat × Stt) => ([(6, I y.1), (2, .ptr 0 []), (3, .ptr 1 []), (4, .ptr 2 [])], [(0, .box (encPol p)), (1, .box (encStt y.2)), (2, .box zStt)], 3)) (fun y => y.1 ≤ s.loans.length ∧ y.2.loans.length = s.loans.length ∧ okS (b + 10000 * y.1) y.2) (fun y => s.loans.length - y.1) (0, s) ⟨Nat.zero_le _, rfl, h⟩ (le_st (le_r rfl) (leE_i rfl rfl (leE_ptr rfl rfl (leE_ptr rfl rfl (leE_ptr rfl rfl trivial)))) (leO_box (lt_r rfl) rfl (LeA.refl _) (bnd_nf _ (nf_encPol _)) (leO_box (lt_r rfl) rfl (LeA.refl _) (bnd_nf _ (nf_encStt _)) (leO_box (lt_r rfl) rfl (LeA.refl _) (bnd_nf _ (nf_zStt)) trivial))) gl0n) ?_
  rintro ⟨k, v⟩ ⟨hk, hl, hv⟩
  dsimp only at hk hl hv ⊢
  conv => whnf
  have hn : (v.loans.length : Int) < 9223372036854775808 := by omega
  by_cases c : k < v.loans.length
  · refine br_true (decide_eq_true ((by omega : (k : Int) < v.loans.length))) ?_
    conv => whnf
    repeat' first
      | (refine br_dec (fun h0 => ?_) (fun h0 => ?_) <;> (conv => whnf))
      | (refine br_intro (fun hb => ?_) (fun hb => ?_) <;> ((try rw [hb]); (conv => whnf); (try simp at hb)))
      | (refine call_x2 (r14_Roll_s p (at_ v.loans k) hp (hv.at_ c)) (LeL.refl _) ?_; (rintro _ - ⟨oc, rfl, ho1, ho2⟩); (conv => whnf))
      | (refine call_x2 (r15_changed_s v _ ⟨⟨_, ⟨_, _, _, _, _, _⟩, _, _, ⟨_, _, _, _, _, _, _, _, _, _, _, _, _, _, _⟩, _, _, _, ⟨_, _, _, _, _⟩, _, _, _⟩, ⟨_, _, _, _, _⟩, _, _⟩ (b + 10000 * k) hv (by omega) ?_ ?_ ?_) ⟨Le.refl _, Le.refl _, le_Otc .., trivial⟩ ?_; exact ho1; exact ho2.1; (intro q hq1 hq2); ((have hq : q = k := by omega); subst hq; exact ho2.2 (by omega)); (rintro _ - ⟨s', rfl, hs1, hs2⟩); (conv => whnf))
      | (exact ⟨(k + 1, s'), ⟨by omega, by show s'.loans.length = _; omega, hs2.mono (by omega)⟩, (by show s.loans.length - (k + 1) < s.loans.length - k; omega), (le_st (le_r rfl) (leE_i rfl (inc_id c hn) (leE_ptr rfl rfl (leE_ptr rfl rfl (leE_ptr rfl rfl trivial)))) (leO_box (lt_r rfl) rfl (LeA.refl _) (bnd_nf _ (nf_encPol _)) (leO_box (lt_r rfl) rfl (LeA.refl _) (bnd_nf _ (nf_encStt _)) (leO_box (lt_r rfl) rfl (LeA.refl _) (bnd_nf _ (nf_zStt)) trivial))) gl0n)⟩)
      | (refine fin_r (tup2 (encStt v) (I oc.err)) ⟨nf_encStt _, trivial, trivial⟩ ⟨v, _, rfl, hv.mono (by omega)⟩ ?_; (conv => whnf); exact Le.refl _)
      | (refine aI ?_; (conv => whnf))
      | (refine fin_e ?_; (conv => whnf); exact lfA)
      | fail
  · refine br_false (decide_eq_false ((by omega : ¬ ((k : Int) < v.loans.length)))) ?_
    conv => whnf
    refine fin_r (tup2 (encStt ⟨IntKind.i64.wrap (v.today + 1), v.loans, v.notices⟩) (I 0)) ⟨nf_encStt _, trivial, trivial⟩ ⟨_, _, rfl, ⟨hv.n, hv.p, by have := hv.b; (show v.notices.length ≤ _); omega, hv.d⟩⟩ ?_
    conv => whnf
    exact Le.refl _

end Go.Proofs.YtaomkjcclcgdlaaGreatDoor
namespace Go.Proofs.YtaomkjcclcgdlaaGreatDoor
open Go Ar
set_option linter.unusedVariables false
set_option autoImplicit false
set_option maxHeartbeats 4000000
set_option maxRecDepth 100000

theorem leRL {tok : Option Nat} {k : Nat} {e : Int} {h : Nat → AV} (hh : ∀ i, i < k → ∃ x, h i = I x) : ∃ xs, LeA (.st (.cons (I e) (.cons (.lst tok k 1 h) .nil))) (encRep e xs) := by
  obtain ⟨xs, _, h2⟩ := leA_ints (tok := tok) hh
  exact ⟨xs, LeA.st (LeA.cons (LeA.refl _) (LeA.cons h2 (LeA.refl _)))⟩

theorem r15_days_s (p : Pol) (s : Stt) (n : Int) (b : Nat) (hp : hasI p) (h : okS b s) (hb : b ≤ 20000000000) : PureX Tryz.prog gl0 r15_days [encPol p, encStt s, I n] (QS (b + 40000000)) := by
  refine pure_fnX mixed fn_r15_days nt_r15_days hc_r15_days (by simp) gl0n (by simp [nf]) ?_
  conv => whnf
  have hsn := h.n
  repeat' first
    | (refine br_dec (fun h0 => ?_) (fun h0 => ?_) <;> (conv => whnf))
    | (refine br_intro (fun hb => ?_) (fun hb => ?_) <;> ((try rw [hb]); (conv => whnf); (try simp at hb)))
    | (refine call_x2 (r15_refusal_s _) (LeL.refl _) ?_; rintro _ - rfl; (conv => whnf))
    | (refine fin_s ?_; (conv => whnf); exact ⟨_, _, s, _, [], rfl, LeA.refl _, LeA.refl _, h.mono (Nat.le_add_right _ _)⟩)
    | (exact True.elim trivial)
    | (refine aI ?_; (conv => whnf))
    | (refine fin_e ?_; (conv => whnf); exact lfA)
    | fail
  refine loop_at mixed (fun (y : Nat × Stt) => ([(9, I y.1), (2, I n), (3, .ptr 0 []), (4, .ptr 1 []), (6, .ptr 2 []), (7, .ptr 3 []), (8, .ptr 4 [])], [(0, .box (encPol p)), (1, .box (encStt s)), (2, .box zStt), (3, .box zRep), (4, .box (encStt y.2))], 5)) (fun y => (y.1 : Int) ≤ n ∧ okS (b + 640000 * y.1) y.2) (fun y => n.toNat - y.1) (0, s) ⟨by (show ((0 : Nat) : Int) ≤ n); omega, h⟩ (le_st (le_r rfl) (leE_i rfl rfl (leE_i rfl rfl (leE_ptr rfl rfl (leE_ptr rfl rfl (leE_ptr rfl rfl (leE_ptr rfl rfl (leE_ptr rfl rfl trivial))))))) (leO_box (lt_r rfl) rfl (LeA.refl _) (bnd_nf _ (nf_encPol _)) (leO_box (lt_r rfl) rfl (LeA.refl _) (bnd_nf _ (nf_encStt _)) (leO_box (lt_r rfl) rfl (LeA.refl _) (bnd_nf _ (nf_zStt)) (leO_box (lt_r rfl) rfl (LeA.refl _) (bnd_nf _ (nf_zRep)) (leO_box (lt_r rfl) rfl (LeA.refl _) (bnd_nf _ (nf_encStt _)) trivial))))) gl0n) ?_
  rintro ⟨k, v⟩ ⟨hk, hv⟩
  dsimp only at hk hv ⊢
  conv => whnf
  have hn : n < 9223372036854775808 := by omega
  by_cases c : (k : Int) < n
  · refine br_true (decide_eq_true (c)) ?_
    conv => whnf
    repeat' first
      | (refine br_dec (fun h0 => ?_) (fun h0 => ?_) <;> (conv => whnf))
      | (refine br_intro (fun hb => ?_) (fun hb => ?_) <;> ((try rw [hb]); (conv => whnf); (try simp at hb)))
      | (refine call_x2 (r15_rolled_s p v (b + 640000 * k) hp hv (by omega)) (LeL.refl _) ?_; (rintro _ - ⟨s', e, rfl, hs⟩); (conv => whnf))
      | (exact ⟨(k + 1, s'), ⟨by (show ((k + 1 : Nat) : Int) ≤ n); omega, hs.mono (by omega)⟩, (by show n.toNat - (k + 1) < n.toNat - k; omega), (le_st (le_r rfl) (leE_i rfl (inc_id2 hk (by omega) (by omega)) (leE_i rfl rfl (leE_ptr rfl rfl (leE_ptr rfl rfl (leE_ptr rfl rfl (leE_ptr rfl rfl (leE_ptr rfl rfl trivial))))))) (leO_box (lt_r rfl) rfl (LeA.refl _) (bnd_nf _ (nf_encPol _)) (leO_box (lt_r rfl) rfl (LeA.refl _) (bnd_nf _ (nf_encStt _)) (leO_box (lt_r rfl) rfl (LeA.refl _) (bnd_nf _ (nf_zStt)) (leO_box (lt_r rfl) rfl (LeA.refl _) (bnd_nf _ (nf_zRep)) (leO_box (lt_r rfl) rfl (LeA.refl _) (bnd_nf _ (nf_encStt _)) trivial))))) gl0n)⟩)
      | (refine fin_s ?_; (conv => whnf); exact ⟨_, _, s, _, [], rfl, LeA.refl _, leZR _, h.mono (Nat.le_add_right _ _)⟩)
      | (refine aI ?_; (conv => whnf))
      | (refine fin_e ?_; (conv => whnf); exact lfA)
      | fail
  · refine br_false (decide_eq_false (c)) ?_
    conv => whnf
    repeat' first
      | (refine br_dec (fun h0 => ?_) (fun h0 => ?_) <;> (conv => whnf))
      | (refine br_intro (fun hb => ?_) (fun hb => ?_) <;> ((try rw [hb]); (conv => whnf); (try simp at hb)))
      | (exact True.elim trivial)
      | (refine aI ?_; (conv => whnf))
      | (refine fin_e ?_; (conv => whnf); exact lfA)
      | fail
    refine fin_s ?_
    conv => whnf
    refine ⟨_, _, v, 0, [v.today, IntKind.i64.wrap (v.notices.length - s.notices.length)], rfl, LeA.refl _, LeA.st (LeA.cons (LeA.refl _) (LeA.cons (LeA.lst (.inr rfl) fun i hi => ?_) (LeA.refl _))), hv.mono (by omega)⟩
    rcases i with _ | _ | i
    · exact LeA.refl _
    · exact LeA.refl _
    · exact absurd hi (by simp)

theorem r15_Apply_s (p : Pol) (s : Stt) (o : Opn) (b : Nat) (hp : hasI p) (h : okS b s) (hb : b ≤ 20000000000) : PureX Tryz.prog gl0 r15_Apply [encPol p, encStt s, encOpn o] (QS (b + 40000000)) := by
  refine pure_fnX mixed fn_r15_Apply nt_r15_Apply hc_r15_Apply (by simp) gl0n (by simp [nf]) ?_
  conv => whnf
  repeat' first
    | (refine br_dec (fun h0 => ?_) (fun h0 => ?_) <;> (conv => whnf))
    | (refine br_intro (fun hb => ?_) (fun hb => ?_) <;> ((try rw [hb]); (conv => whnf); (try simp at hb)))
    | (refine call_x2 (r15_refusal_s _) (LeL.refl _) ?_; rintro _ - rfl; (conv => whnf))
    | (refine call_x2 (r15_opened_s p s o b hp h (by omega)) (LeL.refl _) ?_; (rintro _ - ⟨s', e, xs, rfl, hs⟩); (conv => whnf); refine fin_s ?_; (conv => whnf); exact ⟨_, _, s', _, xs, rfl, LeA.refl _, LeA.refl _, hs.mono (by omega)⟩)
    | (refine call_x2 (r15_days_s p s _ b hp h hb) (LeL.refl _) ?_; (rintro _ - ⟨s', e, xs, rfl, hs⟩); (conv => whnf); refine fin_s ?_; (conv => whnf); exact ⟨_, _, s', _, xs, rfl, LeA.refl _, LeA.refl _, hs.mono (by omega)⟩)
    | (refine call_x2 (r15_onLoan_s p s o b hp h (by omega)) (LeL.refl _) ?_; (rintro _ - ⟨s', e, xs, rfl, hs⟩); (conv => whnf); refine fin_s ?_; (conv => whnf); exact ⟨_, _, s', _, xs, rfl, LeA.refl _, LeA.refl _, hs.mono (by omega)⟩)
    | (refine fin_s ?_; (conv => whnf); exact ⟨_, _, s, _, [], rfl, LeA.refl _, LeA.refl _, h.mono (Nat.le_add_right _ _)⟩)
    | (refine aI ?_; (conv => whnf))
    | (refine fin_e ?_; (conv => whnf); exact lfA)
    | fail

end Go.Proofs.YtaomkjcclcgdlaaGreatDoor
