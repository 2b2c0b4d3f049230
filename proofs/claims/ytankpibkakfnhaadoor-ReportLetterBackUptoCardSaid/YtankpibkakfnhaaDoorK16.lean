/- A letter read by the program. No condition. -/
import Derived.Test.YtankpibkakfnhaaDoorK15
set_option linter.all false
namespace Go.Proofs.YtankpibkakfnhaaDoor
open Go Ar
variable {ml : GV}
set_option linter.unusedVariables false
set_option autoImplicit false
set_option maxHeartbeats 4000000
set_option maxRecDepth 100000

theorem rgN.u {n : Ntc} (h : rgN n) : n.id.natAbs < 18446744073709551616 ∧ n.loan.natAbs < 18446744073709551616 ∧ n.amount.natAbs < 18446744073709551616 := by
  have h1 := h.i
  have h2 := h.l
  have h3 := h.a
  unfold in64 at h1 h2 h3
  omega
theorem date_inj {a b : Int} (ha : vDay a) (hb : vDay b) (h : dateT a = dateT b) : a = b := by
  obtain ⟨y, m, d, hd, ht⟩ := date_ex ha
  obtain ⟨y', m', d', hd', ht'⟩ := date_ex hb
  have p1 := dtP y m d (by have := hd.y2 (by omega); omega) (by have := hd.m2; omega) (by have := hd.d3; omega)
  have p2 := dtP y' m' d' (by have := hd'.y2 (by omega); omega) (by have := hd'.m2; omega) (by have := hd'.d3; omega)
  rw [← ht', ← h, ht] at p2
  have e1 := (tup_inj (p1.ey.symm.trans p2.ey)).1
  have e2 := (tup_inj (p1.em.symm.trans p2.em)).1
  have e3 := (tup_inj (p1.ed.symm.trans p2.ed)).1
  have n1 := num_dt hd ha
  have n2 := num_dt hd' hb
  rw [e1, e2, e3, n2] at n1
  exact (tup_inj n1).1.symm

/-- A letter is told of one notice only. -/
theorem let_inj {n k : Ntc} (hn : mayN n) (hn2 : rgN n) (hk : mayN k) (hk2 : rgN k) (h : letT n = letT k) : n.id = k.id ∧ n.loan = k.loan ∧ n.kind = k.kind ∧ n.day = k.day ∧ n.amount = k.amount := by
  have hb : letC n = letC k := by rw [← let_bL hn, ← let_bL hk, h]
  have u1 := hn2.u
  have u2 := hk2.u
  have c1 := let_cut n
  have c2 := let_cut k
  rw [hb, c2] at c1
  obtain ⟨e1, e2⟩ := Prod.mk.inj c1
  obtain ⟨e2, -⟩ := Prod.mk.inj e2
  have c3 := let_head n
  have c4 := let_head k
  rw [← e1, c4] at c3
  obtain ⟨e3, e4⟩ := Prod.mk.inj c3
  obtain ⟨e4, -⟩ := Prod.mk.inj e4
  unfold mayN at hn hk
  have e5 := sen_inj (by omega) (by omega) (by omega) (by omega) u2.2.1 u1.2.1 u2.2.2 u1.2.2 e2
  have e6 := congrArg (vF 0) e3
  rw [vF_dec u2.1, vF_dec u1.1] at e6
  have e7 := date_inj hk.1 hn.1 (bL_inj e4)
  omega

/-- What the cuts of a letter's head come to. -/
structure HdP (s : ByteArray) (b1 b2 : Bool) (idt dtt rest : ByteArray) : Prop where
  h : ∀ n : Ntc, mayN n → rgN n → letT n = s → b1 = true ∧ b2 = true ∧ idt = itoaT n.id ∧ dtt = dateT n.day ∧ rest = senT n.kind.toNat (itoaT n.loan) (fmtT n.amount)
  n1 : idt.size ≤ s.size
  n2 : dtt.size ≤ s.size
  n3 : rest.size ≤ s.size
theorem hdP {s hd hd2 idt dtt rest : ByteArray} {b1 b2 : Bool} (e1 : (Lib.cut (bL s) cC).2.2 = b1) (e2 : bT (Lib.cut (bL s) cC).1 = hd) (e3 : bT (Lib.cut (bL s) cC).2.1 = rest) (e4 : bT (Lib.trimPrefix (bL hd) nC) = hd2)
    (e5 : (Lib.cut (bL hd2) oC).2.2 = b2) (e6 : bT (Lib.cut (bL hd2) oC).1 = idt) (e7 : bT (Lib.cut (bL hd2) oC).2.1 = dtt) : HdP s b1 b2 idt dtt rest := by
  have l1 := cut_len (bL s) cC
  have l2 := cut_len (bL hd2) oC
  have l3 := trim_len (bL hd) nC
  rw [bL_len] at l1 l2 l3
  have s1 : hd.size = (Lib.cut (bL s) cC).1.length := by rw [← e2, bT_size]
  have s2 : hd2.size = (Lib.trimPrefix (bL hd) nC).length := by rw [← e4, bT_size]
  refine ⟨fun n hn hr he => ?_, by rw [← e6, bT_size]; omega, by rw [← e7, bT_size]; omega, by rw [← e3, bT_size]; omega⟩
  have hb : bL s = letC n := by rw [← he, let_bL hn]
  have c1 := let_cut n
  have c2 := let_head n
  rw [← hb] at c1
  rw [c1] at e1 e2 e3
  have e2' : bL hd = nC ++ dcN n.id.natAbs ++ oC ++ bL (dateT n.day) := by rw [← e2, bL_bT]
  rw [← e2'] at c2
  have e4' : bL hd2 = Lib.trimPrefix (bL hd) nC := by rw [← e4, bL_bT]
  rw [← e4'] at c2
  rw [c2] at e5 e6 e7
  unfold mayN at hn
  refine ⟨e1.symm, e5.symm, ?_, ?_, ?_⟩
  · rw [← e6]
    exact bL_inj (by rw [bL_bT, itoa_bL (by omega)])
  · exact e7.symm.trans (bT_bL _)
  · rw [← e3]
    exact bL_inj (by rw [bL_bT, sen_bL _ (by omega) (by omega)])

def zN : Ntc := ⟨0, 0, 0, 0, 0, false⟩
/-- What is read as a letter. -/
structure RdP (s : ByteArray) (m : Ntc) (b : Bool) : Prop where
  rg : rgN m
  ak : m.acked = false
  t : b = true → mayN m ∧ letT m = s
  f : b = false → m = zN
  c : ∀ n : Ntc, mayN n → rgN n → letT n = s → b = true ∧ m = ⟨n.id, n.loan, n.kind, n.day, n.amount, false⟩
theorem RdP.uniq {s : ByteArray} {m k : Ntc} {b c : Bool} (h : RdP s m b) (h' : RdP s k c) : m = k ∧ b = c := by
  cases b
  · cases c
    · exact ⟨(h.f rfl).trans (h'.f rfl).symm, rfl⟩
    · have := h'.t rfl
      exact absurd (h.c k this.1 h'.rg this.2).1 (by decide)
  · have := h.t rfl
    have h2 := h'.c m this.1 h.rg this.2
    refine ⟨?_, h2.1.symm⟩
    rw [h2.2]
    have := h.ak
    cases m
    simp only at this
    rw [this]
theorem RdP.no {s : ByteArray} (h : ∀ n : Ntc, mayN n → rgN n → letT n ≠ s) : RdP s zN false :=
  ⟨⟨by unfold in64 zN; dsimp only; omega, by unfold in64 zN; dsimp only; omega, by unfold in64 zN; dsimp only; omega⟩, rfl, (fun h => by cases h), fun _ => rfl, fun n h1 h2 h3 => absurd h3 (h n h1 h2)⟩
theorem RdP.yes {s : ByteArray} {m : Ntc} (hm : mayN m) (hr : rgN m) (ha : m.acked = false) (h : letT m = s) : RdP s m true :=
  ⟨hr, ha, fun _ => ⟨hm, h⟩, (fun h => by cases h), fun n h1 h2 h3 => ⟨rfl, by
    obtain ⟨e1, e2, e3, e4, e5⟩ := let_inj h1 h2 hm hr (h3.trans h.symm)
    rw [e1, e2, e3, e4, e5]
    cases m
    simp only at ha
    rw [ha]⟩⟩
def RdV (s : ByteArray) (r : AV) : Prop := ∃ (m : Ntc) (b : Bool), r = tup2 (encNtc m) (B b) ∧ RdP s m b

theorem read_x (s : ByteArray) (hs : s.size ≤ 1048576) : PureX Tryd.prog (gl0 ml) report_ReadLetter [Tx s] (RdV s) := by
  refine pure_fnX mixed fn_report_ReadLetter nt_report_ReadLetter hc_report_ReadLetter (by simp) (gl0n ml) (by simp [nf]) ?_
  conv => whnf
  conv => whnf
  refine call_x2 (cut_x s ⟨#[58, 32]⟩ (by omega)) (LeL.refl _) ?_
  rintro _ - rfl
  generalize e1 : (Lib.cut (bL s) (bL ⟨#[58, 32]⟩)).2.2 = b1
  generalize e2 : bT (Lib.cut (bL s) (bL ⟨#[58, 32]⟩)).1 = hd
  generalize e3 : bT (Lib.cut (bL s) (bL ⟨#[58, 32]⟩)).2.1 = rest
  conv => whnf
  refine call_x2 (trimP_x hd ⟨#[78, 111, 116, 105, 99, 101, 32]⟩) (LeL.refl _) ?_
  rintro _ - rfl
  generalize e4 : bT (Lib.trimPrefix (bL hd) (bL ⟨#[78, 111, 116, 105, 99, 101, 32]⟩)) = hd2
  have n2 : hd2.size ≤ s.size := by
    have l1 := cut_len (bL s) cC
    have l3 := trim_len (bL hd) nC
    rw [bL_len] at l1 l3
    have s1 : hd.size = (Lib.cut (bL s) cC).1.length := by rw [← e2, bT_size]
    have s2 : hd2.size = (Lib.trimPrefix (bL hd) nC).length := by rw [← e4, bT_size]
    omega
  conv => whnf
  refine call_x2 (cut_x hd2 ⟨#[32, 111, 102, 32]⟩ (by omega)) (LeL.refl _) ?_
  rintro _ - rfl
  generalize e5 : (Lib.cut (bL hd2) (bL ⟨#[32, 111, 102, 32]⟩)).2.2 = b2
  generalize e6 : bT (Lib.cut (bL hd2) (bL ⟨#[32, 111, 102, 32]⟩)).1 = idt
  generalize e7 : bT (Lib.cut (bL hd2) (bL ⟨#[32, 111, 102, 32]⟩)).2.1 = dtt
  have hp := hdP e1 e2 e3 e4 e5 e6 e7
  clear e1 e2 e3 e4 e5 e6 e7
  have n1 := hp.n1
  have n2 := hp.n2
  have n3 := hp.n3
  have hc := hp.h
  clear hp
  cases b1
  · conv => whnf
    refine fin_e ?_
    conv => whnf
    exact ⟨by simp [packA, consL, nf], zN, false, rfl, RdP.no (fun n h1 h2 h3 => by have := (hc n h1 h2 h3).1; cases this)⟩
  cases b2
  · conv => whnf
    refine fin_e ?_
    conv => whnf
    exact ⟨by simp [packA, consL, nf], zN, false, rfl, RdP.no (fun n h1 h2 h3 => by have := (hc n h1 h2 h3).2.1; cases this)⟩
  conv => whnf
  refine call_x2 (number_x idt (by omega)) (LeL.refl _) ?_
  rintro _ - ⟨id, bi, rfl, hid, hid2⟩
  conv => whnf
  refine call_x2 (pdate_x dtt (by omega)) (LeL.refl _) ?_
  rintro _ - ⟨day, bd, rfl, hday, hday2⟩
  conv => whnf
  have hc : ∀ n : Ntc, mayN n → rgN n → letT n = s → id = n.id ∧ day = n.day ∧ rest = senT n.kind.toNat (itoaT n.loan) (fmtT n.amount) := fun n h1 h2 h3 => by
    obtain ⟨-, -, r1, r2, r3⟩ := hc n h1 h2 h3
    refine ⟨(hid2 n.id (by unfold mayN at h1; omega) h2.i r1).1, (hday2 n.day h1.1 r2).1, r3⟩
  refine loop_at mixed (fun (p : Nat × Int × Int × Int) => ([(11, I p.1), (5, Tx rest), (0, Tx s), (10, .ptr 1 []), (2, .ptr 0 []), (3, B false)], [(0, .box (encNtc zN)), (1, .box (encNtc ⟨id, p.2.1, p.2.2.1, day, p.2.2.2, false⟩))], 2)) (fun p => 1 ≤ p.1 ∧ p.1 ≤ 10 ∧ ∀ n : Ntc, mayN n → rgN n → letT n = s → (p.1 : Int) ≤ n.kind) (fun p => 10 - p.1) (1, 0, 0, 0) ⟨Nat.le_refl _, by decide, fun n h1 _ _ => by unfold mayN at h1; exact h1.2.2.2.2.1⟩ (le_st (le_r rfl) (leE_i rfl rfl (leE_eq rfl (bnd_nf _ (trivial)) (leE_eq rfl (bnd_nf _ (trivial)) (leE_ptr rfl rfl (leE_ptr rfl rfl (leE_eq rfl (bnd_nf _ (trivial)) trivial)))))) (leO_box (lt_r rfl) rfl (LeA.refl _) (bnd_nf _ ((by simp [encNtc, nf]))) (leO_box (lt_r rfl) rfl (LeA.refl _) (bnd_nf _ ((by simp [encNtc, nf]))) trivial)) (gl0n ml)) ?_
  rintro ⟨k, l0, kd0, a0⟩ ⟨hk1, hk2, hk3⟩
  replace hk1 : 1 ≤ k := hk1
  replace hk2 : k ≤ 10 := hk2
  replace hk3 : ∀ n : Ntc, mayN n → rgN n → letT n = s → (k : Int) ≤ n.kind := hk3
  conv => whnf
  by_cases c9 : k ≤ 9
  rotate_left
  · refine br_false (decide_eq_false ((by omega : ¬ ((k : Nat) : Int) ≤ 9))) ?_
    conv => whnf
    refine fin_e ?_
    conv => whnf
    exact ⟨by simp [packA, consL, nf], zN, false, rfl, RdP.no (fun n h1 h2 h3 => by have := hk3 n h1 h2 h3; unfold mayN at h1; omega)⟩
  refine br_true (decide_eq_true ((by omega : ((k : Nat) : Int) ≤ 9))) ?_
  conv => whnf
  refine call_x2 (sent_x k hk1 c9) (LeL.refl _) ?_
  rintro _ - rfl
  conv => whnf
  refine call_x2 (fill_x k rest hk1 c9 (by omega)) (LeL.refl _) ?_
  rintro _ - ⟨l, a, b, rfl, hl, ha, hf⟩
  have key : ∀ n : Ntc, mayN n → rgN n → letT n = s → n.kind = k → l = n.loan ∧ a = n.amount ∧ b = true := fun n h1 h2 h3 h4 => by
    have h5 := (hc n h1 h2 h3).2.2
    rw [h4, Int.toNat_natCast] at h5
    unfold mayN at h1
    exact hf n.loan n.amount (by omega) h2.l (by omega) h2.a h5
  have nxt : (∀ n : Ntc, mayN n → rgN n → letT n = s → n.kind ≠ k) → ∀ n : Ntc, mayN n → rgN n → letT n = s → ((k + 1 : Nat) : Int) ≤ n.kind := fun h n h1 h2 h3 => by
    have := hk3 n h1 h2 h3
    have := h n h1 h2 h3
    omega
  cases b
  · conv => whnf
    exact ⟨(k + 1, l0, kd0, a0), ⟨by show 1 ≤ k + 1; omega, by show k + 1 ≤ 10; omega, nxt (fun n h1 h2 h3 h4 => by have := (key n h1 h2 h3 h4).2.2; cases this)⟩, (by show 10 - (k + 1) < 10 - k; omega), (le_st (le_r rfl) (leE_i rfl ((by rw [wrap_id (by unfold in64; omega)]; rfl)) (leE_eq rfl (bnd_nf _ (trivial)) (leE_eq rfl (bnd_nf _ (trivial)) (leE_ptr rfl rfl (leE_ptr rfl rfl (leE_eq rfl (bnd_nf _ (trivial)) trivial)))))) (leO_box (lt_r rfl) rfl (LeA.refl _) (bnd_nf _ ((by simp [encNtc, nf]))) (leO_box (lt_r rfl) rfl (LeA.refl _) (bnd_nf _ ((by simp [encNtc, nf]))) trivial)) (gl0n ml))⟩
  · conv => whnf
    obtain ⟨m, hm⟩ : ∃ m : Ntc, m = ⟨id, l, k, day, a, false⟩ := ⟨_, rfl⟩
    have hr : rgN m := by rw [hm]; exact ⟨hid, hl, ha⟩
    have hcall := letter_x (ml := ml) m hr
    rw [hm] at hcall
    refine call_x2 hcall (LeL.refl _) ?_
    rw [← hm]
    have hsame : ∀ n : Ntc, mayN n → rgN n → letT n = s → n.kind = k → mayN m ∧ letT m = s := fun n h1 h2 h3 h4 => by
      obtain ⟨r1, r2, -⟩ := key n h1 h2 h3 h4
      obtain ⟨r3, r4, -⟩ := hc n h1 h2 h3
      have e : m = ⟨n.id, n.loan, n.kind, n.day, n.amount, false⟩ := by rw [hm, r1, r2, r3, r4, h4]
      rw [e, ← h3]
      exact ⟨h1, rfl⟩
    rintro _ - (h | h)
    · conv => whnf
      cases hq : ((letT m).toList == s.toList)
      · conv => whnf
        refine ⟨(k + 1, l, (k : Int), a), ⟨by show 1 ≤ k + 1; omega, by show k + 1 ≤ 10; omega, nxt (fun n h1 h2 h3 h4 => ?_)⟩, (by show 10 - (k + 1) < 10 - k; omega), (le_st (le_r rfl) (leE_i rfl ((by rw [wrap_id (by unfold in64; omega)]; rfl)) (leE_eq rfl (bnd_nf _ (trivial)) (leE_eq rfl (bnd_nf _ (trivial)) (leE_ptr rfl rfl (leE_ptr rfl rfl (leE_eq rfl (bnd_nf _ (trivial)) trivial)))))) (leO_box (lt_r rfl) rfl (LeA.refl _) (bnd_nf _ ((by simp [encNtc, nf]))) (leO_box (lt_r rfl) rfl (LeA.refl _) (bnd_nf _ ((by simp [encNtc, nf]))) trivial)) (gl0n ml))⟩
        rw [(hsame n h1 h2 h3 h4).2] at hq
        simp at hq
      · conv => whnf
        refine fin_e ?_
        conv => whnf
        have he : letT m = s := by
          have h5 : (letT m).toList = s.toList := by simpa using hq
          refine bL_inj ?_
          rw [Lib.toList_data, Lib.toList_data] at h5
          exact h5
        have hy := RdP.yes h hr (by rw [hm]) he
        rw [hm] at hy
        exact ⟨by simp [packA, consL, nf], _, true, rfl, hy⟩
    · conv => whnf
      exact ⟨(k + 1, l, (k : Int), a), ⟨by show 1 ≤ k + 1; omega, by show k + 1 ≤ 10; omega, nxt (fun n h1 h2 h3 h4 => h (hsame n h1 h2 h3 h4).1)⟩, (by show 10 - (k + 1) < 10 - k; omega), (le_st (le_r rfl) (leE_i rfl ((by rw [wrap_id (by unfold in64; omega)]; rfl)) (leE_eq rfl (bnd_nf _ (trivial)) (leE_eq rfl (bnd_nf _ (trivial)) (leE_ptr rfl rfl (leE_ptr rfl rfl (leE_eq rfl (bnd_nf _ (trivial)) trivial)))))) (leO_box (lt_r rfl) rfl (LeA.refl _) (bnd_nf _ ((by simp [encNtc, nf]))) (leO_box (lt_r rfl) rfl (LeA.refl _) (bnd_nf _ ((by simp [encNtc, nf]))) trivial)) (gl0n ml))⟩

end Go.Proofs.YtankpibkakfnhaaDoor
namespace Go.Proofs.YtankpibkakfnhaaDoor
open Go Ar
variable {ml : GV}
set_option linter.unusedVariables false
set_option autoImplicit false
set_option maxHeartbeats 4000000
set_option maxRecDepth 100000

theorem letT_size {n : Ntc} (h : mayN n) (hr : rgN n) : (letT n).size ≤ 1048576 := by
  have s1 := itoa_size hr.i
  have s2 := itoa_size hr.l
  have s3 := fmt_size hr.a
  have s4 := dateT_size n.day
  unfold mayN at h
  have s5 := f_size (k := n.kind.toNat) (by omega) (by omega)
  have s6 : (senT n.kind.toNat (itoaT n.loan) (fmtT n.amount)).size ≤ 200 := by
    unfold senT
    split <;> simp only [ByteArray.size_append] <;> omega
  unfold letT
  simp only [ByteArray.size_append, szc, List.size_toArray, List.length_cons, List.length_nil]
  omega

theorem law15_x (n : Ntc) (s : ByteArray) (hr : rgN n) (hs : s.size ≤ 1048576) : PureX Tryd.prog (gl0 ml) l21_ReportLetterBack [encNtc n, Tx s] (fun r => r = B true) := by
  refine pure_fnX mixed fn_l21_ReportLetterBack nt_l21_ReportLetterBack hc_l21_ReportLetterBack (by simp) (gl0n ml) (by simp [nf]) ?_
  conv => whnf
  conv => whnf
  repeat' first
    | (refine br_dec (fun h0 => ?_) (fun h0 => ?_) <;> (conv => whnf))
    | (refine call_x2 (letter_x n hr) (LeL.refl _) ?_; rintro _ - (h | h) <;> first | (exfalso; unfold mayN at h; omega) | (conv => whnf))
    | fail
  refine call_x2 (read_x (letT n) (letT_size h hr)) (LeL.refl _) ?_
  rintro _ - ⟨m, b, rfl, hm⟩
  obtain ⟨rfl, rfl⟩ := hm.c n h hr rfl
  conv => whnf
  refine br_false (congrArg (eqSn true) (eqS_refl _ _)) ?_
  conv => whnf
  clear hm
  all_goals
    refine call_x2 (read_x s hs) (LeL.refl _) ?_
    rintro _ - ⟨m, b, rfl, hm⟩
    cases b
    · obtain rfl := hm.f rfl
      conv => whnf
      refine fin_e ?_
      conv => whnf
      exact ⟨trivial, rfl⟩
    · conv => whnf
      refine call_x2 (letter_x m hm.rg) (LeL.refl _) ?_
      rintro _ - (h2 | h2)
      · have hq : ((letT m).toList == s.toList) = true := by rw [(hm.t rfl).2]; simp
        conv => whnf
        rw [hq]
        have hak := hm.ak
        conv => whnf
        refine fin_e ?_
        conv => whnf
        refine ⟨trivial, ?_⟩
        rw [hak]
        rfl
      · exact absurd (hm.t rfl).1 h2

end Go.Proofs.YtankpibkakfnhaaDoor
