/- A letter read by the program. No condition. -/
import Derived.Test.YtankpibkakfnhaaDoorK15
set_option linter.all false
namespace Go.Proofs.YtankpibkakfnhaaDoor
open Go Ar
variable {ml : GV}
set_option linter.unusedVariables false
set_option autoImplicit false
set_option maxHeartbeats 4000000
set_option maxRecDepth 100000

theorem rgN.u {n : Ntc} (h : rgN n) : n.id.natAbs < 18446744073709551616 ∧ n.loan.natAbs < 18446744073709551616 ∧ n.amount.natAbs < 18446744073709551616 := by
  have h1 := h.i
  have h2 := h.l
  have h3 := h.a
  unfold in64 at h1 h2 h3
  omega
theorem date_inj {a b : Int} (ha : vDay a) (hb : vDay b) (h : dateT a = dateT b) : a = b := by
  obtain ⟨y, m, d, hd, ht⟩ := date_ex ha
  obtain ⟨y', m', d', hd', ht'⟩ := date_ex hb
  have p1 := dtP y m d (by have := hd.y2 (by omega); omega) (by have := hd.m2; omega) (by have := hd.d3; omega)
  have p2 := dtP y' m' d' (by have := hd'.y2 (by omega); omega) (by have := hd'.m2; omega) (by have := hd'.d3; omega)
  rw [← ht', ← h, ht] at p2
  have e1 := (tup_inj (p1.ey.symm.trans p2.ey)).1
  have e2 := (tup_inj (p1.em.symm.trans p2.em)).1
  have e3 := (tup_inj (p1.ed.symm.trans p2.ed)).1
  have n1 := num_dt hd ha
  have n2 := num_dt hd' hb
  rw [e1, e2, e3, n2] at n1
  exact (tup_inj n1).1.symm

/-- A letter is told of one notice only. -/
theorem let_inj {n k : Ntc} (hn : mayN n) (hn2 : rgN n) (hk : mayN k) (hk2 : rgN k) (h : letT n = letT k) : n.id = k.id ∧ n.loan = k.loan ∧ n.kind = k.kind ∧ n.day = k.day ∧ n.amount = k.amount := by
  have hb : letC n = letC k := by rw [← let_bL hn, ← let_bL hk, h]
  have u1 := hn2.u
  have u2 := hk2.u
  have c1 := let_cut n
  have c2 := let_cut k
  rw [hb, c2] at c1
  obtain ⟨e1, e2⟩ := Prod.mk.inj c1
  obtain ⟨e2, -⟩ := Prod.mk.inj e2
  have c3 := let_head n
  have c4 := let_head k
  rw [← e1, c4] at c3
  obtain ⟨e3, e4⟩ := Prod.mk.inj c3
  obtain ⟨e4, -⟩ := Prod.mk.inj e4
  unfold mayN at hn hk
  have e5 := sen_inj (by omega) (by omega) (by omega) (by omega) u2.2.1 u1.2.1 u2.2.2 u1.2.2 e2
  have e6 := congrArg (vF 0) e3
  rw [vF_dec u2.1, vF_dec u1.1] at e6
  have e7 := date_inj hk.1 hn.1 (bL_inj e4)
  omega

/-- What the cuts of a letter's head come to. -/
structure HdP (s : ByteArray) (b1 b2 : Bool) (idt dtt rest : ByteArray) : Prop where
  h : ∀ n : Ntc, mayN n → rgN n → letT n = s → b1 = true ∧ b2 = true ∧ idt = itoaT n.id ∧ dtt = dateT n.day ∧ rest = senT n.kind.toNat (itoaT n.loan) (fmtT n.amount)
  n1 : idt.size ≤ s.size
  n2 : dtt.size ≤ s.size
  n3 : rest.size ≤ s.size
theorem hdP {s hd hd2 idt dtt rest : ByteArray} {b1 b2 : Bool} (e1 : (Lib.cut (bL s) cC).2.2 = b1) (e2 : bT (Lib.cut (bL s) cC).1 = hd) (e3 : bT (Lib.cut (bL s) cC).2.1 = rest) (e4 : bT (Lib.trimPrefix (bL hd) nC) = hd2)
    (e5 : (Lib.cut (bL hd2) oC).2.2 = b2) (e6 : bT (Lib.cut (bL hd2) oC).1 = idt) (e7 : bT (Lib.cut (bL hd2) oC).2.1 = dtt) : HdP s b1 b2 idt dtt rest := by
  have l1 := cut_len (bL s) cC
  have l2 := cut_len (bL hd2) oC
  have l3 := trim_len (bL hd) nC
  rw [bL_len] at l1 l2 l3
  have s1 : hd.size = (Lib.cut (bL s) cC).1.length := by rw [← e2, bT_size]
  have s2 : hd2.size = (Lib.trimPrefix (bL hd) nC).length := by rw [← e4, bT_size]
  refine ⟨fun n hn hr he => ?_, by rw [← e6, bT_size]; omega, by rw [← e7, bT_size]; omega, by rw [← e3, bT_size]; omega⟩
  have hb : bL s = letC n := by rw [← he, let_bL hn]
  have c1 := let_cut n
  have c2 := let_head n
  rw [← hb] at c1
  rw [c1] at e1 e2 e3
  have e2' : bL hd = nC ++ dcN n.id.natAbs ++ oC ++ bL (dateT n.day) := by rw [← e2, bL_bT]
  rw [← e2'] at c2
  have e4' : bL hd2 = Lib.trimPrefix (bL hd) nC := by rw [← e4, bL_bT]
  rw [← e4'] at c2
  rw [c2] at e5 e6 e7
  unfold mayN at hn
  refine ⟨e1.symm, e5.symm, ?_, ?_, ?_⟩
  · rw [← e6]
    exact bL_inj (by rw [bL_bT, itoa_bL (by omega)])
  · exact e7.symm.trans (bT_bL _)
  · rw [← e3]
    exact bL_inj (by rw [bL_bT, sen_bL _ (by omega) (by omega)])

def zN : Ntc := ⟨0, 0, 0, 0, 0, false⟩
/-- What is read as a letter. -/
structure RdP (s : ByteArray) (m : Ntc) (b : Bool) : Prop where
  rg : rgN m
  ak : m.acked = false
  t : b = true → mayN m ∧ letT m = s
  f : b = false → m = zN
  c : ∀ n : Ntc, mayN n → rgN n → letT n = s → b = true ∧ m = ⟨n.id, n.loan, n.kind, n.day, n.amount, false⟩
theorem RdP.uniq {s : ByteArray} {m k : Ntc} {b c : Bool} (h : RdP s m b) (h' : RdP s k c) : m = k ∧ b = c := by
  cases b
  · cases c
    · exact ⟨(h.f rfl).trans (h'.f rfl).symm, rfl⟩
    · have := h'.t rfl
      exact absurd (h.c k this.1 h'.rg this.2).1 (by decide)
  · have := h.t rfl
    have h2 := h'.c m this.1 h.rg this.2
    refine ⟨?_, h2.1.symm⟩
    rw [h2.2]
    have := h.ak
    cases m
    simp only at this
    rw [this]
theorem RdP.no {s : ByteArray} (h : ∀ n : Ntc, mayN n → rgN n → letT n ≠ s) : RdP s zN false :=
  ⟨⟨by unfold in64 zN; dsimp only; omega, by unfold in64 zN; dsimp only; omega, by unfold in64 zN; dsimp only; omega⟩, rfl, (fun h => by cases h), fun _ => rfl, fun n h1 h2 h3 => absurd h3 (h n h1 h2)⟩
theorem RdP.yes {s : ByteArray} {m : Ntc} (hm : mayN m) (hr : rgN m) (ha : m.acked = false) (h : letT m = s) : RdP s m true :=
  ⟨hr, ha, fun _ => ⟨hm, h⟩, (fun h => by cases h), fun n h1 h2 h3 => ⟨rfl, by
    obtain ⟨e1, e2, e3, e4, e5⟩ := let_inj h1 h2 hm hr (h3.trans h.symm)
    rw [e1, e2, e3, e4, e5]
    cases m
    simp only at ha
    rw [ha]⟩⟩
def RdV (s : ByteArray) (r : AV) : Prop := ∃ (m : Ntc) (b : Bool), r = tup2 (encNtc m) (B b) ∧ RdP s m b

theorem read_x (s : ByteArray) (hs : s.size ≤ 1048576) : PureX Tryd.prog (gl0 ml) report_ReadLetter [Tx s] (RdV s) := by
  refine pure_fnX mixed fn_report_ReadLetter nt_report_ReadLetter hc_report_ReadLetter (by simp) (gl0n ml) (by simp [nf]) ?_
  conv => whnf
  conv => whnf
  refine call_x2 (cut_x s ⟨#[58, 32]⟩ (by omega)) (LeL.refl _) ?_
  rintro _ - rfl
  generalize e1 : (Lib.cut (bL s) (bL ⟨#[58, 32]⟩)).2.2 = b1
  generalize e2 : bT (Lib.cut (bL s) (bL ⟨#[58, 32]⟩)).1 = hd
  generalize e3 : bT (Lib.cut (bL s) (bL ⟨#[58, 32]⟩)).2.1 = rest
  conv => whnf
  refine call_x2 (trimP_x hd ⟨#[78, 111, 116, 105, 99, 101, 32]⟩) (LeL.refl _) ?_
  rintro _ - rfl
  generalize e4 : bT (Lib.trimPrefix (bL hd) (bL ⟨#[78, 111, 116, 105, 99, 101, 32]⟩)) = hd2
  have n2 : hd2.size ≤ s.size := by
    have l1 := cut_len (bL s) cC
    have l3 := trim_len (bL hd) nC
    rw [bL_len] at l1 l3
    have s1 : hd.size = (Lib.cut (bL s) cC).1.length := by rw [← e2, bT_size]
    have s2 : hd2.size = (Lib.trimPrefix (bL hd) nC).length := by rw [← e4, bT_size]
    omega
  conv => whnf
  refine call_x2 (cut_x hd2 ⟨#[32, 111, 102, 32]⟩ (by omega)) (LeL.refl _) ?_
  rintro _ - rfl
  generalize e5 : (Lib.cut (bL hd2) (bL ⟨#[32, 111, 102, 32]⟩)).2.2 = b2
  generalize e6 : bT (Lib.cut (bL hd2) (bL ⟨#[32, 111, 102, 32]⟩)).1 = idt
  generalize e7 : bT (Lib.cut (bL hd2) (bL ⟨#[32, 111, 102, 32]⟩)).2.1 = dtt
  have hp := hdP e1 e2 e3 e4 e5 e6 e7
  clear e1 e2 e3 e4 e5 e6 e7
  have n1 := hp.n1
  have n2 := hp.n2
  have n3 := hp.n3
  have hc := hp.h
  clear hp
  cases b1
  · conv => whnf
    refine fin_e ?_
    conv => whnf
    exact ⟨by simp [packA, consL, nf], zN, false, rfl, RdP.no (fun n h1 h2 h3 => by have := (hc n h1 h2 h3).1; cases this)⟩
  cases b2
  · conv => whnf
    refine fin_e ?_
    conv => whnf
    exact ⟨by simp [packA, consL, nf], zN, false, rfl, RdP.no (fun n h1 h2 h3 => by have := (hc n h1 h2 h3).2.1; cases this)⟩
  conv => whnf
  refine call_x2 (number_x idt (by omega)) (LeL.refl _) ?_
  rintro _ - ⟨id, bi, rfl, hid, hid2⟩
  conv => whnf
  refine call_x2 (pdate_x dtt (by omega)) (LeL.refl _) ?_
  rintro _ - ⟨day, bd, rfl, hday, hday2⟩
  conv => whnf
  have hc : ∀ n : Ntc, mayN n → rgN n → letT n = s → id = n.id ∧ day = n.day ∧ rest = senT n.kind.toNat (itoaT n.loan) (fmtT n.amount) := fun n h1 h2 h3 => by
    obtain ⟨-, -, r1, r2, r3⟩ := hc n h1 h2 h3
    refine ⟨(hid2 n.id (by unfold mayN at h1; omega) h2.i r1).1, (hday2 n.day h1.1 r2).1, r3⟩
  refine loop_at mixed (fun (p : Nat × Int × Int × Int) => ([(11, I p.1), (5, Tx rest), (0, Tx s), (10, .ptr 1 []), (2, .ptr 0 []), (3, B false)], [(0, .box (encNtc zN)), (1, .box (encNtc ⟨id, p.2.1, p.2.2.1, day, p.2.2.2, false⟩))], 2)) (fun p => 1 ≤ p.1 ∧ p.1 ≤ 10 ∧ ∀ n : Ntc, mayN n → rgN n → letT n = s → (p.1 : Int) ≤ n.kind) (fun p => 10 - p.1) (1, 0, 0, 0) ⟨Nat.le_refl _, by decide, fun n h1 _ _ => by unfold mayN at h1; exact h1.2.2.2.2.1⟩ (le_st (le_r rfl) (leE_i rfl rfl (leE_eq rfl (bnd_nf _ (trivial)) (leE_eq rfl (bnd_nf _ (trivial)) (leE_ptr rfl rfl (leE_ptr rfl rfl (leE_eq rfl (bnd_nf _ (trivial)) trivial)))))) (leO_box (lt_r rfl) rfl (LeA.refl _) (bnd_nf _ ((by simp [encNtc, nf]))) (leO_box (lt_r rfl) rfl (LeA.refl _) (bnd_nf _ ((by simp [encNtc, nf]))) trivial)) (gl0n ml)) ?_
  rintro ⟨k, l0, kd0, a0⟩ ⟨hk1, hk2, hk3⟩
  replace hk1 : 1 ≤ k := hk1
  replace hk2 : k ≤ 10 := hk2
  replace hk3 : ∀ n : Ntc, mayN n → rgN n → letT n = s → (k : Int) ≤ n.kind := hk3
  conv => whnf
  by_cases c9 : k ≤ 9
  rotate_left
  · refine br_false (decide_eq_false ((by omega : ¬ ((k : Nat) : Int) ≤ 9))) ?_
    conv => whnf
    refine fin_e ?_
    conv => whnf
    exact ⟨by simp [packA, consL, nf], zN, false, rfl, RdP.no (fun n h1 h2 h3 => by have := hk3 n h1 h2 h3; unfold mayN at h1; omega)⟩
  refine br_true (decide_eq_true ((by omega : ((k : Nat) : Int) ≤ 9))) ?_
  conv => whnf
  refine call_x2 (sent_x k hk1 c9) (LeL.refl _) ?_
  rintro _ - rfl
  conv => whnf
  refine call_x2 (fill_x k rest hk1 c9 (by omega)) (LeL.refl _) ?_
  rintro _ - ⟨l, a, b, rfl, hl, ha, hf⟩
  have key : ∀ n : Ntc, mayN n → rgN n → letT n = s → n.kind = k → l = n.loan ∧ a = n.amount ∧ b = true := fun n h1 h2 h3 h4 => by
    have h5 := (hc n h1 h2 h3).2.2
    rw [h4, Int.toNat_natCast] at h5
    unfold mayN at h1
    exact hf n.loan n.amount (by omega) h2.l (by omega) h2.a h5
  have nxt : (∀ n : Ntc, mayN n → rgN n → letT n = s → n.kind ≠ k) → ∀ n : Ntc, mayN n → rgN n → letT n = s → ((k + 1 : Nat) : Int) ≤ n.kind := fun h n h1 h2 h3 => by
    have := hk3 n h1 h2 h3
    have := h n h1 h2 h3
    omega
  cases b
  · conv => whnf
    exact ⟨(k + 1, l0, kd0, a0), ⟨by show 1 ≤ k + 1; omega, by show k + 1 ≤ 10; omega, nxt (fun n h1 h2 h3 h4 => by have := (key n h1 h2 h3 h4).2.2; cases this)⟩, (by show 10 - (k + 1) < 10 - k; omega), (le_st (le_r rfl) (leE_i rfl ((by rw [wrap_id (by unfold in64; omega)]; rfl)) (leE_eq rfl (bnd_nf _ (trivial)) (leE_eq rfl (bnd_nf _ (trivial)) (leE_ptr rfl rfl (leE_ptr rfl rfl (leE_eq rfl (bnd_nf _ (trivial)) trivial)))))) (leO_box (lt_r rfl) rfl (LeA.refl _) (bnd_nf _ ((by simp [encNtc, nf]))) (leO_box (lt_r rfl) rfl (LeA.refl _) (bnd_nf _ ((by simp [encNtc, nf]))) trivial)) (gl0n ml))⟩
  · conv => whnf
    obtain ⟨m, hm⟩ : ∃ m : Ntc, m = ⟨id, l, k, day, a, false⟩ := ⟨_, rfl⟩
    have hr : rgN m := by rw [hm]; exact ⟨hid, hl, ha⟩
    have hcall := letter_x (ml := ml) m hr
    rw [hm] at hcall
    refine call_x2 hcall (LeL.refl _) ?_
    rw [← hm]
    have hsame : ∀ n : Ntc, mayN n → rgN n → letT n = s → n.kind = k → mayN m ∧ letT m = s := fun n h1 h2 h3 h4 => by
      obtain ⟨r1, r2, -⟩ := key n h1 h2 h3 h4
      obtain ⟨r3, r4, -⟩ := hc n h1 h2 h3
      have e : m = ⟨n.id, n.loan, n.kind, n.day, n.amount, false⟩ := by rw [hm, r1, r2, r3, r4, h4]
      rw [e, ← h3]
      exact ⟨h1, rfl⟩
    rintro _ - (h | h)
    · conv => whnf
      cases hq : ((letT m).toList == s.toList)
      · conv => whnf
        refine ⟨(k + 1, l, (k : Int), a), ⟨by show 1 ≤ k + 1; omega, by show k + 1 ≤ 10; omega, nxt (fun n h1 h2 h3 h4 => ?_)⟩, (by show 10 - (k + 1) < 10 - k; omega), (le_st (le_r rfl) (leE_i rfl ((by rw [wrap_id (by unfold in64; omega)]; rfl)) (leE_eq rfl (bnd_nf _ (trivial)) (leE_eq rfl (bnd_nf _ (trivial)) (leE_ptr rfl rfl (leE_ptr rfl rfl (leE_eq rfl (bnd_nf _ (trivial)) trivial)))))) (leO_box (lt_r rfl) rfl (LeA.refl _) (bnd_nf _ ((by simp [encNtc, nf]))) (leO_box (lt_r rfl) rfl (LeA.refl _) (bnd_nf _ ((by simp [encNtc, nf]))) trivial)) (gl0n ml))⟩
        rw [(hsame n h1 h2 h3 h4).2] at hq
        simp at hq
      · conv => whnf
        refine fin_e ?_
        conv => whnf
        have he : letT m = s := by
          have h5 : (letT m).toList = s.toList := by simpa using hq
          refine bL_inj ?_
          rw [Lib.toList_data, Lib.toList_data] at h5
          exact h5
        have hy := RdP.yes h hr (by rw [hm]) he
        rw [hm] at hy
        exact ⟨by simp [packA, consL, nf], _, true, rfl, hy⟩
    · conv => whnf
      exact ⟨(k + 1, l, (k : Int), a), ⟨by show 1 ≤ k + 1; omega, by show k + 1 ≤ 10; omega, nxt (fun n h1 h2 h3 h4 => h (hsame n h1 h2 h3 h4).1)⟩, (by show 10 - (k + 1) < 10 - k; omega), (le_st (le_r rfl) (leE_i rfl ((by rw [wrap_id (by unfold in64; omega)]; rfl)) (leE_eq rfl (bnd_nf _ (trivial)) (leE_eq rfl (bnd_nf _ (trivial)) (leE_ptr rfl rfl (leE_ptr rfl rfl (leE_eq rfl (bnd_nf _ (trivial)) trivial)))))) (leO_box (lt_r rfl) rfl (LeA.refl _) (bnd_nf _ ((by simp [encNtc, nf]))) (leO_box (lt_r rfl) rfl (LeA.refl _) (bnd_nf _ ((by simp [encNtc, nf]))) trivial)) (gl0n ml))⟩

end Go.Proofs.YtankpibkakfnhaaDoor
namespace Go.Proofs.YtankpibkakfnhaaDoor
open Go Ar
variable {ml : GV}
set_option linter.unusedVariables false
set_option autoImplicit false
set_option maxHeartbeats 4000000
set_option maxRecDepth 100000

theorem letT_size {n : Ntc} (h : mayN n) (hr : rgN n) : (letT n).size ≤ 1048576 := by
  have s1 := itoa_size hr.i
  have s2 := itoa_size hr.l
  have s3 := fmt_size hr.a
  have s4 := dateT_size n.day
  unfold mayN at h
  have s5 := f_size (k := n.kind.toNat) (by omega) (by omega)
  have s6 : (senT n.kind.toNat (itoaT n.loan) (fmtT n.amount)).size ≤ 200 := by
    unfold senT
    split <;> simp only [ByteArray.size_append] <;> omega
  unfold letT
  simp only [ByteArray.size_append, szc, List.size_toArray, List.length_cons, List.length_nil]
  omega

theorem law15_x (n : Ntc) (s : ByteArray) (hr : rgN n) (hs : s.size ≤ 1048576) : PureX Tryd.prog (gl0 ml) l21_ReportLetterBack [encNtc n, Tx s] (fun r => r = B true) := by
  refine pure_fnX mixed fn_l21_ReportLetterBack nt_l21_ReportLetterBack hc_l21_ReportLetterBack (by simp) (gl0n ml) (by simp [nf]) ?_
  conv => whnf
  conv => whnf
  repeat' first
    | (refine br_dec (fun h0 => ?_) (fun h0 => ?_) <;> (conv => whnf))
    | (refine call_x2 (letter_x n hr) (LeL.refl _) ?_; rintro _ - (h | h) <;> first | (exfalso; unfold mayN at h; omega) | (conv => whnf))
    | fail
  refine call_x2 (read_x (letT n) (letT_size h hr)) (LeL.refl _) ?_
  rintro _ - ⟨m, b, rfl, hm⟩
  obtain ⟨rfl, rfl⟩ := hm.c n h hr rfl
  conv => whnf
  refine br_false (congrArg (eqSn true) (eqS_refl _ _)) ?_
  conv => whnf
  clear hm
  all_goals
    refine call_x2 (read_x s hs) (LeL.refl _) ?_
    rintro _ - ⟨m, b, rfl, hm⟩
    cases b
    · obtain rfl := hm.f rfl
      conv => whnf
      refine fin_e ?_
      conv => whnf
      exact ⟨trivial, rfl⟩
    · conv => whnf
      refine call_x2 (letter_x m hm.rg) (LeL.refl _) ?_
      rintro _ - (h2 | h2)
      · have hq : ((letT m).toList == s.toList) = true := by rw [(hm.t rfl).2]; simp
        conv => whnf
        rw [hq]
        have hak := hm.ak
        conv => whnf
        refine fin_e ?_
        conv => whnf
        refine ⟨trivial, ?_⟩
        rw [hak]
        rfl
      · exact absurd (hm.t rfl).1 h2

end Go.Proofs.YtankpibkakfnhaaDoor
namespace Go.Proofs.YtankpibkakfnhaaDoor
open Go Ar
variable {ml : GV}
set_option linter.unusedVariables false
set_option autoImplicit false
set_option maxHeartbeats 4000000
set_option maxRecDepth 100000

theorem r2ml_x (y m : Int) : PureX Tryd.prog (gl0 ml) r2_MonthLen [I y, I m] (fun r => r = I (mlI y m)) := by
  refine pure_fnX mixed fn_r2_MonthLen nt_r2_MonthLen hc_r2_MonthLen (by simp) (gl0n ml) (by simp [nf]) ?_
  conv => whnf
  by_cases c1 : y < 1
  · refine br_true (decide_eq_true (c1)) ?_
    conv => whnf
    refine fin_e ?_
    conv => whnf
    exact ⟨trivial, by rw [mlI_no (by omega)]; rfl⟩
  refine br_false (decide_eq_false (c1)) ?_
  conv => whnf
  by_cases c2 : 9999 < y
  · refine br_true (decide_eq_true (c2)) ?_
    conv => whnf
    refine fin_e ?_
    conv => whnf
    exact ⟨trivial, by rw [mlI_no (by omega)]; rfl⟩
  refine br_false (decide_eq_false (c2)) ?_
  conv => whnf
  by_cases c3 : m < 1
  · refine br_true (decide_eq_true (c3)) ?_
    conv => whnf
    refine fin_e ?_
    conv => whnf
    exact ⟨trivial, by rw [mlI_no (by omega)]; rfl⟩
  refine br_false (decide_eq_false (c3)) ?_
  conv => whnf
  by_cases c4 : 12 < m
  · refine br_true (decide_eq_true (c4)) ?_
    conv => whnf
    refine fin_e ?_
    conv => whnf
    exact ⟨trivial, by rw [mlI_no (by omega)]; rfl⟩
  refine br_false (decide_eq_false (c4)) ?_
  conv => whnf
  obtain ⟨y, rfl⟩ := Int.eq_ofNat_of_zero_le (show 0 ≤ y by omega)
  obtain ⟨m, rfl⟩ := Int.eq_ofNat_of_zero_le (show 0 ≤ m by omega)
  refine call_x2 (lenOf_x y m (by omega) (by omega)) (LeL.refl _) ?_
  rintro _ - rfl
  conv => whnf
  refine fin_e ?_
  conv => whnf
  exact ⟨trivial, congrArg (fun n => I n) (if_pos (by omega)).symm⟩

theorem r2num_x (y m d : Int) : PureX Tryd.prog (gl0 ml) r2_Number [encD y m d] (fun r => r = numV y m d) := by
  refine pure_fnX mixed fn_r2_Number nt_r2_Number hc_r2_Number (by simp) (gl0n ml) (by simp [nf]) ?_
  conv => whnf
  by_cases c1 : d < 1
  · refine br_true (decide_eq_true (c1)) ?_
    conv => whnf
    refine fin_e ?_
    conv => whnf
    exact ⟨⟨trivial, trivial, trivial⟩, by rw [numV_no (by omega)]; rfl⟩
  refine br_false (decide_eq_false (c1)) ?_
  conv => whnf
  refine call_x2 (r2ml_x y m) (LeL.refl _) ?_
  rintro _ - rfl
  conv => whnf
  by_cases c2 : mlI y m < d
  · refine br_true (decide_eq_true (c2)) ?_
    conv => whnf
    refine fin_e ?_
    conv => whnf
    exact ⟨⟨trivial, trivial, trivial⟩, by rw [numV_no (by omega)]; rfl⟩
  refine br_false (decide_eq_false (c2)) ?_
  conv => whnf
  have hv : 1 ≤ y ∧ y ≤ 9999 ∧ 1 ≤ m ∧ m ≤ 12 := Classical.byContradiction fun h => by
    have := mlI_no h
    omega
  have h31 := mlI_le y m
  have hN : numV y m d = tup2 (I ((SB (y.toNat - 1) + cm (lpN y.toNat) m.toNat + d.toNat : Nat) : Int)) (B true) := if_pos (by omega)
  rw [hN]
  clear hN
  obtain ⟨d, rfl⟩ := Int.eq_ofNat_of_zero_le (show 0 ≤ d by omega)
  obtain ⟨y, rfl⟩ := Int.eq_ofNat_of_zero_le (show 0 ≤ y by omega)
  obtain ⟨m, rfl⟩ := Int.eq_ofNat_of_zero_le (show 0 ≤ m by omega)
  rw [Int.toNat_natCast, Int.toNat_natCast, Int.toNat_natCast]
  have y1 : 1 ≤ y := by omega
  have y2 : y ≤ 9999 := by omega
  have m1 : 1 ≤ m := by omega
  have m2 : m ≤ 12 := by omega
  have d2 : d ≤ 31 := by omega
  clear hv h31 c1 c2
  have hl := lpN_le y
  obtain ⟨k, hk⟩ : ∃ k, k = (y - 1) / 400 := ⟨_, rfl⟩
  have w1 : IntKind.i64.wrap (((y : Nat) : Int) - 1) = ((y - 1 : Nat) : Int) := by rw [wrap_id (by unfold in64; omega)]; omega
  have w2 : (((y - 1 : Nat) : Int)).tdiv 400 = (k : Nat) := by rw [hk]; exact (Int.ofNat_tdiv (y - 1) 400).symm
  have w3 : IntKind.i64.wrap (k : Nat) = (k : Nat) := wrap_id (by unfold in64; omega)
  have w4 : IntKind.i64.wrap ((k : Nat) * 146097) = ((k * 146097 : Nat) : Int) := by rw [wrap_id (by unfold in64; omega)]; omega
  have w6 : IntKind.i64.wrap (400 * (k : Nat)) = ((400 * k : Nat) : Int) := by rw [wrap_id (by unfold in64; omega)]; omega
  have w7 : IntKind.i64.wrap (((400 * k : Nat) : Int) + 1) = ((400 * k + 1 : Nat) : Int) := by rw [wrap_id (by unfold in64; omega)]; omega
  repeat' first
    | (rw [wpE_one])
    | (refine And.intro (by decide) ?_; (conv => whnf))
    | (rw [w1])
    | (rw [w2])
    | (rw [w3])
    | (rw [w4])
    | (rw [w6])
    | (rw [w7])
    | fail
  clear w1 w2 w3 w4 w6 w7
  refine loop_at mixed (fun (p : Nat × Nat) => ([(6, I p.1), (5, I p.2), (1, .ptr 0 [])], [(0, .box (encDt y m d))], 1)) (fun p => 1 ≤ p.1 ∧ p.1 ≤ y ∧ p.2 = SB (p.1 - 1)) (fun p => y - p.1) (400 * k + 1, k * 146097) ⟨by omega, (show 400 * k + 1 ≤ y by omega), by show k * 146097 = SB (400 * k + 1 - 1); rw [Nat.add_sub_cancel, SB_cyc]; omega⟩ (le_st (le_r rfl) (leE_i rfl rfl (leE_i rfl rfl (leE_ptr rfl rfl trivial))) (leO_box (lt_r rfl) rfl (LeA.refl _ ) (bnd_nf _ ( (by simp [nf]))) trivial) (gl0n ml)) ?_
  clear hk k
  rintro ⟨x, n⟩ ⟨h1, h2, h3⟩
  replace h1 : 1 ≤ x := h1
  replace h2 : x ≤ y := h2
  replace h3 : n = SB (x - 1) := h3
  have hb : SB (x - 1) ≤ 3652059 := SB_mono (show x - 1 ≤ 9999 by omega)
  conv => whnf
  by_cases c : x < y
  · refine br_true (decide_eq_true ((by omega : ((x : Nat) : Int) < (y : Nat)))) ?_
    conv => whnf
    refine call_x2 (yearLen_x x) (LeL.refl _) ?_
    rintro _ - rfl
    conv => whnf
    have hl2 := lpN_le x
    have w1 : IntKind.i64.wrap (((n : Nat) : Int) + ((365 + lpN x : Nat) : Int)) = ((n + (365 + lpN x) : Nat) : Int) := by rw [wrap_id (by unfold in64; omega)]; omega
    have w2 : IntKind.i64.wrap (((x : Nat) : Int) + 1) = ((x + 1 : Nat) : Int) := by rw [wrap_id (by unfold in64; omega)]; omega
    refine ⟨(x + 1, n + (365 + lpN x)), ⟨(show 1 ≤ x + 1 by omega), c, ?_⟩, (show y - (x + 1) < y - x by omega), (le_st (le_r rfl) (leE_i rfl (w2) (leE_i rfl (w1) (leE_ptr rfl rfl trivial))) (leO_box (lt_r rfl) rfl (LeA.refl _ ) (bnd_nf _ ( (by simp [nf]))) trivial) (gl0n ml))⟩
    show n + (365 + lpN x) = SB (x + 1 - 1)
    have h6 := SB_s (x - 1)
    rw [Nat.sub_add_cancel h1] at h6
    rw [Nat.add_sub_cancel]
    omega
  · refine br_false (decide_eq_false ((by omega : ¬ ((x : Nat) : Int) < (y : Nat)))) ?_
    conv => whnf
    obtain rfl : x = y := by omega
    clear c h2
    refine loop_at mixed (fun (p : Nat × Nat) => ([(7, I p.1), (5, I p.2), (1, .ptr 0 [])], [(0, .box (encDt x m d))], 1)) (fun p => 1 ≤ p.1 ∧ p.1 ≤ m ∧ p.2 = SB (x - 1) + cm (lpN x) p.1) (fun p => m - p.1) (1, n) ⟨Nat.le_refl _, m1, by show n = SB (x - 1) + cm (lpN x) 1; rw [cm_1]; omega⟩ (le_st (le_r rfl) (leE_i rfl rfl (leE_i rfl rfl (leE_ptr rfl rfl trivial))) (leO_box (lt_r rfl) rfl (LeA.refl _ ) (bnd_nf _ ( (by simp [nf]))) trivial) (gl0n ml)) ?_
    rintro ⟨j, q⟩ ⟨j1, j2, hq⟩
    replace j1 : 1 ≤ j := j1
    replace j2 : j ≤ m := j2
    replace hq : q = SB (x - 1) + cm (lpN x) j := hq
    have hcb := cm_mono hl j1 (show j ≤ 13 by omega) (Nat.le_refl _)
    rw [cm_13] at hcb
    conv => whnf
    by_cases c : j < m
    · refine br_true (decide_eq_true ((by omega : ((j : Nat) : Int) < (m : Nat)))) ?_
      conv => whnf
      refine call_x2 (lenOf_x x j j1 (by omega)) (LeL.refl _) ?_
      rintro _ - rfl
      conv => whnf
      have hs := cm_s hl j1 (show j ≤ 12 by omega)
      have w1 : IntKind.i64.wrap (((q : Nat) : Int) + ((cm (lpN x) (j + 1) - cm (lpN x) j : Nat) : Int)) = ((q + (cm (lpN x) (j + 1) - cm (lpN x) j) : Nat) : Int) := by rw [wrap_id (by unfold in64; omega)]; omega
      have w2 : IntKind.i64.wrap (((j : Nat) : Int) + 1) = ((j + 1 : Nat) : Int) := by rw [wrap_id (by unfold in64; omega)]; omega
      exact ⟨(j + 1, q + (cm (lpN x) (j + 1) - cm (lpN x) j)), ⟨(show 1 ≤ j + 1 by omega), c, (show q + (cm (lpN x) (j + 1) - cm (lpN x) j) = SB (x - 1) + cm (lpN x) (j + 1) by omega)⟩, (show m - (j + 1) < m - j by omega), (le_st (le_r rfl) (leE_i rfl (w2) (leE_i rfl (w1) (leE_ptr rfl rfl trivial))) (leO_box (lt_r rfl) rfl (LeA.refl _ ) (bnd_nf _ ( (by simp [nf]))) trivial) (gl0n ml))⟩
    · refine br_false (decide_eq_false ((by omega : ¬ ((j : Nat) : Int) < (m : Nat)))) ?_
      conv => whnf
      obtain rfl : j = m := by omega
      refine fin_e ?_
      conv => whnf
      have w1 : IntKind.i64.wrap (((q : Nat) : Int) + ((d : Nat) : Int)) = ((SB (x - 1) + cm (lpN x) j + d : Nat) : Int) := by rw [wrap_id (by unfold in64; omega)]; omega
      exact ⟨⟨trivial, trivial, trivial⟩, by rw [← w1]; rfl⟩

end Go.Proofs.YtankpibkakfnhaaDoor
namespace Go.Proofs.YtankpibkakfnhaaDoor
open Go Ar
variable {ml : GV}
set_option linter.unusedVariables false
set_option autoImplicit false
set_option maxHeartbeats 4000000
set_option maxRecDepth 100000

theorem digit_x (c : Int) : PureX Tryd.prog (gl0 ml) r21_digit [Y c] (fun r => r = B (decide (48 ≤ c ∧ c ≤ 57))) := by
  refine pure_fnX mixed fn_r21_digit nt_r21_digit hc_r21_digit (by simp) (gl0n ml) (by simp [nf]) ?_
  conv => whnf
  repeat' first
    | (refine br_dec (fun h0 => ?_) (fun h0 => ?_) <;> (conv => whnf))
    | (refine br_intro (fun hb => ?_) (fun hb => ?_) <;> ((try rw [hb]); (conv => whnf); (try simp at hb)))
    | (refine aI ?_; (conv => whnf))
    | (refine fin_e ?_; (conv => whnf); first | exact ⟨trivial, congrArg (fun b => B b) (decide_eq_true (by omega)).symm⟩ | exact ⟨trivial, congrArg (fun b => B b) (decide_eq_false (by omega)).symm⟩)
    | fail

/-- One byte more: the runs so far, the number under way, its width. -/
def rnS (p : List Int × Int × Nat) (c : UInt8) : List Int × Int × Nat :=
  if isD c then (p.1, if p.2.2 < 19 then IntKind.i64.wrap (IntKind.i64.wrap (10 * p.2.1) + ((c.toNat - 48 : Nat) : Int)) else p.2.1, p.2.2 + 1) else if 0 < p.2.2 then (p.1 ++ [p.2.1], 0, 0) else p
def rnF (p : List Int × Int × Nat) (l : List UInt8) : List Int × Int × Nat := l.foldl rnS p
def rnE (p : List Int × Int × Nat) : List Int := if 0 < p.2.2 then p.1 ++ [p.2.1] else p.1
def runsL (s : ByteArray) : List Int := rnE (rnF ([], 0, 0) (bL s))
theorem rnF_app (p : List Int × Int × Nat) (a b : List UInt8) : rnF p (a ++ b) = rnF (rnF p a) b := List.foldl_append

/-- In range, and no more than so many. -/
def rnP (p : List Int × Int × Nat) (k : Nat) : Prop := (∀ x ∈ p.1, in64 x) ∧ in64 p.2.1 ∧ p.1.length ≤ k ∧ p.2.2 ≤ k ∧ (p.2.2 = 0 → p.2.1 = 0)
theorem rnP_s {p : List Int × Int × Nat} {k : Nat} (h : rnP p k) (c : UInt8) : rnP (rnS p c) (k + 1) := by
  obtain ⟨h1, h2, h3, h4, h5⟩ := h
  unfold rnS
  split
  · refine ⟨h1, ?_, Nat.le_succ_of_le h3, by show p.2.2 + 1 ≤ k + 1; omega, fun h => by have : p.2.2 + 1 = 0 := h; omega⟩
    show in64 (if p.2.2 < 19 then _ else _)
    split
    · exact wrap_in _
    · exact h2
  · split
    · refine ⟨fun x hx => ?_, by show in64 0; unfold in64; omega, by show (p.1 ++ [p.2.1]).length ≤ k + 1; rw [List.length_append]; show p.1.length + 1 ≤ k + 1; omega, Nat.zero_le _, fun _ => rfl⟩
      rcases List.mem_append.1 hx with hx | hx
      · exact h1 x hx
      · rw [List.mem_singleton.1 hx]; exact h2
    · exact ⟨h1, h2, by omega, by omega, h5⟩
theorem rnP_F : ∀ (l : List UInt8) {p : List Int × Int × Nat} {k : Nat}, rnP p k → rnP (rnF p l) (k + l.length)
  | [], _, _, h => h
  | c :: l, p, k, h => by
    have := rnP_F l (rnP_s h c)
    rw [List.length_cons, show k + (l.length + 1) = (k + 1) + l.length by omega]
    exact this
theorem rnP_0 : rnP ([], 0, 0) 0 := ⟨fun x hx => by simp at hx, by show in64 0; unfold in64; omega, Nat.le_refl _, Nat.le_refl _, fun _ => rfl⟩
theorem runs_rg (s : ByteArray) : ∀ x ∈ runsL s, in64 x := by
  obtain ⟨h1, h2, -⟩ := rnP_F (bL s) rnP_0
  unfold runsL rnE
  split
  · intro x hx
    rcases List.mem_append.1 hx with hx | hx
    · exact h1 x hx
    · rw [List.mem_singleton.1 hx]; exact h2
  · exact h1

theorem runs_x (s : ByteArray) (hs : s.size ≤ 1048576) : PureX Tryd.prog (gl0 ml) r21_runs [Tx s] (fun r => r = encL I 1 (runsL s)) := by
  refine pure_fnX mixed fn_r21_runs nt_r21_runs hc_r21_runs (by simp) (gl0n ml) (by simp [nf]) ?_
  conv => whnf
  refine loop_at mixed (fun (k : Nat) => ([(6, I k), (4, I (if k ≤ s.size then (rnF ([], 0, 0) ((bL s).take k)).2.1 else 0)), (5, I ((if k ≤ s.size then (rnF ([], 0, 0) ((bL s).take k)).2.2 else 0 : Nat) : Int)), (0, Tx s), (3, encT (some 0) I 1 (if k ≤ s.size then (rnF ([], 0, 0) ((bL s).take k)).1 else runsL s))], [(0, .room (if k ≤ s.size then (rnF ([], 0, 0) ((bL s).take k)).1 else runsL s).length 1 3)], 1)) (fun k => k ≤ s.size + 1) (fun k => s.size + 1 - k) 0 (Nat.zero_le _) ((le_nil 3 1 3 (fun i => I (at_ ([] : List Int) i)) rfl).trans (le_st (le_r rfl) (leE_i rfl rfl (leE_i rfl rfl (leE_i rfl rfl (leE_eq rfl (bnd_nf _ (trivial)) (leE_eq rfl (bnd_encT nf_I (lt_r rfl)) trivial))))) (leO_room (lt_r rfl) rfl trivial) (gl0n ml))) ?_
  intro k hk
  conv => whnf
  by_cases c : k ≤ s.size
  · refine br_true (decide_eq_true ((by omega : ((k : Nat) : Int) ≤ (s.size : Nat)))) ?_
    conv => whnf
    dsimp only
    rw [if_pos c, if_pos c, if_pos c]
    have hp := rnP_F ((bL s).take k) rnP_0
    generalize hq : rnF ([], 0, 0) ((bL s).take k) = q at hp ⊢
    obtain ⟨out, n, w⟩ := q
    obtain ⟨h1, h2, h3, h4, h5⟩ := hp
    rw [List.length_take] at h3 h4
    replace h3 : out.length ≤ s.size := by have : out.length ≤ 0 + min k (bL s).length := h3; omega
    replace h4 : w ≤ s.size := by have : w ≤ 0 + min k (bL s).length := h4; omega
    replace h5 : w = 0 → n = 0 := h5
    have wk : IntKind.i64.wrap (((k : Nat) : Int) + 1) = ((k + 1 : Nat) : Int) := by rw [wrap_id (by unfold in64; omega)]; omega
    have ww : IntKind.i64.wrap (((w : Nat) : Int) + 1) = ((w + 1 : Nat) : Int) := by rw [wrap_id (by unfold in64; omega)]; omega
    by_cases c1 : k < s.size
    · refine br_true (decide_eq_true ((by omega : ((k : Nat) : Int) < (s.size : Nat)))) ?_
      conv => whnf
      repeat' first
        | (refine And.intro (by first | omega | (constructor <;> omega)) ?_; (conv => whnf))
        | fail
      obtain ⟨b, hb, hbt⟩ := bt_bL s k c1
      rw [show bt s ((k : Nat) : Int).toNat = ((b.toNat : Nat) : Int) by rw [Int.toNat_natCast]; exact hbt]
      have hnx : rnF ([], 0, 0) ((bL s).take (k + 1)) = rnS (out, n, w) b := by rw [take_s hb, rnF_app, hq]; rfl
      have hD : (48 ≤ ((b.toNat : Nat) : Int) ∧ ((b.toNat : Nat) : Int) ≤ 57) ↔ isD b := by unfold isD; omega
      have hb2 := UInt8.toNat_lt b
      refine call_x2 (digit_x ((b.toNat : Nat) : Int)) (LeL.refl _) ?_
      rintro _ - rfl
      conv => whnf
      by_cases d : isD b
      · refine br_true (decide_eq_true ((hD.2 d))) ?_
        conv => whnf
        have d' := d
        unfold isD at d'
        by_cases c2 : w < 19
        · refine br_true (decide_eq_true ((by omega : ((w : Nat) : Int) < 19))) ?_
          conv => whnf
          repeat' first
            | (refine And.intro (by first | omega | (constructor <;> omega)) ?_; (conv => whnf))
            | fail
          rw [show bt s ((k : Nat) : Int).toNat = ((b.toNat : Nat) : Int) by rw [Int.toNat_natCast]; exact hbt]
          refine ⟨k + 1, (show k + 1 ≤ s.size + 1 by omega), (show s.size + 1 - (k + 1) < s.size + 1 - k by omega), ?_⟩
          dsimp only
          rw [if_pos (show k + 1 ≤ s.size from c1), if_pos (show k + 1 ≤ s.size from c1), if_pos (show k + 1 ≤ s.size from c1), hnx]
          unfold rnS
          rw [if_pos d]
          dsimp only
          rw [if_pos c2]
          have e8 : ((b.toNat : Nat) : Int) - 48 = ((b.toNat - 48 : Nat) : Int) := by omega
          exact (le_st (le_r rfl) (leE_i rfl (wk) (leE_i rfl ((by rw [e8, wrap8 (by omega), wrap_id (n := ((b.toNat - 48 : Nat) : Int)) (by unfold in64; omega)])) (leE_i rfl (ww) (leE_eq rfl (bnd_nf _ (trivial)) (leE_eq rfl (bnd_encT nf_I (lt_r rfl)) trivial))))) (leO_room (lt_r rfl) rfl trivial) (gl0n ml))
        · refine br_false (decide_eq_false ((by omega : ¬ ((w : Nat) : Int) < 19))) ?_
          conv => whnf
          refine ⟨k + 1, (show k + 1 ≤ s.size + 1 by omega), (show s.size + 1 - (k + 1) < s.size + 1 - k by omega), ?_⟩
          dsimp only
          rw [if_pos (show k + 1 ≤ s.size from c1), if_pos (show k + 1 ≤ s.size from c1), if_pos (show k + 1 ≤ s.size from c1), hnx]
          unfold rnS
          rw [if_pos d]
          dsimp only
          rw [if_neg c2]
          exact (le_st (le_r rfl) (leE_i rfl (wk) (leE_i rfl rfl (leE_i rfl (ww) (leE_eq rfl (bnd_nf _ (trivial)) (leE_eq rfl (bnd_encT nf_I (lt_r rfl)) trivial))))) (leO_room (lt_r rfl) rfl trivial) (gl0n ml))
      · refine br_false (decide_eq_false ((fun h => d (hD.1 h)))) ?_
        conv => whnf
        by_cases c2 : 0 < w
        · refine br_true (decide_eq_true ((by omega : (0 : Int) < ((w : Nat) : Int)))) ?_
          conv => whnf
          repeat' first
            | (rw [wpE_one])
            | (refine And.intro (by first | rfl | omega | (constructor <;> omega) | (show (out.length + 1) * 8 ≤ 140737488355328; omega) | fail) ?_; (conv => whnf))
            | fail
          refine ⟨k + 1, (show k + 1 ≤ s.size + 1 by omega), (show s.size + 1 - (k + 1) < s.size + 1 - k by omega), ?_⟩
          dsimp only
          rw [if_pos (show k + 1 ≤ s.size from c1), if_pos (show k + 1 ≤ s.size from c1), if_pos (show k + 1 ≤ s.size from c1), hnx]
          unfold rnS
          rw [if_neg d]
          dsimp only
          rw [if_pos c2]
          exact (le_st (le_r rfl) (leE_i rfl (wk) (leE_i rfl rfl (leE_i rfl rfl (leE_eq rfl (bnd_nf _ (trivial)) (leE_le rfl (leA_snoc (enc := I) (by exact LeA.refl _)).le (bnd_encT nf_I (lt_r rfl)) trivial))))) (leO_room (lt_r rfl) (by (simp; rfl)) trivial) (gl0n ml))
        · refine br_false (decide_eq_false ((by omega : ¬ (0 : Int) < ((w : Nat) : Int)))) ?_
          conv => whnf
          refine ⟨k + 1, (show k + 1 ≤ s.size + 1 by omega), (show s.size + 1 - (k + 1) < s.size + 1 - k by omega), ?_⟩
          dsimp only
          rw [if_pos (show k + 1 ≤ s.size from c1), if_pos (show k + 1 ≤ s.size from c1), if_pos (show k + 1 ≤ s.size from c1), hnx]
          unfold rnS
          rw [if_neg d]
          dsimp only
          rw [if_neg c2]
          exact (le_st (le_r rfl) (leE_i rfl (wk) (leE_i rfl rfl (leE_i rfl rfl (leE_eq rfl (bnd_nf _ (trivial)) (leE_eq rfl (bnd_encT nf_I (lt_r rfl)) trivial))))) (leO_room (lt_r rfl) rfl trivial) (gl0n ml))
    · refine br_false (decide_eq_false ((by omega : ¬ ((k : Nat) : Int) < (s.size : Nat)))) ?_
      conv => whnf
      have hk2 : (bL s).take k = bL s := List.take_of_length_le (by rw [bL_len]; omega)
      have hk3 : (bL s).take (k + 1) = bL s := List.take_of_length_le (by rw [bL_len]; omega)
      rw [hk2] at hq
      by_cases c2 : 0 < w
      · refine br_true (decide_eq_true ((by omega : (0 : Int) < ((w : Nat) : Int)))) ?_
        conv => whnf
        repeat' first
          | (rw [wpE_one])
          | (refine And.intro (by first | rfl | omega | (constructor <;> omega) | (show (out.length + 1) * 8 ≤ 140737488355328; omega) | fail) ?_; (conv => whnf))
          | fail
        refine ⟨k + 1, (show k + 1 ≤ s.size + 1 by omega), (show s.size + 1 - (k + 1) < s.size + 1 - k by omega), ?_⟩
        have hr : runsL s = out ++ [n] := by
          unfold runsL
          rw [hq]
          exact if_pos c2
        dsimp only
        rw [if_neg (show ¬ k + 1 ≤ s.size by omega), if_neg (show ¬ k + 1 ≤ s.size by omega), if_neg (show ¬ k + 1 ≤ s.size by omega), hr]
        exact (le_st (le_r rfl) (leE_i rfl (wk) (leE_i rfl rfl (leE_i rfl rfl (leE_eq rfl (bnd_nf _ (trivial)) (leE_le rfl (leA_snoc (enc := I) (by exact LeA.refl _)).le (bnd_encT nf_I (lt_r rfl)) trivial))))) (leO_room (lt_r rfl) (by (simp; rfl)) trivial) (gl0n ml))
      · refine br_false (decide_eq_false ((by omega : ¬ (0 : Int) < ((w : Nat) : Int)))) ?_
        conv => whnf
        refine ⟨k + 1, (show k + 1 ≤ s.size + 1 by omega), (show s.size + 1 - (k + 1) < s.size + 1 - k by omega), ?_⟩
        have hr : runsL s = out := by
          unfold runsL
          rw [hq]
          exact if_neg c2
        obtain rfl : w = 0 := by omega
        obtain rfl : n = 0 := h5 rfl
        dsimp only
        rw [if_neg (show ¬ k + 1 ≤ s.size by omega), if_neg (show ¬ k + 1 ≤ s.size by omega), if_neg (show ¬ k + 1 ≤ s.size by omega), hr]
        exact (le_st (le_r rfl) (leE_i rfl (wk) (leE_i rfl rfl (leE_i rfl rfl (leE_eq rfl (bnd_nf _ (trivial)) (leE_eq rfl (bnd_encT nf_I (lt_r rfl)) trivial))))) (leO_room (lt_r rfl) rfl trivial) (gl0n ml))
  · refine br_false (decide_eq_false ((by omega : ¬ ((k : Nat) : Int) ≤ (s.size : Nat)))) ?_
    conv => whnf
    dsimp only
    rw [if_neg c, if_neg c, if_neg c]
    refine fin_r (encL I 1 (runsL s)) (nfL_I _ _) rfl ?_
    conv => whnf
    exact leA_drop.le

end Go.Proofs.YtankpibkakfnhaaDoor
namespace Go.Proofs.YtankpibkakfnhaaDoor
open Go Ar
variable {ml : GV}
set_option linter.unusedVariables false
set_option autoImplicit false
set_option maxHeartbeats 1000000
set_option maxRecDepth 10000

abbrev p0 (o : List Int) : List Int × Int × Nat := (o, 0, 0)
theorem rn_no (o : List Int) : ∀ l : List UInt8, (∀ c ∈ l, ¬ isD c) → rnF (p0 o) l = p0 o
  | [], _ => rfl
  | c :: l, h => by
    show rnF (rnS (p0 o) c) l = p0 o
    have e : rnS (p0 o) c = p0 o := by
      unfold rnS
      rw [if_neg (h c List.mem_cons_self)]
      exact if_neg (Nat.lt_irrefl 0)
    rw [e]
    exact rn_no o l (fun x hx => h x (List.mem_cons_of_mem _ hx))
theorem rn_dg (o : List Int) : ∀ (l : List UInt8) (a w : Nat), (∀ c ∈ l, isD c) → vF a l ≤ 9223372036854775807 → w + l.length ≤ 19 → rnF (o, (a : Int), w) l = (o, ((vF a l : Nat) : Int), w + l.length)
  | [], _, _, _, _, _ => rfl
  | c :: l, a, w, hd, hv, hw => by
    rw [List.length_cons] at hw
    rw [vF_cons] at hv
    have h1 := vF_ge l (10 * a + (c.toNat - 48))
    have hc := hd c List.mem_cons_self
    have e : rnS (o, (a : Int), w) c = (o, ((10 * a + (c.toNat - 48) : Nat) : Int), w + 1) := by
      unfold rnS
      rw [if_pos hc]
      dsimp only
      rw [if_pos (show w < 19 by omega), wrap_id (n := 10 * (a : Int)) (by unfold in64; omega), wrap_id (by unfold in64; omega)]
      refine congrArg (fun n => (o, n, w + 1)) ?_
      omega
    show rnF (rnS (o, (a : Int), w) c) l = _
    rw [e, rn_dg o l _ _ (fun x hx => hd x (List.mem_cons_of_mem _ hx)) hv (by omega), vF_cons, List.length_cons]
    rw [show w + 1 + l.length = w + (l.length + 1) by omega]
/-- A number, and then a byte that is no digit. -/
theorem rn_num (o : List Int) {l : List UInt8} (hd : ∀ c ∈ l, isD c) (h1 : 1 ≤ l.length) (h2 : l.length ≤ 19) (hv : vF 0 l ≤ 9223372036854775807) {c : UInt8} (hc : ¬ isD c) (t : List UInt8) :
    rnF (p0 o) (l ++ c :: t) = rnF (p0 (o ++ [((vF 0 l : Nat) : Int)])) t := by
  rw [rnF_app, show p0 o = (o, ((0 : Nat) : Int), 0) from rfl, rn_dg o l 0 0 hd hv (by omega)]
  show rnF (rnS _ c) t = _
  refine congrArg (fun p => rnF p t) ?_
  unfold rnS
  rw [if_neg hc]
  exact if_pos (show 0 < 0 + l.length by omega)
theorem rn_dc (o : List Int) {L u : Nat} (h : u < 10 ^ L) (h1 : 1 ≤ L) (h2 : L ≤ 19) (hu : u ≤ 9223372036854775807) {c : UInt8} (hc : ¬ isD c) (t : List UInt8) :
    rnF (p0 o) (dcL L u ++ c :: t) = rnF (p0 (o ++ [((u : Nat) : Int)])) t := by
  have := rn_num o (l := dcL L u) (fun c hc => dcL_D hc) (by rw [dcL_len]; exact h1) (by rw [dcL_len]; exact h2) (by rw [vF_dcL h]; exact hu) hc t
  rw [vF_dcL h] at this
  exact this
theorem ndg19 {u : Nat} (h : u ≤ 9223372036854775807) : ndg u ≤ 19 := by
  rcases (ndg_is (u := u) (by omega)).ge with e | e
  · omega
  · apply Classical.byContradiction
    intro hn
    have : 10 ^ 19 ≤ 10 ^ (ndg u - 1) := Nat.pow_le_pow_right (by decide) (by omega)
    have h4 : (10 : Nat) ^ 19 = 10000000000000000000 := by decide
    omega
theorem rn_dec (o : List Int) {u : Nat} (hu : u ≤ 9223372036854775807) {c : UInt8} (hc : ¬ isD c) (t : List UInt8) :
    rnF (p0 o) (dcN u ++ c :: t) = rnF (p0 (o ++ [((u : Nat) : Int)])) t :=
  rn_dc o (ndg_is (u := u) (by omega)).lt (ndg_is (u := u) (by omega)).pos (ndg19 hu) hu hc t

theorem isD_of {a : Nat} (h : a < 10) : isD (UInt8.ofNat (48 + a)) := by
  unfold isD
  rw [UInt8.toNat_ofNat']
  omega
theorem rn_fm (o : List Int) {m : Nat} (hm : m ≤ 9223372036854775807) {c : UInt8} (hc : ¬ isD c) (t : List UInt8) :
    rnF (p0 o) (fmC m ++ c :: t) = rnF (p0 (o ++ [((m / 100 : Nat) : Int), ((m % 100 : Nat) : Int)])) t := by
  unfold fmC
  have e : dcL (ndg (m / 100)) (m / 100) ++ [46, UInt8.ofNat (48 + m % 100 / 10), UInt8.ofNat (48 + m % 10)] ++ c :: t = dcN (m / 100) ++ 46 :: ([UInt8.ofNat (48 + m % 100 / 10), UInt8.ofNat (48 + m % 10)] ++ c :: t) := by
    rw [List.append_assoc]
    rfl
  rw [e, rn_dec o (by omega) (by decide)]
  have hv : vF 0 [UInt8.ofNat (48 + m % 100 / 10), UInt8.ofNat (48 + m % 10)] = m % 100 := by
    show 10 * (10 * 0 + ((UInt8.ofNat (48 + m % 100 / 10)).toNat - 48)) + ((UInt8.ofNat (48 + m % 10)).toNat - 48) = _
    rw [UInt8.toNat_ofNat', UInt8.toNat_ofNat']
    omega
  rw [rn_num _ (l := [UInt8.ofNat (48 + m % 100 / 10), UInt8.ofNat (48 + m % 10)]) (fun x hx => ?_) (show 1 ≤ 2 by decide) (show 2 ≤ 19 by decide) (by rw [hv]; omega) hc, hv, List.append_assoc]
  · rfl
  · rcases List.mem_cons.1 hx with rfl | hx
    · exact isD_of (by omega)
    · rw [List.mem_singleton.1 hx]; exact isD_of (by omega)
/-- Bytes that are no digits, ahead. -/
theorem rn_pre (o : List Int) {l : List UInt8} (h : ∀ c ∈ l, ¬ isD c) (t : List UInt8) : rnF (p0 o) (l ++ t) = rnF (p0 o) t := by
  rw [rnF_app, rn_no o l h]

theorem f_no {k : Nat} (h1 : 1 ≤ k) (h2 : k ≤ 9) : (∀ c ∈ bL (fF k), ¬ isD c) ∧ (∀ c ∈ bL (fM k), ¬ isD c) ∧ (∀ c ∈ bL (fL k), ¬ isD c) := by
  rcases k19 h1 h2 with rfl | rfl | rfl | rfl | rfl | rfl | rfl | rfl | rfl <;> exact ⟨by decide +kernel, by decide +kernel, by decide +kernel⟩

/-- A sentence's numbers. -/
def senR (k u m : Nat) : List Int := if fA k then [((m / 100 : Nat) : Int), ((m % 100 : Nat) : Int), (u : Int)] else [(u : Int), ((m / 100 : Nat) : Int), ((m % 100 : Nat) : Int)]
theorem rn_sen (o : List Int) {k : Nat} (h1 : 1 ≤ k) (h2 : k ≤ 9) {u m : Nat} (hu : u ≤ 9223372036854775807) (hm : m ≤ 9223372036854775807) : rnF (p0 o) (senC k u m) = p0 (o ++ senR k u m) := by
  obtain ⟨q, hq⟩ := fM_hd h1 h2
  obtain ⟨c, p, hp, hc⟩ := fL_hd h1 h2
  obtain ⟨n1, n2, n3⟩ := f_no h1 h2
  have m2 : ∀ x ∈ q, ¬ isD x := fun x hx => n2 x (by rw [hq]; exact List.mem_cons_of_mem _ hx)
  have m3 : ∀ x ∈ p, ¬ isD x := fun x hx => n3 x (by rw [hp]; exact List.mem_cons_of_mem _ hx)
  unfold senC senR
  split
  · rw [rn_pre o n1, hq, List.cons_append, rn_fm o hm (by decide), rn_pre _ m2, hp, rn_dec _ hu hc, rn_no _ _ m3, List.append_assoc]
    rfl
  · rw [rn_pre o n1, hq, List.cons_append, rn_dec o hu (by decide), rn_pre _ m2, hp, rn_fm _ hm hc, rn_no _ _ m3, List.append_assoc]
    rfl

theorem runs_let {n : Ntc} (h : mayN n) (hr : rgN n) : ∃ y m d : Nat, DtIs n.day.toNat y m d ∧ runsL (letT n) = [n.id, (y : Int), (m : Int), (d : Int)] ++ senR n.kind.toNat n.loan.natAbs n.amount.natAbs := by
  obtain ⟨y, m, d, hd, ht⟩ := date_ex h.1
  refine ⟨y, m, d, hd, ?_⟩
  have hy := hd.y2 (by unfold mayN at h; omega)
  have hm := hd.m2
  have hd3 := hd.d3
  have h1 := hr.i
  have h2 := hr.l
  have h3 := hr.a
  unfold mayN at h
  unfold in64 at h1 h2 h3
  have e : letC n = nC ++ (dcN n.id.natAbs ++ 32 :: ([111, 102, 32] ++ (dcL 4 y ++ 45 :: (dcL 2 m ++ 45 :: (dcL 2 d ++ 58 :: ([32] ++ senC n.kind.toNat n.loan.natAbs n.amount.natAbs)))))) := by
    unfold letC
    rw [ht, dtB_bL]
    simp only [List.append_assoc, List.cons_append, List.nil_append]
  have hq : runsL (letT n) = rnE (rnF (p0 []) (letC n)) := by
    unfold runsL
    rw [let_bL (by unfold mayN; exact h)]
  rw [hq, e, rn_pre _ (by decide +kernel), rn_dec _ (by omega) (by decide), rn_pre _ (by decide +kernel), rn_dc _ (show y < 10 ^ 4 by omega) (by decide) (by decide) (by omega) (by decide), rn_dc _ (show m < 10 ^ 2 by omega) (by decide) (by decide) (by omega) (by decide),
    rn_dc _ (show d < 10 ^ 2 by omega) (by decide) (by decide) (by omega) (by decide), rn_pre _ (by decide +kernel), rn_sen _ (by omega) (by omega) (by omega) (by omega)]
  show [] ++ _ ++ _ ++ _ ++ _ ++ _ = _
  have e2 : ((n.id.natAbs : Nat) : Int) = n.id := by omega
  rw [e2]
  rfl

end Go.Proofs.YtankpibkakfnhaaDoor
namespace Go.Proofs.YtankpibkakfnhaaDoor
open Go Ar
variable {ml : GV}
set_option linter.unusedVariables false
set_option autoImplicit false
set_option maxHeartbeats 4000000
set_option maxRecDepth 100000

def TrV (n : Ntc) (s : ByteArray) (r : AV) : Prop := ∃ b : Bool, r = B b ∧ (b = true ↔ (mayN n ∧ letT n = s))
theorem tried_x (n : Ntc) (s : ByteArray) (hr : rgN n) : PureX Tryd.prog (gl0 ml) r21_tried [encNtc n, Tx s] (TrV n s) := by
  refine pure_fnX mixed fn_r21_tried nt_r21_tried hc_r21_tried (by simp) (gl0n ml) (by simp [nf]) ?_
  conv => whnf
  conv => whnf
  refine call_x2 (r21_letter_x n hr) (LeL.refl _) ?_
  rintro _ - (h | h)
  · conv => whnf
    cases hq : ((letT n).toList == s.toList)
    · conv => whnf
      refine fin_e ?_
      conv => whnf
      refine ⟨trivial, false, rfl, (fun h => by cases h), ?_⟩
      rintro ⟨-, rfl⟩
      simp at hq
    · conv => whnf
      refine fin_e ?_
      conv => whnf
      refine ⟨trivial, true, rfl, fun _ => ⟨h, bL_inj ?_⟩, fun _ => rfl⟩
      have h6 : (letT n).toList = s.toList := by simpa using hq
      rw [Lib.toList_data, Lib.toList_data] at h6
      exact h6
  · conv => whnf
    refine fin_e ?_
    conv => whnf
    exact ⟨trivial, false, rfl, by simp [h]⟩

theorem seven {l : List Int} (h : l.length = 7) : ∃ a b c d e f g, l = [a, b, c, d, e, f, g] := by
  match l, h with
  | [a, b, c, d, e, f, g], _ => exact ⟨a, b, c, d, e, f, g, rfl⟩

abbrev amI (u c : Int) : Int := IntKind.i64.wrap (IntKind.i64.wrap (u * 100) + c)
theorem amI_m {m : Nat} (h : m ≤ 9223372036854775807) : amI ((m / 100 : Nat) : Int) ((m % 100 : Nat) : Int) = m := by
  unfold amI
  rw [wrap_id (n := _ * 100) (by unfold in64; omega), wrap_id (by unfold in64; omega)]
  omega

theorem r21read_x (s : ByteArray) (hs : s.size ≤ 1048576) : PureX Tryd.prog (gl0 ml) r21_ReadLetter [Tx s] (RdV s) := by
  refine pure_fnX mixed fn_r21_ReadLetter nt_r21_ReadLetter hc_r21_ReadLetter (by simp) (gl0n ml) (by simp [nf]) ?_
  conv => whnf
  conv => whnf
  refine call_x2 (runs_x s hs) (LeL.refl _) ?_
  rintro _ - rfl
  have hrg := runs_rg s
  by_cases c7 : (runsL s).length = 7
  rotate_left
  · conv => whnf
    refine br_true (decide_eq_true ((by omega : ((runsL s).length : Int) ≠ 7))) ?_
    conv => whnf
    refine fin_e ?_
    conv => whnf
    refine ⟨by simp [packA, consL, nf], zN, false, rfl, RdP.no (fun n h1 h2 h3 => ?_)⟩
    obtain ⟨y, m, d, -, hq⟩ := runs_let h1 h2
    rw [h3] at hq
    refine c7 ?_
    rw [hq]
    unfold senR
    split <;> rfl
  have hlet : ∀ n : Ntc, mayN n → rgN n → letT n = s → ∃ y m d : Nat, DtIs n.day.toNat y m d ∧ runsL s = [n.id, (y : Int), (m : Int), (d : Int)] ++ senR n.kind.toNat n.loan.natAbs n.amount.natAbs := fun n h1 h2 h3 => by rw [← h3]; exact runs_let h1 h2
  obtain ⟨r0, r1, r2, r3, r4, r5, r6, hl⟩ := seven c7
  rw [hl] at hrg hlet ⊢
  have hin : ∀ x, x ∈ [r0, r1, r2, r3, r4, r5, r6] → in64 x := hrg
  clear c7 hrg
  conv => whnf
  repeat' first
    | (rw [wpE_one])
    | (refine And.intro (by constructor <;> simp) ?_; (conv => whnf))
    | fail
  refine call_x2 (r2num_x r1 r2 r3) (LeL.refl _) ?_
  rintro _ - rfl
  obtain ⟨day, b, hnv, hday⟩ := numV_rg r1 r2 r3
  rw [hnv]
  have hdt : ∀ n : Ntc, mayN n → rgN n → letT n = s → day = n.day ∧ b = true ∧ [r0, r4, r5, r6] = n.id :: senR n.kind.toNat n.loan.natAbs n.amount.natAbs := fun n h1 h2 h3 => by
    obtain ⟨y, m, d, hd, hq⟩ := hlet n h1 h2 h3
    have e1 := num_dt hd h1.1
    have hq' : [r0, r1, r2, r3, r4, r5, r6] = n.id :: (y : Int) :: (m : Int) :: (d : Int) :: senR n.kind.toNat n.loan.natAbs n.amount.natAbs := hq
    injection hq' with a0 hq'
    injection hq' with a1 hq'
    injection hq' with a2 hq'
    injection hq' with a3 hq'
    rw [← a1, ← a2, ← a3, hnv] at e1
    have e2 := tup_inj e1
    exact ⟨e2.1, e2.2, by rw [a0, hq']⟩
  cases b
  · conv => whnf
    refine fin_e ?_
    conv => whnf
    exact ⟨by simp [packA, consL, nf], zN, false, rfl, RdP.no (fun n h1 h2 h3 => by have := (hdt n h1 h2 h3).2.1; cases this)⟩
  conv => whnf
  refine loop_at mixed (fun (k : Nat) => ([(7, I k), (4, encL I 1 [r0, r1, r2, r3, r4, r5, r6]), (5, I day), (0, Tx s), (2, .ptr 0 []), (3, B false)], [(0, .box (encNtc zN))], 1)) (fun k => 1 ≤ k ∧ k ≤ 10 ∧ ∀ n : Ntc, mayN n → rgN n → letT n = s → (k : Int) ≤ n.kind) (fun k => 10 - k) 1 ⟨Nat.le_refl _, by decide, fun n h1 _ _ => by unfold mayN at h1; exact h1.2.2.2.2.1⟩ (le_st (le_r rfl) (leE_i rfl rfl (leE_eq rfl (bnd_nf _ (nfL_I _ _)) (leE_i rfl rfl (leE_eq rfl (bnd_nf _ (trivial)) (leE_ptr rfl rfl (leE_eq rfl (bnd_nf _ (trivial)) trivial)))))) (leO_box (lt_r rfl) rfl (LeA.refl _) (bnd_nf _ ((by simp [encNtc, nf]))) trivial) (gl0n ml)) ?_
  rintro k ⟨hk1, hk2, hk3⟩
  conv => whnf
  by_cases c9 : k ≤ 9
  rotate_left
  · refine br_false (decide_eq_false ((by omega : ¬ ((k : Nat) : Int) ≤ 9))) ?_
    conv => whnf
    refine fin_e ?_
    conv => whnf
    exact ⟨by simp [packA, consL, nf], zN, false, rfl, RdP.no (fun n h1 h2 h3 => by have := hk3 n h1 h2 h3; unfold mayN at h1; omega)⟩
  refine br_true (decide_eq_true ((by omega : ((k : Nat) : Int) ≤ 9))) ?_
  conv => whnf
  repeat' first
    | (rw [wpE_one])
    | (refine And.intro (by constructor <;> simp) ?_; (conv => whnf))
    | fail
  have in0 := hin r0 (by simp)
  have in4 := hin r4 (by simp)
  have in6 := hin r6 (by simp)
  refine call_x2 (tried_x ⟨r0, r4, k, day, amI r5 r6, false⟩ s ⟨in0, in4, wrap_in _⟩) (LeL.refl _) ?_
  rintro _ - ⟨b, rfl, hb⟩
  cases b
  rotate_left
  · conv => whnf
    refine fin_e ?_
    conv => whnf
    exact ⟨by simp [packA, consL, nf], ⟨r0, r4, k, day, amI r5 r6, false⟩, true, rfl, RdP.yes (hb.1 rfl).1 ⟨in0, in4, wrap_in _⟩ rfl (hb.1 rfl).2⟩
  conv => whnf
  refine call_x2 (tried_x ⟨r0, r6, k, day, amI r4 r5, false⟩ s ⟨in0, in6, wrap_in _⟩) (LeL.refl _) ?_
  rintro _ - ⟨b, rfl, hb2⟩
  cases b
  rotate_left
  · conv => whnf
    refine fin_e ?_
    conv => whnf
    exact ⟨by simp [packA, consL, nf], ⟨r0, r6, k, day, amI r4 r5, false⟩, true, rfl, RdP.yes (hb2.1 rfl).1 ⟨in0, in6, wrap_in _⟩ rfl (hb2.1 rfl).2⟩
  conv => whnf
  refine ⟨k + 1, ⟨by show 1 ≤ k + 1; omega, by show k + 1 ≤ 10; omega, fun n h1 h2 h3 => ?_⟩, (by show 10 - (k + 1) < 10 - k; omega), (le_st (le_r rfl) (leE_i rfl ((by rw [wrap_id (by unfold in64; omega)]; rfl)) (leE_eq rfl (bnd_nf _ (nfL_I _ _)) (leE_i rfl rfl (leE_eq rfl (bnd_nf _ (trivial)) (leE_ptr rfl rfl (leE_eq rfl (bnd_nf _ (trivial)) trivial)))))) (leO_box (lt_r rfl) rfl (LeA.refl _) (bnd_nf _ ((by simp [encNtc, nf]))) trivial) (gl0n ml))⟩
  have hge := hk3 n h1 h2 h3
  by_cases ck : n.kind = k
  rotate_left
  · show ((k + 1 : Nat) : Int) ≤ n.kind
    omega
  exfalso
  obtain ⟨e1, -, e2⟩ := hdt n h1 h2 h3
  have hsame : letT ⟨n.id, n.loan, n.kind, n.day, n.amount, false⟩ = s := by rw [← h3]; rfl
  have hmay : mayN ⟨n.id, n.loan, n.kind, n.day, n.amount, false⟩ := h1
  have h2' := h2.l
  have h3' := h2.a
  unfold in64 at h2' h3'
  unfold mayN at h1
  have a1 : ((n.loan.natAbs : Nat) : Int) = n.loan := by omega
  have a2 := amI_m (m := n.amount.natAbs) (by omega)
  have a3 : ((n.amount.natAbs : Nat) : Int) = n.amount := by omega
  unfold senR at e2
  split at e2
  · injection e2 with f0 e2
    injection e2 with f1 e2
    injection e2 with f2 e2
    injection e2 with f3 _
    have : false = true := hb2.2 (by rw [f0, f3, f1, f2, a1, a2, a3, e1, ← ck]; exact ⟨hmay, hsame⟩)
    cases this
  · injection e2 with f0 e2
    injection e2 with f1 e2
    injection e2 with f2 e2
    injection e2 with f3 _
    have : false = true := hb.2 (by rw [f0, f3, f1, f2, a1, a2, a3, e1, ← ck]; exact ⟨hmay, hsame⟩)
    cases this

theorem LetV.fn {n : Ntc} {r r' : AV} (h : LetV n r) (h' : LetV n r') : r = r' := by
  cases h with
  | ok h => cases h' with
    | ok _ => rfl
    | no h' => exact absurd h h'
  | no h => cases h' with
    | ok h' => exact absurd h' h
    | no _ => rfl
theorem LetV.tup {n : Ntc} {r : AV} (h : LetV n r) : ∃ (t : ByteArray) (b : Bool), r = tup2 (T t) (B b) := by
  cases h with
  | ok _ => exact ⟨_, _, rfl⟩
  | no _ => exact ⟨_, _, rfl⟩

theorem law16_x (n : Ntc) (s : ByteArray) (hr : rgN n) (hs : s.size ≤ 1048576) : PureX Tryd.prog (gl0 ml) l21_ReportLetters [encNtc n, Tx s] (fun r => r = B true) := by
  refine pure_fnX mixed fn_l21_ReportLetters nt_l21_ReportLetters hc_l21_ReportLetters (by simp) (gl0n ml) (by simp [nf]) ?_
  conv => whnf
  conv => whnf
  refine call_x2 (letter_x n hr) (LeL.refl _) ?_
  intro r1 _ h1
  have key := fun r (h : LetV n r) => h.fn h1
  obtain ⟨t, b, rfl⟩ := h1.tup
  clear h1
  conv => whnf
  refine call_x2 (r21_letter_x n hr) (LeL.refl _) ?_
  intro r2 _ h2
  obtain rfl := key r2 h2
  clear key h2
  conv => whnf
  have hq : (t.toList == t.toList) = true := by simp
  rw [hq]
  cases b <;> (conv => whnf)
  all_goals
    refine call_x2 (read_x s hs) (LeL.refl _) ?_
    rintro _ - ⟨m, c, rfl, hm⟩
    conv => whnf
    refine call_x2 (r21read_x s hs) (LeL.refl _) ?_
    rintro _ - ⟨m', c', rfl, hm'⟩
    obtain ⟨rfl, rfl⟩ := hm.uniq hm'
    clear hm hm'
    conv => whnf
    refine br_true (congrArg (eqSn false) (eqS_refl _ _)) ?_
    cases c <;> (conv => whnf) <;> (refine fin_e ?_; (conv => whnf); exact ⟨trivial, rfl⟩)

end Go.Proofs.YtankpibkakfnhaaDoor
