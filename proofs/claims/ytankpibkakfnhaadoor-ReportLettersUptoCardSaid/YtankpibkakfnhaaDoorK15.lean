/- A notice as a letter, by both sides: the walks. No condition. -/
import Derived.Test.YtankpibkakfnhaaDoorK14
import Derived.Lib.IndexMore
set_option linter.all false
namespace Go.Proofs.YtankpibkakfnhaaDoor
open Go Ar
variable {ml : GV}
set_option linter.unusedVariables false
set_option autoImplicit false
set_option maxHeartbeats 4000000
set_option maxRecDepth 100000

abbrev vDay (d : Int) : Prop := 1 ≤ d ∧ d ≤ 3652059
open Classical in
/-- A day's text. -/
noncomputable def dateT (day : Int) : ByteArray := if h : vDay day ∧ ∃ t : Nat × Nat × Nat, DtIs day.toNat t.1 t.2.1 t.2.2 then dtB h.2.choose.1 h.2.choose.2.1 h.2.choose.2.2 else ⟨#[]⟩
theorem FdV.is {day : Int} {r : AV} (h : FdV day r) : r = tup2 (T (dateT day)) (B (decide (vDay day))) := by
  rcases h with ⟨y, m, d, h, h1, h2⟩ | h
  · have hx : vDay day ∧ ∃ t : Nat × Nat × Nat, DtIs day.toNat t.1 t.2.1 t.2.2 := ⟨⟨h1, h2⟩, (y, m, d), h⟩
    have e := h.uniq hx.2.choose_spec
    unfold dateT
    rw [dif_pos hx, decide_eq_true hx.1, ← e.1, ← e.2.1, ← e.2.2]
  · unfold dateT
    rw [dif_neg (fun x => h x.1), decide_eq_false h]
theorem dtB_size (y m d : Nat) : (dtB y m d).size = 10 := by
  unfold dtB
  rw [ByteArray.size_append, ByteArray.size_append, ByteArray.size_append, ByteArray.size_append, decB_size, decB_size, decB_size]
  rfl
theorem dateT_size (day : Int) : (dateT day).size ≤ 10 := by
  unfold dateT
  split
  · rw [dtB_size]; exact Nat.le_refl _
  · exact Nat.zero_le _


/-- A notice that may be told. -/
def mayN (n : Ntc) : Prop := vDay n.day ∧ 1 ≤ n.id ∧ 1 ≤ n.loan ∧ 0 ≤ n.amount ∧ 1 ≤ n.kind ∧ n.kind ≤ 9
structure rgN (n : Ntc) : Prop where
  i : in64 n.id
  l : in64 n.loan
  a : in64 n.amount
noncomputable def letT (n : Ntc) : ByteArray := ⟨#[78, 111, 116, 105, 99, 101, 32]⟩ ++ itoaT n.id ++ ⟨#[32, 111, 102, 32]⟩ ++ dateT n.day ++ ⟨#[58, 32]⟩ ++ senT n.kind.toNat (itoaT n.loan) (fmtT n.amount)
inductive LetV (n : Ntc) : AV → Prop
  | ok (h : mayN n) : LetV n (tup2 (T (letT n)) (B true))
  | no (h : ¬ mayN n) : LetV n (tup2 (T ⟨#[]⟩) (B false))

theorem itoa_size {x : Int} (h : in64 x) : (itoaT x).size ≤ 21 := by
  unfold in64 at h
  have := ndg_le (u := x.natAbs) (by omega)
  unfold itoaT
  split
  · rw [strOfNums_size, List.length_cons, List.length_map, List.length_range]; omega
  · rw [decT_size]; omega
theorem fmt_size {x : Int} (h : in64 x) : (fmtT x).size ≤ 24 := by
  unfold fmtT
  rw [strOfNums_size]
  unfold fmtL fmtN
  have := ndg_le (u := x.natAbs / 100) (by unfold in64 at h; omega)
  rw [List.length_append, List.length_append, decL_len]
  split <;> simp <;> omega

theorem letter_x (n : Ntc) (hr : rgN n) : PureX Tryd.prog (gl0 ml) report_Letter [encNtc n] (LetV n) := by
  refine pure_fnX mixed fn_report_Letter nt_report_Letter hc_report_Letter (by simp) (gl0n ml) (by simp [nf]) ?_
  conv => whnf
  refine call_x2 (calFd_x n.day) (LeL.refl _) ?_
  rintro _ - hfd
  rw [hfd.is]
  by_cases cd : vDay n.day
  rotate_left
  · rw [decide_eq_false cd]
    conv => whnf
    refine fin_e ?_
    conv => whnf
    exact ⟨by simp [packA, consL, nf], .no (fun h => cd h.1)⟩
  rw [decide_eq_true cd]
  conv => whnf
  by_cases c0 : n.id < 1
  · refine br_true (decide_eq_true (c0)) ?_
    conv => whnf
    refine fin_e ?_
    conv => whnf
    exact ⟨by simp [packA, consL, nf], .no (fun h => by unfold mayN at h; omega)⟩
  · refine br_false (decide_eq_false (c0)) ?_
    conv => whnf
    by_cases c1 : n.loan < 1
    · refine br_true (decide_eq_true (c1)) ?_
      conv => whnf
      refine fin_e ?_
      conv => whnf
      exact ⟨by simp [packA, consL, nf], .no (fun h => by unfold mayN at h; omega)⟩
    · refine br_false (decide_eq_false (c1)) ?_
      conv => whnf
      by_cases c2 : n.amount < 0
      · refine br_true (decide_eq_true (c2)) ?_
        conv => whnf
        refine fin_e ?_
        conv => whnf
        exact ⟨by simp [packA, consL, nf], .no (fun h => by unfold mayN at h; omega)⟩
      · refine br_false (decide_eq_false (c2)) ?_
        conv => whnf
        by_cases c3 : n.kind < 1
        · refine br_true (decide_eq_true (c3)) ?_
          conv => whnf
          refine fin_e ?_
          conv => whnf
          exact ⟨by simp [packA, consL, nf], .no (fun h => by unfold mayN at h; omega)⟩
        · refine br_false (decide_eq_false (c3)) ?_
          conv => whnf
          by_cases c4 : 9 < n.kind
          · refine br_true (decide_eq_true (c4)) ?_
            conv => whnf
            refine fin_e ?_
            conv => whnf
            exact ⟨by simp [packA, consL, nf], .no (fun h => by unfold mayN at h; omega)⟩
          · refine br_false (decide_eq_false (c4)) ?_
            conv => whnf
            obtain ⟨k, hk⟩ : ∃ k : Nat, n.kind = k := ⟨n.kind.toNat, by omega⟩
            have hmay : mayN n := by unfold mayN; omega
            have s1 := itoa_size hr.i
            have s2 := itoa_size hr.l
            have s3 := fmt_size hr.a
            have s4 := dateT_size n.day
            have s5 := f_size (k := k) (by omega) (by omega)
            have hT : letT n = ⟨#[78, 111, 116, 105, 99, 101, 32]⟩ ++ itoaT n.id ++ ⟨#[32, 111, 102, 32]⟩ ++ dateT n.day ++ ⟨#[58, 32]⟩ ++ senT k (itoaT n.loan) (fmtT n.amount) := by unfold letT; rw [hk]; rfl
            rw [hk]
            refine call_x2 (sent_x k (by omega) (by omega)) (LeL.refl _) ?_
            rintro _ - rfl
            conv => whnf
            refine call_x2 (itoaS_x n.loan hr.l) (LeL.refl _) ?_
            rintro _ - rfl
            conv => whnf
            refine call_x2 (fmt_x n.amount hr.a) (LeL.refl _) ?_
            rintro _ - rfl
            conv => whnf
            have key : ∀ X : ByteArray, X = letT n → LetV n (tup2 (T X) (B true)) := fun X hX => by rw [hX]; exact .ok hmay
            by_cases hA : fA k = true
            · refine br_true hA ?_
              conv => whnf
              refine call_x2 (itoaS_x n.id hr.i) (LeL.refl _) ?_
              rintro _ - rfl
              conv => whnf
              repeat' first
                | (rw [wpE_one])
                | (refine And.intro (by simp only [ByteArray.size_append, szc, List.size_toArray, List.length_cons, List.length_nil]; omega) ?_; (conv => whnf))
                | fail
              refine fin_e ?_
              conv => whnf
              refine ⟨by simp [packA, consL, nf], ?_⟩
              refine key _ ?_
              rw [hT, senT, if_pos hA]
              simp only [ByteArray.append_assoc]
            · refine br_false (by simpa using hA) ?_
              conv => whnf
              refine call_x2 (itoaS_x n.id hr.i) (LeL.refl _) ?_
              rintro _ - rfl
              conv => whnf
              repeat' first
                | (rw [wpE_one])
                | (refine And.intro (by simp only [ByteArray.size_append, szc, List.size_toArray, List.length_cons, List.length_nil]; omega) ?_; (conv => whnf))
                | fail
              refine fin_e ?_
              conv => whnf
              refine ⟨by simp [packA, consL, nf], ?_⟩
              refine key _ ?_
              rw [hT, senT, if_neg hA]
              simp only [ByteArray.append_assoc]

theorem r21_letter_x (n : Ntc) (hr : rgN n) : PureX Tryd.prog (gl0 ml) r21_Letter [encNtc n] (LetV n) := by
  refine pure_fnX mixed fn_r21_Letter nt_r21_Letter hc_r21_Letter (by simp) (gl0n ml) (by simp [nf]) ?_
  conv => whnf
  refine call_x2 (r2Fd_x n.day) (LeL.refl _) ?_
  rintro _ - hfd
  rw [hfd.is]
  by_cases cd : vDay n.day
  rotate_left
  · rw [decide_eq_false cd]
    conv => whnf
    refine fin_e ?_
    conv => whnf
    exact ⟨by simp [packA, consL, nf], .no (fun h => cd h.1)⟩
  rw [decide_eq_true cd]
  conv => whnf
  by_cases c0 : n.id < 1
  · refine br_true (decide_eq_true (c0)) ?_
    conv => whnf
    refine fin_e ?_
    conv => whnf
    exact ⟨by simp [packA, consL, nf], .no (fun h => by unfold mayN at h; omega)⟩
  · refine br_false (decide_eq_false (c0)) ?_
    conv => whnf
    by_cases c1 : n.loan < 1
    · refine br_true (decide_eq_true (c1)) ?_
      conv => whnf
      refine fin_e ?_
      conv => whnf
      exact ⟨by simp [packA, consL, nf], .no (fun h => by unfold mayN at h; omega)⟩
    · refine br_false (decide_eq_false (c1)) ?_
      conv => whnf
      by_cases c2 : n.kind < 1
      · refine br_true (decide_eq_true (c2)) ?_
        conv => whnf
        refine fin_e ?_
        conv => whnf
        exact ⟨by simp [packA, consL, nf], .no (fun h => by unfold mayN at h; omega)⟩
      · refine br_false (decide_eq_false (c2)) ?_
        conv => whnf
        by_cases c3 : 9 < n.kind
        · refine br_true (decide_eq_true (c3)) ?_
          conv => whnf
          refine fin_e ?_
          conv => whnf
          exact ⟨by simp [packA, consL, nf], .no (fun h => by unfold mayN at h; omega)⟩
        · refine br_false (decide_eq_false (c3)) ?_
          conv => whnf
          by_cases c4 : n.amount < 0
          · refine br_true (decide_eq_true (c4)) ?_
            conv => whnf
            refine fin_e ?_
            conv => whnf
            exact ⟨by simp [packA, consL, nf], .no (fun h => by unfold mayN at h; omega)⟩
          · refine br_false (decide_eq_false (c4)) ?_
            conv => whnf
            obtain ⟨k, hk⟩ : ∃ k : Nat, n.kind = k := ⟨n.kind.toNat, by omega⟩
            have hmay : mayN n := by unfold mayN; omega
            have s1 := itoa_size hr.i
            have s2 := itoa_size hr.l
            have s3 := fmt_size hr.a
            have s4 := dateT_size n.day
            have s5 := f_size (k := k) (by omega) (by omega)
            have hT : letT n = ⟨#[78, 111, 116, 105, 99, 101, 32]⟩ ++ itoaT n.id ++ ⟨#[32, 111, 102, 32]⟩ ++ dateT n.day ++ ⟨#[58, 32]⟩ ++ senT k (itoaT n.loan) (fmtT n.amount) := by unfold letT; rw [hk]; rfl
            have s6 : (senT k (itoaT n.loan) (fmtT n.amount)).size ≤ 200 := by
              unfold senT
              split <;> simp only [ByteArray.size_append] <;> omega
            rw [hk]
            refine call_x2 (itoaS_x n.id hr.i) (LeL.refl _) ?_
            rintro _ - rfl
            conv => whnf
            repeat' first
              | (rw [wpE_one])
              | (refine And.intro (by simp only [ByteArray.size_append, szc, List.size_toArray, List.length_cons, List.length_nil]; omega) ?_; (conv => whnf))
              | fail
            refine call_x2 (itoaS_x n.loan hr.l) (LeL.refl _) ?_
            rintro _ - rfl
            conv => whnf
            refine call_x2 (r1Fmt_x n.amount hr.a) (LeL.refl _) ?_
            rintro _ - rfl
            conv => whnf
            refine call_x2 (r21_sent_x k (itoaT n.loan) (fmtT n.amount) (by omega) (by omega) (by omega) (by omega)) (LeL.refl _) ?_
            rintro _ - rfl
            conv => whnf
            repeat' first
              | (rw [wpE_one])
              | (refine And.intro (by simp only [ByteArray.size_append, szc, List.size_toArray, List.length_cons, List.length_nil]; omega) ?_; (conv => whnf))
              | fail
            refine fin_e ?_
            conv => whnf
            rw [← hT]
            exact ⟨by simp [packA, consL, nf], .ok hmay⟩

end Go.Proofs.YtankpibkakfnhaaDoor
namespace Go.Proofs.YtankpibkakfnhaaDoor
open Go Ar
variable {ml : GV}
set_option linter.unusedVariables false
set_option autoImplicit false
set_option maxHeartbeats 1000000
set_option maxRecDepth 10000

theorem bL_app (a b : ByteArray) : bL (a ++ b) = bL a ++ bL b := by
  show (a ++ b).data.toList = _
  simp
theorem bL_inj {a b : ByteArray} (h : bL a = bL b) : a = b := ByteArray.ext (Array.toList_inj.mp h)
theorem bL_bT (l : List UInt8) : bL (bT l) = l := rfl
theorem bT_bL (s : ByteArray) : bT (bL s) = s := bL_inj rfl

/-! Library words on lists. -/
theorem isPre_self (p s : List UInt8) : List.isPrefixOf p (p ++ s) = true := by
  rw [List.isPrefixOf_iff_prefix]
  exact List.prefix_append p s
theorem ix_at (c : UInt8) (q post : List UInt8) : ∀ pre : List UInt8, c ∉ pre → Lib.index (pre ++ (c :: q ++ post)) (c :: q) = (pre.length : Int)
  | [], _ => by
    show Lib.index (c :: (q ++ post)) (c :: q) = 0
    unfold Lib.index
    exact if_pos (isPre_self (c :: q) post)
  | b :: pre, h => by
    have h1 : ¬ c = b := fun e => h (e ▸ List.mem_cons_self)
    have h2 := ix_at c q post pre (fun hm => h (List.mem_cons_of_mem _ hm))
    show Lib.index (b :: (pre ++ (c :: q ++ post))) (c :: q) = _
    unfold Lib.index
    have h3 : List.isPrefixOf (c :: q) (b :: (pre ++ (c :: q ++ post))) = false := by
      unfold List.isPrefixOf
      rw [beq_eq_false_iff_ne.2 h1]
      rfl
    rw [if_neg (by rw [h3]; decide), h2, if_neg (by simp)]
    rfl
theorem cut_at {c : UInt8} {q pre post : List UInt8} (h : c ∉ pre) : Lib.cut (pre ++ (c :: q ++ post)) (c :: q) = (pre, post, true) := by
  unfold Lib.cut
  rw [ix_at c q post pre h, if_pos (by omega)]
  have e : (((pre.length : Nat) : Int)).toNat = pre.length := by omega
  rw [e, List.take_left, ← List.append_assoc, show pre.length + (c :: q).length = (pre ++ c :: q).length by rw [List.length_append], List.drop_left]
theorem hasP_at (p s : List UInt8) : Lib.hasPrefix (p ++ s) p = true := isPre_self p s
theorem trimP_at (p s : List UInt8) : Lib.trimPrefix (p ++ s) p = s := by
  unfold Lib.trimPrefix
  rw [hasP_at, if_pos rfl, List.drop_left]
theorem hasS_at (s p : List UInt8) : Lib.hasSuffix (s ++ p) p = true := by
  unfold Lib.hasSuffix
  rw [List.isSuffixOf_iff_suffix]
  exact List.suffix_append s p
theorem trimS_at (s p : List UInt8) : Lib.trimSuffix (s ++ p) p = s := by
  unfold Lib.trimSuffix
  rw [hasS_at, if_pos rfl, List.length_append, Nat.add_sub_cancel, List.take_left]

/-! Digits. -/
def isD (c : UInt8) : Prop := 48 ≤ c.toNat ∧ c.toNat ≤ 57
instance (c : UInt8) : Decidable (isD c) := inferInstanceAs (Decidable (_ ∧ _))
def dC (L u i : Nat) : UInt8 := UInt8.ofNat (48 + dgt L u i)
theorem dC_n (L u i : Nat) : (dC L u i).toNat = 48 + dgt L u i := by
  have := dgt_lt L u i
  unfold dC
  rw [UInt8.toNat_ofNat']
  omega
theorem dC_D (L u i : Nat) : isD (dC L u i) := by
  have := dgt_lt L u i
  unfold isD
  rw [dC_n]
  omega
def dcL (L u : Nat) : List UInt8 := (List.range L).map (dC L u)
theorem dcL_len (L u : Nat) : (dcL L u).length = L := by unfold dcL; rw [List.length_map, List.length_range]
theorem dcL_D {L u : Nat} {c : UInt8} (h : c ∈ dcL L u) : isD c := by
  obtain ⟨i, -, rfl⟩ := List.mem_map.1 h
  exact dC_D L u i
theorem dcL_no {L u : Nat} {c : UInt8} (h : ¬ isD c) : c ∉ dcL L u := fun hm => h (dcL_D hm)
theorem bL_decB (L u : Nat) : bL (decB L u) = dcL L u := by
  show ((List.range L).map fun i => ((48 + dgt L u i : Nat) : Int)).map (fun n => UInt8.ofNat n.toNat) = _
  rw [List.map_map]
  rfl

/-- What digits come to. -/
def vF (acc : Nat) (l : List UInt8) : Nat := l.foldl (fun a c => 10 * a + (c.toNat - 48)) acc
theorem vF_cons (acc : Nat) (c : UInt8) (l : List UInt8) : vF acc (c :: l) = vF (10 * acc + (c.toNat - 48)) l := List.foldl_cons ..
theorem vF_app (acc : Nat) (a b : List UInt8) : vF acc (a ++ b) = vF (vF acc a) b := List.foldl_append
theorem vF_ge : ∀ (l : List UInt8) (acc : Nat), acc ≤ vF acc l
  | [], _ => Nat.le_refl _
  | c :: l, acc => by
    rw [vF_cons]
    have := vF_ge l (10 * acc + (c.toNat - 48))
    omega
theorem vF_range {L u : Nat} (h : u < 10 ^ L) : ∀ k, k ≤ L → vF 0 ((List.range k).map (dC L u)) = u / 10 ^ (L - k)
  | 0, _ => by
    show 0 = _
    rw [Nat.sub_zero, Nat.div_eq_of_lt h]
  | k + 1, hk => by
    rw [List.range_succ, List.map_append, vF_app, vF_range h k (by omega)]
    show 10 * (u / 10 ^ (L - k)) + ((dC L u k).toNat - 48) = _
    rw [dC_n, Nat.add_sub_cancel_left]
    unfold dgt
    rw [show L - 1 - k = L - (k + 1) by omega, show L - k = (L - (k + 1)) + 1 by omega, Nat.pow_succ, ← Nat.div_div_eq_div_mul]
    omega
theorem vF_dcL {L u : Nat} (h : u < 10 ^ L) : vF 0 (dcL L u) = u := by
  have := vF_range h L (Nat.le_refl _)
  rw [Nat.sub_self, Nat.pow_zero, Nat.div_one] at this
  exact this
theorem vF_dec {u : Nat} (h : u < 18446744073709551616) : vF 0 (dcL (ndg u) u) = u := vF_dcL (ndg_is h).lt

theorem pu10 : ∀ (l : List UInt8) (acc : Nat), (∀ c ∈ l, isD c) → vF acc l < 18446744073709551616 → Lib.parseUint10 acc l = .ok (vF acc l)
  | [], acc, _, _ => rfl
  | c :: l, acc, hd, hv => by
    have h1 := hd c List.mem_cons_self
    unfold isD at h1
    rw [vF_cons] at hv ⊢
    have h2 := vF_ge l (10 * acc + (c.toNat - 48))
    have e1 : ¬ 1844674407370955162 ≤ acc := by omega
    have e2 : ¬ 18446744073709551616 ≤ acc * 10 + (c.toNat - 48) := by omega
    have e3 : acc * 10 + (c.toNat - 48) = 10 * acc + (c.toNat - 48) := by omega
    rw [e3] at e2
    simp only [Lib.parseUint10, if_pos h1, if_neg e1, e3, if_neg e2]
    exact pu10 l _ (fun x hx => hd x (List.mem_cons_of_mem _ hx)) hv

theorem atoi_dec {u : Nat} (h : u ≤ 9223372036854775807) : Lib.atoiAll (dcL (ndg u) u) = .ok u := by
  have hp := pu10 (dcL (ndg u) u) 0 (fun c hc => dcL_D hc) (by rw [vF_dec (by omega)]; omega)
  rw [vF_dec (by omega)] at hp
  have hl := dcL_len (ndg u) u
  have hn := (ndg_is (u := u) (by omega)).pos
  have hD : ∀ c ∈ dcL (ndg u) u, isD c := fun c hc => dcL_D hc
  generalize dcL (ndg u) u = l at hp hl hD ⊢
  match l, hl, hD with
  | [], hl, _ => simp at hl; omega
  | c :: r, hl, hD =>
    have h1 := hD c List.mem_cons_self
    unfold isD at h1
    rw [Lib.atoiAll_plain c r (by omega) (by omega)]
    unfold Lib.parseMag
    rw [if_neg (by simp), hp]
    unfold Lib.signless
    simp
    omega

/-! A number's and an amount's bytes. -/
theorem itoa_bL {x : Int} (h : 0 ≤ x) : bL (itoaT x) = dcL (ndg x.natAbs) x.natAbs := by
  unfold itoaT
  rw [if_neg (by omega)]
  exact bL_decB _ _
def fmC (m : Nat) : List UInt8 := dcL (ndg (m / 100)) (m / 100) ++ [46, UInt8.ofNat (48 + m % 100 / 10), UInt8.ofNat (48 + m % 10)]
theorem fmt_bL {x : Int} (h : 0 ≤ x) : bL (fmtT x) = fmC x.natAbs := by
  unfold fmtT fmtL fmtN fmC
  rw [if_neg (by omega), List.nil_append]
  show (decL (x.natAbs / 100) ++ [46, ((48 + x.natAbs % 100 / 10 : Nat) : Int), ((48 + x.natAbs % 10 : Nat) : Int)]).map (fun n => UInt8.ofNat n.toNat) = _
  rw [List.map_append]
  have e : (decL (x.natAbs / 100)).map (fun n => UInt8.ofNat n.toNat) = dcL (ndg (x.natAbs / 100)) (x.natAbs / 100) := bL_decB _ _
  rw [e]
  rfl
theorem ofN_inj {a b : Nat} (ha : a < 256) (hb : b < 256) (h : UInt8.ofNat a = UInt8.ofNat b) : a = b := by
  have := congrArg UInt8.toNat h
  rw [UInt8.toNat_ofNat', UInt8.toNat_ofNat'] at this
  omega

/-- Digits, and then a byte that is none. -/
theorem span_eq {c c' : UInt8} {r r' : List UInt8} (hc : ¬ isD c) (hc' : ¬ isD c') : ∀ (a b : List UInt8), (∀ x ∈ a, isD x) → (∀ x ∈ b, isD x) → a ++ c :: r = b ++ c' :: r' → a = b ∧ c :: r = c' :: r'
  | [], [], _, _, h => ⟨rfl, h⟩
  | [], y :: b, _, hb, h => by
    injection h with h1 _
    exact absurd (h1 ▸ hb y List.mem_cons_self) hc
  | x :: a, [], ha, _, h => by
    injection h with h1 _
    exact absurd (h1 ▸ ha x List.mem_cons_self) hc'
  | x :: a, y :: b, ha, hb, h => by
    injection h with h1 h2
    obtain ⟨h3, h4⟩ := span_eq hc hc' a b (fun z hz => ha z (List.mem_cons_of_mem _ hz)) (fun z hz => hb z (List.mem_cons_of_mem _ hz)) h2
    exact ⟨by rw [h1, h3], h4⟩

theorem dec_span {u u' : Nat} (hu : u < 18446744073709551616) (hu' : u' < 18446744073709551616) {c c' : UInt8} {r r' : List UInt8} (hc : ¬ isD c) (hc' : ¬ isD c') (h : dcL (ndg u) u ++ c :: r = dcL (ndg u') u' ++ c' :: r') : u = u' ∧ c :: r = c' :: r' := by
  obtain ⟨h1, h2⟩ := span_eq hc hc' _ _ (fun x hx => dcL_D hx) (fun x hx => dcL_D hx) h
  refine ⟨?_, h2⟩
  have := congrArg (vF 0) h1
  rw [vF_dec hu, vF_dec hu'] at this
  exact this
theorem fm_span {m m' : Nat} (hu : m < 18446744073709551616) (hu' : m' < 18446744073709551616) {r r' : List UInt8} (h : fmC m ++ r = fmC m' ++ r') : m = m' ∧ r = r' := by
  unfold fmC at h
  rw [List.append_assoc, List.append_assoc] at h
  obtain ⟨h1, h2⟩ := dec_span (u := m / 100) (u' := m' / 100) (by omega) (by omega) (c := 46) (c' := 46) (by decide) (by decide) h
  have h2' : (46 : UInt8) :: UInt8.ofNat (48 + m % 100 / 10) :: UInt8.ofNat (48 + m % 10) :: r = 46 :: UInt8.ofNat (48 + m' % 100 / 10) :: UInt8.ofNat (48 + m' % 10) :: r' := h2
  injection h2' with _ h3
  injection h3 with h4 h5
  injection h5 with h6 h7
  have h8 := ofN_inj (by omega) (by omega) h4
  have h9 := ofN_inj (by omega) (by omega) h6
  exact ⟨by omega, h7⟩

end Go.Proofs.YtankpibkakfnhaaDoor
namespace Go.Proofs.YtankpibkakfnhaaDoor
open Go Ar
variable {ml : GV}
set_option linter.unusedVariables false
set_option autoImplicit false
set_option maxHeartbeats 1000000
set_option maxRecDepth 10000

abbrev dcN (u : Nat) : List UInt8 := dcL (ndg u) u
/-- A sentence's bytes. -/
def senC (k u m : Nat) : List UInt8 := if fA k then bL (fF k) ++ (fmC m ++ (bL (fM k) ++ (dcN u ++ bL (fL k)))) else bL (fF k) ++ (dcN u ++ (bL (fM k) ++ (fmC m ++ bL (fL k))))
theorem sen_bL (k : Nat) {l a : Int} (hl : 0 ≤ l) (ha : 0 ≤ a) : bL (senT k (itoaT l) (fmtT a)) = senC k l.natAbs a.natAbs := by
  unfold senT senC
  split <;> simp only [bL_app, itoa_bL hl, fmt_bL ha, List.append_assoc]

theorem k19 {k : Nat} (h1 : 1 ≤ k) (h2 : k ≤ 9) : k = 1 ∨ k = 2 ∨ k = 3 ∨ k = 4 ∨ k = 5 ∨ k = 6 ∨ k = 7 ∨ k = 8 ∨ k = 9 := by omega
theorem fM_hd {k : Nat} (h1 : 1 ≤ k) (h2 : k ≤ 9) : ∃ q, bL (fM k) = 32 :: q := by
  rcases k19 h1 h2 with rfl | rfl | rfl | rfl | rfl | rfl | rfl | rfl | rfl <;> exact ⟨_, rfl⟩
theorem fL_hd {k : Nat} (h1 : 1 ≤ k) (h2 : k ≤ 9) : ∃ c q, bL (fL k) = c :: q ∧ ¬ isD c := by
  rcases k19 h1 h2 with rfl | rfl | rfl | rfl | rfl | rfl | rfl | rfl | rfl <;> exact ⟨_, _, rfl, by decide⟩
def hdF (k : Nat) : UInt8 × UInt8 := ((bL (fF k)).getD 0 0, (bL (fF k)).getD 2 0)
def hdM (k : Nat) : UInt8 × UInt8 := ((bL (fM k)).getD 1 0, (bL (fM k)).getD 4 0)
theorem hdF_is {k : Nat} (h1 : 1 ≤ k) (h2 : k ≤ 9) (u m : Nat) : ((senC k u m).getD 0 0, (senC k u m).getD 2 0) = hdF k := by
  rcases k19 h1 h2 with rfl | rfl | rfl | rfl | rfl | rfl | rfl | rfl | rfl <;> rfl
theorem hdM_is {k : Nat} (h1 : 1 ≤ k) (h2 : k ≤ 9) (x : List UInt8) : ((bL (fM k) ++ x).getD 1 0, (bL (fM k) ++ x).getD 4 0) = hdM k := by
  rcases k19 h1 h2 with rfl | rfl | rfl | rfl | rfl | rfl | rfl | rfl | rfl <;> rfl
def grp (k : Nat) : Bool := k == 2 || k == 4 || k == 6 || k == 7 || k == 8
theorem hdF_eq : ∀ k k' : Fin 10, 1 ≤ k.1 → 1 ≤ k'.1 → hdF k.1 = hdF k'.1 → k = k' ∨ (grp k.1 = true ∧ grp k'.1 = true) := by decide +kernel
theorem hdM_eq : ∀ k k' : Fin 10, grp k.1 = true → grp k'.1 = true → hdM k.1 = hdM k'.1 → k = k' := by decide +kernel
theorem grp_F {k : Nat} (h : grp k = true) : fF k = fF 2 ∧ fA k = false := by
  unfold grp at h
  simp only [Bool.or_eq_true, beq_iff_eq] at h
  rcases h with (((rfl | rfl) | rfl) | rfl) | rfl <;> exact ⟨rfl, rfl⟩

theorem sen_kind {k k' : Nat} (h1 : 1 ≤ k) (h2 : k ≤ 9) (h1' : 1 ≤ k') (h2' : k' ≤ 9) {u u' m m' : Nat} (hu : u < 18446744073709551616) (hu' : u' < 18446744073709551616) (h : senC k u m = senC k' u' m') : k = k' := by
  have hh : hdF k = hdF k' := by rw [← hdF_is h1 h2 u m, ← hdF_is h1' h2' u' m', h]
  rcases hdF_eq ⟨k, by omega⟩ ⟨k', by omega⟩ h1 h1' hh with e | ⟨g, g'⟩
  · exact congrArg Fin.val e
  · have g1 : grp k = true := g
    have g2 : grp k' = true := g'
    have e1 := grp_F g1
    have e2 := grp_F g2
    have h0 := h
    unfold senC at h
    rw [e1.1, e2.1, e1.2, e2.2, if_neg (by decide), if_neg (by decide)] at h
    have h3 := List.append_cancel_left h
    obtain ⟨q, hq⟩ := fM_hd h1 h2
    obtain ⟨q', hq'⟩ := fM_hd h1' h2'
    have h4 : dcN u ++ 32 :: (q ++ (fmC m ++ bL (fL k))) = dcN u' ++ 32 :: (q' ++ (fmC m' ++ bL (fL k'))) := by
      have := h3
      rw [hq, hq'] at this
      exact this
    obtain ⟨-, h5⟩ := dec_span hu hu' (by decide) (by decide) h4
    have h6 : bL (fM k) ++ (fmC m ++ bL (fL k)) = bL (fM k') ++ (fmC m' ++ bL (fL k')) := by
      rw [hq, hq']
      exact h5
    have h7 : hdM k = hdM k' := by rw [← hdM_is h1 h2 (fmC m ++ bL (fL k)), ← hdM_is h1' h2' (fmC m' ++ bL (fL k')), h6]
    exact congrArg Fin.val (hdM_eq ⟨k, by omega⟩ ⟨k', by omega⟩ g1 g2 h7)

theorem sen_inj {k k' : Nat} (h1 : 1 ≤ k) (h2 : k ≤ 9) (h1' : 1 ≤ k') (h2' : k' ≤ 9) {u u' m m' : Nat} (hu : u < 18446744073709551616) (hu' : u' < 18446744073709551616) (hm : m < 18446744073709551616) (hm' : m' < 18446744073709551616)
    (h : senC k u m = senC k' u' m') : k = k' ∧ u = u' ∧ m = m' := by
  obtain rfl := sen_kind h1 h2 h1' h2' hu hu' h
  refine ⟨rfl, ?_⟩
  obtain ⟨q, hq⟩ := fM_hd h1 h2
  obtain ⟨c, p, hp, hc⟩ := fL_hd h1 h2
  unfold senC at h
  by_cases a : fA k = true
  · rw [if_pos a, if_pos a] at h
    obtain ⟨h4, h5⟩ := fm_span hm hm' (List.append_cancel_left h)
    have h6 := List.append_cancel_left h5
    rw [hp] at h6
    exact ⟨(dec_span hu hu' hc hc h6).1, h4⟩
  · rw [if_neg a, if_neg a] at h
    have h3 := List.append_cancel_left h
    rw [hq] at h3
    obtain ⟨h4, h5⟩ := dec_span hu hu' (c := 32) (c' := 32) (by decide) (by decide) h3
    injection h5 with _ h6
    exact ⟨h4, (fm_span hm hm' (List.append_cancel_left h6)).1⟩

/-! What can be read of a sentence. -/
theorem no32_fm (m : Nat) : (32 : UInt8) ∉ fmC m := by
  unfold fmC
  intro h
  rcases List.mem_append.1 h with h | h
  · exact dcL_no (by decide) h
  · have h1 : ∀ a : Nat, a < 10 → (32 : UInt8) ≠ UInt8.ofNat (48 + a) := fun a ha e => by
      have := congrArg UInt8.toNat e
      rw [UInt8.toNat_ofNat'] at this
      have h2 : (32 : UInt8).toNat = 32 := rfl
      omega
    rcases List.mem_cons.1 h with h | h
    · exact absurd h (by decide)
    · rcases List.mem_cons.1 h with h | h
      · exact h1 _ (by omega) h
      · rcases List.mem_cons.1 h with h | h
        · exact h1 _ (by omega) h
        · cases h
/-- The two words of a sentence. -/
def w1 (k u m : Nat) : List UInt8 := if fA k then fmC m else dcN u
def w2 (k u m : Nat) : List UInt8 := if fA k then dcN u else fmC m
theorem senC_w (k u m : Nat) : senC k u m = bL (fF k) ++ (w1 k u m ++ bL (fM k) ++ w2 k u m ++ bL (fL k)) := by
  unfold senC w1 w2
  split <;> simp only [List.append_assoc]
theorem w1_no (k u m : Nat) : (32 : UInt8) ∉ w1 k u m := by
  unfold w1
  split
  · exact no32_fm m
  · exact dcL_no (by decide)
theorem fill1 (k u m : Nat) : Lib.hasPrefix (senC k u m) (bL (fF k)) = true ∧ Lib.trimPrefix (senC k u m) (bL (fF k)) = w1 k u m ++ bL (fM k) ++ w2 k u m ++ bL (fL k) := by
  rw [senC_w]
  exact ⟨hasP_at _ _, trimP_at _ _⟩
theorem fill2 (k u m : Nat) : Lib.hasSuffix (w1 k u m ++ bL (fM k) ++ w2 k u m ++ bL (fL k)) (bL (fL k)) = true ∧ Lib.trimSuffix (w1 k u m ++ bL (fM k) ++ w2 k u m ++ bL (fL k)) (bL (fL k)) = w1 k u m ++ bL (fM k) ++ w2 k u m :=
  ⟨hasS_at _ _, trimS_at _ _⟩
theorem fill3 {k : Nat} (h1 : 1 ≤ k) (h2 : k ≤ 9) (u m : Nat) : Lib.cut (w1 k u m ++ bL (fM k) ++ w2 k u m) (bL (fM k)) = (w1 k u m, w2 k u m, true) := by
  obtain ⟨q, hq⟩ := fM_hd h1 h2
  rw [hq, List.append_assoc]
  exact cut_at (w1_no k u m)

/-! What can be read of a letter. -/
abbrev nC : List UInt8 := [78, 111, 116, 105, 99, 101, 32]
abbrev oC : List UInt8 := [32, 111, 102, 32]
abbrev cC : List UInt8 := [58, 32]
noncomputable def letC (n : Ntc) : List UInt8 := nC ++ dcN n.id.natAbs ++ oC ++ bL (dateT n.day) ++ cC ++ senC n.kind.toNat n.loan.natAbs n.amount.natAbs
theorem let_bL {n : Ntc} (h : mayN n) : bL (letT n) = letC n := by
  unfold mayN at h
  unfold letT letC
  rw [bL_app, bL_app, bL_app, bL_app, bL_app, itoa_bL (by omega), sen_bL _ (by omega) (by omega)]
theorem dtB_bL (y m d : Nat) : bL (dtB y m d) = dcL 4 y ++ [45] ++ dcL 2 m ++ [45] ++ dcL 2 d := by
  unfold dtB
  rw [bL_app, bL_app, bL_app, bL_app, bL_decB, bL_decB, bL_decB]
theorem dtB_no (y m d : Nat) : (58 : UInt8) ∉ bL (dtB y m d) := by
  rw [dtB_bL]
  simp only [List.mem_append, List.mem_singleton, not_or]
  exact ⟨⟨⟨⟨dcL_no (by decide), by decide⟩, dcL_no (by decide)⟩, by decide⟩, dcL_no (by decide)⟩
theorem date_is {day : Int} {y m d : Nat} (h : DtIs day.toNat y m d) (hv : vDay day) : dateT day = dtB y m d := by
  have hx : vDay day ∧ ∃ t : Nat × Nat × Nat, DtIs day.toNat t.1 t.2.1 t.2.2 := ⟨hv, (y, m, d), h⟩
  have e := h.uniq hx.2.choose_spec
  unfold dateT
  rw [dif_pos hx, ← e.1, ← e.2.1, ← e.2.2]
theorem date_no (day : Int) : (58 : UInt8) ∉ bL (dateT day) := by
  unfold dateT
  split
  · exact dtB_no _ _ _
  · exact fun h => by cases h
theorem let_cut (n : Ntc) : Lib.cut (letC n) cC = (nC ++ dcN n.id.natAbs ++ oC ++ bL (dateT n.day), senC n.kind.toNat n.loan.natAbs n.amount.natAbs, true) := by
  unfold letC
  rw [List.append_assoc _ cC]
  refine cut_at (c := 58) (q := [32]) ?_
  simp only [List.mem_append, not_or]
  exact ⟨⟨⟨by decide, dcL_no (by decide)⟩, by decide⟩, date_no _⟩
theorem let_head (n : Ntc) : Lib.cut (Lib.trimPrefix (nC ++ dcN n.id.natAbs ++ oC ++ bL (dateT n.day)) nC) oC = (dcN n.id.natAbs, bL (dateT n.day), true) := by
  rw [List.append_assoc, List.append_assoc, trimP_at]
  exact cut_at (c := 32) (q := [111, 102, 32]) (dcL_no (by decide))

end Go.Proofs.YtankpibkakfnhaaDoor
namespace Go.Proofs.YtankpibkakfnhaaDoor
open Go Ar
variable {ml : GV}
set_option linter.unusedVariables false
set_option autoImplicit false
set_option maxHeartbeats 4000000
set_option maxRecDepth 100000

theorem bt_lt (s : ByteArray) (i : Nat) : 0 ≤ bt s i ∧ bt s i < 256 := by
  unfold bt
  have := UInt8.toNat_lt (s.data.getD i 0)
  omega

theorem bt_bL (s : ByteArray) (i : Nat) (h : i < s.size) : ∃ c, (bL s)[i]? = some c ∧ bt s i = (c.toNat : Int) := by
  have hl : i < (bL s).length := by rw [bL_len]; exact h
  refine ⟨(bL s)[i], List.getElem?_eq_getElem hl, ?_⟩
  unfold bt
  have h1 : i < s.data.size := h
  rw [show s.data.getD i 0 = s.data[i] by unfold Array.getD; exact dif_pos h1]
  rfl
theorem take_s {l : List UInt8} {i : Nat} {c : UInt8} (h : l[i]? = some c) : l.take (i + 1) = l.take i ++ [c] := by
  rw [List.take_succ, h]
  rfl

/-- What a text of digits comes to. -/
def dgsV (s : ByteArray) : AV := if ∀ c ∈ bL s, isD c then tup2 (I (vF 0 (bL s) : Nat)) (B true) else tup2 (I 0) (B false)
theorem vF_lt : ∀ (l : List UInt8) (acc k : Nat), (∀ c ∈ l, isD c) → acc < 10 ^ k → vF acc l < 10 ^ (k + l.length)
  | [], acc, k, _, h => h
  | c :: l, acc, k, hd, h => by
    rw [vF_cons, List.length_cons, show k + (l.length + 1) = (k + 1) + l.length by omega]
    refine vF_lt l _ _ (fun x hx => hd x (List.mem_cons_of_mem _ hx)) ?_
    have h1 := hd c List.mem_cons_self
    unfold isD at h1
    rw [Nat.pow_succ]
    omega

theorem cdig_x (s : ByteArray) (hs : s.size ≤ 4) : PureX Tryd.prog (gl0 ml) calendar_digits [Tx s] (fun r => r = dgsV s) := by
  refine pure_fnX mixed fn_calendar_digits nt_calendar_digits hc_calendar_digits (by simp) (gl0n ml) (by simp [nf]) ?_
  conv => whnf
  conv => whnf
  refine And.intro (by omega) ?_
  conv => whnf
  refine loop_at mixed (fun (k : Nat) => ([(10, I k), (9, I s.size), (8, .sli 0 0 s.size 1 5), (4, I (vF 0 ((bL s).take k) : Nat)), (3, B false), (2, I 0)], [(0, .box (.arr s.size 1 (fun i => Y (bt s i))))], 1)) (fun k => k ≤ s.size ∧ ∀ c ∈ (bL s).take k, isD c) (fun k => s.size - k) 0 ⟨Nat.zero_le _, fun c h => by simp at h⟩ (le_st (le_r rfl) (leE_i rfl rfl (leE_i rfl rfl (leE_eq rfl (.inl (lt_r rfl)) (leE_i rfl rfl (leE_eq rfl (bnd_nf _ (trivial)) (leE_i rfl rfl trivial)))))) (leO_box (lt_r rfl) rfl (LeA.refl _) (bnd_nf _ ((fun i => trivial))) trivial) (gl0n ml)) ?_
  rintro k ⟨hk, hd⟩
  conv => whnf
  by_cases c : k < s.size
  · refine br_true (decide_eq_true ((by omega : ((k : Nat) : Int) < (s.size : Nat)))) ?_
    conv => whnf
    repeat' first
      | (refine And.intro (by first | omega | (constructor <;> omega)) ?_; (conv => whnf))
      | (rw [okN]; (conv => whnf))
    obtain ⟨b, hb, hbt⟩ := bt_bL s k c
    rw [show bt s (0 + ((k : Nat) : Int).toNat) = ((b.toNat : Nat) : Int) by rw [Nat.zero_add, Int.toNat_natCast]; exact hbt]
    have hD : (48 ≤ b.toNat ∧ b.toNat ≤ 57) ↔ isD b := Iff.rfl
    have hmem : b ∈ bL s := List.mem_of_getElem? hb
    have hno : ¬ isD b → (fun r => r = dgsV s) (tup2 (I 0) (B false)) := fun h => by
      show _ = dgsV s
      unfold dgsV
      rw [if_neg (fun h2 => h (h2 b hmem))]
    by_cases d1 : ((b.toNat : Nat) : Int) < 48
    · refine br_true (decide_eq_true (d1)) ?_
      conv => whnf
      refine fin_e ?_
      conv => whnf
      exact ⟨⟨trivial, trivial, trivial⟩, hno (fun h => by have := hD.2 h; omega)⟩
    · refine br_false (decide_eq_false (d1)) ?_
      conv => whnf
      by_cases d2 : 57 < ((b.toNat : Nat) : Int)
      · refine br_true (decide_eq_true (d2)) ?_
        conv => whnf
        refine fin_e ?_
        conv => whnf
        exact ⟨⟨trivial, trivial, trivial⟩, hno (fun h => by have := hD.2 h; omega)⟩
      · refine br_false (decide_eq_false (d2)) ?_
        conv => whnf
        have hd1 : ∀ c ∈ (bL s).take (k + 1), isD c := fun x hx => by
          rw [take_s hb] at hx
          rcases List.mem_append.1 hx with hx | hx
          · exact hd x hx
          · rw [List.mem_singleton.1 hx]; exact hD.1 (by omega)
        have hlt := vF_lt ((bL s).take k) 0 0 hd (by decide)
        have hle : 10 ^ (0 + ((bL s).take k).length) ≤ 10 ^ 4 := Nat.pow_le_pow_right (by decide) (by rw [List.length_take]; omega)
        have hv : vF 0 ((bL s).take (k + 1)) = 10 * vF 0 ((bL s).take k) + (b.toNat - 48) := by rw [take_s hb, vF_app]; rfl
        refine ⟨k + 1, ⟨c, hd1⟩, (by show s.size - (k + 1) < s.size - k; omega), (le_st (le_r rfl) (leE_i rfl ((by rw [wrap_id (by unfold in64; omega)]; omega)) (leE_i rfl rfl (leE_eq rfl (.inl (lt_r rfl)) (leE_i rfl (?_) (leE_eq rfl (bnd_nf _ (trivial)) (leE_i rfl rfl trivial)))))) (leO_box (lt_r rfl) rfl (LeA.refl _) (bnd_nf _ ((fun i => trivial))) trivial) (gl0n ml))⟩
        have e8 : ((b.toNat : Nat) : Int) - 48 = ((b.toNat - 48 : Nat) : Int) := by omega
        rw [hv, e8, wrap8 (by omega), wrap_id (n := ((b.toNat - 48 : Nat) : Int)) (by unfold in64; omega), wrap_id (n := 10 * _) (by unfold in64; omega), wrap_id (by unfold in64; omega)]
        omega
  · refine br_false (decide_eq_false ((by omega : ¬ ((k : Nat) : Int) < (s.size : Nat)))) ?_
    conv => whnf
    refine fin_e ?_
    conv => whnf
    have hk2 : (bL s).take k = bL s := List.take_of_length_le (by rw [bL_len]; omega)
    rw [hk2] at hd ⊢
    refine ⟨⟨trivial, trivial, trivial⟩, ?_⟩
    unfold dgsV
    rw [if_pos hd]
    rfl

/-! Dates. -/
/-- A month's days; none where there is no such month. -/
def mlI (y m : Int) : Int := if 1 ≤ y ∧ y ≤ 9999 ∧ 1 ≤ m ∧ m ≤ 12 then ((cm (lpN y.toNat) (m.toNat + 1) - cm (lpN y.toNat) m.toNat : Nat) : Int) else 0
theorem mlI_no {y m : Int} (h : ¬ (1 ≤ y ∧ y ≤ 9999 ∧ 1 ≤ m ∧ m ≤ 12)) : mlI y m = 0 := if_neg h
theorem mlI_le (y m : Int) : 0 ≤ mlI y m ∧ mlI y m ≤ 31 := by
  unfold mlI
  split
  · rename_i h
    have := cm_s (lpN_le y.toNat) (show 1 ≤ m.toNat by omega) (by omega)
    omega
  · omega
theorem cml_x (y m : Int) : PureX Tryd.prog (gl0 ml) calendar_MonthLen [I y, I m] (fun r => r = I (mlI y m)) := by
  refine pure_fnX mixed fn_calendar_MonthLen nt_calendar_MonthLen hc_calendar_MonthLen (by simp) (gl0n ml) (by simp [nf]) ?_
  conv => whnf
  conv => whnf
  by_cases c1 : y < 1
  · refine br_true (decide_eq_true (c1)) ?_
    conv => whnf
    refine fin_e ?_
    conv => whnf
    exact ⟨trivial, by rw [mlI_no (by omega)]; rfl⟩
  refine br_false (decide_eq_false (c1)) ?_
  conv => whnf
  by_cases c2 : 9999 < y
  · refine br_true (decide_eq_true (c2)) ?_
    conv => whnf
    refine fin_e ?_
    conv => whnf
    exact ⟨trivial, by rw [mlI_no (by omega)]; rfl⟩
  refine br_false (decide_eq_false (c2)) ?_
  conv => whnf
  by_cases c3 : m < 1
  · refine br_true (decide_eq_true (c3)) ?_
    conv => whnf
    refine fin_e ?_
    conv => whnf
    exact ⟨trivial, by rw [mlI_no (by omega)]; rfl⟩
  refine br_false (decide_eq_false (c3)) ?_
  conv => whnf
  by_cases c4 : 12 < m
  · refine br_true (decide_eq_true (c4)) ?_
    conv => whnf
    refine fin_e ?_
    conv => whnf
    exact ⟨trivial, by rw [mlI_no (by omega)]; rfl⟩
  refine br_false (decide_eq_false (c4)) ?_
  conv => whnf
  obtain ⟨y, rfl⟩ := Int.eq_ofNat_of_zero_le (show 0 ≤ y by omega)
  obtain ⟨m, rfl⟩ := Int.eq_ofNat_of_zero_le (show 0 ≤ m by omega)
  have hl := lpN_le y
  have hd := leap_x (ml := ml) y (by omega) (by omega)
  have hm : mlI (y : Int) (m : Int) = ((cm (lpN y) (m + 1) - cm (lpN y) m : Nat) : Int) := if_pos (by omega)
  rw [hm]
  clear hm
  generalize lpN y = l at hl hd ⊢
  have w : IntKind.i64.wrap (((m : Nat) : Int) - 1) = ((m - 1 : Nat) : Int) := by rw [wrap_id (by unfold in64; omega)]; omega
  have z1 : 1 ≤ m := by omega
  have z2 : m ≤ 12 := by omega
  clear c1 c2 c3 c4
  rcases (show l = 0 ∨ l = 1 by omega) with rfl | rfl <;> rcases (show m = 1 ∨ m = 2 ∨ m = 3 ∨ m = 4 ∨ m = 5 ∨ m = 6 ∨ m = 7 ∨ m = 8 ∨ m = 9 ∨ m = 10 ∨ m = 11 ∨ m = 12 by omega) with rfl | rfl | rfl | rfl | rfl | rfl | rfl | rfl | rfl | rfl | rfl | rfl
  all_goals (repeat' first
    | (rw [wpE_one])
    | (rw [w])
    | (refine And.intro (by first | decide | omega | fail) ?_; (conv => whnf))
    | (refine call_x2 hd (LeL.refl _) ?_; rintro _ - rfl; (conv => whnf))
    | (refine fin_e ?_; (conv => whnf); exact ⟨trivial, congrArg (fun n => I n) (by decide)⟩)
    | fail)

abbrev encD (y m d : Int) : AV := .st (.cons (I y) (.cons (I m) (.cons (I d) .nil)))
/-- A date's day. -/
def numV (y m d : Int) : AV := if 1 ≤ d ∧ d ≤ mlI y m then tup2 (I ((SB (y.toNat - 1) + cm (lpN y.toNat) m.toNat + d.toNat : Nat) : Int)) (B true) else tup2 (I 0) (B false)
theorem numV_no {y m d : Int} (h : ¬ (1 ≤ d ∧ d ≤ mlI y m)) : numV y m d = tup2 (I 0) (B false) := if_neg h
theorem ah_at : ∀ i : Fin 13, at_ aheadL i.1 = (ahN i.1 : Int) := by decide
theorem SB_le {y : Nat} (h : y ≤ 9999) : SB y ≤ 3652059 := SB_mono h
theorem ahN_le : ∀ i : Fin 13, ahN i.1 ≤ 365 := by decide
theorem cnum_x (y m d : Int) : PureX Tryd.prog (gl0 ml) calendar_Number [encD y m d] (fun r => r = numV y m d) := by
  refine pure_fnX mixed fn_calendar_Number nt_calendar_Number hc_calendar_Number (by simp) (gl0n ml) (by simp [nf]) ?_
  conv => whnf
  conv => whnf
  by_cases c1 : d < 1
  · refine br_true (decide_eq_true (c1)) ?_
    conv => whnf
    refine fin_e ?_
    conv => whnf
    exact ⟨⟨trivial, trivial, trivial⟩, by rw [numV_no (by omega)]; rfl⟩
  refine br_false (decide_eq_false (c1)) ?_
  conv => whnf
  refine call_x2 (cml_x y m) (LeL.refl _) ?_
  rintro _ - rfl
  conv => whnf
  by_cases c2 : mlI y m < d
  · refine br_true (decide_eq_true (c2)) ?_
    conv => whnf
    refine fin_e ?_
    conv => whnf
    exact ⟨⟨trivial, trivial, trivial⟩, by rw [numV_no (by omega)]; rfl⟩
  refine br_false (decide_eq_false (c2)) ?_
  conv => whnf
  have hv : 1 ≤ y ∧ y ≤ 9999 ∧ 1 ≤ m ∧ m ≤ 12 := Classical.byContradiction fun h => by
    have := mlI_no h
    omega
  have h31 := mlI_le y m
  have hN : numV y m d = tup2 (I ((SB (y.toNat - 1) + cm (lpN y.toNat) m.toNat + d.toNat : Nat) : Int)) (B true) := if_pos (by omega)
  rw [hN]
  clear hN
  obtain ⟨d, rfl⟩ := Int.eq_ofNat_of_zero_le (show 0 ≤ d by omega)
  obtain ⟨y, rfl⟩ := Int.eq_ofNat_of_zero_le (show 0 ≤ y by omega)
  obtain ⟨w, hw⟩ : ∃ w, w = y - 1 := ⟨_, rfl⟩
  obtain ⟨m, rfl⟩ := Int.eq_ofNat_of_zero_le (show 0 ≤ m by omega)
  obtain ⟨i, hi⟩ : ∃ i, i = m - 1 := ⟨_, rfl⟩
  obtain ⟨a, ha⟩ : ∃ a, a = w / 4 := ⟨_, rfl⟩
  obtain ⟨b, hb⟩ : ∃ b, b = w / 100 := ⟨_, rfl⟩
  obtain ⟨c, hc⟩ : ∃ c, c = w / 400 := ⟨_, rfl⟩
  have q1 : (w : Int).tdiv 4 = (a : Nat) := by rw [ha]; exact (Int.ofNat_tdiv w 4).symm
  have q2 : (w : Int).tdiv 100 = (b : Nat) := by rw [hb]; exact (Int.ofNat_tdiv w 100).symm
  have q3 : (w : Int).tdiv 400 = (c : Nat) := by rw [hc]; exact (Int.ofNat_tdiv w 400).symm
  have q4 : IntKind.i64.wrap ((y : Nat) - 1) = (w : Nat) := by rw [wrap_id (by unfold in64; omega)]; omega
  have q5 : IntKind.i64.wrap ((m : Nat) - 1) = (i : Nat) := by rw [wrap_id (by unfold in64; omega)]; omega
  have hA := ah_at ⟨i, by omega⟩
  have hA2 := ahN_le ⟨i, by omega⟩
  have hsb : SB w = 365 * w + a - b + c := by rw [ha, hb, hc]; rfl
  have hcm : cm (lpN y) m = ahN i + if 2 < m then lpN y else 0 := by rw [hi]; rfl
  rw [Int.toNat_natCast, Int.toNat_natCast, Int.toNat_natCast, ← hw, hcm, hsb]
  have ab : b ≤ a ∧ a ≤ w ∧ b ≤ w ∧ c ≤ w ∧ w ≤ 9998 := by omega
  have hl := lpN_le y
  have hd := leap_x (ml := ml) y (by omega) (by omega)
  generalize lpN y = l at hl hd ⊢
  obtain ⟨A, hA3⟩ : ∃ A, A = ahN i := ⟨_, rfl⟩
  replace hA : at_ aheadL i = (A : Nat) := by rw [hA3]; exact hA
  replace hA2 : A ≤ 365 := by rw [hA3]; exact hA2
  rw [← hA3]
  have w1 : IntKind.i64.wrap (365 * ((w : Nat) : Int)) = ((365 * w : Nat) : Int) := by rw [wrap_id (by unfold in64; omega)]; omega
  have w2 : ∀ n : Nat, n < 1000000 → IntKind.i64.wrap ((n : Nat) : Int) = (n : Nat) := fun n h => wrap_id (by unfold in64; omega)
  have w3 : IntKind.i64.wrap (((365 * w : Nat) : Int) + (a : Nat)) = ((365 * w + a : Nat) : Int) := by rw [wrap_id (by unfold in64; omega)]; omega
  have w4 : IntKind.i64.wrap (((365 * w + a : Nat) : Int) - (b : Nat)) = ((365 * w + a - b : Nat) : Int) := by rw [wrap_id (by unfold in64; omega)]; omega
  have w5 : IntKind.i64.wrap (((365 * w + a - b : Nat) : Int) + (c : Nat)) = ((365 * w + a - b + c : Nat) : Int) := by rw [wrap_id (by unfold in64; omega)]; omega
  obtain ⟨S, hS⟩ : ∃ S, S = 365 * w + a - b + c := ⟨_, rfl⟩
  have hS2 : S ≤ 4000000 := by omega
  rw [← hS] at w5 ⊢
  have w6 : IntKind.i64.wrap (((S : Nat) : Int) + (A : Nat)) = ((S + A : Nat) : Int) := by rw [wrap_id (by unfold in64; omega)]; omega
  have w7 : IntKind.i64.wrap (((S + A : Nat) : Int) + (d : Nat)) = ((S + A + d : Nat) : Int) := by rw [wrap_id (by unfold in64; omega)]; omega
  have w8 : IntKind.i64.wrap (((S + A + d : Nat) : Int) + 1) = ((S + A + d + 1 : Nat) : Int) := by rw [wrap_id (by unfold in64; omega)]; omega
  have e1 := w2 a (by omega)
  have e2 := w2 b (by omega)
  have e3 := w2 c (by omega)
  have hi2 : i < 13 := by omega
  clear w2 hS hA3 hsb hcm hw ha hb hc h31
  repeat' first
    | (rw [wpE_one])
    | (rw [q4])
    | (rw [q5])
    | (rw [q1])
    | (rw [q2])
    | (rw [q3])
    | (rw [e1])
    | (rw [e2])
    | (rw [e3])
    | (rw [w1])
    | (rw [w3])
    | (rw [w4])
    | (rw [w5])
    | (rw [w6])
    | (rw [w7])
    | (rw [hA])
    | (rw [Int.toNat_natCast])
    | (rw [Nat.zero_add])
    | (refine And.intro (by first | decide | omega | (constructor <;> omega) | fail) ?_; (conv => whnf))
    | (rw [okN]; (conv => whnf))
    | fail
  by_cases c3 : ((m : Nat) : Int) > 2
  · have c3' : 2 < m := by omega
    rw [if_pos c3']
    refine br_true (decide_eq_true (c3)) ?_
    conv => whnf
    refine call_x2 hd (LeL.refl _) ?_
    rintro _ - rfl
    conv => whnf
    by_cases c4 : l = 1
    · refine br_true (decide_eq_true (c4)) ?_
      conv => whnf
      rw [w8]
      refine fin_e ?_
      conv => whnf
      refine ⟨⟨trivial, trivial, trivial⟩, ?_⟩
      rw [c4, show S + (A + 1) + d = S + A + d + 1 by omega]
      rfl
    · refine br_false (decide_eq_false (c4)) ?_
      conv => whnf
      refine fin_e ?_
      conv => whnf
      refine ⟨⟨trivial, trivial, trivial⟩, ?_⟩
      rw [show l = 0 by omega]
      rfl
  · have c3' : ¬ 2 < m := by omega
    rw [if_neg c3']
    refine br_false (decide_eq_false (c3)) ?_
    conv => whnf
    refine fin_e ?_
    conv => whnf
    exact ⟨⟨trivial, trivial, trivial⟩, rfl⟩

/-! A date's text read. -/
theorem ext_bL (s : ByteArray) (a b : Nat) : bL (s.extract a b) = (bL s).extract a b := by
  show (s.extract a b).data.toList = _
  simp
theorem numV_rg (y m d : Int) : ∃ n b, numV y m d = tup2 (I n) (B b) ∧ in64 n := by
  by_cases h : 1 ≤ d ∧ d ≤ mlI y m
  · have hv : 1 ≤ y ∧ y ≤ 9999 ∧ 1 ≤ m ∧ m ≤ 12 := Classical.byContradiction fun hn => by
      have := mlI_no hn
      omega
    have h1 := SB_le (y := y.toNat - 1) (by omega)
    have h2 := mlI_le y m
    have h3 : cm (lpN y.toNat) m.toNat ≤ cm (lpN y.toNat) 13 := cm_mono (lpN_le _) (by omega) (by omega) (Nat.le_refl _)
    rw [cm_13] at h3
    have h4 := lpN_le y.toNat
    exact ⟨_, _, if_pos h, by unfold in64; omega⟩
  · exact ⟨_, _, if_neg h, by unfold in64; omega⟩

theorem date_ex {day : Int} (h : vDay day) : ∃ y m d, DtIs day.toNat y m d ∧ dateT day = dtB y m d := by
  obtain ⟨r, -, hq, -⟩ := calCiv_x (ml := ⟨0, 0, 0⟩) day
  cases hq with
  | ok y m d hd _ _ => exact ⟨y, m, d, hd, date_is hd h⟩
  | no h2 => exact absurd h h2
theorem bt_g (s : ByteArray) (i : Nat) : bt s i = (((bL s).getD i 0).toNat : Int) := by
  unfold bt
  rw [List.getD_eq_getElem?_getD, Array.getElem?_toList, ← Array.getD_eq_getD_getElem?]
theorem dgs_dec {L u : Nat} (h : u < 10 ^ L) : dgsV (bT (dcL L u)) = tup2 (I u) (B true) := by
  unfold dgsV
  rw [bL_bT, if_pos (fun c hc => dcL_D hc), vF_dcL h]
theorem dgs_any (s : ByteArray) : ∃ (v : Nat) (b : Bool), dgsV s = tup2 (I v) (B b) := by
  unfold dgsV
  split
  · exact ⟨_, _, rfl⟩
  · exact ⟨0, _, rfl⟩
theorem tup_inj {a b : Int} {c d : Bool} (h : tup2 (I a) (B c) = tup2 (I b) (B d)) : a = b ∧ c = d := by
  injection h with h
  injection h with h1 h2
  injection h2 with h2 _
  injection h1 with h1
  injection h1 with _ h1
  injection h2 with h2
  injection h2 with h2
  exact ⟨h1, h2⟩

/-- A date's text, part by part. -/
structure DtP (s : ByteArray) (y m d : Nat) : Prop where
  n : s.size = 10
  b4 : bt s 4 = 45
  b7 : bt s 7 = 45
  ey : dgsV (s.extract 0 4) = tup2 (I y) (B true)
  em : dgsV (s.extract 5 7) = tup2 (I m) (B true)
  ed : dgsV (s.extract 8 10) = tup2 (I d) (B true)
theorem dtP (y m d : Nat) (hy : y < 10 ^ 4) (hm : m < 10 ^ 2) (hd : d < 10 ^ 2) : DtP (dtB y m d) y m d := by
  have hb := dtB_bL y m d
  refine ⟨dtB_size y m d, by rw [bt_g, hb]; rfl, by rw [bt_g, hb]; rfl, ?_, ?_, ?_⟩
  · rw [← dgs_dec hy]
    exact congrArg dgsV (bL_inj (by rw [ext_bL, hb]; rfl))
  · rw [← dgs_dec hm]
    exact congrArg dgsV (bL_inj (by rw [ext_bL, hb]; rfl))
  · rw [← dgs_dec hd]
    exact congrArg dgsV (bL_inj (by rw [ext_bL, hb]; rfl))
theorem num_dt {day : Int} {y m d : Nat} (h : DtIs day.toNat y m d) (hv : vDay day) : numV y m d = tup2 (I day) (B true) := by
  have h1 := h.y1
  have h2 := h.y2 (by omega)
  have h3 := h.m1
  have h4 := h.m2
  have h5 := h.d1
  have h6 := h.d2
  have h7 := h.h
  unfold numV
  have hm : mlI (y : Int) (m : Int) = ((cm (lpN y) (m + 1) - cm (lpN y) m : Nat) : Int) := if_pos (by omega)
  rw [hm, if_pos (by omega)]
  refine congrArg (fun n => tup2 (I n) (B true)) ?_
  rw [Int.toNat_natCast, Int.toNat_natCast, Int.toNat_natCast, h7]
  omega

/-- What is read as a date: any number, and a date's own day. -/
def PdV (s : ByteArray) (r : AV) : Prop := ∃ n b, r = tup2 (I n) (B b) ∧ in64 n ∧ ∀ day : Int, vDay day → s = dateT day → n = day ∧ b = true
theorem pd_no {s : ByteArray} (h : ∀ y m d, ¬ DtP s y m d) : PdV s (tup2 (I 0) (B false)) := by
  refine ⟨0, false, rfl, by unfold in64; omega, fun day hv hs => ?_⟩
  obtain ⟨y, m, d, hd, ht⟩ := date_ex hv
  rw [ht] at hs
  refine absurd (dtP y m d ?_ ?_ ?_) (hs ▸ h y m d)
  · have := hd.y2 (by omega); omega
  · have := hd.m2; omega
  · have := hd.d3; omega
theorem pdate_x (s : ByteArray) (hs : s.size ≤ 1048576) : PureX Tryd.prog (gl0 ml) calendar_ParseDate [Tx s] (PdV s) := by
  refine pure_fnX mixed fn_calendar_ParseDate nt_calendar_ParseDate hc_calendar_ParseDate (by simp) (gl0n ml) (by simp [nf]) ?_
  conv => whnf
  conv => whnf
  have no : (∀ y m d, ¬ DtP s y m d) → nf (packA [AV.val (.int .i64 0), AV.val (.bool false)]) ∧ PdV s (packA [AV.val (.int .i64 0), AV.val (.bool false)]) := fun h => ⟨⟨trivial, trivial, trivial⟩, pd_no h⟩
  by_cases c1 : ((s.size : Nat) : Int) = 10
  rotate_left
  · refine br_true (decide_eq_true (c1)) ?_
    conv => whnf
    refine fin_e ?_
    conv => whnf
    exact no (fun y m d h => c1 (by rw [h.n]; rfl))
  have hn : s.size = 10 := by omega
  refine br_false (decide_eq_false (by simpa using c1)) ?_
  conv => whnf
  repeat' first
    | (rw [wpE_one])
    | (refine And.intro (by omega) ?_; (conv => whnf))
    | fail
  by_cases c4 : bt s 4 = 45
  rotate_left
  · refine br_true (decide_eq_true (c4)) ?_
    conv => whnf
    refine fin_e ?_
    conv => whnf
    exact no (fun y m d h => c4 h.b4)
  refine br_false (decide_eq_false (by simpa using c4)) ?_
  conv => whnf
  repeat' first
    | (rw [wpE_one])
    | (refine And.intro (by omega) ?_; (conv => whnf))
    | fail
  by_cases c7 : bt s 7 = 45
  rotate_left
  · refine br_true (decide_eq_true (c7)) ?_
    conv => whnf
    refine fin_e ?_
    conv => whnf
    exact no (fun y m d h => c7 h.b7)
  refine br_false (decide_eq_false (by simpa using c7)) ?_
  conv => whnf
  obtain ⟨y, b1, h1⟩ := dgs_any (s.extract 0 4)
  obtain ⟨m, b2, h2⟩ := dgs_any (s.extract 5 7)
  obtain ⟨d, b3, h3⟩ := dgs_any (s.extract 8 10)
  have x1 : (s.extract 0 4).size ≤ 4 := by rw [ByteArray.size_extract]; omega
  have x2 : (s.extract 5 7).size ≤ 4 := by rw [ByteArray.size_extract]; omega
  have x3 : (s.extract 8 10).size ≤ 4 := by rw [ByteArray.size_extract]; omega
  repeat' first
    | (refine And.intro (by first | decide | omega) ?_; (conv => whnf))
    | fail
  refine call_x2 (cdig_x (s.extract 0 4) x1) (LeL.refl _) ?_
  rintro _ - rfl
  rw [h1]
  conv => whnf
  repeat' first
    | (refine And.intro (by first | decide | omega) ?_; (conv => whnf))
    | fail
  refine call_x2 (cdig_x (s.extract 5 7) x2) (LeL.refl _) ?_
  rintro _ - rfl
  rw [h2]
  conv => whnf
  rw [hn]
  repeat' first
    | (refine And.intro (by first | decide | omega) ?_; (conv => whnf))
    | fail
  refine call_x2 (cdig_x (s.extract 8 10) x3) (LeL.refl _) ?_
  rintro _ - rfl
  rw [h3]
  cases b1
  · conv => whnf
    refine fin_e ?_
    conv => whnf
    exact no (fun y m d h => absurd (tup_inj (h1.symm.trans h.ey)).2 (by decide))
  cases b2
  · conv => whnf
    refine fin_e ?_
    conv => whnf
    exact no (fun y m d h => absurd (tup_inj (h2.symm.trans h.em)).2 (by decide))
  cases b3
  · conv => whnf
    refine fin_e ?_
    conv => whnf
    exact no (fun y m d h => absurd (tup_inj (h3.symm.trans h.ed)).2 (by decide))
  conv => whnf
  refine call_x2 (cnum_x y m d) (LeL.refl _) ?_
  rintro _ - rfl
  obtain ⟨n, b, hnv, hrg⟩ := numV_rg y m d
  rw [hnv]
  conv => whnf
  refine fin_e ?_
  conv => whnf
  refine ⟨⟨trivial, trivial, trivial⟩, n, b, rfl, hrg, fun day hv hs => ?_⟩
  obtain ⟨y', m', d', hd, ht⟩ := date_ex hv
  rw [ht] at hs
  have hp := dtP y' m' d' (by have := hd.y2 (by omega); omega) (by have := hd.m2; omega) (by have := hd.d3; omega)
  rw [← hs] at hp
  have e1 := (tup_inj (h1.symm.trans hp.ey)).1
  have e2 := (tup_inj (h2.symm.trans hp.em)).1
  have e3 := (tup_inj (h3.symm.trans hp.ed)).1
  rw [e1, e2, e3, num_dt hd hv] at hnv
  have e4 := tup_inj hnv
  exact ⟨e4.1.symm, e4.2.symm⟩

end Go.Proofs.YtankpibkakfnhaaDoor
namespace Go.Proofs.YtankpibkakfnhaaDoor
open Go Ar
variable {ml : GV}
set_option linter.unusedVariables false
set_option autoImplicit false
set_option maxHeartbeats 4000000
set_option maxRecDepth 100000

/-- The two errors. -/
theorem er_cell {G : Nat → Nat} {w : World} {k : Nat} {t : TypeId} (hk : (gl0 ml) k = .elt 1 1 (fun _ => .ifc t .any) 0 []) (h : ∀ i, (R ⟨fun _ => none, fun _ => none, G⟩ w ((gl0 ml) i)).v (.pointer (some ⟨i, 0, none⟩))) : ∃ ev, w.cell? ⟨k, 0, none⟩ = some ev ∧ (ev = .nilIface ∨ ∃ te pe, ev = .iface te pe) := by
  have hh := h k
  rw [hk] at hh
  obtain ⟨⟨_, _, ⟨ab, ao, asp⟩, ⟨h1, h2, h3⟩, he⟩, _⟩ := hh
  obtain ⟨_, u, h4, ⟨u', rfl, _⟩, _⟩ := h3 0 (by decide)
  injection he with he
  injection he with he
  injection he with e1 e2 e3
  have h0 : ao + 0 * 1 = 0 := by simp [offP] at e2; omega
  have h4' : w.cell? ⟨ab, ao + 0 * 1, none⟩ = some (.iface t u') := h4
  rw [h0, show ab = k from e1.symm] at h4'
  exact ⟨_, h4', .inr ⟨_, _, rfl⟩⟩

theorem lib1 {f : FuncId} {s : ByteArray} {r : AV} (hr : nf r) (h : ∀ w, (∃ ev, w.cell? ⟨3, 0, none⟩ = some ev ∧ (ev = .nilIface ∨ ∃ te pe, ev = .iface te pe)) → (∃ ev, w.cell? ⟨4, 0, none⟩ = some ev ∧ (ev = .nilIface ∨ ∃ te pe, ev = .iface te pe)) →
    Calls Tryd.prog f #[.string s] w fun e w' => ∃ u, e = .returned u ∧ Go.RowKit.Below w.heap.size w w' ∧ ∀ g, (R g w' r).v u) : Pure Tryd.prog (gl0 ml) f [Tx s] r := by
  refine pure_lib (by simp [nf]) hr (gl0n ml) fun G w cargs hg hr => ?_
  match cargs, hr with
  | [a], ⟨h1, _⟩ =>
    obtain ⟨rfl, l1⟩ := txt_v h1
    refine (h w (er_cell rfl hg) (er_cell rfl hg)).mono ?_
    rintro e w' ⟨u, h3, h4, h5⟩
    exact ⟨u, h3, h4, h5 _⟩
  | [], hr => exact hr.elim
  | _ :: _ :: _, hr => exact hr.2.elim

/-- The error that comes with a number, or none. -/
abbrev erA (b : Bool) : AV := match b with
  | true => .val .nilIface
  | false => .ifc 84 .any
def AtV (s : ByteArray) (r : AV) : Prop := ∃ (v : Int) (b : Bool), r = tup2 (I v) (erA b) ∧ in64 v ∧ ∀ u : Nat, u ≤ 9223372036854775807 → bL s = dcN u → v = u ∧ b = true
theorem v_err {g : Gh} {w : World} {u : Value} : (R g w (.ifc 84 .any)).v (.iface 84 u) := ⟨⟨u, rfl, trivial⟩, trivial⟩
theorem v_int {g : Gh} {w : World} {v : Int} (h : in64 v) : (R g w (I v)).v (.int .i64 v) := ⟨rfl, h⟩
theorem atoi_x (s : ByteArray) (hs : s.size ≤ 1048576) : PureX Tryd.prog (gl0 ml) strconv_Atoi [Tx s] (AtV s) := by
  match hA : Lib.atoiAll (bL s) with
  | .ok v =>
    have hv := Lib.atoiAll_bounds hA
    have hr : in64 v := by unfold in64; omega
    refine ⟨tup2 (I v) (erA true), ⟨trivial, trivial, trivial⟩, ⟨v, true, rfl, hr, fun u hu he => ?_⟩, ?_⟩
    · rw [he, atoi_dec hu] at hA
      injection hA with hA
      exact ⟨hA.symm, rfl⟩
    · refine lib1 ⟨trivial, trivial, trivial⟩ fun w _ _ => (Go.Proofs.Any.strconv_Atoi_ok laysA s (by omega) v hA w).mono ?_
      rintro e w' ⟨rfl, hw⟩
      refine ⟨_, rfl, ?_, fun g => tup2_v (v_int hr) ⟨rfl, trivial⟩⟩
      rcases hw with rfl | ⟨t, rfl⟩
      · exact Go.RowKit.Below.refl _ _
      · exact Lib.bytesWorld_below _ _ _
  | .syntax =>
    refine ⟨tup2 (I 0) (erA false), ⟨trivial, trivial, trivial⟩, ⟨0, false, rfl, by unfold in64; omega, fun u hu he => ?_⟩, ?_⟩
    · rw [he, atoi_dec hu] at hA
      cases hA
    · refine lib1 ⟨trivial, trivial, trivial⟩ fun w ⟨ev, h3, h3'⟩ _ => (Go.Proofs.Any.strconv_Atoi_syntax laysA s (by omega) hA ev w h3 h3').mono ?_
      rintro e w' ⟨N, rfl, _, _, hb⟩
      exact ⟨_, rfl, hb, fun g => tup2_v (v_int (by unfold in64; omega)) v_err⟩
  | .range =>
    have hv := Lib.atoiSat_bounds (bL s)
    have hr : in64 (Lib.atoiSat (bL s)) := by unfold in64; omega
    refine ⟨tup2 (I (Lib.atoiSat (bL s))) (erA false), ⟨trivial, trivial, trivial⟩, ⟨_, false, rfl, hr, fun u hu he => ?_⟩, ?_⟩
    · rw [he, atoi_dec hu] at hA
      cases hA
    · refine lib1 ⟨trivial, trivial, trivial⟩ fun w _ ⟨ev, h4, h4'⟩ => (Go.Proofs.Any.strconv_Atoi_range laysA s (by omega) hA ev w h4 h4').mono ?_
      rintro e w' ⟨N, rfl, _, _, hb⟩
      exact ⟨_, rfl, hb, fun g => tup2_v (v_int hr) v_err⟩

/-- A number that is read: any, and a number's own text. -/
def NuV (s : ByteArray) (r : AV) : Prop := ∃ (v : Int) (b : Bool), r = tup2 (I v) (B b) ∧ in64 v ∧ ∀ x : Int, 0 ≤ x → in64 x → s = itoaT x → v = x ∧ b = true
theorem number_x (s : ByteArray) (hs : s.size ≤ 1048576) : PureX Tryd.prog (gl0 ml) report_number [Tx s] (NuV s) := by
  refine pure_fnX mixed fn_report_number nt_report_number hc_report_number (by simp) (gl0n ml) (by simp [nf]) ?_
  conv => whnf
  conv => whnf
  refine call_x2 (atoi_x s hs) (LeL.refl _) ?_
  rintro _ - ⟨v, b, rfl, hv, hu⟩
  have key : ∀ x : Int, 0 ≤ x → in64 x → s = itoaT x → v = x ∧ b = true := fun x h0 hx he => by
    have h1 := hu x.natAbs (by unfold in64 at hx; omega) (by rw [he, itoa_bL h0])
    exact ⟨by omega, h1.2⟩
  cases b
  · conv => whnf
    refine fin_e ?_
    conv => whnf
    exact ⟨⟨trivial, trivial, trivial⟩, v, false, rfl, hv, fun x h0 hx he => absurd (key x h0 hx he).2 (by decide)⟩
  · conv => whnf
    refine call_x2 (itoaS_x v hv) (LeL.refl _) ?_
    rintro _ - rfl
    conv => whnf
    cases hq : ((itoaT v).toList == s.toList)
    · conv => whnf
      refine fin_e ?_
      conv => whnf
      refine ⟨⟨trivial, trivial, trivial⟩, v, false, rfl, hv, fun x h0 hx he => ?_⟩
      have h1 := (key x h0 hx he).1
      subst h1
      rw [he] at hq
      simp at hq
    · conv => whnf
      refine fin_e ?_
      conv => whnf
      exact ⟨⟨trivial, trivial, trivial⟩, v, true, rfl, hv, fun x h0 hx he => ⟨(key x h0 hx he).1, rfl⟩⟩

end Go.Proofs.YtankpibkakfnhaaDoor
namespace Go.Proofs.YtankpibkakfnhaaDoor
open Go Ar
variable {ml : GV}
set_option linter.unusedVariables false
set_option autoImplicit false
set_option maxHeartbeats 4000000
set_option maxRecDepth 100000

def WsV (ng : Bool) (m : Nat) (r : AV) : Prop := ∃ (v : Int) (b : Bool), r = tup2 (I v) (B b) ∧ in64 v ∧ (ng = false → m ≤ 9223372036854775807 → v = m ∧ b = true)
theorem wsign_x (ng : Bool) (m : Nat) (hm : m ≤ 9223372036854775808) : PureX Tryd.prog (gl0 ml) money_withSign [B ng, U m] (WsV ng m) := by
  refine pure_fnX mixed fn_money_withSign nt_money_withSign hc_money_withSign (by simp) (gl0n ml) (by simp [nf]) ?_
  conv => whnf
  cases ng
  · conv => whnf
    by_cases c : ((m : Nat) : Int) > 9223372036854775807
    · refine br_true (decide_eq_true (c)) ?_
      conv => whnf
      refine fin_e ?_
      conv => whnf
      exact ⟨⟨trivial, trivial, trivial⟩, 0, false, rfl, by unfold in64; omega, fun _ h => by omega⟩
    · refine br_false (decide_eq_false (c)) ?_
      conv => whnf
      refine fin_e ?_
      conv => whnf
      refine ⟨⟨trivial, trivial, trivial⟩, _, true, rfl, wrap_in _, fun _ h => ⟨wrap_id (by unfold in64; omega), rfl⟩⟩
  · conv => whnf
    by_cases c : ((m : Nat) : Int) > 9223372036854775808
    · exfalso; omega
    · refine br_false (decide_eq_false (c)) ?_
      conv => whnf
      refine fin_e ?_
      conv => whnf
      exact ⟨⟨trivial, trivial, trivial⟩, _, true, rfl, wrap_in _, fun h => by cases h⟩

/-- The digits ahead of place 'i', but for the point. -/
def pvF (s : ByteArray) (p : Nat) : Nat → Nat
  | 0 => 0
  | i + 1 => if i = p then pvF s p i else 10 * pvF s p i + ((bt s i).toNat - 48)
theorem pvF_le (s : ByteArray) (p : Nat) {i j : Nat} (h : i ≤ j) : pvF s p i ≤ pvF s p j := by
  obtain ⟨k, rfl⟩ := Nat.le.dest h
  clear h
  induction k with
  | zero => exact Nat.le_refl _
  | succ k ih =>
    refine Nat.le_trans ih ?_
    show _ ≤ (if i + k = p then pvF s p (i + k) else 10 * pvF s p (i + k) + ((bt s (i + k)).toNat - 48))
    split <;> omega
structure FmP (s : ByteArray) (p a : Nat) : Prop where
  n : s.size = p + 3
  p1 : 1 ≤ p
  pt : bt s p = 46
  dg : ∀ i, i < s.size → i ≠ p → 48 ≤ bt s i ∧ bt s i ≤ 57
  z : bt s 0 = 48 → p = 1
  v : pvF s p s.size = a
  hi : a ≤ 9223372036854775807

theorem pvF_pre {s : ByteArray} {p : Nat} {l : List UInt8} (hl : ∀ (i : Nat) (c : UInt8), l[i]? = some c → (bL s)[i]? = some c) : ∀ i, i ≤ l.length → i ≤ p → pvF s p i = vF 0 (l.take i)
  | 0, _, _ => rfl
  | i + 1, h, hp => by
    have hi : i < l.length := by omega
    have h1 : l[i]? = some l[i] := List.getElem?_eq_getElem hi
    rw [take_s h1, vF_app, ← pvF_pre (p := p) hl i (by omega) (by omega)]
    show (if i = p then _ else _) = _
    rw [if_neg (show ¬ i = p by omega)]
    have h2 : bt s i = (l[i].toNat : Int) := by rw [bt_g, List.getD_eq_getElem?_getD, hl i _ h1]; rfl
    rw [h2]
    rfl

theorem fmP {x : Int} (h0 : 0 ≤ x) (hx : in64 x) : FmP (fmtT x) (ndg (x.natAbs / 100)) x.natAbs := by
  have hb := fmt_bL h0
  obtain ⟨m, hm⟩ : ∃ m, m = x.natAbs := ⟨_, rfl⟩
  have hm2 : m ≤ 9223372036854775807 := by unfold in64 at hx; omega
  rw [← hm] at hb ⊢
  have hN := ndg_is (u := m / 100) (by omega)
  obtain ⟨p, hp⟩ : ∃ p, p = ndg (m / 100) := ⟨_, rfl⟩
  obtain ⟨u, hu⟩ : ∃ u, u = m / 100 := ⟨_, rfl⟩
  unfold fmC at hb
  rw [← hu] at hN hp hb
  rw [← hp] at hN hb
  rw [← hu, ← hp]
  have hlen := dcL_len p u
  have hsz : (fmtT x).size = p + 3 := by
    rw [← bL_len, hb, List.length_append, hlen]
    rfl
  have hat : ∀ (i : Nat) (c : UInt8), (dcL p u)[i]? = some c → (bL (fmtT x))[i]? = some c := fun i c h => by
    rw [hb]
    exact List.getElem?_append_left (by rw [List.getElem?_eq_some_iff] at h; exact h.1) ▸ h
  have hat3 : ∀ j, (bL (fmtT x)).getD (p + j) 0 = ([46, UInt8.ofNat (48 + m % 100 / 10), UInt8.ofNat (48 + m % 10)] : List UInt8).getD j 0 := fun j => by
    rw [hb, List.getD_eq_getElem?_getD, List.getElem?_append_right (by rw [hlen]; omega), hlen, Nat.add_sub_cancel_left, ← List.getD_eq_getElem?_getD]
  have hdc : ∀ i, i < p → ∃ c, (dcL p u)[i]? = some c ∧ c = dC p u i ∧ bt (fmtT x) i = (c.toNat : Int) := fun i hi => by
    have h1 : (dcL p u)[i]? = some (dC p u i) := by
      unfold dcL
      rw [List.getElem?_map, List.getElem?_range hi]
      rfl
    refine ⟨_, h1, rfl, ?_⟩
    rw [bt_g, List.getD_eq_getElem?_getD, hat i _ h1]
    rfl
  have b0 : bt (fmtT x) p = 46 := by
    have := hat3 0
    rw [bt_g]
    rw [Nat.add_zero] at this
    rw [this]
    rfl
  have b1 : bt (fmtT x) (p + 1) = ((48 + m % 100 / 10 : Nat) : Int) := by
    rw [bt_g, hat3 1]
    show (((UInt8.ofNat (48 + m % 100 / 10)).toNat : Nat) : Int) = _
    rw [UInt8.toNat_ofNat']
    omega
  have b2 : bt (fmtT x) (p + 2) = ((48 + m % 10 : Nat) : Int) := by
    rw [bt_g, hat3 2]
    show (((UInt8.ofNat (48 + m % 10)).toNat : Nat) : Int) = _
    rw [UInt8.toNat_ofNat']
    omega
  refine ⟨hsz, hN.pos, b0, fun i hi hne => ?_, fun hz => ?_, ?_, hm2⟩
  · rw [hsz] at hi
    by_cases c : i < p
    · obtain ⟨c, -, hc, hbt⟩ := hdc i c
      have := dC_D p u i
      rw [← hc] at this
      unfold isD at this
      rw [hbt]
      omega
    · rcases (show i = p + 1 ∨ i = p + 2 by omega) with rfl | rfl
      · rw [b1]; omega
      · rw [b2]; omega
  · rcases hN.ge with e | e
    · exact e
    · exfalso
      obtain ⟨c, -, hc, hbt⟩ := hdc 0 (by have := hN.pos; omega)
      rw [hbt, hc, dC_n] at hz
      have hd : dgt p u 0 = 0 := by omega
      unfold dgt at hd
      have hpp := hN.pos
      rw [Nat.sub_zero] at hd
      have h1 : 1 ≤ u / 10 ^ (p - 1) := (Nat.one_le_div_iff (Nat.pos_of_ne_zero (by simp))).2 e
      have h2 : u / 10 ^ (p - 1) < 10 := by
        refine Nat.div_lt_of_lt_mul ?_
        have h3 := hN.lt
        rw [← Nat.pow_succ]
        rw [show (p - 1).succ = p by omega]
        exact h3
      omega
  · have h1 := pvF_pre (p := p) hat p (by rw [hlen]; omega) (Nat.le_refl _)
    have e : (dcL p u).take p = dcL p u := List.take_of_length_le (by omega)
    rw [e, vF_dcL hN.lt] at h1
    rw [hsz]
    show (if p + 2 = p then _ else 10 * (if p + 1 = p then _ else 10 * (if p = p then _ else _) + _) + _) = _
    rw [if_neg (by omega), if_neg (by omega), if_pos rfl, h1, b1, b2]
    omega

def PaV (s : ByteArray) (r : AV) : Prop := ∃ (v : Int) (b : Bool), r = tup2 (I v) (B b) ∧ in64 v ∧ ∀ x : Int, 0 ≤ x → in64 x → s = fmtT x → v = x ∧ b = true
theorem pa_no {s : ByteArray} (h : ∀ p a, ¬ FmP s p a) : nf (packA [AV.val (.int .i64 0), AV.val (.bool false)]) ∧ PaV s (packA [AV.val (.int .i64 0), AV.val (.bool false)]) :=
  ⟨⟨trivial, trivial, trivial⟩, 0, false, rfl, by unfold in64; omega, fun x h0 hx he => absurd (fmP h0 hx) (he ▸ h _ _)⟩
theorem parse_x (s : ByteArray) (hs : s.size ≤ 1048576) : PureX Tryd.prog (gl0 ml) money_Parse [Tx s] (PaV s) := by
  refine pure_fnX mixed fn_money_Parse nt_money_Parse hc_money_Parse (by simp) (gl0n ml) (by simp [nf]) ?_
  conv => whnf
  conv => whnf
  by_cases c0 : ((s.size : Nat) : Int) > 0
  rotate_left
  · refine br_false (decide_eq_false (c0)) ?_
    conv => whnf
    have hz : s.size = 0 := by omega
    rw [hz]
    conv => whnf
    refine fin_e ?_
    conv => whnf
    exact pa_no (fun p a h => by have := h.n; omega)
  refine br_true (decide_eq_true (c0)) ?_
  conv => whnf
  refine And.intro (by omega) ?_
  conv => whnf
  by_cases c1 : bt s 0 = 45
  refine br_true (decide_eq_true (c1)) ?_
  conv => whnf
  repeat' first
    | (rw [wpE_one])
    | (refine And.intro (by omega) ?_; (conv => whnf))
    | fail
  generalize ht : ByteArray.extract s _ _ = t
  have hts : t.size ≤ s.size := by rw [← ht, ByteArray.size_extract]; omega
  obtain ⟨ng, hng⟩ : ∃ ng : Bool, ng = true := ⟨_, rfl⟩
  have hno : ∀ p a, ¬ FmP s p a := fun p a h => by
    have h1 := h.dg 0 (by omega) (by have := h.p1; omega)
    omega
  have no : (∀ p a, ¬ FmP t p a) → nf (packA [AV.val (.int .i64 0), AV.val (.bool false)]) ∧ PaV s (packA [AV.val (.int .i64 0), AV.val (.bool false)]) := fun _ => pa_no hno
  have nn : ng = true → nf (packA [AV.val (.int .i64 0), AV.val (.bool false)]) ∧ PaV s (packA [AV.val (.int .i64 0), AV.val (.bool false)]) := fun _ => pa_no hno
  have fin : ∀ (v : Int) (b : Bool), in64 v → (∀ (x : Int) (p' : Nat), 0 ≤ x → in64 x → ng = false → FmP t p' x.natAbs → v = x ∧ b = true) → nf (packA [I v, B b]) ∧ PaV s (packA [I v, B b]) := fun v b hv h => ⟨⟨trivial, trivial, trivial⟩, v, b, rfl, hv, fun x h0 hx he => absurd (fmP h0 hx) (he ▸ hno _ _)⟩
  clear hno ht c1 c0
  rotate_left
  refine br_false (decide_eq_false (c1)) ?_
  conv => whnf
  obtain ⟨t, ht⟩ : ∃ t, t = s := ⟨_, rfl⟩
  rw [← ht]
  have hts : t.size ≤ s.size := by rw [ht]; exact Nat.le_refl _
  obtain ⟨ng, hng⟩ : ∃ ng : Bool, ng = false := ⟨_, rfl⟩
  have no : (∀ p a, ¬ FmP t p a) → nf (packA [AV.val (.int .i64 0), AV.val (.bool false)]) ∧ PaV t (packA [AV.val (.int .i64 0), AV.val (.bool false)]) := pa_no
  have nn : ng = true → nf (packA [AV.val (.int .i64 0), AV.val (.bool false)]) ∧ PaV t (packA [AV.val (.int .i64 0), AV.val (.bool false)]) := fun h => by rw [hng] at h; cases h
  have fin : ∀ (v : Int) (b : Bool), in64 v → (∀ (x : Int) (p' : Nat), 0 ≤ x → in64 x → ng = false → FmP t p' x.natAbs → v = x ∧ b = true) → nf (packA [I v, B b]) ∧ PaV t (packA [I v, B b]) := fun v b hv h => ⟨⟨trivial, trivial, trivial⟩, v, b, rfl, hv, fun x h0 hx he => h x _ h0 hx hng (he ▸ fmP h0 hx)⟩
  clear ht c1 c0
  all_goals
    by_cases c2 : t.size < 4
    · rw [show IntKind.i64.wrap (((t.size : Nat) : Int) - 3) = ((t.size : Nat) : Int) - 3 from wrap_id (by unfold in64; omega)]
      refine br_true (decide_eq_true ((by omega : ((t.size : Nat) : Int) - 3 < 1))) ?_
      conv => whnf
      refine fin_e ?_
      conv => whnf
      exact no (fun p a h => by have := h.n; have := h.p1; omega)
    obtain ⟨p, hp⟩ : ∃ p, t.size = p + 3 := ⟨t.size - 3, by omega⟩
    rw [show IntKind.i64.wrap (((t.size : Nat) : Int) - 3) = ((p : Nat) : Int) by rw [wrap_id (by unfold in64; omega)]; omega]
    refine br_false (decide_eq_false ((by omega : ¬ ((p : Nat) : Int) < 1))) ?_
    conv => whnf
    repeat' first
      | (rw [wpE_one])
      | (refine And.intro (by omega) ?_; (conv => whnf))
      | fail
    rw [Int.toNat_natCast]
    by_cases c3 : bt t p = 46
    rotate_left
    · refine br_true (decide_eq_true (c3)) ?_
      conv => whnf
      refine fin_e ?_
      conv => whnf
      exact no (fun p' a h => c3 (by rw [show p = p' by have := h.n; omega]; exact h.pt))
    refine br_false (decide_eq_false (by simpa using c3)) ?_
    conv => whnf
    repeat' first
      | (rw [wpE_one])
      | (refine And.intro (by omega) ?_; (conv => whnf))
      | fail
    refine br_dec (fun h0 => ?_) (fun h0 => ?_)
    conv => whnf
    refine br_dec (fun h1 => ?_) (fun h1 => ?_)
    · conv => whnf
      refine fin_e ?_
      conv => whnf
      exact no (fun p' a h => by have := h.z h0; have := h.n; omega)
    all_goals
      conv => whnf
      refine loop_at mixed (fun (i : Nat) => ([(8, I i), (7, U (pvF t p i : Nat)), (4, T t), (6, I p), (5, B ng), (3, B false), (2, I 0)], [], 0)) (fun i => i ≤ t.size ∧ pvF t p i ≤ 9223372036854775808) (fun i => t.size - i) 0 ⟨Nat.zero_le _, by show 0 ≤ _; omega⟩ (le_st (le_r rfl) (leE_i rfl rfl (leE_eq rfl (bnd_nf _ (trivial)) (leE_eq rfl (bnd_nf _ (trivial)) (leE_i rfl rfl (leE_le rfl ((by rw [hng]; exact Le.refl _) ) (bnd_nf _ ( trivial)) (leE_eq rfl (bnd_nf _ (trivial)) (leE_i rfl rfl trivial))))))) trivial (gl0n ml)) ?_
      rintro i ⟨hi, hv⟩
      conv => whnf
      by_cases cI : i < t.size
      · refine br_true (decide_eq_true ((by omega : ((i : Nat) : Int) < (t.size : Nat)))) ?_
        conv => whnf
        have stp : pvF t p (i + 1) = if i = p then pvF t p i else 10 * pvF t p i + ((bt t i).toNat - 48) := rfl
        by_cases cp : ((i : Nat) : Int) = (p : Nat)
        · refine br_true (decide_eq_true (cp)) ?_
          conv => whnf
          rw [if_pos (by omega)] at stp
          exact ⟨i + 1, ⟨cI, by rw [stp]; exact hv⟩, (by show t.size - (i + 1) < t.size - i; omega), (le_st (le_r rfl) (leE_i rfl ((by rw [wrap_id (by unfold in64; omega)]; omega)) (leE_le rfl ((by rw [stp]; exact Le.refl _) ) (bnd_nf _ ( trivial)) (leE_eq rfl (bnd_nf _ (trivial)) (leE_i rfl rfl (leE_eq rfl (bnd_nf _ (trivial)) (leE_eq rfl (bnd_nf _ (trivial)) (leE_i rfl rfl trivial))))))) trivial (gl0n ml))⟩
        · refine br_false (decide_eq_false (cp)) ?_
          conv => whnf
          rw [if_neg (by omega)] at stp
          repeat' first
            | (rw [wpE_one])
            | (refine And.intro (by omega) ?_; (conv => whnf))
            | fail
          rw [Int.toNat_natCast]
          have hb := bt_lt t i
          generalize hB : bt t i = bb at stp hb
          have hfd : ∀ p' a, FmP t p' a → 48 ≤ bb ∧ bb ≤ 57 := fun p' a h => by have := h.dg i cI (by have := h.n; omega); rw [hB] at this; exact this
          by_cases d1 : bb < 48
          · refine br_true (decide_eq_true (d1)) ?_
            conv => whnf
            refine fin_e ?_
            conv => whnf
            exact no (fun p' a h => by have := hfd p' a h; omega)
          refine br_false (decide_eq_false (d1)) ?_
          conv => whnf
          repeat' first
            | (rw [wpE_one])
            | (refine And.intro (by omega) ?_; (conv => whnf))
            | fail
          rw [Int.toNat_natCast, hB]
          by_cases d2 : bb > 57
          · refine br_true (decide_eq_true (d2)) ?_
            conv => whnf
            refine fin_e ?_
            conv => whnf
            exact no (fun p' a h => by have := hfd p' a h; omega)
          refine br_false (decide_eq_false (d2)) ?_
          conv => whnf
          repeat' first
            | (rw [wpE_one])
            | (refine And.intro (by omega) ?_; (conv => whnf))
            | fail
          obtain ⟨d, hd⟩ : ∃ d, d = bb.toNat - 48 := ⟨_, rfl⟩
          obtain ⟨m, hm⟩ : ∃ m, m = pvF t p i := ⟨_, rfl⟩
          rw [← hd, ← hm] at stp
          rw [← hm] at hv
          rw [Int.toNat_natCast, hB, ← hm]
          have e0 : bb - 48 = ((d : Nat) : Int) := by omega
          have e1 : IntKind.u64.wrap ((d : Nat) : Int) = (d : Nat) := wrapu_id (by unfold inU64; omega)
          have e2 : IntKind.u64.wrap (9223372036854775808 - ((d : Nat) : Int)) = ((9223372036854775808 - d : Nat) : Int) := by rw [wrapu_id (by unfold inU64; omega)]; omega
          obtain ⟨q, hq⟩ : ∃ q, q = (9223372036854775808 - d) / 10 := ⟨_, rfl⟩
          have e3 : (((9223372036854775808 - d : Nat) : Int)).tdiv 10 = (q : Nat) := by rw [hq]; exact (Int.ofNat_tdiv (9223372036854775808 - d) 10).symm
          have e4 : IntKind.u64.wrap ((q : Nat) : Int) = (q : Nat) := wrapu_id (by unfold inU64; omega)
          rw [e0, wrap8 (by omega), e1]
          repeat' first
            | (rw [wpE_one])
            | (rw [e2])
            | (rw [e3])
            | (rw [e4])
            | (refine And.intro (by first | decide | omega) ?_; (conv => whnf))
            | fail
          by_cases d3 : ((m : Nat) : Int) > ((q : Nat) : Int)
          · refine br_true (decide_eq_true (d3)) ?_
            conv => whnf
            refine fin_e ?_
            conv => whnf
            exact no (fun p' a h => by
              have h3 : p = p' := by have := h.n; omega
              have h4 := pvF_le t p (show i + 1 ≤ t.size by omega)
              rw [h3, h.v, ← h3, stp] at h4
              have := h.hi
              omega)
          refine br_false (decide_eq_false (d3)) ?_
          conv => whnf
          have e5 : IntKind.u64.wrap (10 * ((m : Nat) : Int)) = ((10 * m : Nat) : Int) := by rw [wrapu_id (by unfold inU64; omega)]; omega
          have e6 : IntKind.u64.wrap (((10 * m : Nat) : Int) + (d : Nat)) = ((10 * m + d : Nat) : Int) := by rw [wrapu_id (by unfold inU64; omega)]; omega
          exact ⟨i + 1, ⟨cI, by rw [stp]; omega⟩, (by show t.size - (i + 1) < t.size - i; omega), (le_st (le_r rfl) (leE_i rfl ((by rw [wrap_id (by unfold in64; omega)]; omega)) (leE_le rfl ((by rw [stp, e5, e6]; exact Le.refl _) ) (bnd_nf _ ( trivial)) (leE_eq rfl (bnd_nf _ (trivial)) (leE_i rfl rfl (leE_eq rfl (bnd_nf _ (trivial)) (leE_eq rfl (bnd_nf _ (trivial)) (leE_i rfl rfl trivial))))))) trivial (gl0n ml))⟩
      · refine br_false (decide_eq_false ((by omega : ¬ ((i : Nat) : Int) < (t.size : Nat)))) ?_
        conv => whnf
        obtain rfl : i = t.size := by omega
        cases ng
        · conv => whnf
          refine call_x2 (wsign_x false (pvF t p t.size) hv) (LeL.refl _) ?_
          rintro _ - ⟨v, b, rfl, hv2, hw⟩
          conv => whnf
          refine fin_e ?_
          conv => whnf
          refine fin v b hv2 (fun x p' h0 hx _ h => ?_)
          have h3 : p = p' := by have := h.n; omega
          have h4 := h.v
          rw [← h3] at h4
          have h5 := hw rfl (by rw [h4]; exact h.hi)
          exact ⟨by rw [h5.1, h4]; omega, h5.2⟩
        · conv => whnf
          by_cases cz : ((pvF t p t.size : Nat) : Int) = 0
          · refine br_true (decide_eq_true (cz)) ?_
            conv => whnf
            refine fin_e ?_
            conv => whnf
            exact nn rfl
          · refine br_false (decide_eq_false (cz)) ?_
            conv => whnf
            refine call_x2 (wsign_x true (pvF t p t.size) hv) (LeL.refl _) ?_
            rintro _ - ⟨v, b, rfl, hv2, hw⟩
            conv => whnf
            refine fin_e ?_
            conv => whnf
            exact fin v b hv2 (fun x p' h0 hx h => by cases h)

end Go.Proofs.YtankpibkakfnhaaDoor
namespace Go.Proofs.YtankpibkakfnhaaDoor
open Go Ar
variable {ml : GV}
set_option linter.unusedVariables false
set_option autoImplicit false
set_option maxHeartbeats 4000000
set_option maxRecDepth 100000

def FiV (k : Nat) (s : ByteArray) (r : AV) : Prop := ∃ (l a : Int) (b : Bool), r = tup3 (I l) (I a) (B b) ∧ in64 l ∧ in64 a ∧ ∀ L A : Int, 0 ≤ L → in64 L → 0 ≤ A → in64 A → s = senT k (itoaT L) (fmtT A) → l = L ∧ a = A ∧ b = true

/-- What the three cuts come to. -/
structure CutP (k : Nat) (s : ByteArray) (b1 b2 b3 : Bool) (c1 c2 : ByteArray) : Prop where
  h : ∀ L A : Int, 0 ≤ L → in64 L → 0 ≤ A → in64 A → s = senT k (itoaT L) (fmtT A) → b1 = true ∧ b2 = true ∧ b3 = true ∧ c1 = (if fA k then fmtT A else itoaT L) ∧ c2 = (if fA k then itoaT L else fmtT A)
  n1 : c1.size ≤ s.size
  n2 : c2.size ≤ s.size

theorem cutP {k : Nat} (h1 : 1 ≤ k) (h2 : k ≤ 9) (s : ByteArray) {X Y c1 c2 : ByteArray} {b1 b2 b3 : Bool} (e1 : Lib.hasPrefix (bL s) (bL (fF k)) = b1) (eX : bT (Lib.trimPrefix (bL s) (bL (fF k))) = X) (e2 : Lib.hasSuffix (bL X) (bL (fL k)) = b2) (eY : bT (Lib.trimSuffix (bL X) (bL (fL k))) = Y)
    (e3 : (Lib.cut (bL Y) (bL (fM k))).2.2 = b3) (e4 : bT (Lib.cut (bL Y) (bL (fM k))).1 = c1) (e5 : bT (Lib.cut (bL Y) (bL (fM k))).2.1 = c2) : CutP k s b1 b2 b3 c1 c2 := by
  have nX : X.size ≤ s.size := by rw [← eX, bT_size, ← bL_len]; exact trim_len _ _
  have nY : Y.size ≤ X.size := by rw [← eY, bT_size, ← bL_len]; exact trimS_len _ _
  have nc := cut_len (bL Y) (bL (fM k))
  rw [bL_len] at nc
  refine ⟨fun L A hL hL2 hA hA2 hs => ?_, by rw [← e4, bT_size]; omega, by rw [← e5, bT_size]; omega⟩
  have hb : bL s = senC k L.natAbs A.natAbs := by rw [hs, sen_bL k hL hA]
  have f1 := fill1 k L.natAbs A.natAbs
  have f2 := fill2 k L.natAbs A.natAbs
  have f3 := fill3 h1 h2 L.natAbs A.natAbs
  rw [← hb] at f1
  have bX : bL X = w1 k L.natAbs A.natAbs ++ bL (fM k) ++ w2 k L.natAbs A.natAbs ++ bL (fL k) := by rw [← eX, bL_bT, f1.2]
  rw [← bX] at f2
  have bY : bL Y = w1 k L.natAbs A.natAbs ++ bL (fM k) ++ w2 k L.natAbs A.natAbs := by rw [← eY, bL_bT, f2.2]
  rw [← bY] at f3
  rw [f3] at e3 e4 e5
  refine ⟨by rw [← e1, f1.1], by rw [← e2, f2.1], e3.symm, ?_, ?_⟩
  · rw [← e4]
    refine bL_inj ?_
    rw [bL_bT]
    unfold w1
    split
    · exact (fmt_bL hA).symm
    · exact (itoa_bL hL).symm
  · rw [← e5]
    refine bL_inj ?_
    rw [bL_bT]
    unfold w2
    split
    · exact (itoa_bL hL).symm
    · exact (fmt_bL hA).symm

theorem fill_x (k : Nat) (s : ByteArray) (h1 : 1 ≤ k) (h2 : k ≤ 9) (hs : s.size ≤ 1048576) : PureX Tryd.prog (gl0 ml) report_form_fill [encF k, Tx s] (FiV k s) := by
  refine pure_fnX mixed fn_report_form_fill nt_report_form_fill hc_report_form_fill (by simp) (gl0n ml) (by simp [nf]) ?_
  conv => whnf
  conv => whnf
  refine call_x2 (cutP_x s (fF k)) (LeL.refl _) ?_
  rintro _ - rfl
  generalize eX : bT (Lib.trimPrefix (bL s) (bL (fF k))) = X
  generalize e1 : Lib.hasPrefix (bL s) (bL (fF k)) = b1
  have nX : X.size ≤ s.size := by rw [← eX, bT_size, ← bL_len]; exact trim_len _ _
  conv => whnf
  refine call_x2 (cutS_x X (fL k)) (LeL.refl _) ?_
  rintro _ - rfl
  generalize eY : bT (Lib.trimSuffix (bL X) (bL (fL k))) = Y
  generalize e2 : Lib.hasSuffix (bL X) (bL (fL k)) = b2
  have nY : Y.size ≤ X.size := by rw [← eY, bT_size, ← bL_len]; exact trimS_len _ _
  conv => whnf
  refine call_x2 (cut_x Y (fM k) (by omega)) (LeL.refl _) ?_
  rintro _ - rfl
  generalize e3 : (Lib.cut (bL Y) (bL (fM k))).2.2 = b3
  generalize e4 : bT (Lib.cut (bL Y) (bL (fM k))).1 = c1
  generalize e5 : bT (Lib.cut (bL Y) (bL (fM k))).2.1 = c2
  have hc := cutP h1 h2 s e1 eX e2 eY e3 e4 e5
  clear e1 e2 e3 e4 e5 eX eY nX nY
  have n1 := hc.n1
  have n2 := hc.n2
  have hc := hc.h
  have no : (∀ L A : Int, 0 ≤ L → in64 L → 0 ≤ A → in64 A → s ≠ senT k (itoaT L) (fmtT A)) → nf (packA [I 0, I 0, B false]) ∧ FiV k s (packA [I 0, I 0, B false]) := fun h => ⟨⟨trivial, trivial, trivial, trivial⟩, 0, 0, false, rfl, by unfold in64; omega, by unfold in64; omega, fun L A h1 h2 h3 h4 h5 => absurd h5 (h L A h1 h2 h3 h4)⟩
  cases b1
  · conv => whnf
    refine fin_e ?_
    conv => whnf
    exact no (fun L A h1 h2 h3 h4 h5 => by have := (hc L A h1 h2 h3 h4 h5).1; cases this)
  cases b2
  · conv => whnf
    refine fin_e ?_
    conv => whnf
    exact no (fun L A h1 h2 h3 h4 h5 => by have := (hc L A h1 h2 h3 h4 h5).2.1; cases this)
  cases b3
  · conv => whnf
    refine fin_e ?_
    conv => whnf
    exact no (fun L A h1 h2 h3 h4 h5 => by have := (hc L A h1 h2 h3 h4 h5).2.2.1; cases this)
  conv => whnf
  have hc : ∀ L A : Int, 0 ≤ L → in64 L → 0 ≤ A → in64 A → s = senT k (itoaT L) (fmtT A) → c1 = (if fA k then fmtT A else itoaT L) ∧ c2 = (if fA k then itoaT L else fmtT A) := fun L A h1 h2 h3 h4 h5 => (hc L A h1 h2 h3 h4 h5).2.2.2
  have fin : ∀ (l a : Int) (p q : Bool), in64 l → in64 a → (∀ L A : Int, 0 ≤ L → in64 L → 0 ≤ A → in64 A → s = senT k (itoaT L) (fmtT A) → (l = L ∧ p = true) ∧ (a = A ∧ q = true)) → nf (packA [I l, I a, B (p && q)]) ∧ FiV k s (packA [I l, I a, B (p && q)]) := fun l a p q hl ha h =>
    ⟨⟨trivial, trivial, trivial, trivial⟩, l, a, _, rfl, hl, ha, fun L A h1 h2 h3 h4 h5 => by
      obtain ⟨⟨r1, r2⟩, r3, r4⟩ := h L A h1 h2 h3 h4 h5
      exact ⟨r1, r3, by rw [r2, r4]; rfl⟩⟩
  by_cases hA : fA k = true
  · rw [hA]
    conv => whnf
    refine call_x2 (number_x c2 (by omega)) (LeL.refl _) ?_
    rintro _ - ⟨l, p, rfl, hl, hl2⟩
    conv => whnf
    refine call_x2 (parse_x c1 (by omega)) (LeL.refl _) ?_
    rintro _ - ⟨a, q, rfl, ha, ha2⟩
    have hf := fin l a p q hl ha (fun L A h1 h2 h3 h4 h5 => by
      have e := hc L A h1 h2 h3 h4 h5
      rw [if_pos hA, if_pos hA] at e
      exact ⟨hl2 L h1 h2 e.2, ha2 A h3 h4 e.1⟩)
    cases p <;> ((conv => whnf); refine fin_e ?_; (conv => whnf); exact hf)
  · have hA' : fA k = false := by simpa using hA
    rw [hA']
    conv => whnf
    refine call_x2 (number_x c1 (by omega)) (LeL.refl _) ?_
    rintro _ - ⟨l, p, rfl, hl, hl2⟩
    conv => whnf
    refine call_x2 (parse_x c2 (by omega)) (LeL.refl _) ?_
    rintro _ - ⟨a, q, rfl, ha, ha2⟩
    have hf := fin l a p q hl ha (fun L A h1 h2 h3 h4 h5 => by
      have e := hc L A h1 h2 h3 h4 h5
      rw [if_neg hA, if_neg hA] at e
      exact ⟨hl2 L h1 h2 e.1, ha2 A h3 h4 e.2⟩)
    cases p <;> ((conv => whnf); refine fin_e ?_; (conv => whnf); exact hf)

end Go.Proofs.YtankpibkakfnhaaDoor
