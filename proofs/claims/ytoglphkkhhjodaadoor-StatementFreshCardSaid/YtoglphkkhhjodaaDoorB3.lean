/- Numbers as text, by the library. No condition. -/
import Derived.Test.YtoglphkkhhjodaaDoorB2
set_option linter.all false
namespace Ar
open Go
set_option linter.unusedVariables false
set_option autoImplicit false
set_option maxHeartbeats 4000000

/-- One box is lent: it comes back written. -/
theorem call_l {P : Program} {gl : Nat → AV} {f : FuncId} {args args' : List AV} {o : Objs} {n : Nat} {Q : AV → Objs → Nat → Prop} {K : AV → Objs → Nat → Prop} (t : Nat) {a b0 : AV} (h : PureIX P gl f args' [(B0, .box b0)] 0 Q) (ht : lookO t o = some (.box a)) (hab : LeA a b0) (hb : nf b0)
    (hil : ∀ a ∈ args', il 0 1 a) (hl : LeL args (args'.map (ren (sg [] [t])))) (hn : Nat.ble n LENT = true)
    (hK : ∀ r o1 n1, Q r o1 n1 → ∃ b, o1 = [(B0, .box b)] ∧ n1 = 0 ∧ nf b ∧ nk r ∧ forceP ((t, .box b) :: dropO t o) fun o' => K (ren (tau n [t]) r) o' n) : CallB true P gl f args o n K := by
  obtain ⟨r, o1, n1, hq, hp⟩ := h
  obtain ⟨b, rfl, rfl, h2, h3, h4⟩ := hK r o1 n1 hq
  have h4 := forceP_iff.1 h4
  have d0 : ∀ k, dom 0 1 k → k = B0 := fun k hk => by
    rcases hk with hk | ⟨hk, hk2⟩
    · omega
    · have : k < B0 + 1 := hk2; omega
  have sB : sg [] [t] B0 = t := by show (if B0 < B0 then _ else [t].getD (B0 - B0) 0) = t; rw [if_neg (Nat.lt_irrefl _), Nat.sub_self]; rfl
  have tB : tau n [t] B0 = t := by show (if B0 < B0 then _ else [t].getD (B0 - B0) 0) = t; rw [if_neg (Nat.lt_irrefl _), Nat.sub_self]; rfl
  refine call_i [] [t] hp hil hl (fun k x hk => ?_) (fun k hk => ?_) (fun k hk => absurd hk (Nat.not_lt_zero k)) (Nat.zero_le _) (fun i j hi hj _ => by rw [d0 i hi, d0 j hj]) (fun k x hk => ?_) h3 (Nat.le_of_ble_eq_true hn) ?_
  · rw [lookO_cons] at hk
    by_cases e : B0 = k
    · exact .inr ⟨by omega, by show k < B0 + 1; omega⟩
    · rw [if_neg e] at hk; simp [lookO] at hk
  · obtain rfl := d0 k hk
    exact ⟨a, b0, by rw [show sg [] [t] B0 = t from sB]; exact ht, by rw [lookO_cons, if_pos rfl], hab, hb⟩
  · rw [lookO_cons] at hk
    by_cases e : B0 = k
    · rw [if_pos e] at hk; cases hk
      exact ⟨.inr ⟨by omega, by show k < B0 + 1; omega, b, rfl⟩, h2⟩
    · rw [if_neg e] at hk; simp [lookO] at hk
  · show K _ ((tau n [t] B0, _) :: ([] ++ dropL ([] ++ [t]) o)) (n + 0)
    rw [tB]
    exact h4

end Ar

namespace Go.Proofs.YtoglphkkhhjodaaDoor
open Go Ar
set_option linter.unusedVariables false
set_option autoImplicit false
set_option maxHeartbeats 4000000
set_option maxRecDepth 100000

theorem ble_d {d : Nat} (h : d ≤ 20) : (0 + ((d : Int).toNat - 0)).ble 24 = true := Nat.ble_eq_true_of_le (by omega)

theorem strF_d {d u lo : Nat} {g : Nat → AV} {f : Nat → Int} (h : ∀ i, i < d → g i = dgV lo d u f 0 (lo + i)) : strF ((d : Int).toNat - 0) g = decB d u := by
  unfold strF decB
  refine congrArg strOfNums (List.map_congr_left fun i hi => ?_)
  have hi : i < d := List.mem_range.1 hi
  rw [h i hi]
  show (if lo + 0 ≤ lo + i ∧ lo + i < lo + d then ((48 + dgt d u (lo + i - lo) : Nat) : Int) else f (lo + i)) = _
  rw [if_pos (by omega), Nat.add_sub_cancel_left]

theorem il_1 {d lo : Nat} {v : AV} (h : nf v) : ∀ a ∈ ([.sli B0 lo d 1 5, v] : List AV), il 0 1 a := by
  intro a ha
  rcases List.mem_cons.1 ha with rfl | ha
  · exact .inr ⟨Nat.le_refl _, by omega⟩
  · rcases List.mem_cons.1 ha with rfl | ha
    · exact il_nf _ h
    · cases ha

theorem fmtU_x (u : Nat) (hu : u < 18446744073709551616) : PureX Tryd.prog gl0 internal_strconv_FormatUint [U (u : Nat), I 10] (fun r => r = T (decT u)) := by
  refine pure_fnX mixed fn_internal_strconv_FormatUint nt_internal_strconv_FormatUint hc_internal_strconv_FormatUint (by simp) gl0n (by simp [nf]) ?_
  conv => whnf
  by_cases c : u < 100
  · refine br_true (decide_eq_true ((by omega : ((u : Nat) : Int) < 100))) ?_
    conv => whnf
    rw [show IntKind.i64.wrap ((u : Nat) : Int) = (u : Nat) from wrap_id (by unfold in64; omega)]
    refine call_x2 (small_x u c) (LeL.refl _) ?_
    rintro _ - rfl
    conv => whnf
    refine fin_e ?_
    conv => whnf
    exact ⟨trivial, rfl⟩
  · refine br_false (decide_eq_false ((by omega : ¬ (((u : Nat) : Int) < 100)))) ?_
    conv => whnf
    refine call_x2 (numDigits_x u (by omega) hu) (LeL.refl _) ?_
    rintro _ - rfl
    conv => whnf
    have hd := ndg_is hu
    have hd20 := ndg_le hu
    have hT : decT u = decB (ndg u) u := rfl
    rw [hT]
    generalize ndg u = d at hd hd20 ⊢
    have hp := hd.pos
    have hz : 0 + d = d := Nat.zero_add _
    repeat' first
      | (rw [wpE_one])
      | (refine And.intro (by omega) ?_; (conv => whnf))
      | fail
    refine call_l 0 (fmt10_i u 0 24 d hu hd.lt hp hd20 (by omega) (fun _ => 0)) rfl (LeA.refl _) (fun i => trivial) (il_1 ?_) ?_ rfl ?_
    · trivial
    · exact ⟨LeA.refl _ |>.le, LeA.refl _ |>.le, trivial⟩
    · rintro r _ _ ⟨⟨hr, hr'⟩, rfl, rfl⟩
      refine ⟨_, rfl, rfl, (fun i => trivial), hr, ?_⟩
      conv => whnf
      refine force_iff.2 ?_
      conv => whnf
      repeat' first
        | (rw [wpE_one])
        | (rw [ble_d hd20]; (conv => whnf))
        | (refine And.intro (by first | omega | decide | exact fun i hi => ⟨_, rfl⟩) ?_; (conv => whnf))
        | fail
      refine fin_e ?_
      conv => whnf
      exact ⟨trivial, congrArg (fun s => T s) (strF_d (fun i hi => rfl))⟩

end Go.Proofs.YtoglphkkhhjodaaDoor
namespace Go.Proofs.YtoglphkkhhjodaaDoor
open Go Ar
set_option linter.unusedVariables false
set_option autoImplicit false
set_option maxHeartbeats 4000000
set_option maxRecDepth 100000

/-- A whole number's text. -/
def itoaT (n : Int) : ByteArray := if n < 0 then strOfNums (45 :: (List.range (ndg n.natAbs)).map fun i => ((48 + dgt (ndg n.natAbs) n.natAbs i : Nat) : Int)) else decT n.natAbs

theorem sla_1 {d : Nat} : ((((1 + d : Nat) : Int)).toNat - Int.toNat 1) = d := by
  show 1 + d - 1 = d
  omega
theorem sl1_d (d : Nat) : Le (AV.sli 0 (Int.toNat 1) ((((1 + d : Nat) : Int)).toNat - Int.toNat 1) 1 5) (ren (sg [] [0]) (AV.sli B0 1 d 1 5)) := by
  rw [sla_1]; exact (LeA.refl _).le

theorem ble_g {d : Nat} (h : d ≤ 20) : (Int.toNat 1 + ((((1 + d : Nat) : Int)).toNat - Int.toNat 1)).ble 24 = true := Nat.ble_eq_true_of_le (by rw [sla_1]; show 1 + d ≤ 24; omega)
theorem ble_h {d : Nat} (h : d ≤ 20) : (0 + ((((1 + d : Nat) : Int)).toNat - 0)).ble 24 = true := Nat.ble_eq_true_of_le (by omega)

theorem strN_d {d u : Nat} {g : Nat → AV} {f : Nat → Int} (h : ∀ i, g i = selA (0 + i = Int.toNat 0) (Y 45) (dgV 1 d u f 0 (0 + i))) : strF ((((1 + d : Nat) : Int)).toNat - 0) g = strOfNums (45 :: (List.range d).map fun i => ((48 + dgt d u i : Nat) : Int)) := by
  unfold strF
  rw [show (((1 + d : Nat) : Int)).toNat - 0 = d + 1 by show 1 + d - 0 = d + 1; omega, List.range_succ_eq_map, List.map_cons, h 0, selA_eq, if_pos (show 0 + 0 = Int.toNat 0 from rfl), List.map_map]
  refine congrArg strOfNums (congrArg (List.cons (45 : Int)) (List.map_congr_left fun i hi => ?_))
  have hi : i < d := List.mem_range.1 hi
  show numA (g (i + 1)) = _
  rw [h (i + 1), selA_eq, if_neg (show ¬ (0 + (i + 1) = Int.toNat 0) by show ¬ (0 + (i + 1) = 0); omega)]
  show (if 1 + 0 ≤ 0 + (i + 1) ∧ 0 + (i + 1) < 1 + d then ((48 + dgt d u (0 + (i + 1) - 1) : Nat) : Int) else f (0 + (i + 1))) = _
  rw [if_pos (by omega), show 0 + (i + 1) - 1 = i by omega]

theorem strG_d {d u : Nat} {g : Nat → AV} {f : Nat → Int} (h : ∀ i, i < d → g i = dgV 1 d u f 0 (1 + i)) : strF ((((1 + d : Nat) : Int)).toNat - Int.toNat 1) g = decB d u := by
  rw [sla_1]; exact strF_d h

theorem fmtI_x (n : Int) (hn : in64 n) : PureX Tryd.prog gl0 internal_strconv_FormatInt [I n, I 10] (fun r => r = T (itoaT n)) := by
  refine pure_fnX mixed fn_internal_strconv_FormatInt nt_internal_strconv_FormatInt hc_internal_strconv_FormatInt (by simp) gl0n (by simp [nf]) ?_
  unfold in64 at hn
  conv => whnf
  by_cases c : n < 0
  · refine br_false (decide_eq_false ((by omega : ¬ (0 ≤ n)))) ?_
    conv => whnf
    refine br_true (decide_eq_true (c)) ?_
    conv => whnf
    obtain ⟨u, hu'⟩ : ∃ u : Nat, u = n.natAbs := ⟨_, rfl⟩
    have hw : IntKind.u64.wrap (0 - IntKind.u64.wrap n) = (u : Nat) := by
      show (0 - (n % 18446744073709551616)) % 18446744073709551616 = (u : Int)
      omega
    rw [show itoaT n = strOfNums (45 :: (List.range (ndg u)).map fun i => ((48 + dgt (ndg u) u i : Nat) : Int)) from by unfold itoaT; rw [if_pos c, hu']]
    rw [hw]
    have hu : u < 18446744073709551616 := by omega
    refine call_x2 (numDigits_x u (by omega) hu) (LeL.refl _) ?_
    rintro _ - rfl
    conv => whnf
    have hd := ndg_is hu
    have hd20 := ndg_le hu
    generalize ndg u = d at hd hd20 ⊢
    have hp := hd.pos
    have wd : IntKind.i64.wrap (1 + (d : Int)) = ((1 + d : Nat) : Int) := by rw [wrap_id (by unfold in64; omega)]; omega
    repeat' first
      | (rw [wpE_one])
      | (rw [wd]; (conv => whnf))
      | (rw [ble_g hd20]; (conv => whnf))
      | (rw [ble_h hd20]; (conv => whnf))
      | (rw [okN]; (try conv in (occs := *) (ev gl0 _ _) => all_goals whnf); (conv => whnf))
      | (refine And.intro (by first | omega | decide | (constructor <;> omega) | exact fun i hi => ⟨_, rfl⟩ | fail) ?_; (conv => whnf))
      | fail
    refine call_l 0 (fmt10_i u 1 24 d hu hd.lt hp hd20 (by omega) (fun _ => 0)) rfl (LeA.refl _) (fun i => trivial) (il_1 ?_) ?_ rfl ?_
    · trivial
    · exact ⟨sl1_d d, LeA.refl _ |>.le, trivial⟩
    · rintro r _ _ ⟨⟨hr, hr'⟩, rfl, rfl⟩
      refine ⟨_, rfl, rfl, (fun i => trivial), hr, ?_⟩
      conv => whnf
      refine force_iff.2 ?_
      conv => whnf
      refine br_true (decide_eq_true (c)) ?_
      conv => whnf
      repeat' first
        | (rw [wpE_one])
        | (rw [wd]; (conv => whnf))
        | (rw [ble_g hd20]; (conv => whnf))
        | (rw [ble_h hd20]; (conv => whnf))
        | (rw [okN]; (try conv in (occs := *) (ev gl0 _ _) => all_goals whnf); (conv => whnf))
        | (refine And.intro (by first | omega | decide | (constructor <;> omega) | exact fun i hi => ⟨_, rfl⟩ | fail) ?_; (conv => whnf))
        | fail
      refine fin_e ?_
      conv => whnf
      exact ⟨trivial, congrArg (fun s => T s) (strN_d (fun i => rfl))⟩
  · refine br_true (decide_eq_true ((by omega : 0 ≤ n))) ?_
    conv => whnf
    obtain ⟨u, rfl⟩ := Int.eq_ofNat_of_zero_le (show 0 ≤ n by omega)
    rw [show itoaT (u : Nat) = decT u from if_neg c]
    by_cases c2 : ((u : Nat) : Int) < 100
    · refine br_true (decide_eq_true (c2)) ?_
      conv => whnf
      refine call_x2 (small_x u (by omega)) (LeL.refl _) ?_
      rintro _ - rfl
      conv => whnf
      refine fin_e ?_
      conv => whnf
      exact ⟨trivial, rfl⟩
    · refine br_false (decide_eq_false (c2)) ?_
      conv => whnf
      have hu : u < 18446744073709551616 := by omega
      rw [show IntKind.u64.wrap ((u : Nat) : Int) = (u : Nat) from (by show ((u : Nat) : Int) % 18446744073709551616 = (u : Nat); omega)]
      refine call_x2 (numDigits_x u (by omega) hu) (LeL.refl _) ?_
      rintro _ - rfl
      conv => whnf
      have hd := ndg_is hu
      have hd20 := ndg_le hu
      have hT : decT u = decB (ndg u) u := rfl
      rw [hT]
      generalize ndg u = d at hd hd20 ⊢
      have hp := hd.pos
      have wd : IntKind.i64.wrap (1 + (d : Int)) = ((1 + d : Nat) : Int) := by rw [wrap_id (by unfold in64; omega)]; omega
      repeat' first
        | (rw [wpE_one])
        | (rw [wd]; (conv => whnf))
        | (rw [ble_g hd20]; (conv => whnf))
        | (rw [ble_h hd20]; (conv => whnf))
        | (rw [okN]; (try conv in (occs := *) (ev gl0 _ _) => all_goals whnf); (conv => whnf))
        | (refine And.intro (by first | omega | decide | (constructor <;> omega) | exact fun i hi => ⟨_, rfl⟩ | fail) ?_; (conv => whnf))
        | fail
      refine call_l 0 (fmt10_i u 1 24 d hu hd.lt hp hd20 (by omega) (fun _ => 0)) rfl (LeA.refl _) (fun i => trivial) (il_1 ?_) ?_ rfl ?_
      · trivial
      · exact ⟨sl1_d d, LeA.refl _ |>.le, trivial⟩
      · rintro r _ _ ⟨⟨hr, hr'⟩, rfl, rfl⟩
        refine ⟨_, rfl, rfl, (fun i => trivial), hr, ?_⟩
        conv => whnf
        refine force_iff.2 ?_
        conv => whnf
        repeat' first
          | (rw [wpE_one])
          | (rw [wd]; (conv => whnf))
          | (rw [ble_g hd20]; (conv => whnf))
          | (rw [ble_h hd20]; (conv => whnf))
          | (rw [okN]; (try conv in (occs := *) (ev gl0 _ _) => all_goals whnf); (conv => whnf))
          | (refine And.intro (by first | omega | decide | (constructor <;> omega) | exact fun i hi => ⟨_, rfl⟩ | fail) ?_; (conv => whnf))
          | fail
        refine fin_e ?_
        conv => whnf
        exact ⟨trivial, congrArg (fun s => T s) (strG_d (fun i hi => rfl))⟩

end Go.Proofs.YtoglphkkhhjodaaDoor
namespace Go.Proofs.YtoglphkkhhjodaaDoor
open Go Ar
set_option linter.unusedVariables false
set_option autoImplicit false
set_option maxHeartbeats 4000000
set_option maxRecDepth 100000

theorem itoa_x (n : Int) (hn : in64 n) : PureX Tryd.prog gl0 internal_strconv_Itoa [I n] (fun r => r = T (itoaT n)) := by
  refine pure_fnX mixed fn_internal_strconv_Itoa nt_internal_strconv_Itoa hc_internal_strconv_Itoa (by simp) gl0n (by simp [nf]) ?_
  conv => whnf
  try rw [wrap_id hn]
  refine call_x2 (fmtI_x n hn) (LeL.refl _) ?_
  rintro _ - rfl
  conv => whnf
  refine fin_e ?_
  conv => whnf
  exact ⟨trivial, rfl⟩

theorem itoaS_x (n : Int) (hn : in64 n) : PureX Tryd.prog gl0 strconv_Itoa [I n] (fun r => r = T (itoaT n)) := by
  refine pure_fnX mixed fn_strconv_Itoa nt_strconv_Itoa hc_strconv_Itoa (by simp) gl0n (by simp [nf]) ?_
  conv => whnf
  refine call_x2 (itoa_x n hn) (LeL.refl _) ?_
  rintro _ - rfl
  conv => whnf
  refine fin_e ?_
  conv => whnf
  exact ⟨trivial, rfl⟩

theorem fmtUS_x (u : Nat) (hu : u < 18446744073709551616) : PureX Tryd.prog gl0 strconv_FormatUint [U (u : Nat), I 10] (fun r => r = T (decT u)) := by
  refine pure_fnX mixed fn_strconv_FormatUint nt_strconv_FormatUint hc_strconv_FormatUint (by simp) gl0n (by simp [nf]) ?_
  conv => whnf
  refine call_x2 (fmtU_x u hu) (LeL.refl _) ?_
  rintro _ - rfl
  conv => whnf
  refine fin_e ?_
  conv => whnf
  exact ⟨trivial, rfl⟩

end Go.Proofs.YtoglphkkhhjodaaDoor
namespace Go.Proofs.YtoglphkkhhjodaaDoor
open Go Ar
set_option linter.unusedVariables false
set_option autoImplicit false
set_option maxHeartbeats 4000000
set_option maxRecDepth 100000

theorem decT_size (u : Nat) : (decT u).size = ndg u := by
  unfold decT decB
  rw [strOfNums_size, List.length_map, List.length_range]

theorem bt_strOfNums (l : List Int) (hl : ∀ x ∈ l, 0 ≤ x ∧ x < 256) (i : Nat) (hi : i < l.length) : bt (strOfNums l) i = l[i] := by
  have h := hl _ (List.getElem_mem hi)
  unfold bt strOfNums
  simp [hi]
  omega

theorem bt_dec {u i : Nat} (hi : i < ndg u) : bt (decT u) i = ((48 + dgt (ndg u) u i : Nat) : Int) := by
  unfold decT decB
  rw [bt_strOfNums _ (fun x hx => ?_) i (by rw [List.length_map, List.length_range]; exact hi), List.getElem_map, List.getElem_range]
  obtain ⟨j, -, rfl⟩ := List.mem_map.1 hx
  have : dgt (ndg u) u j < 10 := Nat.mod_lt _ (by decide)
  omega

/-- A row of bytes with a number's digits behind it. -/
def apD (n u : Nat) (f : Nat → Int) (j : Nat) : Int := if j < n then f j else ((48 + dgt (ndg u) u (j - n) : Nat) : Int)

theorem apD_s {n u i : Nat} {f : Nat → Int} (hi : i < n + ndg u) : appF n (fun i => Y (f i)) (fun i => AV.val (Value.int IntKind.u8 (bt (decT u) i))) i = Y (apD n u f i) := by
  unfold appF apD
  by_cases c : i < n
  · rw [if_pos c, if_pos c]
  · rw [if_neg c, if_neg c]; exact congrArg (fun x => Y x) (bt_dec (show i - n < ndg u by omega))

theorem apD_l {n u d i : Nat} {f : Nat → Int} (hi : i < n + ((d : Int).toNat - 0)) : appF n (fun i => Y (f i)) (fun i => dgV 0 d u (fun _ => 0) 0 (0 + i)) i = Y ((fun j => if j < n then f j else ((48 + dgt d u (j - n) : Nat) : Int)) i) := by
  unfold appF
  by_cases c : i < n
  · rw [if_pos c]; exact congrArg (fun x => Y x) (if_pos c).symm
  · rw [if_neg c]
    show Y (if 0 + 0 ≤ 0 + (i - n) ∧ 0 + (i - n) < 0 + d then ((48 + dgt d u (0 + (i - n) - 0) : Nat) : Int) else 0) = Y (if i < n then f i else _)
    rw [if_neg c, if_pos (by omega), Nat.zero_add, Nat.sub_zero]

theorem appU_x (u : Nat) (hu : u < 18446744073709551616) (n : Nat) (hn : n ≤ 1) (f : Nat → Int) : PureIX Tryd.prog gl0 internal_strconv_AppendUint [.sli 0 0 n 1 5, U (u : Nat), I 10] [(0, .box (.arr n 1 (fun i => Y (f i))))] 1 (fun r o1 n1 => ∃ k, (k = 1 ∨ k = 2) ∧ r = .sli k 0 (n + ndg u) 1 5 ∧ o1 = [(k, .box (.arr (n + ndg u) 1 (fun j => Y (apD n u f j))))] ∧ n1 = k + 1) := by
  refine pureI_fnX mixed fn_internal_strconv_AppendUint nt_internal_strconv_AppendUint hc_internal_strconv_AppendUint (by simp) gl0n ?_
  conv => whnf
  by_cases c : u < 100
  · refine br_true (decide_eq_true ((by omega : ((u : Nat) : Int) < 100))) ?_
    conv => whnf
    rw [show IntKind.i64.wrap ((u : Nat) : Int) = (u : Nat) from wrap_id (by unfold in64; omega)]
    refine call_x2 (small_x u c) (LeL.refl _) ?_
    rintro _ - rfl
    conv => whnf
    have hs := decT_size u
    have hd20 := ndg_le hu
    refine And.intro rfl ?_
    conv => whnf
    refine And.intro (by omega) ?_
    conv => whnf
    try rw [wpE_one]
    conv => whnf
    rw [hs]
    refine ⟨⟨[(6, .sli 1 0 (n + ndg u) 1 5)], [(1, .box (.arr (n + ndg u) 1 (fun j => Y (apD n u f j))))], 2, (le_st (le_r rfl) (leE_eq rfl (.inl (lt_r rfl)) trivial) (leO_box (lt_r rfl) rfl (LeA.arr (fun i hi => LeA.of_eq (apD_s hi)) ) (bnd_nf _ ( (fun i => trivial))) trivial) gl0n), ?_⟩⟩
    conv => whnf
    exact ⟨_, Le.refl _, 1, .inl rfl, rfl, rfl, rfl⟩
  · refine br_false (decide_eq_false ((by omega : ¬ (((u : Nat) : Int) < 100)))) ?_
    conv => whnf
    refine call_x2 (numDigits_x u (by omega) hu) (LeL.refl _) ?_
    rintro _ - rfl
    conv => whnf
    have hd := ndg_is hu
    have hd20 := ndg_le hu
    have hT : apD n u f = fun j => if j < n then f j else ((48 + dgt (ndg u) u (j - n) : Nat) : Int) := rfl
    rw [hT]
    generalize ndg u = d at hd hd20 ⊢
    have hp := hd.pos
    have hz : 0 + d = d := Nat.zero_add _
    repeat' first
      | (rw [wpE_one])
      | (refine And.intro (by omega) ?_; (conv => whnf))
      | fail
    refine call_l 1 (fmt10_i u 0 24 d hu hd.lt hp hd20 (by omega) (fun _ => 0)) rfl (LeA.refl _) (fun i => trivial) (il_1 ?_) ?_ rfl ?_
    · trivial
    · exact ⟨LeA.refl _ |>.le, LeA.refl _ |>.le, trivial⟩
    · rintro r _ _ ⟨⟨hr, hr'⟩, rfl, rfl⟩
      refine ⟨_, rfl, rfl, (fun i => trivial), hr, ?_⟩
      conv => whnf
      refine force_iff.2 ?_
      conv => whnf
      repeat' first
        | (rw [wpE_one])
        | (rw [ble_d hd20]; (conv => whnf))
        | (refine And.intro (by first | omega | decide | exact fun i hi => ⟨_, rfl⟩ | fail) ?_; (conv => whnf))
        | fail
      refine ⟨⟨[(6, .sli 2 0 (n + d) 1 5)], [(2, .box (.arr (n + d) 1 (fun j => Y ((fun j => if j < n then f j else ((48 + dgt d u (j - n) : Nat) : Int)) j))))], 3, (le_st (le_r rfl) (leE_eq rfl (.inl (lt_r rfl)) trivial) (leO_box (lt_r rfl) rfl (LeA.arr (fun i hi => LeA.of_eq (apD_l hi)) ) (bnd_nf _ ( (fun i => trivial))) trivial) gl0n), ?_⟩⟩
      conv => whnf
      exact ⟨_, Le.refl _, 2, .inr rfl, rfl, rfl, rfl⟩

end Go.Proofs.YtoglphkkhhjodaaDoor
namespace Go.Proofs.YtoglphkkhhjodaaDoor
open Go Ar
set_option linter.unusedVariables false
set_option autoImplicit false
set_option maxHeartbeats 4000000
set_option maxRecDepth 100000

theorem appUS_x (u : Nat) (hu : u < 18446744073709551616) (n : Nat) (hn : n ≤ 1) (f : Nat → Int) : PureIX Tryd.prog gl0 strconv_AppendUint [.sli 0 0 n 1 5, U (u : Nat), I 10] [(0, .box (.arr n 1 (fun i => Y (f i))))] 1 (fun r o1 n1 => ∃ k, (k = 2 ∨ k = 3) ∧ r = .sli k 0 (n + ndg u) 1 5 ∧ o1 = [(k, .box (.arr (n + ndg u) 1 (fun j => Y (apD n u f j))))] ∧ n1 = k + 1) := by
  refine pureI_fnX mixed fn_strconv_AppendUint nt_strconv_AppendUint hc_strconv_AppendUint (by simp) gl0n ?_
  conv => whnf
  refine call_g 0 (appU_x u hu n hn f) rfl rfl (LeA.refl _) (fun i => trivial) ?_ ?_ ?_
  · exact fun a ha => by
      rcases List.mem_cons.1 ha with rfl | ha
      · exact .inl (by decide)
      · rcases List.mem_cons.1 ha with rfl | ha
        · exact il_nf _ trivial
        · rcases List.mem_cons.1 ha with rfl | ha
          · exact il_nf _ trivial
          · cases ha
  · exact ⟨LeA.refl _ |>.le, LeA.refl _ |>.le, LeA.refl _ |>.le, trivial⟩
  · rintro r o1 n1 ⟨k, hk, rfl, rfl, rfl⟩
    rcases hk with rfl | rfl
    · refine ⟨⟨⟨.inl (by decide), fun i => trivial⟩, trivial⟩, trivial, rfl, ?_⟩
      conv => whnf
      try rw [wpE_one]
      conv => whnf
      refine ⟨⟨[(6, .sli 2 0 (n + ndg u) 1 5)], [(2, .box (.arr (n + ndg u) 1 (fun j => Y (apD n u f j))))], 3, (le_st (le_r rfl) (leE_eq rfl (.inl (lt_r rfl)) trivial) (leO_box (lt_r rfl) rfl (LeA.refl _ ) (bnd_nf _ ( (fun i => trivial))) trivial) gl0n), ?_⟩⟩
      conv => whnf
      exact ⟨_, Le.refl _, 2, .inl rfl, rfl, rfl, rfl⟩
    · refine ⟨⟨⟨.inl (by decide), fun i => trivial⟩, trivial⟩, trivial, rfl, ?_⟩
      conv => whnf
      try rw [wpE_one]
      conv => whnf
      refine ⟨⟨[(6, .sli 3 0 (n + ndg u) 1 5)], [(3, .box (.arr (n + ndg u) 1 (fun j => Y (apD n u f j))))], 4, (le_st (le_r rfl) (leE_eq rfl (.inl (lt_r rfl)) trivial) (leO_box (lt_r rfl) rfl (LeA.refl _ ) (bnd_nf _ ( (fun i => trivial))) trivial) gl0n), ?_⟩⟩
      conv => whnf
      exact ⟨_, Le.refl _, 3, .inr rfl, rfl, rfl, rfl⟩

theorem mag_x (x : Int) (hx : in64 x) : PureX Tryd.prog gl0 money_magnitude [I x] (fun r => r = U (x.natAbs : Nat)) := by
  refine pure_fnX mixed fn_money_magnitude nt_money_magnitude hc_money_magnitude (by simp) gl0n (by simp [nf]) ?_
  unfold in64 at hx
  conv => whnf
  by_cases c : x < 0
  · refine br_true (decide_eq_true (c)) ?_
    conv => whnf
    refine fin_e ?_
    conv => whnf
    refine ⟨trivial, congrArg (fun n => U n) ?_⟩
    show (0 - x % 18446744073709551616) % 18446744073709551616 = (x.natAbs : Int)
    omega
  · refine br_false (decide_eq_false (c)) ?_
    conv => whnf
    refine fin_e ?_
    conv => whnf
    refine ⟨trivial, congrArg (fun n => U n) ?_⟩
    show x % 18446744073709551616 = (x.natAbs : Int)
    omega

theorem size_x (x : Int) (hx : in64 x) : PureX Tryd.prog gl0 r1_size [I x] (fun r => r = U (x.natAbs : Nat)) := by
  refine pure_fnX mixed fn_r1_size nt_r1_size hc_r1_size (by simp) gl0n (by simp [nf]) ?_
  unfold in64 at hx
  conv => whnf
  by_cases c : x < 0
  · refine br_true (decide_eq_true (c)) ?_
    conv => whnf
    refine fin_e ?_
    conv => whnf
    refine ⟨trivial, congrArg (fun n => U n) ?_⟩
    rw [wrap_id (n := x + 1) (by unfold in64; omega), wrap_id (n := 0 - (x + 1)) (by unfold in64; omega)]
    show ((0 - (x + 1)) % 18446744073709551616 + 1) % 18446744073709551616 = (x.natAbs : Int)
    omega
  · refine br_false (decide_eq_false (c)) ?_
    conv => whnf
    refine fin_e ?_
    conv => whnf
    refine ⟨trivial, congrArg (fun n => U n) ?_⟩
    show x % 18446744073709551616 = (x.natAbs : Int)
    omega

end Go.Proofs.YtoglphkkhhjodaaDoor
namespace Go.Proofs.YtoglphkkhhjodaaDoor
open Go Ar
set_option linter.unusedVariables false
set_option autoImplicit false
set_option maxHeartbeats 4000000
set_option maxRecDepth 100000

/-- A number's digits. -/
def decL (u : Nat) : List Int := (List.range (ndg u)).map fun i => ((48 + dgt (ndg u) u i : Nat) : Int)
/-- An amount's text: sign, units, point and two digits. -/
def fmtN (m : Nat) : List Int := decL (m / 100) ++ [46, ((48 + m % 100 / 10 : Nat) : Int), ((48 + m % 10 : Nat) : Int)]
def fmtL (x : Int) : List Int := (if x < 0 then [45] else []) ++ fmtN x.natAbs
def fmtT (x : Int) : ByteArray := strOfNums (fmtL x)

theorem son_app (a b : List Int) : strOfNums a ++ strOfNums b = strOfNums (a ++ b) := by
  unfold strOfNums
  simp [ByteArray.ext_iff]
theorem decT_L (u : Nat) : decT u = strOfNums (decL u) := rfl
theorem decL_len (u : Nat) : (decL u).length = ndg u := by unfold decL; rw [List.length_map, List.length_range]
theorem decL_1 {u : Nat} (h : u < 10) : decL u = [((48 + u : Nat) : Int)] := by
  have : ∀ u : Fin 10, decL u.1 = [((48 + u.1 : Nat) : Int)] := by decide
  exact this ⟨u, h⟩

theorem r1Fmt_x (x : Int) (hx : in64 x) : PureX Tryd.prog gl0 r1_Format [I x] (fun r => r = T (fmtT x)) := by
  refine pure_fnX mixed fn_r1_Format nt_r1_Format hc_r1_Format (by simp) gl0n (by simp [nf]) ?_
  have hx' := hx
  unfold in64 at hx
  obtain ⟨m, hm⟩ : ∃ m, m = x.natAbs := ⟨_, rfl⟩
  have hm2 : m < 18446744073709551616 := by omega
  conv => whnf
  refine call_x2 (size_x x hx') (LeL.refl _) ?_
  rw [← hm]
  rintro _ - rfl
  conv => whnf
  obtain ⟨q, hq⟩ : ∃ q, q = m / 100 := ⟨_, rfl⟩
  obtain ⟨s, hs⟩ : ∃ s, s = m % 100 := ⟨_, rfl⟩
  obtain ⟨a, ha⟩ : ∃ a, a = s / 10 := ⟨_, rfl⟩
  obtain ⟨b, hb⟩ : ∃ b, b = s % 10 := ⟨_, rfl⟩
  have e1 : (m : Int).tmod 100 = (s : Nat) := by rw [hs]; exact (Int.ofNat_tmod m 100).symm
  have e2 : (m : Int).tdiv 100 = (q : Nat) := by rw [hq]; exact (Int.ofNat_tdiv m 100).symm
  have e3 : (s : Int).tdiv 10 = (a : Nat) := by rw [ha]; exact (Int.ofNat_tdiv s 10).symm
  have e4 : (s : Int).tmod 10 = (b : Nat) := by rw [hb]; exact (Int.ofNat_tmod s 10).symm
  have ha2 : a < 10 := by omega
  have hb2 : b < 10 := by omega
  have hq2 : q < 18446744073709551616 := by omega
  have hf : fmtN m = decL q ++ [46, ((48 + a : Nat) : Int), ((48 + b : Nat) : Int)] := by unfold fmtN; rw [hq, show m % 100 / 10 = a by omega, show m % 10 = b by omega]
  have hL : fmtL x = (if x < 0 then [45] else []) ++ fmtN m := by unfold fmtL; rw [hm]
  have hn := ndg_le hq2
  clear hq ha hb
  have w2 : IntKind.u64.wrap ((q : Nat) : Int) = (q : Nat) := by show ((q : Nat) : Int) % 18446744073709551616 = (q : Nat); omega
  have w3 : IntKind.u64.wrap ((a : Nat) : Int) = (a : Nat) := by show ((a : Nat) : Int) % 18446744073709551616 = (a : Nat); omega
  have z1 : (decT q).size = ndg q := decT_size q
  have z2 : (decT a).size = 1 := by rw [decT_L, decL_1 ha2]; rfl
  have z3 : (decT b).size = 1 := by rw [decT_L, decL_1 hb2]; rfl
  obtain ⟨A, hA⟩ : ∃ A, A = decT q ++ ⟨#[46]⟩ := ⟨_, rfl⟩
  obtain ⟨B, hB⟩ : ∃ B, B = A ++ decT a := ⟨_, rfl⟩
  obtain ⟨C, hC⟩ : ∃ C, C = B ++ decT b := ⟨_, rfl⟩
  have z4 : A.size = ndg q + 1 := by rw [hA, ByteArray.size_append, z1]; rfl
  have z5 : B.size = ndg q + 2 := by rw [hB, ByteArray.size_append, z4, z2]
  have z6 : C.size = ndg q + 3 := by rw [hC, ByteArray.size_append, z5, z3]
  have hC2 : C = strOfNums (fmtN m) := by
    rw [hC, hB, hA, decT_L, decT_L, decT_L, decL_1 ha2, decL_1 hb2, show (⟨#[46]⟩ : ByteArray) = strOfNums [46] from rfl, son_app, son_app, son_app, hf]
    refine congrArg strOfNums ?_
    simp
  repeat' first
    | (rw [wpE_one])
    | (refine And.intro (by decide) ?_; (conv => whnf))
    | (rw [e1])
    | (rw [e2])
    | (rw [w2])
    | fail
  refine call_x2 (fmtUS_x q hq2) (LeL.refl _) ?_
  rintro _ - rfl
  conv => whnf
  rw [← hA, z1]
  refine And.intro (show ndg q + 1 ≤ 9223372036854775807 by omega) ?_
  conv => whnf
  repeat' first
    | (rw [wpE_one])
    | (refine And.intro (by decide) ?_; (conv => whnf))
    | (rw [e3])
    | (rw [w3])
    | fail
  refine call_x2 (fmtUS_x a (by omega)) (LeL.refl _) ?_
  rintro _ - rfl
  conv => whnf
  rw [← hB, z4, z2]
  refine And.intro (show ndg q + 1 + 1 ≤ 9223372036854775807 by omega) ?_
  conv => whnf
  repeat' first
    | (rw [wpE_one])
    | (refine And.intro (by decide) ?_; (conv => whnf))
    | (rw [e4])
    | fail
  refine call_x2 (fmtUS_x b (by omega)) (LeL.refl _) ?_
  rintro _ - rfl
  conv => whnf
  rw [← hC, z5, z3]
  refine And.intro (show ndg q + 2 + 1 ≤ 9223372036854775807 by omega) ?_
  conv => whnf
  try rw [wpE_one]
  conv => whnf
  by_cases c : x < 0
  · refine br_true (decide_eq_true (c)) ?_
    conv => whnf
    rw [z6]
    refine And.intro (show 1 + (ndg q + 3) ≤ 9223372036854775807 by omega) ?_
    conv => whnf
    try rw [wpE_one]
    conv => whnf
    refine fin_e ?_
    conv => whnf
    refine ⟨trivial, congrArg (fun s => T s) ?_⟩
    unfold fmtT
    rw [hL, if_pos c, hC2, show (⟨#[45]⟩ : ByteArray) = strOfNums [45] from rfl, son_app]
  · refine br_false (decide_eq_false (c)) ?_
    conv => whnf
    refine fin_e ?_
    conv => whnf
    refine ⟨trivial, congrArg (fun s => T s) ?_⟩
    unfold fmtT
    rw [hL, if_neg c, hC2]
    rfl

theorem ble_z {M : Nat} : (0 + M).ble M = true := Nat.ble_eq_true_of_le (by omega)
theorem byAp {n q : Nat} {f : Nat → Int} {g : Nat → AV} {x y z : Int} (h0 : g 0 = Y x) (h1 : g 1 = Y y) (h2 : g 2 = Y z) : ∀ i, i < n + ndg q + 3 → ∃ b, appF (n + ndg q) (fun j => Y (apD n q f j)) g (0 + i) = .val (.int .u8 b) := by
  intro i hi
  unfold appF
  by_cases c : 0 + i < n + ndg q
  · rw [if_pos c]; exact ⟨_, rfl⟩
  · rw [if_neg c]
    rcases (show 0 + i - (n + ndg q) = 0 ∨ 0 + i - (n + ndg q) = 1 ∨ 0 + i - (n + ndg q) = 2 by omega) with e | e | e
    · rw [e, h0]; exact ⟨_, rfl⟩
    · rw [e, h1]; exact ⟨_, rfl⟩
    · rw [e, h2]; exact ⟨_, rfl⟩
theorem strAp {n q : Nat} {f : Nat → Int} {g : Nat → AV} {x y z : Int} (h0 : g 0 = Y x) (h1 : g 1 = Y y) (h2 : g 2 = Y z) : strF (n + ndg q + 3) (fun i => appF (n + ndg q) (fun j => Y (apD n q f j)) g (0 + i)) = strOfNums ((List.range n).map f ++ decL q ++ [x, y, z]) := by
  unfold strF
  refine congrArg strOfNums ?_
  refine List.ext_getElem ?_ fun i hi hj => ?_
  · simp [decL_len]; omega
  · rw [List.length_map, List.length_range] at hi
    rw [List.getElem_map, List.getElem_range]
    by_cases c : i < n + ndg q
    · rw [List.getElem_append_left (by simp [decL_len]; exact c)]
      show numA (appF (n + ndg q) _ g (0 + i)) = _
      unfold appF
      rw [if_pos (by omega)]
      show apD n q f (0 + i) = _
      unfold apD
      rw [Nat.zero_add]
      by_cases c2 : i < n
      · rw [if_pos c2, List.getElem_append_left (by simp; exact c2), List.getElem_map, List.getElem_range]
      · rw [if_neg c2, List.getElem_append_right (by simp; omega)]
        simp [decL]
    · rw [List.getElem_append_right (by simp [decL_len]; omega)]
      show numA (appF (n + ndg q) _ g (0 + i)) = _
      unfold appF
      rw [if_neg (by omega)]
      obtain ⟨k, hk, rfl⟩ : ∃ k, k < 3 ∧ i = n + ndg q + k := ⟨i - (n + ndg q), by omega, by omega⟩
      rw [show 0 + (n + ndg q + k) - (n + ndg q) = k by omega]
      have hl : ((List.range n).map f ++ decL q).length = n + ndg q := by simp [decL_len]
      simp only [hl, Nat.add_sub_cancel_left]
      rcases (show k = 0 ∨ k = 1 ∨ k = 2 by omega) with rfl | rfl | rfl
      · rw [h0]; rfl
      · rw [h1]; rfl
      · rw [h2]; rfl

theorem fmt_x (x : Int) (hx : in64 x) : PureX Tryd.prog gl0 money_Format [I x] (fun r => r = T (fmtT x)) := by
  refine pure_fnX mixed fn_money_Format nt_money_Format hc_money_Format (by simp) gl0n (by simp [nf]) ?_
  have hx' := hx
  unfold in64 at hx
  obtain ⟨m, hm⟩ : ∃ m, m = x.natAbs := ⟨_, rfl⟩
  have hm2 : m < 18446744073709551616 := by omega
  conv => whnf
  refine call_x2 (mag_x x hx') (LeL.refl _) ?_
  rw [← hm]
  rintro _ - rfl
  conv => whnf
  obtain ⟨q, hq⟩ : ∃ q, q = m / 100 := ⟨_, rfl⟩
  obtain ⟨s, hs⟩ : ∃ s, s = m % 100 := ⟨_, rfl⟩
  obtain ⟨a, ha⟩ : ∃ a, a = s / 10 := ⟨_, rfl⟩
  obtain ⟨b, hb⟩ : ∃ b, b = s % 10 := ⟨_, rfl⟩
  have e1 : (m : Int).tmod 100 = (s : Nat) := by rw [hs]; exact (Int.ofNat_tmod m 100).symm
  have e2 : (m : Int).tdiv 100 = (q : Nat) := by rw [hq]; exact (Int.ofNat_tdiv m 100).symm
  have e3 : (s : Int).tdiv 10 = (a : Nat) := by rw [ha]; exact (Int.ofNat_tdiv s 10).symm
  have e4 : (s : Int).tmod 10 = (b : Nat) := by rw [hb]; exact (Int.ofNat_tmod s 10).symm
  have ha2 : a < 10 := by omega
  have hb2 : b < 10 := by omega
  have hq2 : q < 18446744073709551616 := by omega
  have hf : fmtN m = decL q ++ [46, ((48 + a : Nat) : Int), ((48 + b : Nat) : Int)] := by unfold fmtN; rw [hq, show m % 100 / 10 = a by omega, show m % 10 = b by omega]
  have hL : fmtL x = (if x < 0 then [45] else []) ++ fmtN m := by unfold fmtL; rw [hm]
  have hn := ndg_le hq2
  have hs2 : s < 100 := by omega
  clear hq ha hb hs
  have w2 : IntKind.u64.wrap ((q : Nat) : Int) = (q : Nat) := by show ((q : Nat) : Int) % 18446744073709551616 = (q : Nat); omega
  have w3 : IntKind.u8.wrap ((s : Nat) : Int) = (s : Nat) := by show ((s : Nat) : Int) % 256 = (s : Nat); omega
  have w4 : IntKind.u8.wrap ((a : Nat) : Int) = (a : Nat) := by show ((a : Nat) : Int) % 256 = (a : Nat); omega
  have w5 : IntKind.u8.wrap (48 + (a : Int)) = ((48 + a : Nat) : Int) := by show (48 + (a : Int)) % 256 = _; omega
  have w6 : IntKind.u8.wrap (48 + (b : Int)) = ((48 + b : Nat) : Int) := by show (48 + (b : Int)) % 256 = _; omega
  refine And.intro (by decide) ?_
  conv => whnf
  try rw [wpE_one]
  conv => whnf
  by_cases c : x < 0
  · refine br_true (decide_eq_true (c)) ?_
    conv => whnf
    repeat' first
      | (rw [wpE_one])
      | (refine And.intro (by first | decide | omega | (show (_ + 3) * 1 ≤ 140737488355328; omega) | fail) ?_; (conv => whnf))
      | (rw [e1])
      | (rw [e2])
      | (rw [e3])
      | (rw [e4])
      | (rw [w2])
      | (rw [w3])
      | (rw [w4])
      | (rw [w5])
      | (rw [w6])
      | (rw [ble_z]; (conv => whnf))
      | (refine And.intro (byAp rfl rfl rfl) ?_; (conv => whnf))
      | fail
    refine call_g 2 (appUS_x q hq2 1 (by decide) (fun _ => 45)) rfl rfl (LeA.arr fun i hi => (by match i, hi with | 0, _ => exact LeA.of_eq rfl)) (fun i => trivial) ?_ ?_ ?_
    · exact fun a ha => by
        rcases List.mem_cons.1 ha with rfl | ha
        · exact .inl (by decide)
        · rcases List.mem_cons.1 ha with rfl | ha
          · exact il_nf _ trivial
          · rcases List.mem_cons.1 ha with rfl | ha
            · exact il_nf _ trivial
            · cases ha
    · exact ⟨LeA.refl _ |>.le, LeA.refl _ |>.le, LeA.refl _ |>.le, trivial⟩
    · rintro r o1 n1 ⟨k, hk, rfl, rfl, rfl⟩
      rcases hk with rfl | rfl
      · refine ⟨⟨⟨.inl (by decide), fun i => trivial⟩, trivial⟩, trivial, rfl, ?_⟩
        conv => whnf
        repeat' first
          | (rw [wpE_one])
          | (refine And.intro (by first | decide | omega | (show (_ + 3) * 1 ≤ 140737488355328; omega) | fail) ?_; (conv => whnf))
          | (rw [e1])
          | (rw [e2])
          | (rw [e3])
          | (rw [e4])
          | (rw [w2])
          | (rw [w3])
          | (rw [w4])
          | (rw [w5])
          | (rw [w6])
          | (rw [ble_z]; (conv => whnf))
          | (refine And.intro (byAp rfl rfl rfl) ?_; (conv => whnf))
          | fail
        refine fin_e ?_
        conv => whnf
        refine ⟨trivial, congrArg (fun s => T s) ((strAp rfl rfl rfl).trans ?_)⟩
        unfold fmtT
        rw [hL, if_pos c, hf]
        exact congrArg strOfNums (List.append_assoc _ _ _)
      · refine ⟨⟨⟨.inl (by decide), fun i => trivial⟩, trivial⟩, trivial, rfl, ?_⟩
        conv => whnf
        repeat' first
          | (rw [wpE_one])
          | (refine And.intro (by first | decide | omega | (show (_ + 3) * 1 ≤ 140737488355328; omega) | fail) ?_; (conv => whnf))
          | (rw [e1])
          | (rw [e2])
          | (rw [e3])
          | (rw [e4])
          | (rw [w2])
          | (rw [w3])
          | (rw [w4])
          | (rw [w5])
          | (rw [w6])
          | (rw [ble_z]; (conv => whnf))
          | (refine And.intro (byAp rfl rfl rfl) ?_; (conv => whnf))
          | fail
        refine fin_e ?_
        conv => whnf
        refine ⟨trivial, congrArg (fun s => T s) ((strAp rfl rfl rfl).trans ?_)⟩
        unfold fmtT
        rw [hL, if_pos c, hf]
        exact congrArg strOfNums (List.append_assoc _ _ _)
  · refine br_false (decide_eq_false (c)) ?_
    conv => whnf
    repeat' first
      | (rw [wpE_one])
      | (refine And.intro (by first | decide | omega | (show (_ + 3) * 1 ≤ 140737488355328; omega) | fail) ?_; (conv => whnf))
      | (rw [e1])
      | (rw [e2])
      | (rw [e3])
      | (rw [e4])
      | (rw [w2])
      | (rw [w3])
      | (rw [w4])
      | (rw [w5])
      | (rw [w6])
      | (rw [ble_z]; (conv => whnf))
      | (refine And.intro (byAp rfl rfl rfl) ?_; (conv => whnf))
      | fail
    refine call_g 0 (appUS_x q hq2 0 (by decide) (fun _ => 0)) rfl rfl (LeA.arr fun i hi => absurd hi (Nat.not_lt_zero i)) (fun i => trivial) ?_ ?_ ?_
    · exact fun a ha => by
        rcases List.mem_cons.1 ha with rfl | ha
        · exact .inl (by decide)
        · rcases List.mem_cons.1 ha with rfl | ha
          · exact il_nf _ trivial
          · rcases List.mem_cons.1 ha with rfl | ha
            · exact il_nf _ trivial
            · cases ha
    · exact ⟨LeA.refl _ |>.le, LeA.refl _ |>.le, LeA.refl _ |>.le, trivial⟩
    · rintro r o1 n1 ⟨k, hk, rfl, rfl, rfl⟩
      rcases hk with rfl | rfl
      · refine ⟨⟨⟨.inl (by decide), fun i => trivial⟩, trivial⟩, trivial, rfl, ?_⟩
        conv => whnf
        repeat' first
          | (rw [wpE_one])
          | (refine And.intro (by first | decide | omega | (show (_ + 3) * 1 ≤ 140737488355328; omega) | fail) ?_; (conv => whnf))
          | (rw [e1])
          | (rw [e2])
          | (rw [e3])
          | (rw [e4])
          | (rw [w2])
          | (rw [w3])
          | (rw [w4])
          | (rw [w5])
          | (rw [w6])
          | (rw [ble_z]; (conv => whnf))
          | (refine And.intro (byAp rfl rfl rfl) ?_; (conv => whnf))
          | fail
        refine fin_e ?_
        conv => whnf
        refine ⟨trivial, congrArg (fun s => T s) ((strAp rfl rfl rfl).trans ?_)⟩
        unfold fmtT
        rw [hL, if_neg c, hf]
        exact congrArg strOfNums (List.append_assoc _ _ _)
      · refine ⟨⟨⟨.inl (by decide), fun i => trivial⟩, trivial⟩, trivial, rfl, ?_⟩
        conv => whnf
        repeat' first
          | (rw [wpE_one])
          | (refine And.intro (by first | decide | omega | (show (_ + 3) * 1 ≤ 140737488355328; omega) | fail) ?_; (conv => whnf))
          | (rw [e1])
          | (rw [e2])
          | (rw [e3])
          | (rw [e4])
          | (rw [w2])
          | (rw [w3])
          | (rw [w4])
          | (rw [w5])
          | (rw [w6])
          | (rw [ble_z]; (conv => whnf))
          | (refine And.intro (byAp rfl rfl rfl) ?_; (conv => whnf))
          | fail
        refine fin_e ?_
        conv => whnf
        refine ⟨trivial, congrArg (fun s => T s) ((strAp rfl rfl rfl).trans ?_)⟩
        unfold fmtT
        rw [hL, if_neg c, hf]
        exact congrArg strOfNums (List.append_assoc _ _ _)

end Go.Proofs.YtoglphkkhhjodaaDoor
