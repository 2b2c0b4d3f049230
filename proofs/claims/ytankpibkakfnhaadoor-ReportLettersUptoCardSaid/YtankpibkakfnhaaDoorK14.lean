/- Amounts as text, by both sides. No condition. -/
import Derived.Test.YtankpibkakfnhaaDoorK13
import Derived.Test.YtankpibkakfnhaaDoorK11
import Derived.Shelf.Strconv.AtoiAll
import Derived.Shelf.Strings.Cut
import Derived.Shelf.Strings.Prefix
import Derived.Shelf.Small.Wraps
import Derived.Test.YtankpibkakfnhaaDoorProg
import Derived.KernelRfl
import Derived.Test.YtankpibkakfnhaaDoorK10
import Derived.WalkSmall
set_option linter.all false
namespace Go.Proofs.YtankpibkakfnhaaDoor
open Go Ar
variable {ml : GV}
set_option linter.unusedVariables false
set_option autoImplicit false
set_option maxHeartbeats 4000000
set_option maxRecDepth 100000

/-- A number's digits. -/
def decL (u : Nat) : List Int := (List.range (ndg u)).map fun i => ((48 + dgt (ndg u) u i : Nat) : Int)
/-- An amount's text: sign, units, point and two digits. -/
def fmtN (m : Nat) : List Int := decL (m / 100) ++ [46, ((48 + m % 100 / 10 : Nat) : Int), ((48 + m % 10 : Nat) : Int)]
def fmtL (x : Int) : List Int := (if x < 0 then [45] else []) ++ fmtN x.natAbs
def fmtT (x : Int) : ByteArray := strOfNums (fmtL x)

theorem son_app (a b : List Int) : strOfNums a ++ strOfNums b = strOfNums (a ++ b) := by
  unfold strOfNums
  simp [ByteArray.ext_iff]
theorem decT_L (u : Nat) : decT u = strOfNums (decL u) := rfl
theorem decL_len (u : Nat) : (decL u).length = ndg u := by unfold decL; rw [List.length_map, List.length_range]
theorem decL_1 {u : Nat} (h : u < 10) : decL u = [((48 + u : Nat) : Int)] := by
  have : ∀ u : Fin 10, decL u.1 = [((48 + u.1 : Nat) : Int)] := by decide
  exact this ⟨u, h⟩

theorem r1Fmt_x (x : Int) (hx : in64 x) : PureX Tryd.prog (gl0 ml) r1_Format [I x] (fun r => r = T (fmtT x)) := by
  refine pure_fnX mixed fn_r1_Format nt_r1_Format hc_r1_Format (by simp) (gl0n ml) (by simp [nf]) ?_
  have hx' := hx
  unfold in64 at hx
  obtain ⟨m, hm⟩ : ∃ m, m = x.natAbs := ⟨_, rfl⟩
  have hm2 : m < 18446744073709551616 := by omega
  conv => whnf
  refine call_x2 (size_x x hx') (LeL.refl _) ?_
  rw [← hm]
  rintro _ - rfl
  conv => whnf
  obtain ⟨q, hq⟩ : ∃ q, q = m / 100 := ⟨_, rfl⟩
  obtain ⟨s, hs⟩ : ∃ s, s = m % 100 := ⟨_, rfl⟩
  obtain ⟨a, ha⟩ : ∃ a, a = s / 10 := ⟨_, rfl⟩
  obtain ⟨b, hb⟩ : ∃ b, b = s % 10 := ⟨_, rfl⟩
  have e1 : (m : Int).tmod 100 = (s : Nat) := by rw [hs]; exact (Int.ofNat_tmod m 100).symm
  have e2 : (m : Int).tdiv 100 = (q : Nat) := by rw [hq]; exact (Int.ofNat_tdiv m 100).symm
  have e3 : (s : Int).tdiv 10 = (a : Nat) := by rw [ha]; exact (Int.ofNat_tdiv s 10).symm
  have e4 : (s : Int).tmod 10 = (b : Nat) := by rw [hb]; exact (Int.ofNat_tmod s 10).symm
  have ha2 : a < 10 := by omega
  have hb2 : b < 10 := by omega
  have hq2 : q < 18446744073709551616 := by omega
  have hf : fmtN m = decL q ++ [46, ((48 + a : Nat) : Int), ((48 + b : Nat) : Int)] := by unfold fmtN; rw [hq, show m % 100 / 10 = a by omega, show m % 10 = b by omega]
  have hL : fmtL x = (if x < 0 then [45] else []) ++ fmtN m := by unfold fmtL; rw [hm]
  have hn := ndg_le hq2
  clear hq ha hb
  have w2 : IntKind.u64.wrap ((q : Nat) : Int) = (q : Nat) := by show ((q : Nat) : Int) % 18446744073709551616 = (q : Nat); omega
  have w3 : IntKind.u64.wrap ((a : Nat) : Int) = (a : Nat) := by show ((a : Nat) : Int) % 18446744073709551616 = (a : Nat); omega
  have z1 : (decT q).size = ndg q := decT_size q
  have z2 : (decT a).size = 1 := by rw [decT_L, decL_1 ha2]; rfl
  have z3 : (decT b).size = 1 := by rw [decT_L, decL_1 hb2]; rfl
  obtain ⟨A, hA⟩ : ∃ A, A = decT q ++ ⟨#[46]⟩ := ⟨_, rfl⟩
  obtain ⟨B, hB⟩ : ∃ B, B = A ++ decT a := ⟨_, rfl⟩
  obtain ⟨C, hC⟩ : ∃ C, C = B ++ decT b := ⟨_, rfl⟩
  have z4 : A.size = ndg q + 1 := by rw [hA, ByteArray.size_append, z1]; rfl
  have z5 : B.size = ndg q + 2 := by rw [hB, ByteArray.size_append, z4, z2]
  have z6 : C.size = ndg q + 3 := by rw [hC, ByteArray.size_append, z5, z3]
  have hC2 : C = strOfNums (fmtN m) := by
    rw [hC, hB, hA, decT_L, decT_L, decT_L, decL_1 ha2, decL_1 hb2, show (⟨#[46]⟩ : ByteArray) = strOfNums [46] from rfl, son_app, son_app, son_app, hf]
    refine congrArg strOfNums ?_
    simp
  repeat' first
    | (rw [wpE_one])
    | (refine And.intro (by decide) ?_; (conv => whnf))
    | (rw [e1])
    | (rw [e2])
    | (rw [w2])
    | fail
  refine call_x2 (fmtUS_x q hq2) (LeL.refl _) ?_
  rintro _ - rfl
  conv => whnf
  rw [← hA, z1]
  refine And.intro (show ndg q + 1 ≤ 9223372036854775807 by omega) ?_
  conv => whnf
  repeat' first
    | (rw [wpE_one])
    | (refine And.intro (by decide) ?_; (conv => whnf))
    | (rw [e3])
    | (rw [w3])
    | fail
  refine call_x2 (fmtUS_x a (by omega)) (LeL.refl _) ?_
  rintro _ - rfl
  conv => whnf
  rw [← hB, z4, z2]
  refine And.intro (show ndg q + 1 + 1 ≤ 9223372036854775807 by omega) ?_
  conv => whnf
  repeat' first
    | (rw [wpE_one])
    | (refine And.intro (by decide) ?_; (conv => whnf))
    | (rw [e4])
    | fail
  refine call_x2 (fmtUS_x b (by omega)) (LeL.refl _) ?_
  rintro _ - rfl
  conv => whnf
  rw [← hC, z5, z3]
  refine And.intro (show ndg q + 2 + 1 ≤ 9223372036854775807 by omega) ?_
  conv => whnf
  try rw [wpE_one]
  conv => whnf
  by_cases c : x < 0
  · refine br_true (decide_eq_true (c)) ?_
    conv => whnf
    rw [z6]
    refine And.intro (show 1 + (ndg q + 3) ≤ 9223372036854775807 by omega) ?_
    conv => whnf
    try rw [wpE_one]
    conv => whnf
    refine fin_e ?_
    conv => whnf
    refine ⟨trivial, congrArg (fun s => T s) ?_⟩
    unfold fmtT
    rw [hL, if_pos c, hC2, show (⟨#[45]⟩ : ByteArray) = strOfNums [45] from rfl, son_app]
  · refine br_false (decide_eq_false (c)) ?_
    conv => whnf
    refine fin_e ?_
    conv => whnf
    refine ⟨trivial, congrArg (fun s => T s) ?_⟩
    unfold fmtT
    rw [hL, if_neg c, hC2]
    rfl

theorem ble_z {M : Nat} : (0 + M).ble M = true := Nat.ble_eq_true_of_le (by omega)
theorem byAp {n q : Nat} {f : Nat → Int} {g : Nat → AV} {x y z : Int} (h0 : g 0 = Y x) (h1 : g 1 = Y y) (h2 : g 2 = Y z) : ∀ i, i < n + ndg q + 3 → ∃ b, appF (n + ndg q) (fun j => Y (apD n q f j)) g (0 + i) = .val (.int .u8 b) := by
  intro i hi
  unfold appF
  by_cases c : 0 + i < n + ndg q
  · rw [if_pos c]; exact ⟨_, rfl⟩
  · rw [if_neg c]
    rcases (show 0 + i - (n + ndg q) = 0 ∨ 0 + i - (n + ndg q) = 1 ∨ 0 + i - (n + ndg q) = 2 by omega) with e | e | e
    · rw [e, h0]; exact ⟨_, rfl⟩
    · rw [e, h1]; exact ⟨_, rfl⟩
    · rw [e, h2]; exact ⟨_, rfl⟩
theorem strAp {n q : Nat} {f : Nat → Int} {g : Nat → AV} {x y z : Int} (h0 : g 0 = Y x) (h1 : g 1 = Y y) (h2 : g 2 = Y z) : strF (n + ndg q + 3) (fun i => appF (n + ndg q) (fun j => Y (apD n q f j)) g (0 + i)) = strOfNums ((List.range n).map f ++ decL q ++ [x, y, z]) := by
  unfold strF
  refine congrArg strOfNums ?_
  refine List.ext_getElem ?_ fun i hi hj => ?_
  · simp [decL_len]; omega
  · rw [List.length_map, List.length_range] at hi
    rw [List.getElem_map, List.getElem_range]
    by_cases c : i < n + ndg q
    · rw [List.getElem_append_left (by simp [decL_len]; exact c)]
      show numA (appF (n + ndg q) _ g (0 + i)) = _
      unfold appF
      rw [if_pos (by omega)]
      show apD n q f (0 + i) = _
      unfold apD
      rw [Nat.zero_add]
      by_cases c2 : i < n
      · rw [if_pos c2, List.getElem_append_left (by simp; exact c2), List.getElem_map, List.getElem_range]
      · rw [if_neg c2, List.getElem_append_right (by simp; omega)]
        simp [decL]
    · rw [List.getElem_append_right (by simp [decL_len]; omega)]
      show numA (appF (n + ndg q) _ g (0 + i)) = _
      unfold appF
      rw [if_neg (by omega)]
      obtain ⟨k, hk, rfl⟩ : ∃ k, k < 3 ∧ i = n + ndg q + k := ⟨i - (n + ndg q), by omega, by omega⟩
      rw [show 0 + (n + ndg q + k) - (n + ndg q) = k by omega]
      have hl : ((List.range n).map f ++ decL q).length = n + ndg q := by simp [decL_len]
      simp only [hl, Nat.add_sub_cancel_left]
      rcases (show k = 0 ∨ k = 1 ∨ k = 2 by omega) with rfl | rfl | rfl
      · rw [h0]; rfl
      · rw [h1]; rfl
      · rw [h2]; rfl

theorem fmt_x (x : Int) (hx : in64 x) : PureX Tryd.prog (gl0 ml) money_Format [I x] (fun r => r = T (fmtT x)) := by
  refine pure_fnX mixed fn_money_Format nt_money_Format hc_money_Format (by simp) (gl0n ml) (by simp [nf]) ?_
  have hx' := hx
  unfold in64 at hx
  obtain ⟨m, hm⟩ : ∃ m, m = x.natAbs := ⟨_, rfl⟩
  have hm2 : m < 18446744073709551616 := by omega
  conv => whnf
  refine call_x2 (mag_x x hx') (LeL.refl _) ?_
  rw [← hm]
  rintro _ - rfl
  conv => whnf
  obtain ⟨q, hq⟩ : ∃ q, q = m / 100 := ⟨_, rfl⟩
  obtain ⟨s, hs⟩ : ∃ s, s = m % 100 := ⟨_, rfl⟩
  obtain ⟨a, ha⟩ : ∃ a, a = s / 10 := ⟨_, rfl⟩
  obtain ⟨b, hb⟩ : ∃ b, b = s % 10 := ⟨_, rfl⟩
  have e1 : (m : Int).tmod 100 = (s : Nat) := by rw [hs]; exact (Int.ofNat_tmod m 100).symm
  have e2 : (m : Int).tdiv 100 = (q : Nat) := by rw [hq]; exact (Int.ofNat_tdiv m 100).symm
  have e3 : (s : Int).tdiv 10 = (a : Nat) := by rw [ha]; exact (Int.ofNat_tdiv s 10).symm
  have e4 : (s : Int).tmod 10 = (b : Nat) := by rw [hb]; exact (Int.ofNat_tmod s 10).symm
  have ha2 : a < 10 := by omega
  have hb2 : b < 10 := by omega
  have hq2 : q < 18446744073709551616 := by omega
  have hf : fmtN m = decL q ++ [46, ((48 + a : Nat) : Int), ((48 + b : Nat) : Int)] := by unfold fmtN; rw [hq, show m % 100 / 10 = a by omega, show m % 10 = b by omega]
  have hL : fmtL x = (if x < 0 then [45] else []) ++ fmtN m := by unfold fmtL; rw [hm]
  have hn := ndg_le hq2
  have hs2 : s < 100 := by omega
  clear hq ha hb hs
  have w2 : IntKind.u64.wrap ((q : Nat) : Int) = (q : Nat) := by show ((q : Nat) : Int) % 18446744073709551616 = (q : Nat); omega
  have w3 : IntKind.u8.wrap ((s : Nat) : Int) = (s : Nat) := by show ((s : Nat) : Int) % 256 = (s : Nat); omega
  have w4 : IntKind.u8.wrap ((a : Nat) : Int) = (a : Nat) := by show ((a : Nat) : Int) % 256 = (a : Nat); omega
  have w5 : IntKind.u8.wrap (48 + (a : Int)) = ((48 + a : Nat) : Int) := by show (48 + (a : Int)) % 256 = _; omega
  have w6 : IntKind.u8.wrap (48 + (b : Int)) = ((48 + b : Nat) : Int) := by show (48 + (b : Int)) % 256 = _; omega
  refine And.intro (by decide) ?_
  conv => whnf
  try rw [wpE_one]
  conv => whnf
  by_cases c : x < 0
  · refine br_true (decide_eq_true (c)) ?_
    conv => whnf
    repeat' first
      | (rw [wpE_one])
      | (refine And.intro (by first | decide | omega | (show (_ + 3) * 1 ≤ 140737488355328; omega) | fail) ?_; (conv => whnf))
      | (rw [e1])
      | (rw [e2])
      | (rw [e3])
      | (rw [e4])
      | (rw [w2])
      | (rw [w3])
      | (rw [w4])
      | (rw [w5])
      | (rw [w6])
      | (rw [ble_z]; (conv => whnf))
      | (refine And.intro (byAp rfl rfl rfl) ?_; (conv => whnf))
      | fail
    refine call_g 2 (appUS_x q hq2 1 (by decide) (fun _ => 45)) rfl rfl (LeA.arr fun i hi => (by match i, hi with | 0, _ => exact LeA.of_eq rfl)) (fun i => trivial) ?_ ?_ ?_
    · exact fun a ha => by
        rcases List.mem_cons.1 ha with rfl | ha
        · exact .inl (by decide)
        · rcases List.mem_cons.1 ha with rfl | ha
          · exact il_nf _ trivial
          · rcases List.mem_cons.1 ha with rfl | ha
            · exact il_nf _ trivial
            · cases ha
    · exact ⟨LeA.refl _ |>.le, LeA.refl _ |>.le, LeA.refl _ |>.le, trivial⟩
    · rintro r o1 n1 ⟨k, hk, rfl, rfl, rfl⟩
      rcases hk with rfl | rfl
      · refine ⟨⟨⟨.inl (by decide), fun i => trivial⟩, trivial⟩, trivial, rfl, ?_⟩
        conv => whnf
        repeat' first
          | (rw [wpE_one])
          | (refine And.intro (by first | decide | omega | (show (_ + 3) * 1 ≤ 140737488355328; omega) | fail) ?_; (conv => whnf))
          | (rw [e1])
          | (rw [e2])
          | (rw [e3])
          | (rw [e4])
          | (rw [w2])
          | (rw [w3])
          | (rw [w4])
          | (rw [w5])
          | (rw [w6])
          | (rw [ble_z]; (conv => whnf))
          | (refine And.intro (byAp rfl rfl rfl) ?_; (conv => whnf))
          | fail
        refine fin_e ?_
        conv => whnf
        refine ⟨trivial, congrArg (fun s => T s) ((strAp rfl rfl rfl).trans ?_)⟩
        unfold fmtT
        rw [hL, if_pos c, hf]
        exact congrArg strOfNums (List.append_assoc _ _ _)
      · refine ⟨⟨⟨.inl (by decide), fun i => trivial⟩, trivial⟩, trivial, rfl, ?_⟩
        conv => whnf
        repeat' first
          | (rw [wpE_one])
          | (refine And.intro (by first | decide | omega | (show (_ + 3) * 1 ≤ 140737488355328; omega) | fail) ?_; (conv => whnf))
          | (rw [e1])
          | (rw [e2])
          | (rw [e3])
          | (rw [e4])
          | (rw [w2])
          | (rw [w3])
          | (rw [w4])
          | (rw [w5])
          | (rw [w6])
          | (rw [ble_z]; (conv => whnf))
          | (refine And.intro (byAp rfl rfl rfl) ?_; (conv => whnf))
          | fail
        refine fin_e ?_
        conv => whnf
        refine ⟨trivial, congrArg (fun s => T s) ((strAp rfl rfl rfl).trans ?_)⟩
        unfold fmtT
        rw [hL, if_pos c, hf]
        exact congrArg strOfNums (List.append_assoc _ _ _)
  · refine br_false (decide_eq_false (c)) ?_
    conv => whnf
    repeat' first
      | (rw [wpE_one])
      | (refine And.intro (by first | decide | omega | (show (_ + 3) * 1 ≤ 140737488355328; omega) | fail) ?_; (conv => whnf))
      | (rw [e1])
      | (rw [e2])
      | (rw [e3])
      | (rw [e4])
      | (rw [w2])
      | (rw [w3])
      | (rw [w4])
      | (rw [w5])
      | (rw [w6])
      | (rw [ble_z]; (conv => whnf))
      | (refine And.intro (byAp rfl rfl rfl) ?_; (conv => whnf))
      | fail
    refine call_g 0 (appUS_x q hq2 0 (by decide) (fun _ => 0)) rfl rfl (LeA.arr fun i hi => absurd hi (Nat.not_lt_zero i)) (fun i => trivial) ?_ ?_ ?_
    · exact fun a ha => by
        rcases List.mem_cons.1 ha with rfl | ha
        · exact .inl (by decide)
        · rcases List.mem_cons.1 ha with rfl | ha
          · exact il_nf _ trivial
          · rcases List.mem_cons.1 ha with rfl | ha
            · exact il_nf _ trivial
            · cases ha
    · exact ⟨LeA.refl _ |>.le, LeA.refl _ |>.le, LeA.refl _ |>.le, trivial⟩
    · rintro r o1 n1 ⟨k, hk, rfl, rfl, rfl⟩
      rcases hk with rfl | rfl
      · refine ⟨⟨⟨.inl (by decide), fun i => trivial⟩, trivial⟩, trivial, rfl, ?_⟩
        conv => whnf
        repeat' first
          | (rw [wpE_one])
          | (refine And.intro (by first | decide | omega | (show (_ + 3) * 1 ≤ 140737488355328; omega) | fail) ?_; (conv => whnf))
          | (rw [e1])
          | (rw [e2])
          | (rw [e3])
          | (rw [e4])
          | (rw [w2])
          | (rw [w3])
          | (rw [w4])
          | (rw [w5])
          | (rw [w6])
          | (rw [ble_z]; (conv => whnf))
          | (refine And.intro (byAp rfl rfl rfl) ?_; (conv => whnf))
          | fail
        refine fin_e ?_
        conv => whnf
        refine ⟨trivial, congrArg (fun s => T s) ((strAp rfl rfl rfl).trans ?_)⟩
        unfold fmtT
        rw [hL, if_neg c, hf]
        exact congrArg strOfNums (List.append_assoc _ _ _)
      · refine ⟨⟨⟨.inl (by decide), fun i => trivial⟩, trivial⟩, trivial, rfl, ?_⟩
        conv => whnf
        repeat' first
          | (rw [wpE_one])
          | (refine And.intro (by first | decide | omega | (show (_ + 3) * 1 ≤ 140737488355328; omega) | fail) ?_; (conv => whnf))
          | (rw [e1])
          | (rw [e2])
          | (rw [e3])
          | (rw [e4])
          | (rw [w2])
          | (rw [w3])
          | (rw [w4])
          | (rw [w5])
          | (rw [w6])
          | (rw [ble_z]; (conv => whnf))
          | (refine And.intro (byAp rfl rfl rfl) ?_; (conv => whnf))
          | fail
        refine fin_e ?_
        conv => whnf
        refine ⟨trivial, congrArg (fun s => T s) ((strAp rfl rfl rfl).trans ?_)⟩
        unfold fmtT
        rw [hL, if_neg c, hf]
        exact congrArg strOfNums (List.append_assoc _ _ _)

end Go.Proofs.YtankpibkakfnhaaDoor
namespace Ar
open Go
set_option linter.unusedVariables false
set_option autoImplicit false

/-- One in a leap year. -/
def lpN (y : Nat) : Nat := if y % 4 = 0 ∧ (y % 100 ≠ 0 ∨ y % 400 = 0) then 1 else 0
/-- The days of that many years. -/
def SB (y : Nat) : Nat := 365 * y + y / 4 - y / 100 + y / 400
theorem lpN_le (y : Nat) : lpN y ≤ 1 := by unfold lpN; split <;> omega
theorem SB_s (y : Nat) : SB (y + 1) = SB y + 365 + lpN (y + 1) := by
  have a4 : (y + 1) / 4 = y / 4 + (if (y + 1) % 4 = 0 then 1 else 0) := by split <;> omega
  have a100 : (y + 1) / 100 = y / 100 + (if (y + 1) % 100 = 0 then 1 else 0) := by split <;> omega
  have a400 : (y + 1) / 400 = y / 400 + (if (y + 1) % 400 = 0 then 1 else 0) := by split <;> omega
  have b1 : (y + 1) % 100 = 0 → (y + 1) % 4 = 0 := by omega
  have b2 : (y + 1) % 400 = 0 → (y + 1) % 100 = 0 := by omega
  have b3 : y / 100 ≤ y / 4 := by omega
  unfold SB lpN
  rw [a4, a100, a400]
  generalize y / 4 = p at b3 ⊢
  generalize y / 100 = q at b3 ⊢
  generalize y / 400 = r
  by_cases c1 : (y + 1) % 4 = 0
  · by_cases c2 : (y + 1) % 100 = 0
    · by_cases c3 : (y + 1) % 400 = 0
      · simp only [c1, c2, c3]
        simp
        omega
      · simp [c1, c2, c3]
        omega
    · have c3 : ¬ (y + 1) % 400 = 0 := fun h => c2 (b2 h)
      simp [c1, c2, c3]
      omega
  · have c2 : ¬ (y + 1) % 100 = 0 := fun h => c1 (b1 h)
    have c3 : ¬ (y + 1) % 400 = 0 := fun h => c2 (b2 h)
    simp [c1, c2, c3]
    omega
theorem SB_mono {a b : Nat} (h : a ≤ b) : SB a ≤ SB b := by
  obtain ⟨k, rfl⟩ := Nat.le.dest h
  clear h
  induction k with
  | zero => exact Nat.le_refl _
  | succ k ih => exact Nat.le_trans ih (by rw [← Nat.add_assoc, SB_s]; omega)

def ahN (m : Nat) : Nat := [0, 31, 59, 90, 120, 151, 181, 212, 243, 273, 304, 334, 365].getD m 0
/-- The days of a year ahead of a month. -/
def cm (l m : Nat) : Nat := ahN (m - 1) + if 2 < m then l else 0
theorem cm_s {l m : Nat} (hl : l ≤ 1) (h1 : 1 ≤ m) (h2 : m ≤ 12) : cm l m + 28 ≤ cm l (m + 1) ∧ cm l (m + 1) ≤ cm l m + 31 := by
  rcases (show l = 0 ∨ l = 1 by omega) with rfl | rfl <;>
    rcases (show m = 1 ∨ m = 2 ∨ m = 3 ∨ m = 4 ∨ m = 5 ∨ m = 6 ∨ m = 7 ∨ m = 8 ∨ m = 9 ∨ m = 10 ∨ m = 11 ∨ m = 12 by omega) with rfl | rfl | rfl | rfl | rfl | rfl | rfl | rfl | rfl | rfl | rfl | rfl <;> decide
theorem cm_mono {l m n : Nat} (hl : l ≤ 1) (h1 : 1 ≤ m) (h : m ≤ n) (h2 : n ≤ 13) : cm l m ≤ cm l n := by
  obtain ⟨k, rfl⟩ := Nat.le.dest h
  clear h
  induction k with
  | zero => exact Nat.le_refl _
  | succ k ih => exact Nat.le_trans (ih (by omega)) (by have := (cm_s hl (show 1 ≤ m + k by omega) (by omega)).1; rw [← Nat.add_assoc]; omega)
theorem cm_1 (l : Nat) : cm l 1 = 0 := rfl
theorem cm_13 (l : Nat) : cm l 13 = 365 + l := rfl

/-- The date of a day. -/
structure DtIs (day y m d : Nat) : Prop where
  y1 : 1 ≤ y
  m1 : 1 ≤ m
  m2 : m ≤ 12
  d1 : 1 ≤ d
  d2 : cm (lpN y) m + d ≤ cm (lpN y) (m + 1)
  h : SB (y - 1) + cm (lpN y) m + d = day

theorem DtIs.yle {day y m d y' m' d' : Nat} (a : DtIs day y m d) (b : DtIs day y' m' d') : ¬ y < y' := fun hlt => by
  have h1 := SB_s (y - 1)
  rw [Nat.sub_add_cancel a.y1] at h1
  have h2 : SB y ≤ SB (y' - 1) := SB_mono (by omega)
  have h3 := cm_mono (lpN_le y) (show 1 ≤ m + 1 by omega) (show m + 1 ≤ 13 by have := a.m2; omega) (Nat.le_refl _)
  rw [cm_13] at h3
  have := a.d2; have := a.h; have := b.h; have := b.d1
  omega

theorem DtIs.uniq {day y m d y' m' d' : Nat} (a : DtIs day y m d) (b : DtIs day y' m' d') : y = y' ∧ m = m' ∧ d = d' := by
  have e : y = y' := by
    have := a.yle b
    have := b.yle a
    omega
  subst e
  have key : ∀ {m d m' d'}, DtIs day y m d → DtIs day y m' d' → ¬ m < m' := fun {m d m' d'} a b hlt => by
    have h1 := cm_mono (lpN_le y) (show 1 ≤ m + 1 by omega) (show m + 1 ≤ m' by omega) (by have := b.m2; omega)
    have := a.d2; have := a.h; have := b.h; have := b.d1
    omega
  have e : m = m' := by
    have := key a b
    have := key b a
    omega
  subst e
  have := a.h; have := b.h
  exact ⟨rfl, rfl, by omega⟩

theorem DtIs.y2 {day y m d : Nat} (a : DtIs day y m d) (hd : day ≤ 3652059) : y ≤ 9999 := by
  apply Classical.byContradiction
  intro hn
  have h1 : SB 9999 ≤ SB (y - 1) := SB_mono (by omega)
  have h2 : SB 9999 = 3652059 := rfl
  have := a.h; have := a.d1
  omega
theorem DtIs.d3 {day y m d : Nat} (a : DtIs day y m d) : d ≤ 31 := by
  have := (cm_s (lpN_le y) a.m1 a.m2).2
  have := a.d2
  omega

/-- The year of a day by divisions. -/
theorem civ_y {n c r1 h r2 f r3 o r4 : Nat} (hc : c = n / 146097) (hr1 : r1 = n % 146097) (hh : h = min (r1 / 36524) 3) (hr2 : r2 = r1 - h * 36524) (hf : f = r2 / 1461) (hr3 : r3 = r2 % 1461) (ho : o = min (r3 / 365) 3) (hr4 : r4 = r3 - o * 365) :
    SB (400 * c + 100 * h + 4 * f + o) + r4 = n ∧ r4 < 365 + lpN (400 * c + 100 * h + 4 * f + o + 1) ∧ h ≤ 3 ∧ o ≤ 3 ∧ h * 36524 ≤ r1 ∧ o * 365 ≤ r3 := by
  have h1 : h ≤ 3 ∧ h * 36524 ≤ r1 ∧ r2 ≤ 36524 ∧ (h < 3 → r2 < 36524) := by omega
  have h2 : o ≤ 3 ∧ o * 365 ≤ r3 ∧ r4 ≤ 365 ∧ (o < 3 → r4 < 365) := by omega
  have h3 : f ≤ 24 ∧ r2 = 1461 * f + r3 := by omega
  have h4 : n = 146097 * c + r1 := by omega
  refine ⟨?_, ?_, h1.1, h2.1, h1.2.1, h2.2.1⟩
  · have e1 : (400 * c + 100 * h + 4 * f + o) / 4 = 100 * c + 25 * h + f := by omega
    have e2 : (400 * c + 100 * h + 4 * f + o) / 100 = 4 * c + h := by omega
    have e3 : (400 * c + 100 * h + 4 * f + o) / 400 = c := by omega
    unfold SB
    rw [e1, e2, e3]
    omega
  · apply Classical.byContradiction
    intro hn
    have e : o = 3 ∧ r4 = 365 := by omega
    have hl : lpN (400 * c + 100 * h + 4 * f + o + 1) = 1 := by
      unfold lpN
      refine if_pos ⟨by omega, ?_⟩
      by_cases hx : f = 24
      · right
        have : r3 = 1460 := by omega
        have : h = 3 := by omega
        omega
      · left
        omega
    omega

end Ar
namespace Go.Proofs.YtankpibkakfnhaaDoor
open Go Ar
variable {ml : GV}
set_option linter.unusedVariables false
set_option autoImplicit false
set_option maxHeartbeats 4000000
set_option maxRecDepth 100000

theorem isDay_x (day : Int) : PureX Tryd.prog (gl0 ml) r2_isDay [I day] (fun r => r = B (decide (1 ≤ day ∧ day ≤ 3652059))) := by
  refine pure_fnX mixed fn_r2_isDay nt_r2_isDay hc_r2_isDay (by simp) (gl0n ml) (by simp [nf]) ?_
  conv => whnf
  repeat' first
    | (refine br_dec (fun h0 => ?_) (fun h0 => ?_) <;> (conv => whnf))
    | (refine br_intro (fun hb => ?_) (fun hb => ?_) <;> ((try rw [hb]); (conv => whnf); (try simp at hb)))
    | (refine aI ?_; (conv => whnf))
    | (refine fin_e ?_; (conv => whnf); first | exact ⟨trivial, congrArg (fun b => B b) (decide_eq_true (by omega)).symm⟩ | exact ⟨trivial, congrArg (fun b => B b) (decide_eq_false (by omega)).symm⟩)
    | fail

theorem lpN_iff (y : Nat) : lpN y = 1 ↔ (y % 4 = 0 ∧ (y % 100 ≠ 0 ∨ y % 400 = 0)) := by
  unfold lpN
  by_cases c : y % 4 = 0 ∧ (y % 100 ≠ 0 ∨ y % 400 = 0)
  · rw [if_pos c]; exact ⟨fun _ => c, fun _ => rfl⟩
  · rw [if_neg c]; exact ⟨fun h => absurd h (by decide), fun h => absurd h c⟩

theorem divides_x (y : Nat) : PureX Tryd.prog (gl0 ml) r2_divides [I y] (fun r => r = B (decide (lpN y = 1))) := by
  refine pure_fnX mixed fn_r2_divides nt_r2_divides hc_r2_divides (by simp) (gl0n ml) (by simp [nf]) ?_
  obtain ⟨a, ha⟩ : ∃ a, a = y % 4 := ⟨_, rfl⟩
  obtain ⟨b, hb⟩ : ∃ b, b = y % 100 := ⟨_, rfl⟩
  obtain ⟨c, hc⟩ : ∃ c, c = y % 400 := ⟨_, rfl⟩
  have m4 : (y : Int).tmod 4 = (a : Nat) := by rw [ha]; exact (Int.ofNat_tmod y 4).symm
  have m100 : (y : Int).tmod 100 = (b : Nat) := by rw [hb]; exact (Int.ofNat_tmod y 100).symm
  have m400 : (y : Int).tmod 400 = (c : Nat) := by rw [hc]; exact (Int.ofNat_tmod y 400).symm
  have hq : decide (lpN y = 1) = decide (a = 0 ∧ (b ≠ 0 ∨ c = 0)) := decide_eq_decide.2 ((lpN_iff y).trans (by rw [ha, hb, hc]))
  rw [hq]
  clear hq ha hb hc
  conv => whnf
  repeat' first
    | (refine br_dec (fun h0 => ?_) (fun h0 => ?_) <;> (conv => whnf))
    | (refine br_intro (fun hb => ?_) (fun hb => ?_) <;> ((try rw [hb]); (conv => whnf); (try simp at hb)))
    | (rw [m4])
    | (rw [m100])
    | (rw [m400])
    | (refine aI ?_; (conv => whnf))
    | (refine fin_e ?_; (conv => whnf); first | exact ⟨trivial, congrArg (fun b => B b) (decide_eq_true (by omega)).symm⟩ | exact ⟨trivial, congrArg (fun b => B b) (decide_eq_false (by omega)).symm⟩)
    | fail

theorem yearLen_x (y : Nat) : PureX Tryd.prog (gl0 ml) r2_yearLen [I y] (fun r => r = I ((365 + lpN y : Nat) : Int)) := by
  refine pure_fnX mixed fn_r2_yearLen nt_r2_yearLen hc_r2_yearLen (by simp) (gl0n ml) (by simp [nf]) ?_
  conv => whnf
  refine call_x2 (divides_x y) (LeL.refl _) ?_
  rintro _ - rfl
  conv => whnf
  have hl := lpN_le y
  by_cases c : lpN y = 1
  · refine br_true (decide_eq_true (c)) ?_
    conv => whnf
    refine fin_e ?_
    conv => whnf
    exact ⟨trivial, congrArg (fun n => I n) (by omega)⟩
  · refine br_false (decide_eq_false (c)) ?_
    conv => whnf
    refine fin_e ?_
    conv => whnf
    exact ⟨trivial, congrArg (fun n => I n) (by omega)⟩

theorem lenOf_x (y m : Nat) (h1 : 1 ≤ m) (h2 : m ≤ 12) : PureX Tryd.prog (gl0 ml) r2_lenOf [I y, I m] (fun r => r = I ((cm (lpN y) (m + 1) - cm (lpN y) m : Nat) : Int)) := by
  refine pure_fnX mixed fn_r2_lenOf nt_r2_lenOf hc_r2_lenOf (by simp) (gl0n ml) (by simp [nf]) ?_
  have hl := lpN_le y
  have hd := divides_x (ml := ml) y
  generalize lpN y = l at hl hd ⊢
  rcases (show m = 1 ∨ m = 2 ∨ m = 3 ∨ m = 4 ∨ m = 5 ∨ m = 6 ∨ m = 7 ∨ m = 8 ∨ m = 9 ∨ m = 10 ∨ m = 11 ∨ m = 12 by omega) with rfl | rfl | rfl | rfl | rfl | rfl | rfl | rfl | rfl | rfl | rfl | rfl
  all_goals (conv => whnf)
  all_goals first
    | (refine fin_e ?_; (conv => whnf); exact ⟨trivial, congrArg (fun n => I n) (by simp [cm, ahN] <;> omega)⟩)
    | skip
  refine call_x2 hd (LeL.refl _) ?_
  rintro _ - rfl
  conv => whnf
  by_cases c : l = 1
  · refine br_true (decide_eq_true (c)) ?_
    conv => whnf
    refine fin_e ?_
    conv => whnf
    exact ⟨trivial, congrArg (fun n => I n) (by simp [cm, ahN]; omega)⟩
  · refine br_false (decide_eq_false (c)) ?_
    conv => whnf
    refine fin_e ?_
    conv => whnf
    exact ⟨trivial, congrArg (fun n => I n) (by simp [cm, ahN]; omega)⟩

abbrev encDt (y m d : Nat) : AV := .st (.cons (I y) (.cons (I m) (.cons (I d) .nil)))
/-- What both tell of a day: its date, or that it is none. -/
inductive CvV (day : Int) : AV → Prop
  | ok (y m d : Nat) (h : DtIs day.toNat y m d) (h1 : 1 ≤ day) (h2 : day ≤ 3652059) : CvV day (tup2 (encDt y m d) (B true))
  | no (h : ¬ (1 ≤ day ∧ day ≤ 3652059)) : CvV day (tup2 (encDt 0 0 0) (B false))

theorem SB_cyc (c : Nat) : SB (400 * c) = 146097 * c := by
  unfold SB
  omega

theorem r2Civ_x (day : Int) : PureX Tryd.prog (gl0 ml) r2_Civil [I day] (CvV day) := by
  refine pure_fnX mixed fn_r2_Civil nt_r2_Civil hc_r2_Civil (by simp) (gl0n ml) (by simp [nf]) ?_
  conv => whnf
  refine call_x2 (isDay_x day) (LeL.refl _) ?_
  rintro _ - rfl
  conv => whnf
  by_cases c : 1 ≤ day ∧ day ≤ 3652059
  · refine br_false (by rw [decide_eq_true c]; rfl) ?_
    conv => whnf
    obtain ⟨n, rfl⟩ := Int.eq_ofNat_of_zero_le (show 0 ≤ day by omega)
    have hn1 : 1 ≤ n := by omega
    have hn2 : n ≤ 3652059 := by omega
    obtain ⟨k, hk⟩ : ∃ k, k = (n - 1) / 146097 := ⟨_, rfl⟩
    have w1 : IntKind.i64.wrap (((n : Nat) : Int) - 1) = ((n - 1 : Nat) : Int) := by rw [wrap_id (by unfold in64; omega)]; omega
    have w2 : (((n - 1 : Nat) : Int)).tdiv 146097 = (k : Nat) := by rw [hk]; exact (Int.ofNat_tdiv (n - 1) 146097).symm
    have w3 : IntKind.i64.wrap (k : Nat) = (k : Nat) := wrap_id (by unfold in64; omega)
    have w4 : IntKind.i64.wrap ((k : Nat) * 146097) = ((k * 146097 : Nat) : Int) := by rw [wrap_id (by unfold in64; omega)]; omega
    have w5 : IntKind.i64.wrap (((n : Nat) : Int) - ((k * 146097 : Nat) : Int)) = ((n - k * 146097 : Nat) : Int) := by rw [wrap_id (by unfold in64; omega)]; omega
    have w6 : IntKind.i64.wrap (400 * (k : Nat)) = ((400 * k : Nat) : Int) := by rw [wrap_id (by unfold in64; omega)]; omega
    have w7 : IntKind.i64.wrap (((400 * k : Nat) : Int) + 1) = ((400 * k + 1 : Nat) : Int) := by rw [wrap_id (by unfold in64; omega)]; omega
    repeat' first
      | (rw [wpE_one])
      | (refine And.intro (by decide) ?_; (conv => whnf))
      | (rw [w1])
      | (rw [w2])
      | (rw [w3])
      | (rw [w4])
      | (rw [w5])
      | (rw [w6])
      | (rw [w7])
      | fail
    clear w1 w2 w3 w4 w5 w6 w7
    have hy : ∀ y l : Nat, 1 ≤ l → SB (y - 1) + l = n → y ≤ 9999 := fun y l h1 h2 => by
      apply Classical.byContradiction
      intro hc
      have h3 : SB 9999 ≤ SB (y - 1) := SB_mono (by omega)
      have h4 : SB 9999 = 3652059 := rfl
      omega
    refine loop_at mixed (fun (p : Nat × Nat) => ([(6, I p.1), (5, I p.2), (2, .ptr 0 []), (3, B false)], [(0, .box (encDt 0 0 0))], 1)) (fun p => 1 ≤ p.1 ∧ 1 ≤ p.2 ∧ SB (p.1 - 1) + p.2 = n) (fun p => p.2) (400 * k + 1, n - k * 146097) ⟨by omega, (show 1 ≤ n - k * 146097 by omega), by show SB (400 * k + 1 - 1) + (n - k * 146097) = n; rw [Nat.add_sub_cancel, SB_cyc]; omega⟩ (le_st (le_r rfl) (leE_i rfl rfl (leE_i rfl rfl (leE_ptr rfl rfl (leE_eq rfl (bnd_nf _ (trivial)) trivial)))) (leO_box (lt_r rfl) rfl (LeA.refl _ ) (bnd_nf _ ( (by simp [nf]))) trivial) (gl0n ml)) ?_
    clear hk k
    rintro ⟨y, l⟩ ⟨h1, h2, h3⟩
    replace h1 : 1 ≤ y := h1
    replace h2 : 1 ≤ l := h2
    replace h3 : SB (y - 1) + l = n := h3
    have h4 := hy y l h2 h3
    conv => whnf
    refine call_x2 (yearLen_x y) (LeL.refl _) ?_
    rintro _ - rfl
    conv => whnf
    have h5 := lpN_le y
    by_cases c2 : 365 + lpN y < l
    · refine br_true (decide_eq_true ((by omega : ((365 + lpN y : Nat) : Int) < (l : Nat)))) ?_
      conv => whnf
      refine call_x2 (yearLen_x y) (LeL.refl _) ?_
      rintro _ - rfl
      conv => whnf
      have w1 : IntKind.i64.wrap (((l : Nat) : Int) - ((365 + lpN y : Nat) : Int)) = ((l - (365 + lpN y) : Nat) : Int) := by rw [wrap_id (by unfold in64; omega)]; omega
      have w2 : IntKind.i64.wrap (((y : Nat) : Int) + 1) = ((y + 1 : Nat) : Int) := by rw [wrap_id (by unfold in64; omega)]; omega
      refine ⟨(y + 1, l - (365 + lpN y)), ⟨(show 1 ≤ y + 1 by omega), (show 1 ≤ l - (365 + lpN y) by omega), ?_⟩, (show l - (365 + lpN y) < l by omega), (le_st (le_r rfl) (leE_i rfl (w2) (leE_i rfl (w1) (leE_ptr rfl rfl (leE_eq rfl (bnd_nf _ (trivial)) trivial)))) (leO_box (lt_r rfl) rfl (LeA.refl _ ) (bnd_nf _ ( (by simp [nf]))) trivial) (gl0n ml))⟩
      show SB (y + 1 - 1) + (l - (365 + lpN y)) = n
      have h6 := SB_s (y - 1)
      rw [Nat.sub_add_cancel h1] at h6
      rw [Nat.add_sub_cancel]
      omega
    · refine br_false (decide_eq_false ((by omega : ¬ (((365 + lpN y : Nat) : Int) < (l : Nat))))) ?_
      conv => whnf
      have h6 : l ≤ 365 + lpN y := by omega
      clear c2
      refine loop_at mixed (fun (p : Nat × Nat) => ([(7, I p.1), (6, I y), (5, I p.2), (2, .ptr 0 []), (3, B false)], [(0, .box (encDt 0 0 0))], 1)) (fun p => 1 ≤ p.1 ∧ p.1 ≤ 12 ∧ 1 ≤ p.2 ∧ cm (lpN y) p.1 + p.2 = l) (fun p => p.2) (1, l) ⟨Nat.le_refl _, (show 1 ≤ 12 by decide), h2, (show cm (lpN y) 1 + l = l by rw [cm_1, Nat.zero_add])⟩ (le_st (le_r rfl) (leE_i rfl rfl (leE_i rfl rfl (leE_i rfl rfl (leE_ptr rfl rfl (leE_eq rfl (bnd_nf _ (trivial)) trivial))))) (leO_box (lt_r rfl) rfl (LeA.refl _ ) (bnd_nf _ ( (by simp [nf]))) trivial) (gl0n ml)) ?_
      rintro ⟨m, d⟩ ⟨m1, m2, d1, hm⟩
      replace m1 : 1 ≤ m := m1
      replace m2 : m ≤ 12 := m2
      replace d1 : 1 ≤ d := d1
      replace hm : cm (lpN y) m + d = l := hm
      have hs := cm_s h5 m1 m2
      conv => whnf
      refine call_x2 (lenOf_x y m m1 m2) (LeL.refl _) ?_
      rintro _ - rfl
      conv => whnf
      by_cases c2 : cm (lpN y) (m + 1) - cm (lpN y) m < d
      · refine br_true (decide_eq_true ((by omega : ((cm (lpN y) (m + 1) - cm (lpN y) m : Nat) : Int) < (d : Nat)))) ?_
        conv => whnf
        refine call_x2 (lenOf_x y m m1 m2) (LeL.refl _) ?_
        rintro _ - rfl
        conv => whnf
        have w1 : IntKind.i64.wrap (((d : Nat) : Int) - ((cm (lpN y) (m + 1) - cm (lpN y) m : Nat) : Int)) = ((d - (cm (lpN y) (m + 1) - cm (lpN y) m) : Nat) : Int) := by rw [wrap_id (by unfold in64; omega)]; omega
        have w2 : IntKind.i64.wrap (((m : Nat) : Int) + 1) = ((m + 1 : Nat) : Int) := by rw [wrap_id (by unfold in64; omega)]; omega
        have hm12 : m + 1 ≤ 12 := by
          apply Classical.byContradiction
          intro hc
          obtain rfl : m = 12 := by omega
          rw [cm_13] at c2 hs
          omega
        exact ⟨(m + 1, d - (cm (lpN y) (m + 1) - cm (lpN y) m)), ⟨(show 1 ≤ m + 1 by omega), hm12, (show 1 ≤ d - (cm (lpN y) (m + 1) - cm (lpN y) m) by omega), (show cm (lpN y) (m + 1) + (d - (cm (lpN y) (m + 1) - cm (lpN y) m)) = l by omega)⟩, (show d - (cm (lpN y) (m + 1) - cm (lpN y) m) < d by omega), (le_st (le_r rfl) (leE_i rfl (w2) (leE_i rfl rfl (leE_i rfl (w1) (leE_ptr rfl rfl (leE_eq rfl (bnd_nf _ (trivial)) trivial))))) (leO_box (lt_r rfl) rfl (LeA.refl _ ) (bnd_nf _ ( (by simp [nf]))) trivial) (gl0n ml))⟩
      · refine br_false (decide_eq_false ((by omega : ¬ (((cm (lpN y) (m + 1) - cm (lpN y) m : Nat) : Int) < (d : Nat))))) ?_
        conv => whnf
        repeat' first
          | (rw [wpE_one])
          | (refine And.intro (by decide) ?_; (conv => whnf))
          | fail
        refine fin_e ?_
        conv => whnf
        exact ⟨by simp [packA, consL, nf], .ok y m d ⟨h1, m1, m2, d1, by omega, by show SB (y - 1) + cm (lpN y) m + d = n; omega⟩ c.1 c.2⟩
  · refine br_true (by rw [decide_eq_false c]; rfl) ?_
    conv => whnf
    refine fin_e ?_
    conv => whnf
    exact ⟨by simp [packA, consL, nf], .no c⟩

end Go.Proofs.YtankpibkakfnhaaDoor
namespace Go.Proofs.YtankpibkakfnhaaDoor
open Go Ar
variable {ml : GV}
set_option linter.unusedVariables false
set_option autoImplicit false
set_option maxHeartbeats 4000000
set_option maxRecDepth 100000

theorem leap_x (y : Nat) (h1 : 1 ≤ y) (h2 : y ≤ 9999) : PureX Tryd.prog (gl0 ml) calendar_Leap [I y] (fun r => r = B (decide (lpN y = 1))) := by
  refine pure_fnX mixed fn_calendar_Leap nt_calendar_Leap hc_calendar_Leap (by simp) (gl0n ml) (by simp [nf]) ?_
  obtain ⟨a, ha⟩ : ∃ a, a = y % 4 := ⟨_, rfl⟩
  obtain ⟨b, hb⟩ : ∃ b, b = y % 100 := ⟨_, rfl⟩
  obtain ⟨c, hc⟩ : ∃ c, c = y % 400 := ⟨_, rfl⟩
  have m4 : (y : Int).tmod 4 = (a : Nat) := by rw [ha]; exact (Int.ofNat_tmod y 4).symm
  have m100 : (y : Int).tmod 100 = (b : Nat) := by rw [hb]; exact (Int.ofNat_tmod y 100).symm
  have m400 : (y : Int).tmod 400 = (c : Nat) := by rw [hc]; exact (Int.ofNat_tmod y 400).symm
  have hq : decide (lpN y = 1) = decide (a = 0 ∧ (b ≠ 0 ∨ c = 0)) := decide_eq_decide.2 ((lpN_iff y).trans (by rw [ha, hb, hc]))
  rw [hq]
  clear hq ha hb hc
  conv => whnf
  repeat' first
    | (refine br_dec (fun h0 => ?_) (fun h0 => ?_) <;> first | (exfalso; omega) | (conv => whnf))
    | (refine br_intro (fun hb => ?_) (fun hb => ?_) <;> ((try rw [hb]); (conv => whnf); (try simp at hb)))
    | (rw [m4])
    | (rw [m100])
    | (rw [m400])
    | (refine aI ?_; (conv => whnf))
    | (refine fin_e ?_; (conv => whnf); first | exact ⟨trivial, congrArg (fun b => B b) (decide_eq_true (by omega)).symm⟩ | exact ⟨trivial, congrArg (fun b => B b) (decide_eq_false (by omega)).symm⟩)
    | fail

theorem start_x (y m : Nat) (h1 : 1 ≤ y) (h2 : y ≤ 9999) (m1 : 1 ≤ m) (m2 : m ≤ 12) : PureX Tryd.prog (gl0 ml) calendar_start [I y, I m] (fun r => r = I ((cm (lpN y) m : Nat) : Int)) := by
  refine pure_fnX mixed fn_calendar_start nt_calendar_start hc_calendar_start (by simp) (gl0n ml) (by simp [nf]) ?_
  have hl := lpN_le y
  have hd := leap_x (ml := ml) y h1 h2
  generalize lpN y = l at hl hd ⊢
  have w : IntKind.i64.wrap (((m : Nat) : Int) - 1) = ((m - 1 : Nat) : Int) := by rw [wrap_id (by unfold in64; omega)]; omega
  rcases (show l = 0 ∨ l = 1 by omega) with rfl | rfl <;> rcases (show m = 1 ∨ m = 2 ∨ m = 3 ∨ m = 4 ∨ m = 5 ∨ m = 6 ∨ m = 7 ∨ m = 8 ∨ m = 9 ∨ m = 10 ∨ m = 11 ∨ m = 12 by omega) with rfl | rfl | rfl | rfl | rfl | rfl | rfl | rfl | rfl | rfl | rfl | rfl
  all_goals (conv => whnf)
  all_goals (repeat' first
    | (rw [wpE_one])
    | (rw [w])
    | (refine And.intro (by first | decide | omega | fail) ?_; (conv => whnf))
    | (refine call_x2 hd (LeL.refl _) ?_; rintro _ - rfl; (conv => whnf))
    | (refine fin_e ?_; (conv => whnf); exact ⟨trivial, congrArg (fun n => I n) (by decide)⟩)
    | fail)

theorem calCiv_x (day : Int) : PureX Tryd.prog (gl0 ml) calendar_Civil [I day] (CvV day) := by
  refine pure_fnX mixed fn_calendar_Civil nt_calendar_Civil hc_calendar_Civil (by simp) (gl0n ml) (by simp [nf]) ?_
  conv => whnf
  by_cases c : 1 ≤ day ∧ day ≤ 3652059
  · refine br_false (decide_eq_false ((by omega : ¬ day < 1))) ?_
    conv => whnf
    refine br_false (decide_eq_false ((by omega : ¬ 3652059 < day))) ?_
    conv => whnf
    obtain ⟨n, hn⟩ : ∃ n : Nat, day = (n : Int) + 1 := ⟨(day - 1).toNat, by omega⟩
    have hn2 : n < 3652059 := by omega
    obtain ⟨k, hk⟩ : ∃ k, k = n / 146097 := ⟨_, rfl⟩
    obtain ⟨r1, hr1⟩ : ∃ r1, r1 = n % 146097 := ⟨_, rfl⟩
    obtain ⟨q1, hq1⟩ : ∃ q1, q1 = r1 / 36524 := ⟨_, rfl⟩
    obtain ⟨h, hh⟩ : ∃ h, h = min q1 3 := ⟨_, rfl⟩
    obtain ⟨r2, hr2⟩ : ∃ r2, r2 = r1 - h * 36524 := ⟨_, rfl⟩
    obtain ⟨f, hf⟩ : ∃ f, f = r2 / 1461 := ⟨_, rfl⟩
    obtain ⟨r3, hr3⟩ : ∃ r3, r3 = r2 % 1461 := ⟨_, rfl⟩
    obtain ⟨q2, hq2⟩ : ∃ q2, q2 = r3 / 365 := ⟨_, rfl⟩
    obtain ⟨o, ho⟩ : ∃ o, o = min q2 3 := ⟨_, rfl⟩
    obtain ⟨r4, hr4⟩ : ∃ r4, r4 = r3 - o * 365 := ⟨_, rfl⟩
    obtain ⟨y, hy⟩ : ∃ y, y = 400 * k + 100 * h + 4 * f + o + 1 := ⟨_, rfl⟩
    have z := civ_y hk hr1 (by rw [hh, hq1]) hr2 hf hr3 (by rw [ho, hq2]) hr4
    have b1 : k ≤ 25 ∧ r1 < 146097 := by omega
    have b2 : r2 ≤ 146097 := by omega
    have b3 : f ≤ 100 ∧ r3 < 1461 := by omega
    have w1 : IntKind.i64.wrap (day - 1) = (n : Nat) := by rw [wrap_id (by unfold in64; omega)]; omega
    have w2 : (n : Int).tdiv 146097 = (k : Nat) := by rw [hk]; exact (Int.ofNat_tdiv n 146097).symm
    have w3 : IntKind.i64.wrap ((k : Nat) : Int) = (k : Nat) := wrap_id (by unfold in64; omega)
    have w4 : IntKind.i64.wrap (400 * ((k : Nat) : Int)) = ((400 * k : Nat) : Int) := by rw [wrap_id (by unfold in64; omega)]; omega
    have w5 : IntKind.i64.wrap (((400 * k : Nat) : Int) + 1) = ((400 * k + 1 : Nat) : Int) := by rw [wrap_id (by unfold in64; omega)]; omega
    have w6 : (n : Int).tmod 146097 = (r1 : Nat) := by rw [hr1]; exact (Int.ofNat_tmod n 146097).symm
    have w7 : (r1 : Int).tdiv 36524 = (q1 : Nat) := by rw [hq1]; exact (Int.ofNat_tdiv r1 36524).symm
    have w8 : IntKind.i64.wrap ((q1 : Nat) : Int) = (q1 : Nat) := wrap_id (by unfold in64; omega)
    have w9 : mmI false ((q1 : Nat) : Int) 3 = (h : Nat) := by unfold mmI; simp only [Bool.false_eq_true, if_false]; omega
    have w10 : IntKind.i64.wrap (((h : Nat) : Int) * 36524) = ((h * 36524 : Nat) : Int) := by rw [wrap_id (by unfold in64; omega)]; omega
    have w11 : IntKind.i64.wrap (((r1 : Nat) : Int) - ((h * 36524 : Nat) : Int)) = (r2 : Nat) := by rw [wrap_id (by unfold in64; omega)]; omega
    have w12 : (r2 : Int).tdiv 1461 = (f : Nat) := by rw [hf]; exact (Int.ofNat_tdiv r2 1461).symm
    have w13 : IntKind.i64.wrap ((f : Nat) : Int) = (f : Nat) := wrap_id (by unfold in64; omega)
    have w14 : (r2 : Int).tmod 1461 = (r3 : Nat) := by rw [hr3]; exact (Int.ofNat_tmod r2 1461).symm
    have w15 : (r3 : Int).tdiv 365 = (q2 : Nat) := by rw [hq2]; exact (Int.ofNat_tdiv r3 365).symm
    have w16 : IntKind.i64.wrap ((q2 : Nat) : Int) = (q2 : Nat) := wrap_id (by unfold in64; omega)
    have w17 : mmI false ((q2 : Nat) : Int) 3 = (o : Nat) := by unfold mmI; simp only [Bool.false_eq_true, if_false]; omega
    have w18 : IntKind.i64.wrap (((o : Nat) : Int) * 365) = ((o * 365 : Nat) : Int) := by rw [wrap_id (by unfold in64; omega)]; omega
    have w19 : IntKind.i64.wrap (((r3 : Nat) : Int) - ((o * 365 : Nat) : Int)) = (r4 : Nat) := by rw [wrap_id (by unfold in64; omega)]; omega
    have w20 : IntKind.i64.wrap (100 * ((h : Nat) : Int)) = ((100 * h : Nat) : Int) := by rw [wrap_id (by unfold in64; omega)]; omega
    have w21 : IntKind.i64.wrap (4 * ((f : Nat) : Int)) = ((4 * f : Nat) : Int) := by rw [wrap_id (by unfold in64; omega)]; omega
    have w22 : IntKind.i64.wrap (((100 * h : Nat) : Int) + ((4 * f : Nat) : Int)) = ((100 * h + 4 * f : Nat) : Int) := by rw [wrap_id (by unfold in64; omega)]; omega
    have w23 : IntKind.i64.wrap (((100 * h + 4 * f : Nat) : Int) + ((o : Nat) : Int)) = ((100 * h + 4 * f + o : Nat) : Int) := by rw [wrap_id (by unfold in64; omega)]; omega
    have w24 : IntKind.i64.wrap (((400 * k + 1 : Nat) : Int) + ((100 * h + 4 * f + o : Nat) : Int)) = ((y : Nat) : Int) := by rw [wrap_id (by unfold in64; omega)]; omega
    clear hk hr1 hq1 hh hr2 hf hr3 hq2 ho hr4
    repeat' first
      | (rw [wpE_one])
      | (refine And.intro (by decide) ?_; (conv => whnf))
      | (rw [w1])
      | (rw [w2])
      | (rw [w3])
      | (rw [w4])
      | (rw [w5])
      | (rw [w6])
      | (rw [w7])
      | (rw [w8])
      | (rw [w9])
      | (rw [w10])
      | (rw [w11])
      | (rw [w12])
      | (rw [w13])
      | (rw [w14])
      | (rw [w15])
      | (rw [w16])
      | (rw [w17])
      | (rw [w18])
      | (rw [w19])
      | (rw [w20])
      | (rw [w21])
      | (rw [w22])
      | (rw [w23])
      | (rw [w24])
      | fail
    have e1 : SB (y - 1) + r4 = n := by rw [hy, Nat.add_sub_cancel]; exact z.1
    have e2 : r4 < 365 + lpN y := by rw [hy]; exact z.2.1
    have y1 : 1 ≤ y := by omega
    have y2 : y ≤ 9999 := by
      apply Classical.byContradiction
      intro hc
      have h3 : SB 9999 ≤ SB (y - 1) := SB_mono (by omega)
      have h4 : SB 9999 = 3652059 := rfl
      omega
    have h5 := lpN_le y
    clear w1 w2 w3 w4 w5 w6 w7 w8 w9 w10 w11 w12 w13 w14 w15 w16 w17 w18 w19 w20 w21 w22 w23 w24 hy z
    refine loop_at mixed (fun (m : Nat) => ([(9, I m), (4, I r4), (5, I y), (2, .ptr 0 []), (3, B false)], [(0, .box (encDt 0 0 0))], 1)) (fun m => 1 ≤ m ∧ m ≤ 12 ∧ cm (lpN y) m ≤ r4) (fun m => 12 - m) 1 ⟨Nat.le_refl _, by decide, by rw [cm_1]; exact Nat.zero_le _⟩ (le_st (le_r rfl) (leE_i rfl rfl (leE_i rfl rfl (leE_i rfl rfl (leE_ptr rfl rfl (leE_eq rfl (bnd_nf _ (trivial)) trivial))))) (leO_box (lt_r rfl) rfl (LeA.refl _ ) (bnd_nf _ ( (by simp [nf]))) trivial) (gl0n ml)) ?_
    rintro m ⟨m1, m2, hm⟩
    have hs := cm_s h5 m1 m2
    have v1 : IntKind.i64.wrap (((m : Nat) : Int) + 1) = ((m + 1 : Nat) : Int) := by rw [wrap_id (by unfold in64; omega)]; omega
    have done : (m = 12 ∨ r4 < cm (lpN y) (m + 1)) → DtIs day.toNat y m (r4 - cm (lpN y) m + 1) := fun hd => by
      refine ⟨y1, m1, m2, by omega, ?_, by rw [hn]; show SB (y - 1) + cm (lpN y) m + (r4 - cm (lpN y) m + 1) = n + 1; omega⟩
      rcases hd with rfl | hd
      · have : cm (lpN y) (12 + 1) = 365 + lpN y := cm_13 _
        omega
      · omega
    have v2 : IntKind.i64.wrap (((r4 : Nat) : Int) - ((cm (lpN y) m : Nat) : Int)) = ((r4 - cm (lpN y) m : Nat) : Int) := by rw [wrap_id (by unfold in64; omega)]; omega
    have v3 : IntKind.i64.wrap (((r4 - cm (lpN y) m : Nat) : Int) + 1) = ((r4 - cm (lpN y) m + 1 : Nat) : Int) := by rw [wrap_id (by unfold in64; omega)]; omega
    conv => whnf
    by_cases c1 : m < 12
    · refine br_true (decide_eq_true ((by omega : (m : Int) < 12))) ?_
      conv => whnf
      rw [v1]
      refine call_x2 (start_x y (m + 1) y1 y2 (by omega) (by omega)) (LeL.refl _) ?_
      rintro _ - rfl
      conv => whnf
      by_cases c2 : cm (lpN y) (m + 1) ≤ r4
      · refine br_true (decide_eq_true ((by omega : ((cm (lpN y) (m + 1) : Nat) : Int) ≤ (r4 : Nat)))) ?_
        conv => whnf
        exact ⟨m + 1, ⟨by omega, by omega, c2⟩, (show 12 - (m + 1) < 12 - m by omega), (le_st (le_r rfl) (leE_i rfl (v1) (leE_i rfl rfl (leE_i rfl rfl (leE_ptr rfl rfl (leE_eq rfl (bnd_nf _ (trivial)) trivial))))) (leO_box (lt_r rfl) rfl (LeA.refl _ ) (bnd_nf _ ( (by simp [nf]))) trivial) (gl0n ml))⟩
      · refine br_false (decide_eq_false ((by omega : ¬ (((cm (lpN y) (m + 1) : Nat) : Int) ≤ (r4 : Nat))))) ?_
        conv => whnf
        refine call_x2 (start_x y m y1 y2 m1 m2) (LeL.refl _) ?_
        rintro _ - rfl
        conv => whnf
        repeat' first
          | (rw [wpE_one])
          | (refine And.intro (by decide) ?_; (conv => whnf))
          | (rw [v2])
          | (rw [v3])
          | fail
        refine fin_e ?_
        conv => whnf
        exact ⟨by simp [packA, consL, nf], .ok y m _ (done (.inr (by omega))) c.1 c.2⟩
    · refine br_false (decide_eq_false ((by omega : ¬ ((m : Int) < 12)))) ?_
      conv => whnf
      refine call_x2 (start_x y m y1 y2 m1 m2) (LeL.refl _) ?_
      rintro _ - rfl
      conv => whnf
      repeat' first
        | (rw [wpE_one])
        | (refine And.intro (by decide) ?_; (conv => whnf))
        | (rw [v2])
        | (rw [v3])
        | fail
      refine fin_e ?_
      conv => whnf
      exact ⟨by simp [packA, consL, nf], .ok y m _ (done (.inl (by omega))) c.1 c.2⟩
  · by_cases c1 : day < 1
    · refine br_true (decide_eq_true (c1)) ?_
      conv => whnf
      refine fin_e ?_
      conv => whnf
      exact ⟨by simp [packA, consL, nf], .no c⟩
    · refine br_false (decide_eq_false (c1)) ?_
      conv => whnf
      refine br_true (decide_eq_true ((by omega : 3652059 < day))) ?_
      conv => whnf
      refine fin_e ?_
      conv => whnf
      exact ⟨by simp [packA, consL, nf], .no c⟩

end Go.Proofs.YtankpibkakfnhaaDoor
namespace Go.Proofs.YtankpibkakfnhaaDoor
open Go Ar
variable {ml : GV}
set_option linter.unusedVariables false
set_option autoImplicit false
set_option maxHeartbeats 4000000
set_option maxRecDepth 100000

theorem decB_size (L n : Nat) : (decB L n).size = L := by
  unfold decB
  rw [strOfNums_size, List.length_map, List.length_range]
theorem decB_s {L n : Nat} (h : n < 10 ^ L) : (⟨#[48]⟩ : ByteArray) ++ decB L n = decB (L + 1) n := by
  rw [show (⟨#[48]⟩ : ByteArray) = strOfNums [48] from rfl]
  unfold decB
  rw [son_app, List.range_succ_eq_map, List.map_cons, List.map_map]
  refine congrArg strOfNums ?_
  refine List.cons_eq_cons.2 ⟨?_, List.map_congr_left fun i hi => ?_⟩
  · have : dgt (L + 1) n 0 = 0 := by
      unfold dgt
      rw [show L + 1 - 1 - 0 = L by omega, Nat.div_eq_of_lt h]
    rw [this]; rfl
  · have hi : i < L := List.mem_range.1 hi
    have : dgt (L + 1) n (i + 1) = dgt L n i := by
      unfold dgt
      rw [show L + 1 - 1 - (i + 1) = L - 1 - i by omega]
    show _ = ((48 + dgt (L + 1) n (i + 1) : Nat) : Int)
    rw [this]
theorem ndg_lt {n w : Nat} (hn : n < 18446744073709551616) (h : n < 10 ^ w) (hw : 1 ≤ w) : ndg n ≤ w := by
  have h1 := ndg_is hn
  rcases h1.ge with e | e
  · omega
  · apply Classical.byContradiction
    intro hc
    have : 10 ^ w ≤ 10 ^ (ndg n - 1) := Nat.pow_le_pow_right (by decide) (by omega)
    omega

theorem padded_x (n w : Nat) (hw : 1 ≤ w) (hw2 : w ≤ 4) (h : n < 10 ^ w) : PureX Tryd.prog (gl0 ml) r2_padded [I n, I w] (fun r => r = T (decB w n)) := by
  refine pure_fnX mixed fn_r2_padded nt_r2_padded hc_r2_padded (by simp) (gl0n ml) (by simp [nf]) ?_
  have hn : n < 10000 := Nat.lt_of_lt_of_le h (Nat.le_trans (Nat.pow_le_pow_right (by decide) hw2) (by decide))
  conv => whnf
  refine call_x2 (itoaS_x (n : Nat) (by unfold in64; omega)) (LeL.refl _) ?_
  rintro _ - rfl
  rw [show itoaT (n : Nat) = decT n from if_neg (by omega)]
  conv => whnf
  have hd := ndg_is (show n < 18446744073709551616 by omega)
  have hdw := ndg_lt (by omega) h hw
  rw [show decT n = decB (ndg n) n from rfl]
  generalize ndg n = d at hd hdw ⊢
  have hlt := hd.lt
  clear hd
  refine loop_at mixed (fun (k : Nat) => ([(5, T (decB k n)), (1, I w)], [], 0)) (fun k => k ≤ w ∧ n < 10 ^ k) (fun k => w - k) d ⟨hdw, hlt⟩ (le_st (le_r rfl) (leE_eq rfl (bnd_nf _ (trivial)) (leE_i rfl rfl trivial)) trivial (gl0n ml)) ?_
  rintro k ⟨hk, hkn⟩
  conv => whnf
  rw [decB_size]
  by_cases c : k < w
  · refine br_true (decide_eq_true ((by omega : (k : Int) < w))) ?_
    conv => whnf
    refine And.intro (by rw [decB_size]; show 1 + k ≤ 9223372036854775807; omega) ?_
    conv => whnf
    try rw [wpE_one]
    conv => whnf
    rw [decB_s hkn]
    exact ⟨k + 1, ⟨c, Nat.lt_of_lt_of_le hkn (Nat.pow_le_pow_right (by decide) (by omega))⟩, (show w - (k + 1) < w - k by omega), (le_st (le_r rfl) (leE_eq rfl (bnd_nf _ (trivial)) (leE_i rfl rfl trivial)) trivial (gl0n ml))⟩
  · refine br_false (decide_eq_false ((by omega : ¬ ((k : Int) < w)))) ?_
    conv => whnf
    obtain rfl : k = w := by omega
    refine fin_e ?_
    conv => whnf
    exact ⟨trivial, rfl⟩

theorem put_g {lo L u q v : Nat} {f g0 g1 : Nat → Int} (hd : v % 10 = dgt L u q) (hq : q + 1 ≤ L) (hg0 : ∀ j, g0 j = if lo + (q + 1) ≤ j ∧ j < lo + L then ((48 + dgt L u (j - lo) : Nat) : Int) else f j) (hg1 : ∀ j, g1 j = if j = lo + ((q : Nat) : Int).toNat then ((48 + v % 10 : Nat) : Int) else g0 j) (j : Nat) : g1 j = if lo + q ≤ j ∧ j < lo + L then ((48 + dgt L u (j - lo) : Nat) : Int) else f j := by
  rw [hg1, hg0, Int.toNat_natCast]
  by_cases c : j = lo + q
  · rw [if_pos c, if_pos (by omega), hd, c, Nat.add_sub_cancel_left]
  · rw [if_neg c]
    by_cases c2 : lo + (q + 1) ≤ j ∧ j < lo + L
    · rw [if_pos c2, if_pos (by omega)]
    · rw [if_neg c2, if_neg (by omega)]

theorem put_i (u lo N L : Nat) (hL : L ≤ 4) (hL1 : 1 ≤ L) (hu : u < 10 ^ L) (hN : lo + L ≤ N) (hN2 : N ≤ 10) (f : Nat → Int) : PureIX Tryd.prog (gl0 ml) calendar_put [.sli B0 lo L 1 5, I u] [(B0, .box (.arr N 1 (fun j => Y (f j))))] 0 (fun r o1 n1 => (nk r ∧ nf r) ∧ o1 = [(B0, .box (dgA lo N L u f 0))] ∧ n1 = 0) := by
  refine pureI_fnX mixed fn_calendar_put nt_calendar_put hc_calendar_put (by simp) (gl0n ml) ?_
  have hn : u < 10000 := Nat.lt_of_lt_of_le hu (Nat.le_trans (Nat.pow_le_pow_right (by decide) hL) (by decide))
  conv => whnf
  refine loop_at mixed (fun (p : Nat) => ([(4, I ((p : Int) - 1)), (0, .sli B0 lo L 1 5), (1, I (u / 10 ^ (L - p) : Nat))], [(B0, .box (dgA lo N L u f p))], 0)) (fun p => p ≤ L) (fun p => p) L (Nat.le_refl _) (le_st (le_r rfl) (leE_i rfl ((by rw [wrap_id (by unfold in64; omega)])) (leE_eq rfl (.inr (by decide)) (leE_i rfl ((by simp)) trivial))) (leO_lent rfl rfl (LeA.arr (fun j hj => LeA.of_eq (show Y (f j) = Y _ by rw [if_neg (by omega)])) ) (bnd_nf _ ( (fun i => trivial))) trivial) (gl0n ml)) ?_
  intro p hp
  conv => whnf
  by_cases c : p = 0
  · refine br_false (decide_eq_false ((by omega : ¬ (0 ≤ (p : Int) - 1)))) ?_
    conv => whnf
    subst c
    exact ⟨⟨[], [(B0, .box (dgA lo N L u f 0))], 0, (le_st (le_r rfl) trivial (leO_lent rfl rfl (LeA.refl _) (bnd_nf _ ((fun i => trivial))) trivial) (gl0n ml)), ⟨_, Le.refl _, ⟨trivial, (by intros; trivial)⟩, rfl, rfl⟩⟩⟩
  · refine br_true (decide_eq_true ((by omega : (0 ≤ (p : Int) - 1)))) ?_
    conv => whnf
    obtain ⟨q, rfl⟩ : ∃ q, p = q + 1 := ⟨p - 1, by omega⟩
    obtain ⟨v, hv⟩ : ∃ v, v = u / 10 ^ (L - (q + 1)) := ⟨_, rfl⟩
    rw [← hv]
    have hv1 : v ≤ u := by rw [hv]; exact Nat.div_le_self _ _
    have e0 : ((q + 1 : Nat) : Int) - 1 = (q : Nat) := by omega
    have e1 : (v : Int).tmod 10 = ((v % 10 : Nat) : Int) := (Int.ofNat_tmod v 10).symm
    have e2 : IntKind.i64.wrap (48 + ((v % 10 : Nat) : Int)) = ((48 + v % 10 : Nat) : Int) := by rw [wrap_id (by unfold in64; omega)]; omega
    have e3 : IntKind.u8.wrap ((48 + v % 10 : Nat) : Int) = ((48 + v % 10 : Nat) : Int) := by show ((48 + v % 10 : Nat) : Int) % 256 = _; omega
    have e4 : (v : Int).tdiv 10 = ((v / 10 : Nat) : Int) := (Int.ofNat_tdiv v 10).symm
    have e5 : IntKind.i64.wrap ((v / 10 : Nat) : Int) = ((v / 10 : Nat) : Int) := wrap_id (by unfold in64; omega)
    obtain ⟨g0, hg0⟩ : ∃ g0 : Nat → Int, ∀ j, g0 j = if lo + (q + 1) ≤ j ∧ j < lo + L then ((48 + dgt L u (j - lo) : Nat) : Int) else f j := ⟨_, fun _ => rfl⟩
    have r0 : dgA lo N L u f (q + 1) = .arr N 1 fun j => Y (g0 j) := congrArg (AV.arr N 1) (funext fun j => congrArg (fun n => Y n) (hg0 j).symm)
    obtain ⟨g1, hg1⟩ : ∃ g1 : Nat → Int, ∀ j, g1 j = if j = lo + ((q : Nat) : Int).toNat then ((48 + v % 10 : Nat) : Int) else g0 j := ⟨_, fun _ => rfl⟩
    rw [r0]
    try rw [e0]
    repeat' first
      | (rw [wpE_one])
      | (rw [e1])
      | (rw [e2])
      | (rw [e3])
      | (rw [e4])
      | (rw [e5])
      | (refine And.intro (by first | decide | omega | (constructor <;> omega) | fail) ?_; (conv => whnf))
      | fail
    rw [okN]
    (try conv in (occs := *) (ev (gl0 ml) _ _) => all_goals whnf)
    conv => whnf
    rw [st_e hg1]
    repeat' first
      | (rw [wpE_one])
      | (rw [e4])
      | (rw [e5])
      | (refine And.intro (by first | decide | omega | (constructor <;> omega) | fail) ?_; (conv => whnf))
      | fail
    have hq : v / 10 = u / 10 ^ (L - q) := by
      rw [hv, Nat.div_div_eq_div_mul, ← Nat.pow_succ, show (L - (q + 1)).succ = L - q by omega]
    have hd : v % 10 = dgt L u q := by
      unfold dgt
      rw [hv, show L - (q + 1) = L - 1 - q by omega]
    exact ⟨q, (show q ≤ L by omega), Nat.lt_succ_self q, (le_st (le_r rfl) (leE_i rfl (wrap_id (by unfold in64; omega)) (leE_eq rfl (.inr (by decide)) (leE_i rfl (congrArg (fun n : Nat => (n : Int)) hq) trivial))) (leO_lent rfl rfl (LeA.arr (fun j hj => LeA.of_eq (congrArg (fun n => Y n) (put_g hd hp hg0 hg1 j))) ) (bnd_nf _ ( (fun i => trivial))) trivial) (gl0n ml))⟩

end Go.Proofs.YtankpibkakfnhaaDoor
namespace Go.Proofs.YtankpibkakfnhaaDoor
open Go Ar
variable {ml : GV}
set_option linter.unusedVariables false
set_option autoImplicit false
set_option maxHeartbeats 4000000
set_option maxRecDepth 100000

/-- A date's text. -/
def dtB (y m d : Nat) : ByteArray := decB 4 y ++ ⟨#[45]⟩ ++ decB 2 m ++ ⟨#[45]⟩ ++ decB 2 d
/-- What both tell of a day: its text, or that it is none. -/
inductive FdV (day : Int) : AV → Prop
  | ok (y m d : Nat) (h : DtIs day.toNat y m d) (h1 : 1 ≤ day) (h2 : day ≤ 3652059) : FdV day (tup2 (T (dtB y m d)) (B true))
  | no (h : ¬ (1 ≤ day ∧ day ≤ 3652059)) : FdV day (tup2 (T ⟨#[]⟩) (B false))

theorem r2Fd_x (day : Int) : PureX Tryd.prog (gl0 ml) r2_FormatDate [I day] (FdV day) := by
  refine pure_fnX mixed fn_r2_FormatDate nt_r2_FormatDate hc_r2_FormatDate (by simp) (gl0n ml) (by simp [nf]) ?_
  conv => whnf
  refine call_x2 (r2Civ_x day) (LeL.refl _) ?_
  rintro _ - (⟨y, m, d, h, h1, h2⟩ | h)
  · conv => whnf
    have y2 : y < 10 ^ 4 := by have := h.y2 (by omega); omega
    have m2 : m < 10 ^ 2 := by have := h.m2; omega
    have d2 : d < 10 ^ 2 := by have := h.d3; omega
    refine call_x2 (padded_x y 4 (by decide) (by decide) y2) (LeL.refl _) ?_
    rintro _ - rfl
    conv => whnf
    try rw [wpE_one]
    rw [decB_size]
    refine And.intro (by decide) ?_
    conv => whnf
    refine call_x2 (padded_x m 2 (by decide) (by decide) m2) (LeL.refl _) ?_
    rintro _ - rfl
    conv => whnf
    obtain ⟨A, hA⟩ : ∃ A, A = decB 4 y ++ ⟨#[45]⟩ := ⟨_, rfl⟩
    have a1 : A.size = 5 := by rw [hA, ByteArray.size_append, decB_size]; rfl
    obtain ⟨A2, hA2⟩ : ∃ A2, A2 = A ++ decB 2 m := ⟨_, rfl⟩
    have a2 : A2.size = 7 := by rw [hA2, ByteArray.size_append, decB_size, a1]
    obtain ⟨A3, hA3⟩ : ∃ A3, A3 = A2 ++ ⟨#[45]⟩ := ⟨_, rfl⟩
    have a3 : A3.size = 8 := by rw [hA3, ByteArray.size_append, a2]; rfl
    rw [← hA, a1, decB_size]
    refine And.intro (by decide) ?_
    conv => whnf
    rw [← hA2, a2]
    refine And.intro (by decide) ?_
    conv => whnf
    refine call_x2 (padded_x d 2 (by decide) (by decide) d2) (LeL.refl _) ?_
    rintro _ - rfl
    conv => whnf
    rw [← hA3, a3, decB_size]
    refine And.intro (by decide) ?_
    conv => whnf
    refine fin_e ?_
    conv => whnf
    rw [hA3, hA2, hA]
    exact ⟨by simp [packA, consL, nf], .ok y m d h h1 h2⟩
  · conv => whnf
    refine fin_e ?_
    conv => whnf
    exact ⟨by simp [packA, consL, nf], .no h⟩

end Go.Proofs.YtankpibkakfnhaaDoor
namespace Go.Proofs.YtankpibkakfnhaaDoor
open Go Ar
variable {ml : GV}
set_option linter.unusedVariables false
set_option autoImplicit false
set_option maxHeartbeats 4000000
set_option maxRecDepth 100000

theorem wpE_two {b : Bool} {P : Program} {gl : Nat → AV} {e1 e2 : Ent} {K : Post} : wpE b P gl [e1, e2] K = stepE b P gl e1 (stepE b P gl e2 K) := rfl
theorem wpE_three {b : Bool} {P : Program} {gl : Nat → AV} {e1 e2 e3 : Ent} {K : Post} : wpE b P gl [e1, e2, e3] K = stepE b P gl e1 (stepE b P gl e2 (stepE b P gl e3 K)) := rfl
theorem wpE_four {b : Bool} {P : Program} {gl : Nat → AV} {e1 e2 e3 e4 : Ent} {K : Post} : wpE b P gl [e1, e2, e3, e4] K = stepE b P gl e1 (stepE b P gl e2 (stepE b P gl e3 (stepE b P gl e4 K))) := rfl

theorem dt_s {y m d : Nat} {t t1 t2 : Nat → Int} (ht1 : t1 = fun j => if 0 + 0 ≤ j ∧ j < 0 + 4 then ((48 + dgt 4 y (j - 0) : Nat) : Int) else t j) (ht2 : t2 = fun j => if 5 + 0 ≤ j ∧ j < 5 + 2 then ((48 + dgt 2 m (j - 5) : Nat) : Int) else t1 j) (t4 : t 4 = 45) (t7 : t 7 = 45) : strF 10 (fun i => dgV 8 2 d t2 0 (0 + i)) = dtB y m d := by
  have h0 : ∀ j, t1 j = if 0 + 0 ≤ j ∧ j < 0 + 4 then ((48 + dgt 4 y (j - 0) : Nat) : Int) else t j := fun j => by rw [ht1]
  have h5 : ∀ j, t2 j = if 5 + 0 ≤ j ∧ j < 5 + 2 then ((48 + dgt 2 m (j - 5) : Nat) : Int) else t1 j := fun j => by rw [ht2]
  unfold dtB decB strF
  rw [show (⟨#[45]⟩ : ByteArray) = strOfNums [45] from rfl, son_app, son_app, son_app, son_app]
  refine congrArg strOfNums ?_
  show [numA (dgV 8 2 d t2 0 (0 + 0)), numA (dgV 8 2 d t2 0 (0 + 1)), numA (dgV 8 2 d t2 0 (0 + 2)), numA (dgV 8 2 d t2 0 (0 + 3)), numA (dgV 8 2 d t2 0 (0 + 4)), numA (dgV 8 2 d t2 0 (0 + 5)), numA (dgV 8 2 d t2 0 (0 + 6)), numA (dgV 8 2 d t2 0 (0 + 7)), numA (dgV 8 2 d t2 0 (0 + 8)), numA (dgV 8 2 d t2 0 (0 + 9))] = [((48 + dgt 4 y 0 : Nat) : Int), ((48 + dgt 4 y 1 : Nat) : Int), ((48 + dgt 4 y 2 : Nat) : Int), ((48 + dgt 4 y 3 : Nat) : Int), 45, ((48 + dgt 2 m 0 : Nat) : Int), ((48 + dgt 2 m 1 : Nat) : Int), 45, ((48 + dgt 2 d 0 : Nat) : Int), ((48 + dgt 2 d 1 : Nat) : Int)]
  have e : ∀ j, numA (dgV 8 2 d t2 0 (0 + j)) = if 8 ≤ j ∧ j < 10 then ((48 + dgt 2 d (j - 8) : Nat) : Int) else t2 j := fun j => by
    show (if 8 + 0 ≤ 0 + j ∧ 0 + j < 8 + 2 then ((48 + dgt 2 d (0 + j - 8) : Nat) : Int) else t2 (0 + j)) = _
    rw [Nat.zero_add]
  rw [e 0, e 1, e 2, e 3, e 4, e 5, e 6, e 7, e 8, e 9, if_neg (by decide), if_neg (by decide), if_neg (by decide), if_neg (by decide), if_neg (by decide), if_neg (by decide), if_neg (by decide), if_neg (by decide), if_pos (by decide), if_pos (by decide)]
  rw [h5 0, h5 1, h5 2, h5 3, h5 4, h5 5, h5 6, h5 7, if_neg (by decide), if_neg (by decide), if_neg (by decide), if_neg (by decide), if_neg (by decide), if_pos (by decide), if_pos (by decide), if_neg (by decide)]
  rw [h0 0, h0 1, h0 2, h0 3, h0 4, h0 7, if_pos (by decide), if_pos (by decide), if_pos (by decide), if_pos (by decide), if_neg (by decide), if_neg (by decide), t4, t7]

theorem calFd_x (day : Int) : PureX Tryd.prog (gl0 ml) calendar_FormatDate [I day] (FdV day) := by
  refine pure_fnX mixed fn_calendar_FormatDate nt_calendar_FormatDate hc_calendar_FormatDate (by simp) (gl0n ml) (by simp [nf]) ?_
  conv => whnf
  refine call_x2 (calCiv_x day) (LeL.refl _) ?_
  rintro _ - (⟨y, m, d, h, h1, h2⟩ | h)
  · conv => whnf
    have y2 : y < 10 ^ 4 := by have := h.y2 (by omega); omega
    have m2 : m < 10 ^ 2 := by have := h.m2; omega
    have d2 : d < 10 ^ 2 := by have := h.d3; omega
    try rw [wpE_one]
    generalize hg : fOf _ = g
    generalize hN : List.length _ = N
    obtain rfl : N = 10 := hN.symm.trans rfl
    clear hN
    have g0 : ∀ j, j < 10 → g j = Y (at_ [48, 48, 48, 48, 45, 48, 48, 45, 48, 48] j) := by
      intro j hj
      rw [← hg]
      rcases (show j = 0 ∨ j = 1 ∨ j = 2 ∨ j = 3 ∨ j = 4 ∨ j = 5 ∨ j = 6 ∨ j = 7 ∨ j = 8 ∨ j = 9 by omega) with rfl | rfl | rfl | rfl | rfl | rfl | rfl | rfl | rfl | rfl <;> rfl
    clear hg
    obtain ⟨t, ht⟩ : ∃ t : Nat → Int, t = at_ [48, 48, 48, 48, 45, 48, 48, 45, 48, 48] := ⟨_, rfl⟩
    rw [← ht] at g0
    have t4 : t 4 = 45 := by rw [ht]; rfl
    have t7 : t 7 = 45 := by rw [ht]; rfl
    clear ht
    repeat' first
      | (rw [wpE_one])
      | (rw [wpE_two])
      | (rw [wpE_three])
      | (rw [wpE_four])
      | (refine And.intro (by decide) ?_; (conv => whnf))
      | fail
    refine call_l 1 (put_i y 0 10 4 (by decide) (by decide) y2 (by decide) (by decide) t) rfl (LeA.arr fun j hj => LeA.of_eq (g0 j hj)) (fun i => trivial) (il_1 trivial) ⟨LeA.refl _ |>.le, LeA.refl _ |>.le, trivial⟩ rfl ?_
    rintro r1 _ _ ⟨⟨hr, hr'⟩, rfl, rfl⟩
    refine ⟨_, rfl, rfl, (fun i => trivial), hr, ?_⟩
    conv => whnf
    refine force_iff.2 ?_
    conv => whnf
    repeat' first
      | (rw [wpE_one])
      | (rw [wpE_two])
      | (rw [wpE_three])
      | (rw [wpE_four])
      | (refine And.intro (by decide) ?_; (conv => whnf))
      | fail
    obtain ⟨t1, ht1⟩ : ∃ t1 : Nat → Int, t1 = fun j => if 0 + 0 ≤ j ∧ j < 0 + 4 then ((48 + dgt 4 y (j - 0) : Nat) : Int) else t j := ⟨_, rfl⟩
    refine call_l 1 (put_i m 5 10 2 (by decide) (by decide) m2 (by decide) (by decide) t1) rfl (LeA.of_eq (by rw [ht1])) (fun i => trivial) (il_1 trivial) ⟨LeA.refl _ |>.le, LeA.refl _ |>.le, trivial⟩ rfl ?_
    rintro r2 _ _ ⟨⟨hr, hr'⟩, rfl, rfl⟩
    refine ⟨_, rfl, rfl, (fun i => trivial), hr, ?_⟩
    clear hr'
    conv => whnf
    refine force_iff.2 ?_
    conv => whnf
    repeat' first
      | (rw [wpE_one])
      | (rw [wpE_two])
      | (rw [wpE_three])
      | (rw [wpE_four])
      | (refine And.intro (by decide) ?_; (conv => whnf))
      | fail
    obtain ⟨t2, ht2⟩ : ∃ t2 : Nat → Int, t2 = fun j => if 5 + 0 ≤ j ∧ j < 5 + 2 then ((48 + dgt 2 m (j - 5) : Nat) : Int) else t1 j := ⟨_, rfl⟩
    refine call_l 1 (put_i d 8 10 2 (by decide) (by decide) d2 (by decide) (by decide) t2) rfl (LeA.of_eq (by rw [ht2])) (fun i => trivial) (il_1 trivial) ⟨LeA.refl _ |>.le, LeA.refl _ |>.le, trivial⟩ rfl ?_
    rintro r3 _ _ ⟨⟨hr, hr'⟩, rfl, rfl⟩
    refine ⟨_, rfl, rfl, (fun i => trivial), hr, ?_⟩
    clear hr'
    conv => whnf
    refine force_iff.2 ?_
    conv => whnf
    obtain ⟨t3, ht3⟩ : ∃ t3 : Nat → Int, t3 = fun j => if 8 + 0 ≤ j ∧ j < 8 + 2 then ((48 + dgt 2 d (j - 8) : Nat) : Int) else t2 j := ⟨_, rfl⟩
    repeat' first
      | (rw [wpE_one])
      | (rw [wpE_two])
      | (rw [wpE_three])
      | (rw [wpE_four])
      | (refine And.intro (by first | decide | exact fun i hi => ⟨_, rfl⟩ | fail) ?_; (conv => whnf))
      | fail
    clear g0
    refine fin_e ?_
    conv => whnf
    have hs : strF 10 (fun i => dgV 8 2 d t2 0 (0 + i)) = dtB y m d := dt_s ht1 ht2 t4 t7
    rw [hs]
    exact ⟨by simp [packA, consL, nf], .ok y m d h h1 h2⟩
  · conv => whnf
    refine fin_e ?_
    conv => whnf
    exact ⟨by simp [packA, consL, nf], .no h⟩

end Go.Proofs.YtankpibkakfnhaaDoor
namespace Go.Proofs.YtankpibkakfnhaaDoor
open Go
set_option maxRecDepth 100000

def laysA_ren : Go.Shelf.Ren := ⟨fun | 172 => 31 | 244 => 50 | 245 => 51 | 247 => 68 | 279 => 69 | 280 => 70 | 281 => 71 | 282 => 72 | 287 => 81 | 316 => 82 | 171 => 11 | 205 => 83 | 321 => 86 | 322 => 87 | 243 => 26 | 246 => 46 | 283 => 60 | 284 => 61 | 285 => 62 | 286 => 63 | 129 => 75 | 317 => 74 | 318 => 76 | 319 => 77 | 320 => 78 | 337 => 84 | 338 => 85 | n => n, fun | 9 => 9 | 3 => 3 | 75 => 56 | 76 => 57 | 4 => 4 | 5 => 5 | 167 => 81 | 37 => 50 | 0 => 0 | 85 => 82 | 2 => 2 | 168 => 84 | 53 => 52 | 175 => 94 | 46 => 80 | 210 => 98 | 127 => 103 | 145 => 106 | 143 => 104 | 21 => 21 | 171 => 74 | 173 => 77 | 212 => 88 | 51 => 89 | 20 => 20 | 213 => 90 | 232 => 107 | 233 => 108 | 80 => 109 | n => n, fun | 15 => 3 | 16 => 4 | 17 => 2 | 18 => 5 | 19 => 6 | n => n⟩
theorem laysA : Go.Proofs.LaysC.n172 Tryd.prog laysA_ren where
  mixed := by kernel_rfl
  f129 := Tryd.func75.trans (congrArg some (by kernel_rfl))
  f171 := Tryd.func11.trans (congrArg some (by kernel_rfl))
  f172 := Tryd.func31.trans (congrArg some (by kernel_rfl))
  f205 := Tryd.func83.trans (congrArg some (by kernel_rfl))
  f243 := Tryd.func26.trans (congrArg some (by kernel_rfl))
  f244 := Tryd.func50.trans (congrArg some (by kernel_rfl))
  f245 := Tryd.func51.trans (congrArg some (by kernel_rfl))
  f246 := Tryd.func46.trans (congrArg some (by kernel_rfl))
  f247 := Tryd.func68.trans (congrArg some (by kernel_rfl))
  f279 := Tryd.func69.trans (congrArg some (by kernel_rfl))
  f280 := Tryd.func70.trans (congrArg some (by kernel_rfl))
  f281 := Tryd.func71.trans (congrArg some (by kernel_rfl))
  f282 := Tryd.func72.trans (congrArg some (by kernel_rfl))
  f283 := Tryd.func60.trans (congrArg some (by kernel_rfl))
  f284 := Tryd.func61.trans (congrArg some (by kernel_rfl))
  f285 := Tryd.func62.trans (congrArg some (by kernel_rfl))
  f286 := Tryd.func63.trans (congrArg some (by kernel_rfl))
  f287 := Tryd.func81.trans (congrArg some (by kernel_rfl))
  f316 := Tryd.func82.trans (congrArg some (by kernel_rfl))
  f317 := Tryd.func74.trans (congrArg some (by kernel_rfl))
  f318 := Tryd.func76.trans (congrArg some (by kernel_rfl))
  f319 := Tryd.func77.trans (congrArg some (by kernel_rfl))
  f320 := Tryd.func78.trans (congrArg some (by kernel_rfl))
  f321 := Tryd.func86.trans (congrArg some (by kernel_rfl))
  f322 := Tryd.func87.trans (congrArg some (by kernel_rfl))
  f337 := Tryd.func84.trans (congrArg some (by kernel_rfl))
  f338 := Tryd.func85.trans (congrArg some (by kernel_rfl))
  t0 := Tryd.underlying0
  a0 := Tryd.isAgg0
  z0 := Tryd.sizeOf0
  v0 := Tryd.zeroValue0
  t2 := Tryd.underlying2
  a2 := Tryd.isAgg2
  z2 := Tryd.sizeOf2
  v2 := Tryd.zeroValue2
  t3 := Tryd.underlying3
  a3 := Tryd.isAgg3
  z3 := Tryd.sizeOf3
  v3 := Tryd.zeroValue3
  t4 := Tryd.underlying4
  a4 := Tryd.isAgg4
  z4 := Tryd.sizeOf4
  v4 := Tryd.zeroValue4
  t5 := Tryd.underlying5
  a5 := Tryd.isAgg5
  z5 := Tryd.sizeOf5
  v5 := Tryd.zeroValue5
  t9 := Tryd.underlying9
  a9 := Tryd.isAgg9
  z9 := Tryd.sizeOf9
  v9 := Tryd.zeroValue9
  t20 := Tryd.underlying20
  a20 := Tryd.isAgg20
  z20 := Tryd.sizeOf20
  v20 := Tryd.zeroValue20
  t21 := Tryd.underlying21
  a21 := Tryd.isAgg21
  z21 := Tryd.sizeOf21
  v21 := Tryd.zeroValue21
  t37 := Tryd.underlying50
  a37 := Tryd.isAgg50
  z37 := Tryd.sizeOf50
  v37 := Tryd.zeroValue50
  t46 := Tryd.underlying80
  a46 := Tryd.isAgg80
  z46 := Tryd.sizeOf80
  v46 := Tryd.zeroValue80
  t51 := Tryd.underlying89
  a51 := Tryd.isAgg89
  z51 := Tryd.sizeOf89
  v51 := Tryd.zeroValue89
  t53 := Tryd.underlying52
  a53 := Tryd.isAgg52
  z53 := Tryd.sizeOf52
  v53 := Tryd.zeroValue52
  t75 := Tryd.underlying56
  a75 := Tryd.isAgg56
  z75 := Tryd.sizeOf56
  v75 := Tryd.zeroValue56
  t76 := Tryd.underlying57
  a76 := Tryd.isAgg57
  z76 := Tryd.sizeOf57
  v76 := Tryd.zeroValue57
  t85 := Tryd.underlying82
  a85 := Tryd.isAgg82
  z85 := Tryd.sizeOf82
  v85 := Tryd.zeroValue82
  t127 := Tryd.underlying103
  a127 := Tryd.isAgg103
  z127 := Tryd.sizeOf103
  v127 := Tryd.zeroValue103
  t143 := Tryd.underlying104
  a143 := Tryd.isAgg104
  z143 := Tryd.sizeOf104
  v143 := Tryd.zeroValue104
  t145 := Tryd.underlying106
  a145 := Tryd.isAgg106
  z145 := Tryd.sizeOf106
  v145 := Tryd.zeroValue106
  t167 := Tryd.underlying81
  a167 := Tryd.isAgg81
  z167 := Tryd.sizeOf81
  v167 := Tryd.zeroValue81
  t168 := Tryd.underlying84
  a168 := Tryd.isAgg84
  z168 := Tryd.sizeOf84
  v168 := Tryd.zeroValue84
  t171 := Tryd.underlying74
  a171 := Tryd.isAgg74
  z171 := Tryd.sizeOf74
  v171 := Tryd.zeroValue74
  t173 := Tryd.underlying77
  a173 := Tryd.isAgg77
  z173 := Tryd.sizeOf77
  v173 := Tryd.zeroValue77
  t175 := Tryd.underlying94
  a175 := Tryd.isAgg94
  z175 := Tryd.sizeOf94
  v175 := Tryd.zeroValue94
  t210 := Tryd.underlying98
  a210 := Tryd.isAgg98
  z210 := Tryd.sizeOf98
  v210 := Tryd.zeroValue98
  t212 := Tryd.underlying88
  a212 := Tryd.isAgg88
  z212 := Tryd.sizeOf88
  v212 := Tryd.zeroValue88
  t213 := Tryd.underlying90
  a213 := Tryd.isAgg90
  z213 := Tryd.sizeOf90
  t232 := Tryd.underlying107
  a232 := Tryd.isAgg107
  z232 := Tryd.sizeOf107
  v232 := Tryd.zeroValue107
  t233 := Tryd.underlying108
  a233 := Tryd.isAgg108
  z233 := Tryd.sizeOf108
  v233 := Tryd.zeroValue108
  g15 := by kernel_rfl
  g16 := by kernel_rfl
  g17 := by kernel_rfl
  g18 := by kernel_rfl
  g19 := by kernel_rfl
  t80 := Tryd.underlying109
  a80 := Tryd.isAgg109
  z80 := Tryd.sizeOf109
  v80 := Tryd.zeroValue109
  i0 := by kernel_rfl
  i2 := by kernel_rfl
  i3 := by kernel_rfl
  i4 := by kernel_rfl
  i5 := by kernel_rfl
  i9 := by kernel_rfl
  i20 := by kernel_rfl
  i21 := by kernel_rfl
  i37 := by kernel_rfl
  i46 := by kernel_rfl
  i51 := by kernel_rfl
  i53 := by kernel_rfl
  i75 := by kernel_rfl
  i76 := by kernel_rfl
  i80 := by kernel_rfl
  i85 := by kernel_rfl
  i127 := by kernel_rfl
  i143 := by kernel_rfl
  i145 := by kernel_rfl
  i167 := by kernel_rfl
  i168 := by kernel_rfl
  i171 := by kernel_rfl
  i173 := by kernel_rfl
  i175 := by kernel_rfl
  i210 := by kernel_rfl
  i212 := by kernel_rfl
  i232 := by kernel_rfl
  i233 := by kernel_rfl
  m15 := by kernel_rfl
  m16 := by kernel_rfl
  m17 := by kernel_rfl
  m18 := by kernel_rfl
  m19 := by kernel_rfl
  c0 := by kernel_rfl
  c2 := by kernel_rfl
  c3 := by kernel_rfl
  c4 := by kernel_rfl
  c5 := by kernel_rfl
  c9 := by kernel_rfl
  c20 := by kernel_rfl
  c21 := by kernel_rfl
  c37 := by kernel_rfl
  c46 := by kernel_rfl
  c51 := by kernel_rfl
  c53 := by kernel_rfl
  c75 := by kernel_rfl
  c76 := by kernel_rfl
  c80 := by kernel_rfl
  c85 := by kernel_rfl
  c127 := by kernel_rfl
  c143 := by kernel_rfl
  c145 := by kernel_rfl
  c167 := by kernel_rfl
  c168 := by kernel_rfl
  c171 := by kernel_rfl
  c173 := by kernel_rfl
  c175 := by kernel_rfl
  c210 := by kernel_rfl
  c212 := by kernel_rfl
  c213 := by kernel_rfl
  c232 := by kernel_rfl
  c233 := by kernel_rfl

def laysC_ren : Go.Shelf.Ren := ⟨fun | 145 => 13 | 220 => 29 | 219 => 48 | 217 => 64 | 225 => 65 | 224 => 66 | 267 => 67 | 266 => 79 | 314 => 80 | n => n, fun | 9 => 9 | 4 => 4 | 59 => 35 | 3 => 3 | 5 => 5 | 46 => 80 | 146 => 92 | 51 => 89 | n => n, fun | 1 => 1 | n => n⟩
theorem laysC : Go.Proofs.Lays.n145 Tryd.prog laysC_ren where
  mixed := by kernel_rfl
  f145 := Tryd.func13.trans (congrArg some (by kernel_rfl))
  f217 := Tryd.func64.trans (congrArg some (by kernel_rfl))
  f219 := Tryd.func48.trans (congrArg some (by kernel_rfl))
  f220 := Tryd.func29.trans (congrArg some (by kernel_rfl))
  f224 := Tryd.func66.trans (congrArg some (by kernel_rfl))
  f225 := Tryd.func65.trans (congrArg some (by kernel_rfl))
  f266 := Tryd.func79.trans (congrArg some (by kernel_rfl))
  f267 := Tryd.func67.trans (congrArg some (by kernel_rfl))
  f314 := Tryd.func80.trans (congrArg some (by kernel_rfl))
  t3 := Tryd.underlying3
  a3 := Tryd.isAgg3
  z3 := Tryd.sizeOf3
  v3 := Tryd.zeroValue3
  t4 := Tryd.underlying4
  a4 := Tryd.isAgg4
  z4 := Tryd.sizeOf4
  v4 := Tryd.zeroValue4
  t5 := Tryd.underlying5
  a5 := Tryd.isAgg5
  z5 := Tryd.sizeOf5
  v5 := Tryd.zeroValue5
  t9 := Tryd.underlying9
  a9 := Tryd.isAgg9
  z9 := Tryd.sizeOf9
  v9 := Tryd.zeroValue9
  t46 := Tryd.underlying80
  a46 := Tryd.isAgg80
  z46 := Tryd.sizeOf80
  v46 := Tryd.zeroValue80
  t51 := Tryd.underlying89
  a51 := Tryd.isAgg89
  z51 := Tryd.sizeOf89
  v51 := Tryd.zeroValue89
  t59 := Tryd.underlying35
  a59 := Tryd.isAgg35
  z59 := Tryd.sizeOf35
  v59 := Tryd.zeroValue35
  t146 := Tryd.underlying92
  a146 := Tryd.isAgg92
  z146 := Tryd.sizeOf92
  v146 := Tryd.zeroValue92
  g1 := by kernel_rfl

def laysT_ren : Go.Shelf.Ren := ⟨fun | 101 => 14 | 208 => 30 | 206 => 49 | n => n, fun | 9 => 9 | 4 => 4 | 3 => 3 | n => n, fun | n => n⟩
theorem laysT : Go.Proofs.Lays.n101 Tryd.prog laysT_ren where
  mixed := by kernel_rfl
  f101 := Tryd.func14.trans (congrArg some (by kernel_rfl))
  f206 := Tryd.func49.trans (congrArg some (by kernel_rfl))
  f208 := Tryd.func30.trans (congrArg some (by kernel_rfl))
  t3 := Tryd.underlying3
  a3 := Tryd.isAgg3
  z3 := Tryd.sizeOf3
  v3 := Tryd.zeroValue3
  t4 := Tryd.underlying4
  a4 := Tryd.isAgg4
  z4 := Tryd.sizeOf4
  v4 := Tryd.zeroValue4
  t9 := Tryd.underlying9
  a9 := Tryd.isAgg9
  z9 := Tryd.sizeOf9
  v9 := Tryd.zeroValue9

def laysP_ren : Go.Shelf.Ren := ⟨fun | 103 => 34 | 210 => 54 | 206 => 49 | n => n, fun | 9 => 9 | 4 => 4 | 24 => 24 | 3 => 3 | n => n, fun | n => n⟩
theorem laysP : Go.Proofs.Lays.n103 Tryd.prog laysP_ren where
  mixed := by kernel_rfl
  f103 := Tryd.func34.trans (congrArg some (by kernel_rfl))
  f206 := Tryd.func49.trans (congrArg some (by kernel_rfl))
  f210 := Tryd.func54.trans (congrArg some (by kernel_rfl))
  t3 := Tryd.underlying3
  a3 := Tryd.isAgg3
  z3 := Tryd.sizeOf3
  v3 := Tryd.zeroValue3
  t4 := Tryd.underlying4
  a4 := Tryd.isAgg4
  z4 := Tryd.sizeOf4
  v4 := Tryd.zeroValue4
  t9 := Tryd.underlying9
  a9 := Tryd.isAgg9
  z9 := Tryd.sizeOf9
  v9 := Tryd.zeroValue9
  t24 := Tryd.underlying24
  a24 := Tryd.isAgg24
  z24 := Tryd.sizeOf24
  v24 := Tryd.zeroValue24

def laysS_ren : Go.Shelf.Ren := ⟨fun | 104 => 35 | 211 => 55 | 207 => 73 | n => n, fun | 9 => 9 | 4 => 4 | 24 => 24 | 3 => 3 | n => n, fun | n => n⟩
theorem laysS : Go.Proofs.Lays.n104 Tryd.prog laysS_ren where
  mixed := by kernel_rfl
  f104 := Tryd.func35.trans (congrArg some (by kernel_rfl))
  f207 := Tryd.func73.trans (congrArg some (by kernel_rfl))
  f211 := Tryd.func55.trans (congrArg some (by kernel_rfl))
  t3 := Tryd.underlying3
  a3 := Tryd.isAgg3
  z3 := Tryd.sizeOf3
  v3 := Tryd.zeroValue3
  t4 := Tryd.underlying4
  a4 := Tryd.isAgg4
  z4 := Tryd.sizeOf4
  v4 := Tryd.zeroValue4
  t9 := Tryd.underlying9
  a9 := Tryd.isAgg9
  z9 := Tryd.sizeOf9
  v9 := Tryd.zeroValue9
  t24 := Tryd.underlying24
  a24 := Tryd.isAgg24
  z24 := Tryd.sizeOf24
  v24 := Tryd.zeroValue24

end Go.Proofs.YtankpibkakfnhaaDoor
namespace Go.Proofs.YtankpibkakfnhaaDoor
open Go Ar
variable {ml : GV}
set_option linter.unusedVariables false
set_option autoImplicit false
set_option maxHeartbeats 4000000
set_option maxRecDepth 100000

abbrev Tx (s : ByteArray) : AV := .val (.string s)
abbrev bL (s : ByteArray) : List UInt8 := s.data.toList
abbrev bT (l : List UInt8) : ByteArray := ⟨l.toArray⟩
theorem bT_size (l : List UInt8) : (bT l).size = l.length := by
  show l.toArray.size = l.length
  simp
theorem bL_len (s : ByteArray) : (bL s).length = s.size := (Lib.size_eq s).symm

theorem txt_v {g : Gh} {w : World} {s : ByteArray} {u : Value} (h : (R g w (Tx s)).v u) : u = .string s ∧ s.size ≤ 9223372036854775807 := by
  obtain ⟨rfl, h2⟩ := h
  exact ⟨rfl, h2⟩
theorem v_txt {g : Gh} {w : World} {s : ByteArray} (h : s.size ≤ 9223372036854775807) : (R g w (Tx s)).v (.string s) := ⟨rfl, h⟩

/-- The number that is left open. -/
theorem ml_cell {G : Nat → Nat} {w : World} (h : ∀ i, (R ⟨fun _ => none, fun _ => none, G⟩ w ((gl0 ml) i)).v (.pointer (some ⟨i, 0, none⟩))) : w.cell? ⟨1, 0, none⟩ = some (.int .i64 ml.n) := by
  obtain ⟨⟨_, _, ⟨ab, ao, asp⟩, ⟨h1, h2, h3⟩, he⟩, _⟩ := h 1
  obtain ⟨_, u, h4, h5, _⟩ := h3 0 (by decide)
  injection he with he
  injection he with he
  injection he with e1 e2 e3
  subst h5
  have h0 : ao + 0 * 1 = 0 := by simp [offP] at e2; omega
  have h4' : w.cell? ⟨ab, ao + 0 * 1, none⟩ = some (.int .i64 ml.n) := h4
  rw [h0, show ab = 1 from e1.symm] at h4'
  exact h4'

theorem lib2 {f : FuncId} {s p : ByteArray} {r : AV} (hr : nf r) (h : ∀ w, s.size ≤ 9223372036854775807 → p.size ≤ 9223372036854775807 → w.cell? ⟨1, 0, none⟩ = some (.int .i64 ml.n) →
    Calls Tryd.prog f #[.string s, .string p] w fun e w' => ∃ u, e = .returned u ∧ Go.RowKit.Below w.heap.size w w' ∧ ∀ g, (R g w' r).v u) : Pure Tryd.prog (gl0 ml) f [Tx s, Tx p] r := by
  refine pure_lib (by simp [nf]) hr (gl0n ml) fun G w cargs hg hr => ?_
  match cargs, hr with
  | [a, b], ⟨h1, h2, _⟩ =>
    obtain ⟨rfl, l1⟩ := txt_v h1
    obtain ⟨rfl, l2⟩ := txt_v h2
    refine (h w l1 l2 (ml_cell hg)).mono ?_
    rintro e w' ⟨u, h3, h4, h5⟩
    exact ⟨u, h3, h4, h5 _⟩
  | [], hr => exact hr.elim
  | [_], hr => exact hr.2.elim
  | _ :: _ :: _ :: _, hr => exact hr.2.2.elim

theorem trim_len (l p : List UInt8) : (Lib.trimPrefix l p).length ≤ l.length := by
  unfold Lib.trimPrefix
  split
  · simp
  · exact Nat.le_refl _
theorem trimS_len (l p : List UInt8) : (Lib.trimSuffix l p).length ≤ l.length := by
  unfold Lib.trimSuffix
  split
  · simp
  · exact Nat.le_refl _

theorem tup2_v {g : Gh} {w : World} {a b : AV} {u v : Value} (h1 : (R g w a).v u) (h2 : (R g w b).v v) : (R g w (tup2 a b)).v (.tuple #[u, v]) := ⟨_, rfl, h1, h2, rfl⟩
theorem tup3_v {g : Gh} {w : World} {a b c : AV} {u v x : Value} (h1 : (R g w a).v u) (h2 : (R g w b).v v) (h3 : (R g w c).v x) : (R g w (tup3 a b c)).v (.tuple #[u, v, x]) := ⟨_, rfl, h1, h2, h3, rfl⟩
theorem v_bool {g : Gh} {w : World} {b : Bool} : (R g w (B b)).v (.bool b) := ⟨rfl, trivial⟩

theorem mkX {f : FuncId} {args : List AV} {r : AV} (hp : Pure Tryd.prog (gl0 ml) f args r) : PureX Tryd.prog (gl0 ml) f args (fun x => x = r) := ⟨r, hp.2.1, rfl, hp⟩

theorem trimP_x (s p : ByteArray) : PureX Tryd.prog (gl0 ml) strings_TrimPrefix [Tx s, Tx p] (fun r => r = Tx (bT (Lib.trimPrefix (bL s) (bL p)))) :=
  mkX (lib2 trivial fun w l1 l2 _ => (Go.Proofs.Any.strings_TrimPrefix laysT s p w).mono (by
    rintro e w' ⟨rfl, rfl⟩
    exact ⟨_, rfl, Go.RowKit.Below.refl _ _, fun g => v_txt (by rw [bT_size]; exact Nat.le_trans (trim_len _ _) (by rw [bL_len]; exact l1))⟩))

theorem cutP_x (s p : ByteArray) : PureX Tryd.prog (gl0 ml) strings_CutPrefix [Tx s, Tx p] (fun r => r = tup2 (Tx (bT (Lib.trimPrefix (bL s) (bL p)))) (B (Lib.hasPrefix (bL s) (bL p)))) :=
  mkX (lib2 ⟨trivial, trivial, trivial⟩ fun w l1 l2 _ => (Go.Proofs.Any.strings_CutPrefix laysP s p w).mono (by
    rintro e w' ⟨rfl, rfl⟩
    exact ⟨_, rfl, Go.RowKit.Below.refl _ _, fun g => tup2_v (v_txt (by rw [bT_size]; exact Nat.le_trans (trim_len _ _) (by rw [bL_len]; exact l1))) v_bool⟩))

theorem cutS_x (s p : ByteArray) : PureX Tryd.prog (gl0 ml) strings_CutSuffix [Tx s, Tx p] (fun r => r = tup2 (Tx (bT (Lib.trimSuffix (bL s) (bL p)))) (B (Lib.hasSuffix (bL s) (bL p)))) :=
  mkX (lib2 ⟨trivial, trivial, trivial⟩ fun w l1 l2 _ => (Go.Proofs.Any.strings_CutSuffix laysS s p w l1).mono (by
    rintro e w' ⟨rfl, rfl⟩
    exact ⟨_, rfl, Go.RowKit.Below.refl _ _, fun g => tup2_v (v_txt (by rw [bT_size]; exact Nat.le_trans (trimS_len _ _) (by rw [bL_len]; exact l1))) v_bool⟩))

theorem cut_len (l p : List UInt8) : (Lib.cut l p).1.length ≤ l.length ∧ (Lib.cut l p).2.1.length ≤ l.length := by
  unfold Lib.cut
  split
  · constructor <;> simp
    omega
  · exact ⟨Nat.le_refl _, Nat.zero_le _⟩

theorem cut_x (s p : ByteArray) (hs : s.size < 4294967281) : PureX Tryd.prog (gl0 ml) strings_Cut [Tx s, Tx p] (fun r => r = tup3 (Tx (bT (Lib.cut (bL s) (bL p)).1)) (Tx (bT (Lib.cut (bL s) (bL p)).2.1)) (B (Lib.cut (bL s) (bL p)).2.2)) :=
  mkX (lib2 (ml := ml) ⟨trivial, trivial, trivial, trivial⟩ fun w l1 l2 hm => (Go.Proofs.Any.strings_Cut laysC s p ml.n w hs hm).mono (by
    rintro e w' ⟨rfl, n, rfl⟩
    have := cut_len (bL s) (bL p)
    rw [bL_len] at this
    exact ⟨_, rfl, below_drewN (Go.RowKit.Below.refl _ _) n, fun g => tup3_v (v_txt (by rw [bT_size]; omega)) (v_txt (by rw [bT_size]; omega)) v_bool⟩))

end Go.Proofs.YtankpibkakfnhaaDoor
namespace Go.Proofs.YtankpibkakfnhaaDoor
open Go Ar
variable {ml : GV}
set_option linter.unusedVariables false
set_option autoImplicit false
set_option maxHeartbeats 4000000
set_option maxRecDepth 100000

/-! A letter's sentence: first, middle, last, and whether the amount comes first. -/
def fF : Nat → ByteArray
  | 1 => ⟨#[116, 104, 101, 32, 112, 114, 111, 109, 105, 115, 101, 32, 116, 111, 32, 112, 97, 121, 32, 111, 110, 32, 108, 111, 97, 110, 32]⟩
  | 2 => ⟨#[108, 111, 97, 110, 32]⟩
  | 3 => ⟨#[105, 110, 116, 101, 114, 101, 115, 116, 32, 111, 110, 32, 108, 111, 97, 110, 32]⟩
  | 4 => ⟨#[108, 111, 97, 110, 32]⟩
  | 5 => ⟨#[97, 32, 108, 97, 116, 101, 32, 102, 101, 101, 32, 111, 102, 32]⟩
  | 6 => ⟨#[108, 111, 97, 110, 32]⟩
  | 7 => ⟨#[108, 111, 97, 110, 32]⟩
  | 8 => ⟨#[108, 111, 97, 110, 32]⟩
  | 9 => ⟨#[97, 32, 112, 97, 121, 109, 101, 110, 116, 32, 111, 102, 32]⟩
  | _ => ⟨#[]⟩
def fM : Nat → ByteArray
  | 1 => ⟨#[32, 119, 97, 115, 32, 110, 111, 116, 32, 107, 101, 112, 116, 59, 32]⟩
  | 2 => ⟨#[32, 105, 115, 32, 105, 110, 32, 97, 114, 114, 101, 97, 114, 115, 59, 32]⟩
  | 3 => ⟨#[32, 105, 115, 32, 104, 101, 108, 100, 32, 105, 110, 32, 115, 117, 115, 112, 101, 110, 115, 101, 32, 102, 114, 111, 109, 32, 110, 111, 119, 32, 111, 110, 59, 32]⟩
  | 4 => ⟨#[32, 119, 97, 115, 32, 99, 104, 97, 114, 103, 101, 100, 32, 111, 102, 102, 59, 32]⟩
  | 5 => ⟨#[32, 119, 97, 115, 32, 99, 104, 97, 114, 103, 101, 100, 32, 116, 111, 32, 108, 111, 97, 110, 32]⟩
  | 6 => ⟨#[32, 105, 115, 32, 117, 112, 32, 116, 111, 32, 100, 97, 116, 101, 32, 97, 103, 97, 105, 110, 59, 32]⟩
  | 7 => ⟨#[32, 104, 97, 115, 32, 97, 32, 110, 101, 119, 32, 112, 108, 97, 110, 59, 32, 105, 116, 32, 105, 115, 32, 111, 118, 101, 114, 32]⟩
  | 8 => ⟨#[32, 105, 115, 32, 112, 97, 105, 100, 32, 111, 102, 102, 59, 32]⟩
  | 9 => ⟨#[32, 111, 110, 32, 108, 111, 97, 110, 32]⟩
  | _ => ⟨#[]⟩
def fL : Nat → ByteArray
  | 1 => ⟨#[32, 105, 115, 32, 112, 97, 115, 116, 32, 100, 117, 101, 46]⟩
  | 2 => ⟨#[32, 105, 115, 32, 112, 97, 115, 116, 32, 100, 117, 101, 46]⟩
  | 3 => ⟨#[32, 105, 115, 32, 112, 97, 115, 116, 32, 100, 117, 101, 46]⟩
  | 4 => ⟨#[32, 119, 97, 115, 32, 111, 119, 101, 100, 46]⟩
  | 5 => ⟨#[46]⟩
  | 6 => ⟨#[32, 105, 115, 32, 112, 97, 115, 116, 32, 100, 117, 101, 46]⟩
  | 7 => ⟨#[46]⟩
  | 8 => ⟨#[32, 105, 115, 32, 111, 119, 101, 100, 46]⟩
  | 9 => ⟨#[32, 119, 97, 115, 32, 114, 101, 116, 117, 114, 110, 101, 100, 46]⟩
  | _ => ⟨#[]⟩
def fA (k : Nat) : Bool := k == 5 || k == 9
abbrev encF (k : Nat) : AV := .st (.cons (T (fF k)) (.cons (T (fM k)) (.cons (T (fL k)) (.cons (B (fA k)) .nil))))

theorem sent_x (k : Nat) (h1 : 1 ≤ k) (h2 : k ≤ 9) : PureX Tryd.prog (gl0 ml) report_sentence [I k] (fun r => r = encF k) := by
  refine pure_fnX mixed fn_report_sentence nt_report_sentence hc_report_sentence (by simp) (gl0n ml) (by simp [nf]) ?_
  conv => whnf
  rcases (show k = 1 ∨ k = 2 ∨ k = 3 ∨ k = 4 ∨ k = 5 ∨ k = 6 ∨ k = 7 ∨ k = 8 ∨ k = 9 by omega) with rfl | rfl | rfl | rfl | rfl | rfl | rfl | rfl | rfl
  all_goals (conv => whnf)
  all_goals (refine fin_e ?_; (conv => whnf); exact ⟨by simp [packA, consL, nf], rfl⟩)

theorem szc (l : Array UInt8) : (ByteArray.mk l).size = l.size := rfl
theorem f_size {k : Nat} (h1 : 1 ≤ k) (h2 : k ≤ 9) : (fF k).size ≤ 30 ∧ (fM k).size ≤ 40 ∧ (fL k).size ≤ 20 := by
  rcases (show k = 1 ∨ k = 2 ∨ k = 3 ∨ k = 4 ∨ k = 5 ∨ k = 6 ∨ k = 7 ∨ k = 8 ∨ k = 9 by omega) with rfl | rfl | rfl | rfl | rfl | rfl | rfl | rfl | rfl <;> decide

/-- The sentence with its two words. -/
def senT (k : Nat) (loan amount : ByteArray) : ByteArray := if fA k then fF k ++ amount ++ fM k ++ loan ++ fL k else fF k ++ loan ++ fM k ++ amount ++ fL k

theorem r21_sent_x (k : Nat) (a b : ByteArray) (h1 : 1 ≤ k) (h2 : k ≤ 9) (ha : a.size ≤ 100) (hb : b.size ≤ 100) : PureX Tryd.prog (gl0 ml) r21_sentence [I k, T a, T b] (fun r => r = T (senT k a b)) := by
  refine pure_fnX mixed fn_r21_sentence nt_r21_sentence hc_r21_sentence (by simp) (gl0n ml) (by simp [nf]) ?_
  conv => whnf
  rcases (show k = 1 ∨ k = 2 ∨ k = 3 ∨ k = 4 ∨ k = 5 ∨ k = 6 ∨ k = 7 ∨ k = 8 ∨ k = 9 by omega) with rfl | rfl | rfl | rfl | rfl | rfl | rfl | rfl | rfl
  all_goals (conv => whnf)
  all_goals (repeat' first
    | (rw [wpE_one])
    | (refine And.intro (by simp only [ByteArray.size_append, szc, List.size_toArray, List.length_cons, List.length_nil]; omega) ?_; (conv => whnf))
    | (refine fin_e ?_; (conv => whnf); exact ⟨trivial, rfl⟩)
    | fail)

end Go.Proofs.YtankpibkakfnhaaDoor
