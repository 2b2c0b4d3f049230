/- The statement BureauCodes: the row and its card. No condition. -/
import Derived.Test.YtaomkjcclcgdlaaGreatDoorN1
import Derived.Test.YtaomkjcclcgdlaaGreatDoorK8
import Derived.Test.YtaomkjcclcgdlaaGreatDoorCards
import Derived.Test.YtaomkjcclcgdlaaGreatDoorTie
import Derived.WalkKit
import Derived.ProofKit
import Derived.Handy
import Derived.SevenTiedAt
set_option linter.all false
namespace Go.Proofs.YtaomkjcclcgdlaaGreatDoor.bureauCodes
open Go Ar Go.Proofs.YtaomkjcclcgdlaaGreatDoor
set_option linter.unusedVariables false
set_option autoImplicit false
set_option maxRecDepth 100000

theorem laid : laidOutB Tryz.prog = true := by kernel_rfl
theorem own : ownKnob Tryz.prog.godebug = none := by kernel_rfl

theorem law (l : List AV) (h : OfL [tyPol, .sl 7 tyOpn, tyPol] l) : ∃ args', LeL l args' ∧ Pure Tryz.prog gl0 3 args' (.val (.bool true)) := by
  obtain ⟨a, b, c, rfl, h1, h2, h3⟩ := ofL3 h
  obtain ⟨p, l1, r1, w1⟩ := of_Pol h1
  obtain ⟨ops, l2, r2⟩ := of_Opns h2
  obtain ⟨q, l3, r3, w3⟩ := of_Pol h3
  exact ⟨[encPol p, encL encOpn 7 ops, encPol q], ⟨l1.le, l2.le, l3.le, trivial⟩, law13_x p q ops r1 r3 r2⟩

abbrev laidL : List (String × DataW Unit) := [("math/bits.deBruijn32tab", Rows.laid_math_bits_deBruijn32tab), ("math/bits.deBruijn64tab", Rows.laid_math_bits_deBruijn64tab), ("internal/strconv.uint64pow10", Rows.laid_internal_strconv_uint64pow10), ("arrears/ledger.sides", Rows.laid_arrears_ledger_sides)]

theorem laid_tail {P : Program} {x : String × DataW Unit} {r : List (String × DataW Unit)} {W : World} (h : laidMet P (x :: r) W) : laidMet P r W := by
  obtain ⟨n, d⟩ := x
  obtain ⟨ps, ⟨g, t, cs, fuel, p, q, _, _, _, _, hq, rfl⟩, hn, hc⟩ := h
  exact ⟨q, hq, (List.nodup_append.1 hn).2.1, fun b off hm => hc b off (List.mem_append_right _ hm)⟩

theorem glob {W : World} (h : laidMetH Tryz.prog laidL W) : ∀ i, (R (g0 W) W (gl0 i)).v (.pointer (some ⟨i, 0, none⟩)) := by
  rw [MakeChecks.laidMetH_plain _ _ _ (by kernel_rfl)] at h
  have h := laid_tail (laid_tail (laid_tail h))
  intro i
  match i with
  | 0 => exact ints_laid (t := 140) (e := 3) sideL (by kernel_rfl) (by kernel_rfl) (by kernel_rfl) (by kernel_rfl) (by kernel_rfl) (by kernel_rfl) h
  | _ + 1 => trivial

theorem contract (H : Type) (enc : TypeId × Value → H) (W : World) (base : Nat) (args : Array Value) (ds gs : List (DataW H)) (before : List MemPlace)
    (hval : ∀ (j : Nat) t v, Tryz.f3.params[j]? = some t → args[j]? = some v → Value.okWide Tryz.prog W .any base t v)
    (hW : DataW.Whole enc Tryz.prog Tryz.f3.params.toList Rows.bureauCodesSpec.vars false W args.toList ds gs before)
    (hwt : wOk (DataW.weightsEach Tryz.prog (Tryz.f3.params.toList ++ Rows.bureauCodesSpec.plain.varTypes Tryz.prog) (ds ++ gs))) (hl : laidMetH Tryz.prog laidL W) :
    Calls Tryz.prog 3 args W fun e W' => ∃ v, e = .returned v ∧ Rows.bureauCodesSpec.post enc Tryz.prog Tryz.f3 false true false false W args v W' :=
  law_calls (tb := 4) (tys := [tyPol, .sl 7 tyOpn, tyPol]) laid (by kernel_rfl) (by kernel_rfl) (by kernel_rfl) (by kernel_rfl) rfl (fun ds h => by
    match ds, h with
    | [a, b, c], _ => rfl) law (glob hl) hval hW hwt

theorem lifted (os : Os) (started : os.Started) (H : Type) (enc : TypeId × Value → H) :
    ReturnsInHanded {} Tryz.checked os 3 .any (fun w args => (Rows.bureauCodesSpec.pre enc Tryz.prog Tryz.f3 [] false w args ∧ laidMetH Tryz.prog laidL w) ∧ sizedMet enc Tryz.prog Tryz.f3 (OpenSpec.ofChange Rows.bureauCodesSpec) false w args)
      (Rows.bureauCodesSpec.post enc Tryz.prog Tryz.f3 false true false false) := by
  refine returnsInHanded_of_change_and (C := Tryz.checked) (X := fun w _ => laidMetH Tryz.prog laidL w) (fun _ _ _ hh h => h.of_heap hh) own started (by kernel_rfl) Tryz.func3
    (ChangeSpec.witness_shaped (enc := enc) (C := Tryz.checked) (os := os) (X := fun w _ => laidMetH Tryz.prog laidL w) false (World.laidAll Tryz.prog os laidL) #[.agg #[.int .i64 0, .int .i64 0, .int .i64 0, .int .i64 0, .int .i64 0, .int .i64 0, .int .i64 0, .int .i64 0, .int .i64 0, .int .i64 0, .int .i64 0, .int .i64 0, .int .i64 0, .int .i64 0, .int .i64 0, .int .i64 0, .int .i64 0, .slice none 0 0], .slice none 0 0, .agg #[.int .i64 0, .int .i64 0, .int .i64 0, .int .i64 0, .int .i64 0, .int .i64 0, .int .i64 0, .int .i64 0, .int .i64 0, .int .i64 0, .int .i64 0, .int .i64 0, .int .i64 0, .int .i64 0, .int .i64 0, .int .i64 0, .int .i64 0, .slice none 0 0]] 8 (World.laidAll_os _ _ _)
      (World.shaped_of_ZipB (by kernel_rfl) (by kernel_rfl)) (by kernel_rfl) (by kernel_rfl) (by kernel_rfl)
      (by rw [MakeChecks.laidMetH_plain _ _ _ (by kernel_rfl)]; exact laidMet_laidAll _ (by kernel_rfl) (by kernel_rfl))) ?_
  intro W base args ds gs before hval hW _ hwt hL _
  exact contract H enc W base args ds gs before hval hW hwt hL

theorem holds : Rows.BureauCodesSaid :=
  OpenClaim.holds_of_wide 3 Tryz.f3 rfl rfl rfl rfl rfl rfl rfl ⟨rfl, rfl, rfl, rfl, rfl⟩ rfl rfl rfl rfl rfl (by kernel_rfl) Tryz.func3 (by kernel_rfl)
    (of_decide_eq_true (by kernel_rfl)) (by unfold Func.isWrapper; first | (rw [if_pos (by decide +kernel)]; kernel_rfl) | (rw [if_neg (by decide +kernel)]; exact ⟨rfl, rfl⟩))
    (fun os started H enc _ => lifted os started H enc)

theorem proved : Rows.BureauCodesCardSaid :=
  Claim7.holds_tied_plain_at .later [] [.data, .data, .data, .data] true (true, "7d7fdf94e9a4c2258dd203318f2abfd04179f58275c9e5e40dcf12322d291e45") false holds (fun _ h => by cases h) (by kernel_rfl) (fun _ h => by cases h) bureauCodes_row_tie rfl ⟨rfl, rfl⟩ (by kernel_rfl) rfl
    (fun f fn hf hfn => by
      obtain rfl : f = 3 := Option.some.inj ((show Tryz.prog.funcNamed "arrears/arrearslaw24.BureauCodes" = some 3 by kernel_rfl).symm.trans hf) |>.symm
      obtain rfl : fn = Tryz.f3 := (Option.some.inj (Tryz.func3.symm.trans hfn)).symm
      exact ⟨by kernel_rfl, fun j t ht => by
        rw [Tryz.params3] at ht
        have hm : t ∈ [24, 25, 24] := by simpa using Array.mem_of_getElem? ht
        have hall : ([24, 25, 24].all fun u => !Tryz.prog.wantsStandIn u) = true := by kernel_rfl
        exact (show Tryz.prog.wantsStandIn t = false by simpa using List.all_eq_true.1 hall t hm)⟩)
    (by kernel_rfl)

end Go.Proofs.YtaomkjcclcgdlaaGreatDoor.bureauCodes
