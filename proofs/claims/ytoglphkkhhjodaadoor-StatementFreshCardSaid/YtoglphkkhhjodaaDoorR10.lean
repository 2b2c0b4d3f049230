/- The statement StatementFresh: the row and its card. No condition. -/
import Derived.Test.YtoglphkkhhjodaaDoorC3
import Derived.Test.YtoglphkkhhjodaaDoorA8
import Derived.Test.YtoglphkkhhjodaaDoorCards
import Derived.Test.YtoglphkkhhjodaaDoorTie
import Derived.WalkKit
import Derived.ProofKit
import Derived.Handy
import Derived.SevenTiedAt
set_option linter.all false
namespace Go.Proofs.YtoglphkkhhjodaaDoor.statementFresh
open Go Ar Go.Proofs.YtoglphkkhhjodaaDoor
set_option linter.unusedVariables false
set_option autoImplicit false
set_option maxRecDepth 100000
set_option maxHeartbeats 4000000

theorem laid : laidOutB Tryd.prog = true := by kernel_rfl
theorem own : ownKnob Tryd.prog.godebug = none := by kernel_rfl

def tyMov : Ty := .st (.cons (.int .i64) (.cons (.int .i64) (.cons (.st (.cons (.arr 12 1 (.int .i64)) .nil)) .nil)))
theorem of_Mov {a : AV} (h : Of tyMov a) : ∃ x : Mov, LeA a (encMov x) ∧ ∀ a, a < 12 → in64 (x.net a) := by
  obtain ⟨b, rfl, c, d, rfl, h1, d1, d2, rfl, h2, e1, e2, rfl, ⟨z, rfl, y1, y2, rfl, ⟨f, rfl, hf⟩, rfl⟩, rfl⟩ := h
  obtain ⟨n, rfl, _⟩ := of_i64 h1
  obtain ⟨m, rfl, _⟩ := of_i64 h2
  have hc : ∀ i, ∃ m, i < 12 → f i = I m ∧ in64 m := fun i => by
    by_cases hi : i < 12
    · obtain ⟨m, h1, h2⟩ := of_i64 (hf i hi)
      exact ⟨m, fun _ => ⟨h1, h2⟩⟩
    · exact ⟨0, fun h => absurd h hi⟩
  refine ⟨⟨n, m, fun i => (hc i).choose⟩, LeA.st (LeA.cons (LeA.refl _) (LeA.cons (LeA.refl _) (LeA.cons (LeA.st (LeA.cons (LeA.arr fun i hi => LeA.of_eq ((hc i).choose_spec hi).1) (LeA.refl _))) (LeA.refl _)))), fun a ha => ((hc a).choose_spec ha).2⟩

theorem law (l : List AV) (h : OfL [.sl 14 tyMov, .int .i64, .int .i64] l) : ∃ args', LeL l args' ∧ Pure Tryd.prog gl0 3 args' (.val (.bool true)) := by
  obtain ⟨a, b, c, rfl, h1, h2, h3⟩ := ofL3 h
  obtain ⟨ms, l1, hm, hn⟩ := of_list (enc := encMov) (ok := fun m => ∀ a, a < 12 → in64 (m.net a)) (fun a h => of_Mov h) h1
  obtain ⟨fr, rfl, r2⟩ := of_i64 h2
  obtain ⟨to, rfl, r3⟩ := of_i64 h3
  obtain ⟨r, _, rfl, hp⟩ := law10_x ms fr to (by have := maxLen_lt; omega) hm r2
  exact ⟨[encL encMov 14 ms, I fr, I to], ⟨l1.le, Le.refl _, Le.refl _, trivial⟩, hp⟩

abbrev laidL : List (String × DataW Unit) := [("math/bits.deBruijn32tab", Rows.laid_math_bits_deBruijn32tab), ("math/bits.deBruijn64tab", Rows.laid_math_bits_deBruijn64tab), ("internal/strconv.uint64pow10", Rows.laid_internal_strconv_uint64pow10), ("arrears/calendar.ahead", Rows.laid_arrears_calendar_ahead), ("arrears/statement.words", Rows.laid_arrears_statement_words)]

theorem glob {W : World} (h : laidMetH Tryd.prog laidL W) : ∀ i, (R (g0 W) W (gl0 i)).v (.pointer (some ⟨i, 0, none⟩)) := by
  rw [MakeChecks.laidMetH_plain _ _ _ (by kernel_rfl)] at h
  have h2 := laid_tail (laid_tail h)
  have h1 := laid_tail h2
  have h0 := laid_tail h1
  intro i
  match i with
  | 0 => exact texts_laid (t := 50) (e := 9) wordL (by kernel_rfl) (by kernel_rfl) (by kernel_rfl) (by kernel_rfl) (by kernel_rfl) (by kernel_rfl) h0
  | 1 => exact nums_laid (t := 69) (e := 3) (k := .i64) aheadL (by kernel_rfl) (by kernel_rfl) (by kernel_rfl) (by kernel_rfl) (by kernel_rfl) (by kernel_rfl) h1
  | 2 => exact nums_laid (t := 83) (e := 56) (k := .u64) p10L (by kernel_rfl) (by kernel_rfl) (by kernel_rfl) (by kernel_rfl) (by kernel_rfl) (by kernel_rfl) h2
  | _ + 3 => trivial

theorem contract (H : Type) (enc : TypeId × Value → H) (W : World) (base : Nat) (args : Array Value) (ds gs : List (DataW H)) (before : List MemPlace)
    (hval : ∀ (j : Nat) t v, Tryd.f3.params[j]? = some t → args[j]? = some v → Value.okWide Tryd.prog W .any base t v)
    (hW : DataW.Whole enc Tryd.prog Tryd.f3.params.toList Rows.statementFreshSpec.vars false W args.toList ds gs before)
    (hwt : wOk (DataW.weightsEach Tryd.prog (Tryd.f3.params.toList ++ Rows.statementFreshSpec.plain.varTypes Tryd.prog) (ds ++ gs))) (hl : laidMetH Tryd.prog laidL W) :
    Calls Tryd.prog 3 args W fun e W' => ∃ v, e = .returned v ∧ Rows.statementFreshSpec.post enc Tryd.prog Tryd.f3 false true false false W args v W' :=
  law_calls (tb := 4) (tys := [.sl 14 tyMov, .int .i64, .int .i64]) laid (by kernel_rfl) (by kernel_rfl) (by kernel_rfl) (by kernel_rfl) rfl (fun ds h => by
    match ds, h with
    | [a, b, c], _ => rfl) law (glob hl) hval hW hwt

theorem lifted (os : Os) (started : os.Started) (H : Type) (enc : TypeId × Value → H) :
    ReturnsInHanded {} Tryd.checked os 3 .any (fun w args => (Rows.statementFreshSpec.pre enc Tryd.prog Tryd.f3 [] false w args ∧ laidMetH Tryd.prog laidL w) ∧ sizedMet enc Tryd.prog Tryd.f3 (OpenSpec.ofChange Rows.statementFreshSpec) false w args)
      (Rows.statementFreshSpec.post enc Tryd.prog Tryd.f3 false true false false) := by
  refine returnsInHanded_of_change_and (C := Tryd.checked) (X := fun w _ => laidMetH Tryd.prog laidL w) (fun _ _ _ hh h => h.of_heap hh) own started (by kernel_rfl) Tryd.func3
    (ChangeSpec.witness_shaped (enc := enc) (C := Tryd.checked) (os := os) (X := fun w _ => laidMetH Tryd.prog laidL w) false (World.laidAll Tryd.prog os laidL) #[.slice none 0 0, .int .i64 0, .int .i64 0] 8 (World.laidAll_os _ _ _)
      (World.shaped_of_ZipB (by kernel_rfl) (by kernel_rfl)) (by kernel_rfl) (by kernel_rfl) (by kernel_rfl)
      (by rw [MakeChecks.laidMetH_plain _ _ _ (by kernel_rfl)]; exact laidMet_laidAll _ (by kernel_rfl) (by kernel_rfl))) ?_
  intro W base args ds gs before hval hW _ hwt hL _
  exact contract H enc W base args ds gs before hval hW hwt hL

theorem holds : Rows.StatementFreshSaid :=
  OpenClaim.holds_of_wide 3 Tryd.f3 rfl rfl rfl rfl rfl rfl rfl ⟨rfl, rfl, rfl, rfl, rfl⟩ rfl rfl rfl rfl rfl (by kernel_rfl) Tryd.func3 (by kernel_rfl)
    (of_decide_eq_true (by kernel_rfl)) (by unfold Func.isWrapper; first | (rw [if_pos (by decide +kernel)]; kernel_rfl) | (rw [if_neg (by decide +kernel)]; exact ⟨rfl, rfl⟩))
    (fun os started H enc _ => lifted os started H enc)

theorem proved : Rows.StatementFreshCardSaid :=
  Claim7.holds_tied_plain_at .later [] [.data, .data, .data, .data, .data] true (true, "13e45f3ad9e4c8f66487cf117b077d77bdbf070c1dcc58aa6766320fc033c638") false holds (fun _ h => by cases h) (by kernel_rfl) (fun _ h => by cases h) statementFresh_row_tie rfl ⟨rfl, rfl⟩ (by kernel_rfl) rfl
    (fun f fn hf hfn => by
      obtain rfl : f = 3 := Option.some.inj ((show Tryd.prog.funcNamed "arrears/arrearslaw22.StatementFresh" = some 3 by kernel_rfl).symm.trans hf) |>.symm
      obtain rfl : fn = Tryd.f3 := (Option.some.inj (Tryd.func3.symm.trans hfn)).symm
      exact ⟨by kernel_rfl, fun j t ht => by
        rw [Tryd.params3] at ht
        have hm : t ∈ [22, 3, 3] := by simpa using Array.mem_of_getElem? ht
        have hall : ([22, 3, 3].all fun u => !Tryd.prog.wantsStandIn u) = true := by kernel_rfl
        exact (show Tryd.prog.wantsStandIn t = false by simpa using List.all_eq_true.1 hall t hm)⟩)
    (by kernel_rfl)

end Go.Proofs.YtoglphkkhhjodaaDoor.statementFresh
