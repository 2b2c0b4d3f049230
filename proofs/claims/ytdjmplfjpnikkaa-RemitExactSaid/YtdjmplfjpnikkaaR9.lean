/- The statement RemitExact. No condition. -/
import Derived.Test.YtdjmplfjpnikkaaD3
import Derived.Test.YtdjmplfjpnikkaaA8
import Derived.Test.YtdjmplfjpnikkaaRows
import Derived.WalkKit
import Derived.ProofKit
set_option linter.all false
namespace Go.Proofs.Ytdjmplfjpnikkaa.remitExact
open Go Ar Go.Proofs.Ytdjmplfjpnikkaa
set_option linter.unusedVariables false
set_option autoImplicit false
set_option maxRecDepth 100000

theorem laid : laidOutB Try.prog = true := by kernel_rfl
theorem own : ownKnob Try.prog.godebug = none := by kernel_rfl

theorem law (l : List AV) (h : OfL [.sl 14 tyMov, .sl 2 tyShr, .int .i64, .int .i64, .int .i64, .int .i64, .int .i64] l) : ∃ args', LeL l args' ∧ Pure Try.prog (fun _ => .any) 3 args' (.val (.bool true)) := by
  obtain ⟨a, b, c, d, e, g, k, rfl, h1, h2, h3, h4, h5, h6, h7⟩ := ofL7 h
  obtain ⟨ms, l1, hm, hn⟩ := of_list (enc := encMov) (ok := fun m => ∀ a, a < 12 → in64 (m.net a)) (fun a h => of_Mov h) h1
  obtain ⟨xs, l2, _, hk⟩ := of_list (enc := encShr) (ok := fun _ => True) (fun a h => of_Shr h) h2
  obtain ⟨r, rfl, r3⟩ := of_i64 h3
  obtain ⟨p, rfl, r4⟩ := of_i64 h4
  obtain ⟨q, rfl, r5⟩ := of_i64 h5
  obtain ⟨fr, rfl, r6⟩ := of_i64 h6
  obtain ⟨to, rfl, r7⟩ := of_i64 h7
  exact ⟨[encL encMov 14 ms, encL encShr 2 xs, I r, I p, I q, I fr, I to], ⟨l1.le, l2.le, Le.refl _, Le.refl _, Le.refl _, Le.refl _, Le.refl _, trivial⟩, law9_x ms xs r p q fr to (by have := maxLen_lt; omega) (by have := maxLen_lt; omega) hm r4 r5 r6⟩

theorem contract (H : Type) (enc : TypeId × Value → H) (W : World) (base : Nat) (args : Array Value) (ds gs : List (DataW H)) (before : List MemPlace)
    (hval : ∀ (j : Nat) t v, Try.f3.params[j]? = some t → args[j]? = some v → Value.okWide Try.prog W .any base t v)
    (hW : DataW.Whole enc Try.prog Try.f3.params.toList Rows.remitExactSpec.vars false W args.toList ds gs before) :
    Calls Try.prog 3 args W fun e W' => ∃ v, e = .returned v ∧ Rows.remitExactSpec.post enc Try.prog Try.f3 false true false false W args v W' :=
  law_calls (tb := 4) (tys := [.sl 14 tyMov, .sl 2 tyShr, .int .i64, .int .i64, .int .i64, .int .i64, .int .i64]) laid (by kernel_rfl) (by kernel_rfl) (by kernel_rfl) (by kernel_rfl) rfl (fun ds h => by
    match ds, h with
    | [a, b, c, d, e, g, k], _ => rfl) law (fun _ => trivial) hval hW

theorem lifted (os : Os) (started : os.Started) (H : Type) (enc : TypeId × Value → H) :
    ReturnsInHanded {} Try.checked os 3 .any (Rows.remitExactSpec.pre6 enc Try.prog Try.f3 Rows.remitExactRow.domain false) (Rows.remitExactSpec.post enc Try.prog Try.f3 false true false false) := by
  refine returnsInHanded_of_change (C := Try.checked) own started (by kernel_rfl) Try.func3
    (ChangeSpec.witness6 (enc := enc) (C := Try.checked) false ⟨#[], #[.slice none 0 0, .slice none 0 0, .int .i64 0, .int .i64 0, .int .i64 0, .int .i64 0, .int .i64 0], []⟩ 8 (by kernel_rfl) (by kernel_rfl) (by kernel_rfl) (by kernel_rfl)) ?_
  intro W base args ds gs before hval hW hcnd _
  exact contract H enc W base args ds gs before hval hW

theorem proved : Rows.RemitExactSaid :=
  OpenClaim.holds_of_wide 3 Try.f3 rfl rfl rfl rfl rfl rfl rfl ⟨rfl, rfl, rfl, rfl, rfl⟩ rfl rfl rfl rfl rfl (by kernel_rfl) Try.func3 (by kernel_rfl)
    (of_decide_eq_true (by kernel_rfl)) (by unfold Func.isWrapper; first | (rw [if_pos (by decide +kernel)]; kernel_rfl) | (rw [if_neg (by decide +kernel)]; exact ⟨rfl, rfl⟩))
    (fun os started H enc _ => lifted os started H enc)

end Go.Proofs.Ytdjmplfjpnikkaa.remitExact
