/- The statement RemitFair. No condition. -/
import Derived.Test.YtjkmmcbfcglkdaaC3
import Derived.Test.YtjkmmcbfcglkdaaA8
import Derived.Test.YtjkmmcbfcglkdaaRows
import Derived.WalkKit
import Derived.ProofKit
set_option linter.all false
namespace Go.Proofs.Ytjkmmcbfcglkdaa.remitFair
open Go Ar Go.Proofs.Ytjkmmcbfcglkdaa
set_option linter.unusedVariables false
set_option autoImplicit false
set_option maxRecDepth 100000

theorem laid : laidOutB Try.prog = true := by kernel_rfl
theorem own : ownKnob Try.prog.godebug = none := by kernel_rfl

theorem law (l : List AV) (h : OfL [.sl 2 tyShr, .int .i64, .int .i64, .int .i64] l) : ∃ args', LeL l args' ∧ Pure Try.prog (fun _ => .any) 7 args' (.val (.bool true)) := by
  obtain ⟨a, b, c, d, rfl, h1, h2, h3, h4⟩ := ofL4 h
  obtain ⟨xs, l1, _, hn⟩ := of_list (enc := encShr) (ok := fun _ => True) (fun a h => of_Shr h) h1
  obtain ⟨r, rfl, r2⟩ := of_i64 h2
  obtain ⟨p, rfl, r3⟩ := of_i64 h3
  obtain ⟨q, rfl, r4⟩ := of_i64 h4
  exact ⟨[encL encShr 2 xs, I r, I p, I q], ⟨l1.le, Le.refl _, Le.refl _, Le.refl _, trivial⟩, law8_x xs r p q (by have := maxLen_lt; omega) r3 r4⟩

theorem contract (H : Type) (enc : TypeId × Value → H) (W : World) (base : Nat) (args : Array Value) (ds gs : List (DataW H)) (before : List MemPlace)
    (hval : ∀ (j : Nat) t v, Try.f7.params[j]? = some t → args[j]? = some v → Value.okWide Try.prog W .any base t v)
    (hW : DataW.Whole enc Try.prog Try.f7.params.toList Rows.remitFairSpec.vars false W args.toList ds gs before) :
    Calls Try.prog 7 args W fun e W' => ∃ v, e = .returned v ∧ Rows.remitFairSpec.post enc Try.prog Try.f7 false true false false W args v W' :=
  law_calls (tb := 4) (tys := [.sl 2 tyShr, .int .i64, .int .i64, .int .i64]) laid (by kernel_rfl) (by kernel_rfl) (by kernel_rfl) (by kernel_rfl) rfl (fun ds h => by
    match ds, h with
    | [a, b, c, d], _ => rfl) law (fun _ => trivial) hval hW

theorem lifted (os : Os) (started : os.Started) (H : Type) (enc : TypeId × Value → H) :
    ReturnsInHanded {} Try.checked os 7 .any (Rows.remitFairSpec.pre6 enc Try.prog Try.f7 Rows.remitFairRow.domain false) (Rows.remitFairSpec.post enc Try.prog Try.f7 false true false false) := by
  refine returnsInHanded_of_change (C := Try.checked) own started (by kernel_rfl) Try.func7
    (ChangeSpec.witness6 (enc := enc) (C := Try.checked) false ⟨#[], #[.slice none 0 0, .int .i64 0, .int .i64 0, .int .i64 0], []⟩ 8 (by kernel_rfl) (by kernel_rfl) (by kernel_rfl) (by kernel_rfl)) ?_
  intro W base args ds gs before hval hW hcnd _
  exact contract H enc W base args ds gs before hval hW

theorem proved : Rows.RemitFairSaid :=
  OpenClaim.holds_of_wide 7 Try.f7 rfl rfl rfl rfl rfl rfl rfl ⟨rfl, rfl, rfl, rfl, rfl⟩ rfl rfl rfl rfl rfl (by kernel_rfl) Try.func7 (by kernel_rfl)
    (of_decide_eq_true (by kernel_rfl)) (by unfold Func.isWrapper; first | (rw [if_pos (by decide +kernel)]; kernel_rfl) | (rw [if_neg (by decide +kernel)]; exact ⟨rfl, rfl⟩))
    (fun os started H enc _ => lifted os started H enc)

end Go.Proofs.Ytjkmmcbfcglkdaa.remitFair
