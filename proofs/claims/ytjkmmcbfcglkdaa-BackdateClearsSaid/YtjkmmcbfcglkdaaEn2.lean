/- What Entries computes. -/
import Derived.Test.YtjkmmcbfcglkdaaEn1
namespace Go.Proofs.Ytjkmmcbfcglkdaa
open Go Ar
set_option linter.unusedVariables false
set_option autoImplicit false

theorem leA_nilS {α : Type} [Inhabited α] {enc : α → AV} {e : Nat} : LeA (.val (.slice none 0 0)) (encL enc e ([] : List α)) := by
  refine ⟨rfl, fun g w u hu => ?_, fun g w lk off hu => ?_, fun g w vs hu => hu⟩
  · obtain ⟨rfl, hc⟩ := hu
    exact ⟨⟨none, 0, rfl, Nat.le_refl _, trivial, rfl, rfl⟩, hc⟩
  · obtain ⟨u, h1, rfl, hc⟩ := hu
    exact ⟨_, h1, ⟨none, 0, rfl, Nat.le_refl _, trivial, rfl, rfl⟩, hc⟩

theorem eqS_zero (b : Nat → Int) : (zeroP b → eqS (.arr 12 1 .int) (.arr 12 1 fun i => I (b i)) (.arr 12 1 fun _ => I 0) = true) ∧ (¬ zeroP b → eqS (.arr 12 1 .int) (.arr 12 1 fun i => I (b i)) (.arr 12 1 fun _ => I 0) = false) := by
  have e : eqS (.arr 12 1 .int) (.arr 12 1 fun i => I (b i)) (.arr 12 1 fun _ => I 0) = (List.range 12).all fun i => b i == 0 := rfl
  rw [e]
  refine ⟨fun h => List.all_eq_true.2 fun i hi => by simp [h i (List.mem_range.1 hi)], fun h => ?_⟩
  cases hx : (List.range 12).all fun i => b i == 0 with
  | false => rfl
  | true => exact absurd (fun i hi => by simpa using List.all_eq_true.1 hx i (List.mem_range.2 hi)) h

theorem ents_len : ∀ (k : Nat) (b : Nat → Int), (ents k b).length ≤ k
  | 0, _ => Nat.le_refl _
  | k + 1, b => by
    unfold ents
    split
    · simp
    · simp only [List.length_cons]
      have := ents_len k (nxt b (fstOf fun i => b i > 0) (fstOf fun i => b i < 0))
      omega

noncomputable def entV (b : Nat → Int) (ok : Bool) : AV := .tup (.cons (encL encE 3 (if ok then ents 12 b else [])) (.cons (B ok) .nil))

theorem nf_entV (b : Nat → Int) (ok : Bool) : nf (entV b ok) := ⟨nf_encL nf_encE, trivial, trivial⟩

theorem balP.bal {b : Nat → Int} (h : balP b) (hb : OkB b) : Bal b :=
  ⟨fun i hi => by have h1 := h.1 i hi; have h2 := hb i hi; unfold in64 at h2; omega, h.2⟩

theorem mm_amt (b : Nat → Int) (d c : Nat) : mmI false (b d) (-(b c)) = amt b d c := by
  unfold mmI amt
  simp only
  split <;> split <;> omega

theorem entries_spec (b : Nat → Int) (h : OkB b) : ∃ ok, (ok = true ↔ balP b) ∧ Pure Try.prog gl0 13 [encB b] (entV b ok) := by
  obtain ⟨p1, p2⟩ := balanced_spec b h
  by_cases hb : balP b
  · refine ⟨true, ⟨fun _ => hb, fun _ => rfl⟩, ?_⟩
    have hbal := hb.bal h
    refine pure_fn mixed Try.func13 Try.ntmps13 hc13 (by simp) gl0n (by simp [nf_encB]) (nf_entV _ _) ?_
    conv => whnf
    refine call_pure (p1 hb) (LeL.refl _) ?_
    conv => whnf
    refine loop_at mixed (fun (y : (Nat → Int) × List Ent) => ([(4, .ptr 1 []), (5, encT (some 2) encE 3 y.2)], [(1, .box (.arr 12 1 fun i => I (y.1 i))), (2, .room y.2.length 3 38)], 3))
      (fun y => Bal y.1 ∧ y.2 ++ ents 12 y.1 = ents 12 b) (fun y => nz y.1) (b, []) ⟨hbal, rfl⟩ ?_ ?_
    · refine (le_nil 5 3 38 (fun i => encE (at_ [] i)) rfl).trans (le_st (le_r rfl) ?_ ?_ gl0n)
      · exact leE_eq rfl (lt_r rfl) (leE_eq rfl (bnd_encT nf_encE (lt_r rfl)) trivial)
      · exact leO_box (lt_r rfl) rfl (LeA.of_eq rfl) (bnd_nf _ fun _ => trivial) (leO_room (lt_r rfl) rfl trivial)
    · intro ⟨b1, out⟩ ⟨hB, hout⟩
      have hB : Bal b1 := hB
      have hout : out ++ ents 12 b1 = ents 12 b := hout
      conv => whnf
      by_cases hz : zeroP b1
      · refine br_false (congrArg (eqSn true) ((eqS_zero b1).1 hz)) ?_
        conv => whnf
        rw [ents_zero hz, List.append_nil] at hout
        show Le _ (.tup (.cons (encL encE 3 (ents 12 b)) (.cons (B true) .nil)))
        rw [← hout]
        exact LeA.le (LeA.tup (LeA.cons leA_drop (LeA.refl _)))
      · refine br_true (congrArg (eqSn true) ((eqS_zero b1).2 hz)) ?_
        conv => whnf
        obtain ⟨⟨d, hd⟩, ⟨c, hc⟩⟩ := hB.has hz
        obtain ⟨s1, s2, s3, s4, s5⟩ := step hB hd hc
        have hd1 := hd.1
        have hc1 := hc.1
        refine loop_at mixed (fun (j : Nat) => ([(6, I j), (7, I 0), (4, .ptr 1 []), (5, encT (some 2) encE 3 out)], [(1, .box (.arr 12 1 fun i => I (b1 i))), (2, .room out.length 3 38)], 3)) (fun j => j ≤ d) (fun j => d - j) 0 (Nat.zero_le _) ?_ ?_
        · exact le_st (le_r rfl) (leE_i rfl rfl (leE_i rfl rfl (leE_eq rfl (lt_r rfl) (leE_eq rfl (bnd_encT nf_encE (lt_r rfl)) trivial))))
            (leO_box (lt_r rfl) rfl (LeA.of_eq rfl) (bnd_nf _ fun _ => trivial) (leO_room (lt_r rfl) rfl trivial)) gl0n
        · intro j hj
          conv => whnf
          refine ⟨by omega, ?_⟩
          conv => whnf
          by_cases k1 : b1 j ≤ 0
          · refine br_true (decide_eq_true k1) ?_
            conv => whnf
            have hjd : j < d := by
              rcases Nat.lt_or_ge j d with l | l
              · exact l
              · obtain rfl : j = d := by omega
                have := hd.2.1; omega
            refine ⟨j + 1, hjd, by omega, ?_⟩
            refine le_st (le_r rfl) (leE_i rfl ?_ (leE_i rfl rfl (leE_eq rfl (lt_r rfl) (leE_eq rfl (bnd_encT nf_encE (lt_r rfl)) trivial))))
              (leO_box (lt_r rfl) rfl (LeA.of_eq rfl) (bnd_nf _ fun _ => trivial) (leO_room (lt_r rfl) rfl trivial)) gl0n
            show IntKind.i64.wrap (j + 1) = _
            rw [wrap_id (by unfold in64; omega)]; omega
          · refine br_false (decide_eq_false k1) ?_
            conv => whnf
            obtain rfl : j = d := by
              rcases Nat.lt_or_ge j d with l | l
              · exact absurd (by omega : b1 j > 0) (hd.2.2 j l)
              · omega
            refine loop_at mixed (fun (k : Nat) => ([(7, I k), (6, I j), (4, .ptr 1 []), (5, encT (some 2) encE 3 out)], [(1, .box (.arr 12 1 fun i => I (b1 i))), (2, .room out.length 3 38)], 3)) (fun k => k ≤ c) (fun k => c - k) 0 (Nat.zero_le _) ?_ ?_
            · exact le_st (le_r rfl) (leE_i rfl rfl (leE_i rfl rfl (leE_eq rfl (lt_r rfl) (leE_eq rfl (bnd_encT nf_encE (lt_r rfl)) trivial))))
                (leO_box (lt_r rfl) rfl (LeA.of_eq rfl) (bnd_nf _ fun _ => trivial) (leO_room (lt_r rfl) rfl trivial)) gl0n
            · intro k hk
              conv => whnf
              refine ⟨by omega, ?_⟩
              conv => whnf
              by_cases k2 : b1 k ≥ 0
              · refine br_true (decide_eq_true k2) ?_
                conv => whnf
                have hkc : k < c := by
                  rcases Nat.lt_or_ge k c with l | l
                  · exact l
                  · obtain rfl : k = c := by omega
                    have := hc.2.1; omega
                refine ⟨k + 1, hkc, by omega, ?_⟩
                refine le_st (le_r rfl) (leE_i rfl ?_ (leE_i rfl rfl (leE_eq rfl (lt_r rfl) (leE_eq rfl (bnd_encT nf_encE (lt_r rfl)) trivial))))
                  (leO_box (lt_r rfl) rfl (LeA.of_eq rfl) (bnd_nf _ fun _ => trivial) (leO_room (lt_r rfl) rfl trivial)) gl0n
                show IntKind.i64.wrap (k + 1) = _
                rw [wrap_id (by unfold in64; omega)]; omega
              · refine br_false (decide_eq_false k2) ?_
                conv => whnf
                obtain rfl : k = c := by
                  rcases Nat.lt_or_ge k c with l | l
                  · exact absurd (by omega : b1 k < 0) (hc.2.2 k l)
                  · omega
                refine ⟨by omega, ?_⟩
                conv => whnf
                refine ⟨by omega, ?_⟩
                conv => whnf
                refine ⟨by omega, ?_⟩
                conv => whnf
                refine ⟨by omega, ?_⟩
                conv => whnf
                refine ⟨by omega, ?_⟩
                conv => whnf
                refine ⟨by omega, ?_⟩
                conv => whnf
                have hol : out.length < 12 := by
                  have h1 := ents_len 12 b
                  rw [← hout, ents_step hB hd hc, List.length_append, List.length_cons] at h1
                  omega
                refine ⟨rfl, by simp; omega, ?_⟩
                conv => whnf
                have lj := hB.low j hd1
                have lk := hB.low k hc1
                have en : IntKind.i64.wrap (0 - b1 k) = -(b1 k) := by rw [wrap_id (by unfold in64; omega)]; omega
                have em : mmI false (b1 j) (IntKind.i64.wrap (0 - b1 k)) = amt b1 j k := by rw [en, mm_amt]
                have ea : amt b1 j k ≤ b1 j ∧ amt b1 j k ≤ -(b1 k) := by unfold amt; split <;> omega
                refine ⟨(nxt b1 j k, out ++ [⟨j, k, amt b1 j k⟩]), ⟨s4, ?_⟩, s5, ?_⟩
                · show (out ++ [⟨j, k, amt b1 j k⟩]) ++ ents 12 (nxt b1 j k) = ents 12 b
                  rw [← hout, ents_step hB hd hc, List.append_assoc]
                  rfl
                refine le_st (le_r rfl) (leE_eq rfl (lt_r rfl) (leE_le rfl (leA_snoc (xs := out) (x := ⟨j, k, amt b1 j k⟩) (enc := encE) (LeA.of_eq ?_)).le (bnd_encT nf_encE (lt_r rfl)) trivial))
                  (leO_box (lt_r rfl) rfl (LeA.arr fun i hi => LeA.of_eq ?_) (bnd_nf _ fun _ => trivial) (leO_room (lt_r rfl) ?_ trivial)) gl0n
                · show AV.st (.cons (I j) (.cons (I k) (.cons (I (mmI false (b1 j) (IntKind.i64.wrap (0 - b1 k)))) .nil))) = _
                  rw [em]
                  rfl
                · show I (if i = k then IntKind.i64.wrap ((if k = j then IntKind.i64.wrap (b1 j - mmI false (b1 j) (IntKind.i64.wrap (0 - b1 k))) else b1 k) + mmI false (b1 j) (IntKind.i64.wrap (0 - b1 k)))
                    else (if i = j then IntKind.i64.wrap (b1 j - mmI false (b1 j) (IntKind.i64.wrap (0 - b1 k))) else b1 i)) = I (if i = k then b1 k + amt b1 j k else if i = j then b1 j - amt b1 j k else b1 i)
                  rw [em, if_neg (Ne.symm s1), wrap_id (n := b1 j - amt b1 j k) (by unfold in64; omega), wrap_id (n := b1 k + amt b1 j k) (by unfold in64; omega)]
                · show some (AObj.room (out.length + 1) 3 38) = _
                  rw [List.length_append]; rfl
  · refine ⟨false, ⟨fun h => Bool.noConfusion h, fun h => absurd h hb⟩, ?_⟩
    refine pure_fn mixed Try.func13 Try.ntmps13 hc13 (by simp) gl0n (by simp [nf_encB]) (nf_entV _ _) ?_
    conv => whnf
    refine call_pure (p2 hb) (LeL.refl _) ?_
    conv => whnf
    exact LeA.le (LeA.tup (LeA.cons leA_nilS (LeA.refl _)))

end Go.Proofs.Ytjkmmcbfcglkdaa
