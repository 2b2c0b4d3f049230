/- What the document's Entries computes: the same; and the law BackdateEntries. -/
import Derived.Test.YtjkmmcbfcglkdaaEn2
namespace Go.Proofs.Ytjkmmcbfcglkdaa
open Go Ar
set_option linter.unusedVariables false
set_option autoImplicit false

/-- What a look from above leaves: the first behind a place, or none. -/
def Frm (p : Nat → Prop) (k : Nat) (x : Int) : Prop := (x = -1 ∧ ∀ i, k ≤ i → i < 12 → ¬ p i) ∨ ∃ n : Nat, x = n ∧ k ≤ n ∧ n < 12 ∧ p n ∧ ∀ i, k ≤ i → i < n → ¬ p i

theorem Frm.yes {p : Nat → Prop} {k : Nat} (hp : p k) (hk : k < 12) : Frm p k k := .inr ⟨k, rfl, Nat.le_refl _, hk, hp, fun i h1 h2 => by omega⟩

theorem Frm.no {p : Nat → Prop} {k : Nat} {x : Int} (hp : ¬ p k) (h : Frm p (k + 1) x) : Frm p k x := by
  rcases h with ⟨e, h⟩ | ⟨n, e, h1, h2, h3, h4⟩
  · exact .inl ⟨e, fun i h1 h2 => by
      rcases Nat.eq_or_lt_of_le h1 with l | l
      · rw [← l]; exact hp
      · exact h i l h2⟩
  · exact .inr ⟨n, e, by omega, h2, h3, fun i h5 h6 => by
      rcases Nat.eq_or_lt_of_le h5 with l | l
      · rw [← l]; exact hp
      · exact h4 i l h6⟩

theorem Frm.fst {p : Nat → Prop} {x : Int} (h : Frm p 0 x) : (x = -1 ∧ ∀ i, i < 12 → ¬ p i) ∨ ∃ n : Nat, x = n ∧ Fst p n := by
  rcases h with ⟨e, h⟩ | ⟨n, e, h1, h2, h3, h4⟩
  · exact .inl ⟨e, fun i hi => h i (Nat.zero_le _) hi⟩
  · exact .inr ⟨n, e, h2, h3, fun i hi => h4 i (Nat.zero_le _) hi⟩

theorem ref_entries_spec (b : Nat → Int) (h : OkB b) : ∃ ok, (ok = true ↔ balP b) ∧ Pure Try.prog gl0 14 [encB b] (entV b ok) := by
  obtain ⟨p1, p2⟩ := sums_spec b h
  by_cases hb : balP b
  · refine ⟨true, ⟨fun _ => hb, fun _ => rfl⟩, ?_⟩
    have hbal := hb.bal h
    refine pure_fn mixed Try.func14 Try.ntmps14 hc14 (by simp) gl0n (by simp [nf_encB]) (nf_entV _ _) ?_
    conv => whnf
    refine call_pure (p1 hb) (LeL.refl _) ?_
    conv => whnf
    refine loop_at mixed (fun (y : Nat × (Nat → Int) × List Ent) => ([(5, I y.1), (1, .ptr 0 []), (4, encT (some 1) encE 3 y.2.2)], [(0, .box (encB y.2.1)), (1, .room y.2.2.length 3 38)], 2))
      (fun y => y.1 ≤ 12 ∧ Bal y.2.1 ∧ y.2.2 ++ ents 12 y.2.1 = ents 12 b ∧ nz y.2.1 ≤ 12 - y.1) (fun y => 12 - y.1) (0, b, []) ⟨Nat.zero_le _, hbal, rfl, nz_le b⟩ ?_ ?_
    · refine (le_nil 4 3 38 (fun i => encE (at_ [] i)) rfl).trans (le_st (le_r rfl) ?_ ?_ gl0n)
      · exact leE_i rfl rfl (leE_eq rfl (lt_r rfl) (leE_eq rfl (bnd_encT nf_encE (lt_r rfl)) trivial))
      · exact leO_box (lt_r rfl) rfl (LeA.of_eq rfl) (bnd_nf _ (nf_encB _)) (leO_room (lt_r rfl) rfl trivial)
    · intro ⟨r, b1, out⟩ ⟨hr, hB, hout, hnz⟩
      have hr : r ≤ 12 := hr
      have hB : Bal b1 := hB
      have hout : out ++ ents 12 b1 = ents 12 b := hout
      have hnz : nz b1 ≤ 12 - r := hnz
      conv => whnf
      by_cases c : r < 12
      · refine br_true (decide_eq_true (by omega : (r : Int) < 12)) ?_
        conv => whnf
        refine loop_at mixed (fun (y : Int × Int × Int) => ([(8, I y.1), (6, I y.2.1), (7, I y.2.2), (5, I r), (1, .ptr 0 []), (4, encT (some 1) encE 3 out)], [(0, .box (encB b1)), (1, .room out.length 3 38)], 2))
          (fun y => ∃ k : Nat, y.1 = (k : Int) - 1 ∧ k ≤ 12 ∧ Frm (fun i => b1 i > 0) k y.2.1 ∧ Frm (fun i => b1 i < 0) k y.2.2) (fun y => (y.1 + 1).toNat) (11, -1, -1) ⟨12, rfl, Nat.le_refl _, .inl ⟨rfl, fun i h1 h2 => absurd h1 (Nat.not_le.2 h2)⟩, .inl ⟨rfl, fun i h1 h2 => absurd h1 (Nat.not_le.2 h2)⟩⟩ ?_ ?_
        · exact le_st (le_r rfl) (leE_i rfl rfl (leE_i rfl rfl (leE_i rfl rfl (leE_i rfl rfl (leE_eq rfl (lt_r rfl) (leE_eq rfl (bnd_encT nf_encE (lt_r rfl)) trivial))))))
            (leO_box (lt_r rfl) rfl (LeA.of_eq rfl) (bnd_nf _ (nf_encB _)) (leO_room (lt_r rfl) rfl trivial)) gl0n
        · intro ⟨z, x, y⟩ ⟨k, hz, hk, hx, hy⟩
          have hz : z = (k : Int) - 1 := hz
          have hx : Frm (fun i => b1 i > 0) k x := hx
          have hy : Frm (fun i => b1 i < 0) k y := hy
          dsimp only
          by_cases c1 : k = 0
          · subst c1
            obtain rfl : z = -1 := by omega
            conv => whnf
            rcases hx.fst with ⟨rfl, hxn⟩ | ⟨d, rfl, hd⟩
            · conv => whnf
              have hz0 : zeroP b1 := Classical.byContradiction fun hz => by
                obtain ⟨⟨d, hd⟩, _⟩ := hB.has hz
                exact hxn d hd.1 hd.2.1
              refine ⟨(r + 1, b1, out), ⟨c, hB, hout, by show nz b1 ≤ _; rw [zero_nz hz0]; exact Nat.zero_le _⟩, by show 12 - (r + 1) < 12 - r; omega, ?_⟩
              refine le_st (le_r rfl) (leE_i rfl ?_ (leE_eq rfl (lt_r rfl) (leE_eq rfl (bnd_encT nf_encE (lt_r rfl)) trivial)))
                (leO_box (lt_r rfl) rfl (LeA.of_eq rfl) (bnd_nf _ (nf_encB _)) (leO_room (lt_r rfl) rfl trivial)) gl0n
              show IntKind.i64.wrap (r + 1) = ((r + 1 : Nat) : Int)
              rw [wrap_id (by unfold in64; omega)]; omega
            · have hz0 : ¬ zeroP b1 := fun hz0 => by have h1 := hd.2.1; have h2 := hz0 d hd.1; omega
              obtain ⟨_, ⟨c', hc'⟩⟩ := hB.has hz0
              rcases hy.fst with ⟨rfl, hyn⟩ | ⟨e, rfl, he⟩
              · exact absurd hc'.2.1 (hyn c' hc'.1)
              obtain rfl := hc'.unique he
              obtain ⟨s1, s2, s3, s4, s5⟩ := step hB hd hc'
              have hd1 := hd.1
              have hc1 := hc'.1
              conv => whnf
              rw [decide_eq_true (by omega : (d : Int) ≥ 0)]
              conv => whnf
              rw [decide_eq_true (by omega : (c' : Int) ≥ 0)]
              conv => whnf
              refine ⟨by omega, ?_⟩
              conv => whnf
              refine ⟨by omega, ?_⟩
              conv => whnf
              have ld := hB.low d hd1
              have lc := hB.low c' hc1
              have hdp := hd.2.1
              have hcn := hc'.2.1
              have en : IntKind.i64.wrap (0 - b1 c') = -(b1 c') := by rw [wrap_id (by unfold in64; omega)]; omega
              have ea : amt b1 d c' ≤ b1 d ∧ amt b1 d c' ≤ -(b1 c') := by unfold amt; split <;> omega
              have hol : out.length < 12 := by
                have h1 := ents_len 12 b
                rw [← hout, ents_step hB hd hc', List.length_append, List.length_cons] at h1
                omega
              by_cases c5 : IntKind.i64.wrap (0 - b1 c') < b1 d
              · refine br_true (decide_eq_true c5) ?_
                conv => whnf
                refine ⟨by omega, ?_⟩
                conv => whnf
                refine ⟨by omega, ?_⟩
                conv => whnf
                refine ⟨by omega, ?_⟩
                conv => whnf
                refine ⟨by omega, ?_⟩
                conv => whnf
                refine ⟨by omega, ?_⟩
                conv => whnf
                refine ⟨rfl, by simp; omega, ?_⟩
                conv => whnf
                have hx1 : IntKind.i64.wrap (0 - b1 c') = amt b1 d c' := by rw [en] at c5 ⊢; unfold amt; rw [if_neg (by omega)]
                refine ⟨(r + 1, nxt b1 d c', out ++ [⟨d, c', amt b1 d c'⟩]), ⟨c, s4, ?_, by show nz (nxt b1 d c') ≤ _; omega⟩, by show 12 - (r + 1) < 12 - r; omega, ?_⟩
                · show (out ++ [⟨d, c', amt b1 d c'⟩]) ++ ents 12 (nxt b1 d c') = ents 12 b
                  rw [← hout, ents_step hB hd hc', List.append_assoc]
                  rfl
                refine le_st (le_r rfl) (leE_i rfl ?_ (leE_eq rfl (lt_r rfl) (leE_le rfl (leA_snoc (xs := out) (x := ⟨d, c', amt b1 d c'⟩) (enc := encE) (LeA.of_eq ?_)).le (bnd_encT nf_encE (lt_r rfl)) trivial)))
                  (leO_box (lt_r rfl) rfl (LeA.st (LeA.cons (LeA.arr fun i hi => LeA.of_eq ?_) (LeA.refl _))) (bnd_nf _ (nf_encB _)) (leO_room (lt_r rfl) ?_ trivial)) gl0n
                · show IntKind.i64.wrap (r + 1) = ((r + 1 : Nat) : Int)
                  rw [wrap_id (by unfold in64; omega)]; omega
                · show AV.st (.cons (I d) (.cons (I c') (.cons (I (IntKind.i64.wrap (0 - b1 c'))) .nil))) = _
                  rw [hx1]
                  rfl
                · show I (if i = c' then IntKind.i64.wrap ((if c' = d then IntKind.i64.wrap (b1 d - IntKind.i64.wrap (0 - b1 c')) else b1 c') + IntKind.i64.wrap (0 - b1 c'))
                    else (if i = d then IntKind.i64.wrap (b1 d - IntKind.i64.wrap (0 - b1 c')) else b1 i)) = I (if i = c' then b1 c' + amt b1 d c' else if i = d then b1 d - amt b1 d c' else b1 i)
                  rw [hx1, if_neg (Ne.symm s1), wrap_id (n := b1 d - amt b1 d c') (by unfold in64; omega), wrap_id (n := b1 c' + amt b1 d c') (by unfold in64; omega)]
                · show some (AObj.room (out.length + 1) 3 38) = _
                  rw [List.length_append]; rfl
              · refine br_false (decide_eq_false c5) ?_
                conv => whnf
                refine ⟨by omega, ?_⟩
                conv => whnf
                refine ⟨by omega, ?_⟩
                conv => whnf
                refine ⟨by omega, ?_⟩
                conv => whnf
                refine ⟨by omega, ?_⟩
                conv => whnf
                refine ⟨rfl, by simp; omega, ?_⟩
                conv => whnf
                have hx1 : b1 d = amt b1 d c' := by rw [en] at c5; unfold amt; rw [if_pos (by omega)]
                refine ⟨(r + 1, nxt b1 d c', out ++ [⟨d, c', amt b1 d c'⟩]), ⟨c, s4, ?_, by show nz (nxt b1 d c') ≤ _; omega⟩, by show 12 - (r + 1) < 12 - r; omega, ?_⟩
                · show (out ++ [⟨d, c', amt b1 d c'⟩]) ++ ents 12 (nxt b1 d c') = ents 12 b
                  rw [← hout, ents_step hB hd hc', List.append_assoc]
                  rfl
                refine le_st (le_r rfl) (leE_i rfl ?_ (leE_eq rfl (lt_r rfl) (leE_le rfl (leA_snoc (xs := out) (x := ⟨d, c', amt b1 d c'⟩) (enc := encE) (LeA.of_eq ?_)).le (bnd_encT nf_encE (lt_r rfl)) trivial)))
                  (leO_box (lt_r rfl) rfl (LeA.st (LeA.cons (LeA.arr fun i hi => LeA.of_eq ?_) (LeA.refl _))) (bnd_nf _ (nf_encB _)) (leO_room (lt_r rfl) ?_ trivial)) gl0n
                · show IntKind.i64.wrap (r + 1) = ((r + 1 : Nat) : Int)
                  rw [wrap_id (by unfold in64; omega)]; omega
                · show AV.st (.cons (I d) (.cons (I c') (.cons (I (b1 d)) .nil))) = _
                  rw [hx1]
                  rfl
                · show I (if i = c' then IntKind.i64.wrap ((if c' = d then IntKind.i64.wrap (b1 d - b1 d) else b1 c') + b1 d)
                    else (if i = d then IntKind.i64.wrap (b1 d - b1 d) else b1 i)) = I (if i = c' then b1 c' + amt b1 d c' else if i = d then b1 d - amt b1 d c' else b1 i)
                  rw [← hx1, if_neg (Ne.symm s1), wrap_id (n := b1 d - b1 d) (by unfold in64; omega), wrap_id (n := b1 c' + b1 d) (by unfold in64; omega)]
                · show some (AObj.room (out.length + 1) 3 38) = _
                  rw [List.length_append]; rfl
          · obtain ⟨a, rfl⟩ : ∃ a, k = a + 1 := ⟨k - 1, by omega⟩
            obtain rfl : z = (a : Int) := by omega
            conv => whnf
            rw [decide_eq_true (by omega : (a : Int) ≥ 0)]
            conv => whnf
            refine ⟨by omega, ?_⟩
            conv => whnf
            have hm : ((a : Int) + 1).toNat = a + 1 := by omega
            by_cases c2 : b1 a > 0
            · refine br_true (decide_eq_true c2) ?_
              conv => whnf
              refine ⟨by omega, ?_⟩
              conv => whnf
              refine br_false (decide_eq_false (by show ¬ (b1 a < 0); omega)) ?_
              conv => whnf
              refine ⟨((a : Int) - 1, (a : Int), y), ⟨a, rfl, by omega, Frm.yes c2 (by omega), hy.no (by omega)⟩, by show ((a : Int) - 1 + 1).toNat < ((a : Int) + 1).toNat; omega, ?_⟩
              refine le_st (le_r rfl) (leE_i rfl ?_ (leE_i rfl rfl (leE_i rfl rfl (leE_i rfl rfl (leE_eq rfl (lt_r rfl) (leE_eq rfl (bnd_encT nf_encE (lt_r rfl)) trivial))))))
                (leO_box (lt_r rfl) rfl (LeA.of_eq rfl) (bnd_nf _ (nf_encB _)) (leO_room (lt_r rfl) rfl trivial)) gl0n
              show IntKind.i64.wrap (a - 1) = _
              rw [wrap_id (by unfold in64; omega)]
            · refine br_false (decide_eq_false c2) ?_
              conv => whnf
              refine ⟨by omega, ?_⟩
              conv => whnf
              by_cases c3 : b1 a < 0
              · refine br_true (decide_eq_true c3) ?_
                conv => whnf
                refine ⟨((a : Int) - 1, x, (a : Int)), ⟨a, rfl, by omega, hx.no c2, Frm.yes c3 (by omega)⟩, by show ((a : Int) - 1 + 1).toNat < ((a : Int) + 1).toNat; omega, ?_⟩
                refine le_st (le_r rfl) (leE_i rfl ?_ (leE_i rfl rfl (leE_i rfl rfl (leE_i rfl rfl (leE_eq rfl (lt_r rfl) (leE_eq rfl (bnd_encT nf_encE (lt_r rfl)) trivial))))))
                  (leO_box (lt_r rfl) rfl (LeA.of_eq rfl) (bnd_nf _ (nf_encB _)) (leO_room (lt_r rfl) rfl trivial)) gl0n
                show IntKind.i64.wrap (a - 1) = _
                rw [wrap_id (by unfold in64; omega)]
              · refine br_false (decide_eq_false c3) ?_
                conv => whnf
                refine ⟨((a : Int) - 1, x, y), ⟨a, rfl, by omega, hx.no c2, hy.no c3⟩, by show ((a : Int) - 1 + 1).toNat < ((a : Int) + 1).toNat; omega, ?_⟩
                refine le_st (le_r rfl) (leE_i rfl ?_ (leE_i rfl rfl (leE_i rfl rfl (leE_i rfl rfl (leE_eq rfl (lt_r rfl) (leE_eq rfl (bnd_encT nf_encE (lt_r rfl)) trivial))))))
                  (leO_box (lt_r rfl) rfl (LeA.of_eq rfl) (bnd_nf _ (nf_encB _)) (leO_room (lt_r rfl) rfl trivial)) gl0n
                show IntKind.i64.wrap (a - 1) = _
                rw [wrap_id (by unfold in64; omega)]
      · obtain rfl : r = 12 := by omega
        rw [decide_eq_false (by omega : ¬ (((12 : Nat) : Int) < 12))]
        conv => whnf
        rw [ents_zero (nz_zero (by omega)), List.append_nil] at hout
        show Le _ (.tup (.cons (encL encE 3 (ents 12 b)) (.cons (B true) .nil)))
        rw [← hout]
        exact LeA.le (LeA.tup (LeA.cons leA_drop (LeA.refl _)))
  · refine ⟨false, ⟨fun h => Bool.noConfusion h, fun h => absurd h hb⟩, ?_⟩
    refine pure_fn mixed Try.func14 Try.ntmps14 hc14 (by simp) gl0n (by simp [nf_encB]) (nf_entV _ _) ?_
    conv => whnf
    refine call_pure (p2 hb) (LeL.refl _) ?_
    conv => whnf
    exact LeA.le (LeA.tup (LeA.cons leA_nilS (LeA.refl _)))

theorem backdate_entries_spec (b : Nat → Int) (h : OkB b) : Pure Try.prog gl0 4 [encB b] (B true) := by
  refine pure_fn mixed Try.func4 Try.ntmps4 hc4 (by simp) gl0n (by simp [nf_encB]) trivial ?_
  obtain ⟨o1, e1, q1⟩ := entries_spec b h
  obtain ⟨o2, e2, q2⟩ := ref_entries_spec b h
  obtain rfl : o1 = o2 := by
    cases o1 <;> cases o2 <;> simp_all
  conv => whnf
  refine call_pure q1 (LeL.refl _) ?_
  conv => whnf
  refine call_pure q2 (LeL.refl _) ?_
  conv => whnf
  have hl : (if o1 = true then ents 12 b else []).length ≤ 100000 := by
    have := ents_len 12 b
    split
    · omega
    · simp
  cases o1
  · conv => whnf
    refine call_pure (sameE_spec (if false = true then ents 12 b else []) hl) (LeL.refl _) ?_
    conv => whnf
    exact Le.refl _
  · conv => whnf
    refine call_pure (sameE_spec (if true = true then ents 12 b else []) hl) (LeL.refl _) ?_
    conv => whnf
    exact Le.refl _

end Go.Proofs.Ytjkmmcbfcglkdaa
