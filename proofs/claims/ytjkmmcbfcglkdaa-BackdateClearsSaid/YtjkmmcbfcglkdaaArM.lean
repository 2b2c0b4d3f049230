/- The code of a function: what the walk over it says, the machine does; loops by a relation and a measure; and a function's contract out of the walk over its body. No condition. -/
import Derived.Test.YtjkmmcbfcglkdaaArL
import Derived.Scope
namespace Ar
open Go
set_option linter.unusedVariables false
set_option autoImplicit false

def drawOk (ops : Array Oper) (es : List Ent) : Bool := lexC ops es es.length 0 (Array.replicate ops.size false)

def comp (P : Program) (N : Nat) : Code → Option IC
  | .skip => some .skip
  | .region _ ops draw => match compE P N ops.toList ops.toList with
    | some es => match draw with
      | false => some (.ops es)
      | true => match drawOk ops es with
        | true => some (.dops es)
        | false => none
    | none => none
  | .seq a b => match comp P N a, comp P N b with
    | some x, some y => some (.seq x y)
    | _, _ => none
  | .cond c a b => match comp P N a, comp P N b with
    | some x, some y => some (.cond (cx c) x y)
    | _, _ => none
  | .block id a => match comp P N a with
    | some x => some (.block id x)
    | none => none
  | .loop a => match comp P N a with
    | some x => some (.loop x)
    | none => none
  | .exit id => some (.exit id)
  | .ret => some .ret
  | .scope a => comp P N a
  | .label _ => some .skip
  | _ => none

def ExR : AExit → Exit → Prop
  | .normal, .normal => True
  | .ret, .ret => True
  | .exit i, .exit j => i = j
  | _, _ => False

def Up (gl : Nat → AV) (N : Nat) (g : Gh) (w : World) (o : Objs) (Q : AExit → Post) : Exit → Act → World → Prop := fun x a' w' =>
  ∃ x' g' e' o' n', ExR x' x ∧ Good gl N g' w' (EnvF e') o' n' a' ∧ Stp g w o g' w' o' ∧ Q x' e' o' n'

def SemC (P : Program) (gl : Nat → AV) (N : Nat) (c : Code) (Q : AExit → Post) (e : Env) (o : Objs) (n : Nat) : Prop :=
  ∀ g w a, Good gl N g w (EnvF e) o n a → c.wp P (Up gl N g w o Q) a w

def LoopP (P : Program) (gl : Nat → AV) (N : Nat) (x : IC) (Q : AExit → Post) (e : Env) (o : Objs) (n : Nat) : Prop :=
  ∀ c, comp P N c = some x → SemC P gl N (.loop c) Q e o n

def wp (P : Program) (gl : Nat → AV) (N : Nat) : IC → (AExit → Post) → Post
  | .skip, Q, e, o, n => Q .normal e o n
  | .ops l, Q, e, o, n => wpE P gl l (Q .normal) e o n
  | .dops l, Q, e, o, n => wpE P gl l (Q .normal) e o n
  | .seq a b, Q, e, o, n => wp P gl N a (fun x e o n => match x with
    | .normal => wp P gl N b Q e o n
    | .ret => Q .ret e o n
    | .exit i => Q (.exit i) e o n) e o n
  | .cond x a b, Q, e, o, n => match ev gl e x with
    | .val (.bool t) => br t (wp P gl N a Q e o n) (wp P gl N b Q e o n)
    | _ => False
  | .block id a, Q, e, o, n => wp P gl N a (fun x e o n => match x with
    | .normal => Q .normal e o n
    | .ret => Q .ret e o n
    | .exit i => match Nat.beq i id with
      | true => Q .normal e o n
      | false => Q (.exit i) e o n) e o n
  | .loop a, Q, e, o, n => LoopP P gl N a Q e o n
  | .exit id, Q, e, o, n => Q (.exit id) e o n
  | .ret, Q, e, o, n => Q .ret e o n

section
variable {P : Program} {gl : Nat → AV} {N : Nat}

theorem wpOp_F {e : Env} {o : Objs} {n : Nat} {p : IOp} {K : AV → Objs → Nat → Prop} (h : Ar.wpOp P gl e o n p K) : wpF P gl ⟨EnvF e, o, n⟩ p K := by
  have e1 : ev gl e = evF gl (EnvF e) := ev_eq gl e
  cases p <;> simp only [Ar.wpOp, e1, force_iff, forceO_iff, forceL_iff, evL_eq] at h <;> exact h

theorem wpE_txt {K : Post} : ∀ (l : List Ent) {e : Env} {o : Objs} {n : Nat}, wpE P gl l K e o n → wpTxt P gl (fun s => ∃ e', s.E = EnvF e' ∧ K e' s.o s.n) l ⟨EnvF e, o, n⟩
  | [], e, o, n, h => ⟨e, rfl, h⟩
  | .o d op :: r, e, o, n, h => by
    obtain ⟨v, o', n', h1, h2⟩ := wpF_ex (wpOp_F h)
    refine ⟨v, o', n', .inl ⟨rfl, h1⟩, ?_⟩
    have := wpE_txt r h2
    rw [← putF_cons] at this
    exact this
  | .n op :: r, e, o, n, h => by
    obtain ⟨v, o', n', h1, h2⟩ := wpF_ex (wpOp_F h)
    exact ⟨v, o', n', .inl ⟨rfl, h1⟩, wpE_txt r h2⟩
  | .og d j b op :: r, e, o, n, h => by
    simp only [wpE] at h
    split at h
    · rename_i t ht
      cases htb : (t == b) with
      | true =>
        rw [htb] at h
        obtain ⟨v, o', n', h1, h2⟩ := wpF_ex (wpOp_F (show Ar.wpOp P gl e o n op _ from h))
        refine ⟨v, o', n', .inl ⟨⟨t, ht, htb.symm⟩, h1⟩, ?_⟩
        have := wpE_txt r h2
        rw [← putF_cons] at this
        exact this
      | false =>
        rw [htb] at h
        refine ⟨.any, o, n, .inr ⟨⟨t, ht, htb.symm⟩, rfl, rfl, rfl⟩, ?_⟩
        have := wpE_txt r (show wpE P gl r K _ o n from h)
        rw [← putF_cons] at this
        exact this
    · exact h.elim
  | .ng j b op :: r, e, o, n, h => by
    simp only [wpE] at h
    split at h
    · rename_i t ht
      cases htb : (t == b) with
      | true =>
        rw [htb] at h
        obtain ⟨v, o', n', h1, h2⟩ := wpF_ex (wpOp_F (show Ar.wpOp P gl e o n op _ from h))
        exact ⟨v, o', n', .inl ⟨⟨t, ht, htb.symm⟩, h1⟩, wpE_txt r h2⟩
      | false =>
        rw [htb] at h
        exact ⟨.any, o, n, .inr ⟨⟨t, ht, htb.symm⟩, rfl, rfl, rfl⟩, wpE_txt r (show wpE P gl r K _ o n from h)⟩
    · exact h.elim

theorem wp_sound (hm : P.follows .mixedOrders = true) : ∀ (c : Code) (x : IC), comp P N c = some x → ∀ (Q : AExit → Post) (e : Env) (o : Objs) (n : Nat), wp P gl N x Q e o n → SemC P gl N c Q e o n := by
  intro c
  induction c with
  | skip => intro x hx Q e o n h g w a hg; simp only [comp] at hx; injection hx with hx; subst hx; exact wp_skip ⟨.normal, g, e, o, n, trivial, hg, Stp.refl g w o, h⟩
  | region id ops draw =>
    intro x hx Q e o n h g w a hg
    simp only [comp] at hx
    split at hx
    · rename_i es hes
      obtain ⟨hl, hspec⟩ := compE_spec ops.toList es hes
      have hlen : es.length = ops.size := by rw [hl]; simp
      have hes' : ∀ (j : Nat) oj, ops[j]? = some oj → ∃ ej, es[j]? = some ej ∧ EntOf P N ops.toList oj ej := fun j oj hj => hspec j oj (by rw [Array.getElem?_toList]; exact hj)
      have hfin : ∀ (g1 : Gh) (w1 : World), Stp g w o g1 w1 o → ∀ (s : FS) g' w' a', Good gl N g' w' s.E s.o s.n a' → Stp g1 w1 o g' w' s.o → (∃ e', s.E = EnvF e' ∧ Q .normal e' s.o s.n) → Up gl N g w o Q .normal a' w' := by
        rintro g1 w1 h0 ⟨E, o', n'⟩ g' w' a' hg' hs' ⟨e', rfl, hq⟩
        exact ⟨.normal, g', e', o', n', trivial, hg', h0.trans hs', hq⟩
      split at hx
      · injection hx with hx
        subst hx
        refine wp_region ?_
        have := wpTxt_ok (P := P) (gl := gl) (N := N) (Q' := Up gl N g w o Q) hes' hlen (hfin g w (Stp.refl g w o)) es 0 ⟨EnvF e, o, n⟩ g w a (fun j => by simp) (by simpa using hlen) hg (Stp.refl g w o) (wpE_txt es h)
        rw [hlen] at this
        rwa [List.range_eq_range']
      · split at hx
        · rename_i hd
          injection hx with hx
          subst hx
          refine wp_region_any hm ?_
          have hd1 : Drawn w { w with drawn := w.drawn + 1 } := ⟨rfl, rfl, rfl⟩
          have hA := wpAnyA_lex (P := P) (gl := gl) (fun j oj hj => let ⟨ej, h1, _⟩ := hes' j oj hj; ⟨ej, h1⟩) hlen es 0 (Array.replicate ops.size false) ⟨EnvF e, o, n⟩ (fun j => by simp) hd (wpE_txt es h)
          have := wpAnyA_ok (P := P) (gl := gl) (N := N) (Q' := Up gl N g w o Q) hes' (hfin g _ (hd1.stp g o)) es.length _ _ g _ a (hg.drawn hd1) (Stp.refl g _ o) hA
          rwa [hlen] at this
        · cases hx
    · cases hx
  | seq a b iha ihb =>
    intro x hx Q e o n h g w ac hg
    simp only [comp] at hx
    split at hx
    · rename_i x1 y1 h1 h2
      injection hx with hx
      subst hx
      refine wp_seq (wp_mono (iha x1 h1 _ e o n h g w ac hg) ?_)
      rintro ex a' w' ⟨x', g', e', o', n', hr, hg', hs', hq⟩
      cases x' with
      | normal =>
        cases ex <;> simp only [ExR] at hr
        refine wp_mono (ihb y1 h2 Q e' o' n' hq g' w' a' hg') ?_
        rintro ex a2 w2 ⟨x2, g2, e2, o2, n2, hr2, hg2, hs2, hq2⟩
        exact ⟨x2, g2, e2, o2, n2, hr2, hg2, hs'.trans hs2, hq2⟩
      | ret => cases ex <;> simp only [ExR] at hr; exact ⟨.ret, g', e', o', n', trivial, hg', hs', hq⟩
      | exit i => cases ex <;> simp only [ExR] at hr; exact ⟨.exit i, g', e', o', n', hr, hg', hs', hq⟩
    · cases hx
  | cond c a b iha ihb =>
    intro x hx Q e o n h g w ac hg
    simp only [comp] at hx
    split at hx
    · rename_i x1 y1 h1 h2
      injection hx with hx
      subst hx
      simp only [wp] at h
      split at h
      · rename_i t ht
        have hv := ev_ok hg c
        rw [show evF gl (EnvF e) (cx c) = ev gl e (cx c) from by rw [ev_eq]; rfl, ht] at hv
        have hv := val_v hv
        cases t with
        | true => exact wp_cond_true hv (iha x1 h1 Q e o n h g w ac hg)
        | false => exact wp_cond_false hv (ihb y1 h2 Q e o n h g w ac hg)
      · exact h.elim
    · cases hx
  | block id a iha =>
    intro x hx Q e o n h g w ac hg
    simp only [comp] at hx
    split at hx
    · rename_i x1 h1
      injection hx with hx
      subst hx
      refine wp_block (wp_mono (iha x1 h1 _ e o n h g w ac hg) ?_)
      rintro ex a' w' ⟨x', g', e', o', n', hr, hg', hs', hq⟩
      cases x' with
      | normal => cases ex <;> simp only [ExR] at hr; exact ⟨.normal, g', e', o', n', trivial, hg', hs', hq⟩
      | ret => cases ex <;> simp only [ExR] at hr; exact ⟨.ret, g', e', o', n', trivial, hg', hs', hq⟩
      | exit i =>
        cases ex <;> simp only [ExR] at hr
        subst hr
        simp only [Exit.inBlock]
        simp only [] at hq
        split at hq
        · rename_i hb
          rw [if_pos (beq_eq hb)]
          exact ⟨.normal, g', e', o', n', trivial, hg', hs', hq⟩
        · rename_i hb
          rw [if_neg (fun he => by rw [he, beq_self] at hb; cases hb)]
          exact ⟨.exit i, g', e', o', n', rfl, hg', hs', hq⟩
    · cases hx
  | loop a iha =>
    intro x hx Q e o n h
    simp only [comp] at hx
    split at hx
    · rename_i x1 h1
      injection hx with hx
      subst hx
      exact h a h1
    · cases hx
  | exit id => intro x hx Q e o n h g w a hg; simp only [comp] at hx; injection hx with hx; subst hx; exact wp_exit ⟨.exit id, g, e, o, n, rfl, hg, Stp.refl g w o, h⟩
  | ret => intro x hx Q e o n h g w a hg; simp only [comp] at hx; injection hx with hx; subst hx; exact wp_ret ⟨.ret, g, e, o, n, trivial, hg, Stp.refl g w o, h⟩
  | scope a iha =>
    intro x hx Q e o n h g w ac hg
    refine wp_scope_straight (wp_mono (iha x hx Q e o n h g w ac hg) ?_)
    rintro ex a' w' ⟨x', g', e', o', n', hr, hg', hs', hq⟩
    cases x' with
    | normal => cases ex <;> simp only [ExR] at hr; exact ⟨.normal, g', e', o', n', trivial, hg', hs', hq⟩
    | ret => cases ex <;> simp only [ExR] at hr; exact ⟨.ret, g', e', o', n', trivial, hg', hs', hq⟩
    | exit i => cases ex <;> simp only [ExR] at hr; exact ⟨.exit i, g', e', o', n', hr, hg', hs', hq⟩
  | label l => intro x hx Q e o n h g w a hg; simp only [comp] at hx; injection hx with hx; subst hx; exact wp_label ⟨.normal, g, e, o, n, trivial, hg, Stp.refl g w o, h⟩
  | _ => intro x hx; simp only [comp] at hx; cases hx

/-! Weakening a state, and loops. -/
def LeSt (gl : Nat → AV) (N : Nat) (e : Env) (o : Objs) (n : Nat) (e' : Env) (o' : Objs) (n' : Nat) : Prop :=
  ∀ g w a, Good gl N g w (EnvF e) o n a → ∃ g', Good gl N g' w (EnvF e') o' n' a ∧ Stp g w o g' w o'

theorem LeSt.refl (gl : Nat → AV) (N : Nat) (e : Env) (o : Objs) (n : Nat) : LeSt gl N e o n e o n := fun g w a h => ⟨g, h, Stp.refl g w o⟩

theorem SemC.weak {c : Code} {Q : AExit → Post} {e e' : Env} {o o' : Objs} {n n' : Nat} (hl : LeSt gl N e o n e' o' n') (h : SemC P gl N c Q e' o' n') : SemC P gl N c Q e o n := by
  intro g w a hg
  obtain ⟨g', hg', hs⟩ := hl g w a hg
  refine wp_mono (h g' w a hg') ?_
  rintro ex a2 w2 ⟨x2, g2, e2, o2, n2, hr2, hg2, hs2, hq2⟩
  exact ⟨x2, g2, e2, o2, n2, hr2, hg2, hs.trans hs2, hq2⟩

theorem least {p : Nat → Prop} (h : ∃ k, p k) : ∃ k, p k ∧ ∀ j, p j → k ≤ j := by
  obtain ⟨k, hk⟩ := h
  induction k using Nat.strongRecOn with
  | _ k ih =>
    by_cases hj : ∃ j, j < k ∧ p j
    · obtain ⟨j, h1, h2⟩ := hj; exact ih j h1 h2
    · exact ⟨k, hk, fun j h => Nat.le_of_not_lt fun h' => hj ⟨j, h', h⟩⟩

theorem loop_rule (hm : P.follows .mixedOrders = true) {α : Type} (st : α → Env × Objs × Nat) (ok : α → Prop) (μ : α → Nat) {x : IC} {Q : AExit → Post} {e : Env} {o : Objs} {n : Nat} (y : α) (h0 : ok y)
    (hle : LeSt gl N e o n (st y).1 (st y).2.1 (st y).2.2)
    (round : ∀ y, ok y → wp P gl N x (fun ex e o n => match ex with
      | .normal => ∃ z, ok z ∧ μ z < μ y ∧ LeSt gl N e o n (st z).1 (st z).2.1 (st z).2.2
      | .ret => Q .ret e o n
      | .exit i => Q (.exit i) e o n) (st y).1 (st y).2.1 (st y).2.2) : LoopP P gl N x Q e o n := by
  intro c hc
  refine SemC.weak hle ?_
  intro g w a hg
  let J : Nat → Act → World → Prop := fun k a' w' => ∃ z g', ok z ∧ μ z = k ∧ Good gl N g' w' (EnvF (st z).1) (st z).2.1 (st z).2.2 a' ∧ Stp g w (st y).2.1 g' w' (st z).2.1
  let m : Act → World → Nat := fun a' w' => @dite _ (∃ k, J k a' w') (Classical.propDecidable _) (fun h => (least h).choose) (fun _ => 0)
  refine wp_loop (fun a' w' => ∃ k, J k a' w') m ⟨_, y, g, h0, rfl, hg, Stp.refl g w _⟩ ?_
  intro a1 w1 hI
  have hmin : m a1 w1 = (least hI).choose := by
    show (@dite _ (∃ k, J k a1 w1) (Classical.propDecidable _) _ _) = _
    rw [dif_pos hI]
  obtain ⟨z, g1, hz, hk, hg1, hs1⟩ := (least hI).choose_spec.1
  refine wp_mono (wp_sound hm c x hc _ _ _ _ (round z hz) g1 w1 a1 hg1) ?_
  rintro ex a2 w2 ⟨x2, g2, e2, o2, n2, hr2, hg2, hs2, hq2⟩
  cases x2 with
  | normal =>
    cases ex <;> simp only [ExR] at hr2
    obtain ⟨z2, hz2, hlt, hl2⟩ := hq2
    obtain ⟨g3, hg3, hs3⟩ := hl2 g2 w2 a2 hg2
    have hJ : J (μ z2) a2 w2 := ⟨z2, g3, hz2, rfl, hg3, (hs1.trans hs2).trans hs3⟩
    refine ⟨⟨_, hJ⟩, ?_⟩
    have hm2 : m a2 w2 ≤ μ z2 := by
      show (@dite _ (∃ k, J k a2 w2) (Classical.propDecidable _) _ _) ≤ _
      rw [dif_pos ⟨_, hJ⟩]
      exact (least ⟨_, hJ⟩).choose_spec.2 _ hJ
    rw [hmin, ← hk]
    omega
  | ret => cases ex <;> simp only [ExR] at hr2; exact ⟨.ret, g2, e2, o2, n2, trivial, hg2, hs1.trans hs2, hq2⟩
  | exit i => cases ex <;> simp only [ExR] at hr2; exact ⟨.exit i, g2, e2, o2, n2, hr2, hg2, hs1.trans hs2, hq2⟩

end
end Ar
