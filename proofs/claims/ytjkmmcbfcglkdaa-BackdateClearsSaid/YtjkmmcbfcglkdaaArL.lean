/- Regions: one walk in the order of the text serves every order that the machine may take. No condition. -/
import Derived.Test.YtjkmmcbfcglkdaaArK
namespace Ar
open Go
set_option linter.unusedVariables false
set_option autoImplicit false

section
variable {P : Program} {gl : Nat → AV} {N : Nat} {ops : Array Oper} {es : List Ent}

def qI (P : Program) (gl : Nat → AV) (es : List Ent) (i : Nat) (K : FS → Prop) (s : FS) : Prop :=
  match es[i]? with
  | some en => qE P gl en K s
  | none => K s

theorem qI_mono {i : Nat} {K K' : FS → Prop} {s : FS} (hk : ∀ s, K s → K' s) (h : qI P gl es i K s) : qI P gl es i K' s := by
  unfold qI at *
  split
  · rename_i en he; rw [he] at h; exact qE_mono hk h
  · rename_i he; rw [he] at h; exact hk _ h

def wpAnyA (P : Program) (gl : Nat → AV) (ops : Array Oper) (es : List Ent) (Q : FS → Prop) : Nat → Array Bool → FS → Prop
  | 0, listed, s => Region.ready .any ops listed = [] ∧ Q s
  | fuel + 1, listed, s => (Region.ready .any ops listed = [] → Q s) ∧ ∀ i ∈ Region.ready .any ops listed, qI P gl es i (wpAnyA P gl ops es Q fuel (listed.setIfInBounds i true)) s

theorem wpAnyA_first {Q : FS → Prop} {i : Nat} {ei : Ent} (hi : es[i]? = some ei) : ∀ (fuel : Nat) (listed : Array Bool) (s : FS) {v : AV} {o : Objs} {n : Nat},
      (∀ (j : Nat) oj ej, ops[j]? = some oj → es[j]? = some ej → j ≠ i → listed.getD j true = false → (∀ e ∈ oj.after, Region.binds .any e = true → e.on ≠ i) → apartE ei ej = true) →
      (∀ (j : Nat) oj, ops[j]? = some oj → ∃ ej, es[j]? = some ej) →
      i ∈ Region.ready .any ops listed → YF P gl ei s v o n →
      wpAnyA P gl ops es Q fuel (listed.setIfInBounds i true) (s.next ei v o n) → wpAnyA P gl ops es Q (fuel + 1) listed s := by
  intro fuel
  induction fuel with
  | zero =>
    intro listed s v o n _ _ hr hy H
    refine ⟨fun h => (by rw [h] at hr; cases hr), fun j hj => ?_⟩
    by_cases hji : j = i
    · subst hji
      unfold qI; rw [hi]
      exact ⟨v, o, n, hy, H⟩
    · have := ready_mono hj hji
      rw [H.1] at this
      cases this
  | succ fuel ih =>
    intro listed s v o n hfree hes hr hy H
    refine ⟨fun h => (by rw [h] at hr; cases hr), fun j hj => ?_⟩
    by_cases hji : j = i
    · subst hji
      unfold qI; rw [hi]
      exact ⟨v, o, n, hy, H⟩
    · have h1 := H.2 j (ready_mono hj hji)
      obtain ⟨hjun, oj, hoj, hall⟩ := mem_ready.1 hj
      obtain ⟨ej, hej⟩ := hes j oj hoj
      have hnot : ∀ e ∈ oj.after, Region.binds .any e = true → e.on ≠ i := fun e he hb heq => by
        have h1 := hall e he hb
        have h0 := (mem_ready.1 hr).1
        rw [heq] at h1
        rcases Nat.lt_or_ge i listed.size with h' | h'
        · simp [h'] at h0 h1; rw [h0] at h1; cases h1
        · simp [Array.getElem?_eq_none h'] at h1
      unfold qI at h1 ⊢
      rw [hej] at h1 ⊢
      obtain ⟨u, o2, n2, hy2, hK⟩ := h1
      obtain ⟨o3, n3, hy3, hy4, he⟩ := YF_swap (hfree j oj ej hoj hej hji hjun hnot) hy hy2
      refine ⟨u, o3, n3, hy3, ?_⟩
      have hfree' : ∀ (k : Nat) ok ek, ops[k]? = some ok → es[k]? = some ek → k ≠ i → (listed.setIfInBounds j true).getD k true = false →
          (∀ e ∈ ok.after, Region.binds .any e = true → e.on ≠ i) → apartE ei ek = true := fun k ok ek hk hk2 hki hun hno => by
        refine hfree k ok ek hk hk2 hki ?_ hno
        by_cases hjk : j = k
        · subst hjk; exact hjun
        · rw [getD_set_ne true hjk] at hun; exact hun
      refine ih (listed.setIfInBounds j true) _ hfree' hes (ready_mono hr (Ne.symm hji)) hy4 ?_
      rw [Array.setIfInBounds_comm _ _ hji, he]
      exact hK

def freeC (ops : Array Oper) (es : List Ent) (listed : Array Bool) (k : Nat) : Bool :=
  (List.range ops.size).all fun j => Nat.beq j k || (listed.getD j true || ((match ops[j]? with
    | some oj => oj.after.any (fun e => Region.binds .any e && Nat.beq e.on k)
    | none => true) || (match es[k]?, es[j]? with
    | some x, some y => apartE x y
    | _, _ => false)))

def lexC (ops : Array Oper) (es : List Ent) : Nat → Nat → Array Bool → Bool
  | 0, _, listed => (Region.ready .any ops listed).isEmpty
  | fuel + 1, k, listed => (Region.ready .any ops listed).contains k && (freeC ops es listed k && lexC ops es fuel (k + 1) (listed.setIfInBounds k true))

/-- The order of the text. -/
def wpTxt (P : Program) (gl : Nat → AV) (Q : FS → Prop) : List Ent → FS → Prop
  | [], s => Q s
  | en :: r, s => qE P gl en (wpTxt P gl Q r) s

theorem wpAnyA_lex {Q : FS → Prop} (hes : ∀ (j : Nat) oj, ops[j]? = some oj → ∃ ej, es[j]? = some ej) (hlen : es.length = ops.size) : ∀ (l : List Ent) (k : Nat) (listed : Array Bool) (s : FS), (∀ j, l[j]? = es[k + j]?) →
    lexC ops es l.length k listed = true → wpTxt P gl Q l s → wpAnyA P gl ops es Q l.length listed s
  | [], _, _, _, _, hB, h => ⟨by simpa [lexC] using hB, h⟩
  | en :: l, k, listed, s, hl, hB, h => by
    have h0 : es[k]? = some en := by simpa using (hl 0).symm
    simp only [List.length_cons, lexC, Bool.and_eq_true] at hB
    obtain ⟨hr, hf, hB'⟩ := hB
    obtain ⟨v, o, n, hy, hK⟩ := h
    refine wpAnyA_first h0 l.length listed s (fun j oj ej hj hej hjk hun hno => ?_) hes (by simpa using hr) hy
      (wpAnyA_lex hes hlen l (k + 1) _ _ (fun j => by have := hl (j + 1); simpa [Nat.add_assoc, Nat.add_comm 1 j] using this) hB' hK)
    have hjl : j < ops.size := (Array.getElem?_eq_some_iff.1 hj).1
    have := (List.all_eq_true.1 hf) j (by simpa using hjl)
    simp only [Bool.or_eq_true, hj, h0, hej] at this
    rcases this with h1 | h1 | h1 | h1
    · exact absurd (beq_eq h1) hjk
    · rw [hun] at h1; cases h1
    · rw [← Array.any_toList] at h1
      obtain ⟨e, he, hb⟩ := List.any_eq_true.1 h1
      simp only [Bool.and_eq_true] at hb
      exact absurd (beq_eq hb.2) (hno e (Array.mem_toList_iff.1 he) hb.1)
    · exact h1

/-- What an operation makes of the machine. -/
theorem compF_ok {g : Gh} {w : World} {s : FS} {a : Act} (h : Good gl N g w s.E s.o s.n a) {oo : Oper} {p : IOp} (hc : compOp P oo.op = some p) {K : AV → Objs → Nat → Prop} (hw : wpF P gl s p K)
    {next : Act → World → Prop} {Q : Exit → Act → World → Prop}
    (hn : ∀ v cv g' w' o' n', (R g' w' v).v cv → Good gl N g' w' s.E o' n' a → Stp g w s.o g' w' o' → K v o' n' → next (a.put oo.dst cv) w') : oo.wp P a w next Q := by
  unfold Oper.wp
  simp only [compOp] at hc
  split at hc
  · rename_i q hq
    injection hc with hc
    subst hc
    have hv : wpV (evF gl s.E) s.o q fun v => K v s.o s.n := by
      cases q <;> simp only [wpF] at hw <;> first | exact hw | (exfalso; cases hop : oo.op <;> rw [hop] at hq <;> simp only [compV] at hq <;> (repeat' (split at hq)) <;> cases hq)
    obtain ⟨v, cv, hr, h1, h2⟩ := compV_ok h hq hv
    rw [hr]
    exact hn v cv g w s.o s.n h1 h (Stp.refl g w s.o) h2
  · split at hc
    · rename_i q hq
      injection hc with hc
      subst hc
      have hl : wpL (evF gl s.E) s.o s.n q K := by
        cases q <;> simp only [wpF] at hw <;> first | exact hw | (exfalso; cases hop : oo.op <;> rw [hop] at hq <;> simp only [compL] at hq <;> (repeat' (split at hq)) <;> cases hq)
      obtain ⟨v, nx, w', g', o', n', hr, ⟨cv, hcv, h1⟩, h2, h3, h4⟩ := compL_ok h hq hl
      rw [hr]
      rcases hcv with rfl | ⟨rfl, rfl⟩
      · exact hn v cv g' w' o' n' h1 h2 h3 h4
      · exact hn v undef g' w' o' n' h1 h2 h3 h4
    · split at hc
      · rename_i q hq
        injection hc with hc
        subst hc
        cases q with
        | call f l =>
          obtain ⟨xs, rfl, hr⟩ := compC_run hq a w
          simp only [wpF] at hw
          obtain ⟨args', r, hle, hp, hK⟩ := hw
          rw [hr]
          have hargs := RL.le hle (evFL_ok h xs)
          refine (good_call h hp hargs).mono ?_
          rintro x w' ⟨u, g', rfl, h1, h2, h3⟩
          exact hn r u g' w' s.o s.n h3 h1 h2 hK
        | xcall f l =>
          obtain ⟨xs, rfl, hr⟩ := compC_x hq a w
          simp only [wpF] at hw
          obtain ⟨r, hp, hK⟩ := hw
          obtain ⟨v, h1, h2⟩ := hp g w _ (evFL_ok h xs)
          rw [hr, h1]
          exact hn r v g w s.o s.n h2 h (Stp.refl g w s.o) hK
        | _ => exfalso; cases hop : oo.op <;> rw [hop] at hq <;> simp only [compC] at hq <;> (repeat' (split at hq)) <;> cases hq
      · injection hc with hc
        subst hc
        simp only [wpF, wpV] at hw

structure EntOf (P : Program) (N : Nat) (ops : List Oper) (oo : Oper) (en : Ent) : Prop where
  dst : en.dst = oo.dst
  lt : ∀ d, oo.dst = some d → d < N
  op : compOp P oo.op = some en.op
  gd : match oo.guard with
    | none => en.gd = none
    | some (j, b) => ∃ t, (ops[j]?).bind (·.dst) = some t ∧ en.gd = some (t, b)

theorem compE_spec {all : List Oper} : ∀ (l : List Oper) (es : List Ent), compE P N all l = some es → es.length = l.length ∧ ∀ (j : Nat) oo, l[j]? = some oo → ∃ en, es[j]? = some en ∧ EntOf P N all oo en
  | [], es, h => by simp only [compE] at h; injection h with h; subst h; exact ⟨rfl, fun j oo hj => by simp at hj⟩
  | oo :: r, es, h => by
    simp only [compE] at h
    split at h
    · rename_i p l hp hl
      obtain ⟨h1, h2⟩ := compE_spec r l hl
      have fin : ∀ en, es = en :: l → EntOf P N all oo en → es.length = (oo :: r).length ∧ ∀ (j : Nat) o2, (oo :: r)[j]? = some o2 → ∃ en, es[j]? = some en ∧ EntOf P N all o2 en := by
        rintro en rfl he
        refine ⟨by simp [h1], fun j o2 hj => ?_⟩
        cases j with
        | zero => simp at hj; subst hj; exact ⟨en, rfl, he⟩
        | succ j => simp at hj; obtain ⟨e2, a1, a2⟩ := h2 j o2 hj; exact ⟨e2, by simpa using a1, a2⟩
      split at h
      · rename_i d hd hg
        split at h
        · rename_i hlt
          injection h with h
          exact fin _ h.symm ⟨hd.symm ▸ rfl, fun d' hd' => by rw [hd] at hd'; injection hd' with hd'; subst hd'; exact Nat.le_of_ble_eq_true hlt, hp, by rw [hg]; rfl⟩
        · cases h
      · rename_i hd hg
        injection h with h
        exact fin _ h.symm ⟨hd.symm ▸ rfl, fun d' hd' => by (rw [hd] at hd'; cases hd'), hp, by rw [hg]; rfl⟩
      · rename_i d j b hd hg
        split at h
        · rename_i t ht
          split at h
          · rename_i hlt
            injection h with h
            exact fin _ h.symm ⟨hd.symm ▸ rfl, fun d' hd' => by rw [hd] at hd'; injection hd' with hd'; subst hd'; exact Nat.le_of_ble_eq_true hlt, hp, by rw [hg]; exact ⟨t, ht, rfl⟩⟩
          · cases h
        · cases h
      · rename_i j b hd hg
        split at h
        · rename_i t ht
          injection h with h
          exact fin _ h.symm ⟨hd.symm ▸ rfl, fun d' hd' => by (rw [hd] at hd'; cases hd'), hp, by rw [hg]; exact ⟨t, ht, rfl⟩⟩
        · cases h
    · cases h

theorem Good.putO {g : Gh} {w : World} {E : Nat → AV} {o : Objs} {n : Nat} {a : Act} (h : Good gl N g w E o n a) {d : Option Nat} (hd : ∀ x, d = some x → x < N) {v : AV} {u : Value} (hv : (R g w v).v u) : Good gl N g w (putD E d v) o n (a.put d u) := by
  cases d with
  | none => exact h
  | some x => exact h.put (hd x rfl) hv

theorem guard_ok {g : Gh} {w : World} {s : FS} {a : Act} (h : Good gl N g w s.E s.o s.n a) {oo : Oper} {en : Ent} (he : EntOf P N ops.toList oo en) {r : Bool} (hg : Gd s en.gd r) : Region.wanted oo (yielded ops a.tmps) = r := by
  have hgd := he.gd
  cases hq : oo.guard with
  | none =>
    rw [hq] at hgd
    simp only [] at hgd
    rw [hgd] at hg
    simp only [Gd] at hg
    simp only [Region.wanted, hq, hg]
  | some q =>
    obtain ⟨j, b⟩ := q
    rw [hq] at hgd
    obtain ⟨t, ht, hen⟩ := hgd
    rw [hen] at hg
    obtain ⟨c, hc, rfl⟩ := hg
    have := h.env t
    rw [hc] at this
    have hv := val_v this
    have hv' : a.tmps[t]? = some (.bool c) := by
      rw [Array.getD_eq_getD_getElem?] at hv
      cases hx : a.tmps[t]? with
      | none => rw [hx] at hv; simp [undef] at hv
      | some y => rw [hx] at hv; simp at hv; rw [hv]
    simp only [Region.wanted, hq, yielded]
    rw [Array.getElem?_toList] at ht
    rw [ht]
    simp only [Option.bind_some, hv']
    cases c <;> cases b <;> rfl

/-- One entry, on the machine. -/
theorem qE_ok {g : Gh} {w : World} {s : FS} {a : Act} (h : Good gl N g w s.E s.o s.n a) {i : Nat} {oo : Oper} {en : Ent} (hi : ops[i]? = some oo) (he : EntOf P N ops.toList oo en) {K : FS → Prop} (hq : qE P gl en K s)
    {next : Act → World → Prop} {Q : Exit → Act → World → Prop}
    (hn : ∀ s' g' w' a', Good gl N g' w' s'.E s'.o s'.n a' → Stp g w s.o g' w' s'.o → K s' → next a' w') : Go.wpOp P ops Q i next a w := by
  obtain ⟨v, o, n, hy, hK⟩ := hq
  unfold Go.wpOp
  rw [hi]
  simp only []
  rcases hy with ⟨h1, h2⟩ | ⟨h1, rfl, rfl, rfl⟩
  · rw [guard_ok h he h1]
    simp only [if_true]
    refine .inl (compF_ok h he.op h2 ?_)
    rintro v' cv g' w' o' n' hv hg hs ⟨rfl, rfl, rfl⟩
    refine hn _ g' w' _ ?_ hs hK
    rw [← he.dst]
    exact hg.putO (fun x hx => he.lt x (he.dst ▸ hx)) hv
  · rw [guard_ok h he h1]
    simp only [Bool.false_eq_true, if_false]
    refine hn (s.next en .any s.o s.n) g w _ ?_ (Stp.refl g w s.o) hK
    rw [← he.dst]
    exact h.putO (v := .any) (u := undef) (fun x hx => he.lt x (he.dst ▸ hx)) trivial

theorem wpAnyA_ok {Q : FS → Prop} {Q' : Exit → Act → World → Prop} {g0 : Gh} {w0 : World} {o0 : Objs} (hes : ∀ (j : Nat) oj, ops[j]? = some oj → ∃ ej, es[j]? = some ej ∧ EntOf P N ops.toList oj ej)
    (hQ : ∀ s g w a, Good gl N g w s.E s.o s.n a → Stp g0 w0 o0 g w s.o → Q s → Q' .normal a w) : ∀ (fuel : Nat) (listed : Array Bool) (s : FS) (g : Gh) (w : World) (a : Act),
    Good gl N g w s.E s.o s.n a → Stp g0 w0 o0 g w s.o → wpAnyA P gl ops es Q fuel listed s → wpAny P .any ops Q' fuel listed a w
  | 0, listed, s, g, w, a, h, hs, hq => ⟨hq.1, hQ s g w a h hs hq.2⟩
  | fuel + 1, listed, s, g, w, a, h, hs, hq => by
    refine ⟨fun h0 => hQ s g w a h hs (hq.1 h0), fun i hi => ?_⟩
    obtain ⟨_, oo, hoo, _⟩ := mem_ready.1 hi
    obtain ⟨en, hen, he⟩ := hes i oo hoo
    have h1 := hq.2 i hi
    unfold qI at h1
    rw [hen] at h1
    exact qE_ok h hoo he h1 (fun s' g' w' a' hg hst hK => wpAnyA_ok hes hQ fuel _ s' g' w' a' hg (hs.trans hst) hK)

theorem wpTxt_ok {Q : FS → Prop} {Q' : Exit → Act → World → Prop} {g0 : Gh} {w0 : World} {o0 : Objs} (hes : ∀ (j : Nat) oj, ops[j]? = some oj → ∃ ej, es[j]? = some ej ∧ EntOf P N ops.toList oj ej) (hlen : es.length = ops.size)
    (hQ : ∀ s g w a, Good gl N g w s.E s.o s.n a → Stp g0 w0 o0 g w s.o → Q s → Q' .normal a w) : ∀ (l : List Ent) (k : Nat) (s : FS) (g : Gh) (w : World) (a : Act), (∀ j, l[j]? = es[k + j]?) → k + l.length = ops.size →
    Good gl N g w s.E s.o s.n a → Stp g0 w0 o0 g w s.o → wpTxt P gl Q l s → wpOps P ops Q' (List.range' k l.length) a w
  | [], k, s, g, w, a, _, _, h, hs, hq => hQ s g w a h hs hq
  | en :: r, k, s, g, w, a, hl, hk, h, hs, hq => by
    have h0 : es[k]? = some en := by simpa using (hl 0).symm
    have hlt : k < ops.size := by simp at hk; omega
    obtain ⟨en', he1, he2⟩ := hes k ops[k] (Array.getElem?_eq_getElem hlt)
    rw [h0] at he1
    injection he1 with he1
    subst he1
    rw [List.length_cons, List.range'_succ, wpOps_cons]
    exact qE_ok h (Array.getElem?_eq_getElem hlt) he2 hq (fun s' g' w' a' hg hst hK => wpTxt_ok hes hlen hQ r (k + 1) s' g' w' a' (fun j => by have := hl (j + 1); simpa [Nat.add_assoc, Nat.add_comm 1 j] using this) (by simp at hk; omega) hg (hs.trans hst) hK)

end
end Ar
