/- A region's operations, in whatever order its edges allow, come to what the order of the text comes to. No condition. -/
import Derived.Test.YtjkmmcbfcglkdaaArI
namespace Ar
open Go
set_option linter.unusedVariables false
set_option autoImplicit false

structure FS where
  E : Nat → AV
  o : Objs
  n : Nat

def Ent.dst : Ent → Option Nat
  | .o d _ => some d
  | .n _ => none
  | .og d _ _ _ => some d
  | .ng _ _ _ => none

def Ent.op : Ent → IOp
  | .o _ p => p
  | .n p => p
  | .og _ _ _ p => p
  | .ng _ _ p => p

def Ent.gd : Ent → Option (Nat × Bool)
  | .o _ _ => none
  | .n _ => none
  | .og _ t b _ => some (t, b)
  | .ng t b _ => some (t, b)

def wpF (P : Program) (gl : Nat → AV) (s : FS) (p : IOp) (K : AV → Objs → Nat → Prop) : Prop :=
  match p with
  | .call f l => CallP P gl f (evFL gl s.E l) fun r => K r s.o s.n
  | .xcall f l => CallX P f (evFL gl s.E l) fun r => K r s.o s.n
  | .alloc z => wpL (evF gl s.E) s.o s.n (.alloc z) K
  | .box x => wpL (evF gl s.E) s.o s.n (.box x) K
  | .sto sz x v => wpL (evF gl s.E) s.o s.n (.sto sz x v) K
  | .bsl e' ty z l => wpL (evF gl s.E) s.o s.n (.bsl e' ty z l) K
  | .app e' b ty x y => wpL (evF gl s.E) s.o s.n (.app e' b ty x y) K
  | p => wpV (evF gl s.E) s.o p fun v => K v s.o s.n

def putD (E : Nat → AV) (d : Option Nat) (v : AV) : Nat → AV := match d with
  | some d => putF E d v
  | none => E

/-- Does the entry's guard let it run? -/
def Gd (s : FS) (g : Option (Nat × Bool)) (r : Bool) : Prop := match g with
  | none => r = true
  | some (t, b) => ∃ c, s.E t = .val (.bool c) ∧ r = (c == b)

/-- The entry may come to this value and this memory. -/
def YF (P : Program) (gl : Nat → AV) (en : Ent) (s : FS) (v : AV) (o : Objs) (n : Nat) : Prop :=
  (Gd s en.gd true ∧ wpF P gl s en.op (fun x y z => x = v ∧ y = o ∧ z = n)) ∨ (Gd s en.gd false ∧ v = .any ∧ o = s.o ∧ n = s.n)

def FS.next (s : FS) (en : Ent) (v : AV) (o : Objs) (n : Nat) : FS := ⟨putD s.E en.dst v, o, n⟩

def qE (P : Program) (gl : Nat → AV) (en : Ent) (K : FS → Prop) (s : FS) : Prop := ∃ v o n, YF P gl en s v o n ∧ K (s.next en v o n)

theorem qE_mono {P : Program} {gl : Nat → AV} {en : Ent} {K K' : FS → Prop} {s : FS} (hk : ∀ s, K s → K' s) (h : qE P gl en K s) : qE P gl en K' s :=
  let ⟨v, o, n, h1, h2⟩ := h
  ⟨v, o, n, h1, hk _ h2⟩

/-! One value, out of what holds of all. -/
theorem loV_ex {ρ : X → AV} {x : X} {K : Nat → Prop} (h : loV ρ x K) : ∃ l, loV ρ x (fun y => y = l) ∧ K l := by
  unfold loV at h ⊢
  split at h
  · exact ⟨_, rfl, h⟩
  · split at h
    · exact ⟨_, ⟨h.1, rfl⟩, h.2⟩
    · exact h.elim

theorem hiV_ex {ρ : X → AV} {x : X} {n : Nat} {K : Nat → Prop} (h : hiV ρ x n K) : ∃ l, hiV ρ x n (fun y => y = l) ∧ K l := by
  unfold hiV at h ⊢
  split at h
  · exact ⟨_, rfl, h⟩
  · split at h
    · exact ⟨_, ⟨h.1, rfl⟩, h.2⟩
    · exact h.elim

theorem loV_mono {ρ : X → AV} {x : X} {l : Nat} {K : Nat → Prop} (h : loV ρ x (fun y => y = l)) (hK : K l) : loV ρ x K := by
  unfold loV at h ⊢
  split at h
  · subst h; exact hK
  · split at h
    · obtain ⟨h1, rfl⟩ := h; exact ⟨h1, hK⟩
    · exact h.elim

theorem hiV_mono {ρ : X → AV} {x : X} {n l : Nat} {K : Nat → Prop} (h : hiV ρ x n (fun y => y = l)) (hK : K l) : hiV ρ x n K := by
  unfold hiV at h ⊢
  split at h
  · subst h; exact hK
  · split at h
    · obtain ⟨h1, rfl⟩ := h; exact ⟨h1, hK⟩
    · exact h.elim

theorem wpV_ex {ρ : X → AV} {o : Objs} {p : IOp} {K : AV → Prop} (h : wpV ρ o p K) : ∃ v, wpV ρ o p (fun x => x = v) ∧ K v := by
  cases p <;> simp only [wpV] at h ⊢
  case bin op x y =>
    split at h
    · cases op <;> simp only [binV, bitV, chk_iff] at h ⊢ <;> first
        | exact h.elim
        | exact ⟨_, rfl, h⟩
        | (obtain ⟨h1, h2⟩ := h; exact ⟨_, ⟨h1, rfl⟩, h2⟩)
        | (obtain ⟨h1, h2, h3⟩ := h; exact ⟨_, ⟨h1, h2, rfl⟩, h3⟩)
        | (obtain ⟨h1, h2, h3, h4⟩ := h; exact ⟨_, ⟨h1, h2, h3, rfl⟩, h4⟩)
        | (obtain ⟨h1, h2, h3, h4, h5⟩ := h; exact ⟨_, ⟨h1, h2, h3, h4, rfl⟩, h5⟩)
    · exact h.elim
  case sop op x y =>
    split at h
    · cases op <;> simp only [strV] at h ⊢ <;> first
        | exact h.elim
        | exact ⟨_, rfl, h⟩
        | (obtain ⟨h1, h2⟩ := h; exact ⟨_, ⟨h1, rfl⟩, h2⟩)
        | (obtain ⟨h1, h2, h3⟩ := h; exact ⟨_, ⟨h1, h2, rfl⟩, h3⟩)
        | (obtain ⟨h1, h2, h3, h4⟩ := h; exact ⟨_, ⟨h1, h2, h3, rfl⟩, h4⟩)
        | (obtain ⟨h1, h2, h3, h4, h5⟩ := h; exact ⟨_, ⟨h1, h2, h3, h4, rfl⟩, h5⟩)
    · exact h.elim
  case un op x =>
    split at h
    · unfold unV at h ⊢
      split at h <;> (try simp only [bitV] at h ⊢) <;> first
        | exact h.elim
        | exact ⟨_, rfl, h⟩
        | (obtain ⟨h1, h2⟩ := h; exact ⟨_, ⟨h1, rfl⟩, h2⟩)
        | (obtain ⟨h1, h2, h3⟩ := h; exact ⟨_, ⟨h1, h2, rfl⟩, h3⟩)
        | (obtain ⟨h1, h2, h3, h4⟩ := h; exact ⟨_, ⟨h1, h2, h3, rfl⟩, h4⟩)
        | (obtain ⟨h1, h2, h3, h4, h5⟩ := h; exact ⟨_, ⟨h1, h2, h3, h4, rfl⟩, h5⟩)
    · exact h.elim
  case pick c x y =>
    split at h
    · rename_i t _; cases t <;> simp only [br] at h ⊢ <;> first
        | exact h.elim
        | exact ⟨_, rfl, h⟩
        | (obtain ⟨h1, h2⟩ := h; exact ⟨_, ⟨h1, rfl⟩, h2⟩)
        | (obtain ⟨h1, h2, h3⟩ := h; exact ⟨_, ⟨h1, h2, rfl⟩, h3⟩)
        | (obtain ⟨h1, h2, h3, h4⟩ := h; exact ⟨_, ⟨h1, h2, h3, rfl⟩, h4⟩)
        | (obtain ⟨h1, h2, h3, h4, h5⟩ := h; exact ⟨_, ⟨h1, h2, h3, h4, rfl⟩, h5⟩)
    · exact h.elim
  case slc e x lo hi =>
    split at h
    · simp only [chk_iff] at h ⊢
      obtain ⟨h1, h2⟩ := h
      obtain ⟨l, h3, h4⟩ := loV_ex h2
      obtain ⟨r, h5, h7, h8⟩ := hiV_ex h4
      exact ⟨_, ⟨h1, loV_mono h3 (hiV_mono h5 ⟨h7, rfl⟩)⟩, h8⟩
    · exact h.elim
  case sls x lo hi =>
    split at h
    · obtain ⟨l, h3, h4⟩ := loV_ex h
      obtain ⟨r, h5, h7, h8⟩ := hiV_ex h4
      exact ⟨_, loV_mono h3 (hiV_mono h5 ⟨h7, rfl⟩), h8⟩
    · exact h.elim
  case eqs ne s x y =>
    simp only [chk_iff] at h ⊢
    obtain ⟨h1, h2, h3, h4, h5, h6⟩ := h
    exact ⟨_, ⟨h1, h2, h3, h4, h5, rfl⟩, h6⟩
  all_goals try (split at h)
  all_goals try (exact h.elim)
  all_goals try (split at h)
  all_goals try (simp only [chk_iff] at h ⊢)
  all_goals first
    | exact h.elim
    | exact ⟨_, rfl, h⟩
    | (obtain ⟨h1, h2⟩ := h; exact ⟨_, ⟨h1, rfl⟩, h2⟩)
    | (obtain ⟨h1, h2, h3⟩ := h; exact ⟨_, ⟨h1, h2, rfl⟩, h3⟩)
    | (obtain ⟨h1, h2, h3, h4⟩ := h; exact ⟨_, ⟨h1, h2, h3, rfl⟩, h4⟩)
    | (obtain ⟨h1, h2, h3, h4, h5⟩ := h; exact ⟨_, ⟨h1, h2, h3, h4, rfl⟩, h5⟩)

theorem wpV_mono {ρ : X → AV} {o : Objs} {p : IOp} {v : AV} {K : AV → Prop} (h : wpV ρ o p (fun x => x = v)) (hK : K v) : wpV ρ o p K := by
  cases p <;> simp only [wpV] at h ⊢
  case bin op x y =>
    split at h
    · cases op <;> simp only [binV, bitV, chk_iff] at h ⊢ <;> first
        | exact h.elim
        | (subst h; exact hK)
        | (obtain ⟨h1, rfl⟩ := h; exact ⟨h1, hK⟩)
        | (obtain ⟨h1, h2, rfl⟩ := h; exact ⟨h1, h2, hK⟩)
        | (obtain ⟨h1, h2, h3, rfl⟩ := h; exact ⟨h1, h2, h3, hK⟩)
        | (obtain ⟨h1, h2, h3, h4, rfl⟩ := h; exact ⟨h1, h2, h3, h4, hK⟩)
    · exact h.elim
  case sop op x y =>
    split at h
    · cases op <;> simp only [strV] at h ⊢ <;> first
        | exact h.elim
        | (subst h; exact hK)
        | (obtain ⟨h1, rfl⟩ := h; exact ⟨h1, hK⟩)
        | (obtain ⟨h1, h2, rfl⟩ := h; exact ⟨h1, h2, hK⟩)
        | (obtain ⟨h1, h2, h3, rfl⟩ := h; exact ⟨h1, h2, h3, hK⟩)
        | (obtain ⟨h1, h2, h3, h4, rfl⟩ := h; exact ⟨h1, h2, h3, h4, hK⟩)
    · exact h.elim
  case un op x =>
    split at h
    · unfold unV at h ⊢
      split at h <;> (try simp only [bitV] at h ⊢) <;> first
        | exact h.elim
        | (subst h; exact hK)
        | (obtain ⟨h1, rfl⟩ := h; exact ⟨h1, hK⟩)
        | (obtain ⟨h1, h2, rfl⟩ := h; exact ⟨h1, h2, hK⟩)
        | (obtain ⟨h1, h2, h3, rfl⟩ := h; exact ⟨h1, h2, h3, hK⟩)
        | (obtain ⟨h1, h2, h3, h4, rfl⟩ := h; exact ⟨h1, h2, h3, h4, hK⟩)
    · exact h.elim
  case pick c x y =>
    split at h
    · rename_i t _; cases t <;> simp only [br] at h ⊢ <;> first
        | exact h.elim
        | (subst h; exact hK)
        | (obtain ⟨h1, rfl⟩ := h; exact ⟨h1, hK⟩)
        | (obtain ⟨h1, h2, rfl⟩ := h; exact ⟨h1, h2, hK⟩)
        | (obtain ⟨h1, h2, h3, rfl⟩ := h; exact ⟨h1, h2, h3, hK⟩)
        | (obtain ⟨h1, h2, h3, h4, rfl⟩ := h; exact ⟨h1, h2, h3, h4, hK⟩)
    · exact h.elim
  case slc e x lo hi =>
    split at h
    · simp only [chk_iff] at h ⊢
      obtain ⟨h1, h2⟩ := h
      obtain ⟨l, h3, h4⟩ := loV_ex h2
      obtain ⟨r, h5, h7, rfl⟩ := hiV_ex h4
      exact ⟨h1, loV_mono h3 (hiV_mono h5 ⟨h7, hK⟩)⟩
    · exact h.elim
  case sls x lo hi =>
    split at h
    · obtain ⟨l, h3, h4⟩ := loV_ex h
      obtain ⟨r, h5, h7, rfl⟩ := hiV_ex h4
      exact loV_mono h3 (hiV_mono h5 ⟨h7, hK⟩)
    · exact h.elim
  case eqs ne s x y =>
    simp only [chk_iff] at h ⊢
    obtain ⟨h1, h2, h3, h4, h5, rfl⟩ := h
    exact ⟨h1, h2, h3, h4, h5, hK⟩
  all_goals try (split at h)
  all_goals try (exact h.elim)
  all_goals try (split at h)
  all_goals try (simp only [chk_iff] at h ⊢)
  all_goals first
    | exact h.elim
    | (subst h; exact hK)
    | (obtain ⟨h1, rfl⟩ := h; exact ⟨h1, hK⟩)
    | (obtain ⟨h1, h2, rfl⟩ := h; exact ⟨h1, h2, hK⟩)
    | (obtain ⟨h1, h2, h3, rfl⟩ := h; exact ⟨h1, h2, h3, hK⟩)
    | (obtain ⟨h1, h2, h3, h4, rfl⟩ := h; exact ⟨h1, h2, h3, h4, hK⟩)

theorem wpL_ex {ρ : X → AV} {o : Objs} {n : Nat} {p : IOp} {K : AV → Objs → Nat → Prop} (h : wpL ρ o n p K) : ∃ v o' n', wpL ρ o n p (fun x y z => x = v ∧ y = o' ∧ z = n') ∧ K v o' n' := by
  cases p <;> simp only [wpL] at h ⊢
  all_goals try (split at h)
  all_goals try (exact h.elim)
  all_goals try (split at h)
  all_goals try (simp only [chk_iff] at h ⊢)
  all_goals first
    | exact h.elim
    | exact ⟨_, _, _, ⟨rfl, rfl, rfl⟩, h⟩
    | exact ⟨_, _, _, ⟨h.1, rfl, rfl, rfl⟩, h.2⟩
    | (obtain ⟨h1, h2, h5⟩ := h; exact ⟨_, _, _, ⟨h1, h2, rfl, rfl, rfl⟩, h5⟩)
    | (obtain ⟨h1, h2, h3, h4, h5⟩ := h; exact ⟨_, _, _, ⟨h1, h2, h3, h4, rfl, rfl, rfl⟩, h5⟩)
    | (obtain ⟨h3, h4, h5, h6, h7, h8, h9⟩ := h; exact ⟨_, _, _, ⟨h3, h4, h5, h6, h7, h8, rfl, rfl, rfl⟩, h9⟩)

theorem wpL_mono {ρ : X → AV} {o : Objs} {n : Nat} {p : IOp} {v : AV} {o' : Objs} {n' : Nat} {K : AV → Objs → Nat → Prop} (h : wpL ρ o n p (fun x y z => x = v ∧ y = o' ∧ z = n')) (hK : K v o' n') : wpL ρ o n p K := by
  cases p <;> simp only [wpL] at h ⊢
  all_goals try (split at h)
  all_goals try (exact h.elim)
  all_goals try (split at h)
  all_goals try (simp only [chk_iff] at h ⊢)
  all_goals first
    | exact h.elim
    | (obtain ⟨rfl, rfl, rfl⟩ := h; exact hK)
    | (obtain ⟨h1, rfl, rfl, rfl⟩ := h; exact ⟨h1, hK⟩)
    | (obtain ⟨h1, h2, rfl, rfl, rfl⟩ := h; exact ⟨h1, h2, hK⟩)
    | (obtain ⟨h1, h2, h3, h4, rfl, rfl, rfl⟩ := h; exact ⟨h1, h2, h3, h4, hK⟩)
    | (obtain ⟨h1, h2, h3, h4, h5, h6, rfl, rfl, rfl⟩ := h; exact ⟨h1, h2, h3, h4, h5, h6, hK⟩)

end Ar
