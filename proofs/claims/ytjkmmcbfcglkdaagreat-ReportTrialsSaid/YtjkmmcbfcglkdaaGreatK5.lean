/- What an operation of a region reads, and that two that do not touch may change places. No condition. -/
import Derived.Test.YtjkmmcbfcglkdaaGreatK4
import Derived.Scope
set_option linter.all false
namespace Ar
open Go
set_option linter.unusedVariables false
set_option autoImplicit false

def rdX : X → List Nat
  | .t i => [i]
  | _ => []

def rdL : List X → List Nat
  | [] => []
  | x :: r => rdX x ++ rdL r

def rdP : List (Nat × Nat × Nat × X) → List Nat
  | [] => []
  | (_, _, _, x) :: r => rdX x ++ rdP r

def rd : IOp → List Nat
  | .mv x => rdX x
  | .pick c a b => rdX c ++ (rdX a ++ rdX b)
  | .alloc _ => []
  | .box x => rdX x
  | .ld _ _ x => rdX x
  | .sto _ x v => rdX x ++ rdX v
  | .fa _ _ x => rdX x
  | .fld _ _ _ _ x => rdX x
  | .ixa _ _ x i => rdX x ++ rdX i
  | .ixs _ x i => rdX x ++ rdX i
  | .ix _ _ _ x i => rdX x ++ rdX i
  | .ixb x i => rdX x ++ rdX i
  | .bin _ x y => rdX x ++ rdX y
  | .sop _ x y => rdX x ++ rdX y
  | .eqv _ x y => rdX x ++ rdX y
  | .un _ x => rdX x
  | .conv _ x => rdX x
  | .len x => rdX x
  | .lens x => rdX x
  | .ext _ x => rdX x
  | .build _ l => rdP l
  | .nck x => rdX x
  | .eqs _ _ x y => rdX x ++ rdX y
  | .slc _ x lo hi => rdX x ++ (rdX lo ++ rdX hi)
  | .sls x lo hi => rdX x ++ (rdX lo ++ rdX hi)
  | .mm _ x y => rdX x ++ rdX y
  | .mm3 _ x y z => rdX x ++ (rdX y ++ rdX z)
  | .dead => []
  | .xcall _ l => rdL l
  | .bsl _ _ _ l => rdP l
  | .app _ _ _ x y => rdX x ++ rdX y
  | .call _ l => rdL l

def isN : IOp → Bool
  | .ld _ _ _ | .ixs _ _ _ | .alloc _ | .box _ | .sto _ _ _ | .bsl _ _ _ _ | .app _ _ _ _ _ | .call _ _ => false
  | _ => true

def isR : IOp → Bool
  | .ld _ _ _ | .ixs _ _ _ => true
  | _ => false

def isC : IOp → Bool
  | .call _ _ => true
  | _ => false

/-- What makes new memory alone. -/
def isA : IOp → Bool
  | .alloc _ | .box _ | .bsl _ _ _ _ => true
  | _ => false

/-- No name from here on is in use. -/
def Fr (s : FS) : Prop := ∀ k, s.n ≤ k → k < LENT → lookO k s.o = none

theorem evF_congr {gl E E' : Nat → AV} {x : X} (h : ∀ t, t ∈ rdX x → E t = E' t) : evF gl E x = evF gl E' x := by
  cases x <;> simp only [evF]
  exact h _ (by simp [rdX])

theorem evFL_congr {gl E E' : Nat → AV} : ∀ {l : List X}, (∀ t, t ∈ rdL l → E t = E' t) → evFL gl E l = evFL gl E' l
  | [], _ => rfl
  | x :: r, h => by simp only [evFL, evF_congr (gl := gl) (x := x) (fun t ht => h t (by simp [rdL, ht])), evFL_congr (l := r) (fun t ht => h t (by simp [rdL, ht]))]

theorem mkParts_congr {gl E E' : Nat → AV} : ∀ {l : List (Nat × Nat × Nat × X)} {z : AV}, (∀ t, t ∈ rdP l → E t = E' t) → mkParts (evF gl E) l z = mkParts (evF gl E') l z ∧ okParts (evF gl E) l z = okParts (evF gl E') l z
  | [], _, _ => ⟨rfl, rfl⟩
  | (k, off, sz, x) :: r, z, h => by
    have e1 := evF_congr (gl := gl) (x := x) (fun t ht => h t (by simp [rdP, ht]))
    simp only [mkParts, okParts, e1]
    obtain ⟨a, b⟩ := mkParts_congr (gl := gl) (l := r) (z := setPart k (evF gl E' x) z) (fun t ht => h t (by simp [rdP, ht]))
    exact ⟨a, by rw [b]⟩

theorem loV_congr {gl E E' : Nat → AV} {x : X} {K : Nat → Prop} (h : ∀ t, t ∈ rdX x → E t = E' t) : loV (evF gl E) x K = loV (evF gl E') x K := by
  have e1 := evF_congr (gl := gl) h
  cases x <;> simp only [loV, e1]

theorem hiV_congr {gl E E' : Nat → AV} {x : X} {n : Nat} {K : Nat → Prop} (h : ∀ t, t ∈ rdX x → E t = E' t) : hiV (evF gl E) x n K = hiV (evF gl E') x n K := by
  have e1 := evF_congr (gl := gl) h
  cases x <;> simp only [hiV, e1]

theorem wpF_congr {P : Program} {gl E E' : Nat → AV} {o : Objs} {n : Nat} {p : IOp} (h : ∀ t, t ∈ rd p → E t = E' t) (K : AV → Objs → Nat → Prop) : wpF false P gl ⟨E, o, n⟩ p K = wpF false P gl ⟨E', o, n⟩ p K := by
  cases p <;> simp only [wpF, wpV, wpL]
  case mv x => rw [evF_congr (x := x) (fun t ht => h t (by simp [rd, ht]))]
  case pick c a b => rw [evF_congr (x := c) (fun t ht => h t (by simp [rd, ht])), evF_congr (x := a) (fun t ht => h t (by simp [rd, ht])), evF_congr (x := b) (fun t ht => h t (by simp [rd, ht]))]
  case build z l => rw [(mkParts_congr (l := l) (z := z) (fun t ht => h t (by simp [rd, ht]))).1, (mkParts_congr (l := l) (z := z) (fun t ht => h t (by simp [rd, ht]))).2]
  case bsl e ty z l => rw [(mkParts_congr (l := l) (fun t ht => h t (by simp [rd, ht]))).1, (mkParts_congr (l := l) (fun t ht => h t (by simp [rd, ht]))).2]
  case call f l => rw [evFL_congr (l := l) (fun t ht => h t (by simp [rd, ht]))]
  case xcall f l => rw [evFL_congr (l := l) (fun t ht => h t (by simp [rd, ht]))]
  case slc e x lo hi =>
    rw [evF_congr (x := x) (fun t ht => h t (by simp [rd, ht]))]
    simp only [loV_congr (x := lo) (fun t ht => h t (by simp [rd, ht])), hiV_congr (x := hi) (fun t ht => h t (by simp [rd, ht]))]
  case sls x lo hi =>
    rw [evF_congr (x := x) (fun t ht => h t (by simp [rd, ht]))]
    simp only [loV_congr (x := lo) (fun t ht => h t (by simp [rd, ht])), hiV_congr (x := hi) (fun t ht => h t (by simp [rd, ht]))]
  case mm3 mx x y z => rw [evF_congr (x := x) (fun t ht => h t (by simp [rd, ht])), evF_congr (x := y) (fun t ht => h t (by simp [rd, ht])), evF_congr (x := z) (fun t ht => h t (by simp [rd, ht]))]
  case sto sz x v => rw [evF_congr (x := x) (fun t ht => h t (by simp [rd, ht])), evF_congr (x := v) (fun t ht => h t (by simp [rd, ht]))]
  case app e b ty x v => rw [evF_congr (x := x) (fun t ht => h t (by simp [rd, ht])), evF_congr (x := v) (fun t ht => h t (by simp [rd, ht]))]
  all_goals first
    | (rename_i x i; rw [evF_congr (x := x) (fun t ht => h t (by simp [rd, ht])), evF_congr (x := i) (fun t ht => h t (by simp [rd, ht]))])
    | (rename_i x; rw [evF_congr (x := x) (fun t ht => h t (by simp [rd, ht]))])

theorem wpF_N {P : Program} {gl E : Nat → AV} {o o' : Objs} {n n' : Nat} {p : IOp} (h : isN p = true) (K : AV → Prop) : wpF false P gl ⟨E, o, n⟩ p (fun v _ _ => K v) = wpF false P gl ⟨E, o', n'⟩ p (fun v _ _ => K v) := by
  cases p <;> simp [isN] at h <;> rfl

theorem wpF_ex {P : Program} {gl : Nat → AV} {s : FS} {p : IOp} {K : AV → Objs → Nat → Prop} (h : wpF false P gl s p K) : ∃ v o' n', wpF false P gl s p (fun x y z => x = v ∧ y = o' ∧ z = n') ∧ K v o' n' := by
  cases p <;> simp only [wpF] at h ⊢
  case call f l =>
    rcases h with ⟨args', r, h1, h2, h3⟩ | ⟨t, m, e, ty, args', r, m', h1, h2, h3, h4⟩
    · exact ⟨r, _, _, .inl ⟨args', r, h1, h2, rfl, rfl, rfl⟩, h3⟩
    · exact ⟨_, _, _, .inr ⟨t, m, e, ty, args', r, m', h1, h2, h3, rfl, rfl, rfl⟩, h4⟩
  case xcall f l =>
    obtain ⟨r, h1, h2⟩ := h
    exact ⟨r, _, _, ⟨r, h1, rfl, rfl, rfl⟩, h2⟩
  all_goals first
    | (obtain ⟨v, o', n', h1, h2⟩ := wpL_ex h; exact ⟨v, o', n', h1, h2⟩)
    | (obtain ⟨v, h1, h2⟩ := wpV_ex h; exact ⟨v, _, _, wpV_mono h1 ⟨rfl, rfl, rfl⟩, h2⟩)

theorem wpF_mono {P : Program} {gl : Nat → AV} {s : FS} {p : IOp} {v : AV} {o' : Objs} {n' : Nat} {K : AV → Objs → Nat → Prop} (h : wpF false P gl s p (fun x y z => x = v ∧ y = o' ∧ z = n')) (hK : K v o' n') : wpF false P gl s p K := by
  cases p <;> simp only [wpF] at h ⊢
  case call f l =>
    rcases h with ⟨args', r, h1, h2, rfl, rfl, rfl⟩ | ⟨t, m, e, ty, args', r, m', h1, h2, h3, rfl, rfl, rfl⟩
    · exact .inl ⟨args', r, h1, h2, hK⟩
    · exact .inr ⟨t, m, e, ty, args', r, m', h1, h2, h3, hK⟩
  case xcall f l =>
    obtain ⟨r, h1, rfl, rfl, rfl⟩ := h
    exact ⟨r, h1, hK⟩
  all_goals first
    | exact wpL_mono h hK
    | (obtain ⟨x, h1, rfl, rfl, rfl⟩ := wpV_ex h; exact wpV_mono h1 hK)

/-- A value operation leaves memory. -/
theorem wpF_same {P : Program} {gl : Nat → AV} {s : FS} {p : IOp} (hp : isN p = true ∨ isR p = true) {v : AV} {o' : Objs} {n' : Nat} (h : wpF false P gl s p (fun x y z => x = v ∧ y = o' ∧ z = n')) : o' = s.o ∧ n' = s.n := by
  cases p <;> simp [isN, isR] at hp <;> simp only [wpF] at h
  case xcall f l => obtain ⟨_, _, _, rfl, rfl⟩ := h; exact ⟨rfl, rfl⟩
  all_goals (obtain ⟨x, h1, rfl, rfl, rfl⟩ := wpV_ex h; exact ⟨rfl, rfl⟩)

theorem wpF_A {P : Program} {gl : Nat → AV} {s : FS} {p : IOp} (hp : isA p = true) {v : AV} {o' : Objs} {n' : Nat} (h : wpF false P gl s p (fun x y z => x = v ∧ y = o' ∧ z = n')) : s.n < LENT ∧ ∃ x, o' = (s.n, x) :: s.o ∧ n' = s.n + 1 := by
  cases p <;> simp [isA] at hp <;> simp only [wpF, wpL, chk_iff] at h
  · obtain ⟨h1, _, rfl, rfl⟩ := h; exact ⟨Nat.le_of_ble_eq_true h1, _, rfl, rfl⟩
  · obtain ⟨h1, _, _, rfl, rfl⟩ := h; exact ⟨Nat.le_of_ble_eq_true h1, _, rfl, rfl⟩
  · obtain ⟨h1, _, _, rfl, rfl⟩ := h; exact ⟨Nat.le_of_ble_eq_true h1, _, rfl, rfl⟩

theorem wpF_R {P : Program} {gl : Nat → AV} {E : Nat → AV} {o o' : Objs} {n n' : Nat} {p : IOp} (hp : isR p = true) (hl : ∀ b a, lookO b o = some a → lookO b o' = some a) {v : AV}
    (h : wpF false P gl ⟨E, o, n⟩ p (fun x y z => x = v ∧ y = o ∧ z = n)) : wpF false P gl ⟨E, o', n'⟩ p (fun x y z => x = v ∧ y = o' ∧ z = n') := by
  cases p <;> simp [isR] at hp <;> simp only [wpF, wpV] at h ⊢
  · split at h
    · split at h
      · rename_i _ _ _ _ _ hb
        rw [hl _ _ hb]
        simp only [chk_iff] at h ⊢
        exact ⟨h.1, h.2.1, h.2.2.1, trivial, trivial⟩
      · exact h.elim
    · simp only [chk_iff] at h ⊢
      exact ⟨h.1, h.2.1, h.2.2.1, trivial, trivial⟩
    · exact h.elim
  · split at h
    · simp only [chk_iff] at h ⊢
      exact ⟨h.1, h.2.1, h.2.2.1, trivial, trivial⟩
    · split at h
      · rename_i _ _ _ _ _ hb
        rw [hl _ _ hb]
        simp only [chk_iff] at h ⊢
        exact ⟨h.1, h.2.1, h.2.2.1, h.2.2.2.1, h.2.2.2.2.1, trivial, trivial⟩
      · exact h.elim
    · exact h.elim

/-- What a call does to the boxes: nothing. -/
theorem wpF_C {P : Program} {gl : Nat → AV} {E : Nat → AV} {o : Objs} {n : Nat} {p : IOp} (hp : isC p = true) {v : AV} {o' : Objs} {n' : Nat} (h : wpF false P gl ⟨E, o, n⟩ p (fun x y z => x = v ∧ y = o' ∧ z = n')) :
    n' = n ∧ (o' = o ∨ ∃ t m m' e ty, lookO t o = some (.room m e ty) ∧ o' = setO t (.room m' e ty) o) := by
  cases p <;> simp [isC] at hp
  simp only [wpF] at h
  rcases h with ⟨args', r, h1, h2, rfl, rfl, rfl⟩ | ⟨t, m, e, ty, args', r, m', h1, h2, h3, rfl, rfl, rfl⟩
  · exact ⟨rfl, .inl rfl⟩
  · exact ⟨rfl, .inr ⟨t, m, m', e, ty, h1, rfl⟩⟩

theorem wpF_Cn {P : Program} {gl : Nat → AV} {E : Nat → AV} {o : Objs} {n k : Nat} {p : IOp} (hp : isC p = true) {v : AV} {o' : Objs} (h : wpF false P gl ⟨E, o, n⟩ p (fun x y z => x = v ∧ y = o' ∧ z = n)) : wpF false P gl ⟨E, o, k⟩ p (fun x y z => x = v ∧ y = o' ∧ z = k) := by
  cases p <;> simp [isC] at hp
  simp only [wpF] at h ⊢
  rcases h with ⟨args', r, h1, h2, rfl, rfl, _⟩ | ⟨t, m, e, ty, args', r, m', h1, h2, h3, rfl, rfl, _⟩
  · exact .inl ⟨args', r, h1, h2, rfl, rfl, trivial⟩
  · exact .inr ⟨t, m, e, ty, args', r, m', h1, h2, h3, rfl, rfl, trivial⟩

/-- A call with one more object in front. -/
theorem wpF_Cc {P : Program} {gl : Nat → AV} {E : Nat → AV} {o : Objs} {n q : Nat} {z : AObj} {p : IOp} (hp : isC p = true) (hq : lookO q o = none) {v : AV} {o' : Objs} (h : wpF false P gl ⟨E, o, n⟩ p (fun x y z => x = v ∧ y = o' ∧ z = n)) :
    wpF false P gl ⟨E, (q, z) :: o, n⟩ p (fun x y k => x = v ∧ y = (q, z) :: o' ∧ k = n) := by
  cases p <;> simp [isC] at hp
  simp only [wpF] at h ⊢
  rcases h with ⟨args', r, h1, h2, rfl, rfl, _⟩ | ⟨t, m, e, ty, args', r, m', h1, h2, h3, rfl, rfl, _⟩
  · exact .inl ⟨args', r, h1, h2, rfl, rfl, trivial⟩
  · have hne : ¬ q = t := fun e1 => by subst e1; rw [hq] at h1; cases h1
    refine .inr ⟨t, m, e, ty, args', r, m', by rw [lookO_cons, if_neg hne]; exact h1, h2, h3, rfl, ?_, trivial⟩
    simp only [setO, beq_of_ne hne]

theorem box_set {o : Objs} {t m m' e : Nat} {ty : TypeId} (ht : lookO t o = some (.room m e ty)) (b : Nat) (a : AV) : lookO b (setO t (.room m' e ty) o) = some (.box a) ↔ lookO b o = some (.box a) := by
  rw [lookO_setO]
  by_cases h : b = t
  · subst h; rw [if_pos rfl, ht]; simp
  · rw [if_neg h]

theorem wpF_Ab {P : Program} {gl : Nat → AV} {E : Nat → AV} {o o' : Objs} {n : Nat} {p : IOp} (hp : isA p = true) {v : AV} {z : AObj} (h : wpF false P gl ⟨E, o, n⟩ p (fun x y k => x = v ∧ y = (n, z) :: o ∧ k = n + 1)) :
    wpF false P gl ⟨E, o', n⟩ p (fun x y k => x = v ∧ y = (n, z) :: o' ∧ k = n + 1) := by
  cases p <;> simp [isA] at hp <;> simp only [wpF, wpL, chk_iff] at h ⊢
  · obtain ⟨h1, h2, h3, _⟩ := h
    injection h3 with h3 _
    exact ⟨h1, h2, by rw [h3], trivial⟩
  · obtain ⟨h1, h0, h2, h3, _⟩ := h
    injection h3 with h3 _
    exact ⟨h1, h0, h2, by rw [h3], trivial⟩
  · obtain ⟨h1, h0, h2, h3, _⟩ := h
    injection h3 with h3 _
    exact ⟨h1, h0, h2, by rw [h3], trivial⟩

/-- A load looks at boxes alone. -/
theorem wpF_Rb {P : Program} {gl : Nat → AV} {E : Nat → AV} {o o' : Objs} {n n' : Nat} {p : IOp} (hp : isR p = true) (hl : ∀ b a, lookO b o = some (.box a) → lookO b o' = some (.box a)) {v : AV}
    (h : wpF false P gl ⟨E, o, n⟩ p (fun x y z => x = v ∧ y = o ∧ z = n)) : wpF false P gl ⟨E, o', n'⟩ p (fun x y z => x = v ∧ y = o' ∧ z = n') := by
  cases p <;> simp [isR] at hp <;> simp only [wpF, wpV] at h ⊢
  · split at h
    · split at h
      · rename_i _ _ _ _ _ hb
        rw [hl _ _ hb]
        simp only [chk_iff] at h ⊢
        exact ⟨h.1, h.2.1, h.2.2.1, trivial, trivial⟩
      · exact h.elim
    · simp only [chk_iff] at h ⊢
      exact ⟨h.1, h.2.1, h.2.2.1, trivial, trivial⟩
    · exact h.elim
  · split at h
    · simp only [chk_iff] at h ⊢
      exact ⟨h.1, h.2.1, h.2.2.1, trivial, trivial⟩
    · split at h
      · rename_i _ _ _ _ _ hb
        rw [hl _ _ hb]
        simp only [chk_iff] at h ⊢
        exact ⟨h.1, h.2.1, h.2.2.1, h.2.2.2.1, h.2.2.2.2.1, trivial, trivial⟩
      · exact h.elim
    · exact h.elim

theorem fr_cons {E E' : Nat → AV} {o : Objs} {n : Nat} {x : AObj} (h : Fr ⟨E, o, n⟩) : Fr ⟨E', (n, x) :: o, n + 1⟩ := fun k hk hL => by
  have hk : n + 1 ≤ k := hk
  show lookO k ((n, x) :: o) = none
  rw [lookO_cons, if_neg (by omega)]
  exact h k (by show n ≤ k; omega) hL

theorem wpF_fr {P : Program} {gl : Nat → AV} {s : FS} {p : IOp} (hf : Fr s) {v : AV} {o' : Objs} {n' : Nat} {E' : Nat → AV} (h : wpF false P gl s p (fun x y z => x = v ∧ y = o' ∧ z = n')) : Fr ⟨E', o', n'⟩ := by
  have hset : ∀ (t : Nat) (x : AObj), Fr ⟨E', setO t x s.o, s.n⟩ := fun t x k hk hL => by
    have h1 := hf k hk hL
    show lookO k (setO t x s.o) = none
    rw [lookO_setO]
    by_cases e : k = t
    · subst e; rw [if_pos rfl, h1]; rfl
    · rw [if_neg e, h1]
  have hdrop : ∀ (t : Nat) (x : AObj), Fr ⟨E', (s.n, x) :: dropO t s.o, s.n + 1⟩ := fun t x k hk hL => by
    have hk : s.n + 1 ≤ k := hk
    show lookO k ((s.n, x) :: dropO t s.o) = none
    rw [lookO_cons, if_neg (by omega), lookO_dropO]
    by_cases e : k = t
    · rw [if_pos e]
    · rw [if_neg e]; exact hf k (by omega) hL
  have hsame : Fr ⟨E', s.o, s.n⟩ := hf
  by_cases hN : isN p = true ∨ isR p = true
  · obtain ⟨rfl, rfl⟩ := wpF_same hN h
    exact hf
  · by_cases hA : isA p = true
    · obtain ⟨_, x, rfl, rfl⟩ := wpF_A hA h
      exact fr_cons (E := s.E) hf
    · by_cases hC : isC p = true
      · obtain ⟨rfl, rfl | ⟨t, m, m', e, ty, _, rfl⟩⟩ := wpF_C (E := s.E) (o := s.o) (n := s.n) hC h
        · exact hsame
        · exact hset _ _
      cases p <;> simp [isN, isR, isA, isC] at hN hA hC <;> simp only [wpF, wpL] at h
      · split at h
        · split at h
          · simp only [chk_iff] at h
            obtain ⟨_, _, _, _, _, rfl, rfl⟩ := h
            exact hset _ _
          · exact h.elim
        · exact h.elim
      · split at h
        · simp only [chk_iff] at h
          obtain ⟨_, _, _, _, rfl, rfl⟩ := h
          exact fr_cons (E := s.E) hf
        · obtain ⟨_, rfl, rfl⟩ := h; exact hsame
        · obtain ⟨_, rfl, rfl⟩ := h; exact hsame
        · obtain ⟨_, rfl, rfl⟩ := h; exact hsame
        · split at h
          · simp only [chk_iff] at h
            obtain ⟨_, _, _, _, _, _, _, _, _, _, rfl, rfl⟩ := h
            exact hdrop _ _
          · exact h.elim
        · split at h
          · simp only [chk_iff] at h
            obtain ⟨_, _, _, _, _, _, _, rfl, rfl⟩ := h
            exact hset _ _
          · exact h.elim
        · exact h.elim

theorem YF_fr {P : Program} {gl : Nat → AV} {en : Ent} {s : FS} (hf : Fr s) {v : AV} {o' : Objs} {n' : Nat} (h : YF P gl en s v o' n') : Fr (s.next en v o' n') := by
  rcases h with ⟨_, h⟩ | ⟨_, _, rfl, rfl⟩
  · exact wpF_fr hf h
  · exact hf

/-! Two entries that do not touch. -/
def Ent.rds (en : Ent) : List Nat := rd en.op ++ (match en.gd with | some (t, _) => [t] | none => [])

def apartV (x y : Ent) : Bool :=
  (match x.dst with
   | some d => !(y.rds).contains d && (match y.dst with | some d' => !Nat.beq d d' | none => true)
   | none => true) &&
  (match y.dst with
   | some d => !(x.rds).contains d
   | none => true)

def apartE (x y : Ent) : Bool := apartV x y &&
  (isN x.op || (isN y.op || ((isR x.op && isR y.op) || ((isR x.op && isA y.op) || ((isC x.op && isR y.op) || ((isR x.op && isC y.op) || (isC x.op && isA y.op)))))))

theorem apartV_spec {x y : Ent} (h : apartV x y = true) : (∀ d, x.dst = some d → d ∉ y.rds) ∧ (∀ d, x.dst = some d → y.dst ≠ some d) ∧ (∀ d, y.dst = some d → d ∉ x.rds) := by
  simp only [apartV, Bool.and_eq_true] at h
  obtain ⟨h1, h2⟩ := h
  refine ⟨fun d hd => ?_, fun d hd => ?_, fun d hd => ?_⟩
  · rw [hd] at h1; simp at h1; exact h1.1
  · rw [hd] at h1
    intro he
    rw [he] at h1
    simp at h1
  · rw [hd] at h2; simpa using h2

theorem apartE_spec {x y : Ent} (h : apartE x y = true) : (∀ d, x.dst = some d → d ∉ y.rds) ∧ (∀ d, x.dst = some d → y.dst ≠ some d) ∧ (∀ d, y.dst = some d → d ∉ x.rds) ∧
    (isN x.op = true ∨ isN y.op = true ∨ (isR x.op = true ∧ isR y.op = true) ∨ (isR x.op = true ∧ isA y.op = true) ∨ (isC x.op = true ∧ isR y.op = true) ∨ (isR x.op = true ∧ isC y.op = true) ∨ (isC x.op = true ∧ isA y.op = true)) := by
  simp only [apartE, Bool.and_eq_true, Bool.or_eq_true] at h
  obtain ⟨h1, h2, h4⟩ := apartV_spec h.1
  exact ⟨h1, h2, h4, h.2⟩

theorem putD_ne {E : Nat → AV} {d : Option Nat} {v : AV} {t : Nat} (h : ∀ x, d = some x → x ≠ t) : putD E d v t = E t := by
  cases d with
  | none => rfl
  | some x => simp only [putD, putF]; rw [if_neg (h x rfl)]

theorem putD_comm {E : Nat → AV} {d d' : Option Nat} {v u : AV} (h : ∀ x, d = some x → d' ≠ some x) : putD (putD E d v) d' u = putD (putD E d' u) d v := by
  cases d with
  | none => rfl
  | some x =>
    cases d' with
    | none => rfl
    | some y =>
      have hne : x ≠ y := fun e => h x rfl (by rw [e])
      funext t
      simp only [putD, putF]
      by_cases h1 : y = t
      · subst h1
        rw [if_pos rfl, if_neg hne, if_pos rfl]
      · rw [if_neg h1, if_neg h1]

theorem Gd_congr {s s' : FS} {gd : Option (Nat × Bool)} {r : Bool} (h : ∀ t b, gd = some (t, b) → s.E t = s'.E t) : Gd s gd r ↔ Gd s' gd r := by
  cases gd with
  | none => exact Iff.rfl
  | some q => obtain ⟨t, b⟩ := q; simp only [Gd, h t b rfl]

theorem YF_congrE {P : Program} {gl : Nat → AV} {en : Ent} {E E' : Nat → AV} {o o' : Objs} {n n' : Nat} {v : AV} (h : ∀ t, t ∈ en.rds → E t = E' t) (hy : YF P gl en ⟨E, o, n⟩ v o' n') : YF P gl en ⟨E', o, n⟩ v o' n' := by
  have hg : ∀ r, Gd (⟨E, o, n⟩ : FS) en.gd r ↔ Gd (⟨E', o, n⟩ : FS) en.gd r := fun r => Gd_congr (fun t b hb => h t (by simp [Ent.rds, hb]))
  unfold YF at *
  rw [← hg, ← hg, ← wpF_congr (E := E) (E' := E') (fun t ht => h t (by simp [Ent.rds, ht]))]
  exact hy

theorem YF_N {P : Program} {gl : Nat → AV} {en : Ent} (hn : isN en.op = true) {E : Nat → AV} {o o' : Objs} {n n' : Nat} {v : AV} (hy : YF P gl en ⟨E, o, n⟩ v o' n') (o2 : Objs) (n2 : Nat) : YF P gl en ⟨E, o2, n2⟩ v o2 n2 := by
  rcases hy with ⟨h1, h2⟩ | ⟨h1, h2, h3, h4⟩
  · refine .inl ⟨h1, ?_⟩
    have h3 : wpF false P gl ⟨E, o, n⟩ en.op (fun x _ _ => x = v) := wpF_mono h2 rfl
    rw [wpF_N (o' := o2) (n' := n2) hn] at h3
    obtain ⟨x, y, z, h4, rfl⟩ := wpF_ex h3
    obtain ⟨rfl, rfl⟩ := wpF_same (.inl hn) h4
    exact h4
  · exact .inr ⟨h1, h2, rfl, rfl⟩

theorem YF_same {P : Program} {gl : Nat → AV} {en : Ent} (hn : isN en.op = true ∨ isR en.op = true) {s : FS} {o' : Objs} {n' : Nat} {v : AV} (hy : YF P gl en s v o' n') : o' = s.o ∧ n' = s.n := by
  rcases hy with ⟨_, h2⟩ | ⟨_, _, h3, h4⟩
  · exact wpF_same hn h2
  · exact ⟨h3, h4⟩

/-- First x, then y: or first y, then x. -/
theorem YF_swap {P : Program} {gl : Nat → AV} {x y : Ent} (ha : apartE x y = true) {s : FS} (hfr : Fr s) {v u : AV} {o1 o2 : Objs} {n1 n2 : Nat} (hx : YF P gl x s v o1 n1) (hy : YF P gl y (s.next x v o1 n1) u o2 n2) :
    ∃ o3 n3, YF P gl y s u o3 n3 ∧ YF P gl x (s.next y u o3 n3) v o2 n2 ∧ (s.next y u o3 n3).next x v o2 n2 = (s.next x v o1 n1).next y u o2 n2 := by
  obtain ⟨h1, h2, h3, h4⟩ := apartE_spec ha
  obtain ⟨E, o, n⟩ := s
  have hEy : ∀ (O : Objs) (M : Nat) {o' : Objs} {n' : Nat}, YF P gl y ⟨putD E x.dst v, O, M⟩ u o' n' → YF P gl y ⟨E, O, M⟩ u o' n' := fun O M _ _ h => YF_congrE (fun t ht => putD_ne (fun d hd e => h1 d hd (e ▸ ht))) h
  have hEx : ∀ (O : Objs) (M : Nat) {o' : Objs} {n' : Nat}, YF P gl x ⟨E, O, M⟩ v o' n' → YF P gl x ⟨putD E y.dst u, O, M⟩ v o' n' := fun O M _ _ h => YF_congrE (fun t ht => (putD_ne (fun d hd e => h3 d hd (e ▸ ht))).symm) h
  have hc : putD (putD E y.dst u) x.dst v = putD (putD E x.dst v) y.dst u := (putD_comm h2).symm
  rcases h4 with hn | hn | ⟨r1, r2⟩ | ⟨r1, r2⟩ | ⟨r1, r2⟩ | ⟨r1, r2⟩ | ⟨r1, r2⟩
  · obtain ⟨rfl, rfl⟩ := YF_same (.inl hn) hx
    refine ⟨o2, n2, hEy _ _ hy, hEx _ _ (YF_N hn hx o2 n2), ?_⟩
    simp only [FS.next, hc]
  · obtain ⟨rfl, rfl⟩ := YF_same (.inl hn) hy
    refine ⟨o, n, hEy _ _ (YF_N hn hy o n), hEx _ _ hx, ?_⟩
    simp only [FS.next, hc]
  · obtain ⟨rfl, rfl⟩ := YF_same (.inr r1) hx
    obtain ⟨rfl, rfl⟩ := YF_same (.inr r2) hy
    exact ⟨_, _, hEy _ _ hy, hEx _ _ hx, by simp only [FS.next, hc]⟩
  · obtain ⟨rfl, rfl⟩ := YF_same (.inr r1) hx
    refine ⟨o2, n2, hEy _ _ hy, hEx _ _ ?_, by simp only [FS.next, hc]⟩
    rcases hy with ⟨_, hy⟩ | ⟨_, _, rfl, rfl⟩
    · obtain ⟨hL, z, rfl, rfl⟩ := wpF_A r2 hy
      rcases hx with ⟨q1, q2⟩ | ⟨q1, q2, _, _⟩
      · refine .inl ⟨q1, wpF_R r1 (fun b a hb => ?_) q2⟩
        rw [lookO_cons, if_neg]
        · exact hb
        · rintro rfl
          exact absurd ((hfr _ (Nat.le_refl _) hL).symm.trans hb) (by simp)
      · exact .inr ⟨q1, q2, rfl, rfl⟩
    · exact hx
  · -- a call, then a load
    have hs := YF_same (.inr r2) hy
    have e1 : o2 = o1 := hs.1
    have e2 : n2 = n1 := hs.2
    subst e1 e2
    have hy2 : YF P gl y ⟨E, o2, n2⟩ u o2 n2 := hEy o2 n2 hy
    have hx2 := hEx _ _ hx
    rcases hx with ⟨q1, q2⟩ | ⟨q1, q2, q3, q4⟩
    · obtain ⟨q5, ho⟩ := wpF_C r1 q2
      have q5 : n2 = n := q5
      subst q5
      refine ⟨o, n2, ?_, hx2, by simp only [FS.next, hc]⟩
      rcases hy2 with ⟨p1, p2⟩ | ⟨p1, p2, _, _⟩
      · refine .inl ⟨p1, wpF_Rb r2 (fun b a hb => ?_) p2⟩
        rcases ho with rfl | ⟨t, m, m', e, ty, h5, rfl⟩
        · exact hb
        · exact (box_set h5 b a).1 hb
      · exact .inr ⟨p1, p2, rfl, rfl⟩
    · have q3 : o2 = o := q3
      have q4 : n2 = n := q4
      subst q3 q4
      exact ⟨o2, n2, hy2, hx2, by simp only [FS.next, hc]⟩
  · -- a load, then a call
    have hs := YF_same (.inr r1) hx
    have e1 : o1 = o := hs.1
    have e2 : n1 = n := hs.2
    subst e1 e2
    have hy2 : YF P gl y ⟨E, o1, n1⟩ u o2 n2 := hEy o1 n1 hy
    refine ⟨o2, n2, hy2, hEx _ _ ?_, by simp only [FS.next, hc]⟩
    rcases hy2 with ⟨p1, p2⟩ | ⟨p1, p2, p3, p4⟩
    · obtain ⟨q5, ho⟩ := wpF_C r2 p2
      have q5 : n2 = n1 := q5
      subst q5
      rcases hx with ⟨q1, q2⟩ | ⟨q1, q2, _, _⟩
      · refine .inl ⟨q1, wpF_Rb r1 (fun b a hb => ?_) q2⟩
        rcases ho with rfl | ⟨t, m, m', e, ty, h5, rfl⟩
        · exact hb
        · exact (box_set h5 b a).2 hb
      · exact .inr ⟨q1, q2, rfl, rfl⟩
    · have p3 : o2 = o1 := p3
      have p4 : n2 = n1 := p4
      subst p3 p4
      exact hx
  · -- a call, then new memory
    have hy2 : YF P gl y ⟨E, o1, n1⟩ u o2 n2 := hEy o1 n1 hy
    rcases hx with ⟨q1, q2⟩ | ⟨q1, q2, q3, q4⟩
    · obtain ⟨q5, ho⟩ := wpF_C r1 q2
      have q5 : n1 = n := q5
      subst q5
      rcases hy2 with ⟨p1, p2⟩ | ⟨p1, p2, p3, p4⟩
      · obtain ⟨hL, z, e1, e2⟩ := wpF_A r2 p2
        have e1 : o2 = (n1, z) :: o1 := e1
        have e2 : n2 = n1 + 1 := e2
        subst e1 e2
        exact ⟨(n1, z) :: o, n1 + 1, .inl ⟨p1, wpF_Ab r2 p2⟩, hEx _ _ (.inl ⟨q1, wpF_Cn r1 (wpF_Cc r1 (hfr _ (Nat.le_refl _) hL) q2)⟩), by simp only [FS.next, hc]⟩
      · have p3 : o2 = o1 := p3
        have p4 : n2 = n1 := p4
        subst p3 p4
        exact ⟨o, _, .inr ⟨p1, p2, rfl, rfl⟩, hEx _ _ (.inl ⟨q1, q2⟩), by simp only [FS.next, hc]⟩
    · have q3 : o1 = o := q3
      have q4 : n1 = n := q4
      subst q3 q4
      have hdn : Gd (⟨E, o2, n2⟩ : FS) x.gd false := q1
      exact ⟨o2, n2, hy2, hEx _ _ (.inr ⟨hdn, q2, rfl, rfl⟩), by simp only [FS.next, hc]⟩

/-! A load of a box, and a store into another. -/
def adrS : IOp → Option Nat
  | .sto _ (.t j) _ => some j
  | _ => none

theorem wpF_ldS {P : Program} {gl : Nat → AV} {E : Nat → AV} {o o' : Objs} {n n' : Nat} {p : IOp} {i : Nat} (hp : adr p = some i) (hl : ∀ b q, E i = .ptr b q → lookO b o' = lookO b o) {v : AV} {o1 : Objs} {n1 : Nat}
    (h : wpF false P gl ⟨E, o, n⟩ p (fun x y z => x = v ∧ y = o1 ∧ z = n1)) : (o1 = o ∧ n1 = n) ∧ wpF false P gl ⟨E, o', n'⟩ p (fun x y z => x = v ∧ y = o' ∧ z = n') := by
  cases p <;> simp only [adr] at hp <;> try cases hp
  rename_i ag m x
  cases x <;> simp only [] at hp <;> try cases hp
  simp only [wpF, wpV, evF] at h ⊢
  split at h
  · rename_i b q he
    split at h
    · rename_i a hb
      rw [hl _ _ he, hb]
      simp only [chk_iff] at h ⊢
      obtain ⟨h1, h2, h3, rfl, rfl⟩ := h
      exact ⟨⟨rfl, rfl⟩, h1, h2, h3, trivial, trivial⟩
    · exact h.elim
  · simp only [chk_iff] at h ⊢
    obtain ⟨h1, h2, h3, rfl, rfl⟩ := h
    exact ⟨⟨rfl, rfl⟩, h1, h2, h3, trivial, trivial⟩
  · exact h.elim

theorem wpF_stoS {P : Program} {gl : Nat → AV} {E : Nat → AV} {o : Objs} {n : Nat} {p : IOp} {j : Nat} (hp : adrS p = some j) {v : AV} {o1 : Objs} {n1 : Nat}
    (h : wpF false P gl ⟨E, o, n⟩ p (fun x y z => x = v ∧ y = o1 ∧ z = n1)) : n1 = n ∧ ∀ b, (∀ b' q, E j = .ptr b' q → b ≠ b') → lookO b o1 = lookO b o := by
  cases p <;> simp only [adrS] at hp <;> try cases hp
  rename_i sz x w
  cases x <;> simp only [] at hp <;> try cases hp
  simp only [wpF, wpL, evF] at h
  split at h
  · rename_i b q he
    split at h
    · simp only [chk_iff] at h
      obtain ⟨_, _, _, _, _, rfl, rfl⟩ := h
      refine ⟨rfl, fun b2 hb => ?_⟩
      rw [lookO_setO, if_neg (hb _ _ he)]
    · exact h.elim
  · exact h.elim

theorem YF_swapS {P : Program} {gl : Nat → AV} {x y : Ent} (ha : apartV x y = true) {i j : Nat} (hx0 : adr x.op = some i) (hy0 : adrS y.op = some j) {s : FS} (hsep : ∀ b p b' q, s.E i = .ptr b p → s.E j = .ptr b' q → b ≠ b')
    (hj : x.dst ≠ some j) {v u : AV} {o1 o2 : Objs} {n1 n2 : Nat} (hx : YF P gl x s v o1 n1) (hy : YF P gl y (s.next x v o1 n1) u o2 n2) :
    ∃ o3 n3, YF P gl y s u o3 n3 ∧ YF P gl x (s.next y u o3 n3) v o2 n2 ∧ (s.next y u o3 n3).next x v o2 n2 = (s.next x v o1 n1).next y u o2 n2 := by
  obtain ⟨h1, h2, h3⟩ := apartV_spec ha
  obtain ⟨E, o, n⟩ := s
  have hEy : ∀ (O : Objs) (M : Nat) {o' : Objs} {n' : Nat}, YF P gl y ⟨putD E x.dst v, O, M⟩ u o' n' → YF P gl y ⟨E, O, M⟩ u o' n' := fun O M _ _ h => YF_congrE (fun t ht => putD_ne (fun d hd e => h1 d hd (e ▸ ht))) h
  have hEx : ∀ (O : Objs) (M : Nat) {o' : Objs} {n' : Nat}, YF P gl x ⟨E, O, M⟩ v o' n' → YF P gl x ⟨putD E y.dst u, O, M⟩ v o' n' := fun O M _ _ h => YF_congrE (fun t ht => (putD_ne (fun d hd e => h3 d hd (e ▸ ht))).symm) h
  have hc : putD (putD E y.dst u) x.dst v = putD (putD E x.dst v) y.dst u := (putD_comm h2).symm
  have hR : isR x.op = true := by
    cases hp : x.op <;> rw [hp] at hx0 <;> simp only [adr] at hx0 <;> try cases hx0
    rfl
  obtain ⟨rfl, rfl⟩ := YF_same (.inr hR) hx
  have hy := hEy _ _ hy
  refine ⟨o2, n2, hy, hEx _ _ ?_, by simp only [FS.next, hc]⟩
  rcases hy with ⟨_, hy⟩ | ⟨_, _, rfl, rfl⟩
  · obtain ⟨rfl, hl⟩ := wpF_stoS hy0 hy
    rcases hx with ⟨q1, q2⟩ | ⟨q1, q2, _, _⟩
    · exact .inl ⟨q1, (wpF_ldS hx0 (fun b p hb => hl b (fun b' q hb' => hsep b p b' q hb hb')) q2).2⟩
    · exact .inr ⟨q1, q2, rfl, rfl⟩
  · exact hx

end Ar
namespace Ar
open Go
set_option linter.unusedVariables false
set_option autoImplicit false

section
variable {P : Program} {gl : Nat → AV} {N : Nat} {ops : Array Oper} {es : List Ent}

def qI (P : Program) (gl : Nat → AV) (es : List Ent) (i : Nat) (K : FS → Prop) (s : FS) : Prop :=
  match es[i]? with
  | some en => qE P gl en K s
  | none => K s

theorem qI_mono {i : Nat} {K K' : FS → Prop} {s : FS} (hk : ∀ s, K s → K' s) (h : qI P gl es i K s) : qI P gl es i K' s := by
  unfold qI at *
  split
  · rename_i en he; rw [he] at h; exact qE_mono hk h
  · rename_i he; rw [he] at h; exact hk _ h

def wpAnyA (P : Program) (gl : Nat → AV) (ops : Array Oper) (es : List Ent) (Q : FS → Prop) : Nat → Array Bool → FS → Prop
  | 0, listed, s => Region.ready .any ops listed = [] ∧ Q s
  | fuel + 1, listed, s => (Region.ready .any ops listed = [] → Q s) ∧ ∀ i ∈ Region.ready .any ops listed, qI P gl es i (wpAnyA P gl ops es Q fuel (listed.setIfInBounds i true)) s

/-- Does the operation number j wait, at whatever remove, for the one number k? -/
def transC (ops : Array Oper) (k : Nat) : Nat → Nat → Bool
  | 0, _ => false
  | fuel + 1, j => match ops[j]? with
    | some oj => oj.after.any fun e => Region.binds .any e && (Nat.beq e.on k || transC ops k fuel e.on)
    | none => false

/-- What is listed stands behind what it waits for. -/
def Closed (ops : Array Oper) (listed : Array Bool) : Prop := ∀ (j : Nat) oj, ops[j]? = some oj → listed.getD j false = true → ∀ e ∈ oj.after, Region.binds .any e = true → listed.getD e.on false = true

theorem trans_not {listed : Array Bool} (hc : Closed ops listed) {k : Nat} (hk : listed.getD k true = false) : ∀ (fuel j : Nat) oj, ops[j]? = some oj → transC ops k fuel j = true →
    ∃ e ∈ oj.after, Region.binds .any e = true ∧ ¬ listed.getD e.on false = true
  | 0, j, oj, hj, h => by simp [transC] at h
  | fuel + 1, j, oj, hj, h => by
    simp only [transC, hj] at h
    rw [← Array.any_toList] at h
    obtain ⟨e, he, hb⟩ := List.any_eq_true.1 h
    simp only [Bool.and_eq_true, Bool.or_eq_true] at hb
    have he := Array.mem_toList_iff.1 he
    refine ⟨e, he, hb.1, fun hl => ?_⟩
    rcases hb.2 with h1 | h1
    · have h1 := beq_eq h1
      subst h1
      rcases Nat.lt_or_ge e.on listed.size with h' | h'
      · simp [h'] at hk hl; rw [hk] at hl; cases hl
      · simp [Array.getElem?_eq_none h'] at hl
    · cases ho : ops[e.on]? with
      | none => cases fuel <;> simp [transC, ho] at h1
      | some oe =>
        obtain ⟨e', h2, h3, h4⟩ := trans_not hc hk fuel e.on oe ho h1
        exact h4 (hc e.on oe ho hl e' h2 h3)

theorem closed_set {listed : Array Bool} (hc : Closed ops listed) {i : Nat} (hr : i ∈ Region.ready .any ops listed) : Closed ops (listed.setIfInBounds i true) := by
  have mono : ∀ q, listed.getD q false = true → (listed.setIfInBounds i true).getD q false = true := fun q hq => by
    simp only [Array.getD_eq_getD_getElem?, Array.getElem?_setIfInBounds] at hq ⊢
    by_cases e : i = q
    · subst e
      rw [if_pos rfl]
      by_cases h2 : i < listed.size
      · simp [h2]
      · simp [Array.getElem?_eq_none (Nat.le_of_not_lt h2)] at hq
    · rw [if_neg e]; exact hq
  intro j oj hj hl e he hb
  by_cases hji : j = i
  · subst hji
    obtain ⟨_, o2, ho2, hall⟩ := mem_ready.1 hr
    rw [hj] at ho2
    injection ho2 with ho2
    subst ho2
    exact mono _ (hall e he hb)
  · refine mono _ (hc j oj hj ?_ e he hb)
    rwa [getD_set_ne false (Ne.symm hji)] at hl

/-- The load's box is none of those that these slots point to, and no entry writes these slots. -/
def SepS (es : List Ent) (ei : Ent) (js : List Nat) (s : FS) : Prop := ∀ j ∈ js, (∀ en ∈ es, en.dst ≠ some j) ∧ ∃ i, adr ei.op = some i ∧ ∀ b p b' q, s.E i = .ptr b p → s.E j = .ptr b' q → b ≠ b'

theorem sepV_ne {x y : AV} (h : sepV x y = true) {b b' : Nat} {p q : List PE} (hx : x = .ptr b p) (hy : y = .ptr b' q) : b ≠ b' := by
  subst hx hy
  simp only [sepV] at h
  rintro rfl
  rw [beq_self] at h
  cases h

theorem sepB_spec {E : Nat → AV} {p : IOp} : ∀ {js : List Nat}, sepB E p js = true → ∀ j ∈ js, ∃ i, adr p = some i ∧ ∀ b q b' r, E i = .ptr b q → E j = .ptr b' r → b ≠ b'
  | [], _, j, hj => by cases hj
  | k :: r, h, j, hj => by
    simp only [sepB] at h
    split at h
    · rename_i i hi
      simp only [Bool.and_eq_true] at h
      rcases List.mem_cons.1 hj with rfl | hj
      · exact ⟨i, hi, fun b q b' r h1 h2 => sepV_ne h.1 h1 h2⟩
      · exact sepB_spec h.2 j hj
    · cases h

def sepE (js : List Nat) (x y : Ent) : Bool := apartV x y && match adrS y.op with
  | some j => js.contains j
  | none => false

theorem rds_adr {en : Ent} {i : Nat} (h : adr en.op = some i) : i ∈ en.rds := by
  unfold Ent.rds
  cases hp : en.op <;> rw [hp] at h <;> simp only [adr] at h <;> try cases h
  rename_i ag m x
  cases x <;> simp only [] at h <;> try cases h
  simp [rd, rdX]

theorem wpAnyA_first {Q : FS → Prop} {i : Nat} {ei : Ent} (hi : es[i]? = some ei) (d : Nat) (js : List Nat) : ∀ (fuel : Nat) (listed : Array Bool) (s : FS) {v : AV} {o : Objs} {n : Nat}, Closed ops listed → Fr s → SepS es ei js s →
      (∀ (j : Nat) oj ej, ops[j]? = some oj → es[j]? = some ej → j ≠ i → listed.getD j true = false → transC ops i d j = false → apartE ei ej = true ∨ sepE js ei ej = true) →
      (∀ (j : Nat) oj, ops[j]? = some oj → ∃ ej, es[j]? = some ej) →
      i ∈ Region.ready .any ops listed → YF P gl ei s v o n →
      wpAnyA P gl ops es Q fuel (listed.setIfInBounds i true) (s.next ei v o n) → wpAnyA P gl ops es Q (fuel + 1) listed s := by
  intro fuel
  induction fuel with
  | zero =>
    intro listed s v o n hcl hfr hsp _ _ hr hy H
    refine ⟨fun h => (by rw [h] at hr; cases hr), fun j hj => ?_⟩
    by_cases hji : j = i
    · subst hji
      unfold qI; rw [hi]
      exact ⟨v, o, n, hy, H⟩
    · have := ready_mono hj hji
      rw [H.1] at this
      cases this
  | succ fuel ih =>
    intro listed s v o n hcl hfr hsp hfree hes hr hy H
    refine ⟨fun h => (by rw [h] at hr; cases hr), fun j hj => ?_⟩
    by_cases hji : j = i
    · subst hji
      unfold qI; rw [hi]
      exact ⟨v, o, n, hy, H⟩
    · have h1 := H.2 j (ready_mono hj hji)
      obtain ⟨hjun, oj, hoj, hall⟩ := mem_ready.1 hj
      obtain ⟨ej, hej⟩ := hes j oj hoj
      have hnot : transC ops i d j = false := by
        cases ht : transC ops i d j with
        | false => rfl
        | true =>
          obtain ⟨e, he, hb, hn⟩ := trans_not hcl (mem_ready.1 hr).1 d j oj hoj ht
          exact absurd (hall e he hb) hn
      unfold qI at h1 ⊢
      rw [hej] at h1 ⊢
      obtain ⟨u, o2, n2, hy2, hK⟩ := h1
      have hmem : ∀ {q : Nat} {en : Ent}, es[q]? = some en → en ∈ es := fun {q en} hq => List.mem_of_getElem? hq
      obtain ⟨hapV, o3, n3, hy3, hy4, he⟩ : apartV ei ej = true ∧ ∃ o3 n3, YF P gl ej s u o3 n3 ∧ YF P gl ei (s.next ej u o3 n3) v o2 n2 ∧ (s.next ej u o3 n3).next ei v o2 n2 = (s.next ei v o n).next ej u o2 n2 := by
        rcases hfree j oj ej hoj hej hji hjun hnot with ha | ha
        · have hav : apartV ei ej = true := by simp only [apartE, Bool.and_eq_true] at ha; exact ha.1
          exact ⟨hav, YF_swap ha hfr hy hy2⟩
        · simp only [sepE, Bool.and_eq_true] at ha
          obtain ⟨hav, hb⟩ := ha
          split at hb
          · rename_i q hq
            obtain ⟨h5, i2, h6, h7⟩ := hsp q (by simpa using hb)
            exact ⟨hav, YF_swapS hav h6 hq h7 (h5 ei (hmem hi)) hy hy2⟩
          · cases hb
      have hsp' : SepS es ei js (s.next ej u o3 n3) := fun q hq => by
        obtain ⟨h5, i2, h6, h7⟩ := hsp q hq
        refine ⟨h5, i2, h6, fun b p b' r h8 h9 => h7 b p b' r ?_ ?_⟩
        · rw [← h8]
          exact (putD_ne (fun x hx e => (apartV_spec hapV).2.2 x hx (e ▸ rds_adr h6))).symm
        · rw [← h9]
          exact (putD_ne (fun x hx (e : x = q) => h5 ej (hmem hej) (by rw [← e]; exact hx))).symm
      refine ⟨u, o3, n3, hy3, ?_⟩
      have hfree' : ∀ (k : Nat) ok ek, ops[k]? = some ok → es[k]? = some ek → k ≠ i → (listed.setIfInBounds j true).getD k true = false →
          transC ops i d k = false → apartE ei ek = true ∨ sepE js ei ek = true := fun k ok ek hk hk2 hki hun hno => by
        refine hfree k ok ek hk hk2 hki ?_ hno
        by_cases hjk : j = k
        · subst hjk; exact hjun
        · rw [getD_set_ne true hjk] at hun; exact hun
      refine ih (listed.setIfInBounds j true) _ (closed_set hcl hj) (YF_fr hfr hy3) hsp' hfree' hes (ready_mono hr (Ne.symm hji)) hy4 ?_
      rw [Array.setIfInBounds_comm _ _ hji, he]
      exact hK

def freeC (ops : Array Oper) (es : List Ent) (listed : Array Bool) (k : Nat) : Bool :=
  (List.range ops.size).all fun j => Nat.beq j k || (listed.getD j true || ((match es[k]?, es[j]? with
    | some x, some y => apartE x y
    | _, _ => false) || transC ops k ops.size j))

def lexC (ops : Array Oper) (es : List Ent) : Nat → Nat → Array Bool → Bool
  | 0, _, listed => (Region.ready .any ops listed).isEmpty
  | fuel + 1, k, listed => (Region.ready .any ops listed).contains k && (freeC ops es listed k && lexC ops es fuel (k + 1) (listed.setIfInBounds k true))

/-- The order of the text. -/
def wpTxt (P : Program) (gl : Nat → AV) (Q : FS → Prop) : List Ent → FS → Prop
  | [], s => Q s
  | en :: r, s => qE P gl en (wpTxt P gl Q r) s

theorem wpAnyA_lex {Q : FS → Prop} (hes : ∀ (j : Nat) oj, ops[j]? = some oj → ∃ ej, es[j]? = some ej) (hlen : es.length = ops.size) : ∀ (l : List Ent) (k : Nat) (listed : Array Bool) (s : FS), Closed ops listed → Fr s → (∀ j, l[j]? = es[k + j]?) →
    lexC ops es l.length k listed = true → wpTxt P gl Q l s → wpAnyA P gl ops es Q l.length listed s
  | [], _, _, _, _, _, _, hB, h => ⟨by simpa [lexC] using hB, h⟩
  | en :: l, k, listed, s, hcl, hfr, hl, hB, h => by
    have h0 : es[k]? = some en := by simpa using (hl 0).symm
    simp only [List.length_cons, lexC, Bool.and_eq_true] at hB
    obtain ⟨hr, hf, hB'⟩ := hB
    have hr : k ∈ Region.ready .any ops listed := by simpa using hr
    obtain ⟨v, o, n, hy, hK⟩ := h
    refine wpAnyA_first h0 ops.size [] l.length listed s hcl hfr (fun j hj => by cases hj) (fun j oj ej hj hej hjk hun hno => .inl ?_) hes hr hy
      (wpAnyA_lex hes hlen l (k + 1) _ _ (closed_set hcl hr) (YF_fr hfr hy) (fun j => by have := hl (j + 1); simpa [Nat.add_assoc, Nat.add_comm 1 j] using this) hB' hK)
    have hjl : j < ops.size := (Array.getElem?_eq_some_iff.1 hj).1
    have := (List.all_eq_true.1 hf) j (by simpa using hjl)
    simp only [Bool.or_eq_true, h0, hej] at this
    rcases this with h1 | h1 | h1 | h1
    · exact absurd (beq_eq h1) hjk
    · rw [hun] at h1; cases h1
    · exact h1
    · rw [hno] at h1; cases h1

/-! The same, where stores may come ahead of a load of another box. -/
def freeS (ops : Array Oper) (es : List Ent) (js : List Nat) (listed : Array Bool) (k : Nat) : Bool :=
  (List.range ops.size).all fun j => Nat.beq j k || (listed.getD j true || ((match es[k]?, es[j]? with
    | some x, some y => apartE x y || sepE js x y
    | _, _ => false) || transC ops k ops.size j))

def noDst (es : List Ent) (js : List Nat) : Bool := js.all fun j => es.all fun en => match en.dst with
  | some d => !Nat.beq d j
  | none => true

def lexS (ops : Array Oper) (es : List Ent) : List (List Nat) → Nat → Array Bool → Bool
  | [], _, listed => (Region.ready .any ops listed).isEmpty
  | js :: r, k, listed => (Region.ready .any ops listed).contains k && (noDst es js && (freeS ops es js listed k && lexS ops es r (k + 1) (listed.setIfInBounds k true)))

def wpTxtS (P : Program) (gl : Nat → AV) (Q : FS → Prop) : List (Ent × List Nat) → FS → Prop
  | [], s => Q s
  | (en, js) :: r, s => sepB s.E en.op js = true ∧ qE P gl en (wpTxtS P gl Q r) s

theorem noDst_spec {js : List Nat} (h : noDst es js = true) : ∀ j ∈ js, ∀ en ∈ es, en.dst ≠ some j := fun j hj en hen he => by
  have := List.all_eq_true.1 (List.all_eq_true.1 h j hj) en hen
  rw [he] at this
  simp at this

theorem wpAnyA_lexS {Q : FS → Prop} (hes : ∀ (j : Nat) oj, ops[j]? = some oj → ∃ ej, es[j]? = some ej) (hlen : es.length = ops.size) : ∀ (l : List (Ent × List Nat)) (k : Nat) (listed : Array Bool) (s : FS), Closed ops listed → Fr s → (∀ j, (l.map (·.1))[j]? = es[k + j]?) →
    lexS ops es (l.map (·.2)) k listed = true → wpTxtS P gl Q l s → wpAnyA P gl ops es Q l.length listed s
  | [], _, _, _, _, _, _, hB, h => ⟨by simpa [lexS] using hB, h⟩
  | (en, js) :: l, k, listed, s, hcl, hfr, hl, hB, h => by
    have h0 : es[k]? = some en := by simpa using (hl 0).symm
    simp only [List.map_cons, lexS, Bool.and_eq_true] at hB
    obtain ⟨hr, hnd, hf, hB'⟩ := hB
    have hr : k ∈ Region.ready .any ops listed := by simpa using hr
    obtain ⟨hsep, v, o, n, hy, hK⟩ := h
    refine wpAnyA_first h0 ops.size js l.length listed s hcl hfr (fun j hj => ?_) (fun j oj ej hj hej hjk hun hno => ?_) hes hr hy
      (wpAnyA_lexS hes hlen l (k + 1) _ _ (closed_set hcl hr) (YF_fr hfr hy) (fun j => by have := hl (j + 1); simpa [Nat.add_assoc, Nat.add_comm 1 j] using this) hB' hK)
    · exact ⟨noDst_spec hnd j hj, sepB_spec hsep j hj⟩
    · have hjl : j < ops.size := (Array.getElem?_eq_some_iff.1 hj).1
      have := (List.all_eq_true.1 hf) j (by simpa using hjl)
      simp only [Bool.or_eq_true, h0, hej] at this
      rcases this with h1 | h1 | (h1 | h1) | h1
      · exact absurd (beq_eq h1) hjk
      · rw [hun] at h1; cases h1
      · exact .inl h1
      · exact .inr h1
      · rw [hno] at h1; cases h1

/-- What an operation makes of the machine. -/
theorem compF_ok {b : Bool} {g : Gh} {w : World} {s : FS} {a : Act} (h : Good gl N g w s.E s.o s.n a) {oo : Oper} {p : IOp} (hc : compOp P oo.op = some p) {K : AV → Objs → Nat → Prop} (hw : wpF b P gl s p K)
    {next : Act → World → Prop} {Q : Exit → Act → World → Prop}
    (hn : ∀ v cv g' w' o' n', (R g' w' v).v cv → Good gl N g' w' s.E o' n' a → Stp g w s.o g' w' o' → K v o' n' → next (a.put oo.dst cv) w') : oo.wp P a w next Q := by
  unfold Oper.wp
  simp only [compOp] at hc
  split at hc
  · rename_i q hq
    injection hc with hc
    subst hc
    have hv : wpV (evF gl s.E) s.o q fun v => K v s.o s.n := by
      cases q <;> simp only [wpF] at hw <;> first | exact hw | (exfalso; cases hop : oo.op <;> rw [hop] at hq <;> simp only [compV] at hq <;> (repeat' (split at hq)) <;> cases hq)
    obtain ⟨v, cv, hr, h1, h2⟩ := compV_ok h hq hv
    rw [hr]
    exact hn v cv g w s.o s.n h1 h (Stp.refl g w s.o) h2
  · split at hc
    · rename_i q hq
      injection hc with hc
      subst hc
      have hl : wpL (evF gl s.E) s.o s.n q K := by
        cases q <;> simp only [wpF] at hw <;> first | exact hw | (exfalso; cases hop : oo.op <;> rw [hop] at hq <;> simp only [compL] at hq <;> (repeat' (split at hq)) <;> cases hq)
      obtain ⟨v, nx, w', g', o', n', hr, ⟨cv, hcv, h1⟩, h2, h3, h4⟩ := compL_ok h hq hl
      rw [hr]
      rcases hcv with rfl | ⟨rfl, rfl⟩
      · exact hn v cv g' w' o' n' h1 h2 h3 h4
      · exact hn v undef g' w' o' n' h1 h2 h3 h4
    · split at hc
      · rename_i q hq
        injection hc with hc
        subst hc
        cases q with
        | call f l =>
          obtain ⟨xs, rfl, hr⟩ := compC_run hq a w
          simp only [wpF] at hw
          cases b with
          | true =>
            rw [hr]
            refine (hw.s N g w _ a _ h (evFL_ok h xs)).mono ?_
            rintro x w' ⟨v, u, g', o', n', rfl, h1, h2, h3, h4⟩
            exact hn v u g' w' o' n' h1 h2 h3 h4
          | false =>
          rcases hw with ⟨args', r, hle, hp, hK⟩ | ⟨t, m, e, ty, args', r, m', ht, hle, hp, hK⟩
          · rw [hr]
            have hargs := RL.le hle (evFL_ok h xs)
            refine (good_call h hp hargs).mono ?_
            rintro x w' ⟨u, g', rfl, h1, h2, h3⟩
            exact hn r u g' w' s.o s.n h3 h1 h2 hK
          · rw [hr]
            have hargs := RL_leT h ht hle (evFL_ok h xs)
            refine (good_callT h ht hp hargs).mono ?_
            rintro x w' ⟨u, g', rfl, h1, h2, h3⟩
            exact hn _ u g' w' _ s.n h3 h1 h2 hK
        | xcall f l =>
          obtain ⟨xs, rfl, hr⟩ := compC_x hq a w
          simp only [wpF] at hw
          obtain ⟨r, hp, hK⟩ := hw
          obtain ⟨v, h1, h2⟩ := hp g w _ (evFL_ok h xs)
          rw [hr, h1]
          exact hn r v g w s.o s.n h2 h (Stp.refl g w s.o) hK
        | _ => exfalso; cases hop : oo.op <;> rw [hop] at hq <;> simp only [compC] at hq <;> (repeat' (split at hq)) <;> cases hq
      · injection hc with hc
        subst hc
        simp only [wpF, wpV] at hw

structure EntOf (P : Program) (N : Nat) (ops : List Oper) (oo : Oper) (en : Ent) : Prop where
  dst : en.dst = oo.dst
  lt : ∀ d, oo.dst = some d → d < N
  op : compOp P oo.op = some en.op
  gd : match oo.guard with
    | none => en.gd = none
    | some (j, b) => ∃ t, (ops[j]?).bind (·.dst) = some t ∧ en.gd = some (t, b)

theorem compE_spec {all : List Oper} : ∀ (l : List Oper) (es : List Ent), compE P N all l = some es → es.length = l.length ∧ ∀ (j : Nat) oo, l[j]? = some oo → ∃ en, es[j]? = some en ∧ EntOf P N all oo en
  | [], es, h => by simp only [compE] at h; injection h with h; subst h; exact ⟨rfl, fun j oo hj => by simp at hj⟩
  | oo :: r, es, h => by
    simp only [compE] at h
    split at h
    · rename_i p l hp hl
      obtain ⟨h1, h2⟩ := compE_spec r l hl
      have fin : ∀ en, es = en :: l → EntOf P N all oo en → es.length = (oo :: r).length ∧ ∀ (j : Nat) o2, (oo :: r)[j]? = some o2 → ∃ en, es[j]? = some en ∧ EntOf P N all o2 en := by
        rintro en rfl he
        refine ⟨by simp [h1], fun j o2 hj => ?_⟩
        cases j with
        | zero => simp at hj; subst hj; exact ⟨en, rfl, he⟩
        | succ j => simp at hj; obtain ⟨e2, a1, a2⟩ := h2 j o2 hj; exact ⟨e2, by simpa using a1, a2⟩
      split at h
      · rename_i d hd hg
        split at h
        · rename_i hlt
          injection h with h
          exact fin _ h.symm ⟨hd.symm ▸ rfl, fun d' hd' => by rw [hd] at hd'; injection hd' with hd'; subst hd'; exact Nat.le_of_ble_eq_true hlt, hp, by rw [hg]; rfl⟩
        · cases h
      · rename_i hd hg
        injection h with h
        exact fin _ h.symm ⟨hd.symm ▸ rfl, fun d' hd' => by (rw [hd] at hd'; cases hd'), hp, by rw [hg]; rfl⟩
      · rename_i d j b hd hg
        split at h
        · rename_i t ht
          split at h
          · rename_i hlt
            injection h with h
            exact fin _ h.symm ⟨hd.symm ▸ rfl, fun d' hd' => by rw [hd] at hd'; injection hd' with hd'; subst hd'; exact Nat.le_of_ble_eq_true hlt, hp, by rw [hg]; exact ⟨t, ht, rfl⟩⟩
          · cases h
        · cases h
      · rename_i j b hd hg
        split at h
        · rename_i t ht
          injection h with h
          exact fin _ h.symm ⟨hd.symm ▸ rfl, fun d' hd' => by (rw [hd] at hd'; cases hd'), hp, by rw [hg]; exact ⟨t, ht, rfl⟩⟩
        · cases h
    · cases h

theorem Good.putO {g : Gh} {w : World} {E : Nat → AV} {o : Objs} {n : Nat} {a : Act} (h : Good gl N g w E o n a) {d : Option Nat} (hd : ∀ x, d = some x → x < N) {v : AV} {u : Value} (hv : (R g w v).v u) : Good gl N g w (putD E d v) o n (a.put d u) := by
  cases d with
  | none => exact h
  | some x => exact h.put (hd x rfl) hv

theorem guard_ok {g : Gh} {w : World} {s : FS} {a : Act} (h : Good gl N g w s.E s.o s.n a) {oo : Oper} {en : Ent} (he : EntOf P N ops.toList oo en) {r : Bool} (hg : Gd s en.gd r) : Region.wanted oo (yielded ops a.tmps) = r := by
  have hgd := he.gd
  cases hq : oo.guard with
  | none =>
    rw [hq] at hgd
    simp only [] at hgd
    rw [hgd] at hg
    simp only [Gd] at hg
    simp only [Region.wanted, hq, hg]
  | some q =>
    obtain ⟨j, b⟩ := q
    rw [hq] at hgd
    obtain ⟨t, ht, hen⟩ := hgd
    rw [hen] at hg
    rw [Array.getElem?_toList] at ht
    rcases hg with ⟨c, hc, rfl⟩ | ⟨hc, rfl⟩
    · have := h.env t
      rw [hc] at this
      have hv := val_v this
      have hv' : a.tmps[t]? = some (.bool c) := by
        rw [Array.getD_eq_getD_getElem?] at hv
        cases hx : a.tmps[t]? with
        | none => rw [hx] at hv; simp [undef] at hv
        | some y => rw [hx] at hv; simp at hv; rw [hv]
      simp only [Region.wanted, hq, yielded]
      rw [ht]
      simp only [Option.bind_some, hv']
      cases c <;> cases b <;> rfl
    · have := h.env t
      rw [hc] at this
      obtain ⟨vs, hv, hn⟩ := this
      have hn : vs.toList = [] := hn
      have hn : vs = #[] := by simpa using hn
      subst hn
      simp only [Region.wanted, hq, yielded]
      rw [ht]
      rw [Array.getD_eq_getD_getElem?] at hv
      cases hx : a.tmps[t]? with
      | none => simp [hx]
      | some y => rw [hx] at hv; simp at hv; subst hv; simp [hx]

/-- One entry, on the machine. -/
theorem qE_ok {g : Gh} {w : World} {s : FS} {a : Act} (h : Good gl N g w s.E s.o s.n a) {i : Nat} {oo : Oper} {en : Ent} (hi : ops[i]? = some oo) (he : EntOf P N ops.toList oo en) {K : FS → Prop} (hq : qE P gl en K s)
    {next : Act → World → Prop} {Q : Exit → Act → World → Prop}
    (hn : ∀ s' g' w' a', Good gl N g' w' s'.E s'.o s'.n a' → Stp g w s.o g' w' s'.o → K s' → next a' w') : Go.wpOp P ops Q i next a w := by
  obtain ⟨v, o, n, hy, hK⟩ := hq
  unfold Go.wpOp
  rw [hi]
  simp only []
  rcases hy with ⟨h1, h2⟩ | ⟨h1, rfl, rfl, rfl⟩
  · rw [guard_ok h he h1]
    simp only [if_true]
    refine .inl (compF_ok h he.op h2 ?_)
    rintro v' cv g' w' o' n' hv hg hs ⟨rfl, rfl, rfl⟩
    refine hn _ g' w' _ ?_ hs hK
    rw [← he.dst]
    exact hg.putO (fun x hx => he.lt x (he.dst ▸ hx)) hv
  · rw [guard_ok h he h1]
    simp only [Bool.false_eq_true, if_false]
    refine hn (s.next en (.tup .nil) s.o s.n) g w _ ?_ (Stp.refl g w s.o) hK
    rw [← he.dst]
    exact h.putO (v := .tup .nil) (u := undef) (fun x hx => he.lt x (he.dst ▸ hx)) ⟨#[], rfl, rfl⟩

theorem wpAnyA_ok {Q : FS → Prop} {Q' : Exit → Act → World → Prop} {g0 : Gh} {w0 : World} {o0 : Objs} (hes : ∀ (j : Nat) oj, ops[j]? = some oj → ∃ ej, es[j]? = some ej ∧ EntOf P N ops.toList oj ej)
    (hQ : ∀ s g w a, Good gl N g w s.E s.o s.n a → Stp g0 w0 o0 g w s.o → Q s → Q' .normal a w) : ∀ (fuel : Nat) (listed : Array Bool) (s : FS) (g : Gh) (w : World) (a : Act),
    Good gl N g w s.E s.o s.n a → Stp g0 w0 o0 g w s.o → wpAnyA P gl ops es Q fuel listed s → wpAny P .any ops Q' fuel listed a w
  | 0, listed, s, g, w, a, h, hs, hq => ⟨hq.1, hQ s g w a h hs hq.2⟩
  | fuel + 1, listed, s, g, w, a, h, hs, hq => by
    refine ⟨fun h0 => hQ s g w a h hs (hq.1 h0), fun i hi => ?_⟩
    obtain ⟨_, oo, hoo, _⟩ := mem_ready.1 hi
    obtain ⟨en, hen, he⟩ := hes i oo hoo
    have h1 := hq.2 i hi
    unfold qI at h1
    rw [hen] at h1
    exact qE_ok h hoo he h1 (fun s' g' w' a' hg hst hK => wpAnyA_ok hes hQ fuel _ s' g' w' a' hg (hs.trans hst) hK)

theorem wpTxt_ok {Q : FS → Prop} {Q' : Exit → Act → World → Prop} {g0 : Gh} {w0 : World} {o0 : Objs} (hes : ∀ (j : Nat) oj, ops[j]? = some oj → ∃ ej, es[j]? = some ej ∧ EntOf P N ops.toList oj ej) (hlen : es.length = ops.size)
    (hQ : ∀ s g w a, Good gl N g w s.E s.o s.n a → Stp g0 w0 o0 g w s.o → Q s → Q' .normal a w) : ∀ (l : List Ent) (k : Nat) (s : FS) (g : Gh) (w : World) (a : Act), (∀ j, l[j]? = es[k + j]?) → k + l.length = ops.size →
    Good gl N g w s.E s.o s.n a → Stp g0 w0 o0 g w s.o → wpTxt P gl Q l s → wpOps P ops Q' (List.range' k l.length) a w
  | [], k, s, g, w, a, _, _, h, hs, hq => hQ s g w a h hs hq
  | en :: r, k, s, g, w, a, hl, hk, h, hs, hq => by
    have h0 : es[k]? = some en := by simpa using (hl 0).symm
    have hlt : k < ops.size := by simp at hk; omega
    obtain ⟨en', he1, he2⟩ := hes k ops[k] (Array.getElem?_eq_getElem hlt)
    rw [h0] at he1
    injection he1 with he1
    subst he1
    rw [List.length_cons, List.range'_succ, wpOps_cons]
    exact qE_ok h (Array.getElem?_eq_getElem hlt) he2 hq (fun s' g' w' a' hg hst hK => wpTxt_ok hes hlen hQ r (k + 1) s' g' w' a' (fun j => by have := hl (j + 1); simpa [Nat.add_assoc, Nat.add_comm 1 j] using this) (by simp at hk; omega) hg (hs.trans hst) hK)

end
end Ar
namespace Ar
open Go
set_option linter.unusedVariables false
set_option autoImplicit false

def drawOk (ops : Array Oper) (es : List Ent) : Bool := lexC ops es es.length 0 (Array.replicate ops.size false)

/-- The slots of stores that may come ahead of the load number k. -/
def sepsOf (ops : Array Oper) (es : List Ent) (k : Nat) : List Nat := (List.range ops.size).filterMap fun j => match es[k]?, es[j]? with
  | some x, some y => match Nat.beq j k || (apartE x y || transC ops k ops.size j), adr x.op, adrS y.op with
    | false, some _, some q => match Nat.ble (k + 1) j with
      | true => some q
      | false => none
    | _, _, _ => none
  | _, _ => none

def withS (ops : Array Oper) (es : List Ent) : List (Ent × List Nat) := (List.range es.length).map fun k => (es.getD k (.n .dead), sepsOf ops es k)

def drawOkS (ops : Array Oper) (es : List Ent) (l : List (Ent × List Nat)) : Bool := lexS ops es (l.map (·.2)) 0 (Array.replicate ops.size false)

def comp (P : Program) (N : Nat) : Code → Option IC
  | .skip => some .skip
  | .region _ ops draw => match compE P N ops.toList ops.toList with
    | some es => match draw with
      | false => some (.ops es)
      | true => match drawOk ops es with
        | true => some (.dops es)
        | false => match drawOkS ops es (withS ops es) with
          | true => some (.dopss (withS ops es))
          | false => none
    | none => none
  | .seq a b => match comp P N a, comp P N b with
    | some x, some y => some (.seq x y)
    | _, _ => none
  | .cond c a b => match comp P N a, comp P N b with
    | some x, some y => some (.cond (cx c) x y)
    | _, _ => none
  | .block id a => match comp P N a with
    | some x => some (.block id x)
    | none => none
  | .loop a => match comp P N a with
    | some x => some (.loop x)
    | none => none
  | .exit id => some (.exit id)
  | .ret => some .ret
  | .scope a => comp P N a
  | .label _ => some .skip
  | _ => none

def ExR : AExit → Exit → Prop
  | .normal, .normal => True
  | .ret, .ret => True
  | .exit i, .exit j => i = j
  | _, _ => False

def Up (gl : Nat → AV) (N : Nat) (g : Gh) (w : World) (o : Objs) (Q : AExit → Post) : Exit → Act → World → Prop := fun x a' w' =>
  ∃ x' g' e' o' n', ExR x' x ∧ Good gl N g' w' (EnvF e') o' n' a' ∧ Stp g w o g' w' o' ∧ Q x' e' o' n'

def SemC (P : Program) (gl : Nat → AV) (N : Nat) (c : Code) (Q : AExit → Post) (e : Env) (o : Objs) (n : Nat) : Prop :=
  ∀ g w a, Good gl N g w (EnvF e) o n a → c.wp P (Up gl N g w o Q) a w

/-! Weakening a state. -/
def LeSt (gl : Nat → AV) (N : Nat) (e : Env) (o : Objs) (n : Nat) (e' : Env) (o' : Objs) (n' : Nat) : Prop :=
  ∀ g w a, Good gl N g w (EnvF e) o n a → ∃ g', Good gl N g' w (EnvF e') o' n' a ∧ Stp g w o g' w o'

theorem LeSt.refl (gl : Nat → AV) (N : Nat) (e : Env) (o : Objs) (n : Nat) : LeSt gl N e o n e o n := fun g w a h => ⟨g, h, Stp.refl g w o⟩

/-- What a round of a loop comes to. -/
def RoundQ (gl : Nat → AV) (N : Nat) {α : Type} (st : α → Env × Objs × Nat) (ok : α → Prop) (μ : α → Nat) (y : α) (Q : AExit → Post) (ex : AExit) (e : Env) (o : Objs) (n : Nat) : Prop := match ex with
  | .normal => ∃ z, ok z ∧ μ z < μ y ∧ LeSt gl N e o n (st z).1 (st z).2.1 (st z).2.2
  | .ret => Q .ret e o n
  | .exit i => Q (.exit i) e o n

/-- A loop, by a relation over whatever data, and a measure. -/
structure LoopP (gl : Nat → AV) (N : Nat) (W : (AExit → Post) → Post) (Q : AExit → Post) (e : Env) (o : Objs) (n : Nat) : Prop where
  h : ∃ (α : Type) (st : α → Env × Objs × Nat) (ok : α → Prop) (μ : α → Nat) (y : α), ok y ∧ LeSt gl N e o n (st y).1 (st y).2.1 (st y).2.2 ∧
    ∀ y, ok y → W (RoundQ gl N st ok μ y Q) (st y).1 (st y).2.1 (st y).2.2

def wp (P : Program) (gl : Nat → AV) (N : Nat) : IC → (AExit → Post) → Post
  | .skip, Q, e, o, n => Q .normal e o n
  | .ops l, Q, e, o, n => wpE false P gl l (Q .normal) e o n
  | .dops l, Q, e, o, n => wpE false P gl l (Q .normal) e o n
  | .dopss l, Q, e, o, n => wpES P gl l (Q .normal) e o n
  | .seq a b, Q, e, o, n => wp P gl N a (fun x e o n => match x with
    | .normal => wp P gl N b Q e o n
    | .ret => Q .ret e o n
    | .exit i => Q (.exit i) e o n) e o n
  | .cond x a b, Q, e, o, n => match ev gl e x with
    | .val (.bool t) => br t (wp P gl N a Q e o n) (wp P gl N b Q e o n)
    | _ => False
  | .block id a, Q, e, o, n => wp P gl N a (fun x e o n => match x with
    | .normal => Q .normal e o n
    | .ret => Q .ret e o n
    | .exit i => match Nat.beq i id with
      | true => Q .normal e o n
      | false => Q (.exit i) e o n) e o n
  | .loop a, Q, e, o, n => LoopP gl N (wp P gl N a) Q e o n
  | .exit id, Q, e, o, n => Q (.exit id) e o n
  | .ret, Q, e, o, n => Q .ret e o n

section
variable {P : Program} {gl : Nat → AV} {N : Nat}

theorem wpOp_F {b : Bool} {e : Env} {o : Objs} {n : Nat} {p : IOp} {K : AV → Objs → Nat → Prop} (h : Ar.wpOp b P gl e o n p K) : wpF b P gl ⟨EnvF e, o, n⟩ p K := by
  have e1 : ev gl e = evF gl (EnvF e) := ev_eq gl e
  cases p <;> simp only [Ar.wpOp, e1, force_iff, forceO_iff, forceL_iff, evL_eq] at h <;> first
    | exact h
    | (cases b with
       | true => exact h
       | false => exact h.d rfl)

theorem wpE_cons {b : Bool} {en : Ent} {r : List Ent} {K : Post} {e : Env} {o : Objs} {n : Nat} (h : wpE b P gl (en :: r) K e o n) : wpE b P gl [en] (wpE b P gl r K) e o n := by
  cases en <;> exact h

/-- One entry of a region whose order is fixed, on the machine. -/
theorem ent_ok {ops : Array Oper} {g : Gh} {w : World} {e : Env} {o : Objs} {n : Nat} {a : Act} (h : Good gl N g w (EnvF e) o n a) {i : Nat} {oo : Oper} {en : Ent} (hi : ops[i]? = some oo) (he : EntOf P N ops.toList oo en) {K : Post} (hq : wpE true P gl [en] K e o n)
    {next : Act → World → Prop} {Q : Exit → Act → World → Prop}
    (hn : ∀ e' o' n' g' w' a', Good gl N g' w' (EnvF e') o' n' a' → Stp g w o g' w' o' → K e' o' n' → next a' w') : Go.wpOp P ops Q i next a w := by
  have hs : Good gl N g w (⟨EnvF e, o, n⟩ : FS).E (⟨EnvF e, o, n⟩ : FS).o (⟨EnvF e, o, n⟩ : FS).n a := h
  unfold Go.wpOp
  rw [hi]
  simp only []
  have hdst := he.dst
  have hlt := he.lt
  cases en with
  | o d op =>
    rw [guard_ok hs he (r := true) rfl]
    simp only [if_true]
    refine .inl (compF_ok hs he.op (wpOp_F hq) fun v cv g' w' o' n' hv hg hst hK => ?_)
    rw [← hdst]
    exact hn ((d, v) :: e) o' n' g' w' _ (hg.putE (hlt d hdst.symm) hv) hst hK
  | n op =>
    rw [guard_ok hs he (r := true) rfl]
    simp only [if_true]
    refine .inl (compF_ok hs he.op (wpOp_F hq) fun v cv g' w' o' n' hv hg hst hK => ?_)
    rw [← hdst]
    exact hn e o' n' g' w' _ hg hst hK
  | og d j b op =>
    rcases wpE_og hq with ⟨hgd, hq⟩ | ⟨hgd, hq⟩
    · rw [guard_ok hs he (r := true) hgd]
      simp only [if_true]
      refine .inl (compF_ok hs he.op (wpOp_F (show Ar.wpOp true P gl e o n op _ from hq)) fun v cv g' w' o' n' hv hg hst hK => ?_)
      rw [← hdst]
      exact hn ((d, v) :: e) o' n' g' w' _ (hg.putE (hlt d hdst.symm) hv) hst hK
    · rw [guard_ok hs he (r := false) hgd]
      simp only [Bool.false_eq_true, if_false]
      rw [← hdst]
      exact hn ((d, .tup .nil) :: e) o n g w _ (h.putE (hlt d hdst.symm) (v := .tup .nil) (u := undef) ⟨#[], rfl, rfl⟩) (Stp.refl g w o) hq
  | ng j b op =>
    rcases wpE_ng hq with ⟨hgd, hq⟩ | ⟨hgd, hq⟩
    · rw [guard_ok hs he (r := true) hgd]
      simp only [if_true]
      refine .inl (compF_ok hs he.op (wpOp_F (show Ar.wpOp true P gl e o n op _ from hq)) fun v cv g' w' o' n' hv hg hst hK => ?_)
      rw [← hdst]
      exact hn e o' n' g' w' _ hg hst hK
    · rw [guard_ok hs he (r := false) hgd]
      simp only [Bool.false_eq_true, if_false]
      rw [← hdst]
      exact hn e o n g w _ h (Stp.refl g w o) hq

theorem wpE_fix {ops : Array Oper} {es : List Ent} {K : Post} {Q' : Exit → Act → World → Prop} {g0 : Gh} {w0 : World} {o0 : Objs} (hes : ∀ (j : Nat) oj, ops[j]? = some oj → ∃ ej, es[j]? = some ej ∧ EntOf P N ops.toList oj ej)
    (hQ : ∀ e o n g w a, Good gl N g w (EnvF e) o n a → Stp g0 w0 o0 g w o → K e o n → Q' .normal a w) : ∀ (l : List Ent) (k : Nat) (e : Env) (o : Objs) (n : Nat) (g : Gh) (w : World) (a : Act), (∀ j, l[j]? = es[k + j]?) → k + l.length = ops.size →
    Good gl N g w (EnvF e) o n a → Stp g0 w0 o0 g w o → wpE true P gl l K e o n → wpOps P ops Q' (List.range' k l.length) a w
  | [], k, e, o, n, g, w, a, _, _, h, hs, hq => hQ e o n g w a h hs hq
  | en :: r, k, e, o, n, g, w, a, hl, hk, h, hs, hq => by
    have h0 : es[k]? = some en := by simpa using (hl 0).symm
    have hlt : k < ops.size := by simp at hk; omega
    obtain ⟨en', he1, he2⟩ := hes k ops[k] (Array.getElem?_eq_getElem hlt)
    rw [h0] at he1
    injection he1 with he1
    subst he1
    rw [List.length_cons, List.range'_succ, wpOps_cons]
    exact ent_ok h (Array.getElem?_eq_getElem hlt) he2 (wpE_cons hq) (fun e' o' n' g' w' a' hg hst hK => wpE_fix hes hQ r (k + 1) e' o' n' g' w' a' (fun j => by have := hl (j + 1); simpa [Nat.add_assoc, Nat.add_comm 1 j] using this) (by simp at hk; omega) hg (hs.trans hst) hK)

theorem wpE_txt {K : Post} : ∀ (l : List Ent) {e : Env} {o : Objs} {n : Nat}, wpE false P gl l K e o n → wpTxt P gl (fun s => ∃ e', s.E = EnvF e' ∧ K e' s.o s.n) l ⟨EnvF e, o, n⟩
  | [], e, o, n, h => ⟨e, rfl, h⟩
  | .o d op :: r, e, o, n, h => by
    obtain ⟨v, o', n', h1, h2⟩ := wpF_ex (wpOp_F h)
    refine ⟨v, o', n', .inl ⟨rfl, h1⟩, ?_⟩
    have := wpE_txt r h2
    rw [← putF_cons] at this
    exact this
  | .n op :: r, e, o, n, h => by
    obtain ⟨v, o', n', h1, h2⟩ := wpF_ex (wpOp_F h)
    exact ⟨v, o', n', .inl ⟨rfl, h1⟩, wpE_txt r h2⟩
  | .og d j b op :: r, e, o, n, h => by
    rcases wpE_og h with ⟨hgd, h⟩ | ⟨hgd, h⟩
    · obtain ⟨v, o', n', h1, h2⟩ := wpF_ex (wpOp_F (show Ar.wpOp false P gl e o n op _ from h))
      refine ⟨v, o', n', .inl ⟨hgd, h1⟩, ?_⟩
      have := wpE_txt r h2
      rw [← putF_cons] at this
      exact this
    · refine ⟨.tup .nil, o, n, .inr ⟨hgd, rfl, rfl, rfl⟩, ?_⟩
      have := wpE_txt r (show wpE false P gl r K _ o n from h)
      rw [← putF_cons] at this
      exact this
  | .ng j b op :: r, e, o, n, h => by
    rcases wpE_ng h with ⟨hgd, h⟩ | ⟨hgd, h⟩
    · obtain ⟨v, o', n', h1, h2⟩ := wpF_ex (wpOp_F (show Ar.wpOp false P gl e o n op _ from h))
      exact ⟨v, o', n', .inl ⟨hgd, h1⟩, wpE_txt r h2⟩
    · exact ⟨.tup .nil, o, n, .inr ⟨hgd, rfl, rfl, rfl⟩, wpE_txt r (show wpE false P gl r K _ o n from h)⟩

theorem qE_txt {en : Ent} {K : Post} {e : Env} {o : Objs} {n : Nat} (h : wpE false P gl [en] K e o n) : qE P gl en (fun s => ∃ e', s.E = EnvF e' ∧ K e' s.o s.n) ⟨EnvF e, o, n⟩ := wpE_txt [en] h

theorem wpES_txt {K : Post} : ∀ (l : List (Ent × List Nat)) {e : Env} {o : Objs} {n : Nat}, wpES P gl l K e o n → wpTxtS P gl (fun s => ∃ e', s.E = EnvF e' ∧ K e' s.o s.n) l ⟨EnvF e, o, n⟩
  | [], e, o, n, h => ⟨e, rfl, h⟩
  | (en, js) :: r, e, o, n, h => by
    simp only [wpES, chk_iff] at h
    refine ⟨?_, ?_⟩
    · have : en.iop = en.op := by cases en <;> rfl
      rw [← this]; exact h.1
    · refine qE_mono ?_ (qE_txt h.2)
      rintro ⟨E, o', n'⟩ ⟨e', he, hk⟩
      obtain rfl : E = EnvF e' := he
      exact wpES_txt r hk

theorem SemC.weak {c : Code} {Q : AExit → Post} {e e' : Env} {o o' : Objs} {n n' : Nat} (hl : LeSt gl N e o n e' o' n') (h : SemC P gl N c Q e' o' n') : SemC P gl N c Q e o n := by
  intro g w a hg
  obtain ⟨g', hg', hs⟩ := hl g w a hg
  refine wp_mono (h g' w a hg') ?_
  rintro ex a2 w2 ⟨x2, g2, e2, o2, n2, hr2, hg2, hs2, hq2⟩
  exact ⟨x2, g2, e2, o2, n2, hr2, hg2, hs.trans hs2, hq2⟩

theorem least {p : Nat → Prop} (h : ∃ k, p k) : ∃ k, p k ∧ ∀ j, p j → k ≤ j := by
  obtain ⟨k, hk⟩ := h
  induction k using Nat.strongRecOn with
  | _ k ih =>
    by_cases hj : ∃ j, j < k ∧ p j
    · obtain ⟨j, h1, h2⟩ := hj; exact ih j h1 h2
    · exact ⟨k, hk, fun j h => Nat.le_of_not_lt fun h' => hj ⟨j, h', h⟩⟩

theorem loop_sound {c : Code} {x : IC} (ih : ∀ (Q : AExit → Post) (e : Env) (o : Objs) (n : Nat), wp P gl N x Q e o n → SemC P gl N c Q e o n) {Q : AExit → Post} {e : Env} {o : Objs} {n : Nat} (h : LoopP gl N (wp P gl N x) Q e o n) : SemC P gl N (.loop c) Q e o n := by
  obtain ⟨α, st, ok, μ, y, h0, hle, round⟩ := h.h
  refine SemC.weak hle ?_
  intro g w a hg
  let J : Nat → Act → World → Prop := fun k a' w' => ∃ z g', ok z ∧ μ z = k ∧ Good gl N g' w' (EnvF (st z).1) (st z).2.1 (st z).2.2 a' ∧ Stp g w (st y).2.1 g' w' (st z).2.1
  let m : Act → World → Nat := fun a' w' => @dite _ (∃ k, J k a' w') (Classical.propDecidable _) (fun h => (least h).choose) (fun _ => 0)
  refine wp_loop (fun a' w' => ∃ k, J k a' w') m ⟨_, y, g, h0, rfl, hg, Stp.refl g w _⟩ ?_
  intro a1 w1 hI
  have hmin : m a1 w1 = (least hI).choose := by
    show (@dite _ (∃ k, J k a1 w1) (Classical.propDecidable _) _ _) = _
    rw [dif_pos hI]
  obtain ⟨z, g1, hz, hk, hg1, hs1⟩ := (least hI).choose_spec.1
  refine wp_mono (ih _ _ _ _ (round z hz) g1 w1 a1 hg1) ?_
  rintro ex a2 w2 ⟨x2, g2, e2, o2, n2, hr2, hg2, hs2, hq2⟩
  cases x2 with
  | normal =>
    cases ex <;> simp only [ExR] at hr2
    obtain ⟨z2, hz2, hlt, hl2⟩ := hq2
    obtain ⟨g3, hg3, hs3⟩ := hl2 g2 w2 a2 hg2
    have hJ : J (μ z2) a2 w2 := ⟨z2, g3, hz2, rfl, hg3, (hs1.trans hs2).trans hs3⟩
    refine ⟨⟨_, hJ⟩, ?_⟩
    have hm2 : m a2 w2 ≤ μ z2 := by
      show (@dite _ (∃ k, J k a2 w2) (Classical.propDecidable _) _ _) ≤ _
      rw [dif_pos ⟨_, hJ⟩]
      exact (least ⟨_, hJ⟩).choose_spec.2 _ hJ
    rw [hmin, ← hk]
    omega
  | ret => cases ex <;> simp only [ExR] at hr2; exact ⟨.ret, g2, e2, o2, n2, trivial, hg2, hs1.trans hs2, hq2⟩
  | exit i => cases ex <;> simp only [ExR] at hr2; exact ⟨.exit i, g2, e2, o2, n2, hr2, hg2, hs1.trans hs2, hq2⟩

theorem wp_sound (hm : P.follows .mixedOrders = true) : ∀ (c : Code) (x : IC), comp P N c = some x → ∀ (Q : AExit → Post) (e : Env) (o : Objs) (n : Nat), wp P gl N x Q e o n → SemC P gl N c Q e o n := by
  intro c
  induction c with
  | skip => intro x hx Q e o n h g w a hg; simp only [comp] at hx; injection hx with hx; subst hx; exact wp_skip ⟨.normal, g, e, o, n, trivial, hg, Stp.refl g w o, h⟩
  | region id ops draw =>
    intro x hx Q e o n h g w a hg
    simp only [comp] at hx
    split at hx
    · rename_i es hes
      obtain ⟨hl, hspec⟩ := compE_spec ops.toList es hes
      have hlen : es.length = ops.size := by rw [hl]; simp
      have hes' : ∀ (j : Nat) oj, ops[j]? = some oj → ∃ ej, es[j]? = some ej ∧ EntOf P N ops.toList oj ej := fun j oj hj => hspec j oj (by rw [Array.getElem?_toList]; exact hj)
      have hfin : ∀ (g1 : Gh) (w1 : World), Stp g w o g1 w1 o → ∀ (s : FS) g' w' a', Good gl N g' w' s.E s.o s.n a' → Stp g1 w1 o g' w' s.o → (∃ e', s.E = EnvF e' ∧ Q .normal e' s.o s.n) → Up gl N g w o Q .normal a' w' := by
        rintro g1 w1 h0 ⟨E, o', n'⟩ g' w' a' hg' hs' ⟨e', rfl, hq⟩
        exact ⟨.normal, g', e', o', n', trivial, hg', h0.trans hs', hq⟩
      split at hx
      · injection hx with hx
        subst hx
        refine wp_region ?_
        have := wpTxt_ok (P := P) (gl := gl) (N := N) (Q' := Up gl N g w o Q) hes' hlen (hfin g w (Stp.refl g w o)) es 0 ⟨EnvF e, o, n⟩ g w a (fun j => by simp) (by simpa using hlen) hg (Stp.refl g w o) (wpE_txt es h)
        rw [hlen] at this
        rwa [List.range_eq_range']
      · split at hx
        · rename_i hd
          injection hx with hx
          subst hx
          refine wp_region_any hm ?_
          have hd1 : Drawn w { w with drawn := w.drawn + 1 } := ⟨rfl, rfl, rfl⟩
          have hA := wpAnyA_lex (P := P) (gl := gl) (fun j oj hj => let ⟨ej, h1, _⟩ := hes' j oj hj; ⟨ej, h1⟩) hlen es 0 (Array.replicate ops.size false) ⟨EnvF e, o, n⟩ (fun j oj hj hl => by
            simp only [Array.getD_eq_getD_getElem?, Array.getElem?_replicate] at hl
            split at hl <;> simp at hl) (fun k hk hL => by
            show lookO k o = none
            cases hl : lookO k o with
            | none => rfl
            | some x => have := hg.blt k x hl; have hk : n ≤ k := hk; omega) (fun j => by simp) hd (wpE_txt es h)
          have := wpAnyA_ok (P := P) (gl := gl) (N := N) (Q' := Up gl N g w o Q) hes' (hfin g _ (hd1.stp g o)) es.length _ _ g _ a (hg.drawn hd1) (Stp.refl g _ o) hA
          rwa [hlen] at this
        · split at hx
          · rename_i hd
            injection hx with hx
            subst hx
            refine wp_region_any hm ?_
            have hd1 : Drawn w { w with drawn := w.drawn + 1 } := ⟨rfl, rfl, rfl⟩
            have hwl : (withS ops es).length = es.length := by simp [withS]
            have hm1 : (withS ops es).map (·.1) = es := by
              apply List.ext_getElem (by simp [withS])
              intro i h1 h2
              simp [withS, List.getD_eq_getElem?_getD, h2]
            have hA := wpAnyA_lexS (P := P) (gl := gl) (fun j oj hj => let ⟨ej, h1, _⟩ := hes' j oj hj; ⟨ej, h1⟩) hlen (withS ops es) 0 (Array.replicate ops.size false) ⟨EnvF e, o, n⟩ (fun j oj hj hl => by
              simp only [Array.getD_eq_getD_getElem?, Array.getElem?_replicate] at hl
              split at hl <;> simp at hl) (fun k hk hL => by
              show lookO k o = none
              cases hl : lookO k o with
              | none => rfl
              | some x => have := hg.blt k x hl; have hk : n ≤ k := hk; omega) (fun j => by rw [hm1]; simp) hd (wpES_txt (withS ops es) h)
            have := wpAnyA_ok (P := P) (gl := gl) (N := N) (Q' := Up gl N g w o Q) hes' (hfin g _ (hd1.stp g o)) (withS ops es).length _ _ g _ a (hg.drawn hd1) (Stp.refl g _ o) hA
            rwa [hwl, hlen] at this
          · cases hx
    · cases hx
  | seq a b iha ihb =>
    intro x hx Q e o n h g w ac hg
    simp only [comp] at hx
    split at hx
    · rename_i x1 y1 h1 h2
      injection hx with hx
      subst hx
      refine wp_seq (wp_mono (iha x1 h1 _ e o n h g w ac hg) ?_)
      rintro ex a' w' ⟨x', g', e', o', n', hr, hg', hs', hq⟩
      cases x' with
      | normal =>
        cases ex <;> simp only [ExR] at hr
        refine wp_mono (ihb y1 h2 Q e' o' n' hq g' w' a' hg') ?_
        rintro ex a2 w2 ⟨x2, g2, e2, o2, n2, hr2, hg2, hs2, hq2⟩
        exact ⟨x2, g2, e2, o2, n2, hr2, hg2, hs'.trans hs2, hq2⟩
      | ret => cases ex <;> simp only [ExR] at hr; exact ⟨.ret, g', e', o', n', trivial, hg', hs', hq⟩
      | exit i => cases ex <;> simp only [ExR] at hr; exact ⟨.exit i, g', e', o', n', hr, hg', hs', hq⟩
    · cases hx
  | cond c a b iha ihb =>
    intro x hx Q e o n h g w ac hg
    simp only [comp] at hx
    split at hx
    · rename_i x1 y1 h1 h2
      injection hx with hx
      subst hx
      simp only [wp] at h
      split at h
      · rename_i t ht
        have hv := ev_ok hg c
        rw [show evF gl (EnvF e) (cx c) = ev gl e (cx c) from by rw [ev_eq]; rfl, ht] at hv
        have hv := val_v hv
        cases t with
        | true => exact wp_cond_true hv (iha x1 h1 Q e o n h g w ac hg)
        | false => exact wp_cond_false hv (ihb y1 h2 Q e o n h g w ac hg)
      · exact h.elim
    · cases hx
  | block id a iha =>
    intro x hx Q e o n h g w ac hg
    simp only [comp] at hx
    split at hx
    · rename_i x1 h1
      injection hx with hx
      subst hx
      refine wp_block (wp_mono (iha x1 h1 _ e o n h g w ac hg) ?_)
      rintro ex a' w' ⟨x', g', e', o', n', hr, hg', hs', hq⟩
      cases x' with
      | normal => cases ex <;> simp only [ExR] at hr; exact ⟨.normal, g', e', o', n', trivial, hg', hs', hq⟩
      | ret => cases ex <;> simp only [ExR] at hr; exact ⟨.ret, g', e', o', n', trivial, hg', hs', hq⟩
      | exit i =>
        cases ex <;> simp only [ExR] at hr
        subst hr
        simp only [Exit.inBlock]
        simp only [] at hq
        split at hq
        · rename_i hb
          rw [if_pos (beq_eq hb)]
          exact ⟨.normal, g', e', o', n', trivial, hg', hs', hq⟩
        · rename_i hb
          rw [if_neg (fun he => by rw [he, beq_self] at hb; cases hb)]
          exact ⟨.exit i, g', e', o', n', rfl, hg', hs', hq⟩
    · cases hx
  | loop a iha =>
    intro x hx Q e o n h
    simp only [comp] at hx
    split at hx
    · rename_i x1 h1
      injection hx with hx
      subst hx
      exact loop_sound (fun Q e o n hw => iha x1 h1 Q e o n hw) h
    · cases hx
  | exit id => intro x hx Q e o n h g w a hg; simp only [comp] at hx; injection hx with hx; subst hx; exact wp_exit ⟨.exit id, g, e, o, n, rfl, hg, Stp.refl g w o, h⟩
  | ret => intro x hx Q e o n h g w a hg; simp only [comp] at hx; injection hx with hx; subst hx; exact wp_ret ⟨.ret, g, e, o, n, trivial, hg, Stp.refl g w o, h⟩
  | scope a iha =>
    intro x hx Q e o n h g w ac hg
    refine wp_scope_straight (wp_mono (iha x hx Q e o n h g w ac hg) ?_)
    rintro ex a' w' ⟨x', g', e', o', n', hr, hg', hs', hq⟩
    cases x' with
    | normal => cases ex <;> simp only [ExR] at hr; exact ⟨.normal, g', e', o', n', trivial, hg', hs', hq⟩
    | ret => cases ex <;> simp only [ExR] at hr; exact ⟨.ret, g', e', o', n', trivial, hg', hs', hq⟩
    | exit i => cases ex <;> simp only [ExR] at hr; exact ⟨.exit i, g', e', o', n', hr, hg', hs', hq⟩
  | label l => intro x hx Q e o n h g w a hg; simp only [comp] at hx; injection hx with hx; subst hx; exact wp_label ⟨.normal, g, e, o, n, trivial, hg, Stp.refl g w o, h⟩
  | _ => intro x hx; simp only [comp] at hx; cases hx

/-! One outcome, out of what holds of all. -/
theorem wpOp_iff {e : Env} {o : Objs} {n : Nat} {p : IOp} {K : AV → Objs → Nat → Prop} : Ar.wpOp false P gl e o n p K ↔ wpF false P gl ⟨EnvF e, o, n⟩ p K := by
  refine ⟨wpOp_F, fun h => ?_⟩
  have e1 : ev gl e = evF gl (EnvF e) := ev_eq gl e
  cases p <;> simp only [Ar.wpOp, e1, force_iff, forceO_iff, forceL_iff, evL_eq] <;> first
    | exact h
    | (rcases h with ⟨args', r, h1, h2, h3⟩ | ⟨t, m, e, ty, args', r, m', ht, h1, h2, h3⟩
       · exact call_pure h2 h1 h3
       · exact call_t h2 ht rfl rfl h1 h3)

theorem wpOp_ex {e : Env} {o : Objs} {n : Nat} {p : IOp} {K : AV → Objs → Nat → Prop} (h : Ar.wpOp false P gl e o n p K) :
    ∃ v o' n', K v o' n' ∧ ∀ K' : AV → Objs → Nat → Prop, K' v o' n' → Ar.wpOp false P gl e o n p K' := by
  obtain ⟨v, o', n', h1, h2⟩ := wpF_ex (wpOp_iff.1 h)
  exact ⟨v, o', n', h2, fun K' hk => wpOp_iff.2 (wpF_mono h1 hk)⟩

theorem stepE_ex {en : Ent} {K : Post} {e : Env} {o : Objs} {n : Nat} (h : stepE false P gl en K e o n) : ∃ e' o' n', K e' o' n' ∧ ∀ K' : Post, K' e' o' n' → stepE false P gl en K' e o n := by
  cases en with
  | o d op =>
    obtain ⟨v, o', n', h1, h2⟩ := wpOp_ex h
    exact ⟨_, o', n', h1, fun K' hk => h2 _ hk⟩
  | n op =>
    obtain ⟨v, o', n', h1, h2⟩ := wpOp_ex h
    exact ⟨_, o', n', h1, fun K' hk => h2 _ hk⟩
  | og d j q op =>
    simp only [stepE] at h ⊢
    split at h
    · rename_i t ht
      cases q <;> cases t
      · obtain ⟨v, o', n', h1, h2⟩ := wpOp_ex h; exact ⟨_, o', n', h1, fun K' hk => h2 _ hk⟩
      · exact ⟨_, _, _, h, fun K' hk => hk⟩
      · exact ⟨_, _, _, h, fun K' hk => hk⟩
      · obtain ⟨v, o', n', h1, h2⟩ := wpOp_ex h; exact ⟨_, o', n', h1, fun K' hk => h2 _ hk⟩
    · exact ⟨_, _, _, h, fun K' hk => hk⟩
    · exact h.elim
  | ng j q op =>
    simp only [stepE] at h ⊢
    split at h
    · rename_i t ht
      cases q <;> cases t
      · obtain ⟨v, o', n', h1, h2⟩ := wpOp_ex h; exact ⟨_, o', n', h1, fun K' hk => h2 _ hk⟩
      · exact ⟨_, _, _, h, fun K' hk => hk⟩
      · exact ⟨_, _, _, h, fun K' hk => hk⟩
      · obtain ⟨v, o', n', h1, h2⟩ := wpOp_ex h; exact ⟨_, o', n', h1, fun K' hk => h2 _ hk⟩
    · exact ⟨_, _, _, h, fun K' hk => hk⟩
    · exact h.elim

theorem wpE_ex {K : Post} : ∀ (l : List Ent) {e : Env} {o : Objs} {n : Nat}, wpE false P gl l K e o n → ∃ e' o' n', K e' o' n' ∧ ∀ K' : Post, K' e' o' n' → wpE false P gl l K' e o n
  | [], e, o, n, h => ⟨e, o, n, h, fun _ hk => hk⟩
  | en :: r, e, o, n, h => by
    obtain ⟨e1, o1, n1, h1, h2⟩ := stepE_ex (show stepE false P gl en (wpE false P gl r K) e o n from h)
    obtain ⟨e2, o2, n2, h3, h4⟩ := wpE_ex r h1
    exact ⟨e2, o2, n2, h3, fun K' hk => h2 _ (h4 K' hk)⟩

theorem wpES_ex {K : Post} : ∀ (l : List (Ent × List Nat)) {e : Env} {o : Objs} {n : Nat}, wpES P gl l K e o n → ∃ e' o' n', K e' o' n' ∧ ∀ K' : Post, K' e' o' n' → wpES P gl l K' e o n
  | [], e, o, n, h => ⟨e, o, n, h, fun _ hk => hk⟩
  | (en, js) :: r, e, o, n, h => by
    simp only [wpES, chk_iff] at h
    obtain ⟨e1, o1, n1, h1, h2⟩ := stepE_ex h.2
    obtain ⟨e2, o2, n2, h3, h4⟩ := wpES_ex r h1
    exact ⟨e2, o2, n2, h3, fun K' hk => by simp only [wpES, chk_iff]; exact ⟨h.1, h2 _ (h4 K' hk)⟩⟩

/-- From this state of a loop the walk comes out so. -/
inductive Chain (gl : Nat → AV) (N : Nat) (W : (AExit → Post) → Post) {α : Type} (st : α → Env × Objs × Nat) (μ : α → Nat) (ex : AExit) (e : Env) (o : Objs) (n : Nat) : α → Prop
  | stop (y : α) (hne : ex ≠ .normal) (h : ∀ Q' : AExit → Post, Q' ex e o n → W Q' (st y).1 (st y).2.1 (st y).2.2) : Chain gl N W st μ ex e o n y
  | go (y z : α) (e1 : Env) (o1 : Objs) (n1 : Nat) (h : ∀ Q' : AExit → Post, Q' .normal e1 o1 n1 → W Q' (st y).1 (st y).2.1 (st y).2.2) (hlt : μ z < μ y) (hle : LeSt gl N e1 o1 n1 (st z).1 (st z).2.1 (st z).2.2)
      (hz : Chain gl N W st μ ex e o n z) : Chain gl N W st μ ex e o n y

theorem wp_ex : ∀ (x : IC) {Q : AExit → Post} {e : Env} {o : Objs} {n : Nat}, wp P gl N x Q e o n → ∃ ex e' o' n', Q ex e' o' n' ∧ ∀ Q' : AExit → Post, Q' ex e' o' n' → wp P gl N x Q' e o n := by
  intro x
  induction x with
  | skip => intro Q e o n h; exact ⟨.normal, e, o, n, h, fun _ hk => hk⟩
  | ops l => intro Q e o n h; obtain ⟨e', o', n', h1, h2⟩ := wpE_ex l h; exact ⟨.normal, e', o', n', h1, fun Q' hk => h2 _ hk⟩
  | dops l => intro Q e o n h; obtain ⟨e', o', n', h1, h2⟩ := wpE_ex l h; exact ⟨.normal, e', o', n', h1, fun Q' hk => h2 _ hk⟩
  | dopss l => intro Q e o n h; obtain ⟨e', o', n', h1, h2⟩ := wpES_ex l h; exact ⟨.normal, e', o', n', h1, fun Q' hk => h2 _ hk⟩
  | seq a b iha ihb =>
    intro Q e o n h
    obtain ⟨ex, e1, o1, n1, h1, h2⟩ := iha h
    cases ex with
    | normal =>
      obtain ⟨ex, e2, o2, n2, h3, h4⟩ := ihb h1
      exact ⟨ex, e2, o2, n2, h3, fun Q' hk => h2 _ (h4 Q' hk)⟩
    | ret => exact ⟨.ret, e1, o1, n1, h1, fun Q' hk => h2 _ hk⟩
    | exit i => exact ⟨.exit i, e1, o1, n1, h1, fun Q' hk => h2 _ hk⟩
  | cond c a b iha ihb =>
    intro Q e o n h
    simp only [wp] at h
    split at h
    · rename_i t ht
      cases t with
      | true =>
        obtain ⟨ex, e1, o1, n1, h1, h2⟩ := iha h
        exact ⟨ex, e1, o1, n1, h1, fun Q' hk => by simp only [wp, ht]; exact h2 Q' hk⟩
      | false =>
        obtain ⟨ex, e1, o1, n1, h1, h2⟩ := ihb h
        exact ⟨ex, e1, o1, n1, h1, fun Q' hk => by simp only [wp, ht]; exact h2 Q' hk⟩
    · exact h.elim
  | block id a iha =>
    intro Q e o n h
    obtain ⟨ex, e1, o1, n1, h1, h2⟩ := iha h
    cases ex with
    | normal => exact ⟨.normal, e1, o1, n1, h1, fun Q' hk => h2 _ hk⟩
    | ret => exact ⟨.ret, e1, o1, n1, h1, fun Q' hk => h2 _ hk⟩
    | exit i =>
      simp only [] at h1
      split at h1
      · rename_i hb
        exact ⟨.normal, e1, o1, n1, h1, fun Q' hk => h2 _ (by simp only [hb]; exact hk)⟩
      · rename_i hb
        exact ⟨.exit i, e1, o1, n1, h1, fun Q' hk => h2 _ (by simp only [hb]; exact hk)⟩
  | loop a iha =>
    intro Q e o n h
    obtain ⟨α, st, ok, μ, y, h0, hle, round⟩ := (show LoopP gl N (wp P gl N a) Q e o n from h).h
    have key : ∀ (k : Nat) (y : α), μ y = k → ok y → ∃ ex e' o' n', Q ex e' o' n' ∧ Chain gl N (wp P gl N a) st μ ex e' o' n' y := by
      intro k
      induction k using Nat.strongRecOn with
      | _ k ih =>
        intro y hk hy
        obtain ⟨ex, e1, o1, n1, h1, h2⟩ := iha (round y hy)
        cases ex with
        | normal =>
          obtain ⟨z, hz, hlt, hl⟩ := h1
          obtain ⟨ex, e2, o2, n2, h3, h4⟩ := ih (μ z) (hk ▸ hlt) z rfl hz
          exact ⟨ex, e2, o2, n2, h3, .go y z e1 o1 n1 h2 hlt hl h4⟩
        | ret => exact ⟨.ret, e1, o1, n1, h1, .stop y (by simp) h2⟩
        | exit i => exact ⟨.exit i, e1, o1, n1, h1, .stop y (by simp) h2⟩
    obtain ⟨ex, e', o', n', h1, h2⟩ := key _ y rfl h0
    refine ⟨ex, e', o', n', h1, fun Q' hk => ⟨α, st, Chain gl N (wp P gl N a) st μ ex e' o' n', μ, y, h2, hle, fun y hy => ?_⟩⟩
    cases hy with
    | stop _ hne hs => exact hs _ (by cases ex <;> first | exact absurd rfl hne | exact hk)
    | go _ z e1 o1 n1 hs hlt hl hz => exact hs _ ⟨z, hz, hlt, hl⟩
  | exit id => intro Q e o n h; exact ⟨.exit id, e, o, n, h, fun _ hk => hk⟩
  | ret => intro Q e o n h; exact ⟨.ret, e, o, n, h, fun _ hk => hk⟩

end
end Ar
