/- What an operation of a region reads, and that two that do not touch may change places. No condition. -/
import Derived.Test.YtoglphkkhhjodaaDoorA4
set_option linter.all false
namespace Ar
open Go
set_option linter.unusedVariables false
set_option autoImplicit false

def rdX : X → List Nat
  | .t i => [i]
  | _ => []

def rdL : List X → List Nat
  | [] => []
  | x :: r => rdX x ++ rdL r

def rdP : List (Nat × Nat × Nat × X) → List Nat
  | [] => []
  | (_, _, _, x) :: r => rdX x ++ rdP r

def rd : IOp → List Nat
  | .mv x => rdX x
  | .pick c a b => rdX c ++ (rdX a ++ rdX b)
  | .alloc _ => []
  | .box x => rdX x
  | .ld _ _ x => rdX x
  | .sto _ x v => rdX x ++ rdX v
  | .fa _ _ x => rdX x
  | .fld _ _ _ _ x => rdX x
  | .ixa _ _ x i => rdX x ++ rdX i
  | .ixs _ x i => rdX x ++ rdX i
  | .ix _ _ _ x i => rdX x ++ rdX i
  | .ixb x i => rdX x ++ rdX i
  | .bin _ x y => rdX x ++ rdX y
  | .sop _ x y => rdX x ++ rdX y
  | .eqv _ x y => rdX x ++ rdX y
  | .un _ x => rdX x
  | .conv _ x => rdX x
  | .b2s x => rdX x
  | .len x => rdX x
  | .lens x => rdX x
  | .ext _ x => rdX x
  | .build _ l => rdP l
  | .nck x => rdX x
  | .eqs _ _ x y => rdX x ++ rdX y
  | .slc _ x lo hi => rdX x ++ (rdX lo ++ rdX hi)
  | .sls x lo hi => rdX x ++ (rdX lo ++ rdX hi)
  | .mm _ x y => rdX x ++ rdX y
  | .mm3 _ x y z => rdX x ++ (rdX y ++ rdX z)
  | .mm4 _ x y z u => rdX x ++ (rdX y ++ (rdX z ++ rdX u))
  | .dead => []
  | .xcall _ l => rdL l
  | .bsl _ _ _ l => rdP l
  | .app _ _ _ x y => rdX x ++ rdX y
  | .appz _ _ _ _ x c => rdX x ++ rdX c
  | .call _ l => rdL l
  | .callx _ l => rdL l
  | .mkf _ a b => rdL a ++ rdL b
  | .calv x l => rdX x ++ rdL l
  | .dfr x => rdX x
  | .mks _ _ _ _ l c => rdX l ++ rdX c
  | .s2b _ x => rdX x
  | .cvb x => rdX x
  | .aps _ x y => rdX x ++ rdX y
  | .sla _ _ _ x lo hi => rdX x ++ (rdX lo ++ rdX hi)
  | .mkm _ => []
  | .mupd _ m key v => rdX m ++ (rdX key ++ rdX v)
  | .mget _ _ _ m key => rdX m ++ rdX key
  | .alcN _ _ => []
  | .stoN _ _ x v => rdX x ++ rdX v

def isN : IOp → Bool
  | .ld _ _ _ | .ixs _ _ _ | .b2s _ | .sla _ _ _ _ _ _ | .alloc _ | .box _ | .sto _ _ _ | .bsl _ _ _ _ | .app _ _ _ _ _ | .appz _ _ _ _ _ _ | .call _ _ | .callx _ _ | .calv _ _ | .mks _ _ _ _ _ _ | .s2b _ _ | .cvb _ | .aps _ _ _ | .alcN _ _ | .stoN _ _ _ _ | .mkm _ | .mupd _ _ _ _ | .mget _ _ _ _ _ => false
  | _ => true

def isR : IOp → Bool
  | .ld _ _ _ | .ixs _ _ _ | .b2s _ => true
  | _ => false

def isC : IOp → Bool
  | .call _ _ => true
  | .calv _ _ => true
  | _ => false

/-- What makes new memory alone. -/
def isA : IOp → Bool
  | .alloc _ | .box _ | .bsl _ _ _ _ => true
  | _ => false

/-- No name from here on is in use. -/
def Fr (s : FS) : Prop := ∀ k, s.n ≤ k → k < LENT → lookO k s.o = none

theorem evF_congr {gl E E' : Nat → AV} {x : X} (h : ∀ t, t ∈ rdX x → E t = E' t) : evF gl E x = evF gl E' x := by
  cases x <;> simp only [evF]
  exact h _ (by simp [rdX])

theorem evFL_congr {gl E E' : Nat → AV} : ∀ {l : List X}, (∀ t, t ∈ rdL l → E t = E' t) → evFL gl E l = evFL gl E' l
  | [], _ => rfl
  | x :: r, h => by simp only [evFL, evF_congr (gl := gl) (x := x) (fun t ht => h t (by simp [rdL, ht])), evFL_congr (l := r) (fun t ht => h t (by simp [rdL, ht]))]

theorem mkParts_congr {gl E E' : Nat → AV} : ∀ {l : List (Nat × Nat × Nat × X)} {z : AV}, (∀ t, t ∈ rdP l → E t = E' t) → mkParts (evF gl E) l z = mkParts (evF gl E') l z ∧ okParts (evF gl E) l z = okParts (evF gl E') l z
  | [], _, _ => ⟨rfl, rfl⟩
  | (k, off, sz, x) :: r, z, h => by
    have e1 := evF_congr (gl := gl) (x := x) (fun t ht => h t (by simp [rdP, ht]))
    simp only [mkParts, okParts, e1]
    obtain ⟨a, b⟩ := mkParts_congr (gl := gl) (l := r) (z := setPart k (evF gl E' x) z) (fun t ht => h t (by simp [rdP, ht]))
    exact ⟨a, by rw [b]⟩

theorem loV_congr {gl E E' : Nat → AV} {x : X} {K : Nat → Prop} (h : ∀ t, t ∈ rdX x → E t = E' t) : loV (evF gl E) x K = loV (evF gl E') x K := by
  have e1 := evF_congr (gl := gl) h
  cases x <;> simp only [loV, e1]

theorem hiV_congr {gl E E' : Nat → AV} {x : X} {n : Nat} {K : Nat → Prop} (h : ∀ t, t ∈ rdX x → E t = E' t) : hiV (evF gl E) x n K = hiV (evF gl E') x n K := by
  have e1 := evF_congr (gl := gl) h
  cases x <;> simp only [hiV, e1]

theorem consX_congr {gl E E' : Nat → AV} : ∀ {l : List X}, (∀ t, t ∈ rdL l → E t = E' t) → consX (evF gl E) l = consX (evF gl E') l
  | [], _ => rfl
  | x :: r, h => by
    simp only [consX, evF_congr (gl := gl) (x := x) (fun t ht => h t (by simp [rdL, ht])), consX_congr (l := r) (fun t ht => h t (by simp [rdL, ht]))]

theorem calv_call {P : Program} {gl : Nat → AV} {E : Nat → AV} {o : Objs} {n : Nat} {x : X} {l : List X} {K : AV → Objs → Nat → Prop} (h : wpF false P gl ⟨E, o, n⟩ (.calv x l) K) :
    ∃ f args, (∀ (o' : Objs) (n' : Nat) (K' : AV → Objs → Nat → Prop), (CallO P gl f args o' fun r o2 => K' r o2 n') → wpF false P gl ⟨E, o', n'⟩ (.calv x l) K') ∧ CallO P gl f args o fun r o' => K r o' n := by
  simp only [wpF] at h
  split at h
  · rename_i f a c he
    refine ⟨f, _, fun o' n' K' hk => ?_, h.2⟩
    simp only [wpF, he]
    exact ⟨h.1, hk⟩
  · exact h.elim

theorem wpF_congr {P : Program} {gl E E' : Nat → AV} {o : Objs} {n : Nat} {p : IOp} (h : ∀ t, t ∈ rd p → E t = E' t) (K : AV → Objs → Nat → Prop) : wpF false P gl ⟨E, o, n⟩ p K = wpF false P gl ⟨E', o, n⟩ p K := by
  cases p <;> simp only [wpF, wpV, wpL]
  case mv x => rw [evF_congr (x := x) (fun t ht => h t (by simp [rd, ht]))]
  case pick c a b => rw [evF_congr (x := c) (fun t ht => h t (by simp [rd, ht])), evF_congr (x := a) (fun t ht => h t (by simp [rd, ht])), evF_congr (x := b) (fun t ht => h t (by simp [rd, ht]))]
  case build z l => rw [(mkParts_congr (l := l) (z := z) (fun t ht => h t (by simp [rd, ht]))).1, (mkParts_congr (l := l) (z := z) (fun t ht => h t (by simp [rd, ht]))).2]
  case bsl e ty z l => rw [(mkParts_congr (l := l) (fun t ht => h t (by simp [rd, ht]))).1, (mkParts_congr (l := l) (fun t ht => h t (by simp [rd, ht]))).2]
  case call f l => rw [evFL_congr (l := l) (fun t ht => h t (by simp [rd, ht]))]
  case callx f l => rw [evFL_congr (l := l) (fun t ht => h t (by simp [rd, ht]))]
  case xcall f l => rw [evFL_congr (l := l) (fun t ht => h t (by simp [rd, ht]))]
  case slc e x lo hi =>
    rw [evF_congr (x := x) (fun t ht => h t (by simp [rd, ht]))]
    simp only [loV_congr (x := lo) (fun t ht => h t (by simp [rd, ht])), hiV_congr (x := hi) (fun t ht => h t (by simp [rd, ht]))]
  case sla len e ty x lo hi =>
    rw [evF_congr (x := x) (fun t ht => h t (by simp [rd, ht]))]
    simp only [loV_congr (x := lo) (fun t ht => h t (by simp [rd, ht])), hiV_congr (x := hi) (fun t ht => h t (by simp [rd, ht]))]
  case aps ty x y => rw [evF_congr (x := x) (fun t ht => h t (by simp [rd, ht])), evF_congr (x := y) (fun t ht => h t (by simp [rd, ht]))]
  case sls x lo hi =>
    rw [evF_congr (x := x) (fun t ht => h t (by simp [rd, ht]))]
    simp only [loV_congr (x := lo) (fun t ht => h t (by simp [rd, ht])), hiV_congr (x := hi) (fun t ht => h t (by simp [rd, ht]))]
  case mm3 mx x y z => rw [evF_congr (x := x) (fun t ht => h t (by simp [rd, ht])), evF_congr (x := y) (fun t ht => h t (by simp [rd, ht])), evF_congr (x := z) (fun t ht => h t (by simp [rd, ht]))]
  case mm4 mx x y z u => rw [evF_congr (x := x) (fun t ht => h t (by simp [rd, ht])), evF_congr (x := y) (fun t ht => h t (by simp [rd, ht])), evF_congr (x := z) (fun t ht => h t (by simp [rd, ht])), evF_congr (x := u) (fun t ht => h t (by simp [rd, ht]))]
  case sto sz x v => rw [evF_congr (x := x) (fun t ht => h t (by simp [rd, ht])), evF_congr (x := v) (fun t ht => h t (by simp [rd, ht]))]
  case mkf fn a b => rw [consX_congr (l := a) (fun t ht => h t (by simp [rd, ht])), consX_congr (l := b) (fun t ht => h t (by simp [rd, ht]))]
  case calv x l => rw [evF_congr (x := x) (fun t ht => h t (by simp [rd, ht])), evFL_congr (l := l) (fun t ht => h t (by simp [rd, ht]))]
  case mks e b ty z l c => rw [evF_congr (x := l) (fun t ht => h t (by simp [rd, ht])), evF_congr (x := c) (fun t ht => h t (by simp [rd, ht]))]
  case stoN j sz x v => rw [evF_congr (x := x) (fun t ht => h t (by simp [rd, ht])), evF_congr (x := v) (fun t ht => h t (by simp [rd, ht]))]
  case mupd k m key v => rw [evF_congr (x := m) (fun t ht => h t (by simp [rd, ht])), evF_congr (x := key) (fun t ht => h t (by simp [rd, ht])), evF_congr (x := v) (fun t ht => h t (by simp [rd, ht]))]
  case appz e b ty z x v => rw [evF_congr (x := x) (fun t ht => h t (by simp [rd, ht])), evF_congr (x := v) (fun t ht => h t (by simp [rd, ht]))]
  case app e b ty x v => rw [evF_congr (x := x) (fun t ht => h t (by simp [rd, ht])), evF_congr (x := v) (fun t ht => h t (by simp [rd, ht]))]
  all_goals first
    | (rename_i x i; rw [evF_congr (x := x) (fun t ht => h t (by simp [rd, ht])), evF_congr (x := i) (fun t ht => h t (by simp [rd, ht]))])
    | (rename_i x; rw [evF_congr (x := x) (fun t ht => h t (by simp [rd, ht]))])
    | rfl

theorem wpF_N {P : Program} {gl E : Nat → AV} {o o' : Objs} {n n' : Nat} {p : IOp} (h : isN p = true) (K : AV → Prop) : wpF false P gl ⟨E, o, n⟩ p (fun v _ _ => K v) = wpF false P gl ⟨E, o', n'⟩ p (fun v _ _ => K v) := by
  cases p <;> simp [isN] at h <;> rfl

theorem wpF_ex {P : Program} {gl : Nat → AV} {s : FS} {p : IOp} {K : AV → Objs → Nat → Prop} (h : wpF false P gl s p K) : ∃ v o' n', wpF false P gl s p (fun x y z => x = v ∧ y = o' ∧ z = n') ∧ K v o' n' := by
  cases p <;> simp only [wpF] at h ⊢
  case call f l =>
    rcases h with ⟨args', r, h1, h2, h3⟩ | ⟨t, m, e, ty, args', r, m', h1, h2, h3, h4⟩
    · exact ⟨r, _, _, .inl ⟨args', r, h1, h2, rfl, rfl, rfl⟩, h3⟩
    · exact ⟨_, _, _, .inr ⟨t, m, e, ty, args', r, m', h1, h2, h3, rfl, rfl, rfl⟩, h4⟩
  case callx f l =>
    obtain ⟨v, o', n', h1, h2⟩ := h.x
    exact ⟨v, o', n', ⟨⟨v, o', n', ⟨rfl, rfl, rfl⟩, h2⟩, fun hb => by cases hb⟩, h1⟩
  case xcall f l =>
    obtain ⟨r, h1, h2⟩ := h
    exact ⟨r, _, _, ⟨r, h1, rfl, rfl, rfl⟩, h2⟩
  case calv x l =>
    split at h
    · obtain ⟨h0, h⟩ := h
      rcases h with ⟨args', r, h1, h2, h3⟩ | ⟨t, m, e, ty, args', r, m', h1, h2, h3, h4⟩
      · exact ⟨r, _, _, ⟨h0, .inl ⟨args', r, h1, h2, rfl, rfl, rfl⟩⟩, h3⟩
      · exact ⟨_, _, _, ⟨h0, .inr ⟨t, m, e, ty, args', r, m', h1, h2, h3, rfl, rfl, rfl⟩⟩, h4⟩
    · exact h.elim
  case dfr x =>
    split at h
    · exact ⟨_, _, _, ⟨h.1, rfl, rfl, rfl⟩, h.2⟩
    · exact h.elim
  all_goals first
    | (obtain ⟨v, o', n', h1, h2⟩ := wpL_ex h; exact ⟨v, o', n', h1, h2⟩)
    | (obtain ⟨v, h1, h2⟩ := wpV_ex h; exact ⟨v, _, _, wpV_mono h1 ⟨rfl, rfl, rfl⟩, h2⟩)

theorem wpF_mono {P : Program} {gl : Nat → AV} {s : FS} {p : IOp} {v : AV} {o' : Objs} {n' : Nat} {K : AV → Objs → Nat → Prop} (h : wpF false P gl s p (fun x y z => x = v ∧ y = o' ∧ z = n')) (hK : K v o' n') : wpF false P gl s p K := by
  cases p <;> simp only [wpF] at h ⊢
  case call f l =>
    rcases h with ⟨args', r, h1, h2, rfl, rfl, rfl⟩ | ⟨t, m, e, ty, args', r, m', h1, h2, h3, rfl, rfl, rfl⟩
    · exact .inl ⟨args', r, h1, h2, hK⟩
    · exact .inr ⟨t, m, e, ty, args', r, m', h1, h2, h3, hK⟩
  case callx f l =>
    obtain ⟨v, o', n', ⟨rfl, rfl, rfl⟩, h2⟩ := h.x
    exact ⟨⟨v, o', n', hK, h2⟩, fun hb => by cases hb⟩
  case xcall f l =>
    obtain ⟨r, h1, rfl, rfl, rfl⟩ := h
    exact ⟨r, h1, hK⟩
  case calv x l =>
    split at h
    · obtain ⟨h0, h⟩ := h
      rcases h with ⟨args', r, h1, h2, rfl, rfl, rfl⟩ | ⟨t, m, e, ty, args', r, m', h1, h2, h3, rfl, rfl, rfl⟩
      · exact ⟨h0, .inl ⟨args', r, h1, h2, hK⟩⟩
      · exact ⟨h0, .inr ⟨t, m, e, ty, args', r, m', h1, h2, h3, hK⟩⟩
    · exact h.elim
  case dfr x =>
    split at h
    · obtain ⟨h0, rfl, rfl, rfl⟩ := h; exact ⟨h0, hK⟩
    · exact h.elim
  all_goals first
    | exact wpL_mono h hK
    | (obtain ⟨x, h1, rfl, rfl, rfl⟩ := wpV_ex h; exact wpV_mono h1 hK)

/-- A value operation leaves memory. -/
theorem wpF_same {P : Program} {gl : Nat → AV} {s : FS} {p : IOp} (hp : isN p = true ∨ isR p = true) {v : AV} {o' : Objs} {n' : Nat} (h : wpF false P gl s p (fun x y z => x = v ∧ y = o' ∧ z = n')) : o' = s.o ∧ n' = s.n := by
  cases p <;> simp [isN, isR] at hp <;> simp only [wpF] at h
  case xcall f l => obtain ⟨_, _, _, rfl, rfl⟩ := h; exact ⟨rfl, rfl⟩
  case dfr x =>
    split at h
    · obtain ⟨_, _, rfl, rfl⟩ := h; exact ⟨rfl, rfl⟩
    · exact h.elim
  all_goals (obtain ⟨x, h1, rfl, rfl, rfl⟩ := wpV_ex h; exact ⟨rfl, rfl⟩)

theorem wpF_A {P : Program} {gl : Nat → AV} {s : FS} {p : IOp} (hp : isA p = true) {v : AV} {o' : Objs} {n' : Nat} (h : wpF false P gl s p (fun x y z => x = v ∧ y = o' ∧ z = n')) : s.n < LENT ∧ ∃ x, o' = (s.n, x) :: s.o ∧ n' = s.n + 1 := by
  cases p <;> simp [isA] at hp <;> simp only [wpF, wpL, chk_iff] at h
  · obtain ⟨h1, _, rfl, rfl⟩ := h; exact ⟨Nat.le_of_ble_eq_true h1, _, rfl, rfl⟩
  · obtain ⟨h1, _, _, rfl, rfl⟩ := h; exact ⟨Nat.le_of_ble_eq_true h1, _, rfl, rfl⟩
  · obtain ⟨h1, _, h⟩ := h
    split at h <;> (obtain ⟨_, rfl, rfl⟩ := h; exact ⟨Nat.le_of_ble_eq_true h1, _, rfl, rfl⟩)

theorem wpF_R {P : Program} {gl : Nat → AV} {E : Nat → AV} {o o' : Objs} {n n' : Nat} {p : IOp} (hp : isR p = true) (hl : ∀ b a, lookO b o = some a → lookO b o' = some a) {v : AV}
    (h : wpF false P gl ⟨E, o, n⟩ p (fun x y z => x = v ∧ y = o ∧ z = n)) : wpF false P gl ⟨E, o', n'⟩ p (fun x y z => x = v ∧ y = o' ∧ z = n') := by
  cases p <;> simp [isR] at hp <;> simp only [wpF, wpV] at h ⊢
  · split at h
    · split at h
      · rename_i _ _ _ _ _ hb
        rw [hl _ _ hb]
        simp only [chk_iff] at h ⊢
        exact ⟨h.1, h.2.1, h.2.2.1, trivial, trivial⟩
      · exact h.elim
    · simp only [chk_iff] at h ⊢
      exact ⟨h.1, h.2.1, h.2.2.1, trivial, trivial⟩
    · exact h.elim
  · split at h
    · simp only [chk_iff] at h ⊢
      exact ⟨h.1, h.2.1, h.2.2.1, trivial, trivial⟩
    · split at h
      · rename_i _ _ _ _ _ hb
        rw [hl _ _ hb]
        simp only [chk_iff] at h ⊢
        exact ⟨h.1, h.2.1, h.2.2.1, h.2.2.2.1, h.2.2.2.2.1, trivial, trivial⟩
      · exact h.elim
    · exact h.elim
  · split at h
    · simp only [chk_iff] at h ⊢
      exact ⟨h.1, h.2.1, h.2.2.1, trivial, trivial⟩
    · split at h
      · rename_i _ _ _ _ _ hb
        rw [hl _ _ hb]
        simp only [chk_iff] at h ⊢
        exact ⟨h.1, h.2.1, h.2.2.1, h.2.2.2.1, h.2.2.2.2.1, trivial, trivial⟩
      · exact h.elim
    · exact ⟨h.1, trivial, trivial⟩
    · exact h.elim

/-- What a call does to the boxes: nothing. -/
theorem wpF_C {P : Program} {gl : Nat → AV} {E : Nat → AV} {o : Objs} {n : Nat} {p : IOp} (hp : isC p = true) {v : AV} {o' : Objs} {n' : Nat} (h : wpF false P gl ⟨E, o, n⟩ p (fun x y z => x = v ∧ y = o' ∧ z = n')) :
    n' = n ∧ (o' = o ∨ ∃ t m m' e ty, lookO t o = some (.room m e ty) ∧ o' = setO t (.room m' e ty) o) := by
  have key : ∀ {f : FuncId} {args : List AV}, (CallO P gl f args o fun r o2 => r = v ∧ o2 = o' ∧ n = n') → n' = n ∧ (o' = o ∨ ∃ t m m' e ty, lookO t o = some (.room m e ty) ∧ o' = setO t (.room m' e ty) o) := by
    intro f args h
    rcases h with ⟨args', r, h1, h2, rfl, rfl, rfl⟩ | ⟨t, m, e, ty, args', r, m', h1, h2, h3, rfl, rfl, rfl⟩
    · exact ⟨rfl, .inl rfl⟩
    · exact ⟨rfl, .inr ⟨t, m, m', e, ty, h1, rfl⟩⟩
  cases p <;> simp [isC] at hp
  · simp only [wpF] at h
    exact key h
  · obtain ⟨f, args, _, h⟩ := calv_call h
    exact key h

theorem wpF_Cn {P : Program} {gl : Nat → AV} {E : Nat → AV} {o : Objs} {n k : Nat} {p : IOp} (hp : isC p = true) {v : AV} {o' : Objs} (h : wpF false P gl ⟨E, o, n⟩ p (fun x y z => x = v ∧ y = o' ∧ z = n)) : wpF false P gl ⟨E, o, k⟩ p (fun x y z => x = v ∧ y = o' ∧ z = k) := by
  have key : ∀ {f : FuncId} {args : List AV}, (CallO P gl f args o fun r o2 => r = v ∧ o2 = o' ∧ n = n) → CallO P gl f args o fun r o2 => r = v ∧ o2 = o' ∧ k = k := by
    intro f args h
    rcases h with ⟨args', r, h1, h2, rfl, rfl, _⟩ | ⟨t, m, e, ty, args', r, m', h1, h2, h3, rfl, rfl, _⟩
    · exact .inl ⟨args', r, h1, h2, rfl, rfl, rfl⟩
    · exact .inr ⟨t, m, e, ty, args', r, m', h1, h2, h3, rfl, rfl, rfl⟩
  cases p <;> simp [isC] at hp
  · exact key h
  · obtain ⟨f, args, hb, h⟩ := calv_call h
    exact hb _ _ _ (key h)

/-- A call with one more object in front. -/
theorem wpF_Cc {P : Program} {gl : Nat → AV} {E : Nat → AV} {o : Objs} {n q : Nat} {z : AObj} {p : IOp} (hp : isC p = true) (hq : lookO q o = none) {v : AV} {o' : Objs} (h : wpF false P gl ⟨E, o, n⟩ p (fun x y z => x = v ∧ y = o' ∧ z = n)) :
    wpF false P gl ⟨E, (q, z) :: o, n⟩ p (fun x y k => x = v ∧ y = (q, z) :: o' ∧ k = n) := by
  have key : ∀ {f : FuncId} {args : List AV}, (CallO P gl f args o fun r o2 => r = v ∧ o2 = o' ∧ n = n) → CallO P gl f args ((q, z) :: o) fun r o2 => r = v ∧ o2 = (q, z) :: o' ∧ n = n := by
    intro f args h
    rcases h with ⟨args', r, h1, h2, rfl, rfl, _⟩ | ⟨t, m, e, ty, args', r, m', h1, h2, h3, rfl, rfl, _⟩
    · exact .inl ⟨args', r, h1, h2, rfl, rfl, rfl⟩
    · have hne : ¬ q = t := fun e1 => by subst e1; rw [hq] at h1; cases h1
      refine .inr ⟨t, m, e, ty, args', r, m', by rw [lookO_cons, if_neg hne]; exact h1, h2, h3, rfl, ?_, rfl⟩
      simp only [setO, beq_of_ne hne]
  cases p <;> simp [isC] at hp
  · exact key h
  · obtain ⟨f, args, hb, h⟩ := calv_call h
    exact hb _ _ _ (key h)

theorem box_set {o : Objs} {t m m' e : Nat} {ty : TypeId} (ht : lookO t o = some (.room m e ty)) (b : Nat) (a : AV) : lookO b (setO t (.room m' e ty) o) = some (.box a) ↔ lookO b o = some (.box a) := by
  rw [lookO_setO]
  by_cases h : b = t
  · subst h; rw [if_pos rfl, ht]; simp
  · rw [if_neg h]

theorem wpF_Ab {P : Program} {gl : Nat → AV} {E : Nat → AV} {o o' : Objs} {n : Nat} {p : IOp} (hp : isA p = true) {v : AV} {z : AObj} (h : wpF false P gl ⟨E, o, n⟩ p (fun x y k => x = v ∧ y = (n, z) :: o ∧ k = n + 1)) :
    wpF false P gl ⟨E, o', n⟩ p (fun x y k => x = v ∧ y = (n, z) :: o' ∧ k = n + 1) := by
  cases p <;> simp [isA] at hp <;> simp only [wpF, wpL, chk_iff] at h ⊢
  · obtain ⟨h1, h2, h3, _⟩ := h
    injection h3 with h3 _
    exact ⟨h1, h2, by rw [h3], trivial⟩
  · obtain ⟨h1, h0, h2, h3, _⟩ := h
    injection h3 with h3 _
    exact ⟨h1, h0, h2, by rw [h3], trivial⟩
  · obtain ⟨h1, h0, h⟩ := h
    refine ⟨h1, h0, ?_⟩
    split at h <;> rename_i hb
    · obtain ⟨h2, h3, _⟩ := h
      injection h3 with h3 _
      (try rw [hb])
      exact ⟨h2, by rw [h3], trivial⟩
    · obtain ⟨h2, h3, _⟩ := h
      injection h3 with h3 _
      (try rw [hb])
      exact ⟨h2, by rw [h3], trivial⟩

/-- A load looks at boxes alone. -/
theorem wpF_Rb {P : Program} {gl : Nat → AV} {E : Nat → AV} {o o' : Objs} {n n' : Nat} {p : IOp} (hp : isR p = true) (hl : ∀ b a, lookO b o = some (.box a) → lookO b o' = some (.box a)) {v : AV}
    (h : wpF false P gl ⟨E, o, n⟩ p (fun x y z => x = v ∧ y = o ∧ z = n)) : wpF false P gl ⟨E, o', n'⟩ p (fun x y z => x = v ∧ y = o' ∧ z = n') := by
  cases p <;> simp [isR] at hp <;> simp only [wpF, wpV] at h ⊢
  · split at h
    · split at h
      · rename_i _ _ _ _ _ hb
        rw [hl _ _ hb]
        simp only [chk_iff] at h ⊢
        exact ⟨h.1, h.2.1, h.2.2.1, trivial, trivial⟩
      · exact h.elim
    · simp only [chk_iff] at h ⊢
      exact ⟨h.1, h.2.1, h.2.2.1, trivial, trivial⟩
    · exact h.elim
  · split at h
    · simp only [chk_iff] at h ⊢
      exact ⟨h.1, h.2.1, h.2.2.1, trivial, trivial⟩
    · split at h
      · rename_i _ _ _ _ _ hb
        rw [hl _ _ hb]
        simp only [chk_iff] at h ⊢
        exact ⟨h.1, h.2.1, h.2.2.1, h.2.2.2.1, h.2.2.2.2.1, trivial, trivial⟩
      · exact h.elim
    · exact h.elim
  · split at h
    · simp only [chk_iff] at h ⊢
      exact ⟨h.1, h.2.1, h.2.2.1, trivial, trivial⟩
    · split at h
      · rename_i _ _ _ _ _ hb
        rw [hl _ _ hb]
        simp only [chk_iff] at h ⊢
        exact ⟨h.1, h.2.1, h.2.2.1, h.2.2.2.1, h.2.2.2.2.1, trivial, trivial⟩
      · exact h.elim
    · exact ⟨h.1, trivial, trivial⟩
    · exact h.elim

theorem fr_cons {E E' : Nat → AV} {o : Objs} {n : Nat} {x : AObj} (h : Fr ⟨E, o, n⟩) : Fr ⟨E', (n, x) :: o, n + 1⟩ := fun k hk hL => by
  have hk : n + 1 ≤ k := hk
  show lookO k ((n, x) :: o) = none
  rw [lookO_cons, if_neg (by omega)]
  exact h k (by show n ≤ k; omega) hL

theorem wpF_fr {P : Program} {gl : Nat → AV} {s : FS} {p : IOp} (hf : Fr s) {v : AV} {o' : Objs} {n' : Nat} {E' : Nat → AV} (h : wpF false P gl s p (fun x y z => x = v ∧ y = o' ∧ z = n')) : Fr ⟨E', o', n'⟩ := by
  have hset : ∀ (t : Nat) (x : AObj), Fr ⟨E', setO t x s.o, s.n⟩ := fun t x k hk hL => by
    have h1 := hf k hk hL
    show lookO k (setO t x s.o) = none
    rw [lookO_setO]
    by_cases e : k = t
    · subst e; rw [if_pos rfl, h1]; rfl
    · rw [if_neg e, h1]
  have hdrop : ∀ (t : Nat) (x : AObj), Fr ⟨E', (s.n, x) :: dropO t s.o, s.n + 1⟩ := fun t x k hk hL => by
    have hk : s.n + 1 ≤ k := hk
    show lookO k ((s.n, x) :: dropO t s.o) = none
    rw [lookO_cons, if_neg (by omega), lookO_dropO]
    by_cases e : k = t
    · rw [if_pos e]
    · rw [if_neg e]; exact hf k (by omega) hL
  have hsame : Fr ⟨E', s.o, s.n⟩ := hf
  by_cases hN : isN p = true ∨ isR p = true
  · obtain ⟨rfl, rfl⟩ := wpF_same hN h
    exact hf
  · by_cases hA : isA p = true
    · obtain ⟨_, x, rfl, rfl⟩ := wpF_A hA h
      exact fr_cons (E := s.E) hf
    · by_cases hC : isC p = true
      · obtain ⟨rfl, rfl | ⟨t, m, m', e, ty, _, rfl⟩⟩ := wpF_C (E := s.E) (o := s.o) (n := s.n) hC h
        · exact hsame
        · exact hset _ _
      cases p <;> simp [isN, isR, isA, isC] at hN hA hC <;> simp only [wpF, wpL] at h
      · split at h
        · split at h
          · simp only [chk_iff] at h
            obtain ⟨_, _, _, _, _, rfl, rfl⟩ := h
            exact hset _ _
          · exact h.elim
        · exact h.elim
      · obtain ⟨x, _, rfl, rfl, rfl⟩ := wpV_ex h
        exact hsame
      · split at h
        · simp only [chk_iff] at h
          obtain ⟨_, _, _, _, rfl, rfl⟩ := h
          exact fr_cons (E := s.E) hf
        · obtain ⟨_, rfl, rfl⟩ := h; exact hsame
        · obtain ⟨_, rfl, rfl⟩ := h; exact hsame
        · obtain ⟨_, rfl, rfl⟩ := h; exact hsame
        · split at h
          · simp only [chk_iff] at h
            obtain ⟨_, _, _, _, _, _, _, _, _, _, rfl, rfl⟩ := h
            exact hdrop _ _
          · exact h.elim
        · split at h
          · simp only [chk_iff] at h
            obtain ⟨_, _, _, _, _, _, _, _, _, _, _, _, rfl, rfl⟩ := h
            exact hdrop _ _
          · exact h.elim
        · split at h
          · simp only [chk_iff] at h
            obtain ⟨_, _, _, _, _, _, _, rfl, rfl⟩ := h
            exact hset _ _
          · exact h.elim
        · split at h
          · simp only [chk_iff] at h
            obtain ⟨_, _, _, _, _, _, _, _, _, rfl, rfl⟩ := h
            exact hset _ _
          · exact h.elim
        · exact h.elim
      · split at h
        · split at h
          · simp only [chk_iff] at h
            obtain ⟨_, _, _, _, _, _, _, _, _, _, rfl, rfl⟩ := h
            exact hdrop _ _
          · exact h.elim
        · exact h.elim
      · obtain ⟨v1, o1, n1, ⟨rfl, rfl, rfl⟩, hx⟩ := h.x
        exact fun q h1 h2 => hx.1 (fun r h3 h4 => hf r h3 h4) q h1 h2
      · split at h
        · simp only [chk_iff] at h
          obtain ⟨_, _, _, rfl, rfl⟩ := h
          exact fr_cons (E := s.E) hf
        · exact h.elim
      · split at h
        · simp only [chk_iff] at h
          obtain ⟨_, _, _, rfl, rfl⟩ := h
          exact fr_cons (E := s.E) hf
        · exact h.elim
      · split at h
        · split at h
          · obtain ⟨_, _, rfl, rfl⟩ := h; exact hsame
          · exact h.elim
        · exact h.elim
      · split at h
        · split at h
          · simp only [chk_iff] at h
            obtain ⟨_, _, _, _, _, _, _, _, _, rfl, rfl⟩ := h
            exact hdrop _ _
          · exact h.elim
        · exact h.elim
      · split at h
        · simp only [chk_iff] at h
          obtain ⟨_, _, _, rfl, rfl⟩ := h
          exact hset _ _
        · exact h.elim
      · split at h
        · simp only [chk_iff] at h
          obtain ⟨_, h⟩ := h
          split at h
          · obtain ⟨_, _, _, _, _, rfl, rfl⟩ := h
            exact hset _ _
          · exact h.elim
        · exact h.elim
      · simp only [chk_iff] at h
        obtain ⟨_, _, rfl, rfl⟩ := h
        exact fr_cons (E := s.E) hf
      · split at h
        · split at h
          · split at h
            · simp only [chk_iff] at h
              obtain ⟨_, _, _, rfl, rfl⟩ := h
              exact hset _ _
            · exact h.elim
          · exact h.elim
        · exact h.elim
      · split at h
        · split at h
          · split at h
            · simp only [chk_iff] at h
              obtain ⟨_, _, h⟩ := h
              split at h <;> (obtain ⟨_, rfl, rfl⟩ := h; exact hsame)
            · exact h.elim
          · exact h.elim
        · exact h.elim

theorem YF_fr {P : Program} {gl : Nat → AV} {en : Ent} {s : FS} (hf : Fr s) {v : AV} {o' : Objs} {n' : Nat} (h : YF P gl en s v o' n') : Fr (s.next en v o' n') := by
  rcases h with ⟨_, h⟩ | ⟨_, _, rfl, rfl⟩
  · exact wpF_fr hf h
  · exact hf

/-! Two entries that do not touch. -/
def Ent.rds (en : Ent) : List Nat := rd en.op ++ (match en.gd with | some (t, _) => [t] | none => [])

def apartV (x y : Ent) : Bool :=
  (match x.dst with
   | some d => !(y.rds).contains d && (match y.dst with | some d' => !Nat.beq d d' | none => true)
   | none => true) &&
  (match y.dst with
   | some d => !(x.rds).contains d
   | none => true)

def apartE (x y : Ent) : Bool := apartV x y &&
  (isN x.op || (isN y.op || ((isR x.op && isR y.op) || ((isR x.op && isA y.op) || ((isC x.op && isR y.op) || ((isR x.op && isC y.op) || (isC x.op && isA y.op)))))))

theorem apartV_spec {x y : Ent} (h : apartV x y = true) : (∀ d, x.dst = some d → d ∉ y.rds) ∧ (∀ d, x.dst = some d → y.dst ≠ some d) ∧ (∀ d, y.dst = some d → d ∉ x.rds) := by
  simp only [apartV, Bool.and_eq_true] at h
  obtain ⟨h1, h2⟩ := h
  refine ⟨fun d hd => ?_, fun d hd => ?_, fun d hd => ?_⟩
  · rw [hd] at h1; simp at h1; exact h1.1
  · rw [hd] at h1
    intro he
    rw [he] at h1
    simp at h1
  · rw [hd] at h2; simpa using h2

theorem apartE_spec {x y : Ent} (h : apartE x y = true) : (∀ d, x.dst = some d → d ∉ y.rds) ∧ (∀ d, x.dst = some d → y.dst ≠ some d) ∧ (∀ d, y.dst = some d → d ∉ x.rds) ∧
    (isN x.op = true ∨ isN y.op = true ∨ (isR x.op = true ∧ isR y.op = true) ∨ (isR x.op = true ∧ isA y.op = true) ∨ (isC x.op = true ∧ isR y.op = true) ∨ (isR x.op = true ∧ isC y.op = true) ∨ (isC x.op = true ∧ isA y.op = true)) := by
  simp only [apartE, Bool.and_eq_true, Bool.or_eq_true] at h
  obtain ⟨h1, h2, h4⟩ := apartV_spec h.1
  exact ⟨h1, h2, h4, h.2⟩

theorem putD_ne {E : Nat → AV} {d : Option Nat} {v : AV} {t : Nat} (h : ∀ x, d = some x → x ≠ t) : putD E d v t = E t := by
  cases d with
  | none => rfl
  | some x => simp only [putD, putF]; rw [if_neg (h x rfl)]

theorem putD_comm {E : Nat → AV} {d d' : Option Nat} {v u : AV} (h : ∀ x, d = some x → d' ≠ some x) : putD (putD E d v) d' u = putD (putD E d' u) d v := by
  cases d with
  | none => rfl
  | some x =>
    cases d' with
    | none => rfl
    | some y =>
      have hne : x ≠ y := fun e => h x rfl (by rw [e])
      funext t
      simp only [putD, putF]
      by_cases h1 : y = t
      · subst h1
        rw [if_pos rfl, if_neg hne, if_pos rfl]
      · rw [if_neg h1, if_neg h1]

theorem Gd_congr {s s' : FS} {gd : Option (Nat × Bool)} {r : Bool} (h : ∀ t b, gd = some (t, b) → s.E t = s'.E t) : Gd s gd r ↔ Gd s' gd r := by
  cases gd with
  | none => exact Iff.rfl
  | some q => obtain ⟨t, b⟩ := q; simp only [Gd, h t b rfl]

theorem YF_congrE {P : Program} {gl : Nat → AV} {en : Ent} {E E' : Nat → AV} {o o' : Objs} {n n' : Nat} {v : AV} (h : ∀ t, t ∈ en.rds → E t = E' t) (hy : YF P gl en ⟨E, o, n⟩ v o' n') : YF P gl en ⟨E', o, n⟩ v o' n' := by
  have hg : ∀ r, Gd (⟨E, o, n⟩ : FS) en.gd r ↔ Gd (⟨E', o, n⟩ : FS) en.gd r := fun r => Gd_congr (fun t b hb => h t (by simp [Ent.rds, hb]))
  unfold YF at *
  rw [← hg, ← hg, ← wpF_congr (E := E) (E' := E') (fun t ht => h t (by simp [Ent.rds, ht]))]
  exact hy

theorem YF_N {P : Program} {gl : Nat → AV} {en : Ent} (hn : isN en.op = true) {E : Nat → AV} {o o' : Objs} {n n' : Nat} {v : AV} (hy : YF P gl en ⟨E, o, n⟩ v o' n') (o2 : Objs) (n2 : Nat) : YF P gl en ⟨E, o2, n2⟩ v o2 n2 := by
  rcases hy with ⟨h1, h2⟩ | ⟨h1, h2, h3, h4⟩
  · refine .inl ⟨h1, ?_⟩
    have h3 : wpF false P gl ⟨E, o, n⟩ en.op (fun x _ _ => x = v) := wpF_mono h2 rfl
    rw [wpF_N (o' := o2) (n' := n2) hn] at h3
    obtain ⟨x, y, z, h4, rfl⟩ := wpF_ex h3
    obtain ⟨rfl, rfl⟩ := wpF_same (.inl hn) h4
    exact h4
  · exact .inr ⟨h1, h2, rfl, rfl⟩

theorem YF_same {P : Program} {gl : Nat → AV} {en : Ent} (hn : isN en.op = true ∨ isR en.op = true) {s : FS} {o' : Objs} {n' : Nat} {v : AV} (hy : YF P gl en s v o' n') : o' = s.o ∧ n' = s.n := by
  rcases hy with ⟨_, h2⟩ | ⟨_, _, h3, h4⟩
  · exact wpF_same hn h2
  · exact ⟨h3, h4⟩

/-- First x, then y: or first y, then x. -/
theorem YF_swap {P : Program} {gl : Nat → AV} {x y : Ent} (ha : apartE x y = true) {s : FS} (hfr : Fr s) {v u : AV} {o1 o2 : Objs} {n1 n2 : Nat} (hx : YF P gl x s v o1 n1) (hy : YF P gl y (s.next x v o1 n1) u o2 n2) :
    ∃ o3 n3, YF P gl y s u o3 n3 ∧ YF P gl x (s.next y u o3 n3) v o2 n2 ∧ (s.next y u o3 n3).next x v o2 n2 = (s.next x v o1 n1).next y u o2 n2 := by
  obtain ⟨h1, h2, h3, h4⟩ := apartE_spec ha
  obtain ⟨E, o, n⟩ := s
  have hEy : ∀ (O : Objs) (M : Nat) {o' : Objs} {n' : Nat}, YF P gl y ⟨putD E x.dst v, O, M⟩ u o' n' → YF P gl y ⟨E, O, M⟩ u o' n' := fun O M _ _ h => YF_congrE (fun t ht => putD_ne (fun d hd e => h1 d hd (e ▸ ht))) h
  have hEx : ∀ (O : Objs) (M : Nat) {o' : Objs} {n' : Nat}, YF P gl x ⟨E, O, M⟩ v o' n' → YF P gl x ⟨putD E y.dst u, O, M⟩ v o' n' := fun O M _ _ h => YF_congrE (fun t ht => (putD_ne (fun d hd e => h3 d hd (e ▸ ht))).symm) h
  have hc : putD (putD E y.dst u) x.dst v = putD (putD E x.dst v) y.dst u := (putD_comm h2).symm
  rcases h4 with hn | hn | ⟨r1, r2⟩ | ⟨r1, r2⟩ | ⟨r1, r2⟩ | ⟨r1, r2⟩ | ⟨r1, r2⟩
  · obtain ⟨rfl, rfl⟩ := YF_same (.inl hn) hx
    refine ⟨o2, n2, hEy _ _ hy, hEx _ _ (YF_N hn hx o2 n2), ?_⟩
    simp only [FS.next, hc]
  · obtain ⟨rfl, rfl⟩ := YF_same (.inl hn) hy
    refine ⟨o, n, hEy _ _ (YF_N hn hy o n), hEx _ _ hx, ?_⟩
    simp only [FS.next, hc]
  · obtain ⟨rfl, rfl⟩ := YF_same (.inr r1) hx
    obtain ⟨rfl, rfl⟩ := YF_same (.inr r2) hy
    exact ⟨_, _, hEy _ _ hy, hEx _ _ hx, by simp only [FS.next, hc]⟩
  · obtain ⟨rfl, rfl⟩ := YF_same (.inr r1) hx
    refine ⟨o2, n2, hEy _ _ hy, hEx _ _ ?_, by simp only [FS.next, hc]⟩
    rcases hy with ⟨_, hy⟩ | ⟨_, _, rfl, rfl⟩
    · obtain ⟨hL, z, rfl, rfl⟩ := wpF_A r2 hy
      rcases hx with ⟨q1, q2⟩ | ⟨q1, q2, _, _⟩
      · refine .inl ⟨q1, wpF_R r1 (fun b a hb => ?_) q2⟩
        rw [lookO_cons, if_neg]
        · exact hb
        · rintro rfl
          exact absurd ((hfr _ (Nat.le_refl _) hL).symm.trans hb) (by simp)
      · exact .inr ⟨q1, q2, rfl, rfl⟩
    · exact hx
  · -- a call, then a load
    have hs := YF_same (.inr r2) hy
    have e1 : o2 = o1 := hs.1
    have e2 : n2 = n1 := hs.2
    subst e1 e2
    have hy2 : YF P gl y ⟨E, o2, n2⟩ u o2 n2 := hEy o2 n2 hy
    have hx2 := hEx _ _ hx
    rcases hx with ⟨q1, q2⟩ | ⟨q1, q2, q3, q4⟩
    · obtain ⟨q5, ho⟩ := wpF_C r1 q2
      have q5 : n2 = n := q5
      subst q5
      refine ⟨o, n2, ?_, hx2, by simp only [FS.next, hc]⟩
      rcases hy2 with ⟨p1, p2⟩ | ⟨p1, p2, _, _⟩
      · refine .inl ⟨p1, wpF_Rb r2 (fun b a hb => ?_) p2⟩
        rcases ho with rfl | ⟨t, m, m', e, ty, h5, rfl⟩
        · exact hb
        · exact (box_set h5 b a).1 hb
      · exact .inr ⟨p1, p2, rfl, rfl⟩
    · have q3 : o2 = o := q3
      have q4 : n2 = n := q4
      subst q3 q4
      exact ⟨o2, n2, hy2, hx2, by simp only [FS.next, hc]⟩
  · -- a load, then a call
    have hs := YF_same (.inr r1) hx
    have e1 : o1 = o := hs.1
    have e2 : n1 = n := hs.2
    subst e1 e2
    have hy2 : YF P gl y ⟨E, o1, n1⟩ u o2 n2 := hEy o1 n1 hy
    refine ⟨o2, n2, hy2, hEx _ _ ?_, by simp only [FS.next, hc]⟩
    rcases hy2 with ⟨p1, p2⟩ | ⟨p1, p2, p3, p4⟩
    · obtain ⟨q5, ho⟩ := wpF_C r2 p2
      have q5 : n2 = n1 := q5
      subst q5
      rcases hx with ⟨q1, q2⟩ | ⟨q1, q2, _, _⟩
      · refine .inl ⟨q1, wpF_Rb r1 (fun b a hb => ?_) q2⟩
        rcases ho with rfl | ⟨t, m, m', e, ty, h5, rfl⟩
        · exact hb
        · exact (box_set h5 b a).2 hb
      · exact .inr ⟨q1, q2, rfl, rfl⟩
    · have p3 : o2 = o1 := p3
      have p4 : n2 = n1 := p4
      subst p3 p4
      exact hx
  · -- a call, then new memory
    have hy2 : YF P gl y ⟨E, o1, n1⟩ u o2 n2 := hEy o1 n1 hy
    rcases hx with ⟨q1, q2⟩ | ⟨q1, q2, q3, q4⟩
    · obtain ⟨q5, ho⟩ := wpF_C r1 q2
      have q5 : n1 = n := q5
      subst q5
      rcases hy2 with ⟨p1, p2⟩ | ⟨p1, p2, p3, p4⟩
      · obtain ⟨hL, z, e1, e2⟩ := wpF_A r2 p2
        have e1 : o2 = (n1, z) :: o1 := e1
        have e2 : n2 = n1 + 1 := e2
        subst e1 e2
        exact ⟨(n1, z) :: o, n1 + 1, .inl ⟨p1, wpF_Ab r2 p2⟩, hEx _ _ (.inl ⟨q1, wpF_Cn r1 (wpF_Cc r1 (hfr _ (Nat.le_refl _) hL) q2)⟩), by simp only [FS.next, hc]⟩
      · have p3 : o2 = o1 := p3
        have p4 : n2 = n1 := p4
        subst p3 p4
        exact ⟨o, _, .inr ⟨p1, p2, rfl, rfl⟩, hEx _ _ (.inl ⟨q1, q2⟩), by simp only [FS.next, hc]⟩
    · have q3 : o1 = o := q3
      have q4 : n1 = n := q4
      subst q3 q4
      have hdn : Gd (⟨E, o2, n2⟩ : FS) x.gd false := q1
      exact ⟨o2, n2, hy2, hEx _ _ (.inr ⟨hdn, q2, rfl, rfl⟩), by simp only [FS.next, hc]⟩

/-! A load of a box, and a store into another. -/
def adrS : IOp → Option Nat
  | .sto _ (.t j) _ => some j
  | _ => none

theorem wpF_ldS {P : Program} {gl : Nat → AV} {E : Nat → AV} {o o' : Objs} {n n' : Nat} {p : IOp} {i : Nat} (hp : adr p = some i) (hl : ∀ b q, E i = .ptr b q → lookO b o' = lookO b o) {v : AV} {o1 : Objs} {n1 : Nat}
    (h : wpF false P gl ⟨E, o, n⟩ p (fun x y z => x = v ∧ y = o1 ∧ z = n1)) : (o1 = o ∧ n1 = n) ∧ wpF false P gl ⟨E, o', n'⟩ p (fun x y z => x = v ∧ y = o' ∧ z = n') := by
  cases p <;> simp only [adr] at hp <;> try cases hp
  rename_i ag m x
  cases x <;> simp only [] at hp <;> try cases hp
  simp only [wpF, wpV, evF] at h ⊢
  split at h
  · rename_i b q he
    split at h
    · rename_i a hb
      rw [hl _ _ he, hb]
      simp only [chk_iff] at h ⊢
      obtain ⟨h1, h2, h3, rfl, rfl⟩ := h
      exact ⟨⟨rfl, rfl⟩, h1, h2, h3, trivial, trivial⟩
    · exact h.elim
  · simp only [chk_iff] at h ⊢
    obtain ⟨h1, h2, h3, rfl, rfl⟩ := h
    exact ⟨⟨rfl, rfl⟩, h1, h2, h3, trivial, trivial⟩
  · exact h.elim

theorem wpF_stoS {P : Program} {gl : Nat → AV} {E : Nat → AV} {o : Objs} {n : Nat} {p : IOp} {j : Nat} (hp : adrS p = some j) {v : AV} {o1 : Objs} {n1 : Nat}
    (h : wpF false P gl ⟨E, o, n⟩ p (fun x y z => x = v ∧ y = o1 ∧ z = n1)) : n1 = n ∧ ∀ b, (∀ b' q, E j = .ptr b' q → b ≠ b') → lookO b o1 = lookO b o := by
  cases p <;> simp only [adrS] at hp <;> try cases hp
  rename_i sz x w
  cases x <;> simp only [] at hp <;> try cases hp
  simp only [wpF, wpL, evF] at h
  split at h
  · rename_i b q he
    split at h
    · simp only [chk_iff] at h
      obtain ⟨_, _, _, _, _, rfl, rfl⟩ := h
      refine ⟨rfl, fun b2 hb => ?_⟩
      rw [lookO_setO, if_neg (hb _ _ he)]
    · exact h.elim
  · exact h.elim

theorem YF_swapS {P : Program} {gl : Nat → AV} {x y : Ent} (ha : apartV x y = true) {i j : Nat} (hx0 : adr x.op = some i) (hy0 : adrS y.op = some j) {s : FS} (hsep : ∀ b p b' q, s.E i = .ptr b p → s.E j = .ptr b' q → b ≠ b')
    (hj : x.dst ≠ some j) {v u : AV} {o1 o2 : Objs} {n1 n2 : Nat} (hx : YF P gl x s v o1 n1) (hy : YF P gl y (s.next x v o1 n1) u o2 n2) :
    ∃ o3 n3, YF P gl y s u o3 n3 ∧ YF P gl x (s.next y u o3 n3) v o2 n2 ∧ (s.next y u o3 n3).next x v o2 n2 = (s.next x v o1 n1).next y u o2 n2 := by
  obtain ⟨h1, h2, h3⟩ := apartV_spec ha
  obtain ⟨E, o, n⟩ := s
  have hEy : ∀ (O : Objs) (M : Nat) {o' : Objs} {n' : Nat}, YF P gl y ⟨putD E x.dst v, O, M⟩ u o' n' → YF P gl y ⟨E, O, M⟩ u o' n' := fun O M _ _ h => YF_congrE (fun t ht => putD_ne (fun d hd e => h1 d hd (e ▸ ht))) h
  have hEx : ∀ (O : Objs) (M : Nat) {o' : Objs} {n' : Nat}, YF P gl x ⟨E, O, M⟩ v o' n' → YF P gl x ⟨putD E y.dst u, O, M⟩ v o' n' := fun O M _ _ h => YF_congrE (fun t ht => (putD_ne (fun d hd e => h3 d hd (e ▸ ht))).symm) h
  have hc : putD (putD E y.dst u) x.dst v = putD (putD E x.dst v) y.dst u := (putD_comm h2).symm
  have hR : isR x.op = true := by
    cases hp : x.op <;> rw [hp] at hx0 <;> simp only [adr] at hx0 <;> try cases hx0
    rfl
  obtain ⟨rfl, rfl⟩ := YF_same (.inr hR) hx
  have hy := hEy _ _ hy
  refine ⟨o2, n2, hy, hEx _ _ ?_, by simp only [FS.next, hc]⟩
  rcases hy with ⟨_, hy⟩ | ⟨_, _, rfl, rfl⟩
  · obtain ⟨rfl, hl⟩ := wpF_stoS hy0 hy
    rcases hx with ⟨q1, q2⟩ | ⟨q1, q2, _, _⟩
    · exact .inl ⟨q1, (wpF_ldS hx0 (fun b p hb => hl b (fun b' q hb' => hsep b p b' q hb hb')) q2).2⟩
    · exact .inr ⟨q1, q2, rfl, rfl⟩
  · exact hx

/-! Boxes that are made in the region itself, under names laid by for them. -/
def isS : IOp → Bool
  | .alcN _ _ => true
  | _ => false

def adrN : IOp → Option Nat
  | .stoN j _ _ _ => some j
  | _ => none

/-- What leaves the next name as it is. -/
def keepN : IOp → Bool
  | .alloc _ | .box _ | .bsl _ _ _ _ | .app _ _ _ _ _ | .appz _ _ _ _ _ _ | .mks _ _ _ _ _ _ | .s2b _ _ | .cvb _ | .aps _ _ _ | .mkm _ | .mupd _ _ _ _ | .mget _ _ _ _ _ | .callx _ _ => false
  | _ => true

def apartS (x y : Ent) : Bool := apartV x y && (isS y.op && (isN x.op || (isR x.op || (isC x.op || isS x.op))))

def sepR (js : List Nat) (x y : Ent) : Bool := apartV x y && ((match x.gd with | none => true | some _ => false) && ((adr x.op).isSome && match adrN y.op with
  | some j => js.contains j
  | none => false))

theorem setO_comm {q t : Nat} (hne : q ≠ t) (x y : AObj) : ∀ (o : Objs), setO q x (setO t y o) = setO t y (setO q x o)
  | [] => rfl
  | (k, a) :: r => by
    by_cases h1 : k = t
    · subst h1
      simp only [setO, beq_self, beq_of_ne (Ne.symm hne)]
    · by_cases h2 : k = q
      · subst h2
        simp only [setO, beq_self, beq_of_ne hne]
      · simp only [setO, beq_of_ne h1, beq_of_ne h2, setO_comm hne x y r]

theorem wpF_S {P : Program} {gl : Nat → AV} {E : Nat → AV} {o : Objs} {n : Nat} {p : IOp} (hp : isS p = true) {v : AV} {o1 : Objs} {n1 : Nat} (h : wpF false P gl ⟨E, o, n⟩ p (fun x y z => x = v ∧ y = o1 ∧ z = n1)) :
    ∃ q z, lookO q o = some .soon ∧ v = .ptr q [] ∧ o1 = setO q (.box z) o ∧ n1 = n ∧ ∀ (E' : Nat → AV) (o' : Objs), lookO q o' = some .soon → wpF false P gl ⟨E', o', n⟩ p (fun x y z' => x = v ∧ y = setO q (.box z) o' ∧ z' = n) := by
  cases p <;> simp [isS] at hp
  rename_i j z
  simp only [wpF, wpL] at h
  split at h
  · rename_i hq
    simp only [chk_iff] at h
    obtain ⟨h1, h2, rfl, rfl, rfl⟩ := h
    refine ⟨_, z, hq, rfl, rfl, rfl, fun E' o' hq' => ?_⟩
    simp only [wpF, wpL, hq', chk_iff]
    exact ⟨h1, h2, trivial, trivial, trivial⟩
  · exact h.elim

theorem wpF_stoN {P : Program} {gl : Nat → AV} {E : Nat → AV} {o : Objs} {n : Nat} {p : IOp} {j : Nat} (hp : adrN p = some j) {v : AV} {o1 : Objs} {n1 : Nat}
    (h : wpF false P gl ⟨E, o, n⟩ p (fun x y z => x = v ∧ y = o1 ∧ z = n1)) : n1 = n ∧ ∀ b, b ≠ n - j → lookO b o1 = lookO b o := by
  cases p <;> simp only [adrN] at hp <;> try cases hp
  rename_i sz x w
  simp only [wpF, wpL] at h
  split at h
  · rename_i b q he
    obtain ⟨hb, h⟩ := chk_iff.1 h
    have hb := beq_eq hb
    subst hb
    split at h
    · simp only [chk_iff] at h
      obtain ⟨_, _, _, _, _, rfl, rfl⟩ := h
      exact ⟨rfl, fun b2 hb => by rw [lookO_setO, if_neg hb]⟩
    · exact h.elim
  · exact h.elim

/-- A call, with a box made first. -/
theorem wpF_Cq {P : Program} {gl : Nat → AV} {E : Nat → AV} {o : Objs} {n q : Nat} {z : AObj} {p : IOp} (hp : isC p = true) (hq : lookO q o = some .soon) {v : AV} {o1 : Objs} (h : wpF false P gl ⟨E, o, n⟩ p (fun x y k => x = v ∧ y = o1 ∧ k = n)) :
    wpF false P gl ⟨E, setO q z o, n⟩ p (fun x y k => x = v ∧ y = setO q z o1 ∧ k = n) := by
  have key : ∀ {f : FuncId} {args : List AV}, (CallO P gl f args o fun r o2 => r = v ∧ o2 = o1 ∧ n = n) → CallO P gl f args (setO q z o) fun r o2 => r = v ∧ o2 = setO q z o1 ∧ n = n := by
    intro f args h
    rcases h with ⟨args', r, h1, h2, rfl, rfl, _⟩ | ⟨t, m, e, ty, args', r, m', h1, h2, h3, rfl, rfl, _⟩
    · exact .inl ⟨args', r, h1, h2, rfl, rfl, rfl⟩
    · have hne : t ≠ q := fun e1 => by subst e1; rw [hq] at h1; cases h1
      refine .inr ⟨t, m, e, ty, args', r, m', by rw [lookO_setO, if_neg hne]; exact h1, h2, h3, rfl, ?_, rfl⟩
      exact setO_comm hne _ _ o
  cases p <;> simp [isC] at hp
  · exact key h
  · obtain ⟨f, args, hb, h⟩ := calv_call h
    exact hb _ _ _ (key h)

theorem YF_keep {P : Program} {gl : Nat → AV} {en : Ent} (hk : keepN en.op = true) {s : FS} {v : AV} {o : Objs} {n : Nat} (h : YF P gl en s v o n) : n = s.n := by
  rcases h with ⟨_, h⟩ | ⟨_, _, _, rfl⟩
  · by_cases hN : isN en.op = true ∨ isR en.op = true
    · exact (wpF_same hN h).2
    · by_cases hC : isC en.op = true
      · exact (wpF_C (E := s.E) (o := s.o) (n := s.n) hC h).1
      · cases hp : en.op <;> rw [hp] at hN hC hk h <;> simp [isN, isR, isC, keepN] at hN hC hk <;> simp only [wpF, wpL] at h
        · split at h
          · split at h
            · simp only [chk_iff] at h
              exact h.2.2.2.2.2.2.symm
            · exact h.elim
          · exact h.elim
        · obtain ⟨x, _, rfl, rfl, rfl⟩ := wpV_ex h
          rfl
        · split at h
          · simp only [chk_iff] at h
            exact h.2.2.2.2.symm
          · exact h.elim
        · split at h
          · obtain ⟨_, h⟩ := chk_iff.1 h
            split at h
            · simp only [chk_iff] at h
              exact h.2.2.2.2.2.2.symm
            · exact h.elim
          · exact h.elim
  · rfl

theorem YF_swapR {P : Program} {gl : Nat → AV} {x y : Ent} (ha : apartS x y = true) {s : FS} {v u : AV} {o1 o2 : Objs} {n1 n2 : Nat} (hx : YF P gl x s v o1 n1) (hy : YF P gl y (s.next x v o1 n1) u o2 n2) :
    ∃ o3 n3, YF P gl y s u o3 n3 ∧ YF P gl x (s.next y u o3 n3) v o2 n2 ∧ (s.next y u o3 n3).next x v o2 n2 = (s.next x v o1 n1).next y u o2 n2 := by
  simp only [apartS, Bool.and_eq_true, Bool.or_eq_true] at ha
  obtain ⟨hav, hS, hx0⟩ := ha
  obtain ⟨h1, h2, h3⟩ := apartV_spec hav
  obtain ⟨E, o, n⟩ := s
  have hEy : ∀ (O : Objs) (M : Nat) {o' : Objs} {n' : Nat}, YF P gl y ⟨putD E x.dst v, O, M⟩ u o' n' → YF P gl y ⟨E, O, M⟩ u o' n' := fun O M _ _ h => YF_congrE (fun t ht => putD_ne (fun d hd e => h1 d hd (e ▸ ht))) h
  have hEx : ∀ (O : Objs) (M : Nat) {o' : Objs} {n' : Nat}, YF P gl x ⟨E, O, M⟩ v o' n' → YF P gl x ⟨putD E y.dst u, O, M⟩ v o' n' := fun O M _ _ h => YF_congrE (fun t ht => (putD_ne (fun d hd e => h3 d hd (e ▸ ht))).symm) h
  have hc : putD (putD E y.dst u) x.dst v = putD (putD E x.dst v) y.dst u := (putD_comm h2).symm
  have hy := hEy _ _ hy
  rcases hy with ⟨p1, p2⟩ | ⟨p1, p2, p3, p4⟩
  · obtain ⟨q, z, hq, hu, ho2, hn2, hre⟩ := wpF_S hS p2
    have hn2 : n2 = n1 := hn2
    subst hn2 ho2
    have yAt : ∀ (O : Objs), lookO q O = some .soon → YF P gl y ⟨E, O, n2⟩ u (setO q (.box z) O) n2 := fun O hO => .inl ⟨p1, hre E O hO⟩
    rcases hx0 with r | r | r | r
    · obtain ⟨rfl, rfl⟩ := YF_same (.inl r) hx
      exact ⟨_, _, yAt o1 hq, hEx _ _ (YF_N r hx _ _), by simp only [FS.next, hc]⟩
    · obtain ⟨rfl, rfl⟩ := YF_same (.inr r) hx
      refine ⟨_, _, yAt o1 hq, hEx _ _ ?_, by simp only [FS.next, hc]⟩
      rcases hx with ⟨q1, q2⟩ | ⟨q1, q2, _, _⟩
      · refine .inl ⟨q1, wpF_Rb r (fun b a hb => ?_) q2⟩
        rw [lookO_setO, if_neg]
        · exact hb
        · rintro rfl
          rw [show lookO b o1 = some AObj.soon from hq] at hb
          cases hb
      · exact .inr ⟨q1, q2, rfl, rfl⟩
    · rcases hx with ⟨q1, q2⟩ | ⟨q1, q2, q3, q4⟩
      · obtain ⟨q5, ho⟩ := wpF_C r q2
        have q5 : n2 = n := q5
        subst q5
        have hq0 : lookO q o = some .soon := by
          rcases ho with rfl | ⟨t, m, m', e, ty, h5, rfl⟩
          · exact hq
          · have hq : lookO q (setO t (.room m' e ty) o) = some .soon := hq
            rw [lookO_setO] at hq
            by_cases e1 : q = t
            · subst e1; rw [if_pos rfl, h5] at hq; cases hq
            · rw [if_neg e1] at hq; exact hq
        exact ⟨_, _, yAt o hq0, hEx _ _ (.inl ⟨q1, wpF_Cq r hq0 q2⟩), by simp only [FS.next, hc]⟩
      · have q3 : o1 = o := q3
        have q4 : n2 = n := q4
        subst q3 q4
        exact ⟨_, _, yAt o1 hq, hEx _ _ (.inr ⟨q1, q2, rfl, rfl⟩), by simp only [FS.next, hc]⟩
    · rcases hx with ⟨q1, q2⟩ | ⟨q1, q2, q3, q4⟩
      · obtain ⟨q', z', hq', hv, ho1, hn1, hre'⟩ := wpF_S r q2
        have hn1 : n2 = n := hn1
        subst hn1 ho1
        have hq : lookO q (setO q' (.box z') o) = some .soon := hq
        rw [lookO_setO] at hq
        have hne : q ≠ q' := fun e1 => by rw [if_pos e1, hq'] at hq; cases hq
        rw [if_neg hne] at hq
        have hq2 : lookO q' (setO q (.box z) o) = some .soon := by rw [lookO_setO, if_neg (Ne.symm hne)]; exact hq'
        have h9 := hre' E _ hq2
        rw [setO_comm (Ne.symm hne)] at h9
        exact ⟨_, _, yAt o hq, hEx _ _ (.inl ⟨q1, h9⟩), by simp only [FS.next, hc]⟩
      · have q3 : o1 = o := q3
        have q4 : n2 = n := q4
        subst q3 q4
        exact ⟨_, _, yAt o1 hq, hEx _ _ (.inr ⟨q1, q2, rfl, rfl⟩), by simp only [FS.next, hc]⟩
  · have p3 : o2 = o1 := p3
    have p4 : n2 = n1 := p4
    subst p3 p4
    refine ⟨o, n, .inr ⟨p1, p2, rfl, rfl⟩, hEx _ _ hx, by simp only [FS.next, hc]⟩

theorem YF_swapZ {P : Program} {gl : Nat → AV} {x y : Ent} (ha : apartV x y = true) {i j : Nat} (hx0 : adr x.op = some i) (hy0 : adrN y.op = some j) {s : FS} (hsep : ∀ b p, s.E i = .ptr b p → b ≠ s.n - j)
    {v u : AV} {o1 o2 : Objs} {n1 n2 : Nat} (hx : YF P gl x s v o1 n1) (hy : YF P gl y (s.next x v o1 n1) u o2 n2) :
    ∃ o3 n3, YF P gl y s u o3 n3 ∧ YF P gl x (s.next y u o3 n3) v o2 n2 ∧ (s.next y u o3 n3).next x v o2 n2 = (s.next x v o1 n1).next y u o2 n2 := by
  obtain ⟨h1, h2, h3⟩ := apartV_spec ha
  obtain ⟨E, o, n⟩ := s
  have hEy : ∀ (O : Objs) (M : Nat) {o' : Objs} {n' : Nat}, YF P gl y ⟨putD E x.dst v, O, M⟩ u o' n' → YF P gl y ⟨E, O, M⟩ u o' n' := fun O M _ _ h => YF_congrE (fun t ht => putD_ne (fun d hd e => h1 d hd (e ▸ ht))) h
  have hEx : ∀ (O : Objs) (M : Nat) {o' : Objs} {n' : Nat}, YF P gl x ⟨E, O, M⟩ v o' n' → YF P gl x ⟨putD E y.dst u, O, M⟩ v o' n' := fun O M _ _ h => YF_congrE (fun t ht => (putD_ne (fun d hd e => h3 d hd (e ▸ ht))).symm) h
  have hc : putD (putD E y.dst u) x.dst v = putD (putD E x.dst v) y.dst u := (putD_comm h2).symm
  have hR : isR x.op = true := by
    cases hp : x.op <;> rw [hp] at hx0 <;> simp only [adr] at hx0 <;> try cases hx0
    rfl
  obtain ⟨rfl, rfl⟩ := YF_same (.inr hR) hx
  have hy := hEy _ _ hy
  refine ⟨o2, n2, hy, hEx _ _ ?_, by simp only [FS.next, hc]⟩
  rcases hy with ⟨_, hy⟩ | ⟨_, _, rfl, rfl⟩
  · obtain ⟨rfl, hl⟩ := wpF_stoN hy0 hy
    rcases hx with ⟨q1, q2⟩ | ⟨q1, q2, _, _⟩
    · exact .inl ⟨q1, (wpF_ldS hx0 (fun b p hb => hl b (hsep b p hb)) q2).2⟩
    · exact .inr ⟨q1, q2, rfl, rfl⟩
  · exact hx

end Ar
namespace Ar
open Go
set_option linter.unusedVariables false
set_option autoImplicit false
set_option maxHeartbeats 1000000

section
variable {P : Program} {gl : Nat → AV} {N : Nat} {ops : Array Oper} {es : List Ent}

def qI (P : Program) (gl : Nat → AV) (es : List Ent) (i : Nat) (K : FS → Prop) (s : FS) : Prop :=
  match es[i]? with
  | some en => qE P gl en K s
  | none => K s

theorem qI_mono {i : Nat} {K K' : FS → Prop} {s : FS} (hk : ∀ s, K s → K' s) (h : qI P gl es i K s) : qI P gl es i K' s := by
  unfold qI at *
  split
  · rename_i en he; rw [he] at h; exact qE_mono hk h
  · rename_i he; rw [he] at h; exact hk _ h

def wpAnyA (P : Program) (gl : Nat → AV) (ops : Array Oper) (es : List Ent) (Q : FS → Prop) : Nat → Array Bool → FS → Prop
  | 0, listed, s => Region.ready .any ops listed = [] ∧ Q s
  | fuel + 1, listed, s => (Region.ready .any ops listed = [] → Q s) ∧ ∀ i ∈ Region.ready .any ops listed, qI P gl es i (wpAnyA P gl ops es Q fuel (listed.setIfInBounds i true)) s

/-- Does the operation number j wait, at whatever remove, for the one number k? -/
def reachGo (ops : Array Oper) (k : Nat) : Nat → Nat → List Nat → Nat → Bool
  | 0, _, _, _ => false
  | fuel + 1, i, r, j => match ops[i]? with
    | none => false
    | some oi => match oi.after.any fun e => Region.binds .any e && (Nat.beq e.on k || r.any fun q => Nat.beq e.on q) with
      | true => match Nat.beq i j with
        | true => true
        | false => reachGo ops k fuel (i + 1) (i :: r) j
      | false => match Nat.beq i j with
        | true => false
        | false => reachGo ops k fuel (i + 1) r j
/-- Does j wait for k, directly or through others? -/
def transC (ops : Array Oper) (k fuel j : Nat) : Bool := reachGo ops k (fuel + 1) (k + 1) [] j

/-- What is listed stands behind what it waits for. -/
def Closed (ops : Array Oper) (listed : Array Bool) : Prop := ∀ (j : Nat) oj, ops[j]? = some oj → listed.getD j false = true → ∀ e ∈ oj.after, Region.binds .any e = true → listed.getD e.on false = true

theorem reach_not {listed : Array Bool} (hc : Closed ops listed) {k : Nat} (hk : listed.getD k true = false) : ∀ (fuel i : Nat) (r : List Nat) (j : Nat),
    (∀ q ∈ r, ∃ oq, ops[q]? = some oq ∧ ∃ e ∈ oq.after, Region.binds .any e = true ∧ ¬ listed.getD e.on false = true) → reachGo ops k fuel i r j = true →
    ∃ oj, ops[j]? = some oj ∧ ∃ e ∈ oj.after, Region.binds .any e = true ∧ ¬ listed.getD e.on false = true
  | 0, _, _, _, _, h => by simp [reachGo] at h
  | fuel + 1, i, r, j, hr, h => by
    unfold reachGo at h
    cases ho : ops[i]? with
    | none => simp [ho] at h
    | some oi =>
      simp only [ho] at h
      cases ht : oi.after.any fun e => Region.binds .any e && (Nat.beq e.on k || r.any fun q => Nat.beq e.on q) with
      | false =>
        simp only [ht] at h
        cases hb : Nat.beq i j with
        | true => simp [hb] at h
        | false => simp only [hb] at h; exact reach_not hc hk fuel (i + 1) r j hr h
      | true =>
        simp only [ht] at h
        have hi : ∃ e ∈ oi.after, Region.binds .any e = true ∧ ¬ listed.getD e.on false = true := by
          rw [← Array.any_toList] at ht
          obtain ⟨e, he, hb⟩ := List.any_eq_true.1 ht
          simp only [Bool.and_eq_true, Bool.or_eq_true] at hb
          have he := Array.mem_toList_iff.1 he
          refine ⟨e, he, hb.1, fun hl => ?_⟩
          rcases hb.2 with h1 | h1
          · have h1 := beq_eq h1
            subst h1
            rcases Nat.lt_or_ge e.on listed.size with h' | h'
            · simp [h'] at hk hl; rw [hk] at hl; cases hl
            · simp [Array.getElem?_eq_none h'] at hl
          · obtain ⟨q, hq, hq2⟩ := List.any_eq_true.1 h1
            have hq2 := beq_eq hq2
            obtain ⟨oe, ho2, e', h2, h3, h4⟩ := hr q hq
            rw [← hq2] at ho2
            exact h4 (hc e.on oe ho2 hl e' h2 h3)
        cases hb : Nat.beq i j with
        | true =>
          have hb := beq_eq hb
          subst hb
          exact ⟨oi, ho, hi⟩
        | false =>
          simp only [hb] at h
          refine reach_not hc hk fuel (i + 1) (i :: r) j (fun q hq => ?_) h
          rcases List.mem_cons.1 hq with rfl | hq
          · exact ⟨oi, ho, hi⟩
          · exact hr q hq

theorem trans_not {listed : Array Bool} (hc : Closed ops listed) {k : Nat} (hk : listed.getD k true = false) (fuel j : Nat) (oj : Oper) (hj : ops[j]? = some oj) (h : transC ops k fuel j = true) :
    ∃ e ∈ oj.after, Region.binds .any e = true ∧ ¬ listed.getD e.on false = true := by
  obtain ⟨o', h1, h2⟩ := reach_not hc hk (fuel + 1) (k + 1) [] j (fun q hq => by cases hq) h
  rw [hj] at h1
  injection h1 with h1
  exact h1 ▸ h2

theorem closed_set {listed : Array Bool} (hc : Closed ops listed) {i : Nat} (hr : i ∈ Region.ready .any ops listed) : Closed ops (listed.setIfInBounds i true) := by
  have mono : ∀ q, listed.getD q false = true → (listed.setIfInBounds i true).getD q false = true := fun q hq => by
    simp only [Array.getD_eq_getD_getElem?, Array.getElem?_setIfInBounds] at hq ⊢
    by_cases e : i = q
    · subst e
      rw [if_pos rfl]
      by_cases h2 : i < listed.size
      · simp [h2]
      · simp [Array.getElem?_eq_none (Nat.le_of_not_lt h2)] at hq
    · rw [if_neg e]; exact hq
  intro j oj hj hl e he hb
  by_cases hji : j = i
  · subst hji
    obtain ⟨_, o2, ho2, hall⟩ := mem_ready.1 hr
    rw [hj] at ho2
    injection ho2 with ho2
    subst ho2
    exact mono _ (hall e he hb)
  · refine mono _ (hc j oj hj ?_ e he hb)
    rwa [getD_set_ne false (Ne.symm hji)] at hl

/-- The load's box is none of those that these slots point to, and no entry writes these slots. -/
def SepS (es : List Ent) (ei : Ent) (js : List Nat) (s : FS) : Prop := ∀ j ∈ js, (∀ en ∈ es, en.dst ≠ some j) ∧ ∃ i, adr ei.op = some i ∧ ∀ b p b' q, s.E i = .ptr b p → s.E j = .ptr b' q → b ≠ b'

theorem sepV_ne {x y : AV} (h : sepV x y = true) {b b' : Nat} {p q : List PE} (hx : x = .ptr b p) (hy : y = .ptr b' q) : b ≠ b' := by
  subst hx hy
  simp only [sepV] at h
  rintro rfl
  rw [beq_self] at h
  cases h

theorem sepB_spec {E : Nat → AV} {p : IOp} : ∀ {js : List Nat}, sepB E p js = true → ∀ j ∈ js, ∃ i, adr p = some i ∧ ∀ b q b' r, E i = .ptr b q → E j = .ptr b' r → b ≠ b'
  | [], _, j, hj => by cases hj
  | k :: r, h, j, hj => by
    simp only [sepB] at h
    split at h
    · rename_i i hi
      simp only [Bool.and_eq_true] at h
      rcases List.mem_cons.1 hj with rfl | hj
      · exact ⟨i, hi, fun b q b' r h1 h2 => sepV_ne h.1 h1 h2⟩
      · exact sepB_spec h.2 j hj
    · cases h

def sepE (js : List Nat) (x y : Ent) : Bool := apartV x y && match adrS y.op with
  | some j => js.contains j
  | none => false

theorem rds_adr {en : Ent} {i : Nat} (h : adr en.op = some i) : i ∈ en.rds := by
  unfold Ent.rds
  cases hp : en.op <;> rw [hp] at h <;> simp only [adr] at h <;> try cases h
  rename_i ag m x
  cases x <;> simp only [] at h <;> try cases h
  simp [rd, rdX]

theorem wpAnyA_first {Q : FS → Prop} {i : Nat} {ei : Ent} (hi : es[i]? = some ei) (d : Nat) (js : List Nat) : ∀ (fuel : Nat) (listed : Array Bool) (s : FS) {v : AV} {o : Objs} {n : Nat}, Closed ops listed → Fr s → SepS es ei js s →
      (∀ (j : Nat) oj ej, ops[j]? = some oj → es[j]? = some ej → j ≠ i → listed.getD j true = false → transC ops i d j = false → apartE ei ej = true ∨ sepE js ei ej = true) →
      (∀ (j : Nat) oj, ops[j]? = some oj → ∃ ej, es[j]? = some ej) →
      i ∈ Region.ready .any ops listed → YF P gl ei s v o n →
      wpAnyA P gl ops es Q fuel (listed.setIfInBounds i true) (s.next ei v o n) → wpAnyA P gl ops es Q (fuel + 1) listed s := by
  intro fuel
  induction fuel with
  | zero =>
    intro listed s v o n hcl hfr hsp _ _ hr hy H
    refine ⟨fun h => (by rw [h] at hr; cases hr), fun j hj => ?_⟩
    by_cases hji : j = i
    · subst hji
      unfold qI; rw [hi]
      exact ⟨v, o, n, hy, H⟩
    · have := ready_mono hj hji
      rw [H.1] at this
      cases this
  | succ fuel ih =>
    intro listed s v o n hcl hfr hsp hfree hes hr hy H
    refine ⟨fun h => (by rw [h] at hr; cases hr), fun j hj => ?_⟩
    by_cases hji : j = i
    · subst hji
      unfold qI; rw [hi]
      exact ⟨v, o, n, hy, H⟩
    · have h1 := H.2 j (ready_mono hj hji)
      obtain ⟨hjun, oj, hoj, hall⟩ := mem_ready.1 hj
      obtain ⟨ej, hej⟩ := hes j oj hoj
      have hnot : transC ops i d j = false := by
        cases ht : transC ops i d j with
        | false => rfl
        | true =>
          obtain ⟨e, he, hb, hn⟩ := trans_not hcl (mem_ready.1 hr).1 d j oj hoj ht
          exact absurd (hall e he hb) hn
      unfold qI at h1 ⊢
      rw [hej] at h1 ⊢
      obtain ⟨u, o2, n2, hy2, hK⟩ := h1
      have hmem : ∀ {q : Nat} {en : Ent}, es[q]? = some en → en ∈ es := fun {q en} hq => List.mem_of_getElem? hq
      obtain ⟨hapV, o3, n3, hy3, hy4, he⟩ : apartV ei ej = true ∧ ∃ o3 n3, YF P gl ej s u o3 n3 ∧ YF P gl ei (s.next ej u o3 n3) v o2 n2 ∧ (s.next ej u o3 n3).next ei v o2 n2 = (s.next ei v o n).next ej u o2 n2 := by
        rcases hfree j oj ej hoj hej hji hjun hnot with ha | ha
        · have hav : apartV ei ej = true := by simp only [apartE, Bool.and_eq_true] at ha; exact ha.1
          exact ⟨hav, YF_swap ha hfr hy hy2⟩
        · simp only [sepE, Bool.and_eq_true] at ha
          obtain ⟨hav, hb⟩ := ha
          split at hb
          · rename_i q hq
            obtain ⟨h5, i2, h6, h7⟩ := hsp q (by simpa using hb)
            exact ⟨hav, YF_swapS hav h6 hq h7 (h5 ei (hmem hi)) hy hy2⟩
          · cases hb
      have hsp' : SepS es ei js (s.next ej u o3 n3) := fun q hq => by
        obtain ⟨h5, i2, h6, h7⟩ := hsp q hq
        refine ⟨h5, i2, h6, fun b p b' r h8 h9 => h7 b p b' r ?_ ?_⟩
        · rw [← h8]
          exact (putD_ne (fun x hx e => (apartV_spec hapV).2.2 x hx (e ▸ rds_adr h6))).symm
        · rw [← h9]
          exact (putD_ne (fun x hx (e : x = q) => h5 ej (hmem hej) (by rw [← e]; exact hx))).symm
      refine ⟨u, o3, n3, hy3, ?_⟩
      have hfree' : ∀ (k : Nat) ok ek, ops[k]? = some ok → es[k]? = some ek → k ≠ i → (listed.setIfInBounds j true).getD k true = false →
          transC ops i d k = false → apartE ei ek = true ∨ sepE js ei ek = true := fun k ok ek hk hk2 hki hun hno => by
        refine hfree k ok ek hk hk2 hki ?_ hno
        by_cases hjk : j = k
        · subst hjk; exact hjun
        · rw [getD_set_ne true hjk] at hun; exact hun
      refine ih (listed.setIfInBounds j true) _ (closed_set hcl hj) (YF_fr hfr hy3) hsp' hfree' hes (ready_mono hr (Ne.symm hji)) hy4 ?_
      rw [Array.setIfInBounds_comm _ _ hji, he]
      exact hK

def freeC (ops : Array Oper) (es : List Ent) (listed : Array Bool) (k : Nat) : Bool :=
  (List.range ops.size).all fun j => Nat.beq j k || (listed.getD j true || ((match es[k]?, es[j]? with
    | some x, some y => apartE x y
    | _, _ => false) || transC ops k ops.size j))

def lexC (ops : Array Oper) (es : List Ent) : Nat → Nat → Array Bool → Bool
  | 0, _, listed => (Region.ready .any ops listed).isEmpty
  | fuel + 1, k, listed => (Region.ready .any ops listed).contains k && (freeC ops es listed k && lexC ops es fuel (k + 1) (listed.setIfInBounds k true))

/-- The order of the text. -/
def wpTxt (P : Program) (gl : Nat → AV) (Q : FS → Prop) : List Ent → FS → Prop
  | [], s => Q s
  | en :: r, s => qE P gl en (wpTxt P gl Q r) s

theorem wpAnyA_lex {Q : FS → Prop} (hes : ∀ (j : Nat) oj, ops[j]? = some oj → ∃ ej, es[j]? = some ej) (hlen : es.length = ops.size) : ∀ (l : List Ent) (k : Nat) (listed : Array Bool) (s : FS), Closed ops listed → Fr s → (∀ j, l[j]? = es[k + j]?) →
    lexC ops es l.length k listed = true → wpTxt P gl Q l s → wpAnyA P gl ops es Q l.length listed s
  | [], _, _, _, _, _, _, hB, h => ⟨by simpa [lexC] using hB, h⟩
  | en :: l, k, listed, s, hcl, hfr, hl, hB, h => by
    have h0 : es[k]? = some en := by simpa using (hl 0).symm
    simp only [List.length_cons, lexC, Bool.and_eq_true] at hB
    obtain ⟨hr, hf, hB'⟩ := hB
    have hr : k ∈ Region.ready .any ops listed := by simpa using hr
    obtain ⟨v, o, n, hy, hK⟩ := h
    refine wpAnyA_first h0 ops.size [] l.length listed s hcl hfr (fun j hj => by cases hj) (fun j oj ej hj hej hjk hun hno => .inl ?_) hes hr hy
      (wpAnyA_lex hes hlen l (k + 1) _ _ (closed_set hcl hr) (YF_fr hfr hy) (fun j => by have := hl (j + 1); simpa [Nat.add_assoc, Nat.add_comm 1 j] using this) hB' hK)
    have hjl : j < ops.size := (Array.getElem?_eq_some_iff.1 hj).1
    have := (List.all_eq_true.1 hf) j (by simpa using hjl)
    simp only [Bool.or_eq_true, h0, hej] at this
    rcases this with h1 | h1 | h1 | h1
    · exact absurd (beq_eq h1) hjk
    · rw [hun] at h1; cases h1
    · exact h1
    · rw [hno] at h1; cases h1

/-! The same, where stores may come ahead of a load of another box. -/
def freeS (ops : Array Oper) (es : List Ent) (js : List Nat) (listed : Array Bool) (k : Nat) : Bool :=
  (List.range ops.size).all fun j => Nat.beq j k || (listed.getD j true || ((match es[k]?, es[j]? with
    | some x, some y => apartE x y || sepE js x y
    | _, _ => false) || transC ops k ops.size j))

def noDst (es : List Ent) (js : List Nat) : Bool := js.all fun j => es.all fun en => match en.dst with
  | some d => !Nat.beq d j
  | none => true

def lexS (ops : Array Oper) (es : List Ent) : List (List Nat) → Nat → Array Bool → Bool
  | [], _, listed => (Region.ready .any ops listed).isEmpty
  | js :: r, k, listed => (Region.ready .any ops listed).contains k && (noDst es js && (freeS ops es js listed k && lexS ops es r (k + 1) (listed.setIfInBounds k true)))

def wpTxtS (P : Program) (gl : Nat → AV) (Q : FS → Prop) : List (Ent × List Nat) → FS → Prop
  | [], s => Q s
  | (en, js) :: r, s => sepB s.E en.op js = true ∧ qE P gl en (wpTxtS P gl Q r) s

theorem noDst_spec {js : List Nat} (h : noDst es js = true) : ∀ j ∈ js, ∀ en ∈ es, en.dst ≠ some j := fun j hj en hen he => by
  have := List.all_eq_true.1 (List.all_eq_true.1 h j hj) en hen
  rw [he] at this
  simp at this

theorem wpAnyA_lexS {Q : FS → Prop} (hes : ∀ (j : Nat) oj, ops[j]? = some oj → ∃ ej, es[j]? = some ej) (hlen : es.length = ops.size) : ∀ (l : List (Ent × List Nat)) (k : Nat) (listed : Array Bool) (s : FS), Closed ops listed → Fr s → (∀ j, (l.map (·.1))[j]? = es[k + j]?) →
    lexS ops es (l.map (·.2)) k listed = true → wpTxtS P gl Q l s → wpAnyA P gl ops es Q l.length listed s
  | [], _, _, _, _, _, _, hB, h => ⟨by simpa [lexS] using hB, h⟩
  | (en, js) :: l, k, listed, s, hcl, hfr, hl, hB, h => by
    have h0 : es[k]? = some en := by simpa using (hl 0).symm
    simp only [List.map_cons, lexS, Bool.and_eq_true] at hB
    obtain ⟨hr, hnd, hf, hB'⟩ := hB
    have hr : k ∈ Region.ready .any ops listed := by simpa using hr
    obtain ⟨hsep, v, o, n, hy, hK⟩ := h
    refine wpAnyA_first h0 ops.size js l.length listed s hcl hfr (fun j hj => ?_) (fun j oj ej hj hej hjk hun hno => ?_) hes hr hy
      (wpAnyA_lexS hes hlen l (k + 1) _ _ (closed_set hcl hr) (YF_fr hfr hy) (fun j => by have := hl (j + 1); simpa [Nat.add_assoc, Nat.add_comm 1 j] using this) hB' hK)
    · exact ⟨noDst_spec hnd j hj, sepB_spec hsep j hj⟩
    · have hjl : j < ops.size := (Array.getElem?_eq_some_iff.1 hj).1
      have := (List.all_eq_true.1 hf) j (by simpa using hjl)
      simp only [Bool.or_eq_true, h0, hej] at this
      rcases this with h1 | h1 | (h1 | h1) | h1
      · exact absurd (beq_eq h1) hjk
      · rw [hun] at h1; cases h1
      · exact .inl h1
      · exact .inr h1
      · rw [hno] at h1; cases h1

/-! The same, where boxes are made in the region itself. -/
def SepZ (ei : Ent) (js : List Nat) (s : FS) : Prop := ∀ j ∈ js, ∀ i b p, adr ei.op = some i → s.E i = .ptr b p → b ≠ s.n - j

theorem wpAnyA_firstR {Q : FS → Prop} {i : Nat} {ei : Ent} (hi : es[i]? = some ei) (hkeep : ∀ (j : Nat) ej, es[j]? = some ej → keepN ej.op = true) (d : Nat) (js : List Nat) : ∀ (fuel : Nat) (listed : Array Bool) (s : FS) {v : AV} {o : Objs} {n : Nat}, Closed ops listed → Fr s → SepZ ei js s →
      (∀ (j : Nat) oj ej, ops[j]? = some oj → es[j]? = some ej → j ≠ i → listed.getD j true = false → transC ops i d j = false → apartE ei ej = true ∨ apartS ei ej = true ∨ sepR js ei ej = true) →
      (∀ (j : Nat) oj, ops[j]? = some oj → ∃ ej, es[j]? = some ej) →
      i ∈ Region.ready .any ops listed → YF P gl ei s v o n →
      wpAnyA P gl ops es Q fuel (listed.setIfInBounds i true) (s.next ei v o n) → wpAnyA P gl ops es Q (fuel + 1) listed s := by
  intro fuel
  induction fuel with
  | zero =>
    intro listed s v o n hcl hfr hsp _ _ hr hy H
    refine ⟨fun h => (by rw [h] at hr; cases hr), fun j hj => ?_⟩
    by_cases hji : j = i
    · subst hji
      unfold qI; rw [hi]
      exact ⟨v, o, n, hy, H⟩
    · have := ready_mono hj hji
      rw [H.1] at this
      cases this
  | succ fuel ih =>
    intro listed s v o n hcl hfr hsp hfree hes hr hy H
    refine ⟨fun h => (by rw [h] at hr; cases hr), fun j hj => ?_⟩
    by_cases hji : j = i
    · subst hji
      unfold qI; rw [hi]
      exact ⟨v, o, n, hy, H⟩
    · have h1 := H.2 j (ready_mono hj hji)
      obtain ⟨hjun, oj, hoj, hall⟩ := mem_ready.1 hj
      obtain ⟨ej, hej⟩ := hes j oj hoj
      have hnot : transC ops i d j = false := by
        cases ht : transC ops i d j with
        | false => rfl
        | true =>
          obtain ⟨e, he, hb, hn⟩ := trans_not hcl (mem_ready.1 hr).1 d j oj hoj ht
          exact absurd (hall e he hb) hn
      unfold qI at h1 ⊢
      rw [hej] at h1 ⊢
      obtain ⟨u, o2, n2, hy2, hK⟩ := h1
      obtain ⟨hapV, o3, n3, hy3, hy4, he⟩ : apartV ei ej = true ∧ ∃ o3 n3, YF P gl ej s u o3 n3 ∧ YF P gl ei (s.next ej u o3 n3) v o2 n2 ∧ (s.next ej u o3 n3).next ei v o2 n2 = (s.next ei v o n).next ej u o2 n2 := by
        rcases hfree j oj ej hoj hej hji hjun hnot with ha | ha | ha
        · have hav : apartV ei ej = true := by simp only [apartE, Bool.and_eq_true] at ha; exact ha.1
          exact ⟨hav, YF_swap ha hfr hy hy2⟩
        · have hav : apartV ei ej = true := by simp only [apartS, Bool.and_eq_true] at ha; exact ha.1
          exact ⟨hav, YF_swapR ha hy hy2⟩
        · simp only [sepR, Bool.and_eq_true] at ha
          obtain ⟨hav, _, hsome, hb⟩ := ha
          split at hb
          · rename_i q hq
            obtain ⟨i2, h6⟩ := Option.isSome_iff_exists.1 hsome
            exact ⟨hav, YF_swapZ hav h6 hq (fun b p hE => hsp q (by simpa using hb) i2 b p h6 hE) hy hy2⟩
          · cases hb
      have hn3 : n3 = s.n := YF_keep (hkeep j ej hej) hy3
      have hsp' : SepZ ei js (s.next ej u o3 n3) := fun q hq i2 b p h6 hE => by
        have e1 : s.E i2 = .ptr b p := by
          rw [← hE]
          exact (putD_ne (fun x hx e => (apartV_spec hapV).2.2 x hx (e ▸ rds_adr h6))).symm
        show b ≠ n3 - q
        rw [hn3]
        exact hsp q hq i2 b p h6 e1
      refine ⟨u, o3, n3, hy3, ?_⟩
      have hfree' : ∀ (k : Nat) ok ek, ops[k]? = some ok → es[k]? = some ek → k ≠ i → (listed.setIfInBounds j true).getD k true = false →
          transC ops i d k = false → apartE ei ek = true ∨ apartS ei ek = true ∨ sepR js ei ek = true := fun k ok ek hk hk2 hki hun hno => by
        refine hfree k ok ek hk hk2 hki ?_ hno
        by_cases hjk : j = k
        · subst hjk; exact hjun
        · rw [getD_set_ne true hjk] at hun; exact hun
      refine ih (listed.setIfInBounds j true) _ (closed_set hcl hj) (YF_fr hfr hy3) hsp' hfree' hes (ready_mono hr (Ne.symm hji)) hy4 ?_
      rw [Array.setIfInBounds_comm _ _ hji, he]
      exact hK

def freeR (ops : Array Oper) (es : List Ent) (js : List Nat) (listed : Array Bool) (k : Nat) : Bool :=
  (List.range ops.size).all fun j => Nat.beq j k || (listed.getD j true || ((match es[k]?, es[j]? with
    | some x, some y => apartE x y || (apartS x y || sepR js x y)
    | _, _ => false) || transC ops k ops.size j))

/-- A load that may be swapped with a store into a box of the region's own is not guarded. -/
def bareB (en : Ent) : List Nat → Bool
  | [] => true
  | _ :: _ => match en.gd with
    | none => true
    | some _ => false

def lexR (ops : Array Oper) (es : List Ent) : List (Nat × List Nat) → Array Bool → Bool
  | [], listed => (Region.ready .any ops listed).isEmpty
  | (k, js) :: r, listed => (Region.ready .any ops listed).contains k && ((match es[k]? with | some en => bareB en js | none => false) && (freeR ops es js listed k && lexR ops es r (listed.setIfInBounds k true)))

def wpTxtR (P : Program) (gl : Nat → AV) (Q : FS → Prop) : List (Ent × List Nat) → FS → Prop
  | [], s => Q s
  | (en, js) :: r, s => soonB s.n s.o js = true ∧ qE P gl en (wpTxtR P gl Q r) s

def pickE (es : List Ent) : List (Nat × List Nat) → List (Ent × List Nat)
  | [] => []
  | (k, js) :: r => (es.getD k (.n .dead), js) :: pickE es r

theorem soonB_spec {n : Nat} {o : Objs} : ∀ {js : List Nat}, soonB n o js = true → ∀ j ∈ js, lookO (n - j) o = some .soon
  | [], _, j, hj => by cases hj
  | k :: r, h, j, hj => by
    simp only [soonB, Bool.and_eq_true] at h
    obtain ⟨h1, h2⟩ := h
    rcases List.mem_cons.1 hj with rfl | hj
    · split at h1
      · assumption
      · cases h1
    · exact soonB_spec h2 j hj

theorem ld_box {P : Program} {gl : Nat → AV} {E : Nat → AV} {o : Objs} {n i : Nat} {p : IOp} (hp : adr p = some i) {v : AV} {o1 : Objs} {n1 : Nat} (h : wpF false P gl ⟨E, o, n⟩ p (fun x y z => x = v ∧ y = o1 ∧ z = n1)) {b : Nat} {q : List PE} (he : E i = .ptr b q) :
    ∃ a, lookO b o = some (.box a) := by
  cases p <;> simp only [adr] at hp <;> try cases hp
  rename_i ag m x
  cases x <;> simp only [] at hp <;> try cases hp
  simp only [wpF, wpV, evF, he] at h
  split at h
  · rename_i a hb; exact ⟨a, hb⟩
  · exact h.elim

theorem wpAnyA_lexR {Q : FS → Prop} (hes : ∀ (j : Nat) oj, ops[j]? = some oj → ∃ ej, es[j]? = some ej) (hkeep : ∀ (j : Nat) ej, es[j]? = some ej → keepN ej.op = true) : ∀ (l : List (Nat × List Nat)) (listed : Array Bool) (s : FS), Closed ops listed → Fr s →
    lexR ops es l listed = true → wpTxtR P gl Q (pickE es l) s → wpAnyA P gl ops es Q l.length listed s
  | [], _, _, _, _, hB, h => ⟨by simpa [lexR] using hB, h⟩
  | (k, js) :: l, listed, s, hcl, hfr, hB, h => by
    simp only [lexR, Bool.and_eq_true] at hB
    obtain ⟨hr, hbare, hf, hB'⟩ := hB
    split at hbare
    · rename_i en h0
      have hg : es.getD k (.n .dead) = en := by simp [List.getD, h0]
      simp only [pickE, wpTxtR, hg] at h
      have hr : k ∈ Region.ready .any ops listed := by simpa using hr
      obtain ⟨hsoon, v, o, n, hy, hK⟩ := h
      refine wpAnyA_firstR h0 hkeep ops.size js l.length listed s hcl hfr (fun j hj i b p hi hE => ?_) (fun j oj ej hj hej hjk hun hno => ?_) hes hr hy
        (wpAnyA_lexR hes hkeep l _ _ (closed_set hcl hr) (YF_fr hfr hy) hB' hK)
      · have hs := soonB_spec hsoon j hj
        rcases hy with ⟨_, hy⟩ | ⟨hgd, _⟩
        · obtain ⟨a, hb⟩ := ld_box (o := s.o) (n := s.n) hi hy hE
          rintro rfl
          rw [hs] at hb
          cases hb
        · cases js with
          | nil => cases hj
          | cons j0 r =>
            simp only [bareB] at hbare
            split at hbare
            · rename_i hnone
              rw [hnone] at hgd
              cases hgd
            · cases hbare
      · have hjl : j < ops.size := (Array.getElem?_eq_some_iff.1 hj).1
        have := (List.all_eq_true.1 hf) j (by simpa using hjl)
        simp only [Bool.or_eq_true, h0, hej] at this
        rcases this with h1 | h1 | (h1 | h1 | h1) | h1
        · exact absurd (beq_eq h1) hjk
        · rw [hun] at h1; cases h1
        · exact .inl h1
        · exact .inr (.inl h1)
        · exact .inr (.inr h1)
        · rw [hno] at h1; cases h1
    · cases hbare

/-- What an operation makes of the machine. -/
theorem compF_ok {b : Bool} {g : Gh} {w : World} {s : FS} {a : Act} (h : Good P gl N g w s.E s.o s.n a) {oo : Oper} {p : IOp} (hc : compOp P oo.op = some p) {K : AV → Objs → Nat → Prop} (hw : wpF b P gl s p K)
    {next : Act → World → Prop} {Q : Exit → Act → World → Prop}
    (hn : ∀ v cv g' w' o' n' a', (R g' w' v).v cv → Good P gl N g' w' s.E o' n' a' → Stp g w s.o g' w' o' → K v o' n' → next (a'.put oo.dst cv) w') : oo.wp P a w next Q := by
  unfold Oper.wp
  simp only [compOp] at hc
  split at hc
  · rename_i q hq
    injection hc with hc
    subst hc
    have hv : wpV (evF gl s.E) s.o q fun v => K v s.o s.n := by
      cases q <;> simp only [wpF] at hw <;> first | exact hw | (exfalso; cases hop : oo.op <;> rw [hop] at hq <;> simp only [compV] at hq <;> (repeat' (split at hq)) <;> cases hq)
    obtain ⟨v, cv, hr, h1, h2⟩ := compV_ok h hq hv
    rw [hr]
    exact hn v cv g w s.o s.n a h1 h (Stp.refl g w s.o) h2
  · split at hc
    · rename_i q hq
      injection hc with hc
      subst hc
      have hl : wpL (evF gl s.E) s.o s.n q K := by
        cases q <;> simp only [wpF] at hw <;> first | exact hw | (exfalso; cases hop : oo.op <;> rw [hop] at hq <;> simp only [compL] at hq <;> (repeat' (split at hq)) <;> cases hq)
      obtain ⟨v, nx, w', g', o', n', hr, ⟨cv, hcv, h1⟩, h2, h3, h4⟩ := compL_ok h hq hl
      rw [hr]
      rcases hcv with rfl | ⟨rfl, rfl⟩
      · exact hn v cv g' w' o' n' a h1 h2 h3 h4
      · exact hn v undef g' w' o' n' a h1 h2 h3 h4
    · split at hc
      · rename_i q hq
        injection hc with hc
        subst hc
        cases q with
        | call f l =>
          obtain ⟨xs, rfl, hr⟩ := compC_run hq a w
          simp only [wpF] at hw
          cases b with
          | true =>
            rw [hr]
            refine (hw.s N g w _ a _ h (evFL_ok h xs)).mono ?_
            rintro x w' ⟨v, u, g', o', n', rfl, h1, h2, h3, h4⟩
            exact hn v u g' w' o' n' a h1 h2 h3 h4
          | false =>
          rcases hw with ⟨args', r, hle, hp, hK⟩ | ⟨t, m, e, ty, args', r, m', ht, hle, hp, hK⟩
          · rw [hr]
            have hargs := RL.le hle (evFL_ok h xs)
            refine (good_callV h hp hargs).mono ?_
            rintro x w' ⟨u, g', rfl, h1, h2, h3, _⟩
            exact hn r u g' w' s.o s.n a h3 h1 h2 hK
          · rw [hr]
            have hargs := RL_leT h ht hle (evFL_ok h xs)
            refine (good_callT h ht hp hargs).mono ?_
            rintro x w' ⟨u, g', rfl, h1, h2, h3, _⟩
            exact hn _ u g' w' _ s.n a h3 h1 h2 hK
        | xcall f l =>
          obtain ⟨xs, rfl, hr⟩ := compC_x hq a w
          simp only [wpF] at hw
          obtain ⟨r, hp, hK⟩ := hw
          obtain ⟨v, h1, h2⟩ := hp g w _ (evFL_ok h xs)
          rw [hr, h1]
          exact hn r v g w s.o s.n a h2 h (Stp.refl g w s.o) hK
        | calv x l =>
          obtain ⟨xo, xs, rfl, rfl, hrun⟩ := compC_v hq a w
          simp only [wpF] at hw
          have hx := ev_ok h xo
          split at hw
          · rename_i f fa fc he
            obtain ⟨hok, hw⟩ := hw
            rw [he] at hx
            obtain ⟨⟨ys, zs, hu, hl1, hl2⟩, _⟩ := hx
            rw [hrun f ys zs hu hok]
            have hargs : RL g w (toLA fa ++ evFL gl s.E (xs.map cx) ++ toLA fc) (ys.toList ++ xs.map a.eval ++ zs.toList) := RL_append (RL_append (toLA_RL fa hl1) (evFL_ok h xs)) (toLA_RL fc hl2)
            cases b with
            | true =>
              refine (hw.s N g w _ a _ h hargs).mono ?_
              rintro x w' ⟨v, u, g', o', n', rfl, h1, h2, h3, h4⟩
              exact hn v u g' w' o' n' a h1 h2 h3 h4
            | false =>
              rcases hw with ⟨args', r, hle, hp, hK⟩ | ⟨t, m, e, ty, args', r, m', ht, hle, hp, hK⟩
              · refine (good_callV h hp (RL.le hle hargs)).mono ?_
                rintro x w' ⟨u, g', rfl, h1, h2, h3, _⟩
                exact hn r u g' w' s.o s.n a h3 h1 h2 hK
              · refine (good_callT h ht hp (RL_leT h ht hle hargs)).mono ?_
                rintro x w' ⟨u, g', rfl, h1, h2, h3, _⟩
                exact hn _ u g' w' _ s.n a h3 h1 h2 hK
          · exact hw.elim
        | dfr x =>
          obtain ⟨xo, rfl, hrun⟩ := compC_d hq a w
          simp only [wpF] at hw
          have hx := ev_ok h xo
          split at hw
          · rename_i f fc he
            rw [he] at hx
            obtain ⟨⟨ys, zs, hu, hl1, hl2⟩, _⟩ := hx
            have hys : ys = #[] := by apply Array.ext'; exact hl1
            subst hys
            rw [hrun f zs hu]
            refine hn .any undef g w s.o s.n { a with defers := ⟨.fn (.func f) zs, #[]⟩ :: a.defers } trivial ⟨h.objs, h.inj, h.blt, h.mlt, h.rlt, h.env, h.sz, fun d hd => ?_, h.gz, h.gl⟩ (Stp.refl g w s.o) hw.2
            rcases List.mem_cons.1 hd with rfl | hd
            · exact hw.1.h zs
            · exact h.def_ d hd
          · exact hw.elim
        | _ => exfalso; cases hop : oo.op <;> rw [hop] at hq <;> simp only [compC] at hq <;> (repeat' (split at hq)) <;> cases hq
      · injection hc with hc
        subst hc
        simp only [wpF, wpV] at hw

theorem comp_alloc {P : Program} {op : Op} {z : AV} (h : compOp P op = some (.alloc z)) : ∃ t, op = .alloc t ∧ zOk P t z = true := by
  simp only [compOp] at h
  split at h
  · rename_i q hq
    injection h with h; subst h
    exfalso
    cases op <;> simp only [compV] at hq <;> (repeat' (split at hq)) <;> cases hq
  · split at h
    · rename_i q hq
      injection h with h; subst h
      cases op <;> simp only [compL] at hq
      case alloc t =>
        split at hq
        · rename_i hz
          injection hq with hq
          injection hq with hq
          subst hq
          exact ⟨_, rfl, hz⟩
        · cases hq
      all_goals (exfalso; (repeat' (split at hq)) <;> cases hq)
    · split at h
      · rename_i q hq
        injection h with h; subst h
        exfalso
        cases op <;> simp only [compC] at hq <;> (repeat' (split at hq)) <;> cases hq
      · cases h

/-- The entry is the operation, or stands for it. -/
def OpIs (P : Program) (op : Op) (p : IOp) : Prop :=
  compOp P op = some p ∨ (∃ j z, compOp P op = some (.alloc z) ∧ p = .alcN j z) ∨ (∃ j sz x v, compOp P op = some (.sto sz x v) ∧ p = .stoN j sz x v) ∨ (∃ f l, compOp P op = some (.call f l) ∧ p = .callx f l)

theorem compI_ok {b : Bool} {g : Gh} {w : World} {s : FS} {a : Act} (h : Good P gl N g w s.E s.o s.n a) {oo : Oper} {p : IOp} (hc : OpIs P oo.op p) {K : AV → Objs → Nat → Prop} (hw : wpF b P gl s p K)
    {next : Act → World → Prop} {Q : Exit → Act → World → Prop}
    (hn : ∀ v cv g' w' o' n' a', (R g' w' v).v cv → Good P gl N g' w' s.E o' n' a' → Stp g w s.o g' w' o' → K v o' n' → next (a'.put oo.dst cv) w') : oo.wp P a w next Q := by
  rcases hc with hc | ⟨j, z, hc, rfl⟩ | ⟨j, sz, x, v, hc, rfl⟩ | ⟨f, l, hc, rfl⟩
  · exact compF_ok h hc hw hn
  · obtain ⟨t, ho, hz⟩ := comp_alloc hc
    have hw : wpL (evF gl s.E) s.o s.n (.alcN j z) K := by simpa only [wpF] using hw
    obtain ⟨v, nx, w', g', o', n', hr, ⟨cv, hcv, h1⟩, h2, h3, h4⟩ := ok_alcN h ho hz hw
    unfold Oper.wp
    rw [hr]
    rcases hcv with rfl | ⟨rfl, rfl⟩
    · exact hn v cv g' w' o' n' a h1 h2 h3 h4
    · exact hn v undef g' w' o' n' a h1 h2 h3 h4
  · refine compF_ok (b := b) h hc ?_ hn
    simp only [wpF] at hw ⊢
    exact (stoN_sto hw).1
  · exact compF_ok (b := true) h hc (by simpa only [wpF] using hw) hn

structure EntOf (P : Program) (N : Nat) (ops : List Oper) (oo : Oper) (en : Ent) : Prop where
  dst : en.dst = oo.dst
  lt : ∀ d, oo.dst = some d → d < N
  op : OpIs P oo.op en.op
  gd : match oo.guard with
    | none => en.gd = none
    | some (j, b) => ∃ t, (ops[j]?).bind (·.dst) = some t ∧ en.gd = some (t, b)

theorem compE_spec {all : List Oper} : ∀ (l : List Oper) (es : List Ent), compE P N all l = some es → es.length = l.length ∧ ∀ (j : Nat) oo, l[j]? = some oo → ∃ en, es[j]? = some en ∧ EntOf P N all oo en
  | [], es, h => by simp only [compE] at h; injection h with h; subst h; exact ⟨rfl, fun j oo hj => by simp at hj⟩
  | oo :: r, es, h => by
    simp only [compE] at h
    split at h
    · rename_i p l hp hl
      obtain ⟨h1, h2⟩ := compE_spec r l hl
      have fin : ∀ en, es = en :: l → EntOf P N all oo en → es.length = (oo :: r).length ∧ ∀ (j : Nat) o2, (oo :: r)[j]? = some o2 → ∃ en, es[j]? = some en ∧ EntOf P N all o2 en := by
        rintro en rfl he
        refine ⟨by simp [h1], fun j o2 hj => ?_⟩
        cases j with
        | zero => simp at hj; subst hj; exact ⟨en, rfl, he⟩
        | succ j => simp at hj; obtain ⟨e2, a1, a2⟩ := h2 j o2 hj; exact ⟨e2, by simpa using a1, a2⟩
      split at h
      · rename_i d hd hg
        split at h
        · rename_i hlt
          injection h with h
          exact fin _ h.symm ⟨hd.symm ▸ rfl, fun d' hd' => by rw [hd] at hd'; injection hd' with hd'; subst hd'; exact Nat.le_of_ble_eq_true hlt, .inl hp, by rw [hg]; rfl⟩
        · cases h
      · rename_i hd hg
        injection h with h
        exact fin _ h.symm ⟨hd.symm ▸ rfl, fun d' hd' => by (rw [hd] at hd'; cases hd'), .inl hp, by rw [hg]; rfl⟩
      · rename_i d j b hd hg
        split at h
        · rename_i t ht
          split at h
          · rename_i hlt
            injection h with h
            exact fin _ h.symm ⟨hd.symm ▸ rfl, fun d' hd' => by rw [hd] at hd'; injection hd' with hd'; subst hd'; exact Nat.le_of_ble_eq_true hlt, .inl hp, by rw [hg]; exact ⟨t, ht, rfl⟩⟩
          · cases h
        · cases h
      · rename_i j b hd hg
        split at h
        · rename_i t ht
          injection h with h
          exact fin _ h.symm ⟨hd.symm ▸ rfl, fun d' hd' => by (rw [hd] at hd'; cases hd'), .inl hp, by rw [hg]; exact ⟨t, ht, rfl⟩⟩
        · cases h
    · cases h

theorem compE_op {all : List Oper} : ∀ (l : List Oper) (es : List Ent), compE P N all l = some es → es.length = l.length ∧ ∀ (j : Nat) oo en, l[j]? = some oo → es[j]? = some en → compOp P oo.op = some en.op
  | [], es, h => by simp only [compE] at h; injection h with h; subst h; exact ⟨rfl, fun j oo en hj => by simp at hj⟩
  | oo :: r, es, h => by
    simp only [compE] at h
    split at h
    · rename_i p l hp hl
      obtain ⟨h1, h2⟩ := compE_op r l hl
      have fin : ∀ en, es = en :: l → en.op = p → es.length = (oo :: r).length ∧ ∀ (j : Nat) o2 e2, (oo :: r)[j]? = some o2 → es[j]? = some e2 → compOp P o2.op = some e2.op := by
        rintro en rfl he
        refine ⟨by simp [h1], fun j o2 e2 hj hj2 => ?_⟩
        cases j with
        | zero => simp at hj hj2; subst hj hj2; rw [he]; exact hp
        | succ j => simp at hj hj2; exact h2 j o2 e2 hj hj2
      split at h
      · split at h
        · injection h with h; exact fin _ h.symm rfl
        · cases h
      · injection h with h; exact fin _ h.symm rfl
      · split at h
        · split at h
          · injection h with h; exact fin _ h.symm rfl
          · cases h
        · cases h
      · split at h
        · injection h with h; exact fin _ h.symm rfl
        · cases h
    · cases h

theorem Good.putO {g : Gh} {w : World} {E : Nat → AV} {o : Objs} {n : Nat} {a : Act} (h : Good P gl N g w E o n a) {d : Option Nat} (hd : ∀ x, d = some x → x < N) {v : AV} {u : Value} (hv : (R g w v).v u) : Good P gl N g w (putD E d v) o n (a.put d u) := by
  cases d with
  | none => exact h
  | some x => exact h.put (hd x rfl) hv

theorem guard_ok {g : Gh} {w : World} {s : FS} {a : Act} (h : Good P gl N g w s.E s.o s.n a) {oo : Oper} {en : Ent} (he : EntOf P N ops.toList oo en) {r : Bool} (hg : Gd s en.gd r) : Region.wanted oo (yielded ops a.tmps) = r := by
  have hgd := he.gd
  cases hq : oo.guard with
  | none =>
    rw [hq] at hgd
    simp only [] at hgd
    rw [hgd] at hg
    simp only [Gd] at hg
    simp only [Region.wanted, hq, hg]
  | some q =>
    obtain ⟨j, b⟩ := q
    rw [hq] at hgd
    obtain ⟨t, ht, hen⟩ := hgd
    rw [hen] at hg
    rw [Array.getElem?_toList] at ht
    rcases hg with ⟨c, hc, rfl⟩ | ⟨hc, rfl⟩
    · have := h.env t
      rw [hc] at this
      have hv := val_v this
      have hv' : a.tmps[t]? = some (.bool c) := by
        rw [Array.getD_eq_getD_getElem?] at hv
        cases hx : a.tmps[t]? with
        | none => rw [hx] at hv; simp [undef] at hv
        | some y => rw [hx] at hv; simp at hv; rw [hv]
      simp only [Region.wanted, hq, yielded]
      rw [ht]
      simp only [Option.bind_some, hv']
      cases c <;> cases b <;> rfl
    · have := h.env t
      rw [hc] at this
      obtain ⟨vs, hv, hn⟩ := this
      have hn : vs.toList = [] := hn
      have hn : vs = #[] := by simpa using hn
      subst hn
      simp only [Region.wanted, hq, yielded]
      rw [ht]
      rw [Array.getD_eq_getD_getElem?] at hv
      cases hx : a.tmps[t]? with
      | none => simp [hx]
      | some y => rw [hx] at hv; simp at hv; subst hv; simp [hx]

/-- One entry, on the machine. -/
theorem qE_ok {g : Gh} {w : World} {s : FS} {a : Act} (h : Good P gl N g w s.E s.o s.n a) {i : Nat} {oo : Oper} {en : Ent} (hi : ops[i]? = some oo) (he : EntOf P N ops.toList oo en) {K : FS → Prop} (hq : qE P gl en K s)
    {next : Act → World → Prop} {Q : Exit → Act → World → Prop}
    (hn : ∀ s' g' w' a', Good P gl N g' w' s'.E s'.o s'.n a' → Stp g w s.o g' w' s'.o → K s' → next a' w') : Go.wpOp P ops Q i next a w := by
  obtain ⟨v, o, n, hy, hK⟩ := hq
  unfold Go.wpOp
  rw [hi]
  simp only []
  rcases hy with ⟨h1, h2⟩ | ⟨h1, rfl, rfl, rfl⟩
  · rw [guard_ok h he h1]
    simp only [if_true]
    refine .inl (compI_ok h he.op h2 ?_)
    rintro v' cv g' w' o' n' a' hv hg hs ⟨rfl, rfl, rfl⟩
    refine hn _ g' w' _ ?_ hs hK
    rw [← he.dst]
    exact hg.putO (fun x hx => he.lt x (he.dst ▸ hx)) hv
  · rw [guard_ok h he h1]
    simp only [Bool.false_eq_true, if_false]
    refine hn (s.next en (.tup .nil) s.o s.n) g w _ ?_ (Stp.refl g w s.o) hK
    rw [← he.dst]
    exact h.putO (v := .tup .nil) (u := undef) (fun x hx => he.lt x (he.dst ▸ hx)) ⟨#[], rfl, rfl⟩

theorem wpAnyA_ok {Q : FS → Prop} {Q' : Exit → Act → World → Prop} {g0 : Gh} {w0 : World} {o0 : Objs} (hes : ∀ (j : Nat) oj, ops[j]? = some oj → ∃ ej, es[j]? = some ej ∧ EntOf P N ops.toList oj ej)
    (hQ : ∀ s g w a, Good P gl N g w s.E s.o s.n a → Stp g0 w0 o0 g w s.o → Q s → Q' .normal a w) : ∀ (fuel : Nat) (listed : Array Bool) (s : FS) (g : Gh) (w : World) (a : Act),
    Good P gl N g w s.E s.o s.n a → Stp g0 w0 o0 g w s.o → wpAnyA P gl ops es Q fuel listed s → wpAny P .any ops Q' fuel listed a w
  | 0, listed, s, g, w, a, h, hs, hq => ⟨hq.1, hQ s g w a h hs hq.2⟩
  | fuel + 1, listed, s, g, w, a, h, hs, hq => by
    refine ⟨fun h0 => hQ s g w a h hs (hq.1 h0), fun i hi => ?_⟩
    obtain ⟨_, oo, hoo, _⟩ := mem_ready.1 hi
    obtain ⟨en, hen, he⟩ := hes i oo hoo
    have h1 := hq.2 i hi
    unfold qI at h1
    rw [hen] at h1
    exact qE_ok h hoo he h1 (fun s' g' w' a' hg hst hK => wpAnyA_ok hes hQ fuel _ s' g' w' a' hg (hs.trans hst) hK)

theorem wpTxt_ok {Q : FS → Prop} {Q' : Exit → Act → World → Prop} {g0 : Gh} {w0 : World} {o0 : Objs} (hes : ∀ (j : Nat) oj, ops[j]? = some oj → ∃ ej, es[j]? = some ej ∧ EntOf P N ops.toList oj ej) (hlen : es.length = ops.size)
    (hQ : ∀ s g w a, Good P gl N g w s.E s.o s.n a → Stp g0 w0 o0 g w s.o → Q s → Q' .normal a w) : ∀ (l : List Ent) (k : Nat) (s : FS) (g : Gh) (w : World) (a : Act), (∀ j, l[j]? = es[k + j]?) → k + l.length = ops.size →
    Good P gl N g w s.E s.o s.n a → Stp g0 w0 o0 g w s.o → wpTxt P gl Q l s → wpOps P ops Q' (List.range' k l.length) a w
  | [], k, s, g, w, a, _, _, h, hs, hq => hQ s g w a h hs hq
  | en :: r, k, s, g, w, a, hl, hk, h, hs, hq => by
    have h0 : es[k]? = some en := by simpa using (hl 0).symm
    have hlt : k < ops.size := by simp at hk; omega
    obtain ⟨en', he1, he2⟩ := hes k ops[k] (Array.getElem?_eq_getElem hlt)
    rw [h0] at he1
    injection he1 with he1
    subst he1
    rw [List.length_cons, List.range'_succ, wpOps_cons]
    exact qE_ok h (Array.getElem?_eq_getElem hlt) he2 hq (fun s' g' w' a' hg hst hK => wpTxt_ok hes hlen hQ r (k + 1) s' g' w' a' (fun j => by have := hl (j + 1); simpa [Nat.add_assoc, Nat.add_comm 1 j] using this) (by simp at hk; omega) hg (hs.trans hst) hK)

end
end Ar
