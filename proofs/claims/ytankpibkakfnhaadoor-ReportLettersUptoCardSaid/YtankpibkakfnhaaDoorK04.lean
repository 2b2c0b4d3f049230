/- What an operation of a region reads, and that two that do not touch may change places. No condition. -/
import Derived.Test.YtankpibkakfnhaaDoorK03
set_option linter.all false
namespace Ar
open Go
set_option linter.unusedVariables false
set_option autoImplicit false

def rdX : X → List Nat
  | .t i => [i]
  | _ => []

def rdL : List X → List Nat
  | [] => []
  | x :: r => rdX x ++ rdL r

def rdP : List (Nat × Nat × Nat × X) → List Nat
  | [] => []
  | (_, _, _, x) :: r => rdX x ++ rdP r

def rd : IOp → List Nat
  | .mv x => rdX x
  | .pick c a b => rdX c ++ (rdX a ++ rdX b)
  | .alloc _ => []
  | .box x => rdX x
  | .ld _ _ x => rdX x
  | .sto _ x v => rdX x ++ rdX v
  | .fa _ _ x => rdX x
  | .fld _ _ _ _ x => rdX x
  | .ixa _ _ x i => rdX x ++ rdX i
  | .ixs _ x i => rdX x ++ rdX i
  | .ix _ _ _ x i => rdX x ++ rdX i
  | .ixb x i => rdX x ++ rdX i
  | .bin _ x y => rdX x ++ rdX y
  | .sop _ x y => rdX x ++ rdX y
  | .eqv _ x y => rdX x ++ rdX y
  | .eqn _ x => rdX x
  | .un _ x => rdX x
  | .conv _ x => rdX x
  | .b2s x => rdX x
  | .len x => rdX x
  | .lens x => rdX x
  | .ext _ x => rdX x
  | .build _ l => rdP l
  | .nck x => rdX x
  | .eqs _ _ x y => rdX x ++ rdX y
  | .slc _ x lo hi => rdX x ++ (rdX lo ++ rdX hi)
  | .sls x lo hi => rdX x ++ (rdX lo ++ rdX hi)
  | .mm _ x y => rdX x ++ rdX y
  | .mm3 _ x y z => rdX x ++ (rdX y ++ rdX z)
  | .mm4 _ x y z u => rdX x ++ (rdX y ++ (rdX z ++ rdX u))
  | .dead => []
  | .xcall _ l => rdL l
  | .bsl _ _ _ l => rdP l
  | .app _ _ _ x y => rdX x ++ rdX y
  | .appz _ _ _ _ x c => rdX x ++ rdX c
  | .call _ l => rdL l
  | .callx _ l => rdL l
  | .mkf _ a b => rdL a ++ rdL b
  | .calv x l => rdX x ++ rdL l
  | .dfr x => rdX x
  | .mks _ _ _ _ l c => rdX l ++ rdX c
  | .s2b _ x => rdX x
  | .cvb x => rdX x
  | .aps _ x y => rdX x ++ rdX y
  | .sla _ _ _ x lo hi => rdX x ++ (rdX lo ++ rdX hi)
  | .mkm _ => []
  | .mupd _ m key v => rdX m ++ (rdX key ++ rdX v)
  | .mget _ _ _ m key => rdX m ++ rdX key
  | .alcN _ _ => []
  | .stoN _ _ x v => rdX x ++ rdX v

def isN : IOp → Bool
  | .ld _ _ _ | .ixs _ _ _ | .b2s _ | .sla _ _ _ _ _ _ | .alloc _ | .box _ | .sto _ _ _ | .bsl _ _ _ _ | .app _ _ _ _ _ | .appz _ _ _ _ _ _ | .call _ _ | .callx _ _ | .calv _ _ | .mks _ _ _ _ _ _ | .s2b _ _ | .cvb _ | .aps _ _ _ | .alcN _ _ | .stoN _ _ _ _ | .mkm _ | .mupd _ _ _ _ | .mget _ _ _ _ _ => false
  | _ => true

def isR : IOp → Bool
  | .ld _ _ _ | .ixs _ _ _ | .b2s _ => true
  | _ => false

def isC : IOp → Bool
  | .call _ _ => true
  | .calv _ _ => true
  | _ => false

/-- What makes new memory alone. -/
def isA : IOp → Bool
  | .alloc _ | .box _ | .bsl _ _ _ _ => true
  | _ => false

/-- No name from here on is in use. -/
def Fr (s : FS) : Prop := ∀ k, s.n ≤ k → k < LENT → lookO k s.o = none

theorem evF_congr {gl E E' : Nat → AV} {x : X} (h : ∀ t, t ∈ rdX x → E t = E' t) : evF gl E x = evF gl E' x := by
  cases x <;> simp only [evF]
  exact h _ (by simp [rdX])

theorem evFL_congr {gl E E' : Nat → AV} : ∀ {l : List X}, (∀ t, t ∈ rdL l → E t = E' t) → evFL gl E l = evFL gl E' l
  | [], _ => rfl
  | x :: r, h => by simp only [evFL, evF_congr (gl := gl) (x := x) (fun t ht => h t (by simp [rdL, ht])), evFL_congr (l := r) (fun t ht => h t (by simp [rdL, ht]))]

theorem mkParts_congr {gl E E' : Nat → AV} : ∀ {l : List (Nat × Nat × Nat × X)} {z : AV}, (∀ t, t ∈ rdP l → E t = E' t) → mkParts (evF gl E) l z = mkParts (evF gl E') l z ∧ okParts (evF gl E) l z = okParts (evF gl E') l z
  | [], _, _ => ⟨rfl, rfl⟩
  | (k, off, sz, x) :: r, z, h => by
    have e1 := evF_congr (gl := gl) (x := x) (fun t ht => h t (by simp [rdP, ht]))
    simp only [mkParts, okParts, e1]
    obtain ⟨a, b⟩ := mkParts_congr (gl := gl) (l := r) (z := setPart k (evF gl E' x) z) (fun t ht => h t (by simp [rdP, ht]))
    exact ⟨a, by rw [b]⟩

theorem loV_congr {gl E E' : Nat → AV} {x : X} {K : Nat → Prop} (h : ∀ t, t ∈ rdX x → E t = E' t) : loV (evF gl E) x K = loV (evF gl E') x K := by
  have e1 := evF_congr (gl := gl) h
  cases x <;> simp only [loV, e1]

theorem hiV_congr {gl E E' : Nat → AV} {x : X} {n : Nat} {K : Nat → Prop} (h : ∀ t, t ∈ rdX x → E t = E' t) : hiV (evF gl E) x n K = hiV (evF gl E') x n K := by
  have e1 := evF_congr (gl := gl) h
  cases x <;> simp only [hiV, e1]

theorem consX_congr {gl E E' : Nat → AV} : ∀ {l : List X}, (∀ t, t ∈ rdL l → E t = E' t) → consX (evF gl E) l = consX (evF gl E') l
  | [], _ => rfl
  | x :: r, h => by
    simp only [consX, evF_congr (gl := gl) (x := x) (fun t ht => h t (by simp [rdL, ht])), consX_congr (l := r) (fun t ht => h t (by simp [rdL, ht]))]

theorem calv_call {P : Program} {gl : Nat → AV} {E : Nat → AV} {o : Objs} {n : Nat} {x : X} {l : List X} {K : AV → Objs → Nat → Prop} (h : wpF false P gl ⟨E, o, n⟩ (.calv x l) K) :
    ∃ f args, (∀ (o' : Objs) (n' : Nat) (K' : AV → Objs → Nat → Prop), (CallO P gl f args o' fun r o2 => K' r o2 n') → wpF false P gl ⟨E, o', n'⟩ (.calv x l) K') ∧ CallO P gl f args o fun r o' => K r o' n := by
  simp only [wpF] at h
  split at h
  · rename_i f a c he
    refine ⟨f, _, fun o' n' K' hk => ?_, h.2⟩
    simp only [wpF, he]
    exact ⟨h.1, hk⟩
  · exact h.elim

theorem wpF_congr {P : Program} {gl E E' : Nat → AV} {o : Objs} {n : Nat} {p : IOp} (h : ∀ t, t ∈ rd p → E t = E' t) (K : AV → Objs → Nat → Prop) : wpF false P gl ⟨E, o, n⟩ p K = wpF false P gl ⟨E', o, n⟩ p K := by
  cases p <;> simp only [wpF, wpV, wpL]
  case mv x => rw [evF_congr (x := x) (fun t ht => h t (by simp [rd, ht]))]
  case pick c a b => rw [evF_congr (x := c) (fun t ht => h t (by simp [rd, ht])), evF_congr (x := a) (fun t ht => h t (by simp [rd, ht])), evF_congr (x := b) (fun t ht => h t (by simp [rd, ht]))]
  case build z l => rw [(mkParts_congr (l := l) (z := z) (fun t ht => h t (by simp [rd, ht]))).1, (mkParts_congr (l := l) (z := z) (fun t ht => h t (by simp [rd, ht]))).2]
  case bsl e ty z l => rw [(mkParts_congr (l := l) (fun t ht => h t (by simp [rd, ht]))).1, (mkParts_congr (l := l) (fun t ht => h t (by simp [rd, ht]))).2]
  case call f l => rw [evFL_congr (l := l) (fun t ht => h t (by simp [rd, ht]))]
  case callx f l => rw [evFL_congr (l := l) (fun t ht => h t (by simp [rd, ht]))]
  case xcall f l => rw [evFL_congr (l := l) (fun t ht => h t (by simp [rd, ht]))]
  case slc e x lo hi =>
    rw [evF_congr (x := x) (fun t ht => h t (by simp [rd, ht]))]
    simp only [loV_congr (x := lo) (fun t ht => h t (by simp [rd, ht])), hiV_congr (x := hi) (fun t ht => h t (by simp [rd, ht]))]
  case sla len e ty x lo hi =>
    rw [evF_congr (x := x) (fun t ht => h t (by simp [rd, ht]))]
    simp only [loV_congr (x := lo) (fun t ht => h t (by simp [rd, ht])), hiV_congr (x := hi) (fun t ht => h t (by simp [rd, ht]))]
  case aps ty x y => rw [evF_congr (x := x) (fun t ht => h t (by simp [rd, ht])), evF_congr (x := y) (fun t ht => h t (by simp [rd, ht]))]
  case sls x lo hi =>
    rw [evF_congr (x := x) (fun t ht => h t (by simp [rd, ht]))]
    simp only [loV_congr (x := lo) (fun t ht => h t (by simp [rd, ht])), hiV_congr (x := hi) (fun t ht => h t (by simp [rd, ht]))]
  case mm3 mx x y z => rw [evF_congr (x := x) (fun t ht => h t (by simp [rd, ht])), evF_congr (x := y) (fun t ht => h t (by simp [rd, ht])), evF_congr (x := z) (fun t ht => h t (by simp [rd, ht]))]
  case mm4 mx x y z u => rw [evF_congr (x := x) (fun t ht => h t (by simp [rd, ht])), evF_congr (x := y) (fun t ht => h t (by simp [rd, ht])), evF_congr (x := z) (fun t ht => h t (by simp [rd, ht])), evF_congr (x := u) (fun t ht => h t (by simp [rd, ht]))]
  case sto sz x v => rw [evF_congr (x := x) (fun t ht => h t (by simp [rd, ht])), evF_congr (x := v) (fun t ht => h t (by simp [rd, ht]))]
  case mkf fn a b => rw [consX_congr (l := a) (fun t ht => h t (by simp [rd, ht])), consX_congr (l := b) (fun t ht => h t (by simp [rd, ht]))]
  case calv x l => rw [evF_congr (x := x) (fun t ht => h t (by simp [rd, ht])), evFL_congr (l := l) (fun t ht => h t (by simp [rd, ht]))]
  case mks e b ty z l c => rw [evF_congr (x := l) (fun t ht => h t (by simp [rd, ht])), evF_congr (x := c) (fun t ht => h t (by simp [rd, ht]))]
  case stoN j sz x v => rw [evF_congr (x := x) (fun t ht => h t (by simp [rd, ht])), evF_congr (x := v) (fun t ht => h t (by simp [rd, ht]))]
  case mupd k m key v => rw [evF_congr (x := m) (fun t ht => h t (by simp [rd, ht])), evF_congr (x := key) (fun t ht => h t (by simp [rd, ht])), evF_congr (x := v) (fun t ht => h t (by simp [rd, ht]))]
  case appz e b ty z x v => rw [evF_congr (x := x) (fun t ht => h t (by simp [rd, ht])), evF_congr (x := v) (fun t ht => h t (by simp [rd, ht]))]
  case app e b ty x v => rw [evF_congr (x := x) (fun t ht => h t (by simp [rd, ht])), evF_congr (x := v) (fun t ht => h t (by simp [rd, ht]))]
  all_goals first
    | (rename_i x i; rw [evF_congr (x := x) (fun t ht => h t (by simp [rd, ht])), evF_congr (x := i) (fun t ht => h t (by simp [rd, ht]))])
    | (rename_i x; rw [evF_congr (x := x) (fun t ht => h t (by simp [rd, ht]))])
    | rfl

theorem wpF_N {P : Program} {gl E : Nat → AV} {o o' : Objs} {n n' : Nat} {p : IOp} (h : isN p = true) (K : AV → Prop) : wpF false P gl ⟨E, o, n⟩ p (fun v _ _ => K v) = wpF false P gl ⟨E, o', n'⟩ p (fun v _ _ => K v) := by
  cases p <;> simp [isN] at h <;> rfl

theorem wpF_ex {P : Program} {gl : Nat → AV} {s : FS} {p : IOp} {K : AV → Objs → Nat → Prop} (h : wpF false P gl s p K) : ∃ v o' n', wpF false P gl s p (fun x y z => x = v ∧ y = o' ∧ z = n') ∧ K v o' n' := by
  cases p <;> simp only [wpF] at h ⊢
  case call f l =>
    rcases h with ⟨args', r, h1, h2, h3⟩ | ⟨t, m, e, ty, args', r, m', h1, h2, h3, h4⟩
    · exact ⟨r, _, _, .inl ⟨args', r, h1, h2, rfl, rfl, rfl⟩, h3⟩
    · exact ⟨_, _, _, .inr ⟨t, m, e, ty, args', r, m', h1, h2, h3, rfl, rfl, rfl⟩, h4⟩
  case callx f l =>
    obtain ⟨v, o', n', h1, h2⟩ := h.x
    exact ⟨v, o', n', ⟨⟨v, o', n', ⟨rfl, rfl, rfl⟩, h2⟩, fun hb => by cases hb⟩, h1⟩
  case xcall f l =>
    obtain ⟨r, h1, h2⟩ := h
    exact ⟨r, _, _, ⟨r, h1, rfl, rfl, rfl⟩, h2⟩
  case calv x l =>
    split at h
    · obtain ⟨h0, h⟩ := h
      rcases h with ⟨args', r, h1, h2, h3⟩ | ⟨t, m, e, ty, args', r, m', h1, h2, h3, h4⟩
      · exact ⟨r, _, _, ⟨h0, .inl ⟨args', r, h1, h2, rfl, rfl, rfl⟩⟩, h3⟩
      · exact ⟨_, _, _, ⟨h0, .inr ⟨t, m, e, ty, args', r, m', h1, h2, h3, rfl, rfl, rfl⟩⟩, h4⟩
    · exact h.elim
  case dfr x =>
    split at h
    · exact ⟨_, _, _, ⟨h.1, rfl, rfl, rfl⟩, h.2⟩
    · exact h.elim
  all_goals first
    | (obtain ⟨v, o', n', h1, h2⟩ := wpL_ex h; exact ⟨v, o', n', h1, h2⟩)
    | (obtain ⟨v, h1, h2⟩ := wpV_ex h; exact ⟨v, _, _, wpV_mono h1 ⟨rfl, rfl, rfl⟩, h2⟩)

theorem wpF_mono {P : Program} {gl : Nat → AV} {s : FS} {p : IOp} {v : AV} {o' : Objs} {n' : Nat} {K : AV → Objs → Nat → Prop} (h : wpF false P gl s p (fun x y z => x = v ∧ y = o' ∧ z = n')) (hK : K v o' n') : wpF false P gl s p K := by
  cases p <;> simp only [wpF] at h ⊢
  case call f l =>
    rcases h with ⟨args', r, h1, h2, rfl, rfl, rfl⟩ | ⟨t, m, e, ty, args', r, m', h1, h2, h3, rfl, rfl, rfl⟩
    · exact .inl ⟨args', r, h1, h2, hK⟩
    · exact .inr ⟨t, m, e, ty, args', r, m', h1, h2, h3, hK⟩
  case callx f l =>
    obtain ⟨v, o', n', ⟨rfl, rfl, rfl⟩, h2⟩ := h.x
    exact ⟨⟨v, o', n', hK, h2⟩, fun hb => by cases hb⟩
  case xcall f l =>
    obtain ⟨r, h1, rfl, rfl, rfl⟩ := h
    exact ⟨r, h1, hK⟩
  case calv x l =>
    split at h
    · obtain ⟨h0, h⟩ := h
      rcases h with ⟨args', r, h1, h2, rfl, rfl, rfl⟩ | ⟨t, m, e, ty, args', r, m', h1, h2, h3, rfl, rfl, rfl⟩
      · exact ⟨h0, .inl ⟨args', r, h1, h2, hK⟩⟩
      · exact ⟨h0, .inr ⟨t, m, e, ty, args', r, m', h1, h2, h3, hK⟩⟩
    · exact h.elim
  case dfr x =>
    split at h
    · obtain ⟨h0, rfl, rfl, rfl⟩ := h; exact ⟨h0, hK⟩
    · exact h.elim
  all_goals first
    | exact wpL_mono h hK
    | (obtain ⟨x, h1, rfl, rfl, rfl⟩ := wpV_ex h; exact wpV_mono h1 hK)

/-- A value operation leaves memory. -/
theorem wpF_same {P : Program} {gl : Nat → AV} {s : FS} {p : IOp} (hp : isN p = true ∨ isR p = true) {v : AV} {o' : Objs} {n' : Nat} (h : wpF false P gl s p (fun x y z => x = v ∧ y = o' ∧ z = n')) : o' = s.o ∧ n' = s.n := by
  cases p <;> simp [isN, isR] at hp <;> simp only [wpF] at h
  case xcall f l => obtain ⟨_, _, _, rfl, rfl⟩ := h; exact ⟨rfl, rfl⟩
  case dfr x =>
    split at h
    · obtain ⟨_, _, rfl, rfl⟩ := h; exact ⟨rfl, rfl⟩
    · exact h.elim
  all_goals (obtain ⟨x, h1, rfl, rfl, rfl⟩ := wpV_ex h; exact ⟨rfl, rfl⟩)

theorem wpF_A {P : Program} {gl : Nat → AV} {s : FS} {p : IOp} (hp : isA p = true) {v : AV} {o' : Objs} {n' : Nat} (h : wpF false P gl s p (fun x y z => x = v ∧ y = o' ∧ z = n')) : s.n < LENT ∧ ∃ x, o' = (s.n, x) :: s.o ∧ n' = s.n + 1 := by
  cases p <;> simp [isA] at hp <;> simp only [wpF, wpL, chk_iff] at h
  · obtain ⟨h1, _, rfl, rfl⟩ := h; exact ⟨Nat.le_of_ble_eq_true h1, _, rfl, rfl⟩
  · obtain ⟨h1, _, _, rfl, rfl⟩ := h; exact ⟨Nat.le_of_ble_eq_true h1, _, rfl, rfl⟩
  · obtain ⟨h1, _, h⟩ := h
    split at h <;> (obtain ⟨_, rfl, rfl⟩ := h; exact ⟨Nat.le_of_ble_eq_true h1, _, rfl, rfl⟩)

theorem wpF_R {P : Program} {gl : Nat → AV} {E : Nat → AV} {o o' : Objs} {n n' : Nat} {p : IOp} (hp : isR p = true) (hl : ∀ b a, lookO b o = some a → lookO b o' = some a) {v : AV}
    (h : wpF false P gl ⟨E, o, n⟩ p (fun x y z => x = v ∧ y = o ∧ z = n)) : wpF false P gl ⟨E, o', n'⟩ p (fun x y z => x = v ∧ y = o' ∧ z = n') := by
  cases p <;> simp [isR] at hp <;> simp only [wpF, wpV] at h ⊢
  · split at h
    · split at h
      · rename_i _ _ _ _ _ hb
        rw [hl _ _ hb]
        simp only [chk_iff] at h ⊢
        exact ⟨h.1, h.2.1, h.2.2.1, trivial, trivial⟩
      · exact h.elim
    · simp only [chk_iff] at h ⊢
      exact ⟨h.1, h.2.1, h.2.2.1, trivial, trivial⟩
    · exact h.elim
  · split at h
    · simp only [chk_iff] at h ⊢
      exact ⟨h.1, h.2.1, h.2.2.1, trivial, trivial⟩
    · split at h
      · rename_i _ _ _ _ _ hb
        rw [hl _ _ hb]
        simp only [chk_iff] at h ⊢
        exact ⟨h.1, h.2.1, h.2.2.1, h.2.2.2.1, h.2.2.2.2.1, trivial, trivial⟩
      · exact h.elim
    · exact h.elim
  · split at h
    · simp only [chk_iff] at h ⊢
      exact ⟨h.1, h.2.1, h.2.2.1, trivial, trivial⟩
    · split at h
      · rename_i _ _ _ _ _ hb
        rw [hl _ _ hb]
        simp only [chk_iff] at h ⊢
        exact ⟨h.1, h.2.1, h.2.2.1, h.2.2.2.1, h.2.2.2.2.1, trivial, trivial⟩
      · exact h.elim
    · exact ⟨h.1, trivial, trivial⟩
    · exact h.elim

/-- What a call does to the boxes: nothing. -/
theorem wpF_C {P : Program} {gl : Nat → AV} {E : Nat → AV} {o : Objs} {n : Nat} {p : IOp} (hp : isC p = true) {v : AV} {o' : Objs} {n' : Nat} (h : wpF false P gl ⟨E, o, n⟩ p (fun x y z => x = v ∧ y = o' ∧ z = n')) :
    n' = n ∧ (o' = o ∨ ∃ t m m' e ty, lookO t o = some (.room m e ty) ∧ o' = setO t (.room m' e ty) o) := by
  have key : ∀ {f : FuncId} {args : List AV}, (CallO P gl f args o fun r o2 => r = v ∧ o2 = o' ∧ n = n') → n' = n ∧ (o' = o ∨ ∃ t m m' e ty, lookO t o = some (.room m e ty) ∧ o' = setO t (.room m' e ty) o) := by
    intro f args h
    rcases h with ⟨args', r, h1, h2, rfl, rfl, rfl⟩ | ⟨t, m, e, ty, args', r, m', h1, h2, h3, rfl, rfl, rfl⟩
    · exact ⟨rfl, .inl rfl⟩
    · exact ⟨rfl, .inr ⟨t, m, m', e, ty, h1, rfl⟩⟩
  cases p <;> simp [isC] at hp
  · simp only [wpF] at h
    exact key h
  · obtain ⟨f, args, _, h⟩ := calv_call h
    exact key h

theorem wpF_Cn {P : Program} {gl : Nat → AV} {E : Nat → AV} {o : Objs} {n k : Nat} {p : IOp} (hp : isC p = true) {v : AV} {o' : Objs} (h : wpF false P gl ⟨E, o, n⟩ p (fun x y z => x = v ∧ y = o' ∧ z = n)) : wpF false P gl ⟨E, o, k⟩ p (fun x y z => x = v ∧ y = o' ∧ z = k) := by
  have key : ∀ {f : FuncId} {args : List AV}, (CallO P gl f args o fun r o2 => r = v ∧ o2 = o' ∧ n = n) → CallO P gl f args o fun r o2 => r = v ∧ o2 = o' ∧ k = k := by
    intro f args h
    rcases h with ⟨args', r, h1, h2, rfl, rfl, _⟩ | ⟨t, m, e, ty, args', r, m', h1, h2, h3, rfl, rfl, _⟩
    · exact .inl ⟨args', r, h1, h2, rfl, rfl, rfl⟩
    · exact .inr ⟨t, m, e, ty, args', r, m', h1, h2, h3, rfl, rfl, rfl⟩
  cases p <;> simp [isC] at hp
  · exact key h
  · obtain ⟨f, args, hb, h⟩ := calv_call h
    exact hb _ _ _ (key h)

/-- A call with one more object in front. -/
theorem wpF_Cc {P : Program} {gl : Nat → AV} {E : Nat → AV} {o : Objs} {n q : Nat} {z : AObj} {p : IOp} (hp : isC p = true) (hq : lookO q o = none) {v : AV} {o' : Objs} (h : wpF false P gl ⟨E, o, n⟩ p (fun x y z => x = v ∧ y = o' ∧ z = n)) :
    wpF false P gl ⟨E, (q, z) :: o, n⟩ p (fun x y k => x = v ∧ y = (q, z) :: o' ∧ k = n) := by
  have key : ∀ {f : FuncId} {args : List AV}, (CallO P gl f args o fun r o2 => r = v ∧ o2 = o' ∧ n = n) → CallO P gl f args ((q, z) :: o) fun r o2 => r = v ∧ o2 = (q, z) :: o' ∧ n = n := by
    intro f args h
    rcases h with ⟨args', r, h1, h2, rfl, rfl, _⟩ | ⟨t, m, e, ty, args', r, m', h1, h2, h3, rfl, rfl, _⟩
    · exact .inl ⟨args', r, h1, h2, rfl, rfl, rfl⟩
    · have hne : ¬ q = t := fun e1 => by subst e1; rw [hq] at h1; cases h1
      refine .inr ⟨t, m, e, ty, args', r, m', by rw [lookO_cons, if_neg hne]; exact h1, h2, h3, rfl, ?_, rfl⟩
      simp only [setO, beq_of_ne hne]
  cases p <;> simp [isC] at hp
  · exact key h
  · obtain ⟨f, args, hb, h⟩ := calv_call h
    exact hb _ _ _ (key h)

theorem box_set {o : Objs} {t m m' e : Nat} {ty : TypeId} (ht : lookO t o = some (.room m e ty)) (b : Nat) (a : AV) : lookO b (setO t (.room m' e ty) o) = some (.box a) ↔ lookO b o = some (.box a) := by
  rw [lookO_setO]
  by_cases h : b = t
  · subst h; rw [if_pos rfl, ht]; simp
  · rw [if_neg h]

theorem wpF_Ab {P : Program} {gl : Nat → AV} {E : Nat → AV} {o o' : Objs} {n : Nat} {p : IOp} (hp : isA p = true) {v : AV} {z : AObj} (h : wpF false P gl ⟨E, o, n⟩ p (fun x y k => x = v ∧ y = (n, z) :: o ∧ k = n + 1)) :
    wpF false P gl ⟨E, o', n⟩ p (fun x y k => x = v ∧ y = (n, z) :: o' ∧ k = n + 1) := by
  cases p <;> simp [isA] at hp <;> simp only [wpF, wpL, chk_iff] at h ⊢
  · obtain ⟨h1, h2, h3, _⟩ := h
    injection h3 with h3 _
    exact ⟨h1, h2, by rw [h3], trivial⟩
  · obtain ⟨h1, h0, h2, h3, _⟩ := h
    injection h3 with h3 _
    exact ⟨h1, h0, h2, by rw [h3], trivial⟩
  · obtain ⟨h1, h0, h⟩ := h
    refine ⟨h1, h0, ?_⟩
    split at h <;> rename_i hb
    · obtain ⟨h2, h3, _⟩ := h
      injection h3 with h3 _
      (try rw [hb])
      exact ⟨h2, by rw [h3], trivial⟩
    · obtain ⟨h2, h3, _⟩ := h
      injection h3 with h3 _
      (try rw [hb])
      exact ⟨h2, by rw [h3], trivial⟩

/-- A load looks at boxes alone. -/
theorem wpF_Rb {P : Program} {gl : Nat → AV} {E : Nat → AV} {o o' : Objs} {n n' : Nat} {p : IOp} (hp : isR p = true) (hl : ∀ b a, lookO b o = some (.box a) → lookO b o' = some (.box a)) {v : AV}
    (h : wpF false P gl ⟨E, o, n⟩ p (fun x y z => x = v ∧ y = o ∧ z = n)) : wpF false P gl ⟨E, o', n'⟩ p (fun x y z => x = v ∧ y = o' ∧ z = n') := by
  cases p <;> simp [isR] at hp <;> simp only [wpF, wpV] at h ⊢
  · split at h
    · split at h
      · rename_i _ _ _ _ _ hb
        rw [hl _ _ hb]
        simp only [chk_iff] at h ⊢
        exact ⟨h.1, h.2.1, h.2.2.1, trivial, trivial⟩
      · exact h.elim
    · simp only [chk_iff] at h ⊢
      exact ⟨h.1, h.2.1, h.2.2.1, trivial, trivial⟩
    · exact h.elim
  · split at h
    · simp only [chk_iff] at h ⊢
      exact ⟨h.1, h.2.1, h.2.2.1, trivial, trivial⟩
    · split at h
      · rename_i _ _ _ _ _ hb
        rw [hl _ _ hb]
        simp only [chk_iff] at h ⊢
        exact ⟨h.1, h.2.1, h.2.2.1, h.2.2.2.1, h.2.2.2.2.1, trivial, trivial⟩
      · exact h.elim
    · exact h.elim
  · split at h
    · simp only [chk_iff] at h ⊢
      exact ⟨h.1, h.2.1, h.2.2.1, trivial, trivial⟩
    · split at h
      · rename_i _ _ _ _ _ hb
        rw [hl _ _ hb]
        simp only [chk_iff] at h ⊢
        exact ⟨h.1, h.2.1, h.2.2.1, h.2.2.2.1, h.2.2.2.2.1, trivial, trivial⟩
      · exact h.elim
    · exact ⟨h.1, trivial, trivial⟩
    · exact h.elim

theorem fr_cons {E E' : Nat → AV} {o : Objs} {n : Nat} {x : AObj} (h : Fr ⟨E, o, n⟩) : Fr ⟨E', (n, x) :: o, n + 1⟩ := fun k hk hL => by
  have hk : n + 1 ≤ k := hk
  show lookO k ((n, x) :: o) = none
  rw [lookO_cons, if_neg (by omega)]
  exact h k (by show n ≤ k; omega) hL

theorem wpF_fr {P : Program} {gl : Nat → AV} {s : FS} {p : IOp} (hf : Fr s) {v : AV} {o' : Objs} {n' : Nat} {E' : Nat → AV} (h : wpF false P gl s p (fun x y z => x = v ∧ y = o' ∧ z = n')) : Fr ⟨E', o', n'⟩ := by
  have hset : ∀ (t : Nat) (x : AObj), Fr ⟨E', setO t x s.o, s.n⟩ := fun t x k hk hL => by
    have h1 := hf k hk hL
    show lookO k (setO t x s.o) = none
    rw [lookO_setO]
    by_cases e : k = t
    · subst e; rw [if_pos rfl, h1]; rfl
    · rw [if_neg e, h1]
  have hdrop : ∀ (t : Nat) (x : AObj), Fr ⟨E', (s.n, x) :: dropO t s.o, s.n + 1⟩ := fun t x k hk hL => by
    have hk : s.n + 1 ≤ k := hk
    show lookO k ((s.n, x) :: dropO t s.o) = none
    rw [lookO_cons, if_neg (by omega), lookO_dropO]
    by_cases e : k = t
    · rw [if_pos e]
    · rw [if_neg e]; exact hf k (by omega) hL
  have hsame : Fr ⟨E', s.o, s.n⟩ := hf
  by_cases hN : isN p = true ∨ isR p = true
  · obtain ⟨rfl, rfl⟩ := wpF_same hN h
    exact hf
  · by_cases hA : isA p = true
    · obtain ⟨_, x, rfl, rfl⟩ := wpF_A hA h
      exact fr_cons (E := s.E) hf
    · by_cases hC : isC p = true
      · obtain ⟨rfl, rfl | ⟨t, m, m', e, ty, _, rfl⟩⟩ := wpF_C (E := s.E) (o := s.o) (n := s.n) hC h
        · exact hsame
        · exact hset _ _
      cases p <;> simp [isN, isR, isA, isC] at hN hA hC <;> simp only [wpF, wpL] at h
      · split at h
        · split at h
          · simp only [chk_iff] at h
            obtain ⟨_, _, _, _, _, rfl, rfl⟩ := h
            exact hset _ _
          · exact h.elim
        · exact h.elim
      · obtain ⟨x, _, rfl, rfl, rfl⟩ := wpV_ex h
        exact hsame
      · split at h
        · simp only [chk_iff] at h
          obtain ⟨_, _, _, _, rfl, rfl⟩ := h
          exact fr_cons (E := s.E) hf
        · obtain ⟨_, rfl, rfl⟩ := h; exact hsame
        · obtain ⟨_, rfl, rfl⟩ := h; exact hsame
        · obtain ⟨_, rfl, rfl⟩ := h; exact hsame
        · split at h
          · simp only [chk_iff] at h
            obtain ⟨_, _, _, _, _, _, _, _, _, _, rfl, rfl⟩ := h
            exact hdrop _ _
          · exact h.elim
        · split at h
          · simp only [chk_iff] at h
            obtain ⟨_, _, _, _, _, _, _, _, _, _, _, _, rfl, rfl⟩ := h
            exact hdrop _ _
          · exact h.elim
        · split at h
          · simp only [chk_iff] at h
            obtain ⟨_, _, _, _, _, _, _, rfl, rfl⟩ := h
            exact hset _ _
          · exact h.elim
        · split at h
          · simp only [chk_iff] at h
            obtain ⟨_, _, _, _, _, _, _, _, _, rfl, rfl⟩ := h
            exact hset _ _
          · exact h.elim
        · exact h.elim
      · split at h
        · split at h
          · simp only [chk_iff] at h
            obtain ⟨_, _, _, _, _, _, _, _, _, _, rfl, rfl⟩ := h
            exact hdrop _ _
          · exact h.elim
        · exact h.elim
      · obtain ⟨v1, o1, n1, ⟨rfl, rfl, rfl⟩, hx⟩ := h.x
        exact fun q h1 h2 => hx.1 (fun r h3 h4 => hf r h3 h4) q h1 h2
      · split at h
        · simp only [chk_iff] at h
          obtain ⟨_, _, _, rfl, rfl⟩ := h
          exact fr_cons (E := s.E) hf
        · exact h.elim
      · split at h
        · simp only [chk_iff] at h
          obtain ⟨_, _, _, rfl, rfl⟩ := h
          exact fr_cons (E := s.E) hf
        · exact h.elim
      · split at h
        · split at h
          · obtain ⟨_, _, rfl, rfl⟩ := h; exact hsame
          · exact h.elim
        · exact h.elim
      · split at h
        · split at h
          · simp only [chk_iff] at h
            obtain ⟨_, _, _, _, _, _, _, _, _, rfl, rfl⟩ := h
            exact hdrop _ _
          · exact h.elim
        · exact h.elim
      · split at h
        · simp only [chk_iff] at h
          obtain ⟨_, _, _, rfl, rfl⟩ := h
          exact hset _ _
        · exact h.elim
      · split at h
        · simp only [chk_iff] at h
          obtain ⟨_, h⟩ := h
          split at h
          · obtain ⟨_, _, _, _, _, rfl, rfl⟩ := h
            exact hset _ _
          · exact h.elim
        · exact h.elim
      · simp only [chk_iff] at h
        obtain ⟨_, _, rfl, rfl⟩ := h
        exact fr_cons (E := s.E) hf
      · split at h
        · split at h
          · split at h
            · simp only [chk_iff] at h
              obtain ⟨_, _, _, rfl, rfl⟩ := h
              exact hset _ _
            · exact h.elim
          · exact h.elim
        · exact h.elim
      · split at h
        · split at h
          · split at h
            · simp only [chk_iff] at h
              obtain ⟨_, _, h⟩ := h
              split at h <;> (obtain ⟨_, rfl, rfl⟩ := h; exact hsame)
            · exact h.elim
          · exact h.elim
        · exact h.elim

theorem YF_fr {P : Program} {gl : Nat → AV} {en : Ent} {s : FS} (hf : Fr s) {v : AV} {o' : Objs} {n' : Nat} (h : YF P gl en s v o' n') : Fr (s.next en v o' n') := by
  rcases h with ⟨_, h⟩ | ⟨_, _, rfl, rfl⟩
  · exact wpF_fr hf h
  · exact hf

/-! Two entries that do not touch. -/
def Ent.rds (en : Ent) : List Nat := rd en.op ++ (match en.gd with | some (t, _) => [t] | none => [])

def apartV (x y : Ent) : Bool :=
  (match x.dst with
   | some d => !(y.rds).contains d && (match y.dst with | some d' => !Nat.beq d d' | none => true)
   | none => true) &&
  (match y.dst with
   | some d => !(x.rds).contains d
   | none => true)

def apartE (x y : Ent) : Bool := apartV x y &&
  (isN x.op || (isN y.op || ((isR x.op && isR y.op) || ((isR x.op && isA y.op) || ((isC x.op && isR y.op) || ((isR x.op && isC y.op) || (isC x.op && isA y.op)))))))

theorem apartV_spec {x y : Ent} (h : apartV x y = true) : (∀ d, x.dst = some d → d ∉ y.rds) ∧ (∀ d, x.dst = some d → y.dst ≠ some d) ∧ (∀ d, y.dst = some d → d ∉ x.rds) := by
  simp only [apartV, Bool.and_eq_true] at h
  obtain ⟨h1, h2⟩ := h
  refine ⟨fun d hd => ?_, fun d hd => ?_, fun d hd => ?_⟩
  · rw [hd] at h1; simp at h1; exact h1.1
  · rw [hd] at h1
    intro he
    rw [he] at h1
    simp at h1
  · rw [hd] at h2; simpa using h2

theorem apartE_spec {x y : Ent} (h : apartE x y = true) : (∀ d, x.dst = some d → d ∉ y.rds) ∧ (∀ d, x.dst = some d → y.dst ≠ some d) ∧ (∀ d, y.dst = some d → d ∉ x.rds) ∧
    (isN x.op = true ∨ isN y.op = true ∨ (isR x.op = true ∧ isR y.op = true) ∨ (isR x.op = true ∧ isA y.op = true) ∨ (isC x.op = true ∧ isR y.op = true) ∨ (isR x.op = true ∧ isC y.op = true) ∨ (isC x.op = true ∧ isA y.op = true)) := by
  simp only [apartE, Bool.and_eq_true, Bool.or_eq_true] at h
  obtain ⟨h1, h2, h4⟩ := apartV_spec h.1
  exact ⟨h1, h2, h4, h.2⟩

theorem putD_ne {E : Nat → AV} {d : Option Nat} {v : AV} {t : Nat} (h : ∀ x, d = some x → x ≠ t) : putD E d v t = E t := by
  cases d with
  | none => rfl
  | some x => simp only [putD, putF]; rw [if_neg (h x rfl)]

theorem putD_comm {E : Nat → AV} {d d' : Option Nat} {v u : AV} (h : ∀ x, d = some x → d' ≠ some x) : putD (putD E d v) d' u = putD (putD E d' u) d v := by
  cases d with
  | none => rfl
  | some x =>
    cases d' with
    | none => rfl
    | some y =>
      have hne : x ≠ y := fun e => h x rfl (by rw [e])
      funext t
      simp only [putD, putF]
      by_cases h1 : y = t
      · subst h1
        rw [if_pos rfl, if_neg hne, if_pos rfl]
      · rw [if_neg h1, if_neg h1]

theorem Gd_congr {s s' : FS} {gd : Option (Nat × Bool)} {r : Bool} (h : ∀ t b, gd = some (t, b) → s.E t = s'.E t) : Gd s gd r ↔ Gd s' gd r := by
  cases gd with
  | none => exact Iff.rfl
  | some q => obtain ⟨t, b⟩ := q; simp only [Gd, h t b rfl]

theorem YF_congrE {P : Program} {gl : Nat → AV} {en : Ent} {E E' : Nat → AV} {o o' : Objs} {n n' : Nat} {v : AV} (h : ∀ t, t ∈ en.rds → E t = E' t) (hy : YF P gl en ⟨E, o, n⟩ v o' n') : YF P gl en ⟨E', o, n⟩ v o' n' := by
  have hg : ∀ r, Gd (⟨E, o, n⟩ : FS) en.gd r ↔ Gd (⟨E', o, n⟩ : FS) en.gd r := fun r => Gd_congr (fun t b hb => h t (by simp [Ent.rds, hb]))
  unfold YF at *
  rw [← hg, ← hg, ← wpF_congr (E := E) (E' := E') (fun t ht => h t (by simp [Ent.rds, ht]))]
  exact hy

theorem YF_N {P : Program} {gl : Nat → AV} {en : Ent} (hn : isN en.op = true) {E : Nat → AV} {o o' : Objs} {n n' : Nat} {v : AV} (hy : YF P gl en ⟨E, o, n⟩ v o' n') (o2 : Objs) (n2 : Nat) : YF P gl en ⟨E, o2, n2⟩ v o2 n2 := by
  rcases hy with ⟨h1, h2⟩ | ⟨h1, h2, h3, h4⟩
  · refine .inl ⟨h1, ?_⟩
    have h3 : wpF false P gl ⟨E, o, n⟩ en.op (fun x _ _ => x = v) := wpF_mono h2 rfl
    rw [wpF_N (o' := o2) (n' := n2) hn] at h3
    obtain ⟨x, y, z, h4, rfl⟩ := wpF_ex h3
    obtain ⟨rfl, rfl⟩ := wpF_same (.inl hn) h4
    exact h4
  · exact .inr ⟨h1, h2, rfl, rfl⟩

theorem YF_same {P : Program} {gl : Nat → AV} {en : Ent} (hn : isN en.op = true ∨ isR en.op = true) {s : FS} {o' : Objs} {n' : Nat} {v : AV} (hy : YF P gl en s v o' n') : o' = s.o ∧ n' = s.n := by
  rcases hy with ⟨_, h2⟩ | ⟨_, _, h3, h4⟩
  · exact wpF_same hn h2
  · exact ⟨h3, h4⟩

/-- First x, then y: or first y, then x. -/
theorem YF_swap {P : Program} {gl : Nat → AV} {x y : Ent} (ha : apartE x y = true) {s : FS} (hfr : Fr s) {v u : AV} {o1 o2 : Objs} {n1 n2 : Nat} (hx : YF P gl x s v o1 n1) (hy : YF P gl y (s.next x v o1 n1) u o2 n2) :
    ∃ o3 n3, YF P gl y s u o3 n3 ∧ YF P gl x (s.next y u o3 n3) v o2 n2 ∧ (s.next y u o3 n3).next x v o2 n2 = (s.next x v o1 n1).next y u o2 n2 := by
  obtain ⟨h1, h2, h3, h4⟩ := apartE_spec ha
  obtain ⟨E, o, n⟩ := s
  have hEy : ∀ (O : Objs) (M : Nat) {o' : Objs} {n' : Nat}, YF P gl y ⟨putD E x.dst v, O, M⟩ u o' n' → YF P gl y ⟨E, O, M⟩ u o' n' := fun O M _ _ h => YF_congrE (fun t ht => putD_ne (fun d hd e => h1 d hd (e ▸ ht))) h
  have hEx : ∀ (O : Objs) (M : Nat) {o' : Objs} {n' : Nat}, YF P gl x ⟨E, O, M⟩ v o' n' → YF P gl x ⟨putD E y.dst u, O, M⟩ v o' n' := fun O M _ _ h => YF_congrE (fun t ht => (putD_ne (fun d hd e => h3 d hd (e ▸ ht))).symm) h
  have hc : putD (putD E y.dst u) x.dst v = putD (putD E x.dst v) y.dst u := (putD_comm h2).symm
  rcases h4 with hn | hn | ⟨r1, r2⟩ | ⟨r1, r2⟩ | ⟨r1, r2⟩ | ⟨r1, r2⟩ | ⟨r1, r2⟩
  · obtain ⟨rfl, rfl⟩ := YF_same (.inl hn) hx
    refine ⟨o2, n2, hEy _ _ hy, hEx _ _ (YF_N hn hx o2 n2), ?_⟩
    simp only [FS.next, hc]
  · obtain ⟨rfl, rfl⟩ := YF_same (.inl hn) hy
    refine ⟨o, n, hEy _ _ (YF_N hn hy o n), hEx _ _ hx, ?_⟩
    simp only [FS.next, hc]
  · obtain ⟨rfl, rfl⟩ := YF_same (.inr r1) hx
    obtain ⟨rfl, rfl⟩ := YF_same (.inr r2) hy
    exact ⟨_, _, hEy _ _ hy, hEx _ _ hx, by simp only [FS.next, hc]⟩
  · obtain ⟨rfl, rfl⟩ := YF_same (.inr r1) hx
    refine ⟨o2, n2, hEy _ _ hy, hEx _ _ ?_, by simp only [FS.next, hc]⟩
    rcases hy with ⟨_, hy⟩ | ⟨_, _, rfl, rfl⟩
    · obtain ⟨hL, z, rfl, rfl⟩ := wpF_A r2 hy
      rcases hx with ⟨q1, q2⟩ | ⟨q1, q2, _, _⟩
      · refine .inl ⟨q1, wpF_R r1 (fun b a hb => ?_) q2⟩
        rw [lookO_cons, if_neg]
        · exact hb
        · rintro rfl
          exact absurd ((hfr _ (Nat.le_refl _) hL).symm.trans hb) (by simp)
      · exact .inr ⟨q1, q2, rfl, rfl⟩
    · exact hx
  · -- a call, then a load
    have hs := YF_same (.inr r2) hy
    have e1 : o2 = o1 := hs.1
    have e2 : n2 = n1 := hs.2
    subst e1 e2
    have hy2 : YF P gl y ⟨E, o2, n2⟩ u o2 n2 := hEy o2 n2 hy
    have hx2 := hEx _ _ hx
    rcases hx with ⟨q1, q2⟩ | ⟨q1, q2, q3, q4⟩
    · obtain ⟨q5, ho⟩ := wpF_C r1 q2
      have q5 : n2 = n := q5
      subst q5
      refine ⟨o, n2, ?_, hx2, by simp only [FS.next, hc]⟩
      rcases hy2 with ⟨p1, p2⟩ | ⟨p1, p2, _, _⟩
      · refine .inl ⟨p1, wpF_Rb r2 (fun b a hb => ?_) p2⟩
        rcases ho with rfl | ⟨t, m, m', e, ty, h5, rfl⟩
        · exact hb
        · exact (box_set h5 b a).1 hb
      · exact .inr ⟨p1, p2, rfl, rfl⟩
    · have q3 : o2 = o := q3
      have q4 : n2 = n := q4
      subst q3 q4
      exact ⟨o2, n2, hy2, hx2, by simp only [FS.next, hc]⟩
  · -- a load, then a call
    have hs := YF_same (.inr r1) hx
    have e1 : o1 = o := hs.1
    have e2 : n1 = n := hs.2
    subst e1 e2
    have hy2 : YF P gl y ⟨E, o1, n1⟩ u o2 n2 := hEy o1 n1 hy
    refine ⟨o2, n2, hy2, hEx _ _ ?_, by simp only [FS.next, hc]⟩
    rcases hy2 with ⟨p1, p2⟩ | ⟨p1, p2, p3, p4⟩
    · obtain ⟨q5, ho⟩ := wpF_C r2 p2
      have q5 : n2 = n1 := q5
      subst q5
      rcases hx with ⟨q1, q2⟩ | ⟨q1, q2, _, _⟩
      · refine .inl ⟨q1, wpF_Rb r1 (fun b a hb => ?_) q2⟩
        rcases ho with rfl | ⟨t, m, m', e, ty, h5, rfl⟩
        · exact hb
        · exact (box_set h5 b a).2 hb
      · exact .inr ⟨q1, q2, rfl, rfl⟩
    · have p3 : o2 = o1 := p3
      have p4 : n2 = n1 := p4
      subst p3 p4
      exact hx
  · -- a call, then new memory
    have hy2 : YF P gl y ⟨E, o1, n1⟩ u o2 n2 := hEy o1 n1 hy
    rcases hx with ⟨q1, q2⟩ | ⟨q1, q2, q3, q4⟩
    · obtain ⟨q5, ho⟩ := wpF_C r1 q2
      have q5 : n1 = n := q5
      subst q5
      rcases hy2 with ⟨p1, p2⟩ | ⟨p1, p2, p3, p4⟩
      · obtain ⟨hL, z, e1, e2⟩ := wpF_A r2 p2
        have e1 : o2 = (n1, z) :: o1 := e1
        have e2 : n2 = n1 + 1 := e2
        subst e1 e2
        exact ⟨(n1, z) :: o, n1 + 1, .inl ⟨p1, wpF_Ab r2 p2⟩, hEx _ _ (.inl ⟨q1, wpF_Cn r1 (wpF_Cc r1 (hfr _ (Nat.le_refl _) hL) q2)⟩), by simp only [FS.next, hc]⟩
      · have p3 : o2 = o1 := p3
        have p4 : n2 = n1 := p4
        subst p3 p4
        exact ⟨o, _, .inr ⟨p1, p2, rfl, rfl⟩, hEx _ _ (.inl ⟨q1, q2⟩), by simp only [FS.next, hc]⟩
    · have q3 : o1 = o := q3
      have q4 : n1 = n := q4
      subst q3 q4
      have hdn : Gd (⟨E, o2, n2⟩ : FS) x.gd false := q1
      exact ⟨o2, n2, hy2, hEx _ _ (.inr ⟨hdn, q2, rfl, rfl⟩), by simp only [FS.next, hc]⟩

/-! A load of a box, and a store into another. -/
def adrS : IOp → Option Nat
  | .sto _ (.t j) _ => some j
  | _ => none

theorem wpF_ldS {P : Program} {gl : Nat → AV} {E : Nat → AV} {o o' : Objs} {n n' : Nat} {p : IOp} {i : Nat} (hp : adr p = some i) (hl : ∀ b q, E i = .ptr b q → lookO b o' = lookO b o) {v : AV} {o1 : Objs} {n1 : Nat}
    (h : wpF false P gl ⟨E, o, n⟩ p (fun x y z => x = v ∧ y = o1 ∧ z = n1)) : (o1 = o ∧ n1 = n) ∧ wpF false P gl ⟨E, o', n'⟩ p (fun x y z => x = v ∧ y = o' ∧ z = n') := by
  cases p <;> simp only [adr] at hp <;> try cases hp
  rename_i ag m x
  cases x <;> simp only [] at hp <;> try cases hp
  simp only [wpF, wpV, evF] at h ⊢
  split at h
  · rename_i b q he
    split at h
    · rename_i a hb
      rw [hl _ _ he, hb]
      simp only [chk_iff] at h ⊢
      obtain ⟨h1, h2, h3, rfl, rfl⟩ := h
      exact ⟨⟨rfl, rfl⟩, h1, h2, h3, trivial, trivial⟩
    · exact h.elim
  · simp only [chk_iff] at h ⊢
    obtain ⟨h1, h2, h3, rfl, rfl⟩ := h
    exact ⟨⟨rfl, rfl⟩, h1, h2, h3, trivial, trivial⟩
  · exact h.elim

theorem wpF_stoS {P : Program} {gl : Nat → AV} {E : Nat → AV} {o : Objs} {n : Nat} {p : IOp} {j : Nat} (hp : adrS p = some j) {v : AV} {o1 : Objs} {n1 : Nat}
    (h : wpF false P gl ⟨E, o, n⟩ p (fun x y z => x = v ∧ y = o1 ∧ z = n1)) : n1 = n ∧ ∀ b, (∀ b' q, E j = .ptr b' q → b ≠ b') → lookO b o1 = lookO b o := by
  cases p <;> simp only [adrS] at hp <;> try cases hp
  rename_i sz x w
  cases x <;> simp only [] at hp <;> try cases hp
  simp only [wpF, wpL, evF] at h
  split at h
  · rename_i b q he
    split at h
    · simp only [chk_iff] at h
      obtain ⟨_, _, _, _, _, rfl, rfl⟩ := h
      refine ⟨rfl, fun b2 hb => ?_⟩
      rw [lookO_setO, if_neg (hb _ _ he)]
    · exact h.elim
  · exact h.elim

theorem YF_swapS {P : Program} {gl : Nat → AV} {x y : Ent} (ha : apartV x y = true) {i j : Nat} (hx0 : adr x.op = some i) (hy0 : adrS y.op = some j) {s : FS} (hsep : ∀ b p b' q, s.E i = .ptr b p → s.E j = .ptr b' q → b ≠ b')
    (hj : x.dst ≠ some j) {v u : AV} {o1 o2 : Objs} {n1 n2 : Nat} (hx : YF P gl x s v o1 n1) (hy : YF P gl y (s.next x v o1 n1) u o2 n2) :
    ∃ o3 n3, YF P gl y s u o3 n3 ∧ YF P gl x (s.next y u o3 n3) v o2 n2 ∧ (s.next y u o3 n3).next x v o2 n2 = (s.next x v o1 n1).next y u o2 n2 := by
  obtain ⟨h1, h2, h3⟩ := apartV_spec ha
  obtain ⟨E, o, n⟩ := s
  have hEy : ∀ (O : Objs) (M : Nat) {o' : Objs} {n' : Nat}, YF P gl y ⟨putD E x.dst v, O, M⟩ u o' n' → YF P gl y ⟨E, O, M⟩ u o' n' := fun O M _ _ h => YF_congrE (fun t ht => putD_ne (fun d hd e => h1 d hd (e ▸ ht))) h
  have hEx : ∀ (O : Objs) (M : Nat) {o' : Objs} {n' : Nat}, YF P gl x ⟨E, O, M⟩ v o' n' → YF P gl x ⟨putD E y.dst u, O, M⟩ v o' n' := fun O M _ _ h => YF_congrE (fun t ht => (putD_ne (fun d hd e => h3 d hd (e ▸ ht))).symm) h
  have hc : putD (putD E y.dst u) x.dst v = putD (putD E x.dst v) y.dst u := (putD_comm h2).symm
  have hR : isR x.op = true := by
    cases hp : x.op <;> rw [hp] at hx0 <;> simp only [adr] at hx0 <;> try cases hx0
    rfl
  obtain ⟨rfl, rfl⟩ := YF_same (.inr hR) hx
  have hy := hEy _ _ hy
  refine ⟨o2, n2, hy, hEx _ _ ?_, by simp only [FS.next, hc]⟩
  rcases hy with ⟨_, hy⟩ | ⟨_, _, rfl, rfl⟩
  · obtain ⟨rfl, hl⟩ := wpF_stoS hy0 hy
    rcases hx with ⟨q1, q2⟩ | ⟨q1, q2, _, _⟩
    · exact .inl ⟨q1, (wpF_ldS hx0 (fun b p hb => hl b (fun b' q hb' => hsep b p b' q hb hb')) q2).2⟩
    · exact .inr ⟨q1, q2, rfl, rfl⟩
  · exact hx

/-! Boxes that are made in the region itself, under names laid by for them. -/
def isS : IOp → Bool
  | .alcN _ _ => true
  | _ => false

def adrN : IOp → Option Nat
  | .stoN j _ _ _ => some j
  | _ => none

/-- What leaves the next name as it is. -/
def keepN : IOp → Bool
  | .alloc _ | .box _ | .bsl _ _ _ _ | .app _ _ _ _ _ | .appz _ _ _ _ _ _ | .mks _ _ _ _ _ _ | .s2b _ _ | .cvb _ | .aps _ _ _ | .mkm _ | .mupd _ _ _ _ | .mget _ _ _ _ _ | .callx _ _ => false
  | _ => true

def apartS (x y : Ent) : Bool := apartV x y && (isS y.op && (isN x.op || (isR x.op || (isC x.op || isS x.op))))

def sepR (js : List Nat) (x y : Ent) : Bool := apartV x y && ((match x.gd with | none => true | some _ => false) && ((adr x.op).isSome && match adrN y.op with
  | some j => js.contains j
  | none => false))

theorem setO_comm {q t : Nat} (hne : q ≠ t) (x y : AObj) : ∀ (o : Objs), setO q x (setO t y o) = setO t y (setO q x o)
  | [] => rfl
  | (k, a) :: r => by
    by_cases h1 : k = t
    · subst h1
      simp only [setO, beq_self, beq_of_ne (Ne.symm hne)]
    · by_cases h2 : k = q
      · subst h2
        simp only [setO, beq_self, beq_of_ne hne]
      · simp only [setO, beq_of_ne h1, beq_of_ne h2, setO_comm hne x y r]

theorem wpF_S {P : Program} {gl : Nat → AV} {E : Nat → AV} {o : Objs} {n : Nat} {p : IOp} (hp : isS p = true) {v : AV} {o1 : Objs} {n1 : Nat} (h : wpF false P gl ⟨E, o, n⟩ p (fun x y z => x = v ∧ y = o1 ∧ z = n1)) :
    ∃ q z, lookO q o = some .soon ∧ v = .ptr q [] ∧ o1 = setO q (.box z) o ∧ n1 = n ∧ ∀ (E' : Nat → AV) (o' : Objs), lookO q o' = some .soon → wpF false P gl ⟨E', o', n⟩ p (fun x y z' => x = v ∧ y = setO q (.box z) o' ∧ z' = n) := by
  cases p <;> simp [isS] at hp
  rename_i j z
  simp only [wpF, wpL] at h
  split at h
  · rename_i hq
    simp only [chk_iff] at h
    obtain ⟨h1, h2, rfl, rfl, rfl⟩ := h
    refine ⟨_, z, hq, rfl, rfl, rfl, fun E' o' hq' => ?_⟩
    simp only [wpF, wpL, hq', chk_iff]
    exact ⟨h1, h2, trivial, trivial, trivial⟩
  · exact h.elim

theorem wpF_stoN {P : Program} {gl : Nat → AV} {E : Nat → AV} {o : Objs} {n : Nat} {p : IOp} {j : Nat} (hp : adrN p = some j) {v : AV} {o1 : Objs} {n1 : Nat}
    (h : wpF false P gl ⟨E, o, n⟩ p (fun x y z => x = v ∧ y = o1 ∧ z = n1)) : n1 = n ∧ ∀ b, b ≠ n - j → lookO b o1 = lookO b o := by
  cases p <;> simp only [adrN] at hp <;> try cases hp
  rename_i sz x w
  simp only [wpF, wpL] at h
  split at h
  · rename_i b q he
    obtain ⟨hb, h⟩ := chk_iff.1 h
    have hb := beq_eq hb
    subst hb
    split at h
    · simp only [chk_iff] at h
      obtain ⟨_, _, _, _, _, rfl, rfl⟩ := h
      exact ⟨rfl, fun b2 hb => by rw [lookO_setO, if_neg hb]⟩
    · exact h.elim
  · exact h.elim

/-- A call, with a box made first. -/
theorem wpF_Cq {P : Program} {gl : Nat → AV} {E : Nat → AV} {o : Objs} {n q : Nat} {z : AObj} {p : IOp} (hp : isC p = true) (hq : lookO q o = some .soon) {v : AV} {o1 : Objs} (h : wpF false P gl ⟨E, o, n⟩ p (fun x y k => x = v ∧ y = o1 ∧ k = n)) :
    wpF false P gl ⟨E, setO q z o, n⟩ p (fun x y k => x = v ∧ y = setO q z o1 ∧ k = n) := by
  have key : ∀ {f : FuncId} {args : List AV}, (CallO P gl f args o fun r o2 => r = v ∧ o2 = o1 ∧ n = n) → CallO P gl f args (setO q z o) fun r o2 => r = v ∧ o2 = setO q z o1 ∧ n = n := by
    intro f args h
    rcases h with ⟨args', r, h1, h2, rfl, rfl, _⟩ | ⟨t, m, e, ty, args', r, m', h1, h2, h3, rfl, rfl, _⟩
    · exact .inl ⟨args', r, h1, h2, rfl, rfl, rfl⟩
    · have hne : t ≠ q := fun e1 => by subst e1; rw [hq] at h1; cases h1
      refine .inr ⟨t, m, e, ty, args', r, m', by rw [lookO_setO, if_neg hne]; exact h1, h2, h3, rfl, ?_, rfl⟩
      exact setO_comm hne _ _ o
  cases p <;> simp [isC] at hp
  · exact key h
  · obtain ⟨f, args, hb, h⟩ := calv_call h
    exact hb _ _ _ (key h)

theorem YF_keep {P : Program} {gl : Nat → AV} {en : Ent} (hk : keepN en.op = true) {s : FS} {v : AV} {o : Objs} {n : Nat} (h : YF P gl en s v o n) : n = s.n := by
  rcases h with ⟨_, h⟩ | ⟨_, _, _, rfl⟩
  · by_cases hN : isN en.op = true ∨ isR en.op = true
    · exact (wpF_same hN h).2
    · by_cases hC : isC en.op = true
      · exact (wpF_C (E := s.E) (o := s.o) (n := s.n) hC h).1
      · cases hp : en.op <;> rw [hp] at hN hC hk h <;> simp [isN, isR, isC, keepN] at hN hC hk <;> simp only [wpF, wpL] at h
        · split at h
          · split at h
            · simp only [chk_iff] at h
              exact h.2.2.2.2.2.2.symm
            · exact h.elim
          · exact h.elim
        · obtain ⟨x, _, rfl, rfl, rfl⟩ := wpV_ex h
          rfl
        · split at h
          · simp only [chk_iff] at h
            exact h.2.2.2.2.symm
          · exact h.elim
        · split at h
          · obtain ⟨_, h⟩ := chk_iff.1 h
            split at h
            · simp only [chk_iff] at h
              exact h.2.2.2.2.2.2.symm
            · exact h.elim
          · exact h.elim
  · rfl

theorem YF_swapR {P : Program} {gl : Nat → AV} {x y : Ent} (ha : apartS x y = true) {s : FS} {v u : AV} {o1 o2 : Objs} {n1 n2 : Nat} (hx : YF P gl x s v o1 n1) (hy : YF P gl y (s.next x v o1 n1) u o2 n2) :
    ∃ o3 n3, YF P gl y s u o3 n3 ∧ YF P gl x (s.next y u o3 n3) v o2 n2 ∧ (s.next y u o3 n3).next x v o2 n2 = (s.next x v o1 n1).next y u o2 n2 := by
  simp only [apartS, Bool.and_eq_true, Bool.or_eq_true] at ha
  obtain ⟨hav, hS, hx0⟩ := ha
  obtain ⟨h1, h2, h3⟩ := apartV_spec hav
  obtain ⟨E, o, n⟩ := s
  have hEy : ∀ (O : Objs) (M : Nat) {o' : Objs} {n' : Nat}, YF P gl y ⟨putD E x.dst v, O, M⟩ u o' n' → YF P gl y ⟨E, O, M⟩ u o' n' := fun O M _ _ h => YF_congrE (fun t ht => putD_ne (fun d hd e => h1 d hd (e ▸ ht))) h
  have hEx : ∀ (O : Objs) (M : Nat) {o' : Objs} {n' : Nat}, YF P gl x ⟨E, O, M⟩ v o' n' → YF P gl x ⟨putD E y.dst u, O, M⟩ v o' n' := fun O M _ _ h => YF_congrE (fun t ht => (putD_ne (fun d hd e => h3 d hd (e ▸ ht))).symm) h
  have hc : putD (putD E y.dst u) x.dst v = putD (putD E x.dst v) y.dst u := (putD_comm h2).symm
  have hy := hEy _ _ hy
  rcases hy with ⟨p1, p2⟩ | ⟨p1, p2, p3, p4⟩
  · obtain ⟨q, z, hq, hu, ho2, hn2, hre⟩ := wpF_S hS p2
    have hn2 : n2 = n1 := hn2
    subst hn2 ho2
    have yAt : ∀ (O : Objs), lookO q O = some .soon → YF P gl y ⟨E, O, n2⟩ u (setO q (.box z) O) n2 := fun O hO => .inl ⟨p1, hre E O hO⟩
    rcases hx0 with r | r | r | r
    · obtain ⟨rfl, rfl⟩ := YF_same (.inl r) hx
      exact ⟨_, _, yAt o1 hq, hEx _ _ (YF_N r hx _ _), by simp only [FS.next, hc]⟩
    · obtain ⟨rfl, rfl⟩ := YF_same (.inr r) hx
      refine ⟨_, _, yAt o1 hq, hEx _ _ ?_, by simp only [FS.next, hc]⟩
      rcases hx with ⟨q1, q2⟩ | ⟨q1, q2, _, _⟩
      · refine .inl ⟨q1, wpF_Rb r (fun b a hb => ?_) q2⟩
        rw [lookO_setO, if_neg]
        · exact hb
        · rintro rfl
          rw [show lookO b o1 = some AObj.soon from hq] at hb
          cases hb
      · exact .inr ⟨q1, q2, rfl, rfl⟩
    · rcases hx with ⟨q1, q2⟩ | ⟨q1, q2, q3, q4⟩
      · obtain ⟨q5, ho⟩ := wpF_C r q2
        have q5 : n2 = n := q5
        subst q5
        have hq0 : lookO q o = some .soon := by
          rcases ho with rfl | ⟨t, m, m', e, ty, h5, rfl⟩
          · exact hq
          · have hq : lookO q (setO t (.room m' e ty) o) = some .soon := hq
            rw [lookO_setO] at hq
            by_cases e1 : q = t
            · subst e1; rw [if_pos rfl, h5] at hq; cases hq
            · rw [if_neg e1] at hq; exact hq
        exact ⟨_, _, yAt o hq0, hEx _ _ (.inl ⟨q1, wpF_Cq r hq0 q2⟩), by simp only [FS.next, hc]⟩
      · have q3 : o1 = o := q3
        have q4 : n2 = n := q4
        subst q3 q4
        exact ⟨_, _, yAt o1 hq, hEx _ _ (.inr ⟨q1, q2, rfl, rfl⟩), by simp only [FS.next, hc]⟩
    · rcases hx with ⟨q1, q2⟩ | ⟨q1, q2, q3, q4⟩
      · obtain ⟨q', z', hq', hv, ho1, hn1, hre'⟩ := wpF_S r q2
        have hn1 : n2 = n := hn1
        subst hn1 ho1
        have hq : lookO q (setO q' (.box z') o) = some .soon := hq
        rw [lookO_setO] at hq
        have hne : q ≠ q' := fun e1 => by rw [if_pos e1, hq'] at hq; cases hq
        rw [if_neg hne] at hq
        have hq2 : lookO q' (setO q (.box z) o) = some .soon := by rw [lookO_setO, if_neg (Ne.symm hne)]; exact hq'
        have h9 := hre' E _ hq2
        rw [setO_comm (Ne.symm hne)] at h9
        exact ⟨_, _, yAt o hq, hEx _ _ (.inl ⟨q1, h9⟩), by simp only [FS.next, hc]⟩
      · have q3 : o1 = o := q3
        have q4 : n2 = n := q4
        subst q3 q4
        exact ⟨_, _, yAt o1 hq, hEx _ _ (.inr ⟨q1, q2, rfl, rfl⟩), by simp only [FS.next, hc]⟩
  · have p3 : o2 = o1 := p3
    have p4 : n2 = n1 := p4
    subst p3 p4
    refine ⟨o, n, .inr ⟨p1, p2, rfl, rfl⟩, hEx _ _ hx, by simp only [FS.next, hc]⟩

theorem YF_swapZ {P : Program} {gl : Nat → AV} {x y : Ent} (ha : apartV x y = true) {i j : Nat} (hx0 : adr x.op = some i) (hy0 : adrN y.op = some j) {s : FS} (hsep : ∀ b p, s.E i = .ptr b p → b ≠ s.n - j)
    {v u : AV} {o1 o2 : Objs} {n1 n2 : Nat} (hx : YF P gl x s v o1 n1) (hy : YF P gl y (s.next x v o1 n1) u o2 n2) :
    ∃ o3 n3, YF P gl y s u o3 n3 ∧ YF P gl x (s.next y u o3 n3) v o2 n2 ∧ (s.next y u o3 n3).next x v o2 n2 = (s.next x v o1 n1).next y u o2 n2 := by
  obtain ⟨h1, h2, h3⟩ := apartV_spec ha
  obtain ⟨E, o, n⟩ := s
  have hEy : ∀ (O : Objs) (M : Nat) {o' : Objs} {n' : Nat}, YF P gl y ⟨putD E x.dst v, O, M⟩ u o' n' → YF P gl y ⟨E, O, M⟩ u o' n' := fun O M _ _ h => YF_congrE (fun t ht => putD_ne (fun d hd e => h1 d hd (e ▸ ht))) h
  have hEx : ∀ (O : Objs) (M : Nat) {o' : Objs} {n' : Nat}, YF P gl x ⟨E, O, M⟩ v o' n' → YF P gl x ⟨putD E y.dst u, O, M⟩ v o' n' := fun O M _ _ h => YF_congrE (fun t ht => (putD_ne (fun d hd e => h3 d hd (e ▸ ht))).symm) h
  have hc : putD (putD E y.dst u) x.dst v = putD (putD E x.dst v) y.dst u := (putD_comm h2).symm
  have hR : isR x.op = true := by
    cases hp : x.op <;> rw [hp] at hx0 <;> simp only [adr] at hx0 <;> try cases hx0
    rfl
  obtain ⟨rfl, rfl⟩ := YF_same (.inr hR) hx
  have hy := hEy _ _ hy
  refine ⟨o2, n2, hy, hEx _ _ ?_, by simp only [FS.next, hc]⟩
  rcases hy with ⟨_, hy⟩ | ⟨_, _, rfl, rfl⟩
  · obtain ⟨rfl, hl⟩ := wpF_stoN hy0 hy
    rcases hx with ⟨q1, q2⟩ | ⟨q1, q2, _, _⟩
    · exact .inl ⟨q1, (wpF_ldS hx0 (fun b p hb => hl b (hsep b p hb)) q2).2⟩
    · exact .inr ⟨q1, q2, rfl, rfl⟩
  · exact hx

end Ar
