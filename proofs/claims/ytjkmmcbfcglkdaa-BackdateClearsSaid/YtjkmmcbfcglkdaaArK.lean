/- What an operation of a region reads, and that two that do not touch may change places. No condition. -/
import Derived.Test.YtjkmmcbfcglkdaaArJ
namespace Ar
open Go
set_option linter.unusedVariables false
set_option autoImplicit false

def rdX : X → List Nat
  | .t i => [i]
  | _ => []

def rdL : List X → List Nat
  | [] => []
  | x :: r => rdX x ++ rdL r

def rdP : List (Nat × Nat × Nat × X) → List Nat
  | [] => []
  | (_, _, _, x) :: r => rdX x ++ rdP r

def rd : IOp → List Nat
  | .mv x => rdX x
  | .pick c a b => rdX c ++ (rdX a ++ rdX b)
  | .alloc _ => []
  | .box x => rdX x
  | .ld _ _ x => rdX x
  | .sto _ x v => rdX x ++ rdX v
  | .fa _ _ x => rdX x
  | .fld _ _ _ _ x => rdX x
  | .ixa _ _ x i => rdX x ++ rdX i
  | .ixs _ x i => rdX x ++ rdX i
  | .ix _ _ _ x i => rdX x ++ rdX i
  | .ixb x i => rdX x ++ rdX i
  | .bin _ x y => rdX x ++ rdX y
  | .sop _ x y => rdX x ++ rdX y
  | .eqv _ x y => rdX x ++ rdX y
  | .un _ x => rdX x
  | .conv _ x => rdX x
  | .len x => rdX x
  | .lens x => rdX x
  | .ext _ x => rdX x
  | .build _ l => rdP l
  | .nck x => rdX x
  | .eqs _ _ x y => rdX x ++ rdX y
  | .slc _ x lo hi => rdX x ++ (rdX lo ++ rdX hi)
  | .sls x lo hi => rdX x ++ (rdX lo ++ rdX hi)
  | .mm _ x y => rdX x ++ rdX y
  | .mm3 _ x y z => rdX x ++ (rdX y ++ rdX z)
  | .dead => []
  | .xcall _ l => rdL l
  | .bsl _ _ _ l => rdP l
  | .app _ _ _ x y => rdX x ++ rdX y
  | .call _ l => rdL l

def isN : IOp → Bool
  | .ld _ _ _ | .ixs _ _ _ | .alloc _ | .box _ | .sto _ _ _ | .bsl _ _ _ _ | .app _ _ _ _ _ => false
  | _ => true

def isR : IOp → Bool
  | .ld _ _ _ | .ixs _ _ _ => true
  | _ => false

theorem evF_congr {gl E E' : Nat → AV} {x : X} (h : ∀ t, t ∈ rdX x → E t = E' t) : evF gl E x = evF gl E' x := by
  cases x <;> simp only [evF]
  exact h _ (by simp [rdX])

theorem evFL_congr {gl E E' : Nat → AV} : ∀ {l : List X}, (∀ t, t ∈ rdL l → E t = E' t) → evFL gl E l = evFL gl E' l
  | [], _ => rfl
  | x :: r, h => by simp only [evFL, evF_congr (gl := gl) (x := x) (fun t ht => h t (by simp [rdL, ht])), evFL_congr (l := r) (fun t ht => h t (by simp [rdL, ht]))]

theorem mkParts_congr {gl E E' : Nat → AV} : ∀ {l : List (Nat × Nat × Nat × X)} {z : AV}, (∀ t, t ∈ rdP l → E t = E' t) → mkParts (evF gl E) l z = mkParts (evF gl E') l z ∧ okParts (evF gl E) l z = okParts (evF gl E') l z
  | [], _, _ => ⟨rfl, rfl⟩
  | (k, off, sz, x) :: r, z, h => by
    have e1 := evF_congr (gl := gl) (x := x) (fun t ht => h t (by simp [rdP, ht]))
    simp only [mkParts, okParts, e1]
    obtain ⟨a, b⟩ := mkParts_congr (gl := gl) (l := r) (z := setPart k (evF gl E' x) z) (fun t ht => h t (by simp [rdP, ht]))
    exact ⟨a, by rw [b]⟩

theorem loV_congr {gl E E' : Nat → AV} {x : X} {K : Nat → Prop} (h : ∀ t, t ∈ rdX x → E t = E' t) : loV (evF gl E) x K = loV (evF gl E') x K := by
  have e1 := evF_congr (gl := gl) h
  cases x <;> simp only [loV, e1]

theorem hiV_congr {gl E E' : Nat → AV} {x : X} {n : Nat} {K : Nat → Prop} (h : ∀ t, t ∈ rdX x → E t = E' t) : hiV (evF gl E) x n K = hiV (evF gl E') x n K := by
  have e1 := evF_congr (gl := gl) h
  cases x <;> simp only [hiV, e1]

theorem wpF_congr {P : Program} {gl E E' : Nat → AV} {o : Objs} {n : Nat} {p : IOp} (h : ∀ t, t ∈ rd p → E t = E' t) (K : AV → Objs → Nat → Prop) : wpF P gl ⟨E, o, n⟩ p K = wpF P gl ⟨E', o, n⟩ p K := by
  cases p <;> simp only [wpF, wpV, wpL]
  case mv x => rw [evF_congr (x := x) (fun t ht => h t (by simp [rd, ht]))]
  case pick c a b => rw [evF_congr (x := c) (fun t ht => h t (by simp [rd, ht])), evF_congr (x := a) (fun t ht => h t (by simp [rd, ht])), evF_congr (x := b) (fun t ht => h t (by simp [rd, ht]))]
  case build z l => rw [(mkParts_congr (l := l) (z := z) (fun t ht => h t (by simp [rd, ht]))).1, (mkParts_congr (l := l) (z := z) (fun t ht => h t (by simp [rd, ht]))).2]
  case bsl e ty z l => rw [(mkParts_congr (l := l) (fun t ht => h t (by simp [rd, ht]))).1, (mkParts_congr (l := l) (fun t ht => h t (by simp [rd, ht]))).2]
  case call f l => rw [evFL_congr (l := l) (fun t ht => h t (by simp [rd, ht]))]
  case xcall f l => rw [evFL_congr (l := l) (fun t ht => h t (by simp [rd, ht]))]
  case slc e x lo hi =>
    rw [evF_congr (x := x) (fun t ht => h t (by simp [rd, ht]))]
    simp only [loV_congr (x := lo) (fun t ht => h t (by simp [rd, ht])), hiV_congr (x := hi) (fun t ht => h t (by simp [rd, ht]))]
  case sls x lo hi =>
    rw [evF_congr (x := x) (fun t ht => h t (by simp [rd, ht]))]
    simp only [loV_congr (x := lo) (fun t ht => h t (by simp [rd, ht])), hiV_congr (x := hi) (fun t ht => h t (by simp [rd, ht]))]
  case mm3 mx x y z => rw [evF_congr (x := x) (fun t ht => h t (by simp [rd, ht])), evF_congr (x := y) (fun t ht => h t (by simp [rd, ht])), evF_congr (x := z) (fun t ht => h t (by simp [rd, ht]))]
  case sto sz x v => rw [evF_congr (x := x) (fun t ht => h t (by simp [rd, ht])), evF_congr (x := v) (fun t ht => h t (by simp [rd, ht]))]
  case app e b ty x v => rw [evF_congr (x := x) (fun t ht => h t (by simp [rd, ht])), evF_congr (x := v) (fun t ht => h t (by simp [rd, ht]))]
  all_goals first
    | (rename_i x i; rw [evF_congr (x := x) (fun t ht => h t (by simp [rd, ht])), evF_congr (x := i) (fun t ht => h t (by simp [rd, ht]))])
    | (rename_i x; rw [evF_congr (x := x) (fun t ht => h t (by simp [rd, ht]))])

theorem wpF_N {P : Program} {gl E : Nat → AV} {o o' : Objs} {n n' : Nat} {p : IOp} (h : isN p = true) (K : AV → Prop) : wpF P gl ⟨E, o, n⟩ p (fun v _ _ => K v) = wpF P gl ⟨E, o', n'⟩ p (fun v _ _ => K v) := by
  cases p <;> simp [isN] at h <;> rfl

theorem wpF_ex {P : Program} {gl : Nat → AV} {s : FS} {p : IOp} {K : AV → Objs → Nat → Prop} (h : wpF P gl s p K) : ∃ v o' n', wpF P gl s p (fun x y z => x = v ∧ y = o' ∧ z = n') ∧ K v o' n' := by
  cases p <;> simp only [wpF] at h ⊢
  case call f l =>
    obtain ⟨args', r, h1, h2, h3⟩ := h
    exact ⟨r, _, _, ⟨args', r, h1, h2, rfl, rfl, rfl⟩, h3⟩
  case xcall f l =>
    obtain ⟨r, h1, h2⟩ := h
    exact ⟨r, _, _, ⟨r, h1, rfl, rfl, rfl⟩, h2⟩
  all_goals first
    | (obtain ⟨v, o', n', h1, h2⟩ := wpL_ex h; exact ⟨v, o', n', h1, h2⟩)
    | (obtain ⟨v, h1, h2⟩ := wpV_ex h; exact ⟨v, _, _, wpV_mono h1 ⟨rfl, rfl, rfl⟩, h2⟩)

theorem wpF_mono {P : Program} {gl : Nat → AV} {s : FS} {p : IOp} {v : AV} {o' : Objs} {n' : Nat} {K : AV → Objs → Nat → Prop} (h : wpF P gl s p (fun x y z => x = v ∧ y = o' ∧ z = n')) (hK : K v o' n') : wpF P gl s p K := by
  cases p <;> simp only [wpF] at h ⊢
  case call f l =>
    obtain ⟨args', r, h1, h2, rfl, rfl, rfl⟩ := h
    exact ⟨args', r, h1, h2, hK⟩
  case xcall f l =>
    obtain ⟨r, h1, rfl, rfl, rfl⟩ := h
    exact ⟨r, h1, hK⟩
  all_goals first
    | exact wpL_mono h hK
    | (obtain ⟨x, h1, rfl, rfl, rfl⟩ := wpV_ex h; exact wpV_mono h1 hK)

/-- A value operation leaves memory. -/
theorem wpF_same {P : Program} {gl : Nat → AV} {s : FS} {p : IOp} (hp : isN p = true ∨ isR p = true) {v : AV} {o' : Objs} {n' : Nat} (h : wpF P gl s p (fun x y z => x = v ∧ y = o' ∧ z = n')) : o' = s.o ∧ n' = s.n := by
  cases p <;> simp [isN, isR] at hp <;> simp only [wpF] at h
  case call f l => obtain ⟨_, _, _, _, _, rfl, rfl⟩ := h; exact ⟨rfl, rfl⟩
  case xcall f l => obtain ⟨_, _, _, rfl, rfl⟩ := h; exact ⟨rfl, rfl⟩
  all_goals (obtain ⟨x, h1, rfl, rfl, rfl⟩ := wpV_ex h; exact ⟨rfl, rfl⟩)

/-! Two entries that do not touch. -/
def Ent.rds (en : Ent) : List Nat := rd en.op ++ (match en.gd with | some (t, _) => [t] | none => [])

def apartE (x y : Ent) : Bool :=
  (match x.dst with
   | some d => !(y.rds).contains d && (match y.dst with | some d' => !Nat.beq d d' | none => true)
   | none => true) &&
  (match y.dst with
   | some d => !(x.rds).contains d
   | none => true) &&
  (isN x.op || (isN y.op || (isR x.op && isR y.op)))

theorem apartE_spec {x y : Ent} (h : apartE x y = true) : (∀ d, x.dst = some d → d ∉ y.rds) ∧ (∀ d, x.dst = some d → y.dst ≠ some d) ∧ (∀ d, y.dst = some d → d ∉ x.rds) ∧
    (isN x.op = true ∨ isN y.op = true ∨ (isR x.op = true ∧ isR y.op = true)) := by
  simp only [apartE, Bool.and_eq_true, Bool.or_eq_true] at h
  obtain ⟨⟨h1, h2⟩, h3⟩ := h
  refine ⟨fun d hd => ?_, fun d hd => ?_, fun d hd => ?_, h3⟩
  · rw [hd] at h1; simp at h1; exact h1.1
  · rw [hd] at h1
    intro he
    rw [he] at h1
    simp at h1
  · rw [hd] at h2; simpa using h2

theorem putD_ne {E : Nat → AV} {d : Option Nat} {v : AV} {t : Nat} (h : ∀ x, d = some x → x ≠ t) : putD E d v t = E t := by
  cases d with
  | none => rfl
  | some x => simp only [putD, putF]; rw [if_neg (h x rfl)]

theorem putD_comm {E : Nat → AV} {d d' : Option Nat} {v u : AV} (h : ∀ x, d = some x → d' ≠ some x) : putD (putD E d v) d' u = putD (putD E d' u) d v := by
  cases d with
  | none => rfl
  | some x =>
    cases d' with
    | none => rfl
    | some y =>
      have hne : x ≠ y := fun e => h x rfl (by rw [e])
      funext t
      simp only [putD, putF]
      by_cases h1 : y = t
      · subst h1
        rw [if_pos rfl, if_neg hne, if_pos rfl]
      · rw [if_neg h1, if_neg h1]

theorem Gd_congr {s s' : FS} {gd : Option (Nat × Bool)} {r : Bool} (h : ∀ t b, gd = some (t, b) → s.E t = s'.E t) : Gd s gd r ↔ Gd s' gd r := by
  cases gd with
  | none => exact Iff.rfl
  | some q => obtain ⟨t, b⟩ := q; simp only [Gd, h t b rfl]

theorem YF_congrE {P : Program} {gl : Nat → AV} {en : Ent} {E E' : Nat → AV} {o o' : Objs} {n n' : Nat} {v : AV} (h : ∀ t, t ∈ en.rds → E t = E' t) (hy : YF P gl en ⟨E, o, n⟩ v o' n') : YF P gl en ⟨E', o, n⟩ v o' n' := by
  have hg : ∀ r, Gd (⟨E, o, n⟩ : FS) en.gd r ↔ Gd (⟨E', o, n⟩ : FS) en.gd r := fun r => Gd_congr (fun t b hb => h t (by simp [Ent.rds, hb]))
  unfold YF at *
  rw [← hg, ← hg, ← wpF_congr (E := E) (E' := E') (fun t ht => h t (by simp [Ent.rds, ht]))]
  exact hy

theorem YF_N {P : Program} {gl : Nat → AV} {en : Ent} (hn : isN en.op = true) {E : Nat → AV} {o o' : Objs} {n n' : Nat} {v : AV} (hy : YF P gl en ⟨E, o, n⟩ v o' n') (o2 : Objs) (n2 : Nat) : YF P gl en ⟨E, o2, n2⟩ v o2 n2 := by
  rcases hy with ⟨h1, h2⟩ | ⟨h1, h2, h3, h4⟩
  · refine .inl ⟨h1, ?_⟩
    have h3 : wpF P gl ⟨E, o, n⟩ en.op (fun x _ _ => x = v) := wpF_mono h2 rfl
    rw [wpF_N (o' := o2) (n' := n2) hn] at h3
    obtain ⟨x, y, z, h4, rfl⟩ := wpF_ex h3
    obtain ⟨rfl, rfl⟩ := wpF_same (.inl hn) h4
    exact h4
  · exact .inr ⟨h1, h2, rfl, rfl⟩

theorem YF_same {P : Program} {gl : Nat → AV} {en : Ent} (hn : isN en.op = true ∨ isR en.op = true) {s : FS} {o' : Objs} {n' : Nat} {v : AV} (hy : YF P gl en s v o' n') : o' = s.o ∧ n' = s.n := by
  rcases hy with ⟨_, h2⟩ | ⟨_, _, h3, h4⟩
  · exact wpF_same hn h2
  · exact ⟨h3, h4⟩

/-- First x, then y: or first y, then x. -/
theorem YF_swap {P : Program} {gl : Nat → AV} {x y : Ent} (ha : apartE x y = true) {s : FS} {v u : AV} {o1 o2 : Objs} {n1 n2 : Nat} (hx : YF P gl x s v o1 n1) (hy : YF P gl y (s.next x v o1 n1) u o2 n2) :
    ∃ o3 n3, YF P gl y s u o3 n3 ∧ YF P gl x (s.next y u o3 n3) v o2 n2 ∧ (s.next y u o3 n3).next x v o2 n2 = (s.next x v o1 n1).next y u o2 n2 := by
  obtain ⟨h1, h2, h3, h4⟩ := apartE_spec ha
  obtain ⟨E, o, n⟩ := s
  have hEy : ∀ (O : Objs) (M : Nat) {o' : Objs} {n' : Nat}, YF P gl y ⟨putD E x.dst v, O, M⟩ u o' n' → YF P gl y ⟨E, O, M⟩ u o' n' := fun O M _ _ h => YF_congrE (fun t ht => putD_ne (fun d hd e => h1 d hd (e ▸ ht))) h
  have hEx : ∀ (O : Objs) (M : Nat) {o' : Objs} {n' : Nat}, YF P gl x ⟨E, O, M⟩ v o' n' → YF P gl x ⟨putD E y.dst u, O, M⟩ v o' n' := fun O M _ _ h => YF_congrE (fun t ht => (putD_ne (fun d hd e => h3 d hd (e ▸ ht))).symm) h
  have hc : putD (putD E y.dst u) x.dst v = putD (putD E x.dst v) y.dst u := (putD_comm h2).symm
  rcases h4 with hn | hn | ⟨r1, r2⟩
  · obtain ⟨rfl, rfl⟩ := YF_same (.inl hn) hx
    refine ⟨o2, n2, hEy _ _ hy, hEx _ _ (YF_N hn hx o2 n2), ?_⟩
    simp only [FS.next, hc]
  · obtain ⟨rfl, rfl⟩ := YF_same (.inl hn) hy
    refine ⟨o, n, hEy _ _ (YF_N hn hy o n), hEx _ _ hx, ?_⟩
    simp only [FS.next, hc]
  · obtain ⟨rfl, rfl⟩ := YF_same (.inr r1) hx
    obtain ⟨rfl, rfl⟩ := YF_same (.inr r2) hy
    exact ⟨_, _, hEy _ _ hy, hEx _ _ hx, by simp only [FS.next, hc]⟩

end Ar
