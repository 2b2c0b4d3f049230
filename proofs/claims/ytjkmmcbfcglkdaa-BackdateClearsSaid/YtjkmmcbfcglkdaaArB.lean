/- Going down into an abstract value by a path, and writing there: what the cells read as before and behind. No condition. -/
import Derived.Test.YtjkmmcbfcglkdaaArA
namespace Ar
open Go
set_option linter.unusedVariables false
set_option autoImplicit false

def nth : Nat → AV → AV
  | 0, .cons a _ => a
  | k + 1, .cons _ b => nth k b
  | _, _ => .any

def hasN : Nat → AV → Bool
  | 0, .cons _ _ => true
  | k + 1, .cons _ b => hasN k b
  | _, _ => false

def offN : Nat → AV → Nat
  | k + 1, .cons a b => size a + offN k b
  | _, _ => 0

def setNth : Nat → AV → AV → AV
  | 0, v, .cons _ b => .cons v b
  | k + 1, v, .cons a b => .cons a (setNth k v b)
  | _, _, a => a

def compP : PE → AV → AV
  | .fld k _, .st l => nth k l
  | .idx j _ _, .arr _ _ f => f j
  | _, _ => .any

def okP : PE → AV → Bool
  | .fld k o, .st l => hasN k l && Nat.beq (offN k l) o
  | .idx _ n e, .arr n' e' _ => Nat.beq n n' && Nat.beq e e'
  | _, _ => false

/-- One of two, the choice pushed down to the numbers where both have the same form. -/
def selA (c : Prop) [Decidable c] : AV → AV → AV
  | .val (.int k x), .val (.int k' y) => match decEq k k' with
    | .isTrue _ => .val (.int k (if c then x else y))
    | .isFalse _ => if c then .val (.int k x) else .val (.int k' y)
  | .val (.bool x), .val (.bool y) => .val (.bool (if c then x else y))
  | .val (.string x), .val (.string y) => .val (.string (if c then x else y))
  | .st l, .st m => .st (selA c l m)
  | .cons a b, .cons d e => .cons (selA c a d) (selA c b e)
  | .nil, .nil => .nil
  | a, b => if c then a else b

theorem selA_val (c : Prop) [Decidable c] (x y : Value) : selA c (.val x) (.val y) = if c then .val x else .val y := by
  unfold selA
  split
  · rename_i k n k' m h1 h2
    injection h1 with h1
    injection h2 with h2
    subst h1; subst h2
    split
    · rename_i e _
      subst e
      by_cases hc : c <;> simp [hc]
    · rfl
  all_goals first | (rename_i h1 h2; injection h1 with h1; injection h2 with h2; subst h1; subst h2; by_cases hc : c <;> simp [hc]) | (rename_i h1 h2; cases h1) | rfl

theorem selA_eq (c : Prop) [Decidable c] (a b : AV) : selA c a b = if c then a else b := by
  induction a generalizing b with
  | val x =>
    cases b with
    | val y => exact selA_val c x y
    | _ => cases x <;> rfl
  | st l ih => cases b with
    | st m => unfold selA; rw [ih]; by_cases hc : c <;> simp [hc]
    | _ => rfl
  | cons p q ih1 ih2 => cases b with
    | cons d e => unfold selA; rw [ih1, ih2]; by_cases hc : c <;> simp [hc]
    | _ => rfl
  | nil => cases b with
    | nil => unfold selA; by_cases hc : c <;> simp [hc]
    | _ => rfl
  | _ => cases b <;> rfl

def setComp : PE → AV → AV → AV
  | .fld k _, v, .st l => .st (setNth k v l)
  | .idx j _ _, v, .arr n e f => .arr n e (fun i => selA (i = j) v (f i))
  | _, _, a => a

def nav : List PE → AV → AV
  | [], a => a
  | p :: r, a => compP p (nav r a)

def okNav : List PE → AV → Bool
  | [], _ => true
  | p :: r, a => okNav r a && okP p (nav r a)

def upd : List PE → AV → AV → AV
  | [], v, _ => v
  | p :: r, v, a => upd r (setComp p v (nav r a)) a

variable {g : Gh} {w : World}

theorem seg_nth : ∀ (k : Nat) (l : AV) {lk : Nat → Option Value} {off : Nat}, hasN k l = true → (R g w l).s lk off →
    (R g w (nth k l)).s lk (off + offN k l) ∧ offN k l + size (nth k l) ≤ size l
  | 0, .cons a b, lk, off, _, h => ⟨by simpa [nth, offN] using h.1, by simp [offN, nth, size]⟩
  | k + 1, .cons a b, lk, off, hk, h => by
    obtain ⟨h1, h2⟩ := seg_nth k b (off := off + size a) (by simpa [hasN] using hk) h.2
    exact ⟨by simpa [nth, offN, Nat.add_assoc] using h1, by simp only [offN, nth, size]; omega⟩
  | 0, .val _, _, _, hk, _ | 0, .any, _, _, hk, _ | 0, .ptr _ _, _, _, hk, _ | 0, .elt .., _, _, hk, _ | 0, .lst .., _, _, hk, _ | 0, .sli .., _, _, hk, _
  | 0, .arr .., _, _, hk, _ | 0, .st _, _, _, hk, _ | 0, .nil, _, _, hk, _ | 0, .tup _, _, _, hk, _ | 0, .clo .., _, _, hk, _ | 0, .mp _, _, _, hk, _ | 0, .ifc .., _, _, hk, _
  | _ + 1, .val _, _, _, hk, _ | _ + 1, .any, _, _, hk, _ | _ + 1, .ptr _ _, _, _, hk, _ | _ + 1, .elt .., _, _, hk, _ | _ + 1, .lst .., _, _, hk, _ | _ + 1, .sli .., _, _, hk, _
  | _ + 1, .arr .., _, _, hk, _ | _ + 1, .st _, _, _, hk, _ | _ + 1, .nil, _, _, hk, _ | _ + 1, .tup _, _, _, hk, _ | _ + 1, .clo .., _, _, hk, _ | _ + 1, .mp _, _, _, hk, _ | _ + 1, .ifc .., _, _, hk, _ => by
    simp [hasN] at hk

theorem seg_setNth : ∀ (k : Nat) (v l : AV) {lk lk' : Nat → Option Value} {off : Nat}, hasN k l = true → (R g w l).s lk off → size v = size (nth k l) →
    (R g w v).s lk' (off + offN k l) → (∀ j, j < size l → ¬ (offN k l ≤ j ∧ j < offN k l + size v) → lk' (off + j) = lk (off + j)) →
    (R g w (setNth k v l)).s lk' off ∧ size (setNth k v l) = size l
  | 0, v, .cons a b, lk, lk', off, _, h, hs, hv, hf => by
    simp only [nth] at hs
    refine ⟨⟨by simpa [offN] using hv, R_look (fun j hj => ?_) (hs ▸ h.2)⟩, by simp [setNth, size, hs]⟩
    have := hf (size v + j) (by simp only [size]; omega) (by simp [offN])
    simpa [Nat.add_assoc, hs] using this
  | k + 1, v, .cons a b, lk, lk', off, hk, h, hs, hv, hf => by
    have hk' : hasN k b = true := by simpa [hasN] using hk
    have hb := (seg_nth k b hk' h.2).2
    simp only [nth] at hs
    obtain ⟨h1, h2⟩ := seg_setNth k v b (off := off + size a) (lk := lk) (lk' := lk') hk' h.2 hs (by simpa [offN, Nat.add_assoc] using hv)
      (fun j hj hn => by
        have := hf (size a + j) (by simp only [size]; omega) (by simp only [offN]; omega)
        simpa [Nat.add_assoc] using this)
    refine ⟨⟨R_look (fun j hj => ?_) h.1, h1⟩, by simp only [setNth, size, h2]⟩
    exact hf j (by simp only [size]; omega) (by simp only [offN]; omega)
  | 0, _, .val _, _, _, _, hk, _, _, _, _ | 0, _, .any, _, _, _, hk, _, _, _, _ | 0, _, .ptr _ _, _, _, _, hk, _, _, _, _ | 0, _, .elt .., _, _, _, hk, _, _, _, _ | 0, _, .lst .., _, _, _, hk, _, _, _, _ | 0, _, .sli .., _, _, _, hk, _, _, _, _
  | 0, _, .arr .., _, _, _, hk, _, _, _, _ | 0, _, .st _, _, _, _, hk, _, _, _, _ | 0, _, .nil, _, _, _, hk, _, _, _, _ | 0, _, .tup _, _, _, _, hk, _, _, _, _ | 0, _, .clo .., _, _, _, hk, _, _, _, _ | 0, _, .mp _, _, _, _, hk, _, _, _, _ | 0, _, .ifc .., _, _, _, hk, _, _, _, _
  | _ + 1, _, .val _, _, _, _, hk, _, _, _, _ | _ + 1, _, .any, _, _, _, hk, _, _, _, _ | _ + 1, _, .ptr _ _, _, _, _, hk, _, _, _, _ | _ + 1, _, .elt .., _, _, _, hk, _, _, _, _ | _ + 1, _, .lst .., _, _, _, hk, _, _, _, _ | _ + 1, _, .sli .., _, _, _, hk, _, _, _, _
  | _ + 1, _, .arr .., _, _, _, hk, _, _, _, _ | _ + 1, _, .st _, _, _, _, hk, _, _, _, _ | _ + 1, _, .nil, _, _, _, hk, _, _, _, _ | _ + 1, _, .tup _, _, _, _, hk, _, _, _, _ | _ + 1, _, .clo .., _, _, _, hk, _, _, _, _ | _ + 1, _, .mp _, _, _, _, hk, _, _, _, _ | _ + 1, _, .ifc .., _, _, _, hk, _, _, _, _ => by
    simp [hasN] at hk

theorem beq_eq {a b : Nat} (h : Nat.beq a b = true) : a = b := Nat.eq_of_beq_eq_true h

theorem seg_comp {p : PE} {a : AV} {lk : Nat → Option Value} {off : Nat} (ho : okP p a = true) (hp : p.ok) (h : (R g w a).s lk off) :
    (R g w (compP p a)).s lk (off + p.off) ∧ p.off + size (compP p a) ≤ size a := by
  cases p with
  | fld k o =>
    cases a <;> simp [okP] at ho
    rename_i l
    obtain ⟨hk, e⟩ := ho
    obtain ⟨h1, h2⟩ := seg_nth k l hk h
    rw [e] at h1 h2
    exact ⟨h1, h2⟩
  | idx j n e =>
    cases a <;> simp [okP] at ho
    obtain ⟨rfl, rfl⟩ := ho
    rename_i f
    obtain ⟨hs, hc⟩ := h j hp
    refine ⟨hc, ?_⟩
    simp only [PE.off, compP, hs, size]
    have : (j + 1) * e ≤ n * e := Nat.mul_le_mul_right e hp
    rwa [Nat.succ_mul] at this

theorem seg_setComp {p : PE} {a v : AV} {lk lk' : Nat → Option Value} {off : Nat} (ho : okP p a = true) (hp : p.ok) (h : (R g w a).s lk off)
    (hs : size v = size (compP p a)) (hv : (R g w v).s lk' (off + p.off)) (hf : ∀ j, j < size a → ¬ (p.off ≤ j ∧ j < p.off + size v) → lk' (off + j) = lk (off + j)) :
    (R g w (setComp p v a)).s lk' off ∧ size (setComp p v a) = size a := by
  cases p with
  | fld k o =>
    cases a <;> simp [okP] at ho
    rename_i l
    obtain ⟨hk, e⟩ := ho
    subst e
    exact seg_setNth k v l hk h hs hv hf
  | idx j n e =>
    cases a <;> simp [okP] at ho
    obtain ⟨rfl, rfl⟩ := ho
    rename_i f
    simp only [compP] at hs
    refine ⟨fun i hi => ?_, rfl⟩
    show size (selA (i = j) v (f i)) = _ ∧ (R g w (selA (i = j) v (f i))).s _ _
    rw [selA_eq]
    obtain ⟨hsj, _⟩ := h j hp
    by_cases e1 : i = j
    · subst e1
      simp only [if_true]
      exact ⟨hs.trans hsj, hv⟩
    · simp only [e1, if_false]
      obtain ⟨hsi, hci⟩ := h i hi
      refine ⟨hsi, R_look (fun q hq => ?_) hci⟩
      have hq' : q < e := hsi ▸ hq
      have := hf (i * e + q) (by simpa [size] using mul_add_lt hi hq') (by
        simp only [PE.off]
        rw [hs, hsj]
        rcases Nat.lt_or_gt_of_ne e1 with hlt | hgt
        · have : (i + 1) * e ≤ j * e := Nat.mul_le_mul_right e hlt
          rw [Nat.succ_mul] at this
          omega
        · have : (j + 1) * e ≤ i * e := Nat.mul_le_mul_right e hgt
          rw [Nat.succ_mul] at this
          omega)
      simpa [Nat.add_assoc] using this

theorem seg_nav : ∀ (ps : List PE) {a : AV} {lk : Nat → Option Value} {off : Nat}, okNav ps a = true → okPath ps → (R g w a).s lk off →
    (R g w (nav ps a)).s lk (off + offP ps) ∧ offP ps + size (nav ps a) ≤ size a
  | [], a, lk, off, _, _, h => ⟨by simpa [nav, offP] using h, by simp [nav, offP]⟩
  | p :: r, a, lk, off, ho, hp, h => by
    simp only [okNav, Bool.and_eq_true] at ho
    obtain ⟨h1, h2⟩ := seg_nav r ho.1 hp.2 h
    obtain ⟨h3, h4⟩ := seg_comp ho.2 hp.1 h1
    simp only [nav, offP]
    exact ⟨by simpa [Nat.add_assoc] using h3, by omega⟩

theorem seg_upd : ∀ (ps : List PE) {a v : AV} {lk lk' : Nat → Option Value} {off : Nat}, okNav ps a = true → okPath ps → (R g w a).s lk off →
    size v = size (nav ps a) → (R g w v).s lk' (off + offP ps) → (∀ j, j < size a → ¬ (offP ps ≤ j ∧ j < offP ps + size v) → lk' (off + j) = lk (off + j)) →
    (R g w (upd ps v a)).s lk' off ∧ size (upd ps v a) = size a
  | [], a, v, lk, lk', off, _, _, h, hs, hv, hf => ⟨by simpa [upd, offP] using hv, by simpa [upd, nav] using hs⟩
  | p :: r, a, v, lk, lk', off, ho, hp, h, hs, hv, hf => by
    simp only [okNav, Bool.and_eq_true] at ho
    obtain ⟨h1, h2⟩ := seg_nav r ho.1 hp.2 h
    obtain ⟨_, h4⟩ := seg_comp ho.2 hp.1 h1
    simp only [nav, offP] at hs hv hf
    rw [← hs] at h4
    obtain ⟨h5, h6⟩ := seg_setComp (lk' := lk') ho.2 hp.1 h1 hs (by simpa [Nat.add_assoc] using hv) (fun j hj hn => by
      have := hf (offP r + j) (by omega) (by omega)
      simpa [Nat.add_assoc] using this)
    exact seg_upd r ho.1 hp.2 h h6 h5 (fun j hj hn => hf j hj (by omega))

end Ar
