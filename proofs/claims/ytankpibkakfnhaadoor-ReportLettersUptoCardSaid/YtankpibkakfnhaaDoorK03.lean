/- Weakening, calls by contract, the code of a function as the walk reads it, and that the machine does what the walk says (regions whose order is fixed). No condition. -/
import Derived.Test.YtankpibkakfnhaaDoorK02
import Derived.Orders
set_option linter.all false
namespace Ar
open Go
set_option linter.unusedVariables false
set_option autoImplicit false

/-! Abstract values without names. -/
def nf : AV → Prop
  | .ptr _ _ => False
  | .sli _ _ _ _ _ => False
  | .mp _ => False
  | .elt n _ f _ _ => ∀ i, nf (f i)
  | .lst tok n _ f => tok = none ∧ ∀ i, nf (f i)
  | .arr n _ f => ∀ i, nf (f i)
  | .st l => nf l
  | .cons a b => nf a ∧ nf b
  | .tup l => nf l
  | .clo _ a b => nf a ∧ nf b
  | .ifc _ a => nf a
  | _ => True

def Gh.bare (g : Gh) : Gh := ⟨fun _ => none, fun _ => none, g.G⟩

theorem R_nf {g g' : Gh} {w : World} (hG : g'.G = g.G) : ∀ a, nf a → R g' w a = R g w a := by
  intro a
  induction a with
  | ptr o p => intro h; exact h.elim
  | sli o lo n e ty => intro h; exact h.elim
  | mp o => intro h; exact h.elim
  | elt n e f i p ih => intro h; simp only [R, hG, fun i => ih i (h i)]
  | lst tok n e f ih =>
    intro h
    obtain ⟨rfl, h⟩ := h
    simp only [R, hG, fun i => ih i (h i), tokOk]
  | arr n e f ih => intro h; simp only [R, fun i => ih i (h i)]
  | st l ih => intro h; simp only [R, ih h]
  | cons a b iha ihb => intro h; simp only [R, iha h.1, ihb h.2]
  | tup l ih => intro h; simp only [R, ih h]
  | clo fn a b iha ihb => intro h; simp only [R, iha h.1, ihb h.2]
  | ifc t a ih => intro h; simp only [R, ih h]
  | _ => intro _; rfl

/-! Names for names. -/
def ren (τ : Nat → Nat) : AV → AV
  | .val x => .val x
  | .any => .any
  | .ptr o p => .ptr (τ o) p
  | .elt n e f i p => .elt n e (fun i => ren τ (f i)) i p
  | .lst tok n e f => .lst (match tok with | some t => some (τ t) | none => none) n e (fun i => ren τ (f i))
  | .sli o lo n e ty => .sli (τ o) lo n e ty
  | .arr n e f => .arr n e (fun i => ren τ (f i))
  | .st l => .st (ren τ l)
  | .cons a b => .cons (ren τ a) (ren τ b)
  | .nil => .nil
  | .tup l => .tup (ren τ l)
  | .clo fn a b => .clo fn (ren τ a) (ren τ b)
  | .mp o => .mp (τ o)
  | .ifc t a => .ifc t (ren τ a)

theorem ren_nf (τ : Nat → Nat) : ∀ a, nf a → ren τ a = a := by
  intro a
  induction a with
  | ptr o p => intro h; exact h.elim
  | sli o lo n e ty => intro h; exact h.elim
  | mp o => intro h; exact h.elim
  | elt n e f i p ih => intro h; simp only [ren, fun i => ih i (h i)]
  | lst tok n e f ih =>
    intro h
    obtain ⟨rfl, h⟩ := h
    simp only [ren, fun i => ih i (h i)]
  | arr n e f ih => intro h; simp only [ren, fun i => ih i (h i)]
  | st l ih => intro h; simp only [ren, ih h]
  | cons a b iha ihb => intro h; simp only [ren, iha h.1, ihb h.2]
  | tup l ih => intro h; simp only [ren, ih h]
  | clo fn a b iha ihb => intro h; simp only [ren, iha h.1, ihb h.2]
  | ifc t a ih => intro h; simp only [ren, ih h]
  | _ => intro _; rfl

theorem ren_ren {τ : Nat → Nat} (h : ∀ k, τ (τ k) = k) : ∀ a, ren τ (ren τ a) = a := by
  intro a
  induction a with
  | lst tok n e f ih => cases tok <;> simp [ren, ih, h]
  | elt n e f i p ih => simp only [ren, ih]
  | arr n e f ih => simp only [ren, ih]
  | st l ih => simp only [ren, ih]
  | cons a b iha ihb => simp only [ren, iha, ihb]
  | tup l ih => simp only [ren, ih]
  | clo fn a b iha ihb => simp only [ren, iha, ihb]
  | ifc t a ih => simp only [ren, ih]
  | ptr o p => simp only [ren, h]
  | sli o lo n e ty => simp only [ren, h]
  | mp o => simp only [ren, h]
  | _ => rfl

theorem size_ren (τ : Nat → Nat) : ∀ a, size (ren τ a) = size a := by
  intro a
  induction a with
  | st l ih => simpa [ren, size] using ih
  | cons a b iha ihb => simp only [ren, size, iha, ihb]
  | _ => rfl

theorem R_ren {g : Gh} {w : World} (τ : Nat → Nat) : ∀ a, R ⟨fun k => g.m (τ k), fun k => g.r (τ k), g.G⟩ w a = R g w (ren τ a) := by
  intro a
  induction a with
  | elt n e f i p ih => simp only [R, ren, ih, size_ren]
  | lst tok n e f ih => cases tok <;> simp only [R, ren, ih, size_ren, tokOk]
  | arr n e f ih => simp only [R, ren, ih, size_ren]
  | st l ih => simp only [R, ren, ih, size_ren]
  | cons a b iha ihb => simp only [R, ren, iha, ihb, size_ren]
  | tup l ih => simp only [R, ren, ih]
  | clo fn a b iha ihb => simp only [R, ren, iha, ihb]
  | ifc t a ih => simp only [R, ren, ih]
  | _ => rfl

/-! What reads as one abstract value reads as another. -/
structure Le (a b : AV) : Prop where
  v : ∀ g w u, (R g w a).v u → (R g w b).v u

structure LeA (a b : AV) : Prop where
  sz : size a = size b
  v : ∀ g w u, (R g w a).v u → (R g w b).v u
  s : ∀ g w lk off, (R g w a).s lk off → (R g w b).s lk off
  l : ∀ g w vs, (R g w a).l vs → (R g w b).l vs

theorem LeA.le {a b : AV} (h : LeA a b) : Le a b := ⟨h.v⟩
theorem LeA.refl (a : AV) : LeA a a := ⟨rfl, fun _ _ _ h => h, fun _ _ _ _ h => h, fun _ _ _ h => h⟩
theorem LeA.trans {a b c : AV} (h : LeA a b) (h' : LeA b c) : LeA a c := ⟨h.sz.trans h'.sz, fun g w u x => h'.v g w u (h.v g w u x), fun g w lk off x => h'.s g w lk off (h.s g w lk off x), fun g w vs x => h'.l g w vs (h.l g w vs x)⟩
theorem LeA.of_eq {a b : AV} (h : a = b) : LeA a b := h ▸ LeA.refl a
theorem Le.refl (a : AV) : Le a a := ⟨fun _ _ _ h => h⟩
theorem Le.any (a : AV) : Le a .any := ⟨fun _ _ _ _ => trivial⟩
theorem Le.of_eq {a b : AV} (h : a = b) : Le a b := h ▸ Le.refl a
theorem Le.trans {a b c : AV} (h : Le a b) (h' : Le b c) : Le a c := ⟨fun g w u x => h'.v g w u (h.v g w u x)⟩

theorem leA_one {a b : AV} (hs : size a = 1) (hs' : size b = 1) (h : ∀ g w, ∃ p p', R g w a = one p ∧ R g w b = one p' ∧ ∀ u, p u → p' u) : LeA a b :=
  ⟨hs.trans hs'.symm, fun g w u x => by obtain ⟨p, p', e, e', hp⟩ := h g w; rw [e] at x; rw [e']; exact ⟨hp u x.1, x.2⟩,
    fun g w lk off x => by obtain ⟨p, p', e, e', hp⟩ := h g w; rw [e] at x; rw [e']; obtain ⟨u, h1, h2, h3⟩ := x; exact ⟨u, h1, hp u h2, h3⟩,
    fun g w vs x => by obtain ⟨p, p', e, e', hp⟩ := h g w; rw [e] at x; exact x.elim⟩

theorem LeA.cons {a b c d : AV} (h : LeA a b) (h' : LeA c d) : LeA (.cons a c) (.cons b d) :=
  ⟨by simp only [size, h.sz, h'.sz], fun _ _ _ x => x.elim, fun g w lk off x => ⟨h.s g w _ _ x.1, by have := h'.s g w _ _ x.2; rwa [h.sz] at this⟩, fun g w vs x => by
    cases vs with
    | nil => exact x.elim
    | cons u r => exact ⟨h.v g w u x.1, h'.l g w r x.2⟩⟩

theorem LeA.st {a b : AV} (h : LeA a b) : LeA (.st a) (.st b) :=
  ⟨h.sz, fun g w u x => by obtain ⟨cs, h1, h2, h3⟩ := x; exact ⟨cs, h1, by rw [h2, h.sz], h.s g w _ _ h3⟩, fun g w lk off x => h.s g w lk off x, fun _ _ _ x => x.elim⟩

theorem LeA.tup {a b : AV} (h : LeA a b) : LeA (.tup a) (.tup b) :=
  ⟨rfl, fun g w u x => by obtain ⟨vs, h1, h2⟩ := x; exact ⟨vs, h1, h.l g w _ h2⟩, fun _ _ _ _ x => x.elim, fun _ _ _ x => x.elim⟩

theorem LeA.arr {n e : Nat} {f h : Nat → AV} (hf : ∀ i, i < n → LeA (f i) (h i)) : LeA (.arr n e f) (.arr n e h) :=
  ⟨rfl, fun g w u x => by
    obtain ⟨cs, h1, h2, h3⟩ := x
    exact ⟨cs, h1, h2, fun i hi => ⟨(hf i hi).sz ▸ (h3 i hi).1, (hf i hi).s g w _ _ (h3 i hi).2⟩⟩,
    fun g w lk off x i hi => ⟨(hf i hi).sz ▸ (x i hi).1, (hf i hi).s g w _ _ (x i hi).2⟩, fun _ _ _ x => x.elim⟩

theorem LeA.lst {tok tok' : Option Nat} {n e : Nat} {f h : Nat → AV} (ht : tok' = tok ∨ tok' = none) (hf : ∀ i, i < n → LeA (f i) (h i)) : LeA (.lst tok n e f) (.lst tok' n e h) := by
  refine leA_one rfl rfl (fun g w => ⟨_, _, rfl, rfl, ?_⟩)
  rintro u ⟨oa, c, hu, hc, hk, hm⟩
  refine ⟨oa, c, hu, hc, ?_, ?_⟩
  · rcases ht with rfl | rfl
    · exact hk
    · trivial
  · cases oa with
    | none => exact hm
    | some a => exact ⟨hm.1, hm.2.1, fun i hi => ⟨(hf i hi).sz.symm.trans (hm.2.2 i hi).1, (hf i hi).s g w _ _ (hm.2.2 i hi).2⟩⟩

def LeL : List AV → List AV → Prop
  | [], [] => True
  | a :: r, b :: s => Le a b ∧ LeL r s
  | _, _ => False

theorem LeL.refl : ∀ l, LeL l l
  | [] => trivial
  | a :: r => ⟨Le.refl a, LeL.refl r⟩

def RL (g : Gh) (w : World) : List AV → List Value → Prop
  | [], [] => True
  | a :: r, u :: s => (R g w a).v u ∧ RL g w r s
  | _, _ => False

theorem RL.le {g : Gh} {w : World} : ∀ {l m : List AV} {vs : List Value}, LeL l m → RL g w l vs → RL g w m vs
  | [], [], [], _, _ => trivial
  | a :: r, b :: s, u :: t, h, h' => ⟨h.1.v g w u h'.1, RL.le h.2 h'.2⟩
  | [], _ :: _, _, h, _ => h.elim
  | _ :: _, [], _, h, _ => h.elim
  | _ :: _, _ :: _, [], _, h => h.elim
  | [], [], _ :: _, _, h => h.elim

/-- The contract of a function that only computes: called with values that read as 'args' it returns one that reads as 'r', and leaves all that was there. -/
def Pure (P : Program) (gl : Nat → AV) (f : FuncId) (args : List AV) (r : AV) : Prop :=
  (∀ a ∈ args, nf a) ∧ nf r ∧ (∀ i, nf (gl i)) ∧ ∀ (G : Nat → Nat) (w : World) (cargs : List Value), (∀ b, w.heap.size ≤ b → G b = 0) → (∀ i, (R ⟨fun _ => none, fun _ => none, G⟩ w (gl i)).v (.pointer (some ⟨i, 0, none⟩))) →
    RL ⟨fun _ => none, fun _ => none, G⟩ w args cargs →
    Calls P f cargs.toArray w fun x w' => ∃ u G', x = .returned u ∧ Stp ⟨fun _ => none, fun _ => none, G⟩ w [] ⟨fun _ => none, fun _ => none, G'⟩ w' [] ∧ (∀ b, w'.heap.size ≤ b → G' b = 0) ∧
      (R ⟨fun _ => none, fun _ => none, G'⟩ w' r).v u

def CallP (P : Program) (gl : Nat → AV) (f : FuncId) (args : List AV) (K : AV → Prop) : Prop := ∃ args' r, LeL args args' ∧ Pure P gl f args' r ∧ K r

/-- The same, of a result of which something is known. -/
def PureQ (P : Program) (gl : Nat → AV) (f : FuncId) (args : List AV) (Q : AV → Prop) : Prop :=
  (∀ a ∈ args, nf a) ∧ (∀ i, nf (gl i)) ∧ ∀ (G : Nat → Nat) (w : World) (cargs : List Value), (∀ b, w.heap.size ≤ b → G b = 0) → (∀ i, (R ⟨fun _ => none, fun _ => none, G⟩ w (gl i)).v (.pointer (some ⟨i, 0, none⟩))) →
    RL ⟨fun _ => none, fun _ => none, G⟩ w args cargs →
    Calls P f cargs.toArray w fun x w' => ∃ u G' r, x = .returned u ∧ Stp ⟨fun _ => none, fun _ => none, G⟩ w [] ⟨fun _ => none, fun _ => none, G'⟩ w' [] ∧ (∀ b, w'.heap.size ≤ b → G' b = 0) ∧ nf r ∧ Q r ∧
      (R ⟨fun _ => none, fun _ => none, G'⟩ w' r).v u

theorem pureQ_of {P : Program} {gl : Nat → AV} {f : FuncId} {args : List AV} {r : AV} (h : Pure P gl f args r) : PureQ P gl f args (fun x => x = r) :=
  ⟨h.1, h.2.2.1, fun G w cargs h1 h2 h3 => (h.2.2.2 G w cargs h1 h2 h3).mono fun x w' ⟨u, G', a1, a2, a3, a4⟩ => ⟨u, G', r, a1, a2, a3, h.2.1, rfl, a4⟩⟩

theorem pure_ofQ {P : Program} {gl : Nat → AV} {f : FuncId} {args : List AV} {r : AV} (hr : nf r) (h : PureQ P gl f args (fun x => x = r)) : Pure P gl f args r :=
  ⟨h.1, hr, h.2.1, fun G w cargs h1 h2 h3 => (h.2.2 G w cargs h1 h2 h3).mono fun x w' ⟨u, G', r', a1, a2, a3, _, a4, a5⟩ => ⟨u, G', a1, a2, a3, a4 ▸ a5⟩⟩

theorem PureQ.mono {P : Program} {gl : Nat → AV} {f : FuncId} {args : List AV} {Q Q' : AV → Prop} (h : PureQ P gl f args Q) (hq : ∀ r, nf r → Q r → Q' r) : PureQ P gl f args Q' :=
  ⟨h.1, h.2.1, fun G w cargs h1 h2 h3 => (h.2.2 G w cargs h1 h2 h3).mono fun x w' ⟨u, G', r, a1, a2, a3, a4, a5, a6⟩ => ⟨u, G', r, a1, a2, a3, a4, hq r a4 a5, a6⟩⟩

section
variable {P : Program} {gl : Nat → AV} {N : Nat} {g : Gh} {w : World} {E : Nat → AV} {o : Objs} {n : Nat} {a : Act}

theorem RL_nf {g g' : Gh} {w : World} (hG : g'.G = g.G) : ∀ {l : List AV} {vs : List Value}, (∀ a ∈ l, nf a) → RL g w l vs → RL g' w l vs
  | [], [], _, _ => trivial
  | a :: r, u :: s, hn, h => ⟨by rw [R_nf hG a (hn a (by simp))]; exact h.1, RL_nf hG (fun x hx => hn x (by simp [hx])) h.2⟩
  | [], _ :: _, _, h => h.elim
  | _ :: _, [], _, h => h.elim

/-- Readings stay, and so do the meanings of the names so far. -/
structure EvN (n : Nat) (g : Gh) (w : World) (g' : Gh) (w' : World) : Prop where
  ev : Ev g w g' w'
  m : ∀ k, k < n → g'.m k = g.m k

/-- A call of a function that only computes, met in a state of the walk. -/
theorem good_callq (h : Good P gl N g w E o n a) {f : FuncId} {args : List AV} {Q : AV → Prop} {cargs : List Value} (hp : PureQ P gl f args Q) (hr : RL g w args cargs) :
    Calls P f cargs.toArray w fun x w' => ∃ u g' r, x = .returned u ∧ Good P gl N g' w' E o n a ∧ Stp g w o g' w' o ∧ nf r ∧ Q r ∧ (R g' w' r).v u ∧ EvN n g w g' w' := by
  obtain ⟨h1, h3, h4⟩ := hp
  refine (h4 g.G w cargs h.gz (fun i => by have := h.gl i; rwa [← R_nf (g' := ⟨fun _ => none, fun _ => none, g.G⟩) (g := g) rfl _ (h3 i)] at this) (RL_nf (g := g) (g' := ⟨fun _ => none, fun _ => none, g.G⟩) rfl h1 hr)).mono ?_
  rintro x w' ⟨u, G', r, hx, hs, hz, h2, hqr, hu⟩
  have hheap : ∀ b, b < w.heap.size → w'.heap[b]? = w.heap[b]? ∧ G' b = g.G b := fun b hb => hs.keep b hb (fun ⟨k, x, h5, _⟩ => by simp [lookO] at h5)
  have hev : Ev g w { g with G := G' } w' := ⟨fun _ _ h => h, fun t ob N ht => ⟨ob, N, ht, Nat.le_refl _, fun _ => rfl⟩, hs.pub, hs.le, hs.cap⟩
  have hblk : ∀ k x, blkOf { g with G := G' } k x = blkOf g k x := fun k x => blk_same rfl rfl
  refine ⟨u, { g with G := G' }, r, hx, ⟨fun k x hk => obj_ev hev (h.objs k x hk) rfl (fun _ h => h) (fun b hb => ?_), fun k x k' x' b a1 a2 a3 a4 => h.inj k x k' x' b a1 a2 (by rw [← hblk]; exact a3) (by rw [← hblk]; exact a4), h.blt, h.mlt, h.rlt,
    fun t => (R_ev hev _).v _ (h.env t), h.sz, h.def_, hz, fun i => (R_ev hev _).v _ (h.gl i)⟩, ⟨hs.size, fun b hb _ => hheap b hb, fun b hb => ?_, hs.pub, hs.le, hs.cap, fun b j hb _ => cell_old (hheap b hb).1, fun b j hb => .inl hb, fun _ _ => rfl, fun _ ob N _ h => ⟨ob, N, h, Nat.le_refl _, fun _ => rfl⟩, hs.os, hs.out⟩, h2, hqr, ?_, hev, fun _ _ => rfl⟩
  · have := hheap b (own_lt h ⟨k, x, hk, hb⟩)
    exact ⟨this.2, this.1⟩
  · obtain ⟨k, x, a1, a2⟩ := hb
    exact .inl ⟨k, x, a1, by rw [← hblk]; exact a2⟩
  · rw [R_nf (g' := { g with G := G' }) (g := ⟨fun _ => none, fun _ => none, G'⟩) rfl _ h2]; exact hu

theorem good_call (h : Good P gl N g w E o n a) {f : FuncId} {args : List AV} {r : AV} {cargs : List Value} (hp : Pure P gl f args r) (hr : RL g w args cargs) :
    Calls P f cargs.toArray w fun x w' => ∃ u g', x = .returned u ∧ Good P gl N g' w' E o n a ∧ Stp g w o g' w' o ∧ (R g' w' r).v u ∧ EvN n g w g' w' :=
  (good_callq h (pureQ_of hp) hr).mono fun x w' ⟨u, g', r', a1, a2, a3, _, a4, a5, a6⟩ => ⟨u, g', a1, a2, a3, a4 ▸ a5, a6⟩

end

/-! Contracts of functions to which a growing row is lent: its name is LENT there. -/
def nt : AV → Prop
  | .ptr _ _ => False
  | .sli _ _ _ _ _ => False
  | .mp _ => False
  | .elt n _ f _ _ => ∀ i, nt (f i)
  | .lst tok n _ f => (tok = none ∨ tok = some LENT) ∧ ∀ i, nt (f i)
  | .arr n _ f => ∀ i, nt (f i)
  | .st l => nt l
  | .cons a b => nt a ∧ nt b
  | .tup l => nt l
  | .clo _ a b => nt a ∧ nt b
  | .ifc _ a => nt a
  | _ => True

theorem nt_nf : ∀ a, nf a → nt a := by
  intro a
  induction a with
  | ptr o p => intro h; exact h.elim
  | sli o lo n e ty => intro h; exact h.elim
  | mp o => intro h; exact h.elim
  | elt n e f i p ih => intro h i; exact ih i (h i)
  | lst tok n e f ih => intro h; exact ⟨.inl h.1, fun i => ih i (h.2 i)⟩
  | arr n e f ih => intro h i; exact ih i (h i)
  | st l ih => intro h; exact ih h
  | cons a b iha ihb => intro h; exact ⟨iha h.1, ihb h.2⟩
  | tup l ih => intro h; exact ih h
  | clo fn a b iha ihb => intro h; exact ⟨iha h.1, ihb h.2⟩
  | ifc t a ih => intro h; exact ih h
  | _ => intro _; trivial

def r1 (p : Option (Option Nat × Nat)) : Nat → Option (Option Nat × Nat) := fun k => if k = LENT then p else none

theorem R_nt {g : Gh} {w : World} {t : Nat} : ∀ a, nt a → R ⟨fun _ => none, r1 (g.r t), g.G⟩ w a = R g w (ren (fun _ => t) a) := by
  intro a
  induction a with
  | ptr o p => intro h; exact h.elim
  | sli o lo n e ty => intro h; exact h.elim
  | mp o => intro h; exact h.elim
  | elt n e f i p ih => intro h; simp only [R, ren, size_ren, fun i => ih i (h i)]
  | lst tok n e f ih =>
    intro h
    rcases h.1 with rfl | rfl
    · simp only [R, ren, size_ren, fun i => ih i (h.2 i), tokOk]
    · simp only [R, ren, size_ren, fun i => ih i (h.2 i), tokOk, r1, if_true]
  | arr n e f ih => intro h; simp only [R, ren, size_ren, fun i => ih i (h i)]
  | st l ih => intro h; simp only [R, ren, size_ren, ih h]
  | cons a b iha ihb => intro h; simp only [R, ren, size_ren, iha h.1, ihb h.2]
  | tup l ih => intro h; simp only [R, ren, ih h]
  | clo fn a b iha ihb => intro h; simp only [R, ren, iha h.1, ihb h.2]
  | ifc t a ih => intro h; simp only [R, ren, ih h]
  | _ => intro _; rfl

def PureT (P : Program) (gl : Nat → AV) (f : FuncId) (args : List AV) (e : Nat) (ty : TypeId) (m : Nat) (r : AV) (m' : Nat) : Prop :=
  (∀ a ∈ args, nt a) ∧ nt r ∧ (∀ i, nf (gl i)) ∧ ∀ (G : Nat → Nat) (w : World) (cargs : List Value) (ob : Option Nat), (∀ b, w.heap.size ≤ b → G b = 0) → (∀ i, (R ⟨fun _ => none, r1 (some (ob, m)), G⟩ w (gl i)).v (.pointer (some ⟨i, 0, none⟩))) →
    ObjOk ⟨fun _ => none, r1 (some (ob, m)), G⟩ w LENT (.room m e ty) → RL ⟨fun _ => none, r1 (some (ob, m)), G⟩ w args cargs →
    Calls P f cargs.toArray w fun x w' => ∃ u G' ob', x = .returned u ∧ Stp ⟨fun _ => none, r1 (some (ob, m)), G⟩ w [(LENT, .room m e ty)] ⟨fun _ => none, r1 (some (ob', m')), G'⟩ w' [(LENT, .room m' e ty)] ∧ (∀ b, w'.heap.size ≤ b → G' b = 0) ∧
      ObjOk ⟨fun _ => none, r1 (some (ob', m')), G'⟩ w' LENT (.room m' e ty) ∧ (R ⟨fun _ => none, r1 (some (ob', m')), G'⟩ w' r).v u

section
variable {P : Program} {gl : Nat → AV} {N : Nat} {g : Gh} {w : World} {E : Nat → AV} {o : Objs} {n : Nat} {a : Act}

theorem RL_nt {t : Nat} : ∀ {l : List AV} {vs : List Value}, (∀ a ∈ l, nt a) → RL g w (l.map (ren fun _ => t)) vs → RL ⟨fun _ => none, r1 (g.r t), g.G⟩ w l vs
  | [], [], _, _ => trivial
  | a :: r, u :: s, hn, h => ⟨by rw [R_nt a (hn a (by simp))]; exact h.1, RL_nt (fun x hx => hn x (by simp [hx])) h.2⟩
  | [], _ :: _, _, h => h.elim
  | _ :: _, [], _, h => h.elim

theorem good_callT (h : Good P gl N g w E o n a) {f : FuncId} {args : List AV} {r : AV} {cargs : List Value} {t m m' e : Nat} {ty : TypeId} (ht : lookO t o = some (.room m e ty)) (hp : PureT P gl f args e ty m r m') (hr : RL g w (args.map (ren fun _ => t)) cargs) :
    Calls P f cargs.toArray w fun x w' => ∃ u g', x = .returned u ∧ Good P gl N g' w' E (setO t (.room m' e ty) o) n a ∧ Stp g w o g' w' (setO t (.room m' e ty) o) ∧ (R g' w' (ren (fun _ => t) r)).v u ∧ EvN n g w g' w' := by
  obtain ⟨h1, h2, h3, h4⟩ := hp
  obtain ⟨ob, hrt, hnil, hblk⟩ := h.objs t _ ht
  have hr' := RL_nt h1 hr
  rw [hrt] at hr'
  have hl1 : (r1 (some (ob, m))) LENT = some (ob, m) := if_pos rfl
  refine (h4 g.G w cargs ob h.gz (fun i => by have := h.gl i; rwa [← R_nf (g' := ⟨fun _ => none, r1 (some (ob, m)), g.G⟩) (g := g) rfl _ (h3 i)] at this) ⟨ob, hl1, ⟨hnil.1, fun h5 => absurd h5 (Nat.lt_irrefl _)⟩, hblk⟩ hr').mono ?_
  rintro x w' ⟨u, G', ob', hx, hs, hz, hobj, hu⟩
  obtain ⟨ob2, hq, hnil', hblk'⟩ := hobj
  have hl2 : (r1 (some (ob', m'))) LENT = some (ob', m') := if_pos rfl
  rw [show (⟨fun _ => none, r1 (some (ob', m')), G'⟩ : Gh).r LENT = some (ob', m') from hl2] at hq
  injection hq with hq
  injection hq with hq _
  subst hq
  obtain ⟨ob3, N3, hq3, hle, heq⟩ := hs.rl LENT ob m rfl hl1
  rw [show (⟨fun _ => none, r1 (some (ob', m')), G'⟩ : Gh).r LENT = some (ob', m') from hl2] at hq3
  injection hq3 with hq3
  injection hq3 with hq3 hq4
  subst hq3 hq4
  let g' : Gh := { m := g.m, r := fun k => if k = t then some (ob', m') else g.r k, G := G' }
  have hgt : g'.r t = some (ob', m') := if_pos rfl
  have hgn : ∀ k, k ≠ t → g'.r k = g.r k := fun k hk => if_neg hk
  have hev : Ev g w g' w' := ⟨fun _ _ h => h, fun k p q hk => by
      by_cases e1 : k = t
      · subst e1
        rw [hrt] at hk
        injection hk with hk
        injection hk with k1 k2
        subst k1 k2
        exact ⟨ob', m', hgt, hle, heq⟩
      · exact ⟨p, q, by rw [hgn k e1]; exact hk, Nat.le_refl _, fun _ => rfl⟩, hs.pub, hs.le, hs.cap⟩
  have hOwn0 : ∀ b, Own ⟨fun _ => none, r1 (some (ob, m)), g.G⟩ [(LENT, .room m e ty)] b → ob = some b := fun b ⟨k, x, hk, hb⟩ => by
    rw [lookO_cons] at hk
    by_cases e1 : LENT = k
    · subst e1
      rw [if_pos rfl] at hk
      injection hk with hk
      subst hk
      simpa [blkOf, hl1] using hb
    · rw [if_neg e1] at hk; cases hk
  have hOwn1 : ∀ b, ob' = some b → Own ⟨fun _ => none, r1 (some (ob', m')), G'⟩ [(LENT, .room m' e ty)] b := fun b hb =>
    ⟨LENT, _, by rw [lookO_cons, if_pos rfl], by show (r1 (some (ob', m')) LENT).bind (·.1) = some b; rw [hl2]; exact hb⟩
  obtain ⟨k1, k2⟩ := good_room h (g' := g') (w' := w') (m' := m') (ob' := ob') ht hrt hev (fun _ => rfl) hgn hgt hs.size
    (fun b hb hne => hs.keep b hb (fun ho => hne (hOwn0 b ho))) hz ⟨ob', hgt, ⟨hnil'.1, fun h5 h6 => by
      have h7 : m = 0 := by omega
      rw [← heq (by omega)]; exact hnil.2 h5 h7⟩, hblk'⟩ (fun b hb => (hs.own b (hOwn1 b hb)).imp (hOwn0 b) id) hs.os hs.out
  refine ⟨u, g', hx, k1, k2, ?_, hev, fun _ _ => rfl⟩
  have : R ⟨fun _ => none, r1 (g'.r t), g'.G⟩ w' r = R g' w' (ren (fun _ => t) r) := R_nt r h2
  rw [hgt] at this
  rw [← this]
  exact hu

end

/-- What a nil slice may read as, where the row of a name is nil. -/
def LeN (t : Nat) (a b : AV) : Prop := ∀ g w u, g.r t = some (none, 0) → (R g w a).v u → (R g w b).v u

def LeNL (t : Nat) : List AV → List AV → Prop
  | [], [] => True
  | a :: r, b :: s => LeN t a b ∧ LeNL t r s
  | _, _ => False

def LeT (t m : Nat) (l l' : List AV) : Prop := LeL l l' ∨ (LENT < t ∧ m = 0 ∧ LeNL t l l')

theorem RL_leN {g : Gh} {w : World} {t : Nat} (h0 : g.r t = some (none, 0)) : ∀ {l m : List AV} {vs : List Value}, LeNL t l m → RL g w l vs → RL g w m vs
  | [], [], [], _, _ => trivial
  | a :: r, b :: s, u :: q, h, h' => ⟨h.1 g w u h0 h'.1, RL_leN h0 h.2 h'.2⟩
  | [], _ :: _, _, h, _ => h.elim
  | _ :: _, [], _, h, _ => h.elim
  | _ :: _, _ :: _, [], _, h => h.elim
  | [], [], _ :: _, _, h => h.elim

theorem RL_leT {P : Program} {gl : Nat → AV} {N : Nat} {g : Gh} {w : World} {E : Nat → AV} {o : Objs} {n : Nat} {a : Act} (hg : Good P gl N g w E o n a) {t m e : Nat} {ty : TypeId} (ht : lookO t o = some (.room m e ty)) {l l' : List AV} {vs : List Value}
    (h : LeT t m l l') (hr : RL g w l vs) : RL g w l' vs := by
  rcases h with h | ⟨h1, h2, h3⟩
  · exact RL.le h hr
  · obtain ⟨ob, h4, h5, _⟩ := hg.objs t _ ht
    rw [h5.2 h1 h2, h2] at h4
    exact RL_leN h4 h3 hr

/-- A function that tells a field's address, and no more. -/
def PtrFn (P : Program) (f : FuncId) (off : Nat) : Prop :=
  ∀ (w : World) (b x : Nat), Calls P f #[.pointer (some ⟨b, x, none⟩)] w fun e w' => w' = w ∧ e = .returned (.pointer (some ⟨b, x + off, none⟩))

def PureV (P : Program) (gl : Nat → AV) (f : FuncId) (args : List AV) (r : AV) : Prop :=
  Pure P gl f args r ∨ ∃ q p k off, args = [.ptr q p] ∧ r = .ptr q (.fld k off :: p) ∧ PtrFn P f off

theorem good_callV {P : Program} {gl : Nat → AV} {N : Nat} {g : Gh} {w : World} {E : Nat → AV} {o : Objs} {n : Nat} {a : Act} (h : Good P gl N g w E o n a) {f : FuncId} {args : List AV} {r : AV} {cargs : List Value} (hp : PureV P gl f args r) (hr : RL g w args cargs) :
    Calls P f cargs.toArray w fun x w' => ∃ u g', x = .returned u ∧ Good P gl N g' w' E o n a ∧ Stp g w o g' w' o ∧ (R g' w' r).v u ∧ EvN n g w g' w' := by
  rcases hp with hp | ⟨q, p, k, off, rfl, rfl, hp⟩
  · exact good_call h hp hr
  · match cargs, hr with
    | [c], hr =>
      obtain ⟨⟨⟨b, h1, h2, rfl⟩, _⟩, _⟩ := hr
      refine (hp w b.1 (b.2 + offP p)).mono ?_
      rintro x w' ⟨rfl, rfl⟩
      exact ⟨_, g, rfl, h, Stp.refl g w' o, ⟨⟨b, ⟨trivial, h1⟩, h2, by simp only [offP, PE.off, Nat.add_assoc]⟩, trivial⟩, Ev.refl g w', fun _ _ => rfl⟩
    | [], hr => exact hr.elim
    | _ :: _ :: _, hr => exact hr.2.elim

/-- A call: of a function that only computes, or of one to which a growing row is lent. -/
def CallO (P : Program) (gl : Nat → AV) (f : FuncId) (args : List AV) (o : Objs) (K : AV → Objs → Prop) : Prop :=
  (∃ args' r, LeL args args' ∧ PureV P gl f args' r ∧ K r o) ∨
  (∃ t m e ty args' r m', lookO t o = some (.room m e ty) ∧ LeT t m args (List.map (ren fun _ => t) args') ∧ PureT P gl f args' e ty m r m' ∧ K (ren (fun _ => t) r) (setO t (.room m' e ty) o))

/-- A call that comes to just this. -/
def CallE (P : Program) (gl : Nat → AV) (f : FuncId) (args : List AV) (o : Objs) (n : Nat) (v : AV) (o' : Objs) (n' : Nat) : Prop :=
  ((∀ k, n ≤ k → k < LENT → lookO k o = none) → ∀ k, n' ≤ k → k < LENT → lookO k o' = none) ∧
  ∀ (N : Nat) (g : Gh) (w : World) (E : Nat → AV) (a : Act) (cargs : List Value), Good P gl N g w E o n a → RL g w args cargs → Calls P f cargs.toArray w fun x w' =>
    ∃ u g', x = .returned u ∧ (R g' w' v).v u ∧ Good P gl N g' w' E o' n' a ∧ Stp g w o g' w' o' ∧ EvN n g w g' w'

/-- A call, in the caller's own state: what is known of it behind the call; 'b': in a region whose order is fixed (else it must be one that may change places). -/
structure CallB (b : Bool) (P : Program) (gl : Nat → AV) (f : FuncId) (args : List AV) (o : Objs) (n : Nat) (K : AV → Objs → Nat → Prop) : Prop where
  x : ∃ v o' n', K v o' n' ∧ CallE P gl f args o n v o' n'
  d : b = false → CallO P gl f args o fun r o' => K r o' n

theorem CallB.s {b : Bool} {P : Program} {gl : Nat → AV} {f : FuncId} {args : List AV} {o : Objs} {n : Nat} {K : AV → Objs → Nat → Prop} (h : CallB b P gl f args o n K) : ∀ (N : Nat) (g : Gh) (w : World) (E : Nat → AV) (a : Act) (cargs : List Value), Good P gl N g w E o n a → RL g w args cargs → Calls P f cargs.toArray w fun x w' =>
    ∃ v u g' o' n', x = .returned u ∧ (R g' w' v).v u ∧ Good P gl N g' w' E o' n' a ∧ Stp g w o g' w' o' ∧ K v o' n' := by
  obtain ⟨v, o', n', hk, hx⟩ := h.x
  intro N g w E a cargs hg hr
  exact (hx.2 N g w E a cargs hg hr).mono fun x w' ⟨u, g', a1, a2, a3, a4, _⟩ => ⟨v, u, g', o', n', a1, a2, a3, a4, hk⟩

theorem call_pureV {b : Bool} {P : Program} {gl : Nat → AV} {f : FuncId} {args args' : List AV} {r : AV} {o : Objs} {n : Nat} {K : AV → Objs → Nat → Prop} (h : PureV P gl f args' r) (hl : LeL args args') (hK : K r o n) : CallB b P gl f args o n K :=
  ⟨⟨r, o, n, hK, id, fun N g w E a cargs hg hr => (good_callV hg h (RL.le hl hr)).mono fun x w' ⟨u, g', a1, a2, a3, a4, a5⟩ => ⟨u, g', a1, a4, a2, a3, a5⟩⟩, fun _ => .inl ⟨args', r, hl, h, hK⟩⟩

theorem call_pure {b : Bool} {P : Program} {gl : Nat → AV} {f : FuncId} {args args' : List AV} {r : AV} {o : Objs} {n : Nat} {K : AV → Objs → Nat → Prop} (h : Pure P gl f args' r) (hl : LeL args args') (hK : K r o n) : CallB b P gl f args o n K :=
  call_pureV (.inl h) hl hK

theorem call_ptr {b : Bool} {P : Program} {gl : Nat → AV} {f : FuncId} {off : Nat} (k : Nat) {q : Nat} {p : List PE} {o : Objs} {n : Nat} {K : AV → Objs → Nat → Prop} (h : PtrFn P f off) (hK : K (.ptr q (.fld k off :: p)) o n) : CallB b P gl f [.ptr q p] o n K :=
  call_pureV (.inr ⟨q, p, k, off, rfl, rfl, h⟩) (LeL.refl _) hK

theorem call_t {b : Bool} {P : Program} {gl : Nat → AV} {f : FuncId} {args args' args2 : List AV} {r r2 : AV} {o : Objs} {n t m m' e : Nat} {ty : TypeId} {K : AV → Objs → Nat → Prop} (h : PureT P gl f args' e ty m r m') (ht : lookO t o = some (.room m e ty))
    (ha : List.map (ren fun _ => t) args' = args2) (hr2 : ren (fun _ => t) r = r2) (hl : LeT t m args args2) (hK : K r2 (setO t (.room m' e ty) o) n) : CallB b P gl f args o n K := by
  subst ha hr2
  exact ⟨⟨_, _, n, hK, fun hf k h1 h2 => (by
    rw [lookO_setO]
    by_cases e1 : k = t
    · rw [if_pos e1, ← e1, hf k h1 h2]; rfl
    · rw [if_neg e1]; exact hf k h1 h2), fun N g w E a cargs hg hr => (good_callT hg ht h (RL_leT hg ht hl hr)).mono fun x w' ⟨u, g', a1, a2, a3, a4, a5⟩ => ⟨u, g', a1, a4, a2, a3, a5⟩⟩, fun _ => .inr ⟨t, m, e, ty, args', r, m', ht, hl, h, hK⟩⟩

/-! The operations that are no values, and calls, read off the program. -/
def compL (P : Program) : Op → Option IOp
  | .alloc t => match zOk P t (zeroT P 40 t) with
    | true => some (.alloc (zeroT P 40 t))
    | false => none
  | .box _ x => some (.box (cx x))
  | .store t x v => match P.info? t with
    | some i => some (.sto i.size (cx x) (cx v))
    | none => none
  | .buildSlice t len l => match P.underlying t with
    | some (.slice e) => match P.info? e with
      | some i => match zOk P e (zeroT P 40 e) && (Nat.beq (size (zeroT P 40 e)) i.size && (Nat.beq (partsA i.size l.toList).length len && (Nat.ble (len * i.size) 16777216 && Nat.ble 1 i.size))) with
        | true => some (.bsl i.size e (zeroT P 40 e) (partsA i.size l.toList))
        | false => none
      | none => none
    | _ => none
  | .convert s d x => match P.underlying s, P.underlying d with
    | some .string, some (.slice e) => match P.underlying e with
      | some (.int .u8) => some (.s2b e (cx x))
      | _ => none
    | some (.slice e), some (.slice _) => match Nat.beq s d, P.underlying e with
      | true, some (.int .u8) => some (.cvb (cx x))
      | _, _ => none
    | _, _ => none
  | .makeMap t r => match r with
    | none => match P.underlying t with
      | some (.map kt _) => match P.underlying kt with
        | some (.int k) => some (.mkm k)
        | _ => none
      | _ => none
    | some _ => none
  | .mapUpdate t m key v => match P.underlying t with
    | some (.map kt _) => match P.underlying kt with
      | some (.int k) => some (.mupd k (cx m) (cx key) (cx v))
      | _ => none
    | _ => none
  | .lookup t m key ok => match P.underlying t with
    | some (.map kt et) => match P.underlying kt with
      | some (.int k) => match P.info? et with
        | some i => match i.zero with
          | some v0 => match cellVb v0 with
            | true => some (.mget k (.val v0) ok (cx m) (cx key))
            | false => none
          | none => none
        | none => none
      | _ => none
    | _ => none
  | .makeSlice t l c => match P.underlying t with
    | some (.slice e) => match P.info? e with
      | some i => match zOk P e (zeroT P 40 e) && (Nat.beq (size (zeroT P 40 e)) i.size && (Nat.ble 1 i.size && Nat.ble 1 i.bytes)) with
        | true => some (.mks i.size i.bytes e (zeroT P 40 e) (cx l) (cx c))
        | false => none
      | none => none
    | _ => none
  | .call c => match c.callee, c.args.toList, c.argTypes.toList with
    | .builtin .append, [x, y], [t, t'] => match Nat.beq t t', P.underlying t with
      | false, some (.slice e) => match P.underlying t' with
        | some (.int _) => match P.info? e with
          | some i => match i.zero with
            | some z => match zOk P e (zeroT P 40 e) && (Nat.beq (size (zeroT P 40 e)) i.size && (Nat.ble 1 i.size && Nat.ble 1 i.bytes)) with
              | true => some (.appz i.size i.bytes e (zeroT P 40 e) (cx x) (cx y))
              | false => none
            | none => none
          | none => none
        | some .string => match P.info? e with
          | some i => match i.zero with
            | some z => match Nat.beq z.cells.size i.size && (Nat.beq i.size 1 && Nat.beq i.bytes 1) with
              | true => some (.aps e (cx x) (cx y))
              | false => none
            | none => none
          | none => none
        | _ => none
      | true, some (.slice e) => match P.info? e with
        | some i => match i.zero with
          | some z => match Nat.beq z.cells.size i.size && (Nat.ble 1 i.size && Nat.ble 1 i.bytes) with
            | true => some (.app i.size i.bytes e (cx x) (cx y))
            | false => none
          | none => none
        | none => none
      | _, _ => none
    | _, _, _ => none
  | _ => none

theorem compL_ok {P : Program} {gl : Nat → AV} {N : Nat} {g : Gh} {w : World} {E : Nat → AV} {o : Objs} {n : Nat} {a : Act} (h : Good P gl N g w E o n a) {oo : Oper} {p : IOp} (hc : compL P oo.op = some p)
    {K : AV → Objs → Nat → Prop} (hw : wpL (evF gl E) o n p K) : Does P gl N g w E o n a oo K := by
  cases ho : oo.op <;> rw [ho] at hc <;> simp only [compL] at hc
  case alloc t =>
    split at hc
    · rename_i hz
      injection hc with hc; subst hc; exact ok_alloc h ho hz hw
    · cases hc
  case box t x => injection hc with hc; subst hc; exact ok_box h ho hw
  case store t x v =>
    split at hc
    · rename_i i hi
      injection hc with hc; subst hc; exact ok_sto h ho hi hw
    · cases hc
  case buildSlice t len l =>
    split at hc
    · rename_i e hd
      split at hc
      · rename_i i hi
        split at hc
        · rename_i hb
          simp only [Bool.and_eq_true] at hb
          obtain ⟨b1, b2, b3, b4, b5⟩ := hb
          injection hc with hc; subst hc
          exact ok_bsl h ho hd hi b1 (beq_eq b2) (beq_eq b3) (Nat.le_of_ble_eq_true b4) (Nat.le_of_ble_eq_true b5) hw
        · cases hc
      · cases hc
    · cases hc
  case convert s d x =>
    split at hc
    · rename_i e hs hd
      split at hc
      · rename_i hb
        injection hc with hc; subst hc
        exact ok_s2b h ho hs hd hb hw
      · cases hc
    · rename_i e e2 hs hd
      split at hc
      · rename_i hsd hb
        injection hc with hc; subst hc
        have hsd := beq_eq hsd
        subst hsd
        exact ok_cvb h ho hs hb hw
      · cases hc
    · cases hc
  case makeMap t r =>
    cases r with
    | some r => cases hc
    | none =>
      simp only at hc
      split at hc
      · rename_i kt et hd
        split at hc
        · rename_i k hk
          injection hc with hc; subst hc
          exact ok_mkm h ho hw
        · cases hc
      · cases hc
  case mapUpdate t m key v =>
    split at hc
    · rename_i kt et hd
      split at hc
      · rename_i k hk
        injection hc with hc; subst hc
        exact ok_mupd h ho hd hk hw
      · cases hc
    · cases hc
  case lookup t m key ok =>
    split at hc
    · rename_i kt et hd
      split at hc
      · rename_i k hk
        split at hc
        · rename_i i hi
          split at hc
          · rename_i v0 hv0
            split at hc
            · rename_i hb
              injection hc with hc; subst hc
              exact ok_mget h ho hd hk hi hv0 (cellVb_iff.1 hb) hw
            · cases hc
          · cases hc
        · cases hc
      · cases hc
    · cases hc
  case makeSlice t l c =>
    split at hc
    · rename_i e hd
      split at hc
      · rename_i i hi
        split at hc
        · rename_i hb
          simp only [Bool.and_eq_true] at hb
          obtain ⟨b1, b2, b3, b4⟩ := hb
          injection hc with hc; subst hc
          exact ok_mks h ho hd hi b1 (beq_eq b2) (Nat.le_of_ble_eq_true b3) (Nat.le_of_ble_eq_true b4) hw
        · cases hc
      · cases hc
    · cases hc
  case call c =>
    split at hc
    · rename_i x y t t' hb hx ht
      split at hc
      · rename_i e htt hd
        split at hc
        · rename_i kn htn
          split at hc
          · rename_i i hi
            split at hc
            · rename_i z hz
              split at hc
              · rename_i hb2
                simp only [Bool.and_eq_true] at hb2
                obtain ⟨b0, b1, b2, b3⟩ := hb2
                injection hc with hc; subst hc
                exact ok_appz h ho hb hx ht hd htn hi hz b0 (beq_eq b1) (Nat.le_of_ble_eq_true b2) (Nat.le_of_ble_eq_true b3) hw
              · cases hc
            · cases hc
          · cases hc
        · rename_i htn
          split at hc
          · rename_i i hi
            split at hc
            · rename_i z hz
              split at hc
              · rename_i hb2
                simp only [Bool.and_eq_true] at hb2
                obtain ⟨b1, b2, b3⟩ := hb2
                injection hc with hc; subst hc
                exact ok_aps h ho hb hx ht hd htn hi hz (beq_eq b1) (beq_eq b2) (beq_eq b3) hw
              · cases hc
            · cases hc
          · cases hc
        · cases hc
      · rename_i e htt hd
        split at hc
        · rename_i i hi
          split at hc
          · rename_i z hz
            split at hc
            · rename_i hb2
              simp only [Bool.and_eq_true] at hb2
              obtain ⟨b1, b2, b3⟩ := hb2
              injection hc with hc; subst hc
              have htt := beq_eq htt
              subst htt
              exact ok_app h ho hb hx ht hd hi hz (beq_eq b1) (Nat.le_of_ble_eq_true b2) (Nat.le_of_ble_eq_true b3) hw
            · cases hc
          · cases hc
        · cases hc
      · cases hc
    · cases hc
  all_goals cases hc

def compC (P : Program) : Op → Option IOp
  | .call c => match c.callee with
    | .value (.func f) => match P.funcs[f]? with
      | some fn => match fn.name == "runtime.NumGoroutine", fn.body with
        | false, some _ => some (.call f (c.args.toList.map cx))
        | false, none => some (.xcall f (c.args.toList.map cx))
        | _, _ => none
      | none => none
    | .value x => match cx x with
      | .no => none
      | y => some (.calv y (c.args.toList.map cx))
    | _ => none
  | .defer c => match c.callee, c.args.toList with
    | .value x, [] => some (.dfr (cx x))
    | _, _ => none
  | _ => none

/-- The contract of a function without a text: it answers at once and touches nothing. -/
def XPure (P : Program) (f : FuncId) (args : List AV) (r : AV) : Prop :=
  ∀ (g : Gh) (w : World) (cargs : List Value), RL g w args cargs → ∃ v, (callFunc f cargs.toArray).run P w = .ok (.value v) w ∧ (R g w r).v v

def CallX (P : Program) (f : FuncId) (args : List AV) (K : AV → Prop) : Prop := ∃ r, XPure P f args r ∧ K r

theorem call_x {P : Program} {f : FuncId} {args : List AV} {r : AV} {K : AV → Prop} (h : XPure P f args r) (hK : K r) : CallX P f args K := ⟨r, h, hK⟩

def evFL (gl : Nat → AV) (E : Nat → AV) : List X → List AV
  | [] => []
  | x :: r => evF gl E x :: evFL gl E r

theorem evFL_ok {P : Program} {gl : Nat → AV} {N : Nat} {g : Gh} {w : World} {E : Nat → AV} {o : Objs} {n : Nat} {a : Act} (h : Good P gl N g w E o n a) : ∀ (l : List Operand), RL g w (evFL gl E (l.map cx)) (l.map a.eval)
  | [] => trivial
  | x :: r => ⟨ev_ok h x, evFL_ok h r⟩

theorem compC_run {P : Program} {oo : Oper} {f : Nat} {l : List X} (hc : compC P oo.op = some (.call f l)) (a : Act) (w : World) :
    ∃ xs : List Operand, l = xs.map cx ∧ (execOp a.eval oo).run P w = .ok (.enter f (xs.map a.eval).toArray) w := by
  cases ho : oo.op <;> rw [ho] at hc <;> simp only [compC] at hc <;> try cases hc
  · rename_i c
    split at hc
    · rename_i f' hcal
      split at hc
      · rename_i fn hf
        split at hc
        · rename_i b hn hb
          injection hc with hc
          injection hc with h1 h2
          subst h1
          refine ⟨c.args.toList, h2.symm, ?_⟩
          unfold execOp
          rw [ho]
          have e1 : (c.args.map a.eval) = (c.args.toList.map a.eval).toArray := by apply Array.ext'; simp
          have e2 : fn.body.isNone = false := by rw [hb]; rfl
          simp only [resolve, hcal, Act.eval, Deferred.ofValue, Sem.run_bind, Sem.run_pure, Result.andThen_ok, invoke, callFunc, run_program, hf, hn, Bool.false_eq_true, if_false, e2, e1]
          simp
        · cases hc
        · cases hc
      · cases hc
    · split at hc <;> cases hc
    · cases hc
  · split at hc <;> cases hc

theorem compC_x {P : Program} {oo : Oper} {f : Nat} {l : List X} (hc : compC P oo.op = some (.xcall f l)) (a : Act) (w : World) :
    ∃ xs : List Operand, l = xs.map cx ∧ (execOp a.eval oo).run P w = (callFunc f (xs.map a.eval).toArray).run P w := by
  cases ho : oo.op <;> rw [ho] at hc <;> simp only [compC] at hc <;> try cases hc
  · rename_i c
    split at hc
    · rename_i f' hcal
      split at hc
      · rename_i fn hf
        split at hc
        · cases hc
        · injection hc with hc
          injection hc with h1 h2
          subst h1
          refine ⟨c.args.toList, h2.symm, ?_⟩
          unfold execOp
          rw [ho]
          have e1 : (c.args.map a.eval) = (c.args.toList.map a.eval).toArray := by apply Array.ext'; simp
          simp only [resolve, hcal, Act.eval, Deferred.ofValue, Sem.run_bind, Sem.run_pure, Result.andThen_ok, invoke, e1]
          simp
        · cases hc
      · cases hc
    · split at hc <;> cases hc
    · cases hc
  · split at hc <;> cases hc

def toLA : AV → List AV
  | .cons a b => a :: toLA b
  | _ => []

theorem toLA_RL {g : Gh} {w : World} : ∀ (a : AV) {vs : List Value}, (R g w a).l vs → RL g w (toLA a) vs := by
  intro a
  induction a with
  | cons a b iha ihb =>
    intro vs h
    cases vs with
    | nil => exact h.elim
    | cons u r => exact ⟨h.1, ihb h.2⟩
  | nil => intro vs h; have : vs = [] := h; subst this; exact trivial
  | _ => intro vs h; exact h.elim

theorem RL_append {g : Gh} {w : World} : ∀ {l l' : List AV} {vs vs' : List Value}, RL g w l vs → RL g w l' vs' → RL g w (l ++ l') (vs ++ vs')
  | [], _, [], _, _, h => h
  | a :: r, _, u :: s, _, h, h' => ⟨h.1, RL_append h.2 h'⟩
  | [], _, _ :: _, _, h, _ => h.elim
  | _ :: _, _, [], _, h, _ => h.elim

/-- A function that has a text. -/
structure FnOk (P : Program) (f : FuncId) : Prop where
  h : ∃ fn c, P.funcs[f]? = some fn ∧ (fn.name == "runtime.NumGoroutine") = false ∧ fn.body = some c

/-- A function that, put off to the end, does nothing where no panic is under way. -/
structure DfrP (P : Program) (f : FuncId) : Prop where
  h : ∀ ys : Array Value, NopD P ⟨.fn (.func f) ys, #[]⟩

theorem compC_v {P : Program} {oo : Oper} {x : X} {l : List X} (hc : compC P oo.op = some (.calv x l)) (a : Act) (w : World) :
    ∃ (xo : Operand) (xs : List Operand), x = cx xo ∧ l = xs.map cx ∧ ∀ f first cap, a.eval xo = .func (.func f) first cap → FnOk P f →
      (execOp a.eval oo).run P w = .ok (.enter f (first.toList ++ xs.map a.eval ++ cap.toList).toArray) w := by
  cases ho : oo.op <;> rw [ho] at hc <;> simp only [compC] at hc <;> try cases hc
  · rename_i c
    split at hc
    · rename_i f' hcal
      split at hc
      · rename_i fn hf
        split at hc <;> cases hc
      · cases hc
    · rename_i xo hno hcal
      split at hc
      · cases hc
      · rename_i hy
        injection hc with hc
        injection hc with h1 h2
        refine ⟨xo, c.args.toList, h1.symm, h2.symm, ?_⟩
        rintro f first cap hev ⟨fn, c', hf, hn, hb⟩
        unfold execOp
        rw [ho]
        have e2 : fn.body.isNone = false := by rw [hb]; rfl
        have e1 : (first ++ c.args.map a.eval ++ cap) = (first.toList ++ c.args.toList.map a.eval ++ cap.toList).toArray := by apply Array.ext'; simp
        simp only [resolve, hcal, hev, Deferred.ofValue, Sem.run_bind, Sem.run_pure, Result.andThen_ok, invoke, callFunc, run_program, hf, hn, Bool.false_eq_true, if_false, e2, e1]
    · cases hc
  · rename_i c
    split at hc <;> cases hc

theorem compC_d {P : Program} {oo : Oper} {x : X} (hc : compC P oo.op = some (.dfr x)) (a : Act) (w : World) :
    ∃ xo : Operand, x = cx xo ∧ ∀ f cap, a.eval xo = .func (.func f) #[] cap → (execOp a.eval oo).run P w = .ok (.defer ⟨.fn (.func f) cap, #[]⟩) w := by
  cases ho : oo.op <;> rw [ho] at hc <;> simp only [compC] at hc <;> try cases hc
  · rename_i c
    split at hc
    · split at hc
      · split at hc <;> cases hc
      · cases hc
    · split at hc <;> cases hc
    · cases hc
  · rename_i c
    split at hc
    · rename_i xo hcal hargs
      injection hc with hc
      injection hc with hc
      refine ⟨xo, hc.symm, fun f cap hev => ?_⟩
      unfold execOp
      rw [ho]
      have e1 : c.args = #[] := by rw [← Array.toArray_toList (xs := c.args), hargs]
      simp only [resolve, hcal, hev, Deferred.ofValue, Sem.run_bind, Sem.run_pure, Result.andThen_ok, e1, List.map_toArray, List.map_nil, Array.append_empty]
    · cases hc

end Ar
namespace Ar
open Go
set_option linter.unusedVariables false
set_option autoImplicit false

inductive Ent where
  | o (d : Nat) (op : IOp)
  | n (op : IOp)
  | og (d j : Nat) (b : Bool) (op : IOp)
  | ng (j : Nat) (b : Bool) (op : IOp)

inductive IC where
  | skip
  | ops (l : List Ent)
  | dops (l : List Ent)
  | dopss (l : List (Ent × List Nat))
  | dopr (m : Nat) (l : List (Ent × List Nat))
  | seq (a b : IC)
  | cond (x : X) (a b : IC)
  | block (id : Nat) (a : IC)
  | loop (a : IC)
  | exit (id : Nat)
  | ret

inductive AExit where
  | normal
  | ret
  | exit (id : Nat)

abbrev Post := Env → Objs → Nat → Prop

def force : AV → (AV → Prop) → Prop
  | .val x, K => K (.val x)
  | .any, K => K .any
  | .ptr o p, K => K (.ptr o p)
  | .elt n e f i p, K => K (.elt n e f i p)
  | .lst t n e f, K => K (.lst t n e f)
  | .sli o lo n e ty, K => K (.sli o lo n e ty)
  | .arr n e f, K => K (.arr n e f)
  | .st l, K => force l fun l => K (.st l)
  | .cons a b, K => force a fun a => force b fun b => K (.cons a b)
  | .nil, K => K .nil
  | .tup l, K => force l fun l => K (.tup l)
  | .clo f a b, K => K (.clo f a b)
  | .mp o, K => K (.mp o)
  | .ifc t a, K => K (.ifc t a)

theorem force_iff : ∀ {a : AV} {K : AV → Prop}, force a K ↔ K a := by
  intro a
  induction a with
  | st l ih => intro K; simp only [force, ih]
  | cons a b iha ihb => intro K; simp only [force, iha, ihb]
  | tup l ih => intro K; simp only [force, ih]
  | _ => intro K; exact Iff.rfl

def forceL (l : List AV) (K : List AV → Prop) : Prop :=
  match l with
  | [] => K []
  | a :: r => force a fun a => forceL r fun r => K (a :: r)

theorem forceL_iff : ∀ {l : List AV} {K : List AV → Prop}, forceL l K ↔ K l
  | [], _ => Iff.rfl
  | a :: r, K => by simp only [forceL, force_iff, forceL_iff]

def forceO (l : Objs) (K : Objs → Prop) : Prop :=
  match l with
  | [] => K []
  | (n, .box a) :: r => force a fun a => forceO r fun r => K ((n, .box a) :: r)
  | (n, .room m e ty) :: r => forceO r fun r => K ((n, .room m e ty) :: r)
  | (n, .soon) :: r => forceO r fun r => K ((n, .soon) :: r)
  | (n, .dict k f) :: r => forceO r fun r => K ((n, .dict k f) :: r)

theorem forceO_iff : ∀ {l : Objs} {K : Objs → Prop}, forceO l K ↔ K l
  | [], _ => Iff.rfl
  | (n, .box a) :: r, K => by simp only [forceO, force_iff, forceO_iff]
  | (n, .room m e ty) :: r, K => by simp only [forceO, forceO_iff]
  | (n, .soon) :: r, K => by simp only [forceO, forceO_iff]
  | (n, .dict k f) :: r, K => by simp only [forceO, forceO_iff]

def ev (gl : Nat → AV) (e : Env) : X → AV
  | .t i => lookE i e
  | .c v => .val v
  | .g i => gl i
  | .f i => .clo (.func i) .nil .nil
  | .no => .any

def evL (gl : Nat → AV) (e : Env) : List X → List AV
  | [] => []
  | x :: r => ev gl e x :: evL gl e r

theorem ev_eq (gl : Nat → AV) (e : Env) : ev gl e = evF gl (fun t => lookE t e) := by
  funext x; cases x <;> rfl

theorem evL_eq (gl : Nat → AV) (e : Env) : ∀ l, evL gl e l = evFL gl (fun t => lookE t e) l
  | [] => rfl
  | x :: r => by simp only [evL, evFL, ev_eq, evL_eq gl e r]

/-- One operation, in a state of the walk. -/
def wpOp (b : Bool) (P : Program) (gl : Nat → AV) (e : Env) (o : Objs) (n : Nat) (op : IOp) (K : AV → Objs → Nat → Prop) : Prop :=
  match op with
  | .call f l => forceL (evL gl e l) fun args => CallB b P gl f args o n fun r o n => force r fun r => K r o n
  | .callx f l => forceL (evL gl e l) fun args => CallB true P gl f args o n fun r o n => force r fun r => K r o n
  | .xcall f l => forceL (evL gl e l) fun args => CallX P f args fun r => force r fun r => K r o n
  | .calv x l => match ev gl e x with
    | .clo (.func f) a c => forceL ((toLA a ++ evL gl e l) ++ toLA c) fun args => FnOk P f ∧ CallB b P gl f args o n fun r o n => force r fun r => K r o n
    | _ => False
  | .dfr x => match ev gl e x with
    | .clo (.func f) .nil _ => DfrP P f ∧ K .any o n
    | _ => False
  | .mks e' b' ty z l c => wpL (ev gl e) o n (.mks e' b' ty z l c) fun v o n => forceO o fun o => K v o n
  | .s2b ty x => wpL (ev gl e) o n (.s2b ty x) fun v o n => forceO o fun o => K v o n
  | .cvb x => wpL (ev gl e) o n (.cvb x) K
  | .aps ty x y => wpL (ev gl e) o n (.aps ty x y) fun v o n => forceO o fun o => K v o n
  | .mkm k => wpL (ev gl e) o n (.mkm k) fun v o n => forceO o fun o => K v o n
  | .mupd k m key x => wpL (ev gl e) o n (.mupd k m key x) fun v o n => forceO o fun o => K v o n
  | .mget k z ok m key => wpL (ev gl e) o n (.mget k z ok m key) fun v o n => force v fun v => K v o n
  | .alcN j z => wpL (ev gl e) o n (.alcN j z) fun v o n => forceO o fun o => K v o n
  | .stoN j sz x v => wpL (ev gl e) o n (.stoN j sz x v) fun v o n => forceO o fun o => K v o n
  | .alloc z => wpL (ev gl e) o n (.alloc z) fun v o n => forceO o fun o => K v o n
  | .box x => wpL (ev gl e) o n (.box x) fun v o n => forceO o fun o => K v o n
  | .sto sz x v => wpL (ev gl e) o n (.sto sz x v) fun v o n => forceO o fun o => K v o n
  | .bsl e' ty z l => wpL (ev gl e) o n (.bsl e' ty z l) fun v o n => forceO o fun o => K v o n
  | .appz e' b' ty z x c => wpL (ev gl e) o n (.appz e' b' ty z x c) fun v o n => forceO o fun o => K v o n
  | .app e' b' ty x y => wpL (ev gl e) o n (.app e' b' ty x y) fun v o n => forceO o fun o => K v o n
  | op => wpV (ev gl e) o op fun v => force v fun v => K v o n

/-- One entry. -/
def stepE (b : Bool) (P : Program) (gl : Nat → AV) (en : Ent) (k : Post) (e : Env) (o : Objs) (n : Nat) : Prop :=
  match en with
  | .o d op => wpOp b P gl e o n op fun v o n => k ((d, v) :: e) o n
  | .n op => wpOp b P gl e o n op fun _ o n => k e o n
  | .og d j q op => match lookE j e with
    | .val (.bool t) => match q with
      | true => br t (wpOp b P gl e o n op fun v o n => k ((d, v) :: e) o n) (k ((d, .tup .nil) :: e) o n)
      | false => br t (k ((d, .tup .nil) :: e) o n) (wpOp b P gl e o n op fun v o n => k ((d, v) :: e) o n)
    | .tup .nil => k ((d, .tup .nil) :: e) o n
    | _ => False
  | .ng j q op => match lookE j e with
    | .val (.bool t) => match q with
      | true => br t (wpOp b P gl e o n op fun _ o n => k e o n) (k e o n)
      | false => br t (k e o n) (wpOp b P gl e o n op fun _ o n => k e o n)
    | .tup .nil => k e o n
    | _ => False

def wpE (b : Bool) (P : Program) (gl : Nat → AV) (l : List Ent) (K : Post) : Post :=
  match l with
  | [] => K
  | en :: r => stepE b P gl en (wpE b P gl r K)

/-- Does the guard let the entry run? -/
def GdE (x : AV) (q : Bool) (r : Bool) : Prop := (∃ c, x = .val (.bool c) ∧ r = (c == q)) ∨ (x = .tup .nil ∧ r = false)

theorem wpE_og {b : Bool} {P : Program} {gl : Nat → AV} {d j : Nat} {q : Bool} {op : IOp} {r : List Ent} {K : Post} {e : Env} {o : Objs} {n : Nat} (h : wpE b P gl (.og d j q op :: r) K e o n) :
    (GdE (lookE j e) q true ∧ wpOp b P gl e o n op fun v o n => wpE b P gl r K ((d, v) :: e) o n) ∨ (GdE (lookE j e) q false ∧ wpE b P gl r K ((d, .tup .nil) :: e) o n) := by
  simp only [wpE, stepE] at h
  split at h
  · rename_i t ht
    rw [ht]
    cases q <;> cases t
    · exact .inl ⟨.inl ⟨_, rfl, rfl⟩, h⟩
    · exact .inr ⟨.inl ⟨_, rfl, rfl⟩, h⟩
    · exact .inr ⟨.inl ⟨_, rfl, rfl⟩, h⟩
    · exact .inl ⟨.inl ⟨_, rfl, rfl⟩, h⟩
  · rename_i ht
    rw [ht]
    exact .inr ⟨.inr ⟨rfl, rfl⟩, h⟩
  · exact h.elim

theorem wpE_ng {b : Bool} {P : Program} {gl : Nat → AV} {j : Nat} {q : Bool} {op : IOp} {r : List Ent} {K : Post} {e : Env} {o : Objs} {n : Nat} (h : wpE b P gl (.ng j q op :: r) K e o n) :
    (GdE (lookE j e) q true ∧ wpOp b P gl e o n op fun _ o n => wpE b P gl r K e o n) ∨ (GdE (lookE j e) q false ∧ wpE b P gl r K e o n) := by
  simp only [wpE, stepE] at h
  split at h
  · rename_i t ht
    rw [ht]
    cases q <;> cases t
    · exact .inl ⟨.inl ⟨_, rfl, rfl⟩, h⟩
    · exact .inr ⟨.inl ⟨_, rfl, rfl⟩, h⟩
    · exact .inr ⟨.inl ⟨_, rfl, rfl⟩, h⟩
    · exact .inl ⟨.inl ⟨_, rfl, rfl⟩, h⟩
  · rename_i ht
    rw [ht]
    exact .inr ⟨.inr ⟨rfl, rfl⟩, h⟩
  · exact h.elim

/-- Two names of boxes that are not the same. -/
def sepV (x y : AV) : Bool := match x, y with
  | .ptr b _, .ptr b' _ => !Nat.beq b b'
  | .elt _ _ _ _ _, .ptr _ _ => true
  | _, _ => false

def adr : IOp → Option Nat
  | .ld _ _ (.t i) => some i
  | _ => none

def sepB (E : Nat → AV) (en : IOp) : List Nat → Bool
  | [] => true
  | j :: r => match adr en with
    | some i => sepV (E i) (E j) && sepB E en r
    | none => false

def Ent.iop : Ent → IOp
  | .o _ p => p
  | .n p => p
  | .og _ _ _ p => p
  | .ng _ _ p => p

/-- The same, where stores may come ahead of a load of another box. -/
def wpES (P : Program) (gl : Nat → AV) : List (Ent × List Nat) → Post → Post
  | [], K, e, o, n => K e o n
  | (en, js) :: r, K, e, o, n => chk (sepB (fun t => lookE t e) en.iop js) (stepE false P gl en (wpES P gl r K) e o n)

/-- Are these boxes (told from the last name on) yet to be made? -/
def soonB (n : Nat) (o : Objs) : List Nat → Bool
  | [] => true
  | j :: r => (match lookO (n - j) o with | some .soon => true | _ => false) && soonB n o r

/-- The same, where boxes are made in the region itself: they have their names from its start on. -/
def wpER (P : Program) (gl : Nat → AV) : List (Ent × List Nat) → Post → Post
  | [], K, e, o, n => K e o n
  | (en, js) :: r, K, e, o, n => chk (soonB n o js) (stepE false P gl en (wpER P gl r K) e o n)

def pre : Nat → Nat → Objs → Objs
  | 0, _, o => o
  | m + 1, n, o => (n, .soon) :: pre m (n + 1) o

/-! The program's operations as entries. -/
def compOp (P : Program) (op : Op) : Option IOp :=
  match compV P op with
  | some p => some p
  | none => match compL P op with
    | some p => some p
    | none => match compC P op with
      | some p => some p
      | none => some .dead

def compE (P : Program) (N : Nat) (all : List Oper) : List Oper → Option (List Ent)
  | [] => some []
  | oo :: r => match compOp P oo.op, compE P N all r with
    | some p, some l => match oo.dst, oo.guard with
      | some d, none => match Nat.blt d N with
        | true => some (.o d p :: l)
        | false => none
      | none, none => some (.n p :: l)
      | some d, some (j, b) => match (all[j]?).bind (·.dst) with
        | some t => match Nat.blt d N with
          | true => some (.og d t b p :: l)
          | false => none
        | none => none
      | none, some (j, b) => match (all[j]?).bind (·.dst) with
        | some t => some (.ng t b p :: l)
        | none => none
    | _, _ => none

section
variable {P : Program} {gl : Nat → AV} {N : Nat} {g : Gh} {w : World} {e : Env} {o : Objs} {n : Nat} {a : Act}

def EnvF (e : Env) : Nat → AV := fun t => lookE t e

theorem putF_cons (e : Env) (d : Nat) (v : AV) : putF (EnvF e) d v = EnvF ((d, v) :: e) := by
  funext t
  simp only [putF, EnvF, lookE_cons]

theorem Good.putE (h : Good P gl N g w (EnvF e) o n a) {d : Nat} (hd : d < N) {v : AV} {u : Value} (hv : (R g w v).v u) : Good P gl N g w (EnvF ((d, v) :: e)) o n (a.put (some d) u) := by
  rw [← putF_cons]; exact h.put hd hv

end
end Ar
namespace Ar
open Go
set_option linter.unusedVariables false
set_option autoImplicit false

structure FS where
  E : Nat → AV
  o : Objs
  n : Nat

def Ent.dst : Ent → Option Nat
  | .o d _ => some d
  | .n _ => none
  | .og d _ _ _ => some d
  | .ng _ _ _ => none

def Ent.op : Ent → IOp
  | .o _ p => p
  | .n p => p
  | .og _ _ _ p => p
  | .ng _ _ p => p

def Ent.gd : Ent → Option (Nat × Bool)
  | .o _ _ => none
  | .n _ => none
  | .og _ t b _ => some (t, b)
  | .ng t b _ => some (t, b)

def wpF (b : Bool) (P : Program) (gl : Nat → AV) (s : FS) (p : IOp) (K : AV → Objs → Nat → Prop) : Prop :=
  match p with
  | .call f l => match b with
    | true => CallB true P gl f (evFL gl s.E l) s.o s.n K
    | false => CallO P gl f (evFL gl s.E l) s.o fun r o => K r o s.n
  | .callx f l => CallB true P gl f (evFL gl s.E l) s.o s.n K
  | .xcall f l => CallX P f (evFL gl s.E l) fun r => K r s.o s.n
  | .calv x l => match evF gl s.E x with
    | .clo (.func f) a c => FnOk P f ∧ match b with
      | true => CallB true P gl f ((toLA a ++ evFL gl s.E l) ++ toLA c) s.o s.n K
      | false => CallO P gl f ((toLA a ++ evFL gl s.E l) ++ toLA c) s.o fun r o => K r o s.n
    | _ => False
  | .dfr x => match evF gl s.E x with
    | .clo (.func f) .nil _ => DfrP P f ∧ K .any s.o s.n
    | _ => False
  | .mks e' b' ty z l c => wpL (evF gl s.E) s.o s.n (.mks e' b' ty z l c) K
  | .s2b ty x => wpL (evF gl s.E) s.o s.n (.s2b ty x) K
  | .cvb x => wpL (evF gl s.E) s.o s.n (.cvb x) K
  | .aps ty x y => wpL (evF gl s.E) s.o s.n (.aps ty x y) K
  | .mkm k => wpL (evF gl s.E) s.o s.n (.mkm k) K
  | .mupd k m key x => wpL (evF gl s.E) s.o s.n (.mupd k m key x) K
  | .mget k z ok m key => wpL (evF gl s.E) s.o s.n (.mget k z ok m key) K
  | .alcN j z => wpL (evF gl s.E) s.o s.n (.alcN j z) K
  | .stoN j sz x v => wpL (evF gl s.E) s.o s.n (.stoN j sz x v) K
  | .alloc z => wpL (evF gl s.E) s.o s.n (.alloc z) K
  | .box x => wpL (evF gl s.E) s.o s.n (.box x) K
  | .sto sz x v => wpL (evF gl s.E) s.o s.n (.sto sz x v) K
  | .bsl e' ty z l => wpL (evF gl s.E) s.o s.n (.bsl e' ty z l) K
  | .appz e' b' ty z x c => wpL (evF gl s.E) s.o s.n (.appz e' b' ty z x c) K
  | .app e' b' ty x y => wpL (evF gl s.E) s.o s.n (.app e' b' ty x y) K
  | p => wpV (evF gl s.E) s.o p fun v => K v s.o s.n

def putD (E : Nat → AV) (d : Option Nat) (v : AV) : Nat → AV := match d with
  | some d => putF E d v
  | none => E

/-- Does the entry's guard let it run? -/
def Gd (s : FS) (g : Option (Nat × Bool)) (r : Bool) : Prop := match g with
  | none => r = true
  | some (t, b) => GdE (s.E t) b r

/-- The entry may come to this value and this memory. -/
def YF (P : Program) (gl : Nat → AV) (en : Ent) (s : FS) (v : AV) (o : Objs) (n : Nat) : Prop :=
  (Gd s en.gd true ∧ wpF false P gl s en.op (fun x y z => x = v ∧ y = o ∧ z = n)) ∨ (Gd s en.gd false ∧ v = .tup .nil ∧ o = s.o ∧ n = s.n)

def FS.next (s : FS) (en : Ent) (v : AV) (o : Objs) (n : Nat) : FS := ⟨putD s.E en.dst v, o, n⟩

def qE (P : Program) (gl : Nat → AV) (en : Ent) (K : FS → Prop) (s : FS) : Prop := ∃ v o n, YF P gl en s v o n ∧ K (s.next en v o n)

theorem qE_mono {P : Program} {gl : Nat → AV} {en : Ent} {K K' : FS → Prop} {s : FS} (hk : ∀ s, K s → K' s) (h : qE P gl en K s) : qE P gl en K' s :=
  let ⟨v, o, n, h1, h2⟩ := h
  ⟨v, o, n, h1, hk _ h2⟩

/-! One value, out of what holds of all. -/
theorem loV_ex {ρ : X → AV} {x : X} {K : Nat → Prop} (h : loV ρ x K) : ∃ l, loV ρ x (fun y => y = l) ∧ K l := by
  unfold loV at h ⊢
  split at h
  · exact ⟨_, rfl, h⟩
  · split at h
    · exact ⟨_, ⟨h.1, rfl⟩, h.2⟩
    · exact h.elim

theorem hiV_ex {ρ : X → AV} {x : X} {n : Nat} {K : Nat → Prop} (h : hiV ρ x n K) : ∃ l, hiV ρ x n (fun y => y = l) ∧ K l := by
  unfold hiV at h ⊢
  split at h
  · exact ⟨_, rfl, h⟩
  · split at h
    · exact ⟨_, ⟨h.1, rfl⟩, h.2⟩
    · exact h.elim

theorem loV_mono {ρ : X → AV} {x : X} {l : Nat} {K : Nat → Prop} (h : loV ρ x (fun y => y = l)) (hK : K l) : loV ρ x K := by
  unfold loV at h ⊢
  split at h
  · subst h; exact hK
  · split at h
    · obtain ⟨h1, rfl⟩ := h; exact ⟨h1, hK⟩
    · exact h.elim

theorem hiV_mono {ρ : X → AV} {x : X} {n l : Nat} {K : Nat → Prop} (h : hiV ρ x n (fun y => y = l)) (hK : K l) : hiV ρ x n K := by
  unfold hiV at h ⊢
  split at h
  · subst h; exact hK
  · split at h
    · obtain ⟨h1, rfl⟩ := h; exact ⟨h1, hK⟩
    · exact h.elim

theorem wpV_ex {ρ : X → AV} {o : Objs} {p : IOp} {K : AV → Prop} (h : wpV ρ o p K) : ∃ v, wpV ρ o p (fun x => x = v) ∧ K v := by
  cases p <;> simp only [wpV] at h ⊢
  case bin op x y =>
    split at h
    · cases op <;> simp only [binV, bitV, chk_iff, brB_iff] at h ⊢ <;> first
        | exact h.elim
        | exact ⟨_, rfl, h⟩
        | (obtain ⟨h1, h2⟩ := h; exact ⟨_, ⟨h1, rfl⟩, h2⟩)
        | (obtain ⟨h1, h2, h3⟩ := h; exact ⟨_, ⟨h1, h2, rfl⟩, h3⟩)
        | (obtain ⟨h1, h2, h3, h4⟩ := h; exact ⟨_, ⟨h1, h2, h3, rfl⟩, h4⟩)
        | (obtain ⟨h1, h2, h3, h4, h5⟩ := h; exact ⟨_, ⟨h1, h2, h3, h4, rfl⟩, h5⟩)
    · exact h.elim
  case sop op x y =>
    split at h
    · cases op <;> simp only [strV, brB_iff] at h ⊢ <;> first
        | exact h.elim
        | exact ⟨_, rfl, h⟩
        | (obtain ⟨h1, h2⟩ := h; exact ⟨_, ⟨h1, rfl⟩, h2⟩)
        | (obtain ⟨h1, h2, h3⟩ := h; exact ⟨_, ⟨h1, h2, rfl⟩, h3⟩)
        | (obtain ⟨h1, h2, h3, h4⟩ := h; exact ⟨_, ⟨h1, h2, h3, rfl⟩, h4⟩)
        | (obtain ⟨h1, h2, h3, h4, h5⟩ := h; exact ⟨_, ⟨h1, h2, h3, h4, rfl⟩, h5⟩)
    · exact h.elim
  case un op x =>
    split at h
    · unfold unV at h ⊢
      split at h <;> (try simp only [bitV] at h ⊢) <;> first
        | exact h.elim
        | exact ⟨_, rfl, h⟩
        | (obtain ⟨h1, h2⟩ := h; exact ⟨_, ⟨h1, rfl⟩, h2⟩)
        | (obtain ⟨h1, h2, h3⟩ := h; exact ⟨_, ⟨h1, h2, rfl⟩, h3⟩)
        | (obtain ⟨h1, h2, h3, h4⟩ := h; exact ⟨_, ⟨h1, h2, h3, rfl⟩, h4⟩)
        | (obtain ⟨h1, h2, h3, h4, h5⟩ := h; exact ⟨_, ⟨h1, h2, h3, h4, rfl⟩, h5⟩)
    · exact h.elim
  case pick c x y =>
    split at h
    · rename_i t _; cases t <;> simp only [br] at h ⊢ <;> first
        | exact h.elim
        | exact ⟨_, rfl, h⟩
        | (obtain ⟨h1, h2⟩ := h; exact ⟨_, ⟨h1, rfl⟩, h2⟩)
        | (obtain ⟨h1, h2, h3⟩ := h; exact ⟨_, ⟨h1, h2, rfl⟩, h3⟩)
        | (obtain ⟨h1, h2, h3, h4⟩ := h; exact ⟨_, ⟨h1, h2, h3, rfl⟩, h4⟩)
        | (obtain ⟨h1, h2, h3, h4, h5⟩ := h; exact ⟨_, ⟨h1, h2, h3, h4, rfl⟩, h5⟩)
    · exact h.elim
  case slc e x lo hi =>
    split at h
    · simp only [chk_iff] at h ⊢
      obtain ⟨h1, h2⟩ := h
      obtain ⟨l, h3, h4⟩ := loV_ex h2
      obtain ⟨r, h5, h7, h8⟩ := hiV_ex h4
      exact ⟨_, ⟨h1, loV_mono h3 (hiV_mono h5 ⟨h7, rfl⟩)⟩, h8⟩
    · simp only [chk_iff] at h ⊢
      obtain ⟨h1, h2⟩ := h
      obtain ⟨l, h3, h4⟩ := loV_ex h2
      obtain ⟨r, h5, h7, h8, h9⟩ := hiV_ex h4
      exact ⟨_, ⟨h1, loV_mono h3 (hiV_mono h5 ⟨h7, h8, rfl⟩)⟩, h9⟩
    · exact h.elim
  case sls x lo hi =>
    split at h
    · obtain ⟨l, h3, h4⟩ := loV_ex h
      obtain ⟨r, h5, h7, h8⟩ := hiV_ex h4
      exact ⟨_, loV_mono h3 (hiV_mono h5 ⟨h7, rfl⟩), h8⟩
    · exact h.elim
  case sla len e ty x lo hi =>
    split at h
    · split at h
      · simp only [chk_iff] at h ⊢
        obtain ⟨g1, g2, g3, h2⟩ := h
        obtain ⟨l, h3, h4⟩ := loV_ex h2
        obtain ⟨r, h5, h7, h8, h9⟩ := hiV_ex h4
        exact ⟨_, ⟨g1, g2, g3, loV_mono h3 (hiV_mono h5 ⟨h7, h8, rfl⟩)⟩, h9⟩
      · exact h.elim
    · exact h.elim
  case eqs ne s x y =>
    simp only [chk_iff, brB_iff] at h ⊢
    obtain ⟨h1, h2, h3, h4, h5, h6⟩ := h
    exact ⟨_, ⟨h1, h2, h3, h4, h5, rfl⟩, h6⟩
  all_goals try (split at h)
  all_goals try (exact h.elim)
  all_goals try (split at h)
  all_goals try (simp only [chk_iff] at h ⊢)
  all_goals first
    | exact h.elim
    | exact ⟨_, rfl, h⟩
    | (obtain ⟨h1, h2⟩ := h; exact ⟨_, ⟨h1, rfl⟩, h2⟩)
    | (obtain ⟨h1, h2, h3⟩ := h; exact ⟨_, ⟨h1, h2, rfl⟩, h3⟩)
    | (obtain ⟨h1, h2, h3, h4⟩ := h; exact ⟨_, ⟨h1, h2, h3, rfl⟩, h4⟩)
    | (obtain ⟨h1, h2, h3, h4, h5⟩ := h; exact ⟨_, ⟨h1, h2, h3, h4, rfl⟩, h5⟩)

theorem wpV_mono {ρ : X → AV} {o : Objs} {p : IOp} {v : AV} {K : AV → Prop} (h : wpV ρ o p (fun x => x = v)) (hK : K v) : wpV ρ o p K := by
  cases p <;> simp only [wpV] at h ⊢
  case bin op x y =>
    split at h
    · cases op <;> simp only [binV, bitV, chk_iff, brB_iff] at h ⊢ <;> first
        | exact h.elim
        | (subst h; exact hK)
        | (obtain ⟨h1, rfl⟩ := h; exact ⟨h1, hK⟩)
        | (obtain ⟨h1, h2, rfl⟩ := h; exact ⟨h1, h2, hK⟩)
        | (obtain ⟨h1, h2, h3, rfl⟩ := h; exact ⟨h1, h2, h3, hK⟩)
        | (obtain ⟨h1, h2, h3, h4, rfl⟩ := h; exact ⟨h1, h2, h3, h4, hK⟩)
    · exact h.elim
  case sop op x y =>
    split at h
    · cases op <;> simp only [strV, brB_iff] at h ⊢ <;> first
        | exact h.elim
        | (subst h; exact hK)
        | (obtain ⟨h1, rfl⟩ := h; exact ⟨h1, hK⟩)
        | (obtain ⟨h1, h2, rfl⟩ := h; exact ⟨h1, h2, hK⟩)
        | (obtain ⟨h1, h2, h3, rfl⟩ := h; exact ⟨h1, h2, h3, hK⟩)
        | (obtain ⟨h1, h2, h3, h4, rfl⟩ := h; exact ⟨h1, h2, h3, h4, hK⟩)
    · exact h.elim
  case un op x =>
    split at h
    · unfold unV at h ⊢
      split at h <;> (try simp only [bitV] at h ⊢) <;> first
        | exact h.elim
        | (subst h; exact hK)
        | (obtain ⟨h1, rfl⟩ := h; exact ⟨h1, hK⟩)
        | (obtain ⟨h1, h2, rfl⟩ := h; exact ⟨h1, h2, hK⟩)
        | (obtain ⟨h1, h2, h3, rfl⟩ := h; exact ⟨h1, h2, h3, hK⟩)
        | (obtain ⟨h1, h2, h3, h4, rfl⟩ := h; exact ⟨h1, h2, h3, h4, hK⟩)
    · exact h.elim
  case pick c x y =>
    split at h
    · rename_i t _; cases t <;> simp only [br] at h ⊢ <;> first
        | exact h.elim
        | (subst h; exact hK)
        | (obtain ⟨h1, rfl⟩ := h; exact ⟨h1, hK⟩)
        | (obtain ⟨h1, h2, rfl⟩ := h; exact ⟨h1, h2, hK⟩)
        | (obtain ⟨h1, h2, h3, rfl⟩ := h; exact ⟨h1, h2, h3, hK⟩)
        | (obtain ⟨h1, h2, h3, h4, rfl⟩ := h; exact ⟨h1, h2, h3, h4, hK⟩)
    · exact h.elim
  case slc e x lo hi =>
    split at h
    · simp only [chk_iff] at h ⊢
      obtain ⟨h1, h2⟩ := h
      obtain ⟨l, h3, h4⟩ := loV_ex h2
      obtain ⟨r, h5, h7, rfl⟩ := hiV_ex h4
      exact ⟨h1, loV_mono h3 (hiV_mono h5 ⟨h7, hK⟩)⟩
    · simp only [chk_iff] at h ⊢
      obtain ⟨h1, h2⟩ := h
      obtain ⟨l, h3, h4⟩ := loV_ex h2
      obtain ⟨r, h5, h7, h8, rfl⟩ := hiV_ex h4
      exact ⟨h1, loV_mono h3 (hiV_mono h5 ⟨h7, h8, hK⟩)⟩
    · exact h.elim
  case sls x lo hi =>
    split at h
    · obtain ⟨l, h3, h4⟩ := loV_ex h
      obtain ⟨r, h5, h7, rfl⟩ := hiV_ex h4
      exact loV_mono h3 (hiV_mono h5 ⟨h7, hK⟩)
    · exact h.elim
  case sla len e ty x lo hi =>
    split at h
    · split at h
      · simp only [chk_iff] at h ⊢
        obtain ⟨g1, g2, g3, h2⟩ := h
        obtain ⟨l, h3, h4⟩ := loV_ex h2
        obtain ⟨r, h5, h7, h8, rfl⟩ := hiV_ex h4
        exact ⟨g1, g2, g3, loV_mono h3 (hiV_mono h5 ⟨h7, h8, hK⟩)⟩
      · exact h.elim
    · exact h.elim
  case eqs ne s x y =>
    simp only [chk_iff, brB_iff] at h ⊢
    obtain ⟨h1, h2, h3, h4, h5, rfl⟩ := h
    exact ⟨h1, h2, h3, h4, h5, hK⟩
  all_goals try (split at h)
  all_goals try (exact h.elim)
  all_goals try (split at h)
  all_goals try (simp only [chk_iff] at h ⊢)
  all_goals first
    | exact h.elim
    | (subst h; exact hK)
    | (obtain ⟨h1, rfl⟩ := h; exact ⟨h1, hK⟩)
    | (obtain ⟨h1, h2, rfl⟩ := h; exact ⟨h1, h2, hK⟩)
    | (obtain ⟨h1, h2, h3, rfl⟩ := h; exact ⟨h1, h2, h3, hK⟩)
    | (obtain ⟨h1, h2, h3, h4, rfl⟩ := h; exact ⟨h1, h2, h3, h4, hK⟩)

theorem wpL_ex {ρ : X → AV} {o : Objs} {n : Nat} {p : IOp} {K : AV → Objs → Nat → Prop} (h : wpL ρ o n p K) : ∃ v o' n', wpL ρ o n p (fun x y z => x = v ∧ y = o' ∧ z = n') ∧ K v o' n' := by
  cases p <;> simp only [wpL] at h ⊢
  all_goals try (split at h)
  all_goals try (exact h.elim)
  all_goals try (split at h)
  all_goals try (simp only [chk_iff] at h ⊢)
  all_goals first
    | exact h.elim
    | exact h.2.elim
    | exact ⟨_, _, _, ⟨rfl, rfl, rfl⟩, h⟩
    | exact ⟨_, _, _, ⟨h.1, rfl, rfl, rfl⟩, h.2⟩
    | (obtain ⟨h1, h2, h5⟩ := h; exact ⟨_, _, _, ⟨h1, h2, rfl, rfl, rfl⟩, h5⟩)
    | (obtain ⟨h1, h2, h3, h5⟩ := h; exact ⟨_, _, _, ⟨h1, h2, h3, rfl, rfl, rfl⟩, h5⟩)
    | (obtain ⟨h1, h2, h3, h4, h5⟩ := h; exact ⟨_, _, _, ⟨h1, h2, h3, h4, rfl, rfl, rfl⟩, h5⟩)
    | (obtain ⟨h1, h2, h3, h4, h5, h6⟩ := h; exact ⟨_, _, _, ⟨h1, h2, h3, h4, h5, rfl, rfl, rfl⟩, h6⟩)
    | (obtain ⟨h1, h2, h3, h4, h5, h6, h7, h8, h9, h10⟩ := h; exact ⟨_, _, _, ⟨h1, h2, h3, h4, h5, h6, h7, h8, h9, rfl, rfl, rfl⟩, h10⟩)
    | (obtain ⟨h3, h4, h5, h6, h7, h8, h9⟩ := h; exact ⟨_, _, _, ⟨h3, h4, h5, h6, h7, h8, rfl, rfl, rfl⟩, h9⟩)
    | (obtain ⟨h1, h2, h3, h4, h5, h6, h7, h8, k⟩ := h; exact ⟨_, _, _, ⟨h1, h2, h3, h4, h5, h6, h7, h8, rfl, rfl, rfl⟩, k⟩)
    | (obtain ⟨h1, h2, h3, h4, h5, h6, h7, h8, h9, h10, h11, k⟩ := h; exact ⟨_, _, _, ⟨h1, h2, h3, h4, h5, h6, h7, h8, h9, h10, h11, rfl, rfl, rfl⟩, k⟩)
    | (split at h
       · first
         | (obtain ⟨h1, h2, h5⟩ := h; exact ⟨_, _, _, ⟨h1, h2, rfl, rfl, rfl⟩, h5⟩)
         | (obtain ⟨h1, h2, h5⟩ := h; split at h5 <;> exact ⟨_, _, _, ⟨h1, h2, rfl, rfl, rfl⟩, h5⟩)
       · exact h.elim)

theorem wpL_mono {ρ : X → AV} {o : Objs} {n : Nat} {p : IOp} {v : AV} {o' : Objs} {n' : Nat} {K : AV → Objs → Nat → Prop} (h : wpL ρ o n p (fun x y z => x = v ∧ y = o' ∧ z = n')) (hK : K v o' n') : wpL ρ o n p K := by
  cases p <;> simp only [wpL] at h ⊢
  all_goals try (split at h)
  all_goals try (exact h.elim)
  all_goals try (split at h)
  all_goals try (simp only [chk_iff] at h ⊢)
  all_goals first
    | exact h.elim
    | exact h.2.elim
    | (obtain ⟨rfl, rfl, rfl⟩ := h; exact hK)
    | (obtain ⟨h1, rfl, rfl, rfl⟩ := h; exact ⟨h1, hK⟩)
    | (obtain ⟨h1, h2, rfl, rfl, rfl⟩ := h; exact ⟨h1, h2, hK⟩)
    | (obtain ⟨h1, h2, h3, rfl, rfl, rfl⟩ := h; exact ⟨h1, h2, h3, hK⟩)
    | (obtain ⟨h1, h2, h3, h4, rfl, rfl, rfl⟩ := h; exact ⟨h1, h2, h3, h4, hK⟩)
    | (obtain ⟨h1, h2, h3, h4, h5, rfl, rfl, rfl⟩ := h; exact ⟨h1, h2, h3, h4, h5, hK⟩)
    | (obtain ⟨h1, h2, h3, h4, h5, h6, h7, h8, h9, rfl, rfl, rfl⟩ := h; exact ⟨h1, h2, h3, h4, h5, h6, h7, h8, h9, hK⟩)
    | (obtain ⟨h1, h2, h3, h4, h5, h6, rfl, rfl, rfl⟩ := h; exact ⟨h1, h2, h3, h4, h5, h6, hK⟩)
    | (obtain ⟨h1, h2, h3, h4, h5, h6, h7, h8, rfl, rfl, rfl⟩ := h; exact ⟨h1, h2, h3, h4, h5, h6, h7, h8, hK⟩)
    | (obtain ⟨h1, h2, h3, h4, h5, h6, h7, h8, h9, h10, h11, rfl, rfl, rfl⟩ := h; exact ⟨h1, h2, h3, h4, h5, h6, h7, h8, h9, h10, h11, hK⟩)
    | (split at h
       · first
         | (obtain ⟨h1, h2, rfl, rfl, rfl⟩ := h; exact ⟨h1, h2, hK⟩)
         | (obtain ⟨h1, h2, h5⟩ := h; split at h5 <;> (obtain ⟨rfl, rfl, rfl⟩ := h5; exact ⟨h1, h2, hK⟩))
       · exact h.elim)

end Ar
