/- Boxes and growing rows by name, what a state of the walk means in a world, and what a step of it may change. No condition. -/
import Derived.Test.YtjkmmcbfcglkdaaArB
namespace Ar
open Go
set_option linter.unusedVariables false
set_option autoImplicit false

inductive AObj where
  | box (a : AV)
  | room (n e : Nat) (ty : TypeId)

abbrev Env := List (Nat × AV)
abbrev Objs := List (Nat × AObj)

def lookE (t : Nat) : Env → AV
  | [] => .any
  | (k, a) :: r => match Nat.beq k t with | true => a | false => lookE t r

def lookO (t : Nat) : Objs → Option AObj
  | [] => none
  | (k, a) :: r => match Nat.beq k t with | true => some a | false => lookO t r

def setO (t : Nat) (x : AObj) : Objs → Objs
  | [] => []
  | (k, a) :: r => match Nat.beq k t with | true => (k, x) :: r | false => (k, a) :: setO t x r

theorem beq_of_ne {a b : Nat} (h : a ≠ b) : Nat.beq a b = false := by
  cases hb : Nat.beq a b with
  | false => rfl
  | true => exact absurd (beq_eq hb) h

theorem beq_self (a : Nat) : Nat.beq a a = true := Nat.beq_refl a

theorem lookO_cons (t k : Nat) (a : AObj) (r : Objs) : lookO t ((k, a) :: r) = if k = t then some a else lookO t r := by
  by_cases h : k = t
  · subst h; simp [lookO]
  · simp [lookO, beq_of_ne h, h]

theorem lookE_cons (t k : Nat) (a : AV) (r : Env) : lookE t ((k, a) :: r) = if k = t then a else lookE t r := by
  by_cases h : k = t
  · subst h; simp [lookE]
  · simp [lookE, beq_of_ne h, h]

theorem lookO_setO (t : Nat) (x : AObj) (u : Nat) : ∀ (o : Objs), lookO u (setO t x o) = if u = t then (lookO t o).map (fun _ => x) else lookO u o
  | [] => by simp [setO, lookO]
  | (k, a) :: r => by
    by_cases h : k = t
    · subst h
      simp only [setO, beq_self, lookO_cons]
      by_cases hu : u = k
      · subst hu; simp
      · have : ¬ k = u := fun e => hu e.symm
        simp [hu, this]
    · simp only [setO, beq_of_ne h, lookO_cons, lookO_setO t x u r]
      by_cases hu : u = t
      · subst hu; simp [h]
      · simp [hu]

/-- The block that a name stands for. -/
def blkOf (g : Gh) (o : Nat) : AObj → Option Nat
  | .box _ => g.m o
  | .room _ _ _ => (g.r o).bind (·.1)

def ObjOk (g : Gh) (w : World) (o : Nat) : AObj → Prop
  | .box a => ∃ (b : Nat) (cs : Array Value) (ty : TypeId), g.m o = some b ∧ g.G b = 0 ∧ w.heap[b]? = some (.cells cs ty (0, 0)) ∧ cs.size = size a ∧ (R g w a).s (look w b) 0
  | .room n e ty => ∃ ob, g.r o = some (ob, n) ∧ (ob = none → n = 0) ∧ ∀ b, ob = some b → g.G b = n * e ∧ ∃ (cs : Array Value), w.heap[b]? = some (.cells cs ty (0, 0)) ∧ n * e ≤ cs.size

def Own (g : Gh) (o : Objs) (b : Nat) : Prop := ∃ k x, lookO k o = some x ∧ blkOf g k x = some b

structure Good (gl : Nat → AV) (N : Nat) (g : Gh) (w : World) (E : Nat → AV) (o : Objs) (n : Nat) (a : Act) : Prop where
  objs : ∀ k x, lookO k o = some x → ObjOk g w k x
  inj : ∀ k x k' x' b, lookO k o = some x → lookO k' o = some x' → blkOf g k x = some b → blkOf g k' x' = some b → k = k'
  mlt : ∀ k b, g.m k = some b → k < n
  rlt : ∀ k b, g.r k = some b → k < n
  env : ∀ t, (R g w (E t)).v (a.tmps.getD t undef)
  sz : a.tmps.size = N
  def_ : a.defers = []
  gz : ∀ b, w.heap.size ≤ b → g.G b = 0
  gl : ∀ i, (R g w (gl i)).v (.pointer (some ⟨i, 0, none⟩))

/-- What a step of the walk leaves as it was, for whoever looks from outside. -/
structure Stp (g : Gh) (w : World) (o : Objs) (g' : Gh) (w' : World) (o' : Objs) : Prop where
  size : w.heap.size ≤ w'.heap.size
  keep : ∀ b, b < w.heap.size → ¬ Own g o b → w'.heap[b]? = w.heap[b]? ∧ g'.G b = g.G b
  own : ∀ b, Own g' o' b → Own g o b ∨ w.heap.size ≤ b
  pub : ∀ b off, off < g.G b → w'.cell? ⟨b, off, none⟩ = w.cell? ⟨b, off, none⟩
  le : ∀ b, g.G b ≤ g'.G b
  cap : ∀ (b : Nat) (cs : Array Value) (ty : TypeId), w.heap[b]? = some (.cells cs ty (0, 0)) → ∃ cs' : Array Value, w'.heap[b]? = some (.cells cs' ty (0, 0)) ∧ cs'.size = cs.size
  os : w'.os = w.os
  out : w'.output = w.output

theorem Stp.refl (g : Gh) (w : World) (o : Objs) : Stp g w o g w o :=
  ⟨Nat.le_refl _, fun _ _ _ => ⟨rfl, rfl⟩, fun _ h => .inl h, fun _ _ _ => rfl, fun _ => Nat.le_refl _, fun _ cs _ h => ⟨cs, h, rfl⟩, rfl, rfl⟩

theorem Stp.trans {g g1 g2 : Gh} {w w1 w2 : World} {o o1 o2 : Objs} (h : Stp g w o g1 w1 o1) (h' : Stp g1 w1 o1 g2 w2 o2) : Stp g w o g2 w2 o2 where
  size := Nat.le_trans h.size h'.size
  keep := fun b hb ho => by
    obtain ⟨h1, h2⟩ := h.keep b hb ho
    have hn : ¬ Own g1 o1 b := fun hh => by rcases h.own b hh with h3 | h3 <;> first | exact ho h3 | omega
    obtain ⟨h3, h4⟩ := h'.keep b (Nat.lt_of_lt_of_le hb h.size) hn
    exact ⟨h3.trans h1, h4.trans h2⟩
  own := fun b hb => by
    rcases h'.own b hb with h1 | h1
    · exact h.own b h1
    · exact .inr (Nat.le_trans h.size h1)
  pub := fun b off ho => (h'.pub b off (Nat.lt_of_lt_of_le ho (h.le b))).trans (h.pub b off ho)
  le := fun b => Nat.le_trans (h.le b) (h'.le b)
  cap := fun b cs ty hb => by
    obtain ⟨cs1, h1, e1⟩ := h.cap b cs ty hb
    obtain ⟨cs2, h2, e2⟩ := h'.cap b cs1 ty h1
    exact ⟨cs2, h2, e2.trans e1⟩
  os := h'.os.trans h.os
  out := h'.out.trans h.out

/-- A world that differs in what nobody here reads. -/
structure Drawn (w w' : World) : Prop where
  heap : w'.heap = w.heap
  os : w'.os = w.os
  out : w'.output = w.output

theorem Drawn.refl (w : World) : Drawn w w := ⟨rfl, rfl, rfl⟩

theorem cell_heap {w w' : World} (h : w'.heap = w.heap) (a : Addr) : w'.cell? a = w.cell? a := by
  unfold World.cell?; rw [h]

theorem Drawn.ev {w w' : World} (h : Drawn w w') (g : Gh) : Ev g w g w' :=
  ⟨fun _ _ h => h, fun _ ob N h => ⟨ob, N, h, Nat.le_refl _, fun _ => rfl⟩, fun _ _ _ => cell_heap h.heap _, fun _ => Nat.le_refl _, fun _ cs _ hb => ⟨cs, by rw [h.heap]; exact hb, rfl⟩⟩

theorem Drawn.stp {w w' : World} (h : Drawn w w') (g : Gh) (o : Objs) : Stp g w o g w' o :=
  ⟨by rw [h.heap]; exact Nat.le_refl _, fun _ _ _ => ⟨by rw [h.heap], rfl⟩, fun _ h => .inl h, fun _ _ _ => cell_heap h.heap _, fun _ => Nat.le_refl _, fun _ cs _ hb => ⟨cs, by rw [h.heap]; exact hb, rfl⟩, h.os, h.out⟩

theorem look_heap {w w' : World} (h : w'.heap = w.heap) (b : Nat) : look w' b = look w b := by
  funext j; exact cell_heap h _

theorem Good.drawn {gl : Nat → AV} {N : Nat} {g : Gh} {w w' : World} {E : Nat → AV} {o : Objs} {n : Nat} {a : Act} (h : Good gl N g w E o n a) (hd : Drawn w w') : Good gl N g w' E o n a where
  objs := fun k x hx => by
    have := h.objs k x hx
    cases x with
    | box v =>
      obtain ⟨b, cs, ty, h1, h2, h3, h4, h5⟩ := this
      exact ⟨b, cs, ty, h1, h2, by rw [hd.heap]; exact h3, h4, by rw [look_heap hd.heap]; exact (R_ev (hd.ev g) v).s _ _ _ _ (fun _ _ => rfl) h5⟩
    | room m e ty =>
      obtain ⟨ob, h1, h2, h3⟩ := this
      refine ⟨ob, h1, h2, fun b hb => ?_⟩
      rw [hd.heap]
      exact h3 b hb
  inj := h.inj
  mlt := h.mlt
  rlt := h.rlt
  env := fun t => (R_ev (hd.ev g) _).v _ (h.env t)
  sz := h.sz
  def_ := h.def_
  gz := fun b hb => h.gz b (by rw [hd.heap] at hb; exact hb)
  gl := fun i => (R_ev (hd.ev g) _).v _ (h.gl i)

/-- A value goes into a slot; the rest reads as it did. -/
theorem getD_set (xs : Array Value) (d t : Nat) (v : Value) (hd : d < xs.size) : (xs.setIfInBounds d v).getD t undef = if d = t then v else xs.getD t undef := by
  simp only [Array.getD_eq_getD_getElem?, Array.getElem?_setIfInBounds]
  by_cases h : d = t
  · subst h; simp [hd]
  · simp [h]

def putF (E : Nat → AV) (d : Nat) (v : AV) : Nat → AV := fun t => if d = t then v else E t

theorem Good.put {gl : Nat → AV} {N : Nat} {g : Gh} {w : World} {E : Nat → AV} {o : Objs} {n : Nat} {a : Act} (h : Good gl N g w E o n a) {d : Nat} (hd : d < N) {v : AV} {u : Value}
    (hv : (R g w v).v u) : Good gl N g w (putF E d v) o n (a.put (some d) u) where
  objs := h.objs
  inj := h.inj
  mlt := h.mlt
  rlt := h.rlt
  env := fun t => by
    have hd' : d < a.tmps.size := by rw [h.sz]; exact hd
    simp only [Act.put, getD_set _ _ _ _ hd', putF]
    by_cases e : d = t
    · simp [e, hv]
    · simp only [e, if_false]; exact h.env t
  sz := by simp [Act.put, h.sz]
  def_ := h.def_
  gz := h.gz
  gl := h.gl

end Ar
