/- The operations that leave memory alone, as the walk reads them, and that the machine does what the walk says. No condition. -/
import Derived.Test.YtjkmmcbfcglkdaaArC
import Derived.Laws.Sem
import Derived.Laws.Cells
import Derived.Laws.CopyRow
namespace Ar
open Go
set_option linter.unusedVariables false
set_option autoImplicit false

inductive X where
  | t (i : Nat)
  | c (v : Value)
  | g (i : Nat)
  | f (i : Nat)
  | no

/-- The shape of a type whose values are compared cell by cell. -/
inductive Sh where
  | int
  | bool
  | str
  | st (l : Sh)
  | cons (a b : Sh)
  | nil
  | arr (n e : Nat) (s : Sh)

inductive IOp where
  | mv (x : X)
  | pick (c a b : X)
  | alloc (z : AV)
  | box (x : X)
  | ld (ag : Bool) (n : Nat) (x : X)
  | sto (n : Nat) (x v : X)
  | fa (k off : Nat) (x : X)
  | fld (ag : Bool) (n k off : Nat) (x : X)
  | ixa (len e : Nat) (x i : X)
  | ixs (e : Nat) (x i : X)
  | ix (ag : Bool) (len e : Nat) (x i : X)
  | ixb (x i : X)
  | bin (op : BinOp) (x y : X)
  | sop (op : BinOp) (x y : X)
  | eqv (ne : Bool) (x y : X)
  | un (op : UnOp) (x : X)
  | conv (k : IntKind) (x : X)
  | len (x : X)
  | lens (x : X)
  | ext (i : Nat) (x : X)
  | build (z : AV) (l : List (Nat × Nat × Nat × X))
  | nck (x : X)
  | eqs (ne : Bool) (s : Sh) (x y : X)
  | slc (e : Nat) (x lo hi : X)
  | sls (x lo hi : X)
  | mm (mx : Bool) (x y : X)
  | mm3 (mx : Bool) (x y z : X)
  | dead
  | xcall (f : Nat) (l : List X)
  | bsl (e : Nat) (ty : TypeId) (z : AV) (l : List (Nat × Nat × Nat × X))
  | app (e by_ : Nat) (ty : TypeId) (x y : X)
  | call (f : Nat) (l : List X)

def cellVb : Value → Bool
  | .agg _ => false
  | .tuple _ => false
  | _ => true

theorem cellVb_iff {v : Value} : cellVb v = true ↔ cellV v := by cases v <;> simp [cellVb, cellV]

def cx : Operand → X
  | .tmp t => .t t
  | .const v => match cellVb v with | true => .c v | false => .no
  | .global g => .g g
  | .func f => .f f

def evF (gl : Nat → AV) (E : Nat → AV) : X → AV
  | .t i => E i
  | .c v => .val v
  | .g i => gl i
  | .f i => .clo (.func i) .nil .nil
  | .no => .any

theorem ev_ok {gl : Nat → AV} {N : Nat} {g : Gh} {w : World} {E : Nat → AV} {o : Objs} {n : Nat} {a : Act} (h : Good gl N g w E o n a) (x : Operand) :
    (R g w (evF gl E (cx x))).v (a.eval x) := by
  cases x with
  | tmp t => exact h.env t
  | const v =>
    cases hv : cellVb v with
    | true => simp only [cx, hv, evF, Act.eval]; exact ⟨rfl, cellVb_iff.1 hv⟩
    | false => simp only [cx, hv, evF, Act.eval]; trivial
  | global i => exact h.gl i
  | func i => exact ⟨⟨#[], #[], rfl, rfl, rfl⟩, trivial⟩

/-- Which abstract values are one cell, which are a struct or an array. -/
def isAg : AV → Bool
  | .st _ => true
  | .arr _ _ _ => true
  | _ => false

def isCell : AV → Bool
  | .val _ | .ptr _ _ | .elt _ _ _ _ _ | .lst _ _ _ _ | .sli _ _ _ _ | .clo _ _ _ | .mp _ | .ifc _ _ => true
  | _ => false

def fits (ag : Bool) (n : Nat) (a : AV) : Bool := match ag with
  | true => isAg a && Nat.beq (size a) n
  | false => isCell a

def chk (b : Bool) (A : Prop) : Prop := match b with | true => A | false => False

theorem chk_iff {b : Bool} {A : Prop} : chk b A ↔ b = true ∧ A := by cases b <;> simp [chk]

section vals
variable {g : Gh} {w : World}

theorem cell_one {a : AV} (h : isCell a = true) : ∃ p, R g w a = one p := by
  cases a <;> simp [isCell] at h <;> exact ⟨_, rfl⟩

theorem cell_size {a : AV} (h : isCell a = true) : size a = 1 := by
  cases a <;> simp [isCell] at h <;> rfl

theorem seg_cell {a : AV} (h : isCell a = true) {lk : Nat → Option Value} {off : Nat} (hs : (R g w a).s lk off) : ∃ u, lk off = some u ∧ (R g w a).v u ∧ cellV u := by
  obtain ⟨p, hp⟩ := cell_one (g := g) (w := w) h
  rw [hp] at hs ⊢
  obtain ⟨u, h1, h2, h3⟩ := hs
  exact ⟨u, h1, ⟨h2, h3⟩, h3⟩

theorem cell_seg {a : AV} (h : isCell a = true) {u : Value} (hv : (R g w a).v u) {lk : Nat → Option Value} {off : Nat} (hl : lk off = some u) : (R g w a).s lk off ∧ cellV u := by
  obtain ⟨p, hp⟩ := cell_one (g := g) (w := w) h
  rw [hp] at hv ⊢
  exact ⟨⟨u, hl, hv.1, hv.2⟩, hv.2⟩

theorem seg_ag {a : AV} (h : isAg a = true) {lk : Nat → Option Value} {off : Nat} (hs : (R g w a).s lk off) {cs : Array Value} (hc : cs.size = size a)
    (hl : ∀ j, j < size a → cs[j]? = lk (off + j)) : (R g w a).v (.agg cs) := by
  cases a <;> simp [isAg] at h
  · exact ⟨cs, rfl, hc, fun i hi => ⟨(hs i hi).1, R_look (fun j hj => by
      have := mul_add_lt hi ((hs i hi).1 ▸ hj)
      have := hl (i * _ + j) this
      simpa [Nat.add_assoc] using this) (hs i hi).2⟩⟩
  · exact ⟨cs, rfl, hc, R_look (fun j hj => by simpa using hl j (by simpa [size] using hj)) (show (R g w _).s lk off from hs)⟩

theorem ag_seg {a : AV} (h : isAg a = true) {u : Value} (hv : (R g w a).v u) : ∃ cs : Array Value, u = .agg cs ∧ cs.size = size a ∧ (R g w a).s (fun j => cs[j]?) 0 := by
  cases a <;> simp [isAg] at h
  · obtain ⟨cs, rfl, hc, hs⟩ := hv
    exact ⟨cs, rfl, hc, hs⟩
  · obtain ⟨cs, rfl, hc, hs⟩ := hv
    exact ⟨cs, rfl, hc, hs⟩

/-- Each of the row's cells is there, and is one cell. -/
theorem seg_cells : ∀ (a : AV) {lk : Nat → Option Value} {off : Nat}, (R g w a).s lk off → ∀ j, j < size a → ∃ u, lk (off + j) = some u ∧ cellV u := by
  intro a
  have key : ∀ {a : AV} {p : Value → Prop}, R g w a = one p → size a = 1 → ∀ {lk : Nat → Option Value} {off : Nat}, (R g w a).s lk off → ∀ j, j < size a → ∃ u, lk (off + j) = some u ∧ cellV u := by
    intro a p hp hs lk off h j hj
    rw [hp] at h
    obtain ⟨u, h1, _, h3⟩ := h
    obtain rfl : j = 0 := by omega
    exact ⟨u, h1, h3⟩
  induction a with
  | val x => exact key rfl rfl
  | any => intro lk off ⟨u, h1, h2⟩ j hj; simp only [size] at hj; obtain rfl : j = 0 := by omega
           exact ⟨u, h1, h2⟩
  | ptr o p => exact key rfl rfl
  | elt n e f i p ih => exact key rfl rfl
  | lst tok n e f ih => exact key rfl rfl
  | sli o lo n e => exact key rfl rfl
  | arr n e f ih =>
    intro lk off h j hj
    simp only [size] at hj
    have he : 0 < e := Nat.pos_of_ne_zero (by rintro rfl; simp at hj)
    have hi : j / e < n := Nat.div_lt_of_lt_mul (by rwa [Nat.mul_comm] at hj)
    obtain ⟨hs, hc⟩ := h (j / e) hi
    obtain ⟨u, h1, h2⟩ := ih (j / e) hc (j % e) (by rw [hs]; exact Nat.mod_lt _ he)
    refine ⟨u, ?_, h2⟩
    rw [← h1]
    congr 1
    have := Nat.div_add_mod j e
    rw [Nat.mul_comm] at this
    omega
  | st l ih => intro lk off h j hj; exact ih h j (by simpa [size] using hj)
  | cons a b iha ihb =>
    intro lk off h j hj
    simp only [size] at hj
    by_cases hlt : j < size a
    · exact iha h.1 j hlt
    · obtain ⟨u, h1, h2⟩ := ihb h.2 (j - size a) (by omega)
      exact ⟨u, by rw [← h1]; congr 1; omega, h2⟩
  | nil => intro lk off h j hj; simp only [size] at hj; omega
  | tup l ih => intro lk off h; exact h.elim
  | clo fn a b => exact key rfl rfl
  | mp o => exact key rfl rfl
  | ifc t a => exact key rfl rfl

end vals

/-- A row of cells in the world, read whole or one by one. -/
theorem addr_add (b off k : Nat) : (⟨b, off, none⟩ : Addr).add k = ⟨b, off + k, none⟩ := by
  unfold Addr.add; split <;> simp_all

theorem run_loadCells_seg (P : Program) (w : World) (b off n : Nat) (h : ∀ j, j < n → ∃ u, look w b (off + j) = some u) :
    ∃ cs : Array Value, cs.size = n ∧ (∀ j, j < n → cs[j]? = look w b (off + j)) ∧ (loadCells ⟨b, off, none⟩ n).run P w = .ok cs w := by
  refine ⟨_, ?_, ?_, run_loadCells w ⟨b, off, none⟩ n (fun j => (look w b (off + j)).getD undef) (fun j hj => ?_)⟩
  · simp
  · intro j hj
    obtain ⟨u, hu⟩ := h j hj
    simp [hj, hu]
  · obtain ⟨u, hu⟩ := h j hj
    rw [addr_add]
    have : w.cell? ⟨b, off + j, none⟩ = some u := hu
    rw [this, hu]; rfl

def aggD : TypeDesc → Bool
  | .struct _ => true
  | .array _ _ => true
  | _ => false

theorem run_isAgg {P : Program} {t : TypeId} {d : TypeDesc} (h : P.underlying t = some d) (w : World) :
    (isAgg t).run P w = .ok (aggD d) w := by
  unfold isAgg underlying
  simp only [Sem.run_bind, run_program, Result.andThen_ok, h, Sem.run_pure]
  cases d <;> rfl

theorem run_sizeOf' {P : Program} {t : TypeId} {i : TypeInfo} (h : P.info? t = some i) (w : World) : (Go.sizeOf t).run P w = .ok i.size w := by
  unfold Go.sizeOf typeInfo
  simp only [Sem.run_bind, run_program, Result.andThen_ok, h, Sem.run_pure]

theorem run_underlying' {P : Program} {t : TypeId} {d : TypeDesc} (h : P.underlying t = some d) (w : World) : (underlying t).run P w = .ok d w := by
  unfold underlying
  simp only [Sem.run_bind, run_program, Result.andThen_ok, h, Sem.run_pure]

/-- Where a variable of a type stands and reads as an abstract value, a load gives that value. -/
theorem run_loadVar_seg {P : Program} {g : Gh} {w : World} {t : TypeId} {d : TypeDesc} {i : TypeInfo} (hu : P.underlying t = some d) (hi : P.info? t = some i)
    {b off : Nat} {a : AV} (hf : fits (aggD d) i.size a = true) (hs : (R g w a).s (look w b) off) :
    ∃ cv, (loadVar t ⟨b, off, none⟩).run P w = .ok cv w ∧ (R g w a).v cv := by
  unfold loadVar
  simp only [Sem.run_bind, run_isAgg hu, Result.andThen_ok]
  cases hd : aggD d with
  | true =>
    rw [hd] at hf
    simp only [fits, Bool.and_eq_true] at hf
    obtain ⟨cs, h1, h2, h3⟩ := run_loadCells_seg P w b off (size a) (fun j hj => by obtain ⟨u, hu, _⟩ := seg_cells a hs j hj; exact ⟨u, hu⟩)
    refine ⟨.agg cs, ?_, seg_ag hf.1 hs h1 h2⟩
    simp only [if_true, Sem.run_bind, run_sizeOf' hi, Result.andThen_ok, ← beq_eq hf.2, h3, Sem.run_pure]
  | false =>
    rw [hd] at hf
    simp only [fits] at hf
    obtain ⟨u, h1, h2, _⟩ := seg_cell hf hs
    refine ⟨u, ?_, h2⟩
    have h1' : w.cell? ⟨b, off, none⟩ = some u := h1
    simp only [Bool.false_eq_true, if_false, run_load, h1']

end Ar
