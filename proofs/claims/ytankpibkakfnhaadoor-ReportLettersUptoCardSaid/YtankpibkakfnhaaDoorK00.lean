/- Abstract values for the walk of a Go function, and what it means that a concrete value, a row of cells or a list of values reads as one. No condition. -/
import Derived.Calls
import Derived.Recover
import Derived.Laws.BytesArg
import Derived.Laws.Sem
import Derived.Laws.Cells
import Derived.Laws.CopyRow
set_option linter.all false
namespace Ar
open Go
set_option linter.unusedVariables false
set_option autoImplicit false

inductive PE where
  | fld (k off : Nat)
  | idx (j n esz : Nat)

def PE.off : PE → Nat
  | .fld _ o => o
  | .idx j _ e => j * e

def PE.ok : PE → Prop
  | .fld _ _ => True
  | .idx j n _ => j < n

def okPath : List PE → Prop
  | [] => True
  | p :: r => p.ok ∧ okPath r

def offP : List PE → Nat
  | [] => 0
  | p :: r => offP r + p.off

inductive AV where
  | val (x : Value)
  | any
  | ptr (o : Nat) (p : List PE)
  | elt (n esz : Nat) (f : Nat → AV) (i : Nat) (p : List PE)
  | lst (tok : Option Nat) (n esz : Nat) (f : Nat → AV)
  | sli (o lo n esz : Nat) (ty : TypeId)
  | arr (n esz : Nat) (f : Nat → AV)
  | st (l : AV)
  | cons (a b : AV)
  | nil
  | tup (l : AV)
  | clo (fn : Fn) (a b : AV)
  | mp (o : Nat)
  | ifc (t : TypeId) (a : AV)

def size : AV → Nat
  | .arr n e _ => n * e
  | .st l => size l
  | .cons a b => size a + size b
  | .nil => 0
  | .tup _ => 1
  | _ => 1

/-- The names' meaning: a box's block, a growing row's block and length, and how many cells of a block are written for good. -/
structure Gh where
  m : Nat → Option (Nat × Nat)
  r : Nat → Option (Option Nat × Nat)
  G : Nat → Nat

structure RT where
  v : Value → Prop
  s : (Nat → Option Value) → Nat → Prop
  l : List Value → Prop

/-- A number within its kind. -/
def okI (k : IntKind) (n : Int) : Prop := k.min ≤ n ∧ n ≤ k.max

theorem okI_wrap (k : IntKind) (n : Int) : okI k (k.wrap n) := by
  cases k <;> simp [okI, IntKind.min, IntKind.max, IntKind.wrap, IntKind.signed, IntKind.bits] <;> (try split) <;> omega

instance (k : IntKind) (n : Int) : Decidable (okI k n) := by unfold okI; infer_instance

def cellV : Value → Prop
  | .agg _ => False
  | .tuple _ => False
  | .int k n => okI k n
  | .string s => s.size ≤ 9223372036854775807
  | .slice _ n _ => n ≤ 9223372036854775807
  | _ => True

def one (p : Value → Prop) : RT := ⟨fun u => p u ∧ cellV u, fun look off => ∃ u, look off = some u ∧ p u ∧ cellV u, fun _ => False⟩

/-- No cell of the row is shared with a string. -/
def Unf (cs : Array Value) (mk : Nat × Nat) : Prop := mk = (0, 0) ∨ cs.size ≤ mk.1

/-- A block that is a row of cells of that type, none of them shared with a string. -/
def Cel (w : World) (b : Nat) (cs : Array Value) (ty : TypeId) : Prop := ∃ mk, w.heap[b]? = some (.cells cs ty mk) ∧ Unf cs mk

theorem Cel.mk0 {w : World} {b : Nat} {cs : Array Value} {ty : TypeId} (h : w.heap[b]? = some (.cells cs ty (0, 0))) : Cel w b cs ty := ⟨_, h, .inl rfl⟩
theorem Cel.of_heap {w w' : World} {b : Nat} {cs : Array Value} {ty : TypeId} (e : w'.heap[b]? = w.heap[b]?) (h : Cel w b cs ty) : Cel w' b cs ty := by
  obtain ⟨mk, h1, h2⟩ := h
  exact ⟨mk, e.trans h1, h2⟩
theorem cel_heap {w w' : World} (h : w'.heap = w.heap) (b : Nat) (cs : Array Value) (ty : TypeId) : Cel w' b cs ty = Cel w b cs ty := by unfold Cel; rw [h]
theorem Cel.inj {w : World} {b : Nat} {cs cs' : Array Value} {ty ty' : TypeId} (h : Cel w b cs ty) (h' : Cel w b cs' ty') : cs = cs' ∧ ty = ty' := by
  obtain ⟨mk, h1, _⟩ := h
  obtain ⟨mk', h2, _⟩ := h'
  rw [h1] at h2
  injection h2 with h2
  injection h2 with h3 h4 h5
  exact ⟨h3, h4⟩

def look (w : World) (b : Nat) : Nat → Option Value := fun j => w.cell? ⟨b, j, none⟩

def Row (w : World) (G : Nat → Nat) (n e : Nat) (sz : Nat → Nat) (S : Nat → (Nat → Option Value) → Nat → Prop) (a : Addr) : Prop :=
  (0 < n → a.spot = none) ∧ (0 < n * e → a.off + n * e ≤ G a.block) ∧ ∀ i, i < n → sz i = e ∧ S i (look w a.block) (a.off + i * e)

def tokOk (g : Gh) (w : World) (tok : Option Nat) (n e : Nat) (oa : Option Addr) (c : Nat) : Prop :=
  match tok with
  | none => True
  | some t => ∃ ob N, g.r t = some (ob, N) ∧ n ≤ N ∧ (n = N → oa = ob.map (fun b => ⟨b, 0, none⟩) ∧
      ∀ b, ob = some b → ∃ (cs : Array Value) (ty : TypeId), Cel w (b) cs ty ∧ c * e ≤ cs.size ∧ c ≤ 9223372036854775807)

def ORow (w : World) (G : Nat → Nat) (n e : Nat) (sz : Nat → Nat) (S : Nat → (Nat → Option Value) → Nat → Prop) (c : Nat) (oa : Option Addr) : Prop :=
  match oa with
  | none => n = 0 ∧ c = 0
  | some a => Row w G n e sz S a

def R (g : Gh) (w : World) : AV → RT
  | .val x => one (fun u => u = x)
  | .any => ⟨fun _ => True, fun look off => ∃ u, look off = some u ∧ cellV u, fun _ => False⟩
  | .ptr o p => one (fun u => ∃ b, okPath p ∧ g.m o = some b ∧ u = .pointer (some ⟨b.1, b.2 + offP p, none⟩))
  | .elt n e f i p => one (fun u => okPath p ∧ i < n ∧ ∃ a, Row w g.G n e (fun i => size (f i)) (fun i => (R g w (f i)).s) a ∧
      u = .pointer (some ⟨a.block, a.off + (i * e + offP p), none⟩))
  | .lst tok n e f => one (fun u => ∃ oa c, u = .slice oa n c ∧ n ≤ c ∧ tokOk g w tok n e oa c ∧
      ORow w g.G n e (fun i => size (f i)) (fun i => (R g w (f i)).s) c oa)
  | .sli o lo n e ty => one (fun u => (n = 0 ∧ u = .slice none 0 0) ∨ ∃ b c, g.m o = some b ∧ n ≤ c ∧ u = .slice (some ⟨b.1, b.2 + lo * e, none⟩) n c ∧ c ≤ 9223372036854775807 ∧
      ∃ (cs : Array Value) (ty' : TypeId), Cel w (b.1) cs ty' ∧ b.2 + (lo + c) * e ≤ cs.size)
  | .arr n e f => ⟨fun u => ∃ cs : Array Value, u = .agg cs ∧ cs.size = n * e ∧ ∀ i, i < n → size (f i) = e ∧ (R g w (f i)).s (fun j => cs[j]?) (0 + i * e),
      fun look off => ∀ i, i < n → size (f i) = e ∧ (R g w (f i)).s look (off + i * e), fun _ => False⟩
  | .st l => ⟨fun u => ∃ cs : Array Value, u = .agg cs ∧ cs.size = size l ∧ (R g w l).s (fun j => cs[j]?) 0, (R g w l).s, fun _ => False⟩
  | .cons a b => ⟨fun _ => False, fun look off => (R g w a).s look off ∧ (R g w b).s look (off + size a),
      fun vs => match vs with | [] => False | u :: r => (R g w a).v u ∧ (R g w b).l r⟩
  | .nil => ⟨fun _ => False, fun _ _ => True, fun vs => vs = []⟩
  | .tup l => ⟨fun u => ∃ vs, u = .tuple vs ∧ (R g w l).l vs.toList, fun _ _ => False, fun _ => False⟩
  | .clo fn a b => one (fun u => ∃ xs ys, u = .func fn xs ys ∧ (R g w a).l xs.toList ∧ (R g w b).l ys.toList)
  | .mp o => one (fun u => ∃ b, g.m o = some b ∧ u = .map (some b.1))
  | .ifc t a => one (fun u => ∃ x, u = .iface t x ∧ (R g w a).v x)

/-- What keeps every reading. -/
structure Ev (g : Gh) (w : World) (g' : Gh) (w' : World) : Prop where
  m : ∀ o b, g.m o = some b → g'.m o = some b
  r : ∀ t ob N, g.r t = some (ob, N) → ∃ ob' N', g'.r t = some (ob', N') ∧ N ≤ N' ∧ (N = N' → ob = ob')
  pub : ∀ b off, off < g.G b → w'.cell? ⟨b, off, none⟩ = w.cell? ⟨b, off, none⟩
  le : ∀ b, g.G b ≤ g'.G b
  cap : ∀ (b : Nat) (cs : Array Value) (ty : TypeId), Cel w (b) cs ty → ∃ cs' : Array Value, Cel w' (b) cs' ty ∧ cs'.size = cs.size

theorem Ev.refl (g : Gh) (w : World) : Ev g w g w :=
  ⟨fun _ _ h => h, fun _ ob N h => ⟨ob, N, h, Nat.le_refl _, fun _ => rfl⟩, fun _ _ _ => rfl, fun _ => Nat.le_refl _, fun _ cs _ h => ⟨cs, h, rfl⟩⟩

theorem Ev.trans {g g1 g2 : Gh} {w w1 w2 : World} (h : Ev g w g1 w1) (h' : Ev g1 w1 g2 w2) : Ev g w g2 w2 where
  m := fun o b hb => h'.m o b (h.m o b hb)
  r := fun t ob N ht => by
    obtain ⟨ob1, N1, h1, hl1, he1⟩ := h.r t ob N ht
    obtain ⟨ob2, N2, h2, hl2, he2⟩ := h'.r t ob1 N1 h1
    refine ⟨ob2, N2, h2, Nat.le_trans hl1 hl2, fun e => ?_⟩
    have e1 : N = N1 := by omega
    have e2 : N1 = N2 := by omega
    rw [he1 e1, he2 e2]
  pub := fun b off ho => (h'.pub b off (Nat.lt_of_lt_of_le ho (h.le b))).trans (h.pub b off ho)
  le := fun b => Nat.le_trans (h.le b) (h'.le b)
  cap := fun b cs ty hb => by
    obtain ⟨cs1, h1, e1⟩ := h.cap b cs ty hb
    obtain ⟨cs2, h2, e2⟩ := h'.cap b cs1 ty h1
    exact ⟨cs2, h2, e2.trans e1⟩

theorem tokOk_ev {g g' : Gh} {w w' : World} (h : Ev g w g' w') {tok : Option Nat} {n e : Nat} {oa : Option Addr} {c : Nat}
    (ht : tokOk g w tok n e oa c) : tokOk g' w' tok n e oa c := by
  cases tok with
  | none => trivial
  | some t =>
    obtain ⟨ob, N, hr, hn, hc⟩ := ht
    obtain ⟨ob', N', hr', hN, he⟩ := h.r t ob N hr
    refine ⟨ob', N', hr', Nat.le_trans hn hN, fun e' => ?_⟩
    have e1 : n = N := by omega
    have e2 : N = N' := by omega
    obtain ⟨h1, h2⟩ := hc e1
    obtain rfl := he e2
    refine ⟨h1, fun b hb => ?_⟩
    obtain ⟨cs, ty, hcs, hle, hm⟩ := h2 b hb
    obtain ⟨cs', hcs', hs⟩ := h.cap b cs ty hcs
    exact ⟨cs', ty, hcs', by rw [hs]; exact hle, hm⟩

structure Keeps (g : Gh) (w : World) (g' : Gh) (w' : World) (a : AV) : Prop where
  v : ∀ u, (R g w a).v u → (R g' w' a).v u
  s : ∀ lk off lk' off', (∀ j, j < size a → lk' (off' + j) = lk (off + j)) → (R g w a).s lk off → (R g' w' a).s lk' off'
  l : ∀ vs, (R g w a).l vs → (R g' w' a).l vs

theorem keeps_one {g g' : Gh} {w w' : World} {a : AV} {p p' : Value → Prop} (e : R g w a = one p) (e' : R g' w' a = one p') (hs : size a = 1)
    (h : ∀ u, p u → p' u) : Keeps g w g' w' a where
  v := fun u hu => by rw [e] at hu; rw [e']; exact ⟨h u hu.1, hu.2⟩
  s := fun lk off lk' off' hl hu => by
    rw [e] at hu; rw [e']
    obtain ⟨u, h1, h2, h3⟩ := hu
    have := hl 0 (by omega)
    simp only [Nat.add_zero] at this
    exact ⟨u, this.trans h1, h u h2, h3⟩
  l := fun vs hu => by rw [e] at hu; exact hu.elim

theorem mul_add_lt {i n e j : Nat} (hi : i < n) (hj : j < e) : i * e + j < n * e := by
  have : (i + 1) * e ≤ n * e := Nat.mul_le_mul_right e hi
  rw [Nat.succ_mul] at this
  omega

theorem row_ev {g g' : Gh} {w w' : World} (h : Ev g w g' w') {n e : Nat} {f : Nat → AV} {a : Addr} (ih : ∀ i, Keeps g w g' w' (f i))
    (hr : Row w g.G n e (fun i => size (f i)) (fun i => (R g w (f i)).s) a) : Row w' g'.G n e (fun i => size (f i)) (fun i => (R g' w' (f i)).s) a := by
  obtain ⟨h1, h2, h3⟩ := hr
  refine ⟨h1, fun hp => Nat.le_trans (h2 hp) (h.le _), fun i hi => ?_⟩
  obtain ⟨hs, hc⟩ := h3 i hi
  refine ⟨hs, (ih i).s _ _ _ _ (fun j hj => ?_) hc⟩
  have hs' : size (f i) = e := hs
  have := mul_add_lt hi (hs' ▸ hj)
  exact h.pub _ _ (by have := h2 (by omega); omega)

theorem R_ev {g g' : Gh} {w w' : World} (h : Ev g w g' w') : ∀ a, Keeps g w g' w' a := by
  intro a
  induction a with
  | val x => exact keeps_one rfl rfl rfl (fun u hu => hu)
  | any => exact ⟨fun _ _ => trivial, fun lk off lk' off' hl ⟨u, h1, h2⟩ => ⟨u, by have := hl 0 (by simp [size]); simp only [Nat.add_zero] at this; exact this.trans h1, h2⟩, fun _ hf => hf.elim⟩
  | ptr o p => exact keeps_one rfl rfl rfl (fun u ⟨b, hp, hb, hu⟩ => ⟨b, hp, h.m o b hb, hu⟩)
  | elt n e f i p ih => exact keeps_one rfl rfl rfl (fun u ⟨hp, hi, a, hr, hu⟩ => ⟨hp, hi, a, row_ev h ih hr, hu⟩)
  | lst tok n e f ih =>
    refine keeps_one rfl rfl rfl ?_
    rintro u ⟨oa, c, hu, hc, ht, hm⟩
    refine ⟨oa, c, hu, hc, tokOk_ev h ht, ?_⟩
    cases oa with
    | none => exact hm
    | some a => exact row_ev h ih hm
  | sli o lo n e ty =>
    refine keeps_one rfl rfl rfl ?_
    rintro u (hu | ⟨b, c, hb, hc, hu, hm, cs, ty', h1, h2⟩)
    · exact .inl hu
    · obtain ⟨cs', h3, h4⟩ := h.cap b.1 cs ty' h1
      exact .inr ⟨b, c, h.m o b hb, hc, hu, hm, cs', ty', h3, by rw [h4]; exact h2⟩
  | arr n e f ih =>
    refine ⟨fun u ⟨cs, hu, hs, hc⟩ => ⟨cs, hu, hs, fun i hi => ⟨(hc i hi).1, (ih i).s _ _ _ _ (fun _ _ => rfl) (hc i hi).2⟩⟩, fun lk off lk' off' hl hc i hi => ⟨(hc i hi).1, (ih i).s _ _ _ _ (fun j hj => ?_) (hc i hi).2⟩, fun _ hf => hf.elim⟩
    have := mul_add_lt hi ((hc i hi).1 ▸ hj)
    have h2 := hl (i * e + j) (by simpa [size] using this)
    simpa [Nat.add_assoc] using h2
  | st l ih =>
    exact ⟨fun u ⟨cs, hu, hs, hc⟩ => ⟨cs, hu, hs, ih.s _ _ _ _ (fun _ _ => rfl) hc⟩, fun lk off lk' off' hl hc => ih.s _ _ _ _ (fun j hj => hl j (by simpa [size] using hj)) hc, fun _ hf => hf.elim⟩
  | cons a b iha ihb =>
    refine ⟨fun _ hf => hf.elim, fun lk off lk' off' hl ⟨h1, h2⟩ => ⟨iha.s _ _ _ _ (fun j hj => hl j (by simp only [size]; omega)) h1, ihb.s _ _ _ _ (fun j hj => ?_) h2⟩, fun vs => ?_⟩
    · have := hl (size a + j) (by simp only [size]; omega)
      simpa [Nat.add_assoc] using this
    · cases vs with
      | nil => exact fun hf => hf.elim
      | cons u r => exact fun ⟨h1, h2⟩ => ⟨iha.v u h1, ihb.l r h2⟩
  | nil => exact ⟨fun _ hf => hf.elim, fun _ _ _ _ _ _ => trivial, fun _ h => h⟩
  | tup l ih => exact ⟨fun u ⟨vs, hu, hc⟩ => ⟨vs, hu, ih.l _ hc⟩, fun _ _ _ _ _ hf => hf.elim, fun _ hf => hf.elim⟩
  | clo fn a b iha ihb => exact keeps_one rfl rfl rfl (fun u ⟨xs, ys, hu, h1, h2⟩ => ⟨xs, ys, hu, iha.l _ h1, ihb.l _ h2⟩)
  | mp o => exact keeps_one rfl rfl rfl (fun u ⟨b, hb, hu⟩ => ⟨b, h.m o b hb, hu⟩)
  | ifc t a ih => exact keeps_one rfl rfl rfl (fun u ⟨x, hu, hx⟩ => ⟨x, hu, ih.v _ hx⟩)

theorem R_look {g : Gh} {w : World} {a : AV} {lk lk' : Nat → Option Value} {off off' : Nat} (hl : ∀ j, j < size a → lk' (off' + j) = lk (off + j))
    (h : (R g w a).s lk off) : (R g w a).s lk' off' := (R_ev (Ev.refl g w) a).s _ _ _ _ hl h

end Ar
namespace Ar
open Go
set_option linter.unusedVariables false
set_option autoImplicit false

def nth : Nat → AV → AV
  | 0, .cons a _ => a
  | k + 1, .cons _ b => nth k b
  | _, _ => .any

def hasN : Nat → AV → Bool
  | 0, .cons _ _ => true
  | k + 1, .cons _ b => hasN k b
  | _, _ => false

def offN : Nat → AV → Nat
  | k + 1, .cons a b => size a + offN k b
  | _, _ => 0

/-- The cells of a value are taken off a number. -/
def subS : AV → Nat → (Nat → Bool) → Bool
  | .arr n e _, off, K => match Nat.ble (n * e) off with
    | true => K (off - n * e)
    | false => false
  | .st l, off, K => subS l off K
  | .cons a b, off, K => subS a off fun m => subS b m K
  | .nil, off, K => K off
  | _, off, K => match off with
    | m + 1 => K m
    | 0 => false

theorem subS_spec : ∀ (a : AV) (off : Nat) (K : Nat → Bool), subS a off K = true → ∃ m, off = size a + m ∧ K m = true := by
  have one : ∀ (off : Nat) (K : Nat → Bool), (match off with | m + 1 => K m | 0 => false) = true → ∃ m, off = 1 + m ∧ K m = true := by
    intro off K h
    cases off with
    | zero => cases h
    | succ m => exact ⟨m, by omega, h⟩
  intro a
  induction a with
  | arr n e f ih =>
    intro off K h
    simp only [subS] at h
    split at h
    · rename_i hb
      exact ⟨_, by have := Nat.le_of_ble_eq_true hb; simp only [size]; omega, h⟩
    · cases h
  | st l ih => intro off K h; exact ih off K h
  | cons a b iha ihb =>
    intro off K h
    obtain ⟨m, h1, h2⟩ := iha off _ h
    obtain ⟨q, h3, h4⟩ := ihb m K h2
    exact ⟨q, by simp only [size]; omega, h4⟩
  | nil => intro off K h; exact ⟨off, by simp [size], h⟩
  | _ => intro off K h; exact one off K h

def sizeIs (a : AV) (n : Nat) : Bool := subS a n fun m => Nat.beq m 0

theorem sizeIs_eq {a : AV} {n : Nat} (h : sizeIs a n = true) : size a = n := by
  obtain ⟨m, h1, h2⟩ := subS_spec a n _ h
  have := Nat.eq_of_beq_eq_true h2
  omega

theorem subS_mk : ∀ (a : AV) (m : Nat) (K : Nat → Bool), K m = true → subS a (size a + m) K = true := by
  have one : ∀ (m : Nat) (K : Nat → Bool), K m = true → (match 1 + m with | m + 1 => K m | 0 => false) = true := by
    intro m K h
    rw [Nat.add_comm]; exact h
  intro a
  induction a with
  | arr n e f ih =>
    intro m K h
    simp only [subS, size]
    have : Nat.ble (n * e) (n * e + m) = true := Nat.ble_eq_true_of_le (Nat.le_add_right ..)
    rw [this]
    simpa using h
  | st l ih => intro m K h; exact ih m K h
  | cons a b iha ihb =>
    intro m K h
    simp only [subS, size, Nat.add_assoc]
    exact iha _ _ (ihb m K h)
  | nil => intro m K h; simpa [subS, size] using h
  | _ => intro m K h; exact one m K h

theorem sizeIs_self (a : AV) : sizeIs a (size a) = true := subS_mk a 0 _ rfl

def offIs : Nat → Nat → AV → Bool
  | 0, off, _ => Nat.beq off 0
  | k + 1, off, .cons a b => subS a off fun m => offIs k m b
  | _ + 1, _, _ => false

theorem offIs_eq : ∀ {k off : Nat} {l : AV}, offIs k off l = true → offN k l = off := by
  intro k
  induction k with
  | zero =>
    intro off l h
    have := Nat.eq_of_beq_eq_true (show Nat.beq off 0 = true by cases l <;> exact h)
    subst this
    cases l <;> rfl
  | succ k ih =>
    intro off l h
    cases l <;> simp only [offIs] at h <;> try cases h
    obtain ⟨m, h1, h2⟩ := subS_spec _ _ _ h
    have := ih h2
    simp only [offN]
    omega

def setNth : Nat → AV → AV → AV
  | 0, v, .cons _ b => .cons v b
  | k + 1, v, .cons a b => .cons a (setNth k v b)
  | _, _, a => a

def compP : PE → AV → AV
  | .fld k _, .st l => nth k l
  | .idx j _ _, .arr _ _ f => f j
  | _, _ => .any

def okP : PE → AV → Bool
  | .fld k o, .st l => hasN k l && offIs k o l
  | .idx _ n e, .arr n' e' _ => Nat.beq n n' && Nat.beq e e'
  | _, _ => false

/-- One of two, the choice pushed down to the numbers where both have the same form. -/
def selA (c : Prop) [Decidable c] : AV → AV → AV
  | .val (.int k x), .val (.int k' y) => match decEq k k' with
    | .isTrue _ => .val (.int k (if c then x else y))
    | .isFalse _ => if c then .val (.int k x) else .val (.int k' y)
  | .val (.bool x), .val (.bool y) => .val (.bool (if c then x else y))
  | .val (.string x), .val (.string y) => .val (.string (if c then x else y))
  | .st l, .st m => .st (selA c l m)
  | .cons a b, .cons d e => .cons (selA c a d) (selA c b e)
  | .nil, .nil => .nil
  | a, b => if c then a else b

theorem selA_val (c : Prop) [Decidable c] (x y : Value) : selA c (.val x) (.val y) = if c then .val x else .val y := by
  unfold selA
  split
  · rename_i k n k' m h1 h2
    injection h1 with h1
    injection h2 with h2
    subst h1; subst h2
    split
    · rename_i e _
      subst e
      by_cases hc : c <;> simp [hc]
    · rfl
  all_goals first | (rename_i h1 h2; injection h1 with h1; injection h2 with h2; subst h1; subst h2; by_cases hc : c <;> simp [hc]) | (rename_i h1 h2; cases h1) | rfl

theorem selA_eq (c : Prop) [Decidable c] (a b : AV) : selA c a b = if c then a else b := by
  induction a generalizing b with
  | val x =>
    cases b with
    | val y => exact selA_val c x y
    | _ => cases x <;> rfl
  | st l ih => cases b with
    | st m => unfold selA; rw [ih]; by_cases hc : c <;> simp [hc]
    | _ => rfl
  | cons p q ih1 ih2 => cases b with
    | cons d e => unfold selA; rw [ih1, ih2]; by_cases hc : c <;> simp [hc]
    | _ => rfl
  | nil => cases b with
    | nil => unfold selA; by_cases hc : c <;> simp [hc]
    | _ => rfl
  | _ => cases b <;> rfl

def setComp : PE → AV → AV → AV
  | .fld k _, v, .st l => .st (setNth k v l)
  | .idx j _ _, v, .arr n e f => .arr n e (fun i => selA (i = j) v (f i))
  | _, _, a => a

def nav : List PE → AV → AV
  | [], a => a
  | p :: r, a => compP p (nav r a)

def okNav : List PE → AV → Bool
  | [], _ => true
  | p :: r, a => okNav r a && okP p (nav r a)

def upd : List PE → AV → AV → AV
  | [], v, _ => v
  | p :: r, v, a => upd r (setComp p v (nav r a)) a

variable {g : Gh} {w : World}

theorem seg_nth : ∀ (k : Nat) (l : AV) {lk : Nat → Option Value} {off : Nat}, hasN k l = true → (R g w l).s lk off →
    (R g w (nth k l)).s lk (off + offN k l) ∧ offN k l + size (nth k l) ≤ size l
  | 0, .cons a b, lk, off, _, h => ⟨by simpa [nth, offN] using h.1, by simp [offN, nth, size]⟩
  | k + 1, .cons a b, lk, off, hk, h => by
    obtain ⟨h1, h2⟩ := seg_nth k b (off := off + size a) (by simpa [hasN] using hk) h.2
    exact ⟨by simpa [nth, offN, Nat.add_assoc] using h1, by simp only [offN, nth, size]; omega⟩
  | 0, .val _, _, _, hk, _ | 0, .any, _, _, hk, _ | 0, .ptr _ _, _, _, hk, _ | 0, .elt .., _, _, hk, _ | 0, .lst .., _, _, hk, _ | 0, .sli .., _, _, hk, _
  | 0, .arr .., _, _, hk, _ | 0, .st _, _, _, hk, _ | 0, .nil, _, _, hk, _ | 0, .tup _, _, _, hk, _ | 0, .clo .., _, _, hk, _ | 0, .mp _, _, _, hk, _ | 0, .ifc .., _, _, hk, _
  | _ + 1, .val _, _, _, hk, _ | _ + 1, .any, _, _, hk, _ | _ + 1, .ptr _ _, _, _, hk, _ | _ + 1, .elt .., _, _, hk, _ | _ + 1, .lst .., _, _, hk, _ | _ + 1, .sli .., _, _, hk, _
  | _ + 1, .arr .., _, _, hk, _ | _ + 1, .st _, _, _, hk, _ | _ + 1, .nil, _, _, hk, _ | _ + 1, .tup _, _, _, hk, _ | _ + 1, .clo .., _, _, hk, _ | _ + 1, .mp _, _, _, hk, _ | _ + 1, .ifc .., _, _, hk, _ => by
    simp [hasN] at hk

theorem seg_setNth : ∀ (k : Nat) (v l : AV) {lk lk' : Nat → Option Value} {off : Nat}, hasN k l = true → (R g w l).s lk off → size v = size (nth k l) →
    (R g w v).s lk' (off + offN k l) → (∀ j, j < size l → ¬ (offN k l ≤ j ∧ j < offN k l + size v) → lk' (off + j) = lk (off + j)) →
    (R g w (setNth k v l)).s lk' off ∧ size (setNth k v l) = size l
  | 0, v, .cons a b, lk, lk', off, _, h, hs, hv, hf => by
    simp only [nth] at hs
    refine ⟨⟨by simpa [offN] using hv, R_look (fun j hj => ?_) (hs ▸ h.2)⟩, by simp [setNth, size, hs]⟩
    have := hf (size v + j) (by simp only [size]; omega) (by simp [offN])
    simpa [Nat.add_assoc, hs] using this
  | k + 1, v, .cons a b, lk, lk', off, hk, h, hs, hv, hf => by
    have hk' : hasN k b = true := by simpa [hasN] using hk
    have hb := (seg_nth k b hk' h.2).2
    simp only [nth] at hs
    obtain ⟨h1, h2⟩ := seg_setNth k v b (off := off + size a) (lk := lk) (lk' := lk') hk' h.2 hs (by simpa [offN, Nat.add_assoc] using hv)
      (fun j hj hn => by
        have := hf (size a + j) (by simp only [size]; omega) (by simp only [offN]; omega)
        simpa [Nat.add_assoc] using this)
    refine ⟨⟨R_look (fun j hj => ?_) h.1, h1⟩, by simp only [setNth, size, h2]⟩
    exact hf j (by simp only [size]; omega) (by simp only [offN]; omega)
  | 0, _, .val _, _, _, _, hk, _, _, _, _ | 0, _, .any, _, _, _, hk, _, _, _, _ | 0, _, .ptr _ _, _, _, _, hk, _, _, _, _ | 0, _, .elt .., _, _, _, hk, _, _, _, _ | 0, _, .lst .., _, _, _, hk, _, _, _, _ | 0, _, .sli .., _, _, _, hk, _, _, _, _
  | 0, _, .arr .., _, _, _, hk, _, _, _, _ | 0, _, .st _, _, _, _, hk, _, _, _, _ | 0, _, .nil, _, _, _, hk, _, _, _, _ | 0, _, .tup _, _, _, _, hk, _, _, _, _ | 0, _, .clo .., _, _, _, hk, _, _, _, _ | 0, _, .mp _, _, _, _, hk, _, _, _, _ | 0, _, .ifc .., _, _, _, hk, _, _, _, _
  | _ + 1, _, .val _, _, _, _, hk, _, _, _, _ | _ + 1, _, .any, _, _, _, hk, _, _, _, _ | _ + 1, _, .ptr _ _, _, _, _, hk, _, _, _, _ | _ + 1, _, .elt .., _, _, _, hk, _, _, _, _ | _ + 1, _, .lst .., _, _, _, hk, _, _, _, _ | _ + 1, _, .sli .., _, _, _, hk, _, _, _, _
  | _ + 1, _, .arr .., _, _, _, hk, _, _, _, _ | _ + 1, _, .st _, _, _, _, hk, _, _, _, _ | _ + 1, _, .nil, _, _, _, hk, _, _, _, _ | _ + 1, _, .tup _, _, _, _, hk, _, _, _, _ | _ + 1, _, .clo .., _, _, _, hk, _, _, _, _ | _ + 1, _, .mp _, _, _, _, hk, _, _, _, _ | _ + 1, _, .ifc .., _, _, _, hk, _, _, _, _ => by
    simp [hasN] at hk

theorem beq_eq {a b : Nat} (h : Nat.beq a b = true) : a = b := Nat.eq_of_beq_eq_true h

theorem seg_comp {p : PE} {a : AV} {lk : Nat → Option Value} {off : Nat} (ho : okP p a = true) (hp : p.ok) (h : (R g w a).s lk off) :
    (R g w (compP p a)).s lk (off + p.off) ∧ p.off + size (compP p a) ≤ size a := by
  cases p with
  | fld k o =>
    cases a <;> simp [okP] at ho
    rename_i l
    obtain ⟨hk, e⟩ := ho
    have e := offIs_eq e
    obtain ⟨h1, h2⟩ := seg_nth k l hk h
    rw [e] at h1 h2
    exact ⟨h1, h2⟩
  | idx j n e =>
    cases a <;> simp [okP] at ho
    obtain ⟨rfl, rfl⟩ := ho
    rename_i f
    obtain ⟨hs, hc⟩ := h j hp
    refine ⟨hc, ?_⟩
    simp only [PE.off, compP, hs, size]
    have : (j + 1) * e ≤ n * e := Nat.mul_le_mul_right e hp
    rwa [Nat.succ_mul] at this

theorem seg_setComp {p : PE} {a v : AV} {lk lk' : Nat → Option Value} {off : Nat} (ho : okP p a = true) (hp : p.ok) (h : (R g w a).s lk off)
    (hs : size v = size (compP p a)) (hv : (R g w v).s lk' (off + p.off)) (hf : ∀ j, j < size a → ¬ (p.off ≤ j ∧ j < p.off + size v) → lk' (off + j) = lk (off + j)) :
    (R g w (setComp p v a)).s lk' off ∧ size (setComp p v a) = size a := by
  cases p with
  | fld k o =>
    cases a <;> simp [okP] at ho
    rename_i l
    obtain ⟨hk, e⟩ := ho
    have e := offIs_eq e
    subst e
    exact seg_setNth k v l hk h hs hv hf
  | idx j n e =>
    cases a <;> simp [okP] at ho
    obtain ⟨rfl, rfl⟩ := ho
    rename_i f
    simp only [compP] at hs
    refine ⟨fun i hi => ?_, rfl⟩
    show size (selA (i = j) v (f i)) = _ ∧ (R g w (selA (i = j) v (f i))).s _ _
    rw [selA_eq]
    obtain ⟨hsj, _⟩ := h j hp
    by_cases e1 : i = j
    · subst e1
      simp only [if_true]
      exact ⟨hs.trans hsj, hv⟩
    · simp only [e1, if_false]
      obtain ⟨hsi, hci⟩ := h i hi
      refine ⟨hsi, R_look (fun q hq => ?_) hci⟩
      have hq' : q < e := hsi ▸ hq
      have := hf (i * e + q) (by simpa [size] using mul_add_lt hi hq') (by
        simp only [PE.off]
        rw [hs, hsj]
        rcases Nat.lt_or_gt_of_ne e1 with hlt | hgt
        · have : (i + 1) * e ≤ j * e := Nat.mul_le_mul_right e hlt
          rw [Nat.succ_mul] at this
          omega
        · have : (j + 1) * e ≤ i * e := Nat.mul_le_mul_right e hgt
          rw [Nat.succ_mul] at this
          omega)
      simpa [Nat.add_assoc] using this

theorem seg_nav : ∀ (ps : List PE) {a : AV} {lk : Nat → Option Value} {off : Nat}, okNav ps a = true → okPath ps → (R g w a).s lk off →
    (R g w (nav ps a)).s lk (off + offP ps) ∧ offP ps + size (nav ps a) ≤ size a
  | [], a, lk, off, _, _, h => ⟨by simpa [nav, offP] using h, by simp [nav, offP]⟩
  | p :: r, a, lk, off, ho, hp, h => by
    simp only [okNav, Bool.and_eq_true] at ho
    obtain ⟨h1, h2⟩ := seg_nav r ho.1 hp.2 h
    obtain ⟨h3, h4⟩ := seg_comp ho.2 hp.1 h1
    simp only [nav, offP]
    exact ⟨by simpa [Nat.add_assoc] using h3, by omega⟩

theorem seg_upd : ∀ (ps : List PE) {a v : AV} {lk lk' : Nat → Option Value} {off : Nat}, okNav ps a = true → okPath ps → (R g w a).s lk off →
    size v = size (nav ps a) → (R g w v).s lk' (off + offP ps) → (∀ j, j < size a → ¬ (offP ps ≤ j ∧ j < offP ps + size v) → lk' (off + j) = lk (off + j)) →
    (R g w (upd ps v a)).s lk' off ∧ size (upd ps v a) = size a
  | [], a, v, lk, lk', off, _, _, h, hs, hv, hf => ⟨by simpa [upd, offP] using hv, by simpa [upd, nav] using hs⟩
  | p :: r, a, v, lk, lk', off, ho, hp, h, hs, hv, hf => by
    simp only [okNav, Bool.and_eq_true] at ho
    obtain ⟨h1, h2⟩ := seg_nav r ho.1 hp.2 h
    obtain ⟨_, h4⟩ := seg_comp ho.2 hp.1 h1
    simp only [nav, offP] at hs hv hf
    rw [← hs] at h4
    obtain ⟨h5, h6⟩ := seg_setComp (lk' := lk') ho.2 hp.1 h1 hs (by simpa [Nat.add_assoc] using hv) (fun j hj hn => by
      have := hf (offP r + j) (by omega) (by omega)
      simpa [Nat.add_assoc] using this)
    exact seg_upd r ho.1 hp.2 h h6 h5 (fun j hj hn => hf j hj (by omega))

end Ar
namespace Ar
open Go
set_option linter.unusedVariables false
set_option autoImplicit false

inductive AObj where
  | box (a : AV)
  | room (n e : Nat) (ty : TypeId)
  /-- a box that is yet to be made -/
  | soon
  /-- a map from numbers -/
  | dict (k : IntKind) (f : Int → Option AV)

/-- Names from here on are lent: what they stand for never changes in an activation. -/
def LENT : Nat := 1000000

abbrev Env := List (Nat × AV)
abbrev Objs := List (Nat × AObj)

def lookE (t : Nat) : Env → AV
  | [] => .any
  | (k, a) :: r => match Nat.beq k t with | true => a | false => lookE t r

def lookO (t : Nat) : Objs → Option AObj
  | [] => none
  | (k, a) :: r => match Nat.beq k t with | true => some a | false => lookO t r

def setO (t : Nat) (x : AObj) : Objs → Objs
  | [] => []
  | (k, a) :: r => match Nat.beq k t with | true => (k, x) :: r | false => (k, a) :: setO t x r

theorem beq_of_ne {a b : Nat} (h : a ≠ b) : Nat.beq a b = false := by
  cases hb : Nat.beq a b with
  | false => rfl
  | true => exact absurd (beq_eq hb) h

theorem beq_self (a : Nat) : Nat.beq a a = true := Nat.beq_refl a

theorem lookO_cons (t k : Nat) (a : AObj) (r : Objs) : lookO t ((k, a) :: r) = if k = t then some a else lookO t r := by
  by_cases h : k = t
  · subst h; simp [lookO]
  · simp [lookO, beq_of_ne h, h]

theorem lookE_cons (t k : Nat) (a : AV) (r : Env) : lookE t ((k, a) :: r) = if k = t then a else lookE t r := by
  by_cases h : k = t
  · subst h; simp [lookE]
  · simp [lookE, beq_of_ne h, h]

def dropO (t : Nat) : Objs → Objs
  | [] => []
  | (k, a) :: r => match Nat.beq k t with | true => dropO t r | false => (k, a) :: dropO t r

theorem lookO_dropO (t u : Nat) : ∀ (o : Objs), lookO u (dropO t o) = if u = t then none else lookO u o
  | [] => by simp [dropO, lookO]
  | (k, a) :: r => by
    by_cases h : k = t
    · subst h
      simp only [dropO, beq_self, lookO_cons, lookO_dropO k u r]
      by_cases hu : u = k
      · subst hu; simp
      · have : ¬ k = u := fun e => hu e.symm
        simp [hu, this]
    · simp only [dropO, beq_of_ne h, lookO_cons, lookO_dropO t u r]
      by_cases hu : u = t
      · subst hu; simp [h]
      · simp [hu]

theorem lookO_setO (t : Nat) (x : AObj) (u : Nat) : ∀ (o : Objs), lookO u (setO t x o) = if u = t then (lookO t o).map (fun _ => x) else lookO u o
  | [] => by simp [setO, lookO]
  | (k, a) :: r => by
    by_cases h : k = t
    · subst h
      simp only [setO, beq_self, lookO_cons]
      by_cases hu : u = k
      · subst hu; simp
      · have : ¬ k = u := fun e => hu e.symm
        simp [hu, this]
    · simp only [setO, beq_of_ne h, lookO_cons, lookO_setO t x u r]
      by_cases hu : u = t
      · subst hu; simp [h]
      · simp [hu]

/-- The block that a name stands for. -/
def blkOf (g : Gh) (o : Nat) : AObj → Option Nat
  | .box _ => (g.m o).map (·.1)
  | .room _ _ _ => (g.r o).bind (·.1)
  | .soon => none
  | .dict _ _ => (g.m o).map (·.1)

/-- What a map's entries hold under a number. -/
def lkp (k : IntKind) : List MapEntry → Int → Option Value
  | [], _ => none
  | e :: r, n => match e.key with
    | .int k' m => if k' = k ∧ m = n then some e.val else lkp k r n
    | _ => lkp k r n

/-- The entries read as that map. -/
def DictR (g : Gh) (w : World) (k : IntKind) (f : Int → Option AV) (es : List MapEntry) : Prop :=
  (∀ e ∈ es, ∃ m, e.key = .int k m) ∧ ∀ n, match f n with
    | none => lkp k es n = none
    | some v => ∃ u, lkp k es n = some u ∧ (R g w v).v u

theorem DictR.ev {g g' : Gh} {w w' : World} (h : Ev g w g' w') {k : IntKind} {f : Int → Option AV} {es : List MapEntry} (hd : DictR g w k f es) : DictR g' w' k f es :=
  ⟨hd.1, fun n => by
    have := hd.2 n
    cases hf : f n with
    | none => rw [hf] at this; exact this
    | some v => rw [hf] at this; obtain ⟨u, h1, h2⟩ := this; exact ⟨u, h1, (R_ev h v).v u h2⟩⟩

def ObjOk (g : Gh) (w : World) (o : Nat) : AObj → Prop
  | .box a => (g.m o = none ∧ size a = 0) ∨ ∃ (b : Nat × Nat) (cs : Array Value) (ty : TypeId), g.m o = some b ∧ g.G b.1 = 0 ∧ Cel w (b.1) cs ty ∧ b.2 + size a ≤ cs.size ∧ (R g w a).s (look w b.1) b.2 ∧ (o < LENT → b.2 = 0)
  | .soon => g.m o = none
  | .dict k f => ∃ (b : Nat) (es : Array MapEntry) (cl : Nat), g.m o = some (b, 0) ∧ g.G b = 0 ∧ w.heap[b]? = some (.map es cl) ∧ o < LENT ∧ DictR g w k f es.toList
  | .room n e ty => ∃ ob, g.r o = some (ob, n) ∧ ((ob = none → n = 0) ∧ (LENT < o → n = 0 → ob = none)) ∧ ∀ b, ob = some b → g.G b = n * e ∧ ∃ (cs : Array Value) (ty' : TypeId), Cel w (b) cs ty' ∧ n * e ≤ cs.size


/-- The cells that are owned. -/
def OwnC (g : Gh) (o : Objs) (b j : Nat) : Prop := ∃ k x, lookO k o = some x ∧ match x with
  | .box a => ∃ off, g.m k = some (b, off) ∧ (LENT ≤ k → off ≤ j ∧ j < off + size a)
  | .room _ _ _ => (g.r k).bind (·.1) = some b
  | .soon => False
  | .dict _ _ => ∃ off, g.m k = some (b, off)

def Own (g : Gh) (o : Objs) (b : Nat) : Prop := ∃ k x, lookO k o = some x ∧ blkOf g k x = some b

/-- A deferred call that does nothing where no panic is under way. -/
def NopD (P : Program) (d : Deferred) : Prop := ∃ fv cap f args, d.target = .fn fv cap ∧ (∀ w, (invoke d.target d.args).run P w = .ok (.enter f args) w) ∧
  ∀ w, CallsD P f args .returning w fun e u' w' => (∃ v, e = .returned v) ∧ u' = .returning ∧ w'.heap = w.heap ∧ w'.os = w.os ∧ w'.output = w.output

structure Good (P : Program) (gl : Nat → AV) (N : Nat) (g : Gh) (w : World) (E : Nat → AV) (o : Objs) (n : Nat) (a : Act) : Prop where
  objs : ∀ k x, lookO k o = some x → ObjOk g w k x
  inj : ∀ k x k' x' b, lookO k o = some x → lookO k' o = some x' → blkOf g k x = some b → blkOf g k' x' = some b → k = k'
  blt : ∀ k x, lookO k o = some x → k < n ∨ LENT ≤ k
  mlt : ∀ k b, g.m k = some b → k < n ∨ LENT ≤ k
  rlt : ∀ k b, g.r k = some b → k < n ∨ LENT ≤ k
  env : ∀ t, (R g w (E t)).v (a.tmps.getD t undef)
  sz : a.tmps.size = N
  def_ : ∀ d ∈ a.defers, NopD P d
  gz : ∀ b, w.heap.size ≤ b → g.G b = 0
  gl : ∀ i, (R g w (gl i)).v (.pointer (some ⟨i, 0, none⟩))

/-- What a step of the walk leaves as it was, for whoever looks from outside. -/
structure Stp (g : Gh) (w : World) (o : Objs) (g' : Gh) (w' : World) (o' : Objs) : Prop where
  size : w.heap.size ≤ w'.heap.size
  keep : ∀ b, b < w.heap.size → ¬ Own g o b → w'.heap[b]? = w.heap[b]? ∧ g'.G b = g.G b
  own : ∀ b, Own g' o' b → Own g o b ∨ w.heap.size ≤ b
  pub : ∀ b off, off < g.G b → w'.cell? ⟨b, off, none⟩ = w.cell? ⟨b, off, none⟩
  le : ∀ b, g.G b ≤ g'.G b
  cap : ∀ (b : Nat) (cs : Array Value) (ty : TypeId), Cel w (b) cs ty → ∃ cs' : Array Value, Cel w' (b) cs' ty ∧ cs'.size = cs.size
  keepC : ∀ b j, b < w.heap.size → ¬ OwnC g o b j → w'.cell? ⟨b, j, none⟩ = w.cell? ⟨b, j, none⟩
  ownC : ∀ b j, OwnC g' o' b j → OwnC g o b j ∨ w.heap.size ≤ b
  lent : ∀ k, LENT ≤ k → g'.m k = g.m k
  rl : ∀ k ob N, k = LENT → g.r k = some (ob, N) → ∃ ob' N', g'.r k = some (ob', N') ∧ N ≤ N' ∧ (N = N' → ob = ob')
  os : w'.os = w.os
  out : w'.output = w.output

theorem Stp.refl (g : Gh) (w : World) (o : Objs) : Stp g w o g w o :=
  ⟨Nat.le_refl _, fun _ _ _ => ⟨rfl, rfl⟩, fun _ h => .inl h, fun _ _ _ => rfl, fun _ => Nat.le_refl _, fun _ cs _ h => ⟨cs, h, rfl⟩, fun _ _ _ _ => rfl, fun _ _ h => .inl h, fun _ _ => rfl, fun _ ob N _ h => ⟨ob, N, h, Nat.le_refl _, fun _ => rfl⟩, rfl, rfl⟩

theorem Stp.trans {g g1 g2 : Gh} {w w1 w2 : World} {o o1 o2 : Objs} (h : Stp g w o g1 w1 o1) (h' : Stp g1 w1 o1 g2 w2 o2) : Stp g w o g2 w2 o2 where
  size := Nat.le_trans h.size h'.size
  keep := fun b hb ho => by
    obtain ⟨h1, h2⟩ := h.keep b hb ho
    have hn : ¬ Own g1 o1 b := fun hh => by rcases h.own b hh with h3 | h3 <;> first | exact ho h3 | omega
    obtain ⟨h3, h4⟩ := h'.keep b (Nat.lt_of_lt_of_le hb h.size) hn
    exact ⟨h3.trans h1, h4.trans h2⟩
  own := fun b hb => by
    rcases h'.own b hb with h1 | h1
    · exact h.own b h1
    · exact .inr (Nat.le_trans h.size h1)
  pub := fun b off ho => (h'.pub b off (Nat.lt_of_lt_of_le ho (h.le b))).trans (h.pub b off ho)
  le := fun b => Nat.le_trans (h.le b) (h'.le b)
  cap := fun b cs ty hb => by
    obtain ⟨cs1, h1, e1⟩ := h.cap b cs ty hb
    obtain ⟨cs2, h2, e2⟩ := h'.cap b cs1 ty h1
    exact ⟨cs2, h2, e2.trans e1⟩
  keepC := fun b j hb hn => by
    rw [h'.keepC b j (Nat.lt_of_lt_of_le hb h.size) (fun hh => by rcases h.ownC b j hh with h3 | h3 <;> first | exact hn h3 | omega)]
    exact h.keepC b j hb hn
  ownC := fun b j hb => by
    rcases h'.ownC b j hb with h1 | h1
    · exact h.ownC b j h1
    · exact .inr (Nat.le_trans h.size h1)
  lent := fun k hk => (h'.lent k hk).trans (h.lent k hk)
  rl := fun k ob N hk hr => by
    obtain ⟨ob1, N1, h1, l1, e1⟩ := h.rl k ob N hk hr
    obtain ⟨ob2, N2, h2, l2, e2⟩ := h'.rl k ob1 N1 hk h1
    exact ⟨ob2, N2, h2, Nat.le_trans l1 l2, fun e => (e1 (by omega)).trans (e2 (by omega))⟩
  os := h'.os.trans h.os
  out := h'.out.trans h.out

/-- A world that differs in what nobody here reads. -/
structure Drawn (w w' : World) : Prop where
  heap : w'.heap = w.heap
  os : w'.os = w.os
  out : w'.output = w.output

theorem Drawn.refl (w : World) : Drawn w w := ⟨rfl, rfl, rfl⟩

theorem cell_heap {w w' : World} (h : w'.heap = w.heap) (a : Addr) : w'.cell? a = w.cell? a := by
  unfold World.cell?; rw [h]

theorem Drawn.ev {w w' : World} (h : Drawn w w') (g : Gh) : Ev g w g w' :=
  ⟨fun _ _ h => h, fun _ ob N h => ⟨ob, N, h, Nat.le_refl _, fun _ => rfl⟩, fun _ _ _ => cell_heap h.heap _, fun _ => Nat.le_refl _, fun _ cs _ hb => ⟨cs, by rw [cel_heap h.heap]; exact hb, rfl⟩⟩

theorem Drawn.stp {w w' : World} (h : Drawn w w') (g : Gh) (o : Objs) : Stp g w o g w' o :=
  ⟨by rw [h.heap]; exact Nat.le_refl _, fun _ _ _ => ⟨by rw [h.heap], rfl⟩, fun _ h => .inl h, fun _ _ _ => cell_heap h.heap _, fun _ => Nat.le_refl _, fun _ cs _ hb => ⟨cs, by rw [cel_heap h.heap]; exact hb, rfl⟩, fun _ _ _ _ => cell_heap h.heap _, fun _ _ h => .inl h, fun _ _ => rfl, fun _ ob N _ h => ⟨ob, N, h, Nat.le_refl _, fun _ => rfl⟩, h.os, h.out⟩

theorem look_heap {w w' : World} (h : w'.heap = w.heap) (b : Nat) : look w' b = look w b := by
  funext j; exact cell_heap h _

theorem Good.drawn {P : Program} {gl : Nat → AV} {N : Nat} {g : Gh} {w w' : World} {E : Nat → AV} {o : Objs} {n : Nat} {a : Act} (h : Good P gl N g w E o n a) (hd : Drawn w w') : Good P gl N g w' E o n a where
  objs := fun k x hx => by
    have := h.objs k x hx
    cases x with
    | box v =>
      obtain h0 | ⟨b, cs, ty, h1, h2, h3, h4, h5, h6⟩ := this
      · exact .inl h0
      · exact .inr ⟨b, cs, ty, h1, h2, by rw [cel_heap hd.heap]; exact h3, h4, by rw [look_heap hd.heap]; exact (R_ev (hd.ev g) v).s _ _ _ _ (fun _ _ => rfl) h5, h6⟩
    | room m e ty =>
      obtain ⟨ob, h1, h2, h3⟩ := this
      refine ⟨ob, h1, h2, fun b hb => ?_⟩
      simp only [cel_heap hd.heap]
      exact h3 b hb
    | soon => exact this
    | dict k f => obtain ⟨b, es, cl, h1, h2, h3, h4, h5⟩ := this; exact ⟨b, es, cl, h1, h2, by rw [hd.heap]; exact h3, h4, h5.ev (hd.ev g)⟩
  inj := h.inj
  blt := h.blt
  mlt := h.mlt
  rlt := h.rlt
  env := fun t => (R_ev (hd.ev g) _).v _ (h.env t)
  sz := h.sz
  def_ := h.def_
  gz := fun b hb => h.gz b (by rw [hd.heap] at hb; exact hb)
  gl := fun i => (R_ev (hd.ev g) _).v _ (h.gl i)

theorem CallsD.mono {P : Program} {f : FuncId} {args : Array Value} {u : FrameMode} {w : World} {S S' : Ending → FrameMode → World → Prop} (h : CallsD P f args u w S) (hs : ∀ e u w, S e u w → S' e u w) : CallsD P f args u w S' :=
  fun c cs hc => let ⟨e, u', w', fr, h1, h2⟩ := h c cs hc; ⟨e, u', w', fr, hs e u' w' h1, h2⟩

theorem leaves_nop {P : Program} {fn : Func} {tmps : Array Value} {S : Ending → World → Prop} : ∀ (ds : List Deferred) (w : World), (∀ d ∈ ds, NopD P d) → (∀ w2, Drawn w w2 → ∃ v, (results fn tmps).run P w2 = .ok v w2 ∧ S (.returned v) w2) →
    Leaves P fn tmps S ds .returning w
  | [], w, _, h => h w (Drawn.refl w)
  | d :: ds, w, hn, h => by
    obtain ⟨fv, cap, f, args, h1, h2, h3⟩ := hn d (List.mem_cons_self ..)
    refine ⟨by simp, fv, cap, f, args, h1, h2 w, (h3 w).mono ?_⟩
    rintro e u w' ⟨⟨v, rfl⟩, rfl, h4, h5, h6⟩
    exact leaves_nop ds w' (fun x hx => hn x (List.mem_cons_of_mem _ hx)) (fun w2 hd => h w2 ⟨hd.heap.trans h4, hd.os.trans h5, hd.out.trans h6⟩)

/-- A value goes into a slot; the rest reads as it did. -/
theorem getD_set (xs : Array Value) (d t : Nat) (v : Value) (hd : d < xs.size) : (xs.setIfInBounds d v).getD t undef = if d = t then v else xs.getD t undef := by
  simp only [Array.getD_eq_getD_getElem?, Array.getElem?_setIfInBounds]
  by_cases h : d = t
  · subst h; simp [hd]
  · simp [h]

def putF (E : Nat → AV) (d : Nat) (v : AV) : Nat → AV := fun t => if d = t then v else E t

theorem Good.put {P : Program} {gl : Nat → AV} {N : Nat} {g : Gh} {w : World} {E : Nat → AV} {o : Objs} {n : Nat} {a : Act} (h : Good P gl N g w E o n a) {d : Nat} (hd : d < N) {v : AV} {u : Value}
    (hv : (R g w v).v u) : Good P gl N g w (putF E d v) o n (a.put (some d) u) where
  objs := h.objs
  inj := h.inj
  blt := h.blt
  mlt := h.mlt
  rlt := h.rlt
  env := fun t => by
    have hd' : d < a.tmps.size := by rw [h.sz]; exact hd
    simp only [Act.put, getD_set _ _ _ _ hd', putF]
    by_cases e : d = t
    · simp [e, hv]
    · simp only [e, if_false]; exact h.env t
  sz := by simp [Act.put, h.sz]
  def_ := h.def_
  gz := h.gz
  gl := h.gl

end Ar
namespace Ar
open Go
set_option linter.unusedVariables false
set_option autoImplicit false

inductive X where
  | t (i : Nat)
  | c (v : Value)
  | g (i : Nat)
  | f (i : Nat)
  | no

/-- The shape of a type whose values are compared cell by cell. -/
inductive Sh where
  | int
  | bool
  | str
  | st (l : Sh)
  | cons (a b : Sh)
  | nil
  | arr (n e : Nat) (s : Sh)

inductive IOp where
  | mv (x : X)
  | pick (c a b : X)
  | alloc (z : AV)
  | box (x : X)
  | ld (ag : Bool) (n : Nat) (x : X)
  | sto (n : Nat) (x v : X)
  | fa (k off : Nat) (x : X)
  | fld (ag : Bool) (n k off : Nat) (x : X)
  | ixa (len e : Nat) (x i : X)
  | ixs (e : Nat) (x i : X)
  | ix (ag : Bool) (len e : Nat) (x i : X)
  | ixb (x i : X)
  | bin (op : BinOp) (x y : X)
  | sop (op : BinOp) (x y : X)
  | eqv (ne : Bool) (x y : X)
  | eqn (ne : Bool) (x : X)
  | un (op : UnOp) (x : X)
  | conv (k : IntKind) (x : X)
  /-- the text of a row of bytes -/
  | b2s (x : X)
  | len (x : X)
  | lens (x : X)
  | ext (i : Nat) (x : X)
  | build (z : AV) (l : List (Nat × Nat × Nat × X))
  | nck (x : X)
  | eqs (ne : Bool) (s : Sh) (x y : X)
  | slc (e : Nat) (x lo hi : X)
  | sls (x lo hi : X)
  /-- a part of an array variable -/
  | sla (len e : Nat) (ty : TypeId) (x lo hi : X)
  | mm (mx : Bool) (x y : X)
  | mm3 (mx : Bool) (x y z : X)
  | mm4 (mx : Bool) (x y z u : X)
  | dead
  | xcall (f : Nat) (l : List X)
  | bsl (e : Nat) (ty : TypeId) (z : AV) (l : List (Nat × Nat × Nat × X))
  | app (e by_ : Nat) (ty : TypeId) (x y : X)
  /-- a row of one's own grows by so many zeros -/
  | appz (e by_ : Nat) (ty : TypeId) (z : AV) (x c : X)
  | call (f : Nat) (l : List X)
  /-- a call of any kind: in a drawn region nothing that reads or writes memory may change places with it -/
  | callx (f : Nat) (l : List X)
  /-- a function value: the function, what it is bound to, what it captures -/
  | mkf (fn : Fn) (a b : List X)
  /-- the call of a function value -/
  | calv (x : X) (l : List X)
  /-- a call is put off to the end -/
  | dfr (x : X)
  /-- a row of one's own, of a length and with room -/
  | mks (e by_ : Nat) (ty : TypeId) (z : AV) (l c : X)
  | s2b (ty : TypeId) (x : X)
  /-- a row of bytes is converted to its own type: it is marked, no more -/
  | cvb (x : X)
  /-- a string's bytes are appended to a row of one's own -/
  | aps (ty : TypeId) (x y : X)
  /-- a new box under a name that was laid by for it -/
  | alcN (j : Nat) (z : AV)
  /-- a store into such a box -/
  | stoN (j n : Nat) (x v : X)
  /-- a new map from numbers -/
  | mkm (k : IntKind)
  /-- a map is told something -/
  | mupd (k : IntKind) (m key v : X)
  /-- a map is asked -/
  | mget (k : IntKind) (z : AV) (ok : Bool) (m key : X)

def okIb : IntKind → Int → Bool
  | .i8, n => decide (-128 ≤ n) && decide (n ≤ 127)
  | .i16, n => decide (-32768 ≤ n) && decide (n ≤ 32767)
  | .i32, n => decide (-2147483648 ≤ n) && decide (n ≤ 2147483647)
  | .i64, n => decide (-9223372036854775808 ≤ n) && decide (n ≤ 9223372036854775807)
  | .u8, n => decide (0 ≤ n) && decide (n ≤ 255)
  | .u16, n => decide (0 ≤ n) && decide (n ≤ 65535)
  | .u32, n => decide (0 ≤ n) && decide (n ≤ 4294967295)
  | .u64, n => decide (0 ≤ n) && decide (n ≤ 18446744073709551615)

theorem okIb_iff {k : IntKind} {n : Int} : okIb k n = true ↔ okI k n := by
  cases k <;> simp [okIb, okI, IntKind.min, IntKind.max, IntKind.signed, IntKind.bits] <;> omega

def cellVb : Value → Bool
  | .agg _ => false
  | .tuple _ => false
  | .int k n => okIb k n
  | .string s => Nat.ble s.size 9223372036854775807
  | .slice _ n _ => Nat.ble n 9223372036854775807
  | _ => true

theorem cellVb_iff {v : Value} : cellVb v = true ↔ cellV v := by cases v <;> simp [cellVb, cellV, okIb_iff, Nat.ble_eq]

def cx : Operand → X
  | .tmp t => .t t
  | .const v => match cellVb v with | true => .c v | false => .no
  | .global g => .g g
  | .func f => .f f

def evF (gl : Nat → AV) (E : Nat → AV) : X → AV
  | .t i => E i
  | .c v => .val v
  | .g i => gl i
  | .f i => .clo (.func i) .nil .nil
  | .no => .any

theorem ev_ok {P : Program} {gl : Nat → AV} {N : Nat} {g : Gh} {w : World} {E : Nat → AV} {o : Objs} {n : Nat} {a : Act} (h : Good P gl N g w E o n a) (x : Operand) :
    (R g w (evF gl E (cx x))).v (a.eval x) := by
  cases x with
  | tmp t => exact h.env t
  | const v =>
    cases hv : cellVb v with
    | true => simp only [cx, hv, evF, Act.eval]; exact ⟨rfl, cellVb_iff.1 hv⟩
    | false => simp only [cx, hv, evF, Act.eval]; trivial
  | global i => exact h.gl i
  | func i => exact ⟨⟨#[], #[], rfl, rfl, rfl⟩, trivial⟩

/-- Which abstract values are one cell, which are a struct or an array. -/
def isAg : AV → Bool
  | .st _ => true
  | .arr _ _ _ => true
  | _ => false

def isCell : AV → Bool
  | .val _ | .ptr _ _ | .elt _ _ _ _ _ | .lst _ _ _ _ | .sli _ _ _ _ _ | .clo _ _ _ | .mp _ | .ifc _ _ => true
  | _ => false

def fits (ag : Bool) (n : Nat) (a : AV) : Bool := match ag with
  | true => isAg a && sizeIs a n
  | false => isCell a

def chk (b : Bool) (A : Prop) : Prop := match b with | true => A | false => False

theorem chk_iff {b : Bool} {A : Prop} : chk b A ↔ b = true ∧ A := by cases b <;> simp [chk]

section vals
variable {g : Gh} {w : World}

theorem cell_one {a : AV} (h : isCell a = true) : ∃ p, R g w a = one p := by
  cases a <;> simp [isCell] at h <;> exact ⟨_, rfl⟩

theorem cell_size {a : AV} (h : isCell a = true) : size a = 1 := by
  cases a <;> simp [isCell] at h <;> rfl

theorem seg_cell {a : AV} (h : isCell a = true) {lk : Nat → Option Value} {off : Nat} (hs : (R g w a).s lk off) : ∃ u, lk off = some u ∧ (R g w a).v u ∧ cellV u := by
  obtain ⟨p, hp⟩ := cell_one (g := g) (w := w) h
  rw [hp] at hs ⊢
  obtain ⟨u, h1, h2, h3⟩ := hs
  exact ⟨u, h1, ⟨h2, h3⟩, h3⟩

theorem cell_seg {a : AV} (h : isCell a = true) {u : Value} (hv : (R g w a).v u) {lk : Nat → Option Value} {off : Nat} (hl : lk off = some u) : (R g w a).s lk off ∧ cellV u := by
  obtain ⟨p, hp⟩ := cell_one (g := g) (w := w) h
  rw [hp] at hv ⊢
  exact ⟨⟨u, hl, hv.1, hv.2⟩, hv.2⟩

theorem seg_ag {a : AV} (h : isAg a = true) {lk : Nat → Option Value} {off : Nat} (hs : (R g w a).s lk off) {cs : Array Value} (hc : cs.size = size a)
    (hl : ∀ j, j < size a → cs[j]? = lk (off + j)) : (R g w a).v (.agg cs) := by
  cases a <;> simp [isAg] at h
  · exact ⟨cs, rfl, hc, fun i hi => ⟨(hs i hi).1, R_look (fun j hj => by
      have := mul_add_lt hi ((hs i hi).1 ▸ hj)
      have := hl (i * _ + j) this
      simpa [Nat.add_assoc] using this) (hs i hi).2⟩⟩
  · exact ⟨cs, rfl, hc, R_look (fun j hj => by simpa using hl j (by simpa [size] using hj)) (show (R g w _).s lk off from hs)⟩

theorem ag_seg {a : AV} (h : isAg a = true) {u : Value} (hv : (R g w a).v u) : ∃ cs : Array Value, u = .agg cs ∧ cs.size = size a ∧ (R g w a).s (fun j => cs[j]?) 0 := by
  cases a <;> simp [isAg] at h
  · obtain ⟨cs, rfl, hc, hs⟩ := hv
    exact ⟨cs, rfl, hc, hs⟩
  · obtain ⟨cs, rfl, hc, hs⟩ := hv
    exact ⟨cs, rfl, hc, hs⟩

/-- Each of the row's cells is there, and is one cell. -/
theorem seg_cells : ∀ (a : AV) {lk : Nat → Option Value} {off : Nat}, (R g w a).s lk off → ∀ j, j < size a → ∃ u, lk (off + j) = some u ∧ cellV u := by
  intro a
  have key : ∀ {a : AV} {p : Value → Prop}, R g w a = one p → size a = 1 → ∀ {lk : Nat → Option Value} {off : Nat}, (R g w a).s lk off → ∀ j, j < size a → ∃ u, lk (off + j) = some u ∧ cellV u := by
    intro a p hp hs lk off h j hj
    rw [hp] at h
    obtain ⟨u, h1, _, h3⟩ := h
    obtain rfl : j = 0 := by omega
    exact ⟨u, h1, h3⟩
  induction a with
  | val x => exact key rfl rfl
  | any => intro lk off ⟨u, h1, h2⟩ j hj; simp only [size] at hj; obtain rfl : j = 0 := by omega
           exact ⟨u, h1, h2⟩
  | ptr o p => exact key rfl rfl
  | elt n e f i p ih => exact key rfl rfl
  | lst tok n e f ih => exact key rfl rfl
  | sli o lo n e ty => exact key rfl rfl
  | arr n e f ih =>
    intro lk off h j hj
    simp only [size] at hj
    have he : 0 < e := Nat.pos_of_ne_zero (by rintro rfl; simp at hj)
    have hi : j / e < n := Nat.div_lt_of_lt_mul (by rwa [Nat.mul_comm] at hj)
    obtain ⟨hs, hc⟩ := h (j / e) hi
    obtain ⟨u, h1, h2⟩ := ih (j / e) hc (j % e) (by rw [hs]; exact Nat.mod_lt _ he)
    refine ⟨u, ?_, h2⟩
    rw [← h1]
    congr 1
    have := Nat.div_add_mod j e
    rw [Nat.mul_comm] at this
    omega
  | st l ih => intro lk off h j hj; exact ih h j (by simpa [size] using hj)
  | cons a b iha ihb =>
    intro lk off h j hj
    simp only [size] at hj
    by_cases hlt : j < size a
    · exact iha h.1 j hlt
    · obtain ⟨u, h1, h2⟩ := ihb h.2 (j - size a) (by omega)
      exact ⟨u, by rw [← h1]; congr 1; omega, h2⟩
  | nil => intro lk off h j hj; simp only [size] at hj; omega
  | tup l ih => intro lk off h; exact h.elim
  | clo fn a b => exact key rfl rfl
  | mp o => exact key rfl rfl
  | ifc t a => exact key rfl rfl

end vals

/-- A row of cells in the world, read whole or one by one. -/
theorem addr_add (b off k : Nat) : (⟨b, off, none⟩ : Addr).add k = ⟨b, off + k, none⟩ := by
  unfold Addr.add; split <;> simp_all

theorem run_loadCells_seg (P : Program) (w : World) (b off n : Nat) (h : ∀ j, j < n → ∃ u, look w b (off + j) = some u) :
    ∃ cs : Array Value, cs.size = n ∧ (∀ j, j < n → cs[j]? = look w b (off + j)) ∧ (loadCells ⟨b, off, none⟩ n).run P w = .ok cs w := by
  refine ⟨_, ?_, ?_, run_loadCells w ⟨b, off, none⟩ n (fun j => (look w b (off + j)).getD undef) (fun j hj => ?_)⟩
  · simp
  · intro j hj
    obtain ⟨u, hu⟩ := h j hj
    simp [hj, hu]
  · obtain ⟨u, hu⟩ := h j hj
    rw [addr_add]
    have : w.cell? ⟨b, off + j, none⟩ = some u := hu
    rw [this, hu]; rfl

def aggD : TypeDesc → Bool
  | .struct _ => true
  | .array _ _ => true
  | _ => false

theorem run_isAgg {P : Program} {t : TypeId} {d : TypeDesc} (h : P.underlying t = some d) (w : World) :
    (isAgg t).run P w = .ok (aggD d) w := by
  unfold isAgg underlying
  simp only [Sem.run_bind, run_program, Result.andThen_ok, h, Sem.run_pure]
  cases d <;> rfl

theorem run_sizeOf' {P : Program} {t : TypeId} {i : TypeInfo} (h : P.info? t = some i) (w : World) : (Go.sizeOf t).run P w = .ok i.size w := by
  unfold Go.sizeOf typeInfo
  simp only [Sem.run_bind, run_program, Result.andThen_ok, h, Sem.run_pure]

theorem run_underlying' {P : Program} {t : TypeId} {d : TypeDesc} (h : P.underlying t = some d) (w : World) : (underlying t).run P w = .ok d w := by
  unfold underlying
  simp only [Sem.run_bind, run_program, Result.andThen_ok, h, Sem.run_pure]

/-- Where a variable of a type stands and reads as an abstract value, a load gives that value. -/
theorem run_loadVar_seg {P : Program} {g : Gh} {w : World} {t : TypeId} {d : TypeDesc} {i : TypeInfo} (hu : P.underlying t = some d) (hi : P.info? t = some i)
    {b off : Nat} {a : AV} (hf : fits (aggD d) i.size a = true) (hs : (R g w a).s (look w b) off) :
    ∃ cv, (loadVar t ⟨b, off, none⟩).run P w = .ok cv w ∧ (R g w a).v cv := by
  unfold loadVar
  simp only [Sem.run_bind, run_isAgg hu, Result.andThen_ok]
  cases hd : aggD d with
  | true =>
    rw [hd] at hf
    simp only [fits, Bool.and_eq_true] at hf
    obtain ⟨cs, h1, h2, h3⟩ := run_loadCells_seg P w b off (size a) (fun j hj => by obtain ⟨u, hu, _⟩ := seg_cells a hs j hj; exact ⟨u, hu⟩)
    refine ⟨.agg cs, ?_, seg_ag hf.1 hs h1 h2⟩
    simp only [if_true, Sem.run_bind, run_sizeOf' hi, Result.andThen_ok, ← sizeIs_eq hf.2, h3, Sem.run_pure]
  | false =>
    rw [hd] at hf
    simp only [fits] at hf
    obtain ⟨u, h1, h2, _⟩ := seg_cell hf hs
    refine ⟨u, ?_, h2⟩
    have h1' : w.cell? ⟨b, off, none⟩ = some u := h1
    simp only [Bool.false_eq_true, if_false, run_load, h1']

end Ar
namespace Ar
open Go
set_option linter.unusedVariables false
set_option autoImplicit false

def kEq : IntKind → IntKind → Bool
  | .i8, .i8 | .i16, .i16 | .i32, .i32 | .i64, .i64 | .u8, .u8 | .u16, .u16 | .u32, .u32 | .u64, .u64 => true
  | _, _ => false

theorem kEq_eq {a b : IntKind} (h : kEq a b = true) : a = b := by cases a <;> cases b <;> simp [kEq] at h <;> rfl

def br (b : Bool) (A B : Prop) : Prop := match b with | true => A | false => B

theorem br_intro {b : Bool} {A B : Prop} (h : b = true → A) (h' : b = false → B) : br b A B := by cases b <;> simp [br, *]
theorem br_true {b : Bool} {A B : Prop} (hb : b = true) (h : A) : br b A B := by subst hb; exact h
theorem br_false {b : Bool} {A B : Prop} (hb : b = false) (h : B) : br b A B := by subst hb; exact h

/-- A condition's value, either way. -/
def brB (c : Bool) (K : AV → Prop) : Prop := match c with
  | true => K (.val (.bool true))
  | false => K (.val (.bool false))

theorem brB_iff {c : Bool} {K : AV → Prop} : brB c K ↔ K (.val (.bool c)) := by cases c <;> exact Iff.rfl

/-- Byte number 'j' of a string. -/
def bt (s : ByteArray) (j : Nat) : Int := ((s.data.getD j 0).toNat : Int)

def bitV (op : BinOp) (k : IntKind) (x y : Int) : Option Value :=
  match op with
  | .and => some (.int k (k.wrap (BitVec.ofInt k.bits x &&& BitVec.ofInt k.bits y).toNat))
  | .or => some (.int k (k.wrap (BitVec.ofInt k.bits x ||| BitVec.ofInt k.bits y).toNat))
  | .xor => some (.int k (k.wrap (BitVec.ofInt k.bits x ^^^ BitVec.ofInt k.bits y).toNat))
  | .andNot => some (.int k (k.wrap (BitVec.ofInt k.bits x &&& ~~~BitVec.ofInt k.bits y).toNat))
  | _ => none

def binV (op : BinOp) (k k' : IntKind) (a b : Int) (K : AV → Prop) : Prop :=
  match op with
  | .add => chk (kEq k k') (K (.val (.int k (k.wrap (a + b)))))
  | .sub => chk (kEq k k') (K (.val (.int k (k.wrap (a - b)))))
  | .mul => chk (kEq k k') (K (.val (.int k (k.wrap (a * b)))))
  | .quo => chk (kEq k k') (b ≠ 0 ∧ K (.val (.int k (k.wrap (a.tdiv b)))))
  | .rem => chk (kEq k k') (b ≠ 0 ∧ K (.val (.int k (a.tmod b))))
  | .shl => 0 ≤ b ∧ K (.val (.int k (k.wrap (a * 2 ^ min b.toNat k.bits))))
  | .shr => 0 ≤ b ∧ K (.val (.int k (a.fdiv (2 ^ min b.toNat k.bits))))
  | .lss => chk (kEq k k') (brB (decide (a < b)) K)
  | .leq => chk (kEq k k') (brB (decide (a ≤ b)) K)
  | .gtr => chk (kEq k k') (brB (decide (a > b)) K)
  | .geq => chk (kEq k k') (brB (decide (a ≥ b)) K)
  | .eql => chk (kEq k k') (brB (decide (a = b)) K)
  | .neq => chk (kEq k k') (brB (decide (a ≠ b)) K)
  | op => chk (kEq k k') (match bitV op k a b with | some v => K (.val v) | none => False)

def strV (op : BinOp) (x y : ByteArray) (K : AV → Prop) : Prop :=
  match op with
  | .add => (x.size + y.size ≤ 9223372036854775807) ∧ K (.val (.string (x ++ y)))
  | .eql => brB (x.toList == y.toList) K
  | .neq => brB (!(x.toList == y.toList)) K
  | .lss => brB (Op.bytesLess x.toList y.toList) K
  | .leq => brB (Op.bytesLess x.toList y.toList || x.toList == y.toList) K
  | .gtr => brB (!(Op.bytesLess x.toList y.toList || x.toList == y.toList)) K
  | .geq => brB (!Op.bytesLess x.toList y.toList) K
  | _ => False

def unV (op : UnOp) (x : Value) (K : AV → Prop) : Prop :=
  match op, x with
  | .neg, .int k n => K (.val (.int k (k.wrap (0 - n))))
  | .xor, .int k n => match bitV .xor k (if k.signed then -1 else k.max) n with | some v => K (.val v) | none => False
  | .not, .bool b => K (.val (.bool !b))
  | _, _ => False

def setPart (k : Nat) (v : AV) : AV → AV
  | .st l => .st (setNth k v l)
  | .arr n e f => .arr n e (fun i => selA (i = k) v (f i))
  | a => a

def okPart (k off sz : Nat) (v : AV) : AV → Bool
  | .st l => hasN k l && offIs k off l && sizeIs (nth k l) sz && sizeIs v sz && (isAg v || isCell v)
  | .arr n e f => Nat.ble (k + 1) n && Nat.beq (k * e) off && Nat.beq e sz && sizeIs v sz && (isAg v || isCell v)
  | _ => false

def mkParts (ρ : X → AV) : List (Nat × Nat × Nat × X) → AV → AV
  | [], z => z
  | (k, off, sz, x) :: r, z => mkParts ρ r (setPart k (ρ x) z)

def okParts (ρ : X → AV) : List (Nat × Nat × Nat × X) → AV → Bool
  | [], _ => true
  | (k, off, sz, x) :: r, z => okPart k off sz (ρ x) z && okParts ρ r (setPart k (ρ x) z)

def ssize : Sh → Nat
  | .st l => ssize l
  | .cons a b => ssize a + ssize b
  | .nil => 0
  | .arr n e _ => n * e
  | _ => 1

def fitS : Sh → AV → Bool
  | .int, .val (.int _ _) => true
  | .bool, .val (.bool _) => true
  | .str, .val (.string _) => true
  | .st s, .st l => fitS s l
  | .cons s t, .cons a b => fitS s a && fitS t b
  | .nil, .nil => true
  | .arr n e s, .arr n' e' f => Nat.beq n n' && (Nat.beq e e' && (List.range n).all fun i => fitS s (f i))
  | _, _ => false

/-- Do the integers' kinds agree? -/
def kndS : Sh → AV → AV → Bool
  | .int, .val (.int k _), .val (.int k' _) => kEq k k'
  | .st s, .st l, .st m => kndS s l m
  | .cons s t, .cons a b, .cons c d => kndS s a c && kndS t b d
  | .arr n _ s, .arr _ _ f, .arr _ _ h => (List.range n).all fun i => kndS s (f i) (h i)
  | _, _, _ => true

def eqS : Sh → AV → AV → Bool
  | .int, .val (.int _ a), .val (.int _ b) => a == b
  | .bool, .val (.bool a), .val (.bool b) => a == b
  | .str, .val (.string a), .val (.string b) => a.toList == b.toList
  | .st s, .st l, .st m => eqS s l m
  | .cons s t, .cons a b, .cons c d => eqS s a c && eqS t b d
  | .arr n _ s, .arr _ _ f, .arr _ _ h => (List.range n).all fun i => eqS s (f i) (h i)
  | _, _, _ => true

def loV (ρ : X → AV) (x : X) (K : Nat → Prop) : Prop := match x with
  | .no => K 0
  | x => match ρ x with
    | .val (.int _ j) => 0 ≤ j ∧ K j.toNat
    | _ => False

def hiV (ρ : X → AV) (x : X) (n : Nat) (K : Nat → Prop) : Prop := match x with
  | .no => K n
  | x => match ρ x with
    | .val (.int _ j) => (0 ≤ j ∧ j ≤ n) ∧ K j.toNat
    | _ => False

def eqSn (ne b : Bool) : Bool := match ne with
  | true => !b
  | false => b

def mmI (mx : Bool) (a b : Int) : Int := match mx with
  | true => if b > a then b else a
  | false => if b < a then b else a

def consX (ρ : X → AV) : List X → AV
  | [] => .nil
  | x :: r => .cons (ρ x) (consX ρ r)

/-- What a value operation gives. -/
def numA : AV → Int
  | .val (.int _ n) => n
  | _ => 0
/-- The text of a row of bytes. -/
def strF (n : Nat) (f : Nat → AV) : ByteArray := strOfNums ((List.range n).map fun i => numA (f i))

def wpV (ρ : X → AV) (o : Objs) (op : IOp) (K : AV → Prop) : Prop :=
  match op with
  | .mv x => K (ρ x)
  | .pick c a b => match ρ c with
    | .val (.bool t) => br t (K (ρ a)) (K (ρ b))
    | _ => False
  | .ld ag n x => match ρ x with
    | .ptr b p => match lookO b o with
      | some (.box a) => chk (okNav p a) (chk (fits ag n (nav p a)) (K (nav p a)))
      | _ => False
    | .elt _ _ f i p => chk (okNav p (f i)) (chk (fits ag n (nav p (f i))) (K (nav p (f i))))
    | _ => False
  | .fa k off x => match ρ x with
    | .ptr b p => K (.ptr b (.fld k off :: p))
    | .elt n e f i p => K (.elt n e f i (.fld k off :: p))
    | _ => False
  | .fld ag n k off x => match ρ x with
    | .st l => chk (hasN k l) (chk (offIs k off l) (chk (fits ag n (nth k l)) (K (nth k l))))
    | _ => False
  | .ixa len e x i => match ρ x, ρ i with
    | .ptr b p, .val (.int _ j) => (0 ≤ j ∧ j < len) ∧ K (.ptr b (.idx j.toNat len e :: p))
    | .elt n e' f q p, .val (.int _ j) => (0 ≤ j ∧ j < len) ∧ K (.elt n e' f q (.idx j.toNat len e :: p))
    | _, _ => False
  | .ixs e x i => match ρ x, ρ i with
    | .lst _ n e' f, .val (.int _ j) => chk (Nat.beq e e') ((0 ≤ j ∧ j < n) ∧ K (.elt n e' f j.toNat []))
    | .sli b lo n e' _, .val (.int _ j) => match lookO b o with
      | some (.box (.arr N e'' f)) => chk (Nat.beq e e') (chk (Nat.beq e e'') ((0 ≤ j ∧ j < n) ∧ (lo + j.toNat < N) ∧ K (.ptr b [.idx (lo + j.toNat) N e])))
      | _ => False
    | _, _ => False
  | .ix ag len e x i => match ρ x, ρ i with
    | .arr n e' f, .val (.int _ j) => chk (Nat.beq n len) (chk (Nat.beq e e') ((0 ≤ j ∧ j < len) ∧ chk (fits ag e (f j.toNat)) (K (f j.toNat))))
    | _, _ => False
  | .ixb x i => match ρ x, ρ i with
    | .val (.string s), .val (.int _ j) => (0 ≤ j ∧ j < s.size) ∧ K (.val (.int .u8 (bt s j.toNat)))
    | _, _ => False
  | .bin op x y => match ρ x, ρ y with
    | .val (.int k a), .val (.int k' b) => binV op k k' a b K
    | _, _ => False
  | .sop op x y => match ρ x, ρ y with
    | .val (.string a), .val (.string b) => strV op a b K
    | _, _ => False
  | .eqn ne x => match ρ x with
    | .val .nilIface => K (.val (.bool (!ne)))
    | .ifc _ _ => K (.val (.bool ne))
    | _ => False
  | .eqv ne x y => match ρ x, ρ y with
    | .val (.bool a), .val (.bool b) => K (.val (.bool (match ne with | true => !(a == b) | false => (a == b))))
    | _, _ => False
  | .un op x => match ρ x with
    | .val v => unV op v K
    | _ => False
  | .conv k x => match ρ x with
    | .val (.int _ a) => K (.val (.int k (k.wrap a)))
    | _ => False
  | .b2s x => match ρ x with
    | .lst _ n e f => chk (Nat.beq e 1) ((∀ i, i < n → ∃ b, f i = .val (.int .u8 b)) ∧ K (.val (.string (strF n f))))
    | .sli b lo n e1 _ => match lookO b o with
      | some (.box (.arr m e f)) => chk (Nat.beq e1 1) <| chk (Nat.beq e 1) (chk (Nat.ble (lo + n) m) ((∀ i, i < n → ∃ b, f (lo + i) = .val (.int .u8 b)) ∧ K (.val (.string (strF n (fun i => f (lo + i)))))))
      | _ => False
    | .val (.slice none 0 0) => K (.val (.string ByteArray.empty))
    | _ => False
  | .len x => match ρ x with
    | .lst _ n _ _ => K (.val (.int .i64 n))
    | .sli _ _ n _ _ => K (.val (.int .i64 n))
    | .val (.slice none 0 0) => K (.val (.int .i64 0))
    | _ => False
  | .lens x => match ρ x with
    | .val (.string s) => K (.val (.int .i64 s.size))
    | _ => False
  | .ext i x => match ρ x with
    | .tup l => chk (hasN i l) (K (nth i l))
    | _ => False
  | .build z l => chk (isAg z) (chk (okParts ρ l z) (K (mkParts ρ l z)))
  | .nck x => match ρ x with
    | .ptr b p => K (.ptr b p)
    | .elt n e f i p => K (.elt n e f i p)
    | _ => False
  | .eqs ne s x y => chk (isAg (ρ x)) (chk (isAg (ρ y)) (chk (fitS s (ρ x)) (chk (fitS s (ρ y)) (chk (kndS s (ρ x) (ρ y)) (brB (eqSn ne (eqS s (ρ x) (ρ y))) K)))))
  | .slc e x lo hi => match ρ x with
    | .lst _ n e' f => chk (Nat.beq e e') (loV ρ lo fun l => hiV ρ hi n fun h => l ≤ h ∧ K (.lst none (h - l) e (fun i => f (i + l))))
    | .sli b lo0 n e' ty => chk (Nat.beq e e') (loV ρ lo fun l => hiV ρ hi n fun h => l ≤ h ∧ (l = 0 ∨ l < n) ∧ K (.sli b (lo0 + l) (h - l) e ty))
    | _ => False
  | .sla len e ty x lo hi => match ρ x with
    | .ptr b [] => match lookO b o with
      | some (.box (.arr N e' _)) => chk (Nat.beq N len) (chk (Nat.beq e e') (chk (Nat.ble len 140737488355328) (loV ρ lo fun l => hiV ρ hi len fun h => l ≤ h ∧ (l = 0 ∨ l < len) ∧ K (.sli b l (h - l) e ty))))
      | _ => False
    | _ => False
  | .sls x lo hi => match ρ x with
    | .val (.string s) => loV ρ lo fun l => hiV ρ hi s.size fun h => l ≤ h ∧ K (.val (.string (s.extract l h)))
    | _ => False
  | .mkf fn a b => K (.clo fn (consX ρ a) (consX ρ b))
  | .mm mx x y => match ρ x, ρ y with
    | .val (.int k a), .val (.int k' b) => chk (kEq k k') (K (.val (.int k (mmI mx a b))))
    | _, _ => False
  | .mm3 mx x y z => match ρ x, ρ y, ρ z with
    | .val (.int k a), .val (.int k' b), .val (.int k2 c) => chk (kEq k k') (chk (kEq k k2) (K (.val (.int k (mmI mx (mmI mx a b) c)))))
    | _, _, _ => False
  | .mm4 mx x y z u => match ρ x, ρ y, ρ z, ρ u with
    | .val (.int k a), .val (.int k' b), .val (.int k2 c), .val (.int k3 d) => chk (kEq k k') (chk (kEq k k2) (chk (kEq k k3) (K (.val (.int k (mmI mx (mmI mx (mmI mx a b) c) d))))))
    | _, _, _, _ => False
  | _ => False

/-- The cells of a closed value. -/
def cellsOf : AV → List Value
  | .val x => [x]
  | .st l => cellsOf l
  | .cons a b => cellsOf a ++ cellsOf b
  | .arr n e f => (List.range n).flatMap fun i => cellsOf (f i)
  | _ => []

def closed : AV → Bool
  | .val x => cellVb x
  | .st l => closed l
  | .cons a b => closed a && closed b
  | .nil => true
  | .arr n e f => (List.range n).all fun i => closed (f i) && Nat.beq (size (f i)) e
  | _ => false

theorem cellsOf_length : ∀ (a : AV), closed a = true → (cellsOf a).length = size a := by
  intro a
  induction a with
  | val x => intro _; rfl
  | st l ih => intro h; exact ih h
  | cons a b iha ihb =>
    intro h
    simp only [closed, Bool.and_eq_true] at h
    simp [cellsOf, size, iha h.1, ihb h.2]
  | nil => intro _; rfl
  | arr n e f ih =>
    intro h
    simp only [closed, List.all_eq_true, List.mem_range, Bool.and_eq_true] at h
    simp only [cellsOf, size]
    have : ∀ m, m ≤ n → ((List.range m).flatMap fun i => cellsOf (f i)).length = m * e := by
      intro m
      induction m with
      | zero => simp
      | succ m ihm =>
        intro hm
        rw [List.range_succ, List.flatMap_append, List.length_append, ihm (by omega)]
        simp only [List.flatMap_cons, List.flatMap_nil, List.append_nil]
        rw [ih m (h m (by omega)).1, beq_eq (h m (by omega)).2, Nat.succ_mul]
    exact this n (Nat.le_refl _)
  | _ => intro h; simp [closed] at h

theorem closed_seg {g : Gh} {w : World} : ∀ (a : AV), closed a = true → ∀ {lk : Nat → Option Value} {off : Nat}, (∀ j, j < size a → lk (off + j) = (cellsOf a)[j]?) → (R g w a).s lk off := by
  intro a
  induction a with
  | val x => intro h lk off hl; exact ⟨x, by simpa [cellsOf] using hl 0 (by simp [size]), rfl, cellVb_iff.1 h⟩
  | st l ih => intro h lk off hl; exact ih h hl
  | cons a b iha ihb =>
    intro h lk off hl
    simp only [closed, Bool.and_eq_true] at h
    have la := cellsOf_length a h.1
    refine ⟨iha h.1 fun j hj => ?_, ihb h.2 fun j hj => ?_⟩
    · rw [hl j (by simp only [size]; omega)]
      simp only [cellsOf]
      rw [List.getElem?_append_left (by omega)]
    · have := hl (size a + j) (by simp only [size]; omega)
      rw [Nat.add_assoc, this]
      simp only [cellsOf]
      rw [List.getElem?_append_right (by omega), la]
      congr 1; omega
  | nil => intro _ _ _ _; trivial
  | arr n e f ih =>
    intro h lk off hl i hi
    have h' := h
    simp only [closed, List.all_eq_true, List.mem_range, Bool.and_eq_true] at h
    have hs := beq_eq (h i hi).2
    refine ⟨hs, ih i (h i hi).1 fun j hj => ?_⟩
    have hj' : j < e := by omega
    have := hl (i * e + j) (by simpa [size] using mul_add_lt hi hj')
    rw [Nat.add_assoc, this]
    simp only [cellsOf]
    have key : ∀ m, m ≤ n → ((List.range m).flatMap fun i => cellsOf (f i)).length = m * e := by
      intro m
      induction m with
      | zero => simp
      | succ m ihm =>
        intro hm
        rw [List.range_succ, List.flatMap_append, List.length_append, ihm (by omega)]
        simp only [List.flatMap_cons, List.flatMap_nil, List.append_nil]
        rw [cellsOf_length _ (h m (by omega)).1, beq_eq (h m (by omega)).2, Nat.succ_mul]
    have split : List.range n = List.range i ++ i :: (List.range (n - (i + 1))).map (fun q => q + (i + 1)) := by
      apply List.ext_getElem
      · simp; omega
      · intro q h1 h2
        simp only [List.getElem_range]
        by_cases hq : q < i
        · rw [List.getElem_append_left (by simpa using hq)]; simp
        · rw [List.getElem_append_right (by simpa using Nat.le_of_not_lt hq)]
          simp only [List.length_range]
          by_cases hq2 : q = i
          · subst hq2; simp
          · obtain ⟨m, rfl⟩ : ∃ m, q = i + 1 + m := ⟨q - (i + 1), by omega⟩
            have : i + 1 + m - i = m + 1 := by omega
            simp only [this, List.getElem_cons_succ, List.getElem_map, List.getElem_range]
            omega
    rw [split, List.flatMap_append, List.flatMap_cons]
    rw [List.getElem?_append_right (by rw [key i (Nat.le_of_lt hi)]; omega), key i (Nat.le_of_lt hi)]
    rw [List.getElem?_append_left (by rw [cellsOf_length _ (h i hi).1]; omega)]
    congr 1; omega
  | _ => intro h; simp [closed] at h

/-- Two one-cell values without memory: are they one? -/
def veq : Value → Value → Bool
  | .bool a, .bool b => a == b
  | .int k a, .int k' b => kEq k k' && decide (a = b)
  | .string a, .string b => decide (a = b)
  | .pointer none, .pointer none => true
  | .slice none 0 0, .slice none 0 0 => true
  | .map none, .map none => true
  | .nilFunc, .nilFunc => true
  | .nilIface, .nilIface => true
  | _, _ => false

theorem veq_eq {a b : Value} (h : veq a b = true) : a = b := by
  unfold veq at h
  split at h
  · simp at h; rw [h]
  · simp at h; rw [kEq_eq h.1, h.2]
  · simp at h; rw [h]
  all_goals first | rfl | simp at h

def veqL : List Value → List Value → Bool
  | [], [] => true
  | a :: r, b :: s => veq a b && veqL r s
  | _, _ => false

theorem veqL_eq : ∀ {a b : List Value}, veqL a b = true → a = b
  | [], [], _ => rfl
  | a :: r, b :: s, h => by simp [veqL] at h; rw [veq_eq h.1, veqL_eq h.2]
  | [], _ :: _, h => by simp [veqL] at h
  | _ :: _, [], h => by simp [veqL] at h

/-- The zero value of a type, as an abstract one (what it says is checked by 'zOk'). -/
def zeroT (P : Program) : Nat → TypeId → AV
  | 0, _ => .any
  | d + 1, t => match P.underlying t with
    | some (.struct fs) => .st (fs.toList.foldr (fun f r => .cons (zeroT P d f.type) r) .nil)
    | some (.array n e) => .arr n (match P.info? e with | some i => i.size | none => 0) (fun _ => zeroT P d e)
    | _ => match P.info? t with
      | some i => match i.zero with
        | some v => .val v
        | none => .any
      | none => .any

def zOk (P : Program) (t : TypeId) (z : AV) : Bool :=
  match P.info? t with
  | some i => match i.zero with
    | some v => closed z && veqL (cellsOf z) v.cells.toList
    | none => false
  | none => false

theorem zOk_spec {P : Program} {t : TypeId} {z : AV} (h : zOk P t z = true) : ∃ i v, P.info? t = some i ∧ i.zero = some v ∧ closed z = true ∧ v.cells = (cellsOf z).toArray := by
  unfold zOk at h
  split at h
  · rename_i i hi
    split at h
    · rename_i v hv
      simp only [Bool.and_eq_true] at h
      refine ⟨i, v, hi, hv, h.1, ?_⟩
      rw [veqL_eq h.2]
    · cases h
  · cases h

theorem run_zero {P : Program} {t : TypeId} {i : TypeInfo} {v : Value} (hi : P.info? t = some i) (hv : i.zero = some v) (w : World) : (zeroValue t).run P w = .ok v w := by
  unfold zeroValue typeInfo
  simp only [Sem.run_bind, run_program, Result.andThen_ok, hi, Sem.run_pure, hv]

end Ar
