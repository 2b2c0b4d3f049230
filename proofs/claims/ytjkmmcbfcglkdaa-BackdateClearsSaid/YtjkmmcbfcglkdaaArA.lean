/- Abstract values for the walk of a Go function, and what it means that a concrete value, a row of cells or a list of values reads as one. No condition. -/
import Derived.Calls
namespace Ar
open Go
set_option linter.unusedVariables false
set_option autoImplicit false

inductive PE where
  | fld (k off : Nat)
  | idx (j n esz : Nat)

def PE.off : PE → Nat
  | .fld _ o => o
  | .idx j _ e => j * e

def PE.ok : PE → Prop
  | .fld _ _ => True
  | .idx j n _ => j < n

def okPath : List PE → Prop
  | [] => True
  | p :: r => p.ok ∧ okPath r

def offP : List PE → Nat
  | [] => 0
  | p :: r => offP r + p.off

inductive AV where
  | val (x : Value)
  | any
  | ptr (o : Nat) (p : List PE)
  | elt (n esz : Nat) (f : Nat → AV) (i : Nat) (p : List PE)
  | lst (tok : Option Nat) (n esz : Nat) (f : Nat → AV)
  | sli (o lo n esz : Nat)
  | arr (n esz : Nat) (f : Nat → AV)
  | st (l : AV)
  | cons (a b : AV)
  | nil
  | tup (l : AV)
  | clo (fn : Fn) (a b : AV)
  | mp (o : Nat)
  | ifc (t : TypeId) (a : AV)

def size : AV → Nat
  | .arr n e _ => n * e
  | .st l => size l
  | .cons a b => size a + size b
  | .nil => 0
  | .tup _ => 1
  | _ => 1

/-- The names' meaning: a box's block, a growing row's block and length, and how many cells of a block are written for good. -/
structure Gh where
  m : Nat → Option Nat
  r : Nat → Option (Option Nat × Nat)
  G : Nat → Nat

structure RT where
  v : Value → Prop
  s : (Nat → Option Value) → Nat → Prop
  l : List Value → Prop

def cellV : Value → Prop
  | .agg _ => False
  | .tuple _ => False
  | _ => True

def one (p : Value → Prop) : RT := ⟨fun u => p u ∧ cellV u, fun look off => ∃ u, look off = some u ∧ p u ∧ cellV u, fun _ => False⟩

def look (w : World) (b : Nat) : Nat → Option Value := fun j => w.cell? ⟨b, j, none⟩

def Row (w : World) (G : Nat → Nat) (n e : Nat) (sz : Nat → Nat) (S : Nat → (Nat → Option Value) → Nat → Prop) (a : Addr) : Prop :=
  (0 < n → a.spot = none) ∧ (0 < n * e → a.off + n * e ≤ G a.block) ∧ ∀ i, i < n → sz i = e ∧ S i (look w a.block) (a.off + i * e)

def tokOk (g : Gh) (w : World) (tok : Option Nat) (n e : Nat) (oa : Option Addr) (c : Nat) : Prop :=
  match tok with
  | none => True
  | some t => ∃ ob N, g.r t = some (ob, N) ∧ n ≤ N ∧ (n = N → oa = ob.map (fun b => ⟨b, 0, none⟩) ∧
      ∀ b, ob = some b → ∃ (cs : Array Value) (ty : TypeId), w.heap[b]? = some (.cells cs ty (0, 0)) ∧ cs.size = c * e ∧ c ≤ 9223372036854775807)

def ORow (w : World) (G : Nat → Nat) (n e : Nat) (sz : Nat → Nat) (S : Nat → (Nat → Option Value) → Nat → Prop) (c : Nat) (oa : Option Addr) : Prop :=
  match oa with
  | none => n = 0 ∧ c = 0
  | some a => Row w G n e sz S a

def R (g : Gh) (w : World) : AV → RT
  | .val x => one (fun u => u = x)
  | .any => ⟨fun _ => True, fun look off => ∃ u, look off = some u ∧ cellV u, fun _ => False⟩
  | .ptr o p => one (fun u => ∃ b, okPath p ∧ g.m o = some b ∧ u = .pointer (some ⟨b, offP p, none⟩))
  | .elt n e f i p => one (fun u => okPath p ∧ i < n ∧ ∃ a, Row w g.G n e (fun i => size (f i)) (fun i => (R g w (f i)).s) a ∧
      u = .pointer (some ⟨a.block, a.off + (i * e + offP p), none⟩))
  | .lst tok n e f => one (fun u => ∃ oa c, u = .slice oa n c ∧ n ≤ c ∧ tokOk g w tok n e oa c ∧
      ORow w g.G n e (fun i => size (f i)) (fun i => (R g w (f i)).s) c oa)
  | .sli o lo n e => one (fun u => ∃ b c, g.m o = some b ∧ n ≤ c ∧ u = .slice (some ⟨b, lo * e, none⟩) n c)
  | .arr n e f => ⟨fun u => ∃ cs : Array Value, u = .agg cs ∧ cs.size = n * e ∧ ∀ i, i < n → size (f i) = e ∧ (R g w (f i)).s (fun j => cs[j]?) (0 + i * e),
      fun look off => ∀ i, i < n → size (f i) = e ∧ (R g w (f i)).s look (off + i * e), fun _ => False⟩
  | .st l => ⟨fun u => ∃ cs : Array Value, u = .agg cs ∧ cs.size = size l ∧ (R g w l).s (fun j => cs[j]?) 0, (R g w l).s, fun _ => False⟩
  | .cons a b => ⟨fun _ => False, fun look off => (R g w a).s look off ∧ (R g w b).s look (off + size a),
      fun vs => match vs with | [] => False | u :: r => (R g w a).v u ∧ (R g w b).l r⟩
  | .nil => ⟨fun _ => False, fun _ _ => True, fun vs => vs = []⟩
  | .tup l => ⟨fun u => ∃ vs, u = .tuple vs ∧ (R g w l).l vs.toList, fun _ _ => False, fun _ => False⟩
  | .clo fn a b => one (fun u => ∃ xs ys, u = .func fn xs ys ∧ (R g w a).l xs.toList ∧ (R g w b).l ys.toList)
  | .mp o => one (fun u => ∃ b, g.m o = some b ∧ u = .map (some b))
  | .ifc t a => one (fun u => ∃ x, u = .iface t x ∧ (R g w a).v x)

/-- What keeps every reading. -/
structure Ev (g : Gh) (w : World) (g' : Gh) (w' : World) : Prop where
  m : ∀ o b, g.m o = some b → g'.m o = some b
  r : ∀ t ob N, g.r t = some (ob, N) → ∃ ob' N', g'.r t = some (ob', N') ∧ N ≤ N' ∧ (N = N' → ob = ob')
  pub : ∀ b off, off < g.G b → w'.cell? ⟨b, off, none⟩ = w.cell? ⟨b, off, none⟩
  le : ∀ b, g.G b ≤ g'.G b
  cap : ∀ (b : Nat) (cs : Array Value) (ty : TypeId), w.heap[b]? = some (.cells cs ty (0, 0)) → ∃ cs' : Array Value, w'.heap[b]? = some (.cells cs' ty (0, 0)) ∧ cs'.size = cs.size

theorem Ev.refl (g : Gh) (w : World) : Ev g w g w :=
  ⟨fun _ _ h => h, fun _ ob N h => ⟨ob, N, h, Nat.le_refl _, fun _ => rfl⟩, fun _ _ _ => rfl, fun _ => Nat.le_refl _, fun _ cs _ h => ⟨cs, h, rfl⟩⟩

theorem Ev.trans {g g1 g2 : Gh} {w w1 w2 : World} (h : Ev g w g1 w1) (h' : Ev g1 w1 g2 w2) : Ev g w g2 w2 where
  m := fun o b hb => h'.m o b (h.m o b hb)
  r := fun t ob N ht => by
    obtain ⟨ob1, N1, h1, hl1, he1⟩ := h.r t ob N ht
    obtain ⟨ob2, N2, h2, hl2, he2⟩ := h'.r t ob1 N1 h1
    refine ⟨ob2, N2, h2, Nat.le_trans hl1 hl2, fun e => ?_⟩
    have e1 : N = N1 := by omega
    have e2 : N1 = N2 := by omega
    rw [he1 e1, he2 e2]
  pub := fun b off ho => (h'.pub b off (Nat.lt_of_lt_of_le ho (h.le b))).trans (h.pub b off ho)
  le := fun b => Nat.le_trans (h.le b) (h'.le b)
  cap := fun b cs ty hb => by
    obtain ⟨cs1, h1, e1⟩ := h.cap b cs ty hb
    obtain ⟨cs2, h2, e2⟩ := h'.cap b cs1 ty h1
    exact ⟨cs2, h2, e2.trans e1⟩

theorem tokOk_ev {g g' : Gh} {w w' : World} (h : Ev g w g' w') {tok : Option Nat} {n e : Nat} {oa : Option Addr} {c : Nat}
    (ht : tokOk g w tok n e oa c) : tokOk g' w' tok n e oa c := by
  cases tok with
  | none => trivial
  | some t =>
    obtain ⟨ob, N, hr, hn, hc⟩ := ht
    obtain ⟨ob', N', hr', hN, he⟩ := h.r t ob N hr
    refine ⟨ob', N', hr', Nat.le_trans hn hN, fun e' => ?_⟩
    have e1 : n = N := by omega
    have e2 : N = N' := by omega
    obtain ⟨h1, h2⟩ := hc e1
    obtain rfl := he e2
    refine ⟨h1, fun b hb => ?_⟩
    obtain ⟨cs, ty, hcs, hle, hm⟩ := h2 b hb
    obtain ⟨cs', hcs', hs⟩ := h.cap b cs ty hcs
    exact ⟨cs', ty, hcs', by rw [hs]; exact hle, hm⟩

structure Keeps (g : Gh) (w : World) (g' : Gh) (w' : World) (a : AV) : Prop where
  v : ∀ u, (R g w a).v u → (R g' w' a).v u
  s : ∀ lk off lk' off', (∀ j, j < size a → lk' (off' + j) = lk (off + j)) → (R g w a).s lk off → (R g' w' a).s lk' off'
  l : ∀ vs, (R g w a).l vs → (R g' w' a).l vs

theorem keeps_one {g g' : Gh} {w w' : World} {a : AV} {p p' : Value → Prop} (e : R g w a = one p) (e' : R g' w' a = one p') (hs : size a = 1)
    (h : ∀ u, p u → p' u) : Keeps g w g' w' a where
  v := fun u hu => by rw [e] at hu; rw [e']; exact ⟨h u hu.1, hu.2⟩
  s := fun lk off lk' off' hl hu => by
    rw [e] at hu; rw [e']
    obtain ⟨u, h1, h2, h3⟩ := hu
    have := hl 0 (by omega)
    simp only [Nat.add_zero] at this
    exact ⟨u, this.trans h1, h u h2, h3⟩
  l := fun vs hu => by rw [e] at hu; exact hu.elim

theorem mul_add_lt {i n e j : Nat} (hi : i < n) (hj : j < e) : i * e + j < n * e := by
  have : (i + 1) * e ≤ n * e := Nat.mul_le_mul_right e hi
  rw [Nat.succ_mul] at this
  omega

theorem row_ev {g g' : Gh} {w w' : World} (h : Ev g w g' w') {n e : Nat} {f : Nat → AV} {a : Addr} (ih : ∀ i, Keeps g w g' w' (f i))
    (hr : Row w g.G n e (fun i => size (f i)) (fun i => (R g w (f i)).s) a) : Row w' g'.G n e (fun i => size (f i)) (fun i => (R g' w' (f i)).s) a := by
  obtain ⟨h1, h2, h3⟩ := hr
  refine ⟨h1, fun hp => Nat.le_trans (h2 hp) (h.le _), fun i hi => ?_⟩
  obtain ⟨hs, hc⟩ := h3 i hi
  refine ⟨hs, (ih i).s _ _ _ _ (fun j hj => ?_) hc⟩
  have hs' : size (f i) = e := hs
  have := mul_add_lt hi (hs' ▸ hj)
  exact h.pub _ _ (by have := h2 (by omega); omega)

theorem R_ev {g g' : Gh} {w w' : World} (h : Ev g w g' w') : ∀ a, Keeps g w g' w' a := by
  intro a
  induction a with
  | val x => exact keeps_one rfl rfl rfl (fun u hu => hu)
  | any => exact ⟨fun _ _ => trivial, fun lk off lk' off' hl ⟨u, h1, h2⟩ => ⟨u, by have := hl 0 (by simp [size]); simp only [Nat.add_zero] at this; exact this.trans h1, h2⟩, fun _ hf => hf.elim⟩
  | ptr o p => exact keeps_one rfl rfl rfl (fun u ⟨b, hp, hb, hu⟩ => ⟨b, hp, h.m o b hb, hu⟩)
  | elt n e f i p ih => exact keeps_one rfl rfl rfl (fun u ⟨hp, hi, a, hr, hu⟩ => ⟨hp, hi, a, row_ev h ih hr, hu⟩)
  | lst tok n e f ih =>
    refine keeps_one rfl rfl rfl ?_
    rintro u ⟨oa, c, hu, hc, ht, hm⟩
    refine ⟨oa, c, hu, hc, tokOk_ev h ht, ?_⟩
    cases oa with
    | none => exact hm
    | some a => exact row_ev h ih hm
  | sli o lo n e => exact keeps_one rfl rfl rfl (fun u ⟨b, c, hb, hc, hu⟩ => ⟨b, c, h.m o b hb, hc, hu⟩)
  | arr n e f ih =>
    refine ⟨fun u ⟨cs, hu, hs, hc⟩ => ⟨cs, hu, hs, fun i hi => ⟨(hc i hi).1, (ih i).s _ _ _ _ (fun _ _ => rfl) (hc i hi).2⟩⟩, fun lk off lk' off' hl hc i hi => ⟨(hc i hi).1, (ih i).s _ _ _ _ (fun j hj => ?_) (hc i hi).2⟩, fun _ hf => hf.elim⟩
    have := mul_add_lt hi ((hc i hi).1 ▸ hj)
    have h2 := hl (i * e + j) (by simpa [size] using this)
    simpa [Nat.add_assoc] using h2
  | st l ih =>
    exact ⟨fun u ⟨cs, hu, hs, hc⟩ => ⟨cs, hu, hs, ih.s _ _ _ _ (fun _ _ => rfl) hc⟩, fun lk off lk' off' hl hc => ih.s _ _ _ _ (fun j hj => hl j (by simpa [size] using hj)) hc, fun _ hf => hf.elim⟩
  | cons a b iha ihb =>
    refine ⟨fun _ hf => hf.elim, fun lk off lk' off' hl ⟨h1, h2⟩ => ⟨iha.s _ _ _ _ (fun j hj => hl j (by simp only [size]; omega)) h1, ihb.s _ _ _ _ (fun j hj => ?_) h2⟩, fun vs => ?_⟩
    · have := hl (size a + j) (by simp only [size]; omega)
      simpa [Nat.add_assoc] using this
    · cases vs with
      | nil => exact fun hf => hf.elim
      | cons u r => exact fun ⟨h1, h2⟩ => ⟨iha.v u h1, ihb.l r h2⟩
  | nil => exact ⟨fun _ hf => hf.elim, fun _ _ _ _ _ _ => trivial, fun _ h => h⟩
  | tup l ih => exact ⟨fun u ⟨vs, hu, hc⟩ => ⟨vs, hu, ih.l _ hc⟩, fun _ _ _ _ _ hf => hf.elim, fun _ hf => hf.elim⟩
  | clo fn a b iha ihb => exact keeps_one rfl rfl rfl (fun u ⟨xs, ys, hu, h1, h2⟩ => ⟨xs, ys, hu, iha.l _ h1, ihb.l _ h2⟩)
  | mp o => exact keeps_one rfl rfl rfl (fun u ⟨b, hb, hu⟩ => ⟨b, h.m o b hb, hu⟩)
  | ifc t a ih => exact keeps_one rfl rfl rfl (fun u ⟨x, hu, hx⟩ => ⟨x, hu, ih.v _ hx⟩)

theorem R_look {g : Gh} {w : World} {a : AV} {lk lk' : Nat → Option Value} {off off' : Nat} (hl : ∀ j, j < size a → lk' (off' + j) = lk (off + j))
    (h : (R g w a).s lk off) : (R g w a).s lk' off' := (R_ev (Ev.refl g w) a).s _ _ _ _ hl h

end Ar
