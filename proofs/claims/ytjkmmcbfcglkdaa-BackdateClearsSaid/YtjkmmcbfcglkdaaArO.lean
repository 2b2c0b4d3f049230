/- Words for contracts: numbers, lists, growing lists; and a nil slice that begins to grow. No condition. -/
import Derived.Test.YtjkmmcbfcglkdaaArN
import Derived.Laws.Externs
namespace Ar
open Go
set_option linter.unusedVariables false
set_option autoImplicit false

abbrev I (n : Int) : AV := .val (.int .i64 n)
abbrev U (n : Int) : AV := .val (.int .u64 n)
abbrev B (b : Bool) : AV := .val (.bool b)

def in64 (n : Int) : Prop := -9223372036854775808 ≤ n ∧ n ≤ 9223372036854775807
def inU64 (n : Int) : Prop := 0 ≤ n ∧ n ≤ 18446744073709551615

theorem wrap_u64 (n : Int) : IntKind.u64.wrap n = n % 18446744073709551616 := by
  simp [IntKind.wrap, IntKind.bits, IntKind.signed]

theorem wrap_i64 (n : Int) : IntKind.i64.wrap n = if n % 18446744073709551616 ≥ 9223372036854775808 then n % 18446744073709551616 - 18446744073709551616 else n % 18446744073709551616 := by
  simp [IntKind.wrap, IntKind.bits, IntKind.signed]

theorem wrap_id {n : Int} (h : in64 n) : IntKind.i64.wrap n = n := by
  rw [wrap_i64]; obtain ⟨h1, h2⟩ := h; split <;> omega

theorem wrap_in (n : Int) : in64 (IntKind.i64.wrap n) := by
  rw [wrap_i64]; unfold in64; split <;> omega

theorem wrapu_id {n : Int} (h : inU64 n) : IntKind.u64.wrap n = n := by
  rw [wrap_u64]; obtain ⟨h1, h2⟩ := h; omega

section
variable {α : Type} [Inhabited α]

def at_ (xs : List α) (i : Nat) : α := xs.getD i default

theorem at_lt {xs : List α} {i : Nat} (h : i < xs.length) : at_ xs i = xs[i] := by simp [at_, h]

theorem at_append_left {xs ys : List α} {i : Nat} (h : i < xs.length) : at_ (xs ++ ys) i = at_ xs i := by
  simp [at_, List.getElem?_append_left h]

theorem at_append_right {xs ys : List α} {i : Nat} (h : xs.length ≤ i) : at_ (xs ++ ys) i = at_ ys (i - xs.length) := by
  simp [at_, List.getElem?_append_right h]

theorem at_mem {xs : List α} {i : Nat} (h : i < xs.length) : at_ xs i ∈ xs := by rw [at_lt h]; exact List.getElem_mem h

theorem take_at {xs : List α} {i : Nat} (h : i < xs.length) : xs.take (i + 1) = xs.take i ++ [at_ xs i] := by
  rw [at_lt h, List.take_succ_eq_append_getElem h]

/-- A list, told element by element. -/
def encT (tok : Option Nat) (enc : α → AV) (e : Nat) (xs : List α) : AV := .lst tok xs.length e (fun i => enc (at_ xs i))

abbrev encL (enc : α → AV) (e : Nat) (xs : List α) : AV := encT none enc e xs

theorem nf_encL {enc : α → AV} {e : Nat} {xs : List α} (h : ∀ x, nf (enc x)) : nf (encL enc e xs) := ⟨rfl, fun i => h _⟩

theorem bnd_encT {enc : α → AV} {e m t : Nat} {xs : List α} (h : ∀ x, nf (enc x)) (ht : t < m) : bnd m (encT (some t) enc e xs) :=
  ⟨fun q hq => by injection hq with hq; omega, fun i => bnd_nf _ (h _)⟩

theorem leA_drop {enc : α → AV} {e : Nat} {tok : Option Nat} {xs : List α} : LeA (encT tok enc e xs) (encL enc e xs) := LeA.lst (.inr rfl) (fun i _ => LeA.refl _)

/-- A list that has grown by another. -/
theorem leA_app {enc : α → AV} {e k : Nat} {tok : Option Nat} {xs ys : List α} {h : Nat → AV} (hk : k = ys.length) (hy : ∀ i, i < ys.length → LeA (h i) (enc (at_ ys i))) :
    LeA (.lst tok (xs.length + k) e (appF xs.length (fun i => enc (at_ xs i)) h)) (encT tok enc e (xs ++ ys)) := by
  subst hk
  unfold encT
  rw [List.length_append]
  refine LeA.lst (.inl rfl) (fun i hi => ?_)
  unfold appF
  by_cases hlt : i < xs.length
  · rw [if_pos hlt, at_append_left hlt]; exact LeA.refl _
  · rw [if_neg hlt, at_append_right (by omega)]; exact hy _ (by omega)

theorem leA_snoc {enc : α → AV} {e : Nat} {tok : Option Nat} {xs : List α} {x : α} {h : Nat → AV} (hy : LeA (h 0) (enc x)) :
    LeA (.lst tok (xs.length + 1) e (appF xs.length (fun i => enc (at_ xs i)) h)) (encT tok enc e (xs ++ [x])) :=
  leA_app (ys := [x]) rfl (fun i hi => by
    obtain rfl : i = 0 := by simpa using hi
    exact hy)

end

theorem LeSt.trans {gl : Nat → AV} {N : Nat} {e e1 e2 : Env} {o o1 o2 : Objs} {n n1 n2 : Nat} (h : LeSt gl N e o n e1 o1 n1) (h' : LeSt gl N e1 o1 n1 e2 o2 n2) : LeSt gl N e o n e2 o2 n2 := by
  intro g w a hg
  obtain ⟨g1, h1, s1⟩ := h g w a hg
  obtain ⟨g2, h2, s2⟩ := h' g1 w a h1
  exact ⟨g2, h2, s1.trans s2⟩

/-- A nil slice in a slot is a growing row of no elements. -/
theorem le_nil {gl : Nat → AV} {N : Nat} {e : Env} {o : Objs} {n : Nat} (t sz : Nat) (ty : TypeId) (f : Nat → AV) (ht : lookE t e = .val (.slice none 0 0)) :
    LeSt gl N e o n ((t, .lst (some n) 0 sz f) :: e) ((n, .room 0 sz ty) :: o) (n + 1) := by
  intro g w a h
  let g' : Gh := { g with r := fun q => if q = n then some (none, 0) else g.r q }
  have hev : Ev g w g' w := ⟨fun _ _ h => h, fun t ob N ht => ⟨ob, N, by
      have := h.rlt t _ ht
      show (if t = n then _ else _) = _
      rw [if_neg (by omega)]; exact ht, Nat.le_refl _, fun _ => rfl⟩, fun _ _ _ => rfl, fun _ => Nat.le_refl _, fun _ c _ hb => ⟨c, hb, rfl⟩⟩
  obtain ⟨k1, k2⟩ := good_new h (w' := w) (g' := g') (x := .room 0 sz ty) hev (Nat.le_refl _) (fun _ _ => rfl) (fun _ _ => rfl) (fun q hq => by show (if q = n then _ else _) = _; rw [if_neg hq]) (fun _ _ => rfl) h.gz
    (fun b hb => by simp [blkOf, g'] at hb) ⟨none, by simp [g'], fun _ => rfl, fun b hb => by cases hb⟩ rfl rfl
  refine ⟨g', ?_, k2⟩
  refine { k1 with env := fun q => ?_ }
  show (R g' w (lookE q ((t, .lst (some n) 0 sz f) :: e))).v _
  rw [lookE_cons]
  by_cases hq : t = q
  · subst hq
    rw [if_pos rfl]
    have hv := h.env t
    rw [show EnvF e t = .val (.slice none 0 0) from ht] at hv
    rw [val_v hv]
    exact ⟨⟨none, 0, rfl, Nat.le_refl _, ⟨none, 0, by simp [g'], Nat.le_refl _, fun _ => ⟨rfl, fun b hb => by cases hb⟩⟩, ⟨rfl, rfl⟩⟩, trivial⟩
  · rw [if_neg hq]; exact k1.env q

/-- The loop that stands in a region of code: a relation over whatever data, and a measure. -/
theorem loop_at {P : Program} {gl : Nat → AV} {N : Nat} (hm : P.follows .mixedOrders = true) {α : Type} (st : α → Env × Objs × Nat) (ok : α → Prop) (μ : α → Nat) {x : IC} {Q : AExit → Post} {e : Env} {o : Objs} {n : Nat} (y : α) (h0 : ok y)
    (hle : LeSt gl N e o n (st y).1 (st y).2.1 (st y).2.2)
    (round : ∀ y, ok y → wp P gl N x (fun ex e o n => match ex with
      | .normal => ∃ z, ok z ∧ μ z < μ y ∧ LeSt gl N e o n (st z).1 (st z).2.1 (st z).2.2
      | .ret => Q .ret e o n
      | .exit i => Q (.exit i) e o n) (st y).1 (st y).2.1 (st y).2.2) : LoopP P gl N x Q e o n := loop_rule hm st ok μ y h0 hle round

theorem eqS_refl : ∀ (s : Sh) (a : AV), eqS s a a = true := by
  intro s
  induction s with
  | int => intro a; unfold eqS; split <;> simp_all
  | bool => intro a; unfold eqS; split <;> simp_all
  | str => intro a; unfold eqS; split <;> simp_all
  | st s ih => intro a; unfold eqS; split <;> simp_all
  | cons s t ihs iht => intro a; unfold eqS; split <;> simp_all
  | arr n e s ih => intro a; unfold eqS; split <;> simp_all
  | nil => intro a; rfl

theorem eqS_eq {s : Sh} {a b : AV} (h : a = b) : eqS s a b = true := h ▸ eqS_refl s a

theorem le_r {a b : Nat} (h : Nat.ble a b = true) : a ≤ b := Nat.le_of_ble_eq_true h
theorem lt_r {a b : Nat} (h : Nat.ble (a + 1) b = true) : a < b := Nat.le_of_ble_eq_true h

/-! What a loop's head asks for, slot by slot. -/
theorem leE_i {e r : Env} {m t : Nat} {k : IntKind} {x y : Int} (h : lookE t e = .val (.int k x)) (hx : x = y) (hr : LeE e m r) : LeE e m ((t, .val (.int k y)) :: r) :=
  ⟨⟨by rw [h, hx]; exact Le.refl _, trivial⟩, hr⟩

theorem leE_b {e r : Env} {m t : Nat} {x y : Bool} (h : lookE t e = .val (.bool x)) (hx : x = y) (hr : LeE e m r) : LeE e m ((t, .val (.bool y)) :: r) :=
  ⟨⟨by rw [h, hx]; exact Le.refl _, trivial⟩, hr⟩

theorem leE_eq {e r : Env} {m t : Nat} {a : AV} (h : lookE t e = a) (hb : bnd m a) (hr : LeE e m r) : LeE e m ((t, a) :: r) :=
  ⟨⟨by rw [h]; exact Le.refl _, hb⟩, hr⟩

theorem leE_le {e r : Env} {m t : Nat} {a b : AV} (h : lookE t e = a) (hab : Le a b) (hb : bnd m b) (hr : LeE e m r) : LeE e m ((t, b) :: r) :=
  ⟨⟨by rw [h]; exact hab, hb⟩, hr⟩

theorem leO_box {o r : Objs} {m k : Nat} {a b : AV} (hk : k < m) (h : lookO k o = some (.box a)) (hab : LeA a b) (hb : bnd m b) (hr : LeO o m r) : LeO o m ((k, .box b) :: r) :=
  ⟨⟨hk, ⟨a, h, hab⟩, hb⟩, hr⟩

theorem leO_room {o r : Objs} {m k q e : Nat} {ty : TypeId} (hk : k < m) (h : lookO k o = some (.room q e ty)) (hr : LeO o m r) : LeO o m ((k, .room q e ty) :: r) :=
  ⟨⟨hk, h⟩, hr⟩

/-! The library's carries. -/
theorem xpure_add64 {P : Program} {f : FuncId} {fn : Func} (hf : P.funcs[f]? = some fn) (hname : (fn.name == "runtime.NumGoroutine") = false) (hb : fn.body.isNone = true) (hn : Extern.findNext fn = none) (he : Extern.find fn = some add64Entry)
    {x y c : Int} (hx : 0 ≤ x) (hy : 0 ≤ y) (hc0 : 0 ≤ c) (hc : c ≤ 1) :
    XPure P f [U x, U y, U c] (.tup (.cons (U ((x + y + c) % 18446744073709551616)) (.cons (U ((x + y + c) / 18446744073709551616)) .nil))) := by
  intro g w cargs hr
  match cargs, hr with
  | [a, b, d], hr =>
    obtain ⟨h1, h2, h3, _⟩ := hr
    rw [val_v h1, val_v h2, val_v h3]
    refine ⟨_, by rw [run_callFunc_extern hf hname hb hn he, run_add64 x y c hx hy hc0 hc]; rfl, ?_⟩
    exact ⟨_, rfl, ⟨rfl, trivial⟩, ⟨rfl, trivial⟩, rfl⟩
  | [], hr => exact hr.elim
  | [_], hr => exact hr.2.elim
  | [_, _], hr => exact hr.2.2.elim
  | _ :: _ :: _ :: _ :: _, hr => exact hr.2.2.2.elim

end Ar
