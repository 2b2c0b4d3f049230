/- Weakening, calls by contract, the code of a function as the walk reads it, and that the machine does what the walk says (regions whose order is fixed). No condition. -/
import Derived.Test.YtjkmmcbfcglkdaaArG
import Derived.Orders
namespace Ar
open Go
set_option linter.unusedVariables false
set_option autoImplicit false

/-! Abstract values without names. -/
def nf : AV → Prop
  | .ptr _ _ => False
  | .sli _ _ _ _ => False
  | .mp _ => False
  | .elt n _ f _ _ => ∀ i, nf (f i)
  | .lst tok n _ f => tok = none ∧ ∀ i, nf (f i)
  | .arr n _ f => ∀ i, nf (f i)
  | .st l => nf l
  | .cons a b => nf a ∧ nf b
  | .tup l => nf l
  | .clo _ a b => nf a ∧ nf b
  | .ifc _ a => nf a
  | _ => True

def Gh.bare (g : Gh) : Gh := ⟨fun _ => none, fun _ => none, g.G⟩

theorem R_nf {g g' : Gh} {w : World} (hG : g'.G = g.G) : ∀ a, nf a → R g' w a = R g w a := by
  intro a
  induction a with
  | ptr o p => intro h; exact h.elim
  | sli o lo n e => intro h; exact h.elim
  | mp o => intro h; exact h.elim
  | elt n e f i p ih => intro h; simp only [R, hG, fun i => ih i (h i)]
  | lst tok n e f ih =>
    intro h
    obtain ⟨rfl, h⟩ := h
    simp only [R, hG, fun i => ih i (h i), tokOk]
  | arr n e f ih => intro h; simp only [R, fun i => ih i (h i)]
  | st l ih => intro h; simp only [R, ih h]
  | cons a b iha ihb => intro h; simp only [R, iha h.1, ihb h.2]
  | tup l ih => intro h; simp only [R, ih h]
  | clo fn a b iha ihb => intro h; simp only [R, iha h.1, ihb h.2]
  | ifc t a ih => intro h; simp only [R, ih h]
  | _ => intro _; rfl

/-! What reads as one abstract value reads as another. -/
structure Le (a b : AV) : Prop where
  v : ∀ g w u, (R g w a).v u → (R g w b).v u

structure LeA (a b : AV) : Prop where
  sz : size a = size b
  v : ∀ g w u, (R g w a).v u → (R g w b).v u
  s : ∀ g w lk off, (R g w a).s lk off → (R g w b).s lk off
  l : ∀ g w vs, (R g w a).l vs → (R g w b).l vs

theorem LeA.le {a b : AV} (h : LeA a b) : Le a b := ⟨h.v⟩
theorem LeA.refl (a : AV) : LeA a a := ⟨rfl, fun _ _ _ h => h, fun _ _ _ _ h => h, fun _ _ _ h => h⟩
theorem LeA.trans {a b c : AV} (h : LeA a b) (h' : LeA b c) : LeA a c := ⟨h.sz.trans h'.sz, fun g w u x => h'.v g w u (h.v g w u x), fun g w lk off x => h'.s g w lk off (h.s g w lk off x), fun g w vs x => h'.l g w vs (h.l g w vs x)⟩
theorem LeA.of_eq {a b : AV} (h : a = b) : LeA a b := h ▸ LeA.refl a
theorem Le.refl (a : AV) : Le a a := ⟨fun _ _ _ h => h⟩
theorem Le.any (a : AV) : Le a .any := ⟨fun _ _ _ _ => trivial⟩
theorem Le.of_eq {a b : AV} (h : a = b) : Le a b := h ▸ Le.refl a
theorem Le.trans {a b c : AV} (h : Le a b) (h' : Le b c) : Le a c := ⟨fun g w u x => h'.v g w u (h.v g w u x)⟩

theorem leA_one {a b : AV} (hs : size a = 1) (hs' : size b = 1) (h : ∀ g w, ∃ p p', R g w a = one p ∧ R g w b = one p' ∧ ∀ u, p u → p' u) : LeA a b :=
  ⟨hs.trans hs'.symm, fun g w u x => by obtain ⟨p, p', e, e', hp⟩ := h g w; rw [e] at x; rw [e']; exact ⟨hp u x.1, x.2⟩,
    fun g w lk off x => by obtain ⟨p, p', e, e', hp⟩ := h g w; rw [e] at x; rw [e']; obtain ⟨u, h1, h2, h3⟩ := x; exact ⟨u, h1, hp u h2, h3⟩,
    fun g w vs x => by obtain ⟨p, p', e, e', hp⟩ := h g w; rw [e] at x; exact x.elim⟩

theorem LeA.cons {a b c d : AV} (h : LeA a b) (h' : LeA c d) : LeA (.cons a c) (.cons b d) :=
  ⟨by simp only [size, h.sz, h'.sz], fun _ _ _ x => x.elim, fun g w lk off x => ⟨h.s g w _ _ x.1, by have := h'.s g w _ _ x.2; rwa [h.sz] at this⟩, fun g w vs x => by
    cases vs with
    | nil => exact x.elim
    | cons u r => exact ⟨h.v g w u x.1, h'.l g w r x.2⟩⟩

theorem LeA.st {a b : AV} (h : LeA a b) : LeA (.st a) (.st b) :=
  ⟨h.sz, fun g w u x => by obtain ⟨cs, h1, h2, h3⟩ := x; exact ⟨cs, h1, by rw [h2, h.sz], h.s g w _ _ h3⟩, fun g w lk off x => h.s g w lk off x, fun _ _ _ x => x.elim⟩

theorem LeA.tup {a b : AV} (h : LeA a b) : LeA (.tup a) (.tup b) :=
  ⟨rfl, fun g w u x => by obtain ⟨vs, h1, h2⟩ := x; exact ⟨vs, h1, h.l g w _ h2⟩, fun _ _ _ _ x => x.elim, fun _ _ _ x => x.elim⟩

theorem LeA.arr {n e : Nat} {f h : Nat → AV} (hf : ∀ i, i < n → LeA (f i) (h i)) : LeA (.arr n e f) (.arr n e h) :=
  ⟨rfl, fun g w u x => by
    obtain ⟨cs, h1, h2, h3⟩ := x
    exact ⟨cs, h1, h2, fun i hi => ⟨(hf i hi).sz ▸ (h3 i hi).1, (hf i hi).s g w _ _ (h3 i hi).2⟩⟩,
    fun g w lk off x i hi => ⟨(hf i hi).sz ▸ (x i hi).1, (hf i hi).s g w _ _ (x i hi).2⟩, fun _ _ _ x => x.elim⟩

theorem LeA.lst {tok tok' : Option Nat} {n e : Nat} {f h : Nat → AV} (ht : tok' = tok ∨ tok' = none) (hf : ∀ i, i < n → LeA (f i) (h i)) : LeA (.lst tok n e f) (.lst tok' n e h) := by
  refine leA_one rfl rfl (fun g w => ⟨_, _, rfl, rfl, ?_⟩)
  rintro u ⟨oa, c, hu, hc, hk, hm⟩
  refine ⟨oa, c, hu, hc, ?_, ?_⟩
  · rcases ht with rfl | rfl
    · exact hk
    · trivial
  · cases oa with
    | none => exact hm
    | some a => exact ⟨hm.1, hm.2.1, fun i hi => ⟨(hf i hi).sz.symm.trans (hm.2.2 i hi).1, (hf i hi).s g w _ _ (hm.2.2 i hi).2⟩⟩

def LeL : List AV → List AV → Prop
  | [], [] => True
  | a :: r, b :: s => Le a b ∧ LeL r s
  | _, _ => False

theorem LeL.refl : ∀ l, LeL l l
  | [] => trivial
  | a :: r => ⟨Le.refl a, LeL.refl r⟩

def RL (g : Gh) (w : World) : List AV → List Value → Prop
  | [], [] => True
  | a :: r, u :: s => (R g w a).v u ∧ RL g w r s
  | _, _ => False

theorem RL.le {g : Gh} {w : World} : ∀ {l m : List AV} {vs : List Value}, LeL l m → RL g w l vs → RL g w m vs
  | [], [], [], _, _ => trivial
  | a :: r, b :: s, u :: t, h, h' => ⟨h.1.v g w u h'.1, RL.le h.2 h'.2⟩
  | [], _ :: _, _, h, _ => h.elim
  | _ :: _, [], _, h, _ => h.elim
  | _ :: _, _ :: _, [], _, h => h.elim
  | [], [], _ :: _, _, h => h.elim

/-- The contract of a function that only computes: called with values that read as 'args' it returns one that reads as 'r', and leaves all that was there. -/
def Pure (P : Program) (gl : Nat → AV) (f : FuncId) (args : List AV) (r : AV) : Prop :=
  (∀ a ∈ args, nf a) ∧ nf r ∧ (∀ i, nf (gl i)) ∧ ∀ (G : Nat → Nat) (w : World) (cargs : List Value), (∀ b, w.heap.size ≤ b → G b = 0) → (∀ i, (R ⟨fun _ => none, fun _ => none, G⟩ w (gl i)).v (.pointer (some ⟨i, 0, none⟩))) →
    RL ⟨fun _ => none, fun _ => none, G⟩ w args cargs →
    Calls P f cargs.toArray w fun x w' => ∃ u G', x = .returned u ∧ Stp ⟨fun _ => none, fun _ => none, G⟩ w [] ⟨fun _ => none, fun _ => none, G'⟩ w' [] ∧ (∀ b, w'.heap.size ≤ b → G' b = 0) ∧
      (R ⟨fun _ => none, fun _ => none, G'⟩ w' r).v u

def CallP (P : Program) (gl : Nat → AV) (f : FuncId) (args : List AV) (K : AV → Prop) : Prop := ∃ args' r, LeL args args' ∧ Pure P gl f args' r ∧ K r

theorem call_pure {P : Program} {gl : Nat → AV} {f : FuncId} {args args' : List AV} {r : AV} {K : AV → Prop} (h : Pure P gl f args' r) (hl : LeL args args') (hK : K r) : CallP P gl f args K := ⟨args', r, hl, h, hK⟩

section
variable {P : Program} {gl : Nat → AV} {N : Nat} {g : Gh} {w : World} {E : Nat → AV} {o : Objs} {n : Nat} {a : Act}

theorem RL_nf {g g' : Gh} {w : World} (hG : g'.G = g.G) : ∀ {l : List AV} {vs : List Value}, (∀ a ∈ l, nf a) → RL g w l vs → RL g' w l vs
  | [], [], _, _ => trivial
  | a :: r, u :: s, hn, h => ⟨by rw [R_nf hG a (hn a (by simp))]; exact h.1, RL_nf hG (fun x hx => hn x (by simp [hx])) h.2⟩
  | [], _ :: _, _, h => h.elim
  | _ :: _, [], _, h => h.elim

/-- A call of a function that only computes, met in a state of the walk. -/
theorem good_call (h : Good gl N g w E o n a) {f : FuncId} {args : List AV} {r : AV} {cargs : List Value} (hp : Pure P gl f args r) (hr : RL g w args cargs) :
    Calls P f cargs.toArray w fun x w' => ∃ u g', x = .returned u ∧ Good gl N g' w' E o n a ∧ Stp g w o g' w' o ∧ (R g' w' r).v u := by
  obtain ⟨h1, h2, h3, h4⟩ := hp
  refine (h4 g.G w cargs h.gz (fun i => by have := h.gl i; rwa [← R_nf (g' := ⟨fun _ => none, fun _ => none, g.G⟩) (g := g) rfl _ (h3 i)] at this) (RL_nf (g := g) (g' := ⟨fun _ => none, fun _ => none, g.G⟩) rfl h1 hr)).mono ?_
  rintro x w' ⟨u, G', hx, hs, hz, hu⟩
  have hheap : ∀ b, b < w.heap.size → w'.heap[b]? = w.heap[b]? ∧ G' b = g.G b := fun b hb => hs.keep b hb (fun ⟨k, x, h5, _⟩ => by simp [lookO] at h5)
  have hev : Ev g w { g with G := G' } w' := ⟨fun _ _ h => h, fun t ob N ht => ⟨ob, N, ht, Nat.le_refl _, fun _ => rfl⟩, hs.pub, hs.le, hs.cap⟩
  have hblk : ∀ k x, blkOf { g with G := G' } k x = blkOf g k x := fun k x => blk_same rfl rfl
  refine ⟨u, { g with G := G' }, hx, ⟨fun k x hk => obj_ev hev (h.objs k x hk) (fun _ h => h) (fun _ h => h) (fun b hb => ?_), fun k x k' x' b a1 a2 a3 a4 => h.inj k x k' x' b a1 a2 (by rw [← hblk]; exact a3) (by rw [← hblk]; exact a4), h.mlt, h.rlt,
    fun t => (R_ev hev _).v _ (h.env t), h.sz, h.def_, hz, fun i => (R_ev hev _).v _ (h.gl i)⟩, ⟨hs.size, fun b hb _ => hheap b hb, fun b hb => ?_, hs.pub, hs.le, hs.cap, hs.os, hs.out⟩, ?_⟩
  · have := hheap b (own_lt h ⟨k, x, hk, hb⟩)
    exact ⟨this.2, this.1⟩
  · obtain ⟨k, x, a1, a2⟩ := hb
    exact .inl ⟨k, x, a1, by rw [← hblk]; exact a2⟩
  · rw [R_nf (g' := { g with G := G' }) (g := ⟨fun _ => none, fun _ => none, G'⟩) rfl _ h2]; exact hu

end

/-! The operations that are no values, and calls, read off the program. -/
def compL (P : Program) : Op → Option IOp
  | .alloc t => match zOk P t (zeroT P 40 t) with
    | true => some (.alloc (zeroT P 40 t))
    | false => none
  | .box _ x => some (.box (cx x))
  | .store t x v => match P.info? t with
    | some i => some (.sto i.size (cx x) (cx v))
    | none => none
  | .buildSlice t len l => match P.underlying t with
    | some (.slice e) => match P.info? e with
      | some i => match zOk P e (zeroT P 40 e) && (Nat.beq (size (zeroT P 40 e)) i.size && (Nat.beq (partsA i.size l.toList).length len && (Nat.ble (len * i.size) 16777216 && Nat.ble 1 i.size))) with
        | true => some (.bsl i.size e (zeroT P 40 e) (partsA i.size l.toList))
        | false => none
      | none => none
    | _ => none
  | .call c => match c.callee, c.args.toList, c.argTypes.toList with
    | .builtin .append, [x, y], [t, t'] => match Nat.beq t t', P.underlying t with
      | true, some (.slice e) => match P.info? e with
        | some i => match i.zero with
          | some z => match Nat.beq z.cells.size i.size && (Nat.ble 1 i.size && Nat.ble 1 i.bytes) with
            | true => some (.app i.size i.bytes e (cx x) (cx y))
            | false => none
          | none => none
        | none => none
      | _, _ => none
    | _, _, _ => none
  | _ => none

theorem compL_ok {P : Program} {gl : Nat → AV} {N : Nat} {g : Gh} {w : World} {E : Nat → AV} {o : Objs} {n : Nat} {a : Act} (h : Good gl N g w E o n a) {oo : Oper} {p : IOp} (hc : compL P oo.op = some p)
    {K : AV → Objs → Nat → Prop} (hw : wpL (evF gl E) o n p K) : Does P gl N g w E o n a oo K := by
  cases ho : oo.op <;> rw [ho] at hc <;> simp only [compL] at hc
  case alloc t =>
    split at hc
    · rename_i hz
      injection hc with hc; subst hc; exact ok_alloc h ho hz hw
    · cases hc
  case box t x => injection hc with hc; subst hc; exact ok_box h ho hw
  case store t x v =>
    split at hc
    · rename_i i hi
      injection hc with hc; subst hc; exact ok_sto h ho hi hw
    · cases hc
  case buildSlice t len l =>
    split at hc
    · rename_i e hd
      split at hc
      · rename_i i hi
        split at hc
        · rename_i hb
          simp only [Bool.and_eq_true] at hb
          obtain ⟨b1, b2, b3, b4, b5⟩ := hb
          injection hc with hc; subst hc
          exact ok_bsl h ho hd hi b1 (beq_eq b2) (beq_eq b3) (Nat.le_of_ble_eq_true b4) (Nat.le_of_ble_eq_true b5) hw
        · cases hc
      · cases hc
    · cases hc
  case call c =>
    split at hc
    · rename_i x y t t' hb hx ht
      split at hc
      · rename_i e htt hd
        split at hc
        · rename_i i hi
          split at hc
          · rename_i z hz
            split at hc
            · rename_i hb2
              simp only [Bool.and_eq_true] at hb2
              obtain ⟨b1, b2, b3⟩ := hb2
              injection hc with hc; subst hc
              have htt := beq_eq htt
              subst htt
              exact ok_app h ho hb hx ht hd hi hz (beq_eq b1) (Nat.le_of_ble_eq_true b2) (Nat.le_of_ble_eq_true b3) hw
            · cases hc
          · cases hc
        · cases hc
      · cases hc
    · cases hc
  all_goals cases hc

def compC (P : Program) : Op → Option IOp
  | .call c => match c.callee with
    | .value (.func f) => match P.funcs[f]? with
      | some fn => match fn.name == "runtime.NumGoroutine", fn.body with
        | false, some _ => some (.call f (c.args.toList.map cx))
        | false, none => some (.xcall f (c.args.toList.map cx))
        | _, _ => none
      | none => none
    | _ => none
  | _ => none

/-- The contract of a function without a text: it answers at once and touches nothing. -/
def XPure (P : Program) (f : FuncId) (args : List AV) (r : AV) : Prop :=
  ∀ (g : Gh) (w : World) (cargs : List Value), RL g w args cargs → ∃ v, (callFunc f cargs.toArray).run P w = .ok (.value v) w ∧ (R g w r).v v

def CallX (P : Program) (f : FuncId) (args : List AV) (K : AV → Prop) : Prop := ∃ r, XPure P f args r ∧ K r

theorem call_x {P : Program} {f : FuncId} {args : List AV} {r : AV} {K : AV → Prop} (h : XPure P f args r) (hK : K r) : CallX P f args K := ⟨r, h, hK⟩

def evFL (gl : Nat → AV) (E : Nat → AV) : List X → List AV
  | [] => []
  | x :: r => evF gl E x :: evFL gl E r

theorem evFL_ok {gl : Nat → AV} {N : Nat} {g : Gh} {w : World} {E : Nat → AV} {o : Objs} {n : Nat} {a : Act} (h : Good gl N g w E o n a) : ∀ (l : List Operand), RL g w (evFL gl E (l.map cx)) (l.map a.eval)
  | [] => trivial
  | x :: r => ⟨ev_ok h x, evFL_ok h r⟩

theorem compC_run {P : Program} {oo : Oper} {f : Nat} {l : List X} (hc : compC P oo.op = some (.call f l)) (a : Act) (w : World) :
    ∃ xs : List Operand, l = xs.map cx ∧ (execOp a.eval oo).run P w = .ok (.enter f (xs.map a.eval).toArray) w := by
  cases ho : oo.op <;> rw [ho] at hc <;> simp only [compC] at hc <;> try cases hc
  rename_i c
  split at hc
  · rename_i f' hcal
    split at hc
    · rename_i fn hf
      split at hc
      · rename_i b hn hb
        injection hc with hc
        injection hc with h1 h2
        subst h1
        refine ⟨c.args.toList, h2.symm, ?_⟩
        unfold execOp
        rw [ho]
        have e1 : (c.args.map a.eval) = (c.args.toList.map a.eval).toArray := by apply Array.ext'; simp
        have e2 : fn.body.isNone = false := by rw [hb]; rfl
        simp only [resolve, hcal, Act.eval, Deferred.ofValue, Sem.run_bind, Sem.run_pure, Result.andThen_ok, invoke, callFunc, run_program, hf, hn, Bool.false_eq_true, if_false, e2, e1]
        simp
      · cases hc
      · cases hc
    · cases hc
  · cases hc

theorem compC_x {P : Program} {oo : Oper} {f : Nat} {l : List X} (hc : compC P oo.op = some (.xcall f l)) (a : Act) (w : World) :
    ∃ xs : List Operand, l = xs.map cx ∧ (execOp a.eval oo).run P w = (callFunc f (xs.map a.eval).toArray).run P w := by
  cases ho : oo.op <;> rw [ho] at hc <;> simp only [compC] at hc <;> try cases hc
  rename_i c
  split at hc
  · rename_i f' hcal
    split at hc
    · rename_i fn hf
      split at hc
      · cases hc
      · injection hc with hc
        injection hc with h1 h2
        subst h1
        refine ⟨c.args.toList, h2.symm, ?_⟩
        unfold execOp
        rw [ho]
        have e1 : (c.args.map a.eval) = (c.args.toList.map a.eval).toArray := by apply Array.ext'; simp
        simp only [resolve, hcal, Act.eval, Deferred.ofValue, Sem.run_bind, Sem.run_pure, Result.andThen_ok, invoke, e1]
        simp
      · cases hc
    · cases hc
  · cases hc

end Ar
