/- The code of a function: what the walk over it says, the machine does; loops by a relation and a measure; and a function's contract out of the walk over its body. No condition. -/
import Derived.Test.YtoglphkkhhjodaaDoorA5
import Derived.Scope
set_option linter.all false
namespace Ar
open Go
set_option linter.unusedVariables false
set_option autoImplicit false

def drawOk (ops : Array Oper) (es : List Ent) : Bool := lexC ops es es.length 0 (Array.replicate ops.size false)

/-- The slots of stores that may come ahead of the load number k. -/
def sepsOf (ops : Array Oper) (es : List Ent) (k : Nat) : List Nat := (List.range ops.size).filterMap fun j => match es[k]?, es[j]? with
  | some x, some y => match Nat.beq j k || (apartE x y || transC ops k ops.size j), adr x.op, adrS y.op with
    | false, some _, some q => match Nat.ble (k + 1) j with
      | true => some q
      | false => none
    | _, _, _ => none
  | _, _ => none

def withS (ops : Array Oper) (es : List Ent) : List (Ent × List Nat) := (List.range es.length).map fun k => (es.getD k (.n .dead), sepsOf ops es k)

def drawOkS (ops : Array Oper) (es : List Ent) (l : List (Ent × List Nat)) : Bool := lexS ops es (l.map (·.2)) 0 (Array.replicate ops.size false)

/-! Regions in which boxes are made. -/
def allocIx (es : List Ent) : List Nat := (List.range es.length).filter fun i => match es[i]? with
  | some (.o _ (.alloc _)) => true
  | _ => false

def jOf (A : List Nat) (i : Nat) : Nat := A.length - A.idxOf i

def remk1 (es : List Ent) (A : List Nat) (i : Nat) (en : Ent) : Ent := match en with
  | .o d (.alloc z) => .o d (.alcN (jOf A i) z)
  | .n (.sto sz (.t d) v) => match A.find? (fun a => match es[a]? with
      | some e => (match e.dst with | some d' => Nat.beq d d' | none => false)
      | none => false) with
    | some a => .n (.stoN (jOf A a) sz (.t d) v)
    | none => en
  | en => en

def remk (es : List Ent) : List Ent := (List.range es.length).map fun i => remk1 es (allocIx es) i (es.getD i (.n .dead))

def ordK (p : IOp) : Nat := match p with
  | .alcN _ _ => 1
  | .stoN _ _ _ _ => 2
  | .sto _ _ _ => 2
  | _ => 0

def ordIx (es : List Ent) : List Nat :=
  ((List.range es.length).filter fun i => Nat.beq (ordK (es.getD i (.n .dead)).op) 0) ++
    (((List.range es.length).filter fun i => Nat.beq (ordK (es.getD i (.n .dead)).op) 1) ++ ((List.range es.length).filter fun i => Nat.beq (ordK (es.getD i (.n .dead)).op) 2))

def zsOf (ops : Array Oper) (es : List Ent) (k : Nat) : List Nat := (List.range ops.size).filterMap fun j => match es[k]?, es[j]? with
  | some x, some y => match adr x.op, adrN y.op, transC ops k ops.size j with
    | some _, some q, false => some q
    | _, _, _ => none
  | _, _ => none

def ordR (ops : Array Oper) (es : List Ent) : List (Nat × List Nat) := (ordIx es).map fun k => (k, zsOf ops es k)

def drawOkR (ops : Array Oper) (es : List Ent) : Bool := (es.all fun en => keepN en.op) && (Nat.beq (ordR ops es).length ops.size && lexR ops es (ordR ops es) (Array.replicate ops.size false))

/-- Calls of any kind. -/
def xop : IOp → IOp
  | .call f l => .callx f l
  | p => p

def Ent.xe : Ent → Ent
  | .o d p => .o d (xop p)
  | .n p => .n (xop p)
  | .og d j b p => .og d j b (xop p)
  | .ng j b p => .ng j b (xop p)

theorem entOf_xe {P : Program} {N : Nat} {ops : List Oper} {oo : Oper} {en : Ent} (h : EntOf P N ops oo en) (hc : compOp P oo.op = some en.op) : EntOf P N ops oo en.xe := by
  have hx : OpIs P oo.op (xop en.op) := by
    cases hp : en.op <;> rw [hp] at hc
    case call f l => exact .inr (.inr (.inr ⟨f, l, hc, rfl⟩))
    all_goals exact .inl hc
  cases en <;> exact ⟨h.dst, h.lt, hx, h.gd⟩

def comp (P : Program) (N : Nat) : Code → Option IC
  | .skip => some .skip
  | .region _ ops draw => match compE P N ops.toList ops.toList with
    | some es => match draw with
      | false => some (.ops es)
      | true => match drawOk ops (es.map Ent.xe) with
       | true => some (.dops (es.map Ent.xe))
       | false => match drawOk ops es with
        | true => some (.dops es)
        | false => match drawOkS ops es (withS ops es) with
          | true => some (.dopss (withS ops es))
          | false => match drawOkR ops (remk es) with
            | true => some (.dopr (allocIx es).length (pickE (remk es) (ordR ops (remk es))))
            | false => none
    | none => none
  | .seq a b => match comp P N a, comp P N b with
    | some x, some y => some (.seq x y)
    | _, _ => none
  | .cond c a b => match comp P N a, comp P N b with
    | some x, some y => some (.cond (cx c) x y)
    | _, _ => none
  | .block id a => match comp P N a with
    | some x => some (.block id x)
    | none => none
  | .loop a => match comp P N a with
    | some x => some (.loop x)
    | none => none
  | .exit id => some (.exit id)
  | .ret => some .ret
  | .scope a => comp P N a
  | .label _ => some .skip
  | _ => none

def ExR : AExit → Exit → Prop
  | .normal, .normal => True
  | .ret, .ret => True
  | .exit i, .exit j => i = j
  | _, _ => False

def Up (P : Program) (gl : Nat → AV) (N : Nat) (g : Gh) (w : World) (o : Objs) (Q : AExit → Post) : Exit → Act → World → Prop := fun x a' w' =>
  ∃ x' g' e' o' n', ExR x' x ∧ Good P gl N g' w' (EnvF e') o' n' a' ∧ Stp g w o g' w' o' ∧ Q x' e' o' n'

def SemC (P : Program) (gl : Nat → AV) (N : Nat) (c : Code) (Q : AExit → Post) (e : Env) (o : Objs) (n : Nat) : Prop :=
  ∀ g w a, Good P gl N g w (EnvF e) o n a → c.wp P (Up P gl N g w o Q) a w

/-! Weakening a state. -/
def LeSt (gl : Nat → AV) (N : Nat) (e : Env) (o : Objs) (n : Nat) (e' : Env) (o' : Objs) (n' : Nat) : Prop :=
  ∀ (P : Program) g w a, Good P gl N g w (EnvF e) o n a → ∃ g', Good P gl N g' w (EnvF e') o' n' a ∧ Stp g w o g' w o'

theorem LeSt.refl (gl : Nat → AV) (N : Nat) (e : Env) (o : Objs) (n : Nat) : LeSt gl N e o n e o n := fun P g w a h => ⟨g, h, Stp.refl g w o⟩

/-- What a round of a loop comes to. -/
def RoundQ (gl : Nat → AV) (N : Nat) {α : Type} (st : α → Env × Objs × Nat) (ok : α → Prop) (μ : α → Nat) (y : α) (Q : AExit → Post) (ex : AExit) (e : Env) (o : Objs) (n : Nat) : Prop := match ex with
  | .normal => ∃ z, ok z ∧ μ z < μ y ∧ LeSt gl N e o n (st z).1 (st z).2.1 (st z).2.2
  | .ret => Q .ret e o n
  | .exit i => Q (.exit i) e o n

/-- A loop, by a relation over whatever data, and a measure. -/
structure LoopP (gl : Nat → AV) (N : Nat) (W : (AExit → Post) → Post) (Q : AExit → Post) (e : Env) (o : Objs) (n : Nat) : Prop where
  h : ∃ (α : Type) (st : α → Env × Objs × Nat) (ok : α → Prop) (μ : α → Nat) (y : α), ok y ∧ LeSt gl N e o n (st y).1 (st y).2.1 (st y).2.2 ∧
    ∀ y, ok y → W (RoundQ gl N st ok μ y Q) (st y).1 (st y).2.1 (st y).2.2

def wp (P : Program) (gl : Nat → AV) (N : Nat) : IC → (AExit → Post) → Post
  | .skip, Q, e, o, n => Q .normal e o n
  | .ops l, Q, e, o, n => wpE true P gl l (Q .normal) e o n
  | .dops l, Q, e, o, n => wpE false P gl l (Q .normal) e o n
  | .dopss l, Q, e, o, n => wpES P gl l (Q .normal) e o n
  | .dopr m l, Q, e, o, n => chk (Nat.ble (n + m) LENT) (wpER P gl l (Q .normal) e (pre m n o) (n + m))
  | .seq a b, Q, e, o, n => wp P gl N a (fun x e o n => match x with
    | .normal => wp P gl N b Q e o n
    | .ret => Q .ret e o n
    | .exit i => Q (.exit i) e o n) e o n
  | .cond x a b, Q, e, o, n => match ev gl e x with
    | .val (.bool t) => br t (wp P gl N a Q e o n) (wp P gl N b Q e o n)
    | _ => False
  | .block id a, Q, e, o, n => wp P gl N a (fun x e o n => match x with
    | .normal => Q .normal e o n
    | .ret => Q .ret e o n
    | .exit i => match Nat.beq i id with
      | true => Q .normal e o n
      | false => Q (.exit i) e o n) e o n
  | .loop a, Q, e, o, n => LoopP gl N (wp P gl N a) Q e o n
  | .exit id, Q, e, o, n => Q (.exit id) e o n
  | .ret, Q, e, o, n => Q .ret e o n

section
variable {P : Program} {gl : Nat → AV} {N : Nat}

theorem wpOp_F {b : Bool} {e : Env} {o : Objs} {n : Nat} {p : IOp} {K : AV → Objs → Nat → Prop} (h : Ar.wpOp b P gl e o n p K) : wpF b P gl ⟨EnvF e, o, n⟩ p K := by
  have e1 : ev gl e = evF gl (EnvF e) := ev_eq gl e
  have e2 : EnvF e = fun t => lookE t e := rfl
  cases p <;> simp only [Ar.wpOp, e1, force_iff, forceO_iff, forceL_iff, evL_eq] at h
  case calv x l =>
    simp only [wpF]
    split at h
    · rename_i f a c he
      (try rw [he])
      refine ⟨h.1, ?_⟩
      cases b with
      | true => exact h.2
      | false => exact h.2.d rfl
    · exact h.elim
  all_goals first
    | exact h
    | (cases b with
       | true => exact h
       | false => exact h.d rfl)

theorem wpE_cons {b : Bool} {en : Ent} {r : List Ent} {K : Post} {e : Env} {o : Objs} {n : Nat} (h : wpE b P gl (en :: r) K e o n) : wpE b P gl [en] (wpE b P gl r K) e o n := by
  cases en <;> exact h

/-- One entry of a region whose order is fixed, on the machine. -/
theorem ent_ok {ops : Array Oper} {g : Gh} {w : World} {e : Env} {o : Objs} {n : Nat} {a : Act} (h : Good P gl N g w (EnvF e) o n a) {i : Nat} {oo : Oper} {en : Ent} (hi : ops[i]? = some oo) (he : EntOf P N ops.toList oo en) {K : Post} (hq : wpE true P gl [en] K e o n)
    {next : Act → World → Prop} {Q : Exit → Act → World → Prop}
    (hn : ∀ e' o' n' g' w' a', Good P gl N g' w' (EnvF e') o' n' a' → Stp g w o g' w' o' → K e' o' n' → next a' w') : Go.wpOp P ops Q i next a w := by
  have hs : Good P gl N g w (⟨EnvF e, o, n⟩ : FS).E (⟨EnvF e, o, n⟩ : FS).o (⟨EnvF e, o, n⟩ : FS).n a := h
  unfold Go.wpOp
  rw [hi]
  simp only []
  have hdst := he.dst
  have hlt := he.lt
  cases en with
  | o d op =>
    rw [guard_ok hs he (r := true) rfl]
    simp only [if_true]
    refine .inl (compI_ok hs he.op (wpOp_F hq) fun v cv g' w' o' n' a' hv hg hst hK => ?_)
    rw [← hdst]
    exact hn ((d, v) :: e) o' n' g' w' _ (hg.putE (hlt d hdst.symm) hv) hst hK
  | n op =>
    rw [guard_ok hs he (r := true) rfl]
    simp only [if_true]
    refine .inl (compI_ok hs he.op (wpOp_F hq) fun v cv g' w' o' n' a' hv hg hst hK => ?_)
    rw [← hdst]
    exact hn e o' n' g' w' _ hg hst hK
  | og d j b op =>
    rcases wpE_og hq with ⟨hgd, hq⟩ | ⟨hgd, hq⟩
    · rw [guard_ok hs he (r := true) hgd]
      simp only [if_true]
      refine .inl (compI_ok hs he.op (wpOp_F (show Ar.wpOp true P gl e o n op _ from hq)) fun v cv g' w' o' n' a' hv hg hst hK => ?_)
      rw [← hdst]
      exact hn ((d, v) :: e) o' n' g' w' _ (hg.putE (hlt d hdst.symm) hv) hst hK
    · rw [guard_ok hs he (r := false) hgd]
      simp only [Bool.false_eq_true, if_false]
      rw [← hdst]
      exact hn ((d, .tup .nil) :: e) o n g w _ (h.putE (hlt d hdst.symm) (v := .tup .nil) (u := undef) ⟨#[], rfl, rfl⟩) (Stp.refl g w o) hq
  | ng j b op =>
    rcases wpE_ng hq with ⟨hgd, hq⟩ | ⟨hgd, hq⟩
    · rw [guard_ok hs he (r := true) hgd]
      simp only [if_true]
      refine .inl (compI_ok hs he.op (wpOp_F (show Ar.wpOp true P gl e o n op _ from hq)) fun v cv g' w' o' n' a' hv hg hst hK => ?_)
      rw [← hdst]
      exact hn e o' n' g' w' _ hg hst hK
    · rw [guard_ok hs he (r := false) hgd]
      simp only [Bool.false_eq_true, if_false]
      rw [← hdst]
      exact hn e o n g w _ h (Stp.refl g w o) hq

theorem wpE_fix {ops : Array Oper} {es : List Ent} {K : Post} {Q' : Exit → Act → World → Prop} {g0 : Gh} {w0 : World} {o0 : Objs} (hes : ∀ (j : Nat) oj, ops[j]? = some oj → ∃ ej, es[j]? = some ej ∧ EntOf P N ops.toList oj ej)
    (hQ : ∀ e o n g w a, Good P gl N g w (EnvF e) o n a → Stp g0 w0 o0 g w o → K e o n → Q' .normal a w) : ∀ (l : List Ent) (k : Nat) (e : Env) (o : Objs) (n : Nat) (g : Gh) (w : World) (a : Act), (∀ j, l[j]? = es[k + j]?) → k + l.length = ops.size →
    Good P gl N g w (EnvF e) o n a → Stp g0 w0 o0 g w o → wpE true P gl l K e o n → wpOps P ops Q' (List.range' k l.length) a w
  | [], k, e, o, n, g, w, a, _, _, h, hs, hq => hQ e o n g w a h hs hq
  | en :: r, k, e, o, n, g, w, a, hl, hk, h, hs, hq => by
    have h0 : es[k]? = some en := by simpa using (hl 0).symm
    have hlt : k < ops.size := by simp at hk; omega
    obtain ⟨en', he1, he2⟩ := hes k ops[k] (Array.getElem?_eq_getElem hlt)
    rw [h0] at he1
    injection he1 with he1
    subst he1
    rw [List.length_cons, List.range'_succ, wpOps_cons]
    exact ent_ok h (Array.getElem?_eq_getElem hlt) he2 (wpE_cons hq) (fun e' o' n' g' w' a' hg hst hK => wpE_fix hes hQ r (k + 1) e' o' n' g' w' a' (fun j => by have := hl (j + 1); simpa [Nat.add_assoc, Nat.add_comm 1 j] using this) (by simp at hk; omega) hg (hs.trans hst) hK)

theorem wpE_txt {K : Post} : ∀ (l : List Ent) {e : Env} {o : Objs} {n : Nat}, wpE false P gl l K e o n → wpTxt P gl (fun s => ∃ e', s.E = EnvF e' ∧ K e' s.o s.n) l ⟨EnvF e, o, n⟩
  | [], e, o, n, h => ⟨e, rfl, h⟩
  | .o d op :: r, e, o, n, h => by
    obtain ⟨v, o', n', h1, h2⟩ := wpF_ex (wpOp_F h)
    refine ⟨v, o', n', .inl ⟨rfl, h1⟩, ?_⟩
    have := wpE_txt r h2
    rw [← putF_cons] at this
    exact this
  | .n op :: r, e, o, n, h => by
    obtain ⟨v, o', n', h1, h2⟩ := wpF_ex (wpOp_F h)
    exact ⟨v, o', n', .inl ⟨rfl, h1⟩, wpE_txt r h2⟩
  | .og d j b op :: r, e, o, n, h => by
    rcases wpE_og h with ⟨hgd, h⟩ | ⟨hgd, h⟩
    · obtain ⟨v, o', n', h1, h2⟩ := wpF_ex (wpOp_F (show Ar.wpOp false P gl e o n op _ from h))
      refine ⟨v, o', n', .inl ⟨hgd, h1⟩, ?_⟩
      have := wpE_txt r h2
      rw [← putF_cons] at this
      exact this
    · refine ⟨.tup .nil, o, n, .inr ⟨hgd, rfl, rfl, rfl⟩, ?_⟩
      have := wpE_txt r (show wpE false P gl r K _ o n from h)
      rw [← putF_cons] at this
      exact this
  | .ng j b op :: r, e, o, n, h => by
    rcases wpE_ng h with ⟨hgd, h⟩ | ⟨hgd, h⟩
    · obtain ⟨v, o', n', h1, h2⟩ := wpF_ex (wpOp_F (show Ar.wpOp false P gl e o n op _ from h))
      exact ⟨v, o', n', .inl ⟨hgd, h1⟩, wpE_txt r h2⟩
    · exact ⟨.tup .nil, o, n, .inr ⟨hgd, rfl, rfl, rfl⟩, wpE_txt r (show wpE false P gl r K _ o n from h)⟩

theorem qE_txt {en : Ent} {K : Post} {e : Env} {o : Objs} {n : Nat} (h : wpE false P gl [en] K e o n) : qE P gl en (fun s => ∃ e', s.E = EnvF e' ∧ K e' s.o s.n) ⟨EnvF e, o, n⟩ := wpE_txt [en] h

theorem wpES_txt {K : Post} : ∀ (l : List (Ent × List Nat)) {e : Env} {o : Objs} {n : Nat}, wpES P gl l K e o n → wpTxtS P gl (fun s => ∃ e', s.E = EnvF e' ∧ K e' s.o s.n) l ⟨EnvF e, o, n⟩
  | [], e, o, n, h => ⟨e, rfl, h⟩
  | (en, js) :: r, e, o, n, h => by
    simp only [wpES, chk_iff] at h
    refine ⟨?_, ?_⟩
    · have : en.iop = en.op := by cases en <;> rfl
      rw [← this]; exact h.1
    · refine qE_mono ?_ (qE_txt h.2)
      rintro ⟨E, o', n'⟩ ⟨e', he, hk⟩
      obtain rfl : E = EnvF e' := he
      exact wpES_txt r hk

theorem wpER_txt {K : Post} : ∀ (l : List (Ent × List Nat)) {e : Env} {o : Objs} {n : Nat}, wpER P gl l K e o n → wpTxtR P gl (fun s => ∃ e', s.E = EnvF e' ∧ K e' s.o s.n) l ⟨EnvF e, o, n⟩
  | [], e, o, n, h => ⟨e, rfl, h⟩
  | (en, js) :: r, e, o, n, h => by
    simp only [wpER, chk_iff] at h
    refine ⟨h.1, ?_⟩
    refine qE_mono ?_ (qE_txt h.2)
    rintro ⟨E, o', n'⟩ ⟨e', he, hk⟩
    obtain rfl : E = EnvF e' := he
    exact wpER_txt r hk

theorem lookO_pre (k : Nat) : ∀ (m n : Nat) (o : Objs), lookO k (pre m n o) = if n ≤ k ∧ k < n + m then some .soon else lookO k o
  | 0, n, o => by rw [if_neg (by omega)]; rfl
  | m + 1, n, o => by
    simp only [pre, lookO_cons, lookO_pre k m (n + 1) o]
    by_cases h1 : n = k
    · rw [if_pos h1, if_pos (by omega)]
    · rw [if_neg h1]
      by_cases h2 : n + 1 ≤ k ∧ k < n + 1 + m
      · rw [if_pos h2, if_pos (by omega)]
      · rw [if_neg h2, if_neg (by omega)]

theorem good_pre {g : Gh} {w : World} {E : Nat → AV} {o : Objs} {n : Nat} {a : Act} (h : Good P gl N g w E o n a) (m : Nat) (hm : n + m ≤ LENT) : Good P gl N g w E (pre m n o) (n + m) a ∧ Stp g w o g w (pre m n o) := by
  have hlook : ∀ k x, lookO k (pre m n o) = some x → (n ≤ k ∧ k < n + m ∧ x = .soon) ∨ lookO k o = some x := fun k x hk => by
    rw [lookO_pre] at hk
    by_cases c : n ≤ k ∧ k < n + m
    · rw [if_pos c] at hk; injection hk with hk; exact .inl ⟨c.1, c.2, hk.symm⟩
    · rw [if_neg c] at hk; exact .inr hk
  refine ⟨⟨fun k x hk => ?_, fun k x k' x' b h1 h2 h3 h4 => ?_, fun k x hk => ?_, fun k b hk => (h.mlt k b hk).imp (fun h => by omega) id, fun k b hk => (h.rlt k b hk).imp (fun h => by omega) id, h.env, h.sz, h.def_, h.gz, h.gl⟩,
    ⟨Nat.le_refl _, fun _ _ _ => ⟨rfl, rfl⟩, fun b ⟨k, x, h1, h2⟩ => ?_, fun _ _ _ => rfl, fun _ => Nat.le_refl _, fun _ cs _ hb => ⟨cs, hb, rfl⟩, fun _ _ _ _ => rfl, fun b j ⟨k, x, h1, h2⟩ => ?_, fun _ _ => rfl, fun _ ob N _ h => ⟨ob, N, h, Nat.le_refl _, fun _ => rfl⟩, rfl, rfl⟩⟩
  · rcases hlook k x hk with ⟨c1, c2, rfl⟩ | h1
    · show g.m k = none
      cases hg : g.m k with
      | none => rfl
      | some b => have := h.mlt k b hg; omega
    · exact h.objs k x h1
  · rcases hlook k x h1 with ⟨_, _, rfl⟩ | h5
    · cases h3
    · rcases hlook k' x' h2 with ⟨_, _, rfl⟩ | h6
      · cases h4
      · exact h.inj k x k' x' b h5 h6 h3 h4
  · rcases hlook k x hk with ⟨c1, c2, rfl⟩ | h1
    · exact .inl c2
    · exact (h.blt k x h1).imp (fun h => by omega) id
  · rcases hlook k x h1 with ⟨_, _, rfl⟩ | h5
    · cases h2
    · exact .inl ⟨k, x, h5, h2⟩
  · rcases hlook k x h1 with ⟨_, _, rfl⟩ | h5
    · exact h2.elim
    · exact .inl ⟨k, x, h5, h2⟩

theorem entOf_remk1 {ops : List Oper} {oo : Oper} {en : Ent} (es : List Ent) (A : List Nat) (i : Nat) (h : EntOf P N ops oo en) (hc : compOp P oo.op = some en.op) : EntOf P N ops oo (remk1 es A i en) := by
  unfold remk1
  split
  · rename_i d z
    exact ⟨h.dst, h.lt, .inr (.inl ⟨_, z, hc, rfl⟩), h.gd⟩
  · rename_i sz d v
    split
    · exact ⟨h.dst, h.lt, .inr (.inr (.inl ⟨_, sz, _, v, hc, rfl⟩)), h.gd⟩
    · exact h
  · exact h

theorem SemC.weak {c : Code} {Q : AExit → Post} {e e' : Env} {o o' : Objs} {n n' : Nat} (hl : LeSt gl N e o n e' o' n') (h : SemC P gl N c Q e' o' n') : SemC P gl N c Q e o n := by
  intro g w a hg
  obtain ⟨g', hg', hs⟩ := hl P g w a hg
  refine wp_mono (h g' w a hg') ?_
  rintro ex a2 w2 ⟨x2, g2, e2, o2, n2, hr2, hg2, hs2, hq2⟩
  exact ⟨x2, g2, e2, o2, n2, hr2, hg2, hs.trans hs2, hq2⟩

theorem least {p : Nat → Prop} (h : ∃ k, p k) : ∃ k, p k ∧ ∀ j, p j → k ≤ j := by
  obtain ⟨k, hk⟩ := h
  induction k using Nat.strongRecOn with
  | _ k ih =>
    by_cases hj : ∃ j, j < k ∧ p j
    · obtain ⟨j, h1, h2⟩ := hj; exact ih j h1 h2
    · exact ⟨k, hk, fun j h => Nat.le_of_not_lt fun h' => hj ⟨j, h', h⟩⟩

theorem loop_sound {c : Code} {x : IC} (ih : ∀ (Q : AExit → Post) (e : Env) (o : Objs) (n : Nat), wp P gl N x Q e o n → SemC P gl N c Q e o n) {Q : AExit → Post} {e : Env} {o : Objs} {n : Nat} (h : LoopP gl N (wp P gl N x) Q e o n) : SemC P gl N (.loop c) Q e o n := by
  obtain ⟨α, st, ok, μ, y, h0, hle, round⟩ := h.h
  refine SemC.weak hle ?_
  intro g w a hg
  let J : Nat → Act → World → Prop := fun k a' w' => ∃ z g', ok z ∧ μ z = k ∧ Good P gl N g' w' (EnvF (st z).1) (st z).2.1 (st z).2.2 a' ∧ Stp g w (st y).2.1 g' w' (st z).2.1
  let m : Act → World → Nat := fun a' w' => @dite _ (∃ k, J k a' w') (Classical.propDecidable _) (fun h => (least h).choose) (fun _ => 0)
  refine wp_loop (fun a' w' => ∃ k, J k a' w') m ⟨_, y, g, h0, rfl, hg, Stp.refl g w _⟩ ?_
  intro a1 w1 hI
  have hmin : m a1 w1 = (least hI).choose := by
    show (@dite _ (∃ k, J k a1 w1) (Classical.propDecidable _) _ _) = _
    rw [dif_pos hI]
  obtain ⟨z, g1, hz, hk, hg1, hs1⟩ := (least hI).choose_spec.1
  refine wp_mono (ih _ _ _ _ (round z hz) g1 w1 a1 hg1) ?_
  rintro ex a2 w2 ⟨x2, g2, e2, o2, n2, hr2, hg2, hs2, hq2⟩
  cases x2 with
  | normal =>
    cases ex <;> simp only [ExR] at hr2
    obtain ⟨z2, hz2, hlt, hl2⟩ := hq2
    obtain ⟨g3, hg3, hs3⟩ := hl2 P g2 w2 a2 hg2
    have hJ : J (μ z2) a2 w2 := ⟨z2, g3, hz2, rfl, hg3, (hs1.trans hs2).trans hs3⟩
    refine ⟨⟨_, hJ⟩, ?_⟩
    have hm2 : m a2 w2 ≤ μ z2 := by
      show (@dite _ (∃ k, J k a2 w2) (Classical.propDecidable _) _ _) ≤ _
      rw [dif_pos ⟨_, hJ⟩]
      exact (least ⟨_, hJ⟩).choose_spec.2 _ hJ
    rw [hmin, ← hk]
    omega
  | ret => cases ex <;> simp only [ExR] at hr2; exact ⟨.ret, g2, e2, o2, n2, trivial, hg2, hs1.trans hs2, hq2⟩
  | exit i => cases ex <;> simp only [ExR] at hr2; exact ⟨.exit i, g2, e2, o2, n2, hr2, hg2, hs1.trans hs2, hq2⟩

theorem wp_sound (hm : P.follows .mixedOrders = true) : ∀ (c : Code) (x : IC), comp P N c = some x → ∀ (Q : AExit → Post) (e : Env) (o : Objs) (n : Nat), wp P gl N x Q e o n → SemC P gl N c Q e o n := by
  intro c
  induction c with
  | skip => intro x hx Q e o n h g w a hg; simp only [comp] at hx; injection hx with hx; subst hx; exact wp_skip ⟨.normal, g, e, o, n, trivial, hg, Stp.refl g w o, h⟩
  | region id ops draw =>
    intro x hx Q e o n h g w a hg
    simp only [comp] at hx
    split at hx
    · rename_i es hes
      obtain ⟨hl, hspec⟩ := compE_spec ops.toList es hes
      have hlen : es.length = ops.size := by rw [hl]; simp
      have hes' : ∀ (j : Nat) oj, ops[j]? = some oj → ∃ ej, es[j]? = some ej ∧ EntOf P N ops.toList oj ej := fun j oj hj => hspec j oj (by rw [Array.getElem?_toList]; exact hj)
      have hfin : ∀ (g1 : Gh) (w1 : World), Stp g w o g1 w1 o → ∀ (s : FS) g' w' a', Good P gl N g' w' s.E s.o s.n a' → Stp g1 w1 o g' w' s.o → (∃ e', s.E = EnvF e' ∧ Q .normal e' s.o s.n) → Up P gl N g w o Q .normal a' w' := by
        rintro g1 w1 h0 ⟨E, o', n'⟩ g' w' a' hg' hs' ⟨e', rfl, hq⟩
        exact ⟨.normal, g', e', o', n', trivial, hg', h0.trans hs', hq⟩
      split at hx
      · injection hx with hx
        subst hx
        refine wp_region ?_
        have := wpE_fix (P := P) (gl := gl) (N := N) (Q' := Up P gl N g w o Q) (g0 := g) (w0 := w) (o0 := o) hes' (fun e1 o1 n1 g1 w1 a1 hg1 hs1 hq1 => hfin g w (Stp.refl g w o) ⟨EnvF e1, o1, n1⟩ g1 w1 a1 hg1 hs1 ⟨e1, rfl, hq1⟩) es 0 e o n g w a (fun j => by simp) (by simpa using hlen) hg (Stp.refl g w o) h
        rw [hlen] at this
        rwa [List.range_eq_range']
      · split at hx
        · rename_i hd
          have hesx : ∀ (j : Nat) oj, ops[j]? = some oj → ∃ ej, (es.map Ent.xe)[j]? = some ej ∧ EntOf P N ops.toList oj ej := fun j oj hj => by
            obtain ⟨ej, h1, h2⟩ := hes' j oj hj
            refine ⟨ej.xe, by rw [List.getElem?_map, h1]; rfl, entOf_xe h2 ((compE_op ops.toList es hes).2 j oj ej (by rw [Array.getElem?_toList]; exact hj) h1)⟩
          injection hx with hx
          subst hx
          refine wp_region_any hm ?_
          have hd1 : Drawn w { w with drawn := w.drawn + 1 } := ⟨rfl, rfl, rfl⟩
          have hA := wpAnyA_lex (P := P) (gl := gl) (fun j oj hj => let ⟨ej, h1, _⟩ := hesx j oj hj; ⟨ej, h1⟩) (by rw [List.length_map]; exact hlen) (es.map Ent.xe) 0 (Array.replicate ops.size false) ⟨EnvF e, o, n⟩ (fun j oj hj hl => by
            simp only [Array.getD_eq_getD_getElem?, Array.getElem?_replicate] at hl
            split at hl <;> simp at hl) (fun k hk hL => by
            show lookO k o = none
            cases hl : lookO k o with
            | none => rfl
            | some x => have := hg.blt k x hl; have hk : n ≤ k := hk; omega) (fun j => by simp) hd (wpE_txt _ h)
          rw [List.length_map] at hA
          have := wpAnyA_ok (P := P) (gl := gl) (N := N) (Q' := Up P gl N g w o Q) hesx (hfin g _ (hd1.stp g o)) es.length _ _ g _ a (hg.drawn hd1) (Stp.refl g _ o) hA
          rwa [hlen] at this
        · split at hx
          · rename_i hd
            injection hx with hx
            subst hx
            refine wp_region_any hm ?_
            have hd1 : Drawn w { w with drawn := w.drawn + 1 } := ⟨rfl, rfl, rfl⟩
            have hA := wpAnyA_lex (P := P) (gl := gl) (fun j oj hj => let ⟨ej, h1, _⟩ := hes' j oj hj; ⟨ej, h1⟩) hlen es 0 (Array.replicate ops.size false) ⟨EnvF e, o, n⟩ (fun j oj hj hl => by
              simp only [Array.getD_eq_getD_getElem?, Array.getElem?_replicate] at hl
              split at hl <;> simp at hl) (fun k hk hL => by
              show lookO k o = none
              cases hl : lookO k o with
              | none => rfl
              | some x => have := hg.blt k x hl; have hk : n ≤ k := hk; omega) (fun j => by simp) hd (wpE_txt es h)
            have := wpAnyA_ok (P := P) (gl := gl) (N := N) (Q' := Up P gl N g w o Q) hes' (hfin g _ (hd1.stp g o)) es.length _ _ g _ a (hg.drawn hd1) (Stp.refl g _ o) hA
            rwa [hlen] at this
          · split at hx
            · rename_i hd
              injection hx with hx
              subst hx
              refine wp_region_any hm ?_
              have hd1 : Drawn w { w with drawn := w.drawn + 1 } := ⟨rfl, rfl, rfl⟩
              have hwl : (withS ops es).length = es.length := by simp [withS]
              have hm1 : (withS ops es).map (·.1) = es := by
                apply List.ext_getElem (by simp [withS])
                intro i h1 h2
                simp [withS, List.getD_eq_getElem?_getD, h2]
              have hA := wpAnyA_lexS (P := P) (gl := gl) (fun j oj hj => let ⟨ej, h1, _⟩ := hes' j oj hj; ⟨ej, h1⟩) hlen (withS ops es) 0 (Array.replicate ops.size false) ⟨EnvF e, o, n⟩ (fun j oj hj hl => by
                simp only [Array.getD_eq_getD_getElem?, Array.getElem?_replicate] at hl
                split at hl <;> simp at hl) (fun k hk hL => by
                show lookO k o = none
                cases hl : lookO k o with
                | none => rfl
                | some x => have := hg.blt k x hl; have hk : n ≤ k := hk; omega) (fun j => by rw [hm1]; simp) hd (wpES_txt (withS ops es) h)
              have := wpAnyA_ok (P := P) (gl := gl) (N := N) (Q' := Up P gl N g w o Q) hes' (hfin g _ (hd1.stp g o)) (withS ops es).length _ _ g _ a (hg.drawn hd1) (Stp.refl g _ o) hA
              rwa [hwl, hlen] at this
            · split at hx
              · rename_i hd
                injection hx with hx
                subst hx
                simp only [wp, chk_iff] at h
                obtain ⟨hL, h⟩ := h
                have hL : n + (allocIx es).length ≤ LENT := Nat.le_of_ble_eq_true hL
                simp only [drawOkR, Bool.and_eq_true] at hd
                obtain ⟨hk1, hk2, hk3⟩ := hd
                have hk2 := beq_eq hk2
                refine wp_region_any hm ?_
                have hd1 : Drawn w { w with drawn := w.drawn + 1 } := ⟨rfl, rfl, rfl⟩
                have hrl : ∀ (j : Nat) ej, es[j]? = some ej → (remk es)[j]? = some (remk1 es (allocIx es) j ej) := fun j ej hj => by
                  have hlt : j < es.length := (List.getElem?_eq_some_iff.1 hj).1
                  unfold remk
                  rw [List.getElem?_map, List.getElem?_range hlt]
                  simp [List.getD, hj]
                have hes2 : ∀ (j : Nat) oj, ops[j]? = some oj → ∃ ej, (remk es)[j]? = some ej ∧ EntOf P N ops.toList oj ej := fun j oj hj => by
                  obtain ⟨ej, h1, h2⟩ := hes' j oj hj
                  refine ⟨_, hrl j ej h1, entOf_remk1 es _ j h2 ?_⟩
                  have h3 := (compE_op ops.toList es hes).2 j oj ej (by rw [Array.getElem?_toList]; exact hj) h1
                  exact h3
                have hkeep : ∀ (j : Nat) ej, (remk es)[j]? = some ej → keepN ej.op = true := fun j ej hj => List.all_eq_true.1 hk1 ej (List.mem_of_getElem? hj)
                obtain ⟨hg2, hs2⟩ := good_pre hg (allocIx es).length hL
                have hA := wpAnyA_lexR (P := P) (gl := gl) (fun j oj hj => let ⟨ej, h1, _⟩ := hes2 j oj hj; ⟨ej, h1⟩) hkeep (ordR ops (remk es)) (Array.replicate ops.size false) ⟨EnvF e, pre (allocIx es).length n o, n + (allocIx es).length⟩ (fun j oj hj hl => by
                  simp only [Array.getD_eq_getD_getElem?, Array.getElem?_replicate] at hl
                  split at hl <;> simp at hl) (fun k hk hL => by
                  show lookO k (pre (allocIx es).length n o) = none
                  cases hl : lookO k (pre (allocIx es).length n o) with
                  | none => rfl
                  | some x => have := hg2.blt k x hl; have hk : n + (allocIx es).length ≤ k := hk; omega) hk3 (wpER_txt _ h)
                have hfin2 : ∀ (s : FS) g' w' a', Good P gl N g' w' s.E s.o s.n a' → Stp g { w with drawn := w.drawn + 1 } (pre (allocIx es).length n o) g' w' s.o → (∃ e', s.E = EnvF e' ∧ Q .normal e' s.o s.n) → Up P gl N g w o Q .normal a' w' := by
                  rintro ⟨E, o', n'⟩ g' w' a' hg' hs' ⟨e', rfl, hq⟩
                  exact ⟨.normal, g', e', o', n', trivial, hg', (hs2.trans (hd1.stp g _)).trans hs', hq⟩
                have := wpAnyA_ok (P := P) (gl := gl) (N := N) (Q' := Up P gl N g w o Q) hes2 hfin2 (ordR ops (remk es)).length _ _ g _ a (hg2.drawn hd1) (Stp.refl g _ _) hA
                rwa [hk2] at this
              · cases hx
    · cases hx
  | seq a b iha ihb =>
    intro x hx Q e o n h g w ac hg
    simp only [comp] at hx
    split at hx
    · rename_i x1 y1 h1 h2
      injection hx with hx
      subst hx
      refine wp_seq (wp_mono (iha x1 h1 _ e o n h g w ac hg) ?_)
      rintro ex a' w' ⟨x', g', e', o', n', hr, hg', hs', hq⟩
      cases x' with
      | normal =>
        cases ex <;> simp only [ExR] at hr
        refine wp_mono (ihb y1 h2 Q e' o' n' hq g' w' a' hg') ?_
        rintro ex a2 w2 ⟨x2, g2, e2, o2, n2, hr2, hg2, hs2, hq2⟩
        exact ⟨x2, g2, e2, o2, n2, hr2, hg2, hs'.trans hs2, hq2⟩
      | ret => cases ex <;> simp only [ExR] at hr; exact ⟨.ret, g', e', o', n', trivial, hg', hs', hq⟩
      | exit i => cases ex <;> simp only [ExR] at hr; exact ⟨.exit i, g', e', o', n', hr, hg', hs', hq⟩
    · cases hx
  | cond c a b iha ihb =>
    intro x hx Q e o n h g w ac hg
    simp only [comp] at hx
    split at hx
    · rename_i x1 y1 h1 h2
      injection hx with hx
      subst hx
      simp only [wp] at h
      split at h
      · rename_i t ht
        have hv := ev_ok hg c
        rw [show evF gl (EnvF e) (cx c) = ev gl e (cx c) from by rw [ev_eq]; rfl, ht] at hv
        have hv := val_v hv
        cases t with
        | true => exact wp_cond_true hv (iha x1 h1 Q e o n h g w ac hg)
        | false => exact wp_cond_false hv (ihb y1 h2 Q e o n h g w ac hg)
      · exact h.elim
    · cases hx
  | block id a iha =>
    intro x hx Q e o n h g w ac hg
    simp only [comp] at hx
    split at hx
    · rename_i x1 h1
      injection hx with hx
      subst hx
      refine wp_block (wp_mono (iha x1 h1 _ e o n h g w ac hg) ?_)
      rintro ex a' w' ⟨x', g', e', o', n', hr, hg', hs', hq⟩
      cases x' with
      | normal => cases ex <;> simp only [ExR] at hr; exact ⟨.normal, g', e', o', n', trivial, hg', hs', hq⟩
      | ret => cases ex <;> simp only [ExR] at hr; exact ⟨.ret, g', e', o', n', trivial, hg', hs', hq⟩
      | exit i =>
        cases ex <;> simp only [ExR] at hr
        subst hr
        simp only [Exit.inBlock]
        simp only [] at hq
        split at hq
        · rename_i hb
          rw [if_pos (beq_eq hb)]
          exact ⟨.normal, g', e', o', n', trivial, hg', hs', hq⟩
        · rename_i hb
          rw [if_neg (fun he => by rw [he, beq_self] at hb; cases hb)]
          exact ⟨.exit i, g', e', o', n', rfl, hg', hs', hq⟩
    · cases hx
  | loop a iha =>
    intro x hx Q e o n h
    simp only [comp] at hx
    split at hx
    · rename_i x1 h1
      injection hx with hx
      subst hx
      exact loop_sound (fun Q e o n hw => iha x1 h1 Q e o n hw) h
    · cases hx
  | exit id => intro x hx Q e o n h g w a hg; simp only [comp] at hx; injection hx with hx; subst hx; exact wp_exit ⟨.exit id, g, e, o, n, rfl, hg, Stp.refl g w o, h⟩
  | ret => intro x hx Q e o n h g w a hg; simp only [comp] at hx; injection hx with hx; subst hx; exact wp_ret ⟨.ret, g, e, o, n, trivial, hg, Stp.refl g w o, h⟩
  | scope a iha =>
    intro x hx Q e o n h g w ac hg
    refine wp_scope_straight (wp_mono (iha x hx Q e o n h g w ac hg) ?_)
    rintro ex a' w' ⟨x', g', e', o', n', hr, hg', hs', hq⟩
    cases x' with
    | normal => cases ex <;> simp only [ExR] at hr; exact ⟨.normal, g', e', o', n', trivial, hg', hs', hq⟩
    | ret => cases ex <;> simp only [ExR] at hr; exact ⟨.ret, g', e', o', n', trivial, hg', hs', hq⟩
    | exit i => cases ex <;> simp only [ExR] at hr; exact ⟨.exit i, g', e', o', n', hr, hg', hs', hq⟩
  | label l => intro x hx Q e o n h g w a hg; simp only [comp] at hx; injection hx with hx; subst hx; exact wp_label ⟨.normal, g, e, o, n, trivial, hg, Stp.refl g w o, h⟩
  | _ => intro x hx; simp only [comp] at hx; cases hx

/-! One outcome, out of what holds of all. -/
theorem wpOp_iff {e : Env} {o : Objs} {n : Nat} {p : IOp} {K : AV → Objs → Nat → Prop} : Ar.wpOp false P gl e o n p K ↔ wpF false P gl ⟨EnvF e, o, n⟩ p K := by
  refine ⟨wpOp_F, fun h => ?_⟩
  have e1 : ev gl e = evF gl (EnvF e) := ev_eq gl e
  cases p <;> simp only [Ar.wpOp, e1, force_iff, forceO_iff, forceL_iff, evL_eq]
  case calv x l =>
    simp only [wpF] at h
    split at h
    · rename_i f a c he
      (try rw [he])
      refine ⟨h.1, ?_⟩
      rcases h.2 with ⟨args', r, h1, h2, h3⟩ | ⟨t, m, e, ty, args', r, m', ht, h1, h2, h3⟩
      · exact call_pureV h2 h1 h3
      · exact call_t h2 ht rfl rfl h1 h3
    · exact h.elim
  all_goals first
    | exact h
    | (rcases h with ⟨args', r, h1, h2, h3⟩ | ⟨t, m, e, ty, args', r, m', ht, h1, h2, h3⟩
       · exact call_pureV h2 h1 h3
       · exact call_t h2 ht rfl rfl h1 h3)

theorem wpOp_ex {e : Env} {o : Objs} {n : Nat} {p : IOp} {K : AV → Objs → Nat → Prop} (h : Ar.wpOp false P gl e o n p K) :
    ∃ v o' n', K v o' n' ∧ ∀ K' : AV → Objs → Nat → Prop, K' v o' n' → Ar.wpOp false P gl e o n p K' := by
  obtain ⟨v, o', n', h1, h2⟩ := wpF_ex (wpOp_iff.1 h)
  exact ⟨v, o', n', h2, fun K' hk => wpOp_iff.2 (wpF_mono h1 hk)⟩

theorem callB_ex {f : FuncId} {args : List AV} {o : Objs} {n : Nat} {K : AV → Objs → Nat → Prop} (h : CallB true P gl f args o n K) :
    ∃ v o' n', K v o' n' ∧ ∀ K' : AV → Objs → Nat → Prop, K' v o' n' → CallB true P gl f args o n K' := by
  obtain ⟨v, o', n', hk, hx⟩ := h.x
  exact ⟨v, o', n', hk, fun K' hk' => ⟨⟨v, o', n', hk', hx⟩, fun hb => by cases hb⟩⟩

def isCl : IOp → Bool
  | .call _ _ => true
  | .calv _ _ => true
  | _ => false

theorem wpOp_tf {e : Env} {o : Objs} {n : Nat} {p : IOp} {K : AV → Objs → Nat → Prop} (hp : isCl p = false) : Ar.wpOp true P gl e o n p K = Ar.wpOp false P gl e o n p K := by
  cases p <;> first | rfl | cases hp

theorem wpOp_exT {e : Env} {o : Objs} {n : Nat} {p : IOp} {K : AV → Objs → Nat → Prop} (h : Ar.wpOp true P gl e o n p K) :
    ∃ v o' n', K v o' n' ∧ ∀ K' : AV → Objs → Nat → Prop, K' v o' n' → Ar.wpOp true P gl e o n p K' := by
  cases p
  case call f l =>
    simp only [Ar.wpOp, force_iff, forceL_iff] at h ⊢
    exact callB_ex h
  case calv x l =>
    simp only [Ar.wpOp, force_iff, forceL_iff] at h ⊢
    split at h
    · rename_i f a c he
      obtain ⟨v, o', n', h1, h2⟩ := callB_ex h.2
      refine ⟨v, o', n', h1, fun K' hk => ?_⟩
      try rw [he]
      exact ⟨h.1, h2 K' hk⟩
    · exact h.elim
  all_goals
    (rw [wpOp_tf rfl] at h
     obtain ⟨v, o', n', h1, h2⟩ := wpOp_ex h
     exact ⟨v, o', n', h1, fun K' hk => by rw [wpOp_tf rfl]; exact h2 K' hk⟩)

theorem wpOp_exB {b : Bool} {e : Env} {o : Objs} {n : Nat} {p : IOp} {K : AV → Objs → Nat → Prop} (h : Ar.wpOp b P gl e o n p K) :
    ∃ v o' n', K v o' n' ∧ ∀ K' : AV → Objs → Nat → Prop, K' v o' n' → Ar.wpOp b P gl e o n p K' := by
  cases b
  · exact wpOp_ex h
  · exact wpOp_exT h

theorem stepE_ex {b : Bool} {en : Ent} {K : Post} {e : Env} {o : Objs} {n : Nat} (h : stepE b P gl en K e o n) : ∃ e' o' n', K e' o' n' ∧ ∀ K' : Post, K' e' o' n' → stepE b P gl en K' e o n := by
  cases en with
  | o d op =>
    obtain ⟨v, o', n', h1, h2⟩ := wpOp_exB h
    exact ⟨_, o', n', h1, fun K' hk => h2 _ hk⟩
  | n op =>
    obtain ⟨v, o', n', h1, h2⟩ := wpOp_exB h
    exact ⟨_, o', n', h1, fun K' hk => h2 _ hk⟩
  | og d j q op =>
    simp only [stepE] at h ⊢
    split at h
    · rename_i t ht
      cases q <;> cases t
      · obtain ⟨v, o', n', h1, h2⟩ := wpOp_exB h; exact ⟨_, o', n', h1, fun K' hk => h2 _ hk⟩
      · exact ⟨_, _, _, h, fun K' hk => hk⟩
      · exact ⟨_, _, _, h, fun K' hk => hk⟩
      · obtain ⟨v, o', n', h1, h2⟩ := wpOp_exB h; exact ⟨_, o', n', h1, fun K' hk => h2 _ hk⟩
    · exact ⟨_, _, _, h, fun K' hk => hk⟩
    · exact h.elim
  | ng j q op =>
    simp only [stepE] at h ⊢
    split at h
    · rename_i t ht
      cases q <;> cases t
      · obtain ⟨v, o', n', h1, h2⟩ := wpOp_exB h; exact ⟨_, o', n', h1, fun K' hk => h2 _ hk⟩
      · exact ⟨_, _, _, h, fun K' hk => hk⟩
      · exact ⟨_, _, _, h, fun K' hk => hk⟩
      · obtain ⟨v, o', n', h1, h2⟩ := wpOp_exB h; exact ⟨_, o', n', h1, fun K' hk => h2 _ hk⟩
    · exact ⟨_, _, _, h, fun K' hk => hk⟩
    · exact h.elim

theorem wpE_ex {b : Bool} {K : Post} : ∀ (l : List Ent) {e : Env} {o : Objs} {n : Nat}, wpE b P gl l K e o n → ∃ e' o' n', K e' o' n' ∧ ∀ K' : Post, K' e' o' n' → wpE b P gl l K' e o n
  | [], e, o, n, h => ⟨e, o, n, h, fun _ hk => hk⟩
  | en :: r, e, o, n, h => by
    obtain ⟨e1, o1, n1, h1, h2⟩ := stepE_ex (show stepE b P gl en (wpE b P gl r K) e o n from h)
    obtain ⟨e2, o2, n2, h3, h4⟩ := wpE_ex r h1
    exact ⟨e2, o2, n2, h3, fun K' hk => h2 _ (h4 K' hk)⟩

theorem wpES_ex {K : Post} : ∀ (l : List (Ent × List Nat)) {e : Env} {o : Objs} {n : Nat}, wpES P gl l K e o n → ∃ e' o' n', K e' o' n' ∧ ∀ K' : Post, K' e' o' n' → wpES P gl l K' e o n
  | [], e, o, n, h => ⟨e, o, n, h, fun _ hk => hk⟩
  | (en, js) :: r, e, o, n, h => by
    simp only [wpES, chk_iff] at h
    obtain ⟨e1, o1, n1, h1, h2⟩ := stepE_ex h.2
    obtain ⟨e2, o2, n2, h3, h4⟩ := wpES_ex r h1
    exact ⟨e2, o2, n2, h3, fun K' hk => by simp only [wpES, chk_iff]; exact ⟨h.1, h2 _ (h4 K' hk)⟩⟩

theorem wpER_ex {K : Post} : ∀ (l : List (Ent × List Nat)) {e : Env} {o : Objs} {n : Nat}, wpER P gl l K e o n → ∃ e' o' n', K e' o' n' ∧ ∀ K' : Post, K' e' o' n' → wpER P gl l K' e o n
  | [], e, o, n, h => ⟨e, o, n, h, fun _ hk => hk⟩
  | (en, js) :: r, e, o, n, h => by
    simp only [wpER, chk_iff] at h
    obtain ⟨e1, o1, n1, h1, h2⟩ := stepE_ex h.2
    obtain ⟨e2, o2, n2, h3, h4⟩ := wpER_ex r h1
    exact ⟨e2, o2, n2, h3, fun K' hk => by simp only [wpER, chk_iff]; exact ⟨h.1, h2 _ (h4 K' hk)⟩⟩

/-- From this state of a loop the walk comes out so. -/
inductive Chain (gl : Nat → AV) (N : Nat) (W : (AExit → Post) → Post) {α : Type} (st : α → Env × Objs × Nat) (μ : α → Nat) (ex : AExit) (e : Env) (o : Objs) (n : Nat) : α → Prop
  | stop (y : α) (hne : ex ≠ .normal) (h : ∀ Q' : AExit → Post, Q' ex e o n → W Q' (st y).1 (st y).2.1 (st y).2.2) : Chain gl N W st μ ex e o n y
  | go (y z : α) (e1 : Env) (o1 : Objs) (n1 : Nat) (h : ∀ Q' : AExit → Post, Q' .normal e1 o1 n1 → W Q' (st y).1 (st y).2.1 (st y).2.2) (hlt : μ z < μ y) (hle : LeSt gl N e1 o1 n1 (st z).1 (st z).2.1 (st z).2.2)
      (hz : Chain gl N W st μ ex e o n z) : Chain gl N W st μ ex e o n y

theorem wp_ex : ∀ (x : IC) {Q : AExit → Post} {e : Env} {o : Objs} {n : Nat}, wp P gl N x Q e o n → ∃ ex e' o' n', Q ex e' o' n' ∧ ∀ Q' : AExit → Post, Q' ex e' o' n' → wp P gl N x Q' e o n := by
  intro x
  induction x with
  | skip => intro Q e o n h; exact ⟨.normal, e, o, n, h, fun _ hk => hk⟩
  | ops l => intro Q e o n h; obtain ⟨e', o', n', h1, h2⟩ := wpE_ex l h; exact ⟨.normal, e', o', n', h1, fun Q' hk => h2 _ hk⟩
  | dops l => intro Q e o n h; obtain ⟨e', o', n', h1, h2⟩ := wpE_ex l h; exact ⟨.normal, e', o', n', h1, fun Q' hk => h2 _ hk⟩
  | dopss l => intro Q e o n h; obtain ⟨e', o', n', h1, h2⟩ := wpES_ex l h; exact ⟨.normal, e', o', n', h1, fun Q' hk => h2 _ hk⟩
  | dopr m l =>
    intro Q e o n h
    simp only [wp, chk_iff] at h
    obtain ⟨e', o', n', h1, h2⟩ := wpER_ex l h.2
    exact ⟨.normal, e', o', n', h1, fun Q' hk => by simp only [wp, chk_iff]; exact ⟨h.1, h2 _ hk⟩⟩
  | seq a b iha ihb =>
    intro Q e o n h
    obtain ⟨ex, e1, o1, n1, h1, h2⟩ := iha h
    cases ex with
    | normal =>
      obtain ⟨ex, e2, o2, n2, h3, h4⟩ := ihb h1
      exact ⟨ex, e2, o2, n2, h3, fun Q' hk => h2 _ (h4 Q' hk)⟩
    | ret => exact ⟨.ret, e1, o1, n1, h1, fun Q' hk => h2 _ hk⟩
    | exit i => exact ⟨.exit i, e1, o1, n1, h1, fun Q' hk => h2 _ hk⟩
  | cond c a b iha ihb =>
    intro Q e o n h
    simp only [wp] at h
    split at h
    · rename_i t ht
      cases t with
      | true =>
        obtain ⟨ex, e1, o1, n1, h1, h2⟩ := iha h
        exact ⟨ex, e1, o1, n1, h1, fun Q' hk => by simp only [wp, ht]; exact h2 Q' hk⟩
      | false =>
        obtain ⟨ex, e1, o1, n1, h1, h2⟩ := ihb h
        exact ⟨ex, e1, o1, n1, h1, fun Q' hk => by simp only [wp, ht]; exact h2 Q' hk⟩
    · exact h.elim
  | block id a iha =>
    intro Q e o n h
    obtain ⟨ex, e1, o1, n1, h1, h2⟩ := iha h
    cases ex with
    | normal => exact ⟨.normal, e1, o1, n1, h1, fun Q' hk => h2 _ hk⟩
    | ret => exact ⟨.ret, e1, o1, n1, h1, fun Q' hk => h2 _ hk⟩
    | exit i =>
      simp only [] at h1
      split at h1
      · rename_i hb
        exact ⟨.normal, e1, o1, n1, h1, fun Q' hk => h2 _ (by simp only [hb]; exact hk)⟩
      · rename_i hb
        exact ⟨.exit i, e1, o1, n1, h1, fun Q' hk => h2 _ (by simp only [hb]; exact hk)⟩
  | loop a iha =>
    intro Q e o n h
    obtain ⟨α, st, ok, μ, y, h0, hle, round⟩ := (show LoopP gl N (wp P gl N a) Q e o n from h).h
    have key : ∀ (k : Nat) (y : α), μ y = k → ok y → ∃ ex e' o' n', Q ex e' o' n' ∧ Chain gl N (wp P gl N a) st μ ex e' o' n' y := by
      intro k
      induction k using Nat.strongRecOn with
      | _ k ih =>
        intro y hk hy
        obtain ⟨ex, e1, o1, n1, h1, h2⟩ := iha (round y hy)
        cases ex with
        | normal =>
          obtain ⟨z, hz, hlt, hl⟩ := h1
          obtain ⟨ex, e2, o2, n2, h3, h4⟩ := ih (μ z) (hk ▸ hlt) z rfl hz
          exact ⟨ex, e2, o2, n2, h3, .go y z e1 o1 n1 h2 hlt hl h4⟩
        | ret => exact ⟨.ret, e1, o1, n1, h1, .stop y (by simp) h2⟩
        | exit i => exact ⟨.exit i, e1, o1, n1, h1, .stop y (by simp) h2⟩
    obtain ⟨ex, e', o', n', h1, h2⟩ := key _ y rfl h0
    refine ⟨ex, e', o', n', h1, fun Q' hk => ⟨α, st, Chain gl N (wp P gl N a) st μ ex e' o' n', μ, y, h2, hle, fun y hy => ?_⟩⟩
    cases hy with
    | stop _ hne hs => exact hs _ (by cases ex <;> first | exact absurd rfl hne | exact hk)
    | go _ z e1 o1 n1 hs hlt hl hz => exact hs _ ⟨z, hz, hlt, hl⟩
  | exit id => intro Q e o n h; exact ⟨.exit id, e, o, n, h, fun _ hk => hk⟩
  | ret => intro Q e o n h; exact ⟨.ret, e, o, n, h, fun _ hk => hk⟩

end
end Ar
