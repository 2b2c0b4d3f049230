/- The walk over a function's code: regions, branches, blocks, loops; and that the machine does what the walk says (regions whose order is fixed). No condition. -/
import Derived.Test.YtjkmmcbfcglkdaaArH
namespace Ar
open Go
set_option linter.unusedVariables false
set_option autoImplicit false

inductive Ent where
  | o (d : Nat) (op : IOp)
  | n (op : IOp)
  | og (d j : Nat) (b : Bool) (op : IOp)
  | ng (j : Nat) (b : Bool) (op : IOp)

inductive IC where
  | skip
  | ops (l : List Ent)
  | dops (l : List Ent)
  | seq (a b : IC)
  | cond (x : X) (a b : IC)
  | block (id : Nat) (a : IC)
  | loop (a : IC)
  | exit (id : Nat)
  | ret

inductive AExit where
  | normal
  | ret
  | exit (id : Nat)

abbrev Post := Env → Objs → Nat → Prop

def force (a : AV) (K : AV → Prop) : Prop :=
  match a with
  | .val x => K (.val x)
  | .any => K .any
  | .ptr o p => K (.ptr o p)
  | .elt n e f i p => K (.elt n e f i p)
  | .lst t n e f => K (.lst t n e f)
  | .sli o lo n e => K (.sli o lo n e)
  | .arr n e f => K (.arr n e f)
  | .st l => K (.st l)
  | .cons a b => K (.cons a b)
  | .nil => K .nil
  | .tup l => K (.tup l)
  | .clo f a b => K (.clo f a b)
  | .mp o => K (.mp o)
  | .ifc t a => K (.ifc t a)

theorem force_iff {a : AV} {K : AV → Prop} : force a K ↔ K a := by cases a <;> exact Iff.rfl

def forceL (l : List AV) (K : List AV → Prop) : Prop :=
  match l with
  | [] => K []
  | a :: r => force a fun a => forceL r fun r => K (a :: r)

theorem forceL_iff : ∀ {l : List AV} {K : List AV → Prop}, forceL l K ↔ K l
  | [], _ => Iff.rfl
  | a :: r, K => by simp only [forceL, force_iff, forceL_iff]

def forceO (l : Objs) (K : Objs → Prop) : Prop :=
  match l with
  | [] => K []
  | (n, .box a) :: r => force a fun a => forceO r fun r => K ((n, .box a) :: r)
  | (n, .room m e ty) :: r => forceO r fun r => K ((n, .room m e ty) :: r)

theorem forceO_iff : ∀ {l : Objs} {K : Objs → Prop}, forceO l K ↔ K l
  | [], _ => Iff.rfl
  | (n, .box a) :: r, K => by simp only [forceO, force_iff, forceO_iff]
  | (n, .room m e ty) :: r, K => by simp only [forceO, forceO_iff]

def ev (gl : Nat → AV) (e : Env) : X → AV
  | .t i => lookE i e
  | .c v => .val v
  | .g i => gl i
  | .f i => .clo (.func i) .nil .nil
  | .no => .any

def evL (gl : Nat → AV) (e : Env) : List X → List AV
  | [] => []
  | x :: r => ev gl e x :: evL gl e r

theorem ev_eq (gl : Nat → AV) (e : Env) : ev gl e = evF gl (fun t => lookE t e) := by
  funext x; cases x <;> rfl

theorem evL_eq (gl : Nat → AV) (e : Env) : ∀ l, evL gl e l = evFL gl (fun t => lookE t e) l
  | [] => rfl
  | x :: r => by simp only [evL, evFL, ev_eq, evL_eq gl e r]

/-- One operation, in a state of the walk. -/
def wpOp (P : Program) (gl : Nat → AV) (e : Env) (o : Objs) (n : Nat) (op : IOp) (K : AV → Objs → Nat → Prop) : Prop :=
  match op with
  | .call f l => forceL (evL gl e l) fun args => CallP P gl f args fun r => force r fun r => K r o n
  | .xcall f l => forceL (evL gl e l) fun args => CallX P f args fun r => force r fun r => K r o n
  | .alloc z => wpL (ev gl e) o n (.alloc z) fun v o n => forceO o fun o => K v o n
  | .box x => wpL (ev gl e) o n (.box x) fun v o n => forceO o fun o => K v o n
  | .sto sz x v => wpL (ev gl e) o n (.sto sz x v) fun v o n => forceO o fun o => K v o n
  | .bsl e' ty z l => wpL (ev gl e) o n (.bsl e' ty z l) fun v o n => forceO o fun o => K v o n
  | .app e' b ty x y => wpL (ev gl e) o n (.app e' b ty x y) fun v o n => forceO o fun o => K v o n
  | op => wpV (ev gl e) o op fun v => force v fun v => K v o n

def wpE (P : Program) (gl : Nat → AV) : List Ent → Post → Post
  | [], K, e, o, n => K e o n
  | .o d op :: r, K, e, o, n => wpOp P gl e o n op fun v o n => wpE P gl r K ((d, v) :: e) o n
  | .n op :: r, K, e, o, n => wpOp P gl e o n op fun _ o n => wpE P gl r K e o n
  | .og d j b op :: r, K, e, o, n => match lookE j e with
    | .val (.bool t) => br (t == b) (wpOp P gl e o n op fun v o n => wpE P gl r K ((d, v) :: e) o n) (wpE P gl r K ((d, .any) :: e) o n)
    | _ => False
  | .ng j b op :: r, K, e, o, n => match lookE j e with
    | .val (.bool t) => br (t == b) (wpOp P gl e o n op fun _ o n => wpE P gl r K e o n) (wpE P gl r K e o n)
    | _ => False

/-! The program's operations as entries. -/
def compOp (P : Program) (op : Op) : Option IOp :=
  match compV P op with
  | some p => some p
  | none => match compL P op with
    | some p => some p
    | none => match compC P op with
      | some p => some p
      | none => some .dead

def compE (P : Program) (N : Nat) (all : List Oper) : List Oper → Option (List Ent)
  | [] => some []
  | oo :: r => match compOp P oo.op, compE P N all r with
    | some p, some l => match oo.dst, oo.guard with
      | some d, none => match Nat.blt d N with
        | true => some (.o d p :: l)
        | false => none
      | none, none => some (.n p :: l)
      | some d, some (j, b) => match (all[j]?).bind (·.dst) with
        | some t => match Nat.blt d N with
          | true => some (.og d t b p :: l)
          | false => none
        | none => none
      | none, some (j, b) => match (all[j]?).bind (·.dst) with
        | some t => some (.ng t b p :: l)
        | none => none
    | _, _ => none

section
variable {P : Program} {gl : Nat → AV} {N : Nat} {g : Gh} {w : World} {e : Env} {o : Objs} {n : Nat} {a : Act}

def EnvF (e : Env) : Nat → AV := fun t => lookE t e

theorem putF_cons (e : Env) (d : Nat) (v : AV) : putF (EnvF e) d v = EnvF ((d, v) :: e) := by
  funext t
  simp only [putF, EnvF, lookE_cons]

theorem Good.putE (h : Good gl N g w (EnvF e) o n a) {d : Nat} (hd : d < N) {v : AV} {u : Value} (hv : (R g w v).v u) : Good gl N g w (EnvF ((d, v) :: e)) o n (a.put (some d) u) := by
  rw [← putF_cons]; exact h.put hd hv

end
end Ar
