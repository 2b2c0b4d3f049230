/- How a value operation of the program is read, and that the machine gives what the walk says. No condition. -/
import Derived.Test.YtankpibkakfnhaaDoorK00
import Derived.BigFrame
import Derived.Laws.StructEq
import Derived.ChangeKeysEq
set_option linter.all false
namespace Ar
open Go
set_option linter.unusedVariables false
set_option autoImplicit false

def partsS (P : Program) (fs : Array Field) : List (Nat × Operand) → Option (List (Nat × Nat × Nat × X))
  | [] => some []
  | (k, x) :: r => match fs[k]? with
    | some f => match P.info? f.type with
      | some i => match partsS P fs r with
        | some ps => some ((k, f.offset, i.size, cx x) :: ps)
        | none => none
      | none => none
    | none => none

def partsA (e : Nat) : List (Nat × Operand) → List (Nat × Nat × Nat × X)
  | [] => []
  | (k, x) :: r => (k, k * e, e, cx x) :: partsA e r

mutual
/-- The shape of a type. -/
def shT (P : Program) : Nat → TypeId → Option Sh
  | 0, _ => none
  | d + 1, t => match P.underlying t with
    | some (.int _) => some .int
    | some .bool => some .bool
    | some .string => some .str
    | some (.struct fs) => match P.stoodInHeld t with
      | false => match shFs P d 0 fs.toList with
        | some s => some (.st s)
        | none => none
      | true => none
    | some (.array n e) => match P.info? e, shT P d e with
      | some i, some s => match Nat.beq (ssize s) i.size with
        | true => some (.arr n i.size s)
        | false => none
      | _, _ => none
    | _ => none
def shFs (P : Program) : Nat → Nat → List Field → Option Sh
  | _, _, [] => some .nil
  | 0, _, _ => none
  | d + 1, off, f :: r => match f.name == "_", Nat.beq f.offset off, P.underlying f.type, P.info? f.type, shT P d f.type with
    | false, true, some u, some i, some s => match Nat.beq (ssize s) i.size, (match s with | .st _ => aggD u | .arr _ _ _ => aggD u | _ => !aggD u), shFs P d (off + i.size) r with
      | true, true, some q => some (.cons s q)
      | _, _, _ => none
    | _, _, _, _, _ => none
end

def okX : Option Operand → Option X
  | none => some .no
  | some x => match cx x with
    | .no => none
    | y => some y

/-- An interface compared with the literal nil. -/
def cEqn (op : BinOp) (x : Operand) : Operand → Option IOp
  | .const .nilIface => match op with
    | .eql => some (.eqn false (cx x))
    | .neq => some (.eqn true (cx x))
    | _ => none
  | _ => none

def compV (P : Program) : Op → Option IOp
  | .move x => some (.mv (cx x))
  | .assign x => some (.mv (cx x))
  | .pick c a b => some (.pick (cx c) (cx a) (cx b))
  | .load t x => match P.underlying t, P.info? t with
    | some d, some i => some (.ld (aggD d) i.size (cx x))
    | _, _ => none
  | .fieldAddr s x k => match P.underlying s with
    | some (.struct fs) => match fs[k]? with
      | some f => match P.info? f.type with
        | some i => match Nat.beq i.size 0 with
          | true => none
          | false => some (.fa k f.offset (cx x))
        | none => none
      | none => none
    | _ => none
  | .field s x k => match P.underlying s with
    | some (.struct fs) => match fs[k]? with
      | some f => match P.underlying f.type, P.info? f.type with
        | some d, some i => some (.fld (aggD d) i.size k f.offset (cx x))
        | _, _ => none
      | none => none
    | _ => none
  | .indexAddr t x i => match P.underlying t with
    | some (.array len e) => match P.info? e with
      | some ti => some (.ixa len ti.size (cx x) (cx i))
      | none => none
    | some (.slice e) => match P.info? e with
      | some ti => some (.ixs ti.size (cx x) (cx i))
      | none => none
    | _ => none
  | .index t x i => match P.underlying t with
    | some (.array len e) => match P.underlying e, P.info? e with
      | some d, some ti => some (.ix (aggD d) len ti.size (cx x) (cx i))
      | _, _ => none
    | some .string => some (.ixb (cx x) (cx i))
    | _ => none
  | .binOp op t x y _ => match P.underlying t with
    | some (.int _) => some (.bin op (cx x) (cx y))
    | some .string => some (.sop op (cx x) (cx y))
    | some .bool => match op with
      | .eql => some (.eqv false (cx x) (cx y))
      | .neq => some (.eqv true (cx x) (cx y))
      | _ => none
    | some (.interface _) => cEqn op x y
    | _ => match shT P 60 t, P.eqGuardType P.depth t with
      | some s, false => match op with
        | .eql => some (.eqs false s (cx x) (cx y))
        | .neq => some (.eqs true s (cx x) (cx y))
        | _ => none
      | _, _ => none
  | .unOp op _ x => some (.un op (cx x))
  | .convert s d x => match P.underlying s, P.underlying d with
    | some _, some (.int k) => some (.conv k (cx x))
    | some (.slice e), some .string => match P.underlying e with
      | some (.int .u8) => some (.b2s (cx x))
      | _ => none
    | _, _ => none
  | .extract x i => some (.ext i (cx x))
  | .build t l => match zOk P t (zeroT P 40 t) with
    | true => match P.underlying t with
      | some (.struct fs) => match fs.toList.all (fun f => (P.info? f.type).isSome), partsS P fs l.toList with
        | true, some ps => some (.build (zeroT P 40 t) ps)
        | _, _ => none
      | some (.array n e) => match P.info? e with
        | some i => some (.build (zeroT P 40 t) (partsA i.size l.toList))
        | none => none
      | _ => none
    | false => none
  | .nilCheck x => some (.nck (cx x))
  | .makeFunc fn a b => some (.mkf fn (a.toList.map cx) (b.toList.map cx))
  | .slice t x lo hi none => match okX lo, okX hi with
    | some l, some h => match P.underlying t with
      | some (.slice e) => match P.info? e with
        | some i => some (.slc i.size (cx x) l h)
        | none => none
      | some .string => some (.sls (cx x) l h)
      | some (.array len e) => match P.info? e with
        | some i => some (.sla len i.size e (cx x) l h)
        | none => none
      | _ => none
    | _, _ => none
  | .call c => match c.callee, c.args.toList, c.argTypes.toList with
    | .builtin .min, [x, y], _ => some (.mm false (cx x) (cx y))
    | .builtin .max, [x, y], _ => some (.mm true (cx x) (cx y))
    | .builtin .min, [x, y, z], _ => some (.mm3 false (cx x) (cx y) (cx z))
    | .builtin .max, [x, y, z], _ => some (.mm3 true (cx x) (cx y) (cx z))
    | .builtin .min, [x, y, z, u], _ => some (.mm4 false (cx x) (cx y) (cx z) (cx u))
    | .builtin .len, [x], [t] => match P.underlying t with
      | some (.slice _) => some (.len (cx x))
      | some .string => some (.lens (cx x))
      | some (.array n _) => match Nat.ble n 9223372036854775807 with
        | true => some (.mv (.c (.int .i64 n)))
        | false => none
      | _ => none
    | _, _, _ => none
  | _ => none

section
variable {P : Program} {gl : Nat → AV} {N : Nat} {g : Gh} {w : World} {E : Nat → AV} {o : Objs} {n : Nat} {a : Act}

def Gives (P : Program) (g : Gh) (w : World) (a : Act) (oo : Oper) (K : AV → Prop) : Prop :=
  ∃ v cv, (execOp a.eval oo).run P w = .ok (.value cv) w ∧ (R g w v).v cv ∧ K v

theorem gives_sem {oo : Oper} {K : AV → Prop} {s : Sem Value} (he : execOp a.eval oo = (do pure (.value (← s)))) {v : AV} {cv : Value} (hr : s.run P w = .ok cv w) (hv : (R g w v).v cv) (hK : K v) :
    Gives P g w a oo K := ⟨v, cv, by rw [he]; simp only [Sem.run_bind, hr, Result.andThen_ok, Sem.run_pure], hv, hK⟩

/-- What a world's reading of a pointer to a box is. -/
theorem box_seg (h : Good P gl N g w E o n a) {b : Nat} {p : List PE} {x : AV} {u : Value} (hu : (R g w (.ptr b p)).v u) (hb : lookO b o = some (.box x)) (hn : okNav p x = true) :
    ∃ (k : Nat × Nat) (cs : Array Value) (ty : TypeId), g.m b = some k ∧ Cel w (k.1) cs ty ∧ k.2 + size x ≤ cs.size ∧ u = .pointer (some ⟨k.1, k.2 + offP p, none⟩) ∧ (R g w x).s (look w k.1) k.2 ∧
      (R g w (nav p x)).s (look w k.1) (k.2 + offP p) ∧ offP p + size (nav p x) ≤ size x ∧ okPath p := by
  obtain ⟨⟨k, hp, hk, rfl⟩, _⟩ := hu
  obtain ⟨h0, _⟩ | ⟨k', cs, ty, h1, h2, h3, h4, h5, _⟩ := h.objs b _ hb
  · rw [hk] at h0; cases h0
  have : k' = k := by rw [hk] at h1; injection h1 with h1; exact h1.symm
  subst this
  obtain ⟨h6, h7⟩ := seg_nav p hn hp h5
  exact ⟨k', cs, ty, hk, h3, h4, rfl, h5, h6, h7, hp⟩

theorem elt_seg {m e : Nat} {f : Nat → AV} {i : Nat} {p : List PE} {u : Value} (hu : (R g w (.elt m e f i p)).v u) (hn : okNav p (f i) = true) :
    ∃ A : Addr, u = .pointer (some ⟨A.block, A.off + (i * e + offP p), none⟩) ∧ (R g w (nav p (f i))).s (look w A.block) (A.off + (i * e + offP p)) := by
  obtain ⟨⟨hp, hi, A, hr, rfl⟩, _⟩ := hu
  refine ⟨A, rfl, ?_⟩
  have := (seg_nav p hn hp (hr.2.2 i hi).2).1
  rwa [Nat.add_assoc] at this

theorem ok_ld (h : Good P gl N g w E o n a) {oo : Oper} {t : TypeId} {x : Operand} (ho : oo.op = .load t x) {d : TypeDesc} {i : TypeInfo} (hd : P.underlying t = some d) (hi : P.info? t = some i) {K : AV → Prop}
    (hw : wpV (evF gl E) o (.ld (aggD d) i.size (cx x)) K) : Gives P g w a oo K := by
  have hx := ev_ok h x
  simp only [wpV] at hw
  have he : execOp a.eval oo = (do pure (.value (← Instr.loadAt t (a.eval x)))) := by unfold execOp; rw [ho]
  split at hw
  · rename_i b p hev
    split at hw
    · rename_i v hb
      simp only [chk_iff] at hw
      obtain ⟨h1, h2, h3⟩ := hw
      rw [hev] at hx
      obtain ⟨k, cs, ty, hk, hc, hs, hu, _, h5, _⟩ := box_seg h hx hb h1
      obtain ⟨cv, hr, hv⟩ := run_loadVar_seg hd hi h2 h5
      refine gives_sem he (cv := cv) ?_ hv h3
      rw [hu]
      simp only [Instr.loadAt, Instr.sureAddr, Sem.run_bind, Sem.run_pure, Result.andThen_ok, hr]
    · exact hw.elim
  · rename_i m e f q p hev
    simp only [chk_iff] at hw
    obtain ⟨h1, h2, h3⟩ := hw
    rw [hev] at hx
    obtain ⟨A, hu, h5⟩ := elt_seg hx h1
    obtain ⟨cv, hr, hv⟩ := run_loadVar_seg hd hi h2 h5
    refine gives_sem he (cv := cv) ?_ hv h3
    rw [hu]
    simp only [Instr.loadAt, Instr.sureAddr, Sem.run_bind, Sem.run_pure, Result.andThen_ok, hr]
  · exact hw.elim

theorem ok_fa (h : Good P gl N g w E o n a) {oo : Oper} {s : TypeId} {x : Operand} {k : Nat} (ho : oo.op = .fieldAddr s x k) {fs : Array Field} {f : Field} {i : TypeInfo} (hd : P.underlying s = some (.struct fs))
    (hf : fs[k]? = some f) (hi : P.info? f.type = some i) (h0 : Nat.beq i.size 0 = false) {K : AV → Prop} (hw : wpV (evF gl E) o (.fa k f.offset (cx x)) K) : Gives P g w a oo K := by
  have hx := ev_ok h x
  simp only [wpV] at hw
  have he : execOp a.eval oo = (do pure (.value (← Instr.fieldAt s (a.eval x) k))) := by unfold execOp; rw [ho]
  have h0' : i.size ≠ 0 := fun e => by rw [e] at h0; cases h0
  have run : ∀ b off, (Instr.fieldAt s (.pointer (some ⟨b, off, none⟩)) k).run P w = .ok (.pointer (some ⟨b, off + f.offset, none⟩)) w := by
    intro b off
    simp only [Instr.fieldAt, Sem.run_bind, run_underlying' hd, Result.andThen_ok, hf, Instr.sureAddr, Sem.run_pure, fieldPlace, run_sizeOf' hi, h0', if_false, Sem.run_ite, addr_add]
  split at hw
  · rename_i b p hev
    rw [hev] at hx
    obtain ⟨⟨q, hp, hk, hu⟩, _⟩ := hx
    refine gives_sem he (cv := .pointer (some ⟨q.1, q.2 + offP p + f.offset, none⟩)) (by rw [hu]; exact run _ _) ?_ hw
    exact ⟨⟨q, ⟨trivial, hp⟩, hk, by simp only [offP, PE.off, Nat.add_assoc]⟩, trivial⟩
  · rename_i m e fe q p hev
    rw [hev] at hx
    obtain ⟨⟨hp, hq, A, hr, hu⟩, _⟩ := hx
    refine gives_sem he (cv := .pointer (some ⟨A.block, A.off + (q * e + offP p) + f.offset, none⟩)) (by rw [hu]; exact run _ _) ?_ hw
    exact ⟨⟨⟨trivial, hp⟩, hq, A, hr, by simp only [offP, PE.off, Nat.add_assoc]⟩, trivial⟩
  · exact hw.elim

theorem run_part_seg {t : TypeId} {d : TypeDesc} {i : TypeInfo} (hu : P.underlying t = some d) (hi : P.info? t = some i) {cs : Array Value} {off : Nat} {v : AV} (hf : fits (aggD d) i.size v = true)
    (hs : (R g w v).s (fun j => cs[j]?) off) (hb : off + size v ≤ cs.size) : ∃ cv, (part t cs off).run P w = .ok cv w ∧ (R g w v).v cv := by
  unfold part
  simp only [Sem.run_bind, run_isAgg hu, Result.andThen_ok]
  cases hd : aggD d with
  | true =>
    rw [hd] at hf
    simp only [fits, Bool.and_eq_true] at hf
    have e := sizeIs_eq hf.2
    refine ⟨.agg (cs.extract off (off + i.size)), by simp only [if_true, Sem.run_bind, run_sizeOf' hi, Result.andThen_ok, Sem.run_pure], seg_ag hf.1 hs ?_ ?_⟩
    · simp only [Array.size_extract]; omega
    · intro j hj
      rw [Array.getElem?_extract]
      simp only [e] at hj ⊢
      split
      · rfl
      · omega
  | false =>
    rw [hd] at hf
    simp only [fits] at hf
    obtain ⟨u, h1, h2, _⟩ := seg_cell hf hs
    refine ⟨u, ?_, h2⟩
    simp only [Bool.false_eq_true, if_false, h1, Sem.run_pure]

theorem st_v {l : AV} {u : Value} (hx : (R g w (.st l)).v u) : ∃ cs : Array Value, u = .agg cs ∧ cs.size = size l ∧ (R g w l).s (fun j => cs[j]?) 0 := hx

theorem ok_fld (h : Good P gl N g w E o n a) {oo : Oper} {s : TypeId} {x : Operand} {k : Nat} (ho : oo.op = .field s x k) {fs : Array Field} {f : Field} {d : TypeDesc} {i : TypeInfo} (hd : P.underlying s = some (.struct fs))
    (hf : fs[k]? = some f) (hu : P.underlying f.type = some d) (hi : P.info? f.type = some i) {K : AV → Prop} (hw : wpV (evF gl E) o (.fld (aggD d) i.size k f.offset (cx x)) K) : Gives P g w a oo K := by
  have hx := ev_ok h x
  simp only [wpV] at hw
  have he : execOp a.eval oo = (do pure (.value (← Instr.field s (a.eval x) k))) := by unfold execOp; rw [ho]
  split at hw
  · rename_i l hev
    simp only [chk_iff] at hw
    obtain ⟨h1, h2, h3, h4⟩ := hw
    rw [hev] at hx
    obtain ⟨cs, hcv, hsz, hsg⟩ := st_v hx
    obtain ⟨h5, h6⟩ := seg_nth k l h1 hsg
    rw [Nat.zero_add, offIs_eq h2] at h5
    rw [offIs_eq h2] at h6
    obtain ⟨cv, hr, hv⟩ := run_part_seg hu hi h3 h5 (by omega)
    refine gives_sem he (cv := cv) ?_ hv h4
    rw [hcv]
    simp only [Instr.field, Sem.run_bind, run_underlying' hd, Result.andThen_ok, hf, asAgg, Sem.run_pure, hr]
  · exact hw.elim

theorem int_v {k : IntKind} {j : Int} {u : Value} (hx : (R g w (.val (.int k j))).v u) : u = .int k j := hx.1
theorem int_ok {k : IntKind} {j : Int} {u : Value} (hx : (R g w (.val (.int k j))).v u) : okI k j := by
  obtain ⟨rfl, h⟩ := hx
  exact h
theorem okI_len {n : Nat} (h : n ≤ 9223372036854775807) : okI .i64 n := by
  have h1 : IntKind.i64.min = -9223372036854775808 := by decide
  have h2 : IntKind.i64.max = 9223372036854775807 := by decide
  unfold okI
  omega
theorem val_v {x u : Value} (hx : (R g w (.val x)).v u) : u = x := hx.1

theorem ok_ixa (h : Good P gl N g w E o n a) {oo : Oper} {t e : TypeId} {x ix : Operand} {len : Nat} (ho : oo.op = .indexAddr t x ix) {i : TypeInfo} (hd : P.underlying t = some (.array len e))
    (hi : P.info? e = some i) {K : AV → Prop} (hw : wpV (evF gl E) o (.ixa len i.size (cx x) (cx ix)) K) : Gives P g w a oo K := by
  have hx := ev_ok h x
  have hj := ev_ok h ix
  simp only [wpV] at hw
  have he : execOp a.eval oo = (do pure (.value (← Instr.indexAt t (a.eval x) (a.eval ix)))) := by unfold execOp; rw [ho]
  have run : ∀ b off k (j : Int), 0 ≤ j → j < (len : Int) → (Instr.indexAt t (.pointer (some ⟨b, off, none⟩)) (.int k j)).run P w = .ok (.pointer (some ⟨b, off + j.toNat * i.size, none⟩)) w := by
    intro b off k j h0 h1
    simp only [Instr.indexAt, asIntOf, Sem.run_bind, Sem.run_pure, run_underlying' hd, Result.andThen_ok, Instr.sureAddr, h0, h1, and_self, if_true, run_sizeOf' hi, addr_add]
  split at hw
  · rename_i b p k j hev hevi
    obtain ⟨⟨h0, h1⟩, hK⟩ := hw
    rw [hev] at hx
    rw [hevi] at hj
    obtain ⟨⟨q, hp, hk, hu⟩, _⟩ := hx
    refine gives_sem he (cv := .pointer (some ⟨q.1, q.2 + offP p + j.toNat * i.size, none⟩)) (by rw [hu, int_v hj]; exact run _ _ _ _ h0 h1) ?_ hK
    exact ⟨⟨q, ⟨(by simp only [PE.ok]; omega), hp⟩, hk, by simp only [offP, PE.off, Nat.add_assoc]⟩, trivial⟩
  · rename_i m e' fe q p k j hev hevi
    obtain ⟨⟨h0, h1⟩, hK⟩ := hw
    rw [hev] at hx
    rw [hevi] at hj
    obtain ⟨⟨hp, hq, A, hr, hu⟩, _⟩ := hx
    refine gives_sem he (cv := .pointer (some ⟨A.block, A.off + (q * e' + offP p) + j.toNat * i.size, none⟩)) (by rw [hu, int_v hj]; exact run _ _ _ _ h0 h1) ?_ hK
    exact ⟨⟨⟨(by simp only [PE.ok]; omega), hp⟩, hq, A, hr, by simp only [offP, PE.off, Nat.add_assoc]⟩, trivial⟩
  · exact hw.elim

theorem ok_ixs (h : Good P gl N g w E o n a) {oo : Oper} {t e : TypeId} {x ix : Operand} (ho : oo.op = .indexAddr t x ix) {i : TypeInfo} (hd : P.underlying t = some (.slice e))
    (hi : P.info? e = some i) {K : AV → Prop} (hw : wpV (evF gl E) o (.ixs i.size (cx x) (cx ix)) K) : Gives P g w a oo K := by
  have hx := ev_ok h x
  have hj := ev_ok h ix
  simp only [wpV] at hw
  have he : execOp a.eval oo = (do pure (.value (← Instr.indexAt t (a.eval x) (a.eval ix)))) := by unfold execOp; rw [ho]
  have run : ∀ b off (len c : Nat) k (j : Int), 0 ≤ j → j < (len : Int) → (Instr.indexAt t (.slice (some ⟨b, off, none⟩) len c) (.int k j)).run P w = .ok (.pointer (some ⟨b, off + j.toNat * i.size, none⟩)) w := by
    intro b off len c k j h0 h1
    simp only [Instr.indexAt, asIntOf, Sem.run_bind, Sem.run_pure, run_underlying' hd, Result.andThen_ok, h0, h1, and_self, if_true, run_sizeOf' hi, addr_add]
  split at hw
  · rename_i tok m e' f k j hev hevi
    simp only [chk_iff] at hw
    obtain ⟨hee, ⟨h0, h1⟩, hK⟩ := hw
    rw [hev] at hx
    rw [hevi] at hj
    obtain ⟨⟨oa, c, hu, hc, ht, hm⟩, _⟩ := hx
    have hee := beq_eq hee
    subst hee
    cases oa with
    | none => obtain ⟨rfl, _⟩ := hm; omega
    | some A =>
      obtain ⟨hsp, hG, hrow⟩ := hm
      obtain ⟨Ab, Ao, As⟩ := A
      have hsp := hsp (by omega)
      simp only at hsp
      subst hsp
      refine gives_sem he (cv := .pointer (some ⟨Ab, Ao + j.toNat * i.size, none⟩)) (by rw [hu, int_v hj]; exact run _ _ _ _ _ _ h0 h1) ?_ hK
      exact ⟨⟨trivial, by omega, ⟨Ab, Ao, none⟩, ⟨fun _ => rfl, hG, hrow⟩, by simp [offP]⟩, trivial⟩
  · rename_i b lo m e' ty' k j hev hevi
    split at hw
    · rename_i M e'' f hb
      simp only [chk_iff] at hw
      obtain ⟨he1, he2, ⟨h0, h1⟩, h2, hK⟩ := hw
      have he1 := beq_eq he1
      subst he1
      have he2 := beq_eq he2
      rw [hev] at hx
      rw [hevi] at hj
      obtain ⟨hx | ⟨q, c, hk, hc, hu, _⟩, _⟩ := hx
      · omega
      refine gives_sem he (cv := .pointer (some ⟨q.1, q.2 + lo * i.size + j.toNat * i.size, none⟩)) (by rw [hu, int_v hj]; exact run _ _ _ _ _ _ h0 h1) ?_ hK
      exact ⟨⟨q, ⟨h2, trivial⟩, hk, by simp [offP, PE.off, Nat.add_mul, Nat.add_assoc]⟩, trivial⟩
    · exact hw.elim
  · exact hw.elim

theorem ok_ix (h : Good P gl N g w E o n a) {oo : Oper} {t e : TypeId} {x ix : Operand} {len : Nat} (ho : oo.op = .index t x ix) {d : TypeDesc} {i : TypeInfo} (hd : P.underlying t = some (.array len e))
    (hu : P.underlying e = some d) (hi : P.info? e = some i) {K : AV → Prop} (hw : wpV (evF gl E) o (.ix (aggD d) len i.size (cx x) (cx ix)) K) : Gives P g w a oo K := by
  have hx := ev_ok h x
  have hj := ev_ok h ix
  simp only [wpV] at hw
  have he : execOp a.eval oo = (do pure (.value (← Instr.index t (a.eval x) (a.eval ix)))) := by unfold execOp; rw [ho]
  split at hw
  · rename_i m e' f k j hev hevi
    simp only [chk_iff] at hw
    obtain ⟨hl, hee, ⟨h0, h1⟩, hf, hK⟩ := hw
    rw [hev] at hx
    rw [hevi] at hj
    have hl := beq_eq hl
    have hee := beq_eq hee
    subst hl hee
    obtain ⟨cs, hcv, hsz, hsg⟩ := hx
    obtain ⟨hs1, hs2⟩ := hsg j.toNat (by omega)
    rw [Nat.zero_add] at hs2
    have hlt : j.toNat < m := by omega
    have := mul_add_lt (j := 0) (e := i.size) hlt
    obtain ⟨cv, hr, hv⟩ := run_part_seg (P := P) hu hi hf hs2 (by
      rw [hs1, hsz]
      have : (j.toNat + 1) * i.size ≤ m * i.size := Nat.mul_le_mul_right _ hlt
      rwa [Nat.succ_mul] at this)
    refine gives_sem he (cv := cv) ?_ hv hK
    rw [hcv, int_v hj]
    simp only [Instr.index, asIntOf, Sem.run_bind, Sem.run_pure, run_underlying' hd, Result.andThen_ok, h0, h1, and_self, if_true, run_sizeOf' hi, hr]
  · exact hw.elim

theorem okI_byte (s : ByteArray) (j : Nat) : okI .u8 (bt s j) := by
  have : (s.data.getD j 0).toNat < 256 := UInt8.toNat_lt _
  unfold okI bt
  generalize (s.data.getD j 0).toNat = q at this
  have h1 : IntKind.u8.min = 0 := by decide
  have h2 : IntKind.u8.max = 255 := by decide
  rw [h1, h2]
  omega

theorem okI_sub {k : IntKind} {x y : Int} (h : okI k x) (h1 : 0 ≤ x → 0 ≤ y ∧ y ≤ x) (h2 : x < 0 → x ≤ y ∧ y ≤ 0) : okI k y := by
  obtain ⟨l, u⟩ := h
  have hm : k.min ≤ 0 := by cases k <;> decide
  have hM : 0 ≤ k.max := by cases k <;> decide
  unfold okI
  by_cases c : 0 ≤ x
  · have := h1 c; omega
  · have := h2 (by omega); omega

theorem okI_tmod {k : IntKind} {x y : Int} (h : okI k x) : okI k (x.tmod y) := by
  have h1 : (x.tmod y).natAbs ≤ x.natAbs := by rw [Int.natAbs_tmod]; exact Nat.mod_le _ _
  have h2 : 0 ≤ x → 0 ≤ x.tmod y := fun h => Int.tmod_nonneg y h
  have h3 : x ≤ 0 → x.tmod y ≤ 0 := fun h => by
    have := Int.tmod_nonneg y (a := -x) (by omega)
    rw [Int.neg_tmod] at this
    omega
  exact okI_sub h (fun h => ⟨h2 h, by have := h2 h; omega⟩) (fun h => ⟨by have := h3 (by omega); omega, h3 (by omega)⟩)

theorem fdiv_pow {x : Int} (n : Nat) : (0 ≤ x → 0 ≤ x.fdiv (2 ^ n) ∧ x.fdiv (2 ^ n) ≤ x) ∧ (x < 0 → x ≤ x.fdiv (2 ^ n) ∧ x.fdiv (2 ^ n) < 0) := by
  have hp : (1 : Int) ≤ 2 ^ n := by have := Nat.one_le_two_pow (n := n); exact_mod_cast this
  rw [Int.fdiv_eq_ediv_of_nonneg _ (by omega)]
  generalize (2 : Int) ^ n = p at hp
  refine ⟨fun h => ⟨Int.ediv_nonneg h (by omega), ?_⟩, fun h => ⟨?_, Int.ediv_neg_of_neg_of_pos h (by omega)⟩⟩
  · exact Int.ediv_le_self _ h
  · rw [Int.le_ediv_iff_mul_le (by omega)]
    have h2 : x * p ≤ x * 1 := Int.mul_le_mul_of_nonpos_left (by omega) hp
    omega

theorem okI_shr {k : IntKind} {x : Int} {n : Nat} (h : okI k x) : okI k (x.fdiv (2 ^ n)) := by
  obtain ⟨h1, h2⟩ := fdiv_pow (x := x) n
  exact okI_sub h h1 (fun h => ⟨(h2 h).1, by have := (h2 h).2; omega⟩)

theorem ok_ixb (h : Good P gl N g w E o n a) {oo : Oper} {t : TypeId} {x ix : Operand} (ho : oo.op = .index t x ix) (hd : P.underlying t = some .string)
    {K : AV → Prop} (hw : wpV (evF gl E) o (.ixb (cx x) (cx ix)) K) : Gives P g w a oo K := by
  have hx := ev_ok h x
  have hj := ev_ok h ix
  simp only [wpV] at hw
  have he : execOp a.eval oo = (do pure (.value (← Instr.index t (a.eval x) (a.eval ix)))) := by unfold execOp; rw [ho]
  split at hw
  · rename_i s k j hev hevi
    obtain ⟨⟨h0, h1⟩, hK⟩ := hw
    rw [hev] at hx
    rw [hevi] at hj
    refine gives_sem he (cv := .int .u8 (bt s j.toNat)) ?_ (show (R g w (.val _)).v _ from ⟨rfl, okI_byte s j.toNat⟩) hK
    rw [val_v hx, int_v hj]
    have hlt : j.toNat < s.size := by omega
    have e1 : s[j.toNat]? = some s[j.toNat] := getElem?_pos s j.toNat hlt
    have e2 : bt s j.toNat = ((s[j.toNat].toNat : Nat) : Int) := by
      unfold bt
      have : j.toNat < s.data.size := hlt
      rw [Array.getD_eq_getD_getElem?, Array.getElem?_eq_getElem this]; rfl
    simp only [Instr.index, asIntOf, Sem.run_bind, Sem.run_pure, run_underlying' hd, Result.andThen_ok, h0, if_true, e1, e2]
  · exact hw.elim


theorem ok_mv (h : Good P gl N g w E o n a) {oo : Oper} {x : Operand} (he : execOp a.eval oo = (do pure (.value (← (pure (a.eval x) : Sem Value))))) {K : AV → Prop} (hw : wpV (evF gl E) o (.mv (cx x)) K) : Gives P g w a oo K :=
  gives_sem he (cv := a.eval x) rfl (ev_ok h x) hw

theorem ok_pick (h : Good P gl N g w E o n a) {oo : Oper} {c x y : Operand} (ho : oo.op = .pick c x y) {K : AV → Prop} (hw : wpV (evF gl E) o (.pick (cx c) (cx x) (cx y)) K) : Gives P g w a oo K := by
  have hc := ev_ok h c
  simp only [wpV] at hw
  split at hw
  · rename_i t hev
    rw [hev] at hc
    have hc := val_v hc
    cases t with
    | true => exact ⟨_, _, by unfold execOp; rw [ho]; simp [hc, asBool], ev_ok h x, hw⟩
    | false => exact ⟨_, _, by unfold execOp; rw [ho]; simp [hc, asBool], ev_ok h y, hw⟩
  · exact hw.elim

theorem val_mk (x : Value) (hx : cellV x) : (R g w (.val x)).v x := ⟨rfl, hx⟩

theorem gv {s : Sem Value} {x : Value} {K : AV → Prop} (hK : K (.val x)) (hx : cellV x) (hr : s.run P w = .ok x w) : ∃ v cv, s.run P w = .ok cv w ∧ (R g w v).v cv ∧ K v :=
  ⟨.val x, x, hr, val_mk x hx, hK⟩

theorem gives_val {oo : Oper} {K : AV → Prop} {s : Sem Value} (he : execOp a.eval oo = (do pure (.value (← s)))) {x : Value} (hK : K (.val x)) (hx : cellV x) (hr : s.run P w = .ok x w) :
    Gives P g w a oo K := gives_sem he hr (val_mk x hx) hK

theorem run_bin {op : BinOp} {t : TypeId} {k k' : IntKind} {x y : Int} {K : AV → Prop} (hkx : okI k x) (hw : binV op k k' x y K) : ∃ v cv, (Go.binOp op t (.int k x) (.int k' y)).run P w = .ok cv w ∧ (R g w v).v cv ∧ K v := by
  cases op <;> simp only [binV, chk_iff, brB_iff] at hw
  case shl =>
    obtain ⟨h1, h2⟩ := hw
    have : ¬ y < 0 := by omega
    exact gv h2 (okI_wrap _ _) (by simp [Go.binOp, Op.shift, this])
  case shr =>
    obtain ⟨h1, h2⟩ := hw
    have : ¬ y < 0 := by omega
    exact gv h2 (okI_shr hkx) (by simp [Go.binOp, Op.shift, this])
  case quo => obtain ⟨e, h0, h1⟩ := hw; have e := kEq_eq e; subst e; exact gv h1 (okI_wrap _ _) (by simp [Go.binOp, Op.intDiv, h0])
  case rem => obtain ⟨e, h0, h1⟩ := hw; have e := kEq_eq e; subst e; exact gv h1 (okI_tmod hkx) (by simp [Go.binOp, Op.intDiv, h0])
  case eql => obtain ⟨e, h1⟩ := hw; have e := kEq_eq e; subst e; exact gv h1 trivial (by simp [Go.binOp, Op.intCmp]; rfl)
  case neq => obtain ⟨e, h1⟩ := hw; have e := kEq_eq e; subst e; exact gv h1 trivial (by simp [Go.binOp, Op.intCmp, bne]; rfl)
  all_goals (obtain ⟨e, h1⟩ := hw; have e := kEq_eq e; subst e)
  all_goals first
    | (refine gv h1 trivial ?_; simp [Go.binOp, Op.intArith, Op.intCmp]; done)
    | (refine gv h1 (okI_wrap _ _) ?_; simp [Go.binOp, Op.intArith, Op.intCmp]; done)
    | (simp only [bitV] at h1; refine gv h1 (okI_wrap _ _) ?_; simp only [Go.binOp, ne_eq, not_true_eq_false, if_false]; rfl)

theorem exec_bin {ρ : Operand → Value} {oo : Oper} {op : BinOp} {t ty : TypeId} {x y : Operand} (ho : oo.op = .binOp op t x y ty) {u v : Value} (hu : ρ x = u) (hv : ρ y = v)
    (hn : ∀ (c d : Array Value), ¬ (u = .agg c ∧ v = .agg d)) (hn' : ¬ (u = .nilIface ∧ v = .nilIface)) : ∀ w, (execOp ρ oo).run P w = ((Go.binOp op t u v).run P w).andThen fun r w' => .ok (.value r) w' := by
  intro w
  unfold execOp
  rw [ho]
  simp only [hu, hv]
  have hg : (Go.eqGuard op t x y u v).run P w = .ok () w := by
    unfold Go.eqGuard
    cases u <;> cases v <;> cases op <;> first
      | rfl
      | exact absurd ⟨rfl, rfl⟩ hn'
      | exact absurd ⟨rfl, rfl⟩ (hn _ _)
  simp only [Sem.run_bind, hg, Result.andThen_ok]
  cases (Go.binOp op t u v).run P w <;> rfl

theorem ok_bin (h : Good P gl N g w E o n a) {oo : Oper} {op : BinOp} {t ty : TypeId} {x y : Operand} (ho : oo.op = .binOp op t x y ty) {K : AV → Prop} (hw : wpV (evF gl E) o (.bin op (cx x) (cx y)) K) : Gives P g w a oo K := by
  have hx := ev_ok h x
  have hy := ev_ok h y
  simp only [wpV] at hw
  split at hw
  · rename_i k u k' v hev hevy
    rw [hev] at hx
    rw [hevy] at hy
    obtain ⟨r, cv, h1, h2, h3⟩ := run_bin (P := P) (g := g) (w := w) (t := t) (int_ok hx) hw
    exact ⟨r, cv, by rw [exec_bin ho (val_v hx) (val_v hy) (fun _ _ e => by cases e.1) (fun e => by cases e.1), h1]; rfl, h2, h3⟩
  · exact hw.elim

theorem ok_sop (h : Good P gl N g w E o n a) {oo : Oper} {op : BinOp} {t ty : TypeId} {x y : Operand} (ho : oo.op = .binOp op t x y ty) {K : AV → Prop} (hw : wpV (evF gl E) o (.sop op (cx x) (cx y)) K) : Gives P g w a oo K := by
  have hx := ev_ok h x
  have hy := ev_ok h y
  simp only [wpV] at hw
  split at hw
  · rename_i u v hev hevy
    rw [hev] at hx
    rw [hevy] at hy
    suffices ∃ r cv, (Go.binOp op t (.string u) (.string v)).run P w = .ok cv w ∧ (R g w r).v cv ∧ K r by
      obtain ⟨r, cv, h1, h2, h3⟩ := this
      exact ⟨r, cv, by rw [exec_bin ho (val_v hx) (val_v hy) (fun _ _ e => by cases e.1) (fun e => by cases e.1), h1]; rfl, h2, h3⟩
    cases op <;> simp only [strV, brB_iff] at hw <;> first
      | exact hw.elim
      | (refine gv hw trivial ?_; simp [Go.binOp, Op.stringOp]; done)
      | skip
    obtain ⟨hl, hK⟩ := hw
    have : ¬ ((u.size : Int) + (v.size : Int) > IntKind.i64.max) := by simp only [IntKind.max, IntKind.signed, IntKind.bits]; simp; omega
    exact gv hK (show (u ++ v).size ≤ 9223372036854775807 by rw [ByteArray.size_append]; omega) (by simp only [Go.binOp, Op.stringOp, Int.natCast_add, this, if_false, Sem.run_pure])
  · exact hw.elim

theorem ok_eqv (h : Good P gl N g w E o n a) {oo : Oper} {ne : Bool} {t ty : TypeId} {x y : Operand} (ho : oo.op = .binOp (if ne then .neq else .eql) t x y ty) (hd : P.underlying t = some .bool) {K : AV → Prop}
    (hw : wpV (evF gl E) o (.eqv ne (cx x) (cx y)) K) : Gives P g w a oo K := by
  have hx := ev_ok h x
  have hy := ev_ok h y
  simp only [wpV] at hw
  split at hw
  · rename_i u v hev hevy
    rw [hev] at hx
    rw [hevy] at hy
    suffices ∃ r cv, (Go.binOp (if ne then .neq else .eql) t (.bool u) (.bool v)).run P w = .ok cv w ∧ (R g w r).v cv ∧ K r by
      obtain ⟨r, cv, h1, h2, h3⟩ := this
      exact ⟨r, cv, by rw [exec_bin ho (val_v hx) (val_v hy) (fun _ _ e => by cases e.1) (fun e => by cases e.1), h1]; rfl, h2, h3⟩
    have heq : (Op.equal t (.bool u) (.bool v)).run P w = .ok (u == v) w := by
      unfold Op.equal
      rw [show Op.maxDepth = 9999 + 1 from rfl, Op.equalIn]
      simp only [Sem.run_bind, run_underlying' hd, Result.andThen_ok, Sem.run_pure]
    cases ne
    · exact gv hw trivial (by simp only [Bool.false_eq_true, if_false, Go.binOp, Sem.run_bind, heq, Result.andThen_ok, Sem.run_pure])
    · exact gv hw trivial (by simp only [if_true, Go.binOp, Sem.run_bind, heq, Result.andThen_ok, Sem.run_pure])
  · exact hw.elim

theorem ok_eqn (h : Good P gl N g w E o n a) {oo : Oper} {ne : Bool} {t ty : TypeId} {x : Operand} {ms : Array (String × TypeId)} (ho : oo.op = .binOp (if ne then .neq else .eql) t x (.const .nilIface) ty) (hd : P.underlying t = some (.interface ms)) {K : AV → Prop}
    (hw : wpV (evF gl E) o (.eqn ne (cx x)) K) : Gives P g w a oo K := by
  have hx := ev_ok h x
  simp only [wpV] at hw
  have hy : a.eval (.const .nilIface) = .nilIface := rfl
  split at hw
  · rename_i hev
    rw [hev] at hx
    have hxv := val_v hx
    refine ⟨.val (.bool (!ne)), .bool (!ne), ?_, ⟨rfl, trivial⟩, hw⟩
    have heq : (Op.equal t .nilIface .nilIface).run P w = .ok true w := by
      unfold Op.equal
      rw [show Op.maxDepth = 9999 + 1 from rfl, Op.equalIn]
      simp only [Sem.run_bind, run_underlying' hd, Result.andThen_ok, Sem.run_pure]
    have hg : ∀ op, Go.eqGuard op t x (.const .nilIface) .nilIface .nilIface = pure () := fun op => by cases op <;> cases x <;> rfl
    unfold execOp
    rw [ho]
    simp only [hxv, hy, hg]
    cases ne
    · simp only [Bool.false_eq_true, if_false, Go.binOp, Sem.run_bind, heq, Result.andThen_ok, Sem.run_pure]; rfl
    · simp only [if_true, Go.binOp, Sem.run_bind, heq, Result.andThen_ok, Sem.run_pure]
  · rename_i ti ai hev
    rw [hev] at hx
    obtain ⟨⟨v0, hu, _⟩, _⟩ := hx
    refine ⟨.val (.bool ne), .bool ne, ?_, ⟨rfl, trivial⟩, hw⟩
    have heq : (Op.equal t (.iface ti v0) .nilIface).run P w = .ok false w := by
      unfold Op.equal
      rw [show Op.maxDepth = 9999 + 1 from rfl, Op.equalIn]
      simp only [Sem.run_bind, run_underlying' hd, Result.andThen_ok, Sem.run_pure]
    rw [exec_bin ho hu hy (fun _ _ e => by cases e.1) (fun e => by cases e.1)]
    cases ne
    · simp only [Bool.false_eq_true, if_false, Go.binOp, Sem.run_bind, heq, Result.andThen_ok, Sem.run_pure]
    · simp only [if_true, Go.binOp, Sem.run_bind, heq, Result.andThen_ok, Sem.run_pure, Bool.not_false]
  · exact hw.elim

theorem ok_un (h : Good P gl N g w E o n a) {oo : Oper} {op : UnOp} {t : TypeId} {x : Operand} (ho : oo.op = .unOp op t x) {K : AV → Prop} (hw : wpV (evF gl E) o (.un op (cx x)) K) : Gives P g w a oo K := by
  have hx := ev_ok h x
  simp only [wpV] at hw
  have he : execOp a.eval oo = (do pure (.value (← Op.unary op (a.eval x)))) := by unfold execOp; rw [ho]
  split at hw
  · rename_i v hev
    rw [hev] at hx
    have hx := val_v hx
    unfold unV at hw
    split at hw
    · exact gives_val he hw (okI_wrap _ _) (by rw [hx]; simp [Op.unary, Op.intArith])
    · simp only [bitV] at hw
      exact gives_val he hw (okI_wrap _ _) (by rw [hx]; simp [Op.unary, Op.intBits])
    · exact gives_val he hw trivial (by rw [hx]; simp [Op.unary])
    · exact hw.elim
  · exact hw.elim

theorem ok_conv (h : Good P gl N g w E o n a) {oo : Oper} {s t : TypeId} {x : Operand} {k : IntKind} {d : TypeDesc} (ho : oo.op = .convert s t x) (hs : P.underlying s = some d) (ht : P.underlying t = some (.int k)) {K : AV → Prop}
    (hw : wpV (evF gl E) o (.conv k (cx x)) K) : Gives P g w a oo K := by
  have hx := ev_ok h x
  simp only [wpV] at hw
  have he : execOp a.eval oo = (do pure (.value (← Go.convert s t (a.eval x)))) := by unfold execOp; rw [ho]
  split at hw
  · rename_i k' j hev
    rw [hev] at hx
    exact gives_sem he (cv := .int k (k.wrap j)) (by rw [val_v hx]; simp [Go.convert, run_underlying' hs, run_underlying' ht, Conv.intToInt]) (val_mk _ (okI_wrap _ _)) hw
  · exact hw.elim

theorem ok_b2s (h : Good P gl N g w E o n a) {oo : Oper} {s t e : TypeId} {x : Operand} (ho : oo.op = .convert s t x) (hs : P.underlying s = some (.slice e)) (hb : P.underlying e = some (.int .u8)) (ht : P.underlying t = some .string) {K : AV → Prop}
    (hw : wpV (evF gl E) o (.b2s (cx x)) K) : Gives P g w a oo K := by
  have hx := ev_ok h x
  simp only [wpV] at hw
  have he : execOp a.eval oo = (do pure (.value (← Go.convert s t (a.eval x)))) := by unfold execOp; rw [ho]
  split at hw
  · rename_i tok m e' f hev
    obtain ⟨hee, hf, hK⟩ := chk_iff.1 hw
    have hee := beq_eq hee
    subst hee
    rw [hev] at hx
    obtain ⟨⟨oa, c, hu, hc, ht2, hrow⟩, hcv⟩ := hx
    have hcv : m ≤ 9223372036854775807 := by rw [hu] at hcv; exact hcv
    have hlen : ((List.range m).map fun i => numA (f i)).length = m := by simp
    refine gives_val he hK (show (strF m f).size ≤ 9223372036854775807 by unfold strF; rw [strOfNums_size, hlen]; exact hcv) ?_
    rw [hu]
    cases oa with
    | none =>
      obtain ⟨rfl, rfl⟩ := hrow
      rw [run_convert_bytes_nil w s e hs hb 0 0 t ht]
      rfl
    | some A =>
      obtain ⟨h1, h2, h3⟩ := hrow
      by_cases hm0 : m = 0
      · subst hm0
        have h0 : (loadCells A 0).run P w = .ok #[] w := by
          have := run_loadCells_list (P := P) w A ([] : List Value) (fun j v hj => by simp at hj)
          simpa using this
        rw [run_convert_bytes_string w s t e (some A) 0 c hs hb ht, run_bytesToString w A 0 c [] (by simpa using h0)]
        rfl
      · obtain ⟨Ab, Ao, As⟩ := A
        have h1 := h1 (by omega)
        simp only at h1
        subst h1
        refine run_convert_bytes_arg w s e hs hb Ab Ao m c _ hlen (fun i hi => ?_) t ht
        obtain ⟨b, hb2⟩ := hf i hi
        obtain ⟨_, h4⟩ := h3 i hi
        rw [hb2, Nat.mul_one] at h4
        obtain ⟨v, hv, rfl, _⟩ := h4
        show w.cell? ⟨Ab, Ao + i, none⟩ = _
        rw [show look w Ab (Ao + i) = w.cell? ⟨Ab, Ao + i, none⟩ from rfl] at hv
        rw [hv]
        simp [List.getD, List.getElem?_map, List.getElem?_range hi, numA, hb2]
  · rename_i b lo m e' ty' hev
    split at hw
    · rename_i m' e2 f hbo
      simp only [chk_iff] at hw
      obtain ⟨he1, he2, hle, hf, hK⟩ := hw
      have he1 := beq_eq he1
      have he2 := beq_eq he2
      subst he1 he2
      have hle := Nat.le_of_ble_eq_true hle
      rw [hev] at hx
      obtain ⟨hx1, hcv⟩ := hx
      have hlen : ((List.range m).map fun i => numA (f (lo + i))).length = m := by simp
      rcases hx1 with ⟨rfl, hu⟩ | ⟨bb, c, hm, hmc, hu, hc, cs, hcs, hfit⟩
      · refine gives_val he hK (show (strF 0 _).size ≤ 9223372036854775807 by unfold strF; rw [strOfNums_size, hlen]; exact Nat.zero_le _) ?_
        rw [hu, run_convert_bytes_nil w s e hs hb 0 0 t ht]
        rfl
      · have hcv : m ≤ 9223372036854775807 := by omega
        refine gives_val he hK (show (strF m _).size ≤ 9223372036854775807 by unfold strF; rw [strOfNums_size, hlen]; exact hcv) ?_
        rw [hu]
        by_cases hm0 : m = 0
        · subst hm0
          have h0 : (loadCells ⟨bb.1, bb.2 + lo * 1, none⟩ 0).run P w = .ok #[] w := by
            have := run_loadCells_list (P := P) w ⟨bb.1, bb.2 + lo * 1, none⟩ ([] : List Value) (fun j v hj => by simp at hj)
            simpa using this
          rw [run_convert_bytes_string w s t e (some ⟨bb.1, bb.2 + lo * 1, none⟩) 0 c hs hb ht, run_bytesToString w ⟨bb.1, bb.2 + lo * 1, none⟩ 0 c [] (by simpa using h0)]
          rfl
        · refine run_convert_bytes_arg w s e hs hb bb.1 (bb.2 + lo * 1) m c _ hlen (fun i hi => ?_) t ht
          obtain ⟨b8, hb2⟩ := hf i hi
          rcases h.objs _ _ hbo with ⟨p1, _⟩ | ⟨k, cs', ty2, p1, p2, p3, p4, p5, p6⟩
          · rw [p1] at hm; cases hm
          · rw [p1] at hm
            injection hm with hm
            subst hm
            obtain ⟨_, h4⟩ := p5 (lo + i) (by omega)
            rw [hb2, Nat.mul_one] at h4
            obtain ⟨v, hv, rfl, _⟩ := h4
            show w.cell? ⟨k.1, k.2 + lo * 1 + i, none⟩ = _
            rw [show look w k.1 (k.2 + (lo + i)) = w.cell? ⟨k.1, k.2 + (lo + i), none⟩ from rfl] at hv
            rw [show k.2 + lo * 1 + i = k.2 + (lo + i) by omega, hv]
            simp [List.getD, List.getElem?_map, List.getElem?_range hi, numA, hb2]
    · exact hw.elim
  · rename_i hev
    rw [hev] at hx
    have hx := val_v hx
    refine gives_val he hw (show ByteArray.empty.size ≤ _ by decide) ?_
    rw [hx]
    rw [run_convert_bytes_nil w s e hs hb 0 0 t ht]
  · exact hw.elim

theorem nth_l : ∀ (k : Nat) (l : AV) {vs : List Value}, hasN k l = true → (R g w l).l vs → ∃ u, vs[k]? = some u ∧ (R g w (nth k l)).v u
  | 0, .cons a b, [], _, h => h.elim
  | 0, .cons a b, u :: r, _, h => ⟨u, rfl, h.1⟩
  | k + 1, .cons a b, [], _, h => h.elim
  | k + 1, .cons a b, u :: r, hk, h => by
    obtain ⟨x, h1, h2⟩ := nth_l k b (vs := r) (by simpa [hasN] using hk) h.2
    exact ⟨x, by simpa using h1, h2⟩
  | 0, .val _, _, hk, _ | 0, .any, _, hk, _ | 0, .ptr _ _, _, hk, _ | 0, .elt .., _, hk, _ | 0, .lst .., _, hk, _ | 0, .sli .., _, hk, _
  | 0, .arr .., _, hk, _ | 0, .st _, _, hk, _ | 0, .nil, _, hk, _ | 0, .tup _, _, hk, _ | 0, .clo .., _, hk, _ | 0, .mp _, _, hk, _ | 0, .ifc .., _, hk, _
  | _ + 1, .val _, _, hk, _ | _ + 1, .any, _, hk, _ | _ + 1, .ptr _ _, _, hk, _ | _ + 1, .elt .., _, hk, _ | _ + 1, .lst .., _, hk, _ | _ + 1, .sli .., _, hk, _
  | _ + 1, .arr .., _, hk, _ | _ + 1, .st _, _, hk, _ | _ + 1, .nil, _, hk, _ | _ + 1, .tup _, _, hk, _ | _ + 1, .clo .., _, hk, _ | _ + 1, .mp _, _, hk, _ | _ + 1, .ifc .., _, hk, _ => by
    simp [hasN] at hk

theorem ok_ext (h : Good P gl N g w E o n a) {oo : Oper} {x : Operand} {i : Nat} (ho : oo.op = .extract x i) {K : AV → Prop} (hw : wpV (evF gl E) o (.ext i (cx x)) K) : Gives P g w a oo K := by
  have hx := ev_ok h x
  simp only [wpV] at hw
  have he : execOp a.eval oo = (do pure (.value (← Instr.extract (a.eval x) i))) := by unfold execOp; rw [ho]
  split at hw
  · rename_i l hev
    simp only [chk_iff] at hw
    rw [hev] at hx
    obtain ⟨vs, hu, hl⟩ := hx
    obtain ⟨u, h1, h2⟩ := nth_l i l hw.1 hl
    refine gives_sem he (cv := u) ?_ h2 hw.2
    rw [hu]
    have h1' : vs[i]? = some u := by simpa using h1
    simp only [Instr.extract, h1', Sem.run_pure]
  · exact hw.elim

theorem ok_nck (h : Good P gl N g w E o n a) {oo : Oper} {x : Operand} (ho : oo.op = .nilCheck x) {K : AV → Prop} (hw : wpV (evF gl E) o (.nck (cx x)) K) : Gives P g w a oo K := by
  have hx := ev_ok h x
  simp only [wpV] at hw
  split at hw
  · rename_i b p hev
    rw [hev] at hx
    have hx' := hx
    obtain ⟨⟨q, hp, hk, hu⟩, _⟩ := hx
    exact ⟨_, _, by unfold execOp; rw [ho]; simp only [hu]; rfl, hu ▸ hx', hw⟩
  · rename_i m e f q p hev
    rw [hev] at hx
    have hx' := hx
    obtain ⟨⟨hp, hi, A, hr, hu⟩, _⟩ := hx
    exact ⟨_, _, by unfold execOp; rw [ho]; simp only [hu]; rfl, hu ▸ hx', hw⟩
  · exact hw.elim

theorem exec_builtin {ρ : Operand → Value} {oo : Oper} {c : Call} {b : Builtin} (ho : oo.op = .call c) (hb : c.callee = .builtin b) :
    execOp ρ oo = builtin b c.argTypes oo.type (c.args.map fun | .const _ => true | _ => false) (c.args.map ρ) := by
  unfold execOp
  rw [ho]
  unfold resolve
  simp only [hb, pure_bind]
  rfl

theorem exec_len {ρ : Operand → Value} {oo : Oper} {c : Call} {x : Operand} {t : TypeId} (ho : oo.op = .call c) (hb : c.callee = .builtin .len) (hx : c.args.toList = [x]) (ht : c.argTypes.toList = [t]) :
    execOp ρ oo = (do pure (.value (← Builtin.len_ #[t] oo.type #[ρ x]))) := by
  have he : execOp ρ oo = (do pure (.value (← Builtin.len_ c.argTypes oo.type (c.args.map ρ)))) := exec_builtin ho hb
  have hargs : c.args = #[x] := by rw [← Array.toArray_toList (xs := c.args), hx]
  have hts : c.argTypes = #[t] := by rw [← Array.toArray_toList (xs := c.argTypes), ht]
  rw [hargs, hts] at he
  simpa only [List.map_toArray, List.map_cons, List.map_nil] using he

theorem ok_len (h : Good P gl N g w E o n a) {oo : Oper} {c : Call} {x : Operand} {t e : TypeId} (ho : oo.op = .call c) (hb : c.callee = .builtin .len) (hx : c.args.toList = [x]) (ht : c.argTypes.toList = [t])
    (hd : P.underlying t = some (.slice e)) {K : AV → Prop} (hw : wpV (evF gl E) o (.len (cx x)) K) : Gives P g w a oo K := by
  have he := exec_len (ρ := a.eval) ho hb hx ht
  have hv := ev_ok h x
  simp only [wpV] at hw
  have run : ∀ oa (m cp : Nat), (Builtin.len_ #[t] oo.type #[.slice oa m cp]).run P w = .ok (.int .i64 m) w := by
    intro oa m cp
    have e1 : (#[t] : Array TypeId)[0]? = some t := rfl
    have e2 : (#[.slice oa m cp] : Array Value)[0]? = some (.slice oa m cp) := rfl
    simp only [Builtin.len_, e1, e2, Sem.run_bind, run_underlying' hd, Result.andThen_ok]
    rfl
  split at hw
  · rename_i tok m e f hev
    rw [hev] at hv
    obtain ⟨⟨oa, cp, hu, _⟩, hcv⟩ := hv
    exact gives_val he hw (okI_len (by rw [hu] at hcv; exact hcv)) (by rw [hu]; exact run _ _ _)
  · rename_i b lo m e ty hev
    rw [hev] at hv
    obtain ⟨⟨rfl, hu⟩ | ⟨q, cp, hk, hc, hu, _⟩, hcv⟩ := hv
    · exact gives_val he hw (okI_len (by rw [hu] at hcv; exact hcv)) (by rw [hu]; exact run _ _ _)
    · exact gives_val he hw (okI_len (by rw [hu] at hcv; exact hcv)) (by rw [hu]; exact run _ _ _)
  · rename_i hev
    rw [hev] at hv
    exact gives_val he hw (okI_len (by decide : (0 : Nat) ≤ _)) (by rw [val_v hv]; exact run _ _ _)
  · exact hw.elim

theorem ok_lens (h : Good P gl N g w E o n a) {oo : Oper} {c : Call} {x : Operand} {t : TypeId} (ho : oo.op = .call c) (hb : c.callee = .builtin .len) (hx : c.args.toList = [x]) (ht : c.argTypes.toList = [t])
    (hd : P.underlying t = some .string) {K : AV → Prop} (hw : wpV (evF gl E) o (.lens (cx x)) K) : Gives P g w a oo K := by
  have he := exec_len (ρ := a.eval) ho hb hx ht
  have hv := ev_ok h x
  simp only [wpV] at hw
  split at hw
  · rename_i s hev
    rw [hev] at hv
    refine gives_val he hw (okI_len (by have := val_v hv; obtain ⟨h1, h2⟩ := hv; rw [this] at h2; exact h2)) ?_
    rw [val_v hv]
    have e1 : (#[t] : Array TypeId)[0]? = some t := rfl
    have e2 : (#[.string s] : Array Value)[0]? = some (.string s) := rfl
    simp only [Builtin.len_, e1, e2, Sem.run_bind, run_underlying' hd, Result.andThen_ok]
    rfl
  · exact hw.elim

theorem exec_lenA {oo : Oper} {c : Call} {x : Operand} {t e : TypeId} {m : Nat} (ho : oo.op = .call c) (hb : c.callee = .builtin .len) (hx : c.args.toList = [x]) (ht : c.argTypes.toList = [t])
    (hd : P.underlying t = some (.array m e)) (hm : m ≤ 9223372036854775807) {K : AV → Prop} (hw : K (.val (.int .i64 m))) : Gives P g w a oo K := by
  refine gives_val (exec_len (ρ := a.eval) ho hb hx ht) hw (okI_len hm) ?_
  have e1 : (#[t] : Array TypeId)[0]? = some t := rfl
  have e2 : (#[a.eval x] : Array Value)[0]? = some (a.eval x) := rfl
  simp only [Builtin.len_, e1, e2, Sem.run_bind, run_underlying' hd, Result.andThen_ok]
  rfl

/-! A struct or an array, put together. -/
theorem size_ag {v : AV} {u : Value} (hf : (isAg v || isCell v) = true) (hv : (R g w v).v u) : u.cells.size = size v := by
  simp only [Bool.or_eq_true] at hf
  rcases hf with hf | hf
  · obtain ⟨cs, rfl, hc, _⟩ := ag_seg hf hv
    exact hc
  · obtain ⟨p, hp⟩ := cell_one (g := g) (w := w) hf
    rw [hp] at hv
    have h1 := hv.2
    rw [cell_size hf]
    cases u <;> first | rfl | exact h1.elim

theorem cells_seg {v : AV} {u : Value} (hf : (isAg v || isCell v) = true) (hv : (R g w v).v u) : (R g w v).s (fun j => u.cells[j]?) 0 := by
  simp only [Bool.or_eq_true] at hf
  rcases hf with hf | hf
  · obtain ⟨cs, rfl, hc, hs⟩ := ag_seg hf hv
    exact hs
  · obtain ⟨p, hp⟩ := cell_one (g := g) (w := w) hf
    have h1 : cellV u := by rw [hp] at hv; exact hv.2
    refine (cell_seg hf hv ?_).1
    cases u <;> first | rfl | exact h1.elim

theorem fill_set : ∀ (xs : List Value) (k off : Nat) (cells : Array Value), off + k + xs.length ≤ cells.size →
    ((xs.zipIdx k).foldl (fun cs (p : Value × Nat) => cs.setIfInBounds (off + p.2) p.1) cells).size = cells.size ∧
    ∀ j, ((xs.zipIdx k).foldl (fun cs (p : Value × Nat) => cs.setIfInBounds (off + p.2) p.1) cells)[j]? = if off + k ≤ j ∧ j < off + k + xs.length then xs[j - (off + k)]? else cells[j]?
  | [], k, off, cells, _ => by
    refine ⟨rfl, fun j => ?_⟩
    have : ¬ (off + k ≤ j ∧ j < off + k + ([] : List Value).length) := by simp
    rw [if_neg this]; rfl
  | x :: r, k, off, cells, h => by
    simp only [List.length_cons] at h
    obtain ⟨h1, h2⟩ := fill_set r (k + 1) off (cells.setIfInBounds (off + k) x) (by simp; omega)
    simp only [List.zipIdx_cons, List.foldl_cons]
    refine ⟨by rw [h1]; simp, fun j => ?_⟩
    rw [h2 j, Array.getElem?_setIfInBounds]
    simp only [List.length_cons]
    by_cases hj : off + k = j
    · subst hj
      have e1 : ¬ (off + (k + 1) ≤ off + k ∧ off + k < off + (k + 1) + r.length) := by omega
      have e2 : off + k ≤ off + k ∧ off + k < off + k + (r.length + 1) := by omega
      have e3 : off + k < cells.size := by omega
      rw [if_neg e1, if_pos e2]
      simp [e3]
    · by_cases hlt : off + (k + 1) ≤ j ∧ j < off + (k + 1) + r.length
      · have e2 : off + k ≤ j ∧ j < off + k + (r.length + 1) := by omega
        rw [if_pos hlt, if_pos e2]
        obtain ⟨m, rfl⟩ : ∃ m, j = off + k + (m + 1) := ⟨j - (off + k + 1), by omega⟩
        have e4 : off + k + (m + 1) - (off + (k + 1)) = m := by omega
        have e5 : off + k + (m + 1) - (off + k) = m + 1 := by omega
        rw [e4, e5, List.getElem?_cons_succ]
      · have e2 : ¬ (off + k ≤ j ∧ j < off + k + (r.length + 1)) := by omega
        rw [if_neg hlt, if_neg e2, if_neg hj]

def PRel (place : Nat → Option (Nat × Nat)) : List (Nat × Operand) → List (Nat × Nat × Nat × X) → Prop
  | [], [] => True
  | (k, x) :: r, (k', off, sz, y) :: s => k = k' ∧ cx x = y ∧ place k = some (off, sz) ∧ PRel place r s
  | _, _ => False

theorem seg_setPart {k off sz : Nat} {v z : AV} {lk lk' : Nat → Option Value} (ho : okPart k off sz v z = true) (h : (R g w z).s lk 0) (hv : (R g w v).s lk' off)
    (hf : ∀ j, j < size z → ¬ (off ≤ j ∧ j < off + sz) → lk' j = lk j) : (R g w (setPart k v z)).s lk' 0 ∧ size (setPart k v z) = size z ∧ off + sz ≤ size z ∧ size v = sz ∧ isAg (setPart k v z) = true := by
  cases z <;> simp only [okPart, Bool.and_eq_true, Bool.false_eq_true] at ho
  · rename_i m e f
    obtain ⟨⟨⟨⟨h1, h2⟩, h3⟩, h4⟩, h5⟩ := ho
    have h2 := beq_eq h2
    have h3 := beq_eq h3
    have h4 := sizeIs_eq h4
    have h1 : k < m := Nat.le_of_ble_eq_true h1
    subst h3
    obtain ⟨a1, a2⟩ := seg_setComp (p := .idx k m e) (a := .arr m e f) (v := v) (lk' := lk') (by simp [okP]) h1 h (by rw [h4]; exact ((h k h1).1).symm) (by rw [Nat.zero_add]; simpa [PE.off, h2] using hv)
      (fun j hj hn => by simpa using hf j hj (by simpa [PE.off, h2, h4] using hn))
    refine ⟨a1, a2, ?_, h4, rfl⟩
    have : (k + 1) * e ≤ m * e := Nat.mul_le_mul_right e h1
    rw [Nat.succ_mul] at this
    simp only [size]; omega
  · rename_i l
    obtain ⟨⟨⟨⟨h1, h2⟩, h3⟩, h4⟩, h5⟩ := ho
    have h20 := h2; have h2 := offIs_eq h2
    have h3 := sizeIs_eq h3
    have h4 := sizeIs_eq h4
    obtain ⟨a1, a2⟩ := seg_setComp (p := .fld k off) (a := .st l) (v := v) (lk' := lk') (by simp [okP, h1, h20]) trivial h (by rw [h4]; exact h3.symm) (by rw [Nat.zero_add]; exact hv)
      (fun j hj hn => by simpa using hf j hj (by simpa [PE.off, h4] using hn))
    have := (seg_nth k l h1 h).2
    refine ⟨a1, a2, ?_, h4, rfl⟩
    simp only [size]; omega

theorem part_bound {k off sz : Nat} {v z : AV} {lk : Nat → Option Value} (ho : okPart k off sz v z = true) (h : (R g w z).s lk 0) : off + sz ≤ size z ∧ size v = sz := by
  cases z <;> simp only [okPart, Bool.and_eq_true, Bool.false_eq_true] at ho
  · rename_i m e f
    obtain ⟨⟨⟨⟨h1, h2⟩, h3⟩, h4⟩, h5⟩ := ho
    have h2 := beq_eq h2
    have h3 := beq_eq h3
    have h1 : k < m := Nat.le_of_ble_eq_true h1
    subst h3
    have : (k + 1) * e ≤ m * e := Nat.mul_le_mul_right e h1
    rw [Nat.succ_mul] at this
    exact ⟨by simp only [size]; omega, sizeIs_eq h4⟩
  · rename_i l
    obtain ⟨⟨⟨⟨h1, h2⟩, h3⟩, h4⟩, h5⟩ := ho
    have h2 := offIs_eq h2
    have h3 := sizeIs_eq h3
    have := (seg_nth k l h1 h).2
    exact ⟨by simp only [size]; omega, sizeIs_eq h4⟩

theorem fill_ok (ρ : X → AV) (val : Operand → Value) (hρ : ∀ x, (R g w (ρ (cx x))).v (val x)) (place : Nat → Option (Nat × Nat)) : ∀ (l : List (Nat × Operand)) (ps : List (Nat × Nat × Nat × X)) (z : AV) (cells : Array Value),
    PRel place l ps → okParts ρ ps z = true → isAg z = true → (R g w z).s (fun j => cells[j]?) 0 → cells.size = size z →
    ∃ cells', Instr.fill (fun k => place k) cells (l.map fun q => (q.1, val q.2)) = some cells' ∧ cells'.size = size (mkParts ρ ps z) ∧ (R g w (mkParts ρ ps z)).s (fun j => cells'[j]?) 0 ∧ isAg (mkParts ρ ps z) = true
  | [], [], z, cells, _, _, hz, h, hs => ⟨cells, rfl, hs, h, hz⟩
  | (k, x) :: r, (k', off, sz, y) :: s, z, cells, hp, ho, hz, h, hs => by
    obtain ⟨rfl, rfl, hpl, hp⟩ := hp
    simp only [okParts, Bool.and_eq_true] at ho
    have hfit : (isAg (ρ (cx x)) || isCell (ρ (cx x))) = true := by
      have := ho.1
      cases z <;> simp only [okPart, Bool.and_eq_true, Bool.false_eq_true] at this <;> first | exact this.2 | cases this
    have hv := hρ x
    have hsz := size_ag hfit hv
    have hseg := cells_seg hfit hv
    obtain ⟨b1, b2⟩ := part_bound ho.1 h
    have hl : (val x).cells.toList.length = sz := by simp [hsz, b2]
    obtain ⟨q1, q2⟩ := fill_set (val x).cells.toList 0 off cells (by rw [hl]; omega)
    generalize hc' : ((val x).cells.toList.zipIdx 0).foldl (fun cs (p : Value × Nat) => cs.setIfInBounds (off + p.2) p.1) cells = cells' at q1 q2
    obtain ⟨c1, c2, _, _, c5⟩ := seg_setPart (lk' := fun j => cells'[j]?) ho.1 h (R_look (fun j hj => by
        show cells'[off + j]? = (val x).cells[0 + j]?
        have hj' : off + 0 ≤ off + j ∧ off + j < off + 0 + (val x).cells.toList.length := by omega
        have e1 : off + j - (off + 0) = j := by omega
        rw [q2, if_pos hj', e1, Nat.zero_add, Array.getElem?_toList]) hseg) (fun j hj hn => by
        show cells'[j]? = cells[j]?
        have : ¬ (off + 0 ≤ j ∧ j < off + 0 + (val x).cells.toList.length) := by omega
        rw [q2, if_neg this])
    obtain ⟨cells'', d1, d2, d3, d4⟩ := fill_ok ρ val hρ place r s _ cells' hp ho.2 c5 c1 (by rw [q1, hs, c2])
    refine ⟨cells'', ?_, d2, d3, d4⟩
    have e1 : (val x).cells.size = sz := by rw [hsz, b2]
    have hcond : ((val x).cells.size ≠ sz || off + (val x).cells.size > cells.size) = false := by
      rw [e1]; simp; omega
    have hfold : (val x).cells.zipIdx.foldl (fun cs (p : Value × Nat) => cs.setIfInBounds (off + p.2) p.1) cells = cells' := by
      rw [← Array.foldl_toList, Array.toList_zipIdx]
      exact hc'
    simp only [List.map_cons, Instr.fill, hpl]
    rw [hcond]
    simp only [Bool.false_eq_true, if_false]
    have hfold' : Array.foldl (fun cs x => match x with | (c, j) => cs.setIfInBounds (off + j) c) cells (val x).cells.zipIdx = cells' := hfold
    rw [hfold']
    exact d1
  | [], _ :: _, _, _, hp, _, _, _, _ => hp.elim
  | _ :: _, [], _, _, hp, _, _, _, _ => hp.elim

theorem prel_s {fs : Array Field} : ∀ (l : List (Nat × Operand)) (ps : List (Nat × Nat × Nat × X)), partsS P fs l = some ps →
    PRel (fun k => match fs[k]? with | some f => (match P.info? f.type with | some i => some (f.offset, i.size) | none => none) | none => none) l ps
  | [], ps, h => by simp only [partsS] at h; injection h with h; subst h; trivial
  | (k, x) :: r, ps, h => by
    simp only [partsS] at h
    split at h
    · rename_i f hf
      split at h
      · rename_i i hi
        split at h
        · rename_i qs hq
          injection h with h
          subst h
          exact ⟨rfl, rfl, by simp only [hf, hi], prel_s r qs hq⟩
        · cases h
      · cases h
    · cases h

theorem prel_a {e : Nat} : ∀ (l : List (Nat × Operand)), PRel (fun k => some (k * e, e)) l (partsA e l)
  | [] => trivial
  | (k, x) :: r => ⟨rfl, rfl, rfl, prel_a r⟩

theorem run_places : ∀ (l : List Field), (l.all (fun f => (P.info? f.type).isSome)) = true →
    ((l.mapM fun f => (do pure (f.offset, ← Go.sizeOf f.type) : Sem (Nat × Nat))).run P w) =
      .ok (l.map fun f => (f.offset, match P.info? f.type with | some i => i.size | none => 0)) w
  | [], _ => rfl
  | f :: r, h => by
    simp only [List.all_cons, Bool.and_eq_true] at h
    obtain ⟨i, hi⟩ := Option.isSome_iff_exists.1 h.1
    simp only [List.mapM_cons, Sem.run_bind, run_sizeOf' hi, Result.andThen_ok, Sem.run_pure, run_places r h.2, List.map_cons, hi]

theorem mkParts_ag (ρ : X → AV) : ∀ (ps : List (Nat × Nat × Nat × X)) (z : AV), okParts ρ ps z = true → isAg z = true → isAg (mkParts ρ ps z) = true
  | [], z, _, hz => hz
  | (k, off, sz, x) :: r, z, ho, hz => by
    simp only [okParts, Bool.and_eq_true] at ho
    refine mkParts_ag ρ r _ ho.2 ?_
    cases z <;> simp [isAg] at hz <;> rfl

theorem ok_buildS (h : Good P gl N g w E o n a) {oo : Oper} {t : TypeId} {l : Array (Nat × Operand)} {ps : List (Nat × Nat × Nat × X)} {fs : Array Field} {z : AV} (ho : oo.op = .build t l) (hz : zOk P t z = true)
    (hd : P.underlying t = some (.struct fs)) (hall : fs.toList.all (fun f => (P.info? f.type).isSome) = true) (hps : partsS P fs l.toList = some ps) {K : AV → Prop}
    (hw : wpV (evF gl E) o (.build z ps) K) : Gives P g w a oo K := by
  simp only [wpV, chk_iff] at hw
  obtain ⟨h1, h2, h3⟩ := hw
  obtain ⟨i, v, hi, hv, hcl, hcells⟩ := zOk_spec hz
  have he : execOp a.eval oo = (do pure (.value (← Instr.build t (l.map fun (k, x) => (k, a.eval x))))) := by unfold execOp; rw [ho]
  have hlen : v.cells.size = size z := by rw [hcells, List.size_toArray, cellsOf_length z hcl]
  obtain ⟨cells', d1, d2, d3, d4⟩ := fill_ok (g := g) (w := w) (evF gl E) a.eval (fun x => ev_ok h x) _ l.toList ps z v.cells (prel_s l.toList ps hps) h2 h1
    (closed_seg z hcl (fun j hj => by rw [Nat.zero_add]; show v.cells[j]? = _; rw [hcells]; simp)) hlen
  refine gives_sem he (cv := .agg cells') ?_ (seg_ag d4 d3 d2 (fun j hj => by rw [Nat.zero_add])) h3
  have hp := run_places (P := P) (w := w) fs.toList hall
  have hmap : (fs.mapM fun f => (do pure (f.offset, ← Go.sizeOf f.type) : Sem (Nat × Nat))).run P w = .ok ((fs.toList.map fun (f : Field) => (f.offset, match P.info? f.type with | some i => i.size | none => 0)).toArray) w := by
    rw [Array.mapM_eq_mapM_toList]
    simp only [Sem.run_map, hp, Result.andThen_ok]
  have hplace : (fun (k : Nat) => ((fs.toList.map fun (f : Field) => (f.offset, match P.info? f.type with | some i => i.size | none => 0)).toArray)[k]?) =
      (fun (k : Nat) => match fs[k]? with | some f => (match P.info? f.type with | some i => some (f.offset, i.size) | none => none) | none => none) := by
    funext k
    simp only [List.getElem?_toArray, List.getElem?_map, Array.getElem?_toList]
    cases hk : fs[k]? with
    | none => rfl
    | some f =>
      have hm : f ∈ fs.toList := by
        rw [Array.mem_toList_iff]
        exact Array.mem_of_getElem? hk
      obtain ⟨j, hj⟩ := Option.isSome_iff_exists.1 ((List.all_eq_true.1 hall) f hm)
      simp [hj]
  simp only [Instr.build, Sem.run_bind, run_zero hi hv, Result.andThen_ok, run_underlying' hd, hmap]
  rw [hplace]
  have hl : (l.map fun (k, x) => (k, a.eval x)).toList = l.toList.map fun q => (q.1, a.eval q.2) := by simp
  rw [hl, d1]
  simp only [Sem.run_pure]

theorem ok_buildA (h : Good P gl N g w E o n a) {oo : Oper} {t e : TypeId} {m : Nat} {l : Array (Nat × Operand)} {i : TypeInfo} {z : AV} (ho : oo.op = .build t l) (hz : zOk P t z = true)
    (hd : P.underlying t = some (.array m e)) (hi : P.info? e = some i) {K : AV → Prop}
    (hw : wpV (evF gl E) o (.build z (partsA i.size l.toList)) K) : Gives P g w a oo K := by
  simp only [wpV, chk_iff] at hw
  obtain ⟨h1, h2, h3⟩ := hw
  obtain ⟨i', v, hi', hv, hcl, hcells⟩ := zOk_spec hz
  have he : execOp a.eval oo = (do pure (.value (← Instr.build t (l.map fun (k, x) => (k, a.eval x))))) := by unfold execOp; rw [ho]
  have hlen : v.cells.size = size z := by rw [hcells, List.size_toArray, cellsOf_length z hcl]
  obtain ⟨cells', d1, d2, d3, d4⟩ := fill_ok (g := g) (w := w) (evF gl E) a.eval (fun x => ev_ok h x) _ l.toList _ z v.cells (prel_a l.toList) h2 h1
    (closed_seg z hcl (fun j hj => by rw [Nat.zero_add]; show v.cells[j]? = _; rw [hcells]; simp)) hlen
  refine gives_sem he (cv := .agg cells') ?_ (seg_ag d4 d3 d2 (fun j hj => by rw [Nat.zero_add])) h3
  simp only [Instr.build, Sem.run_bind, run_zero hi' hv, Result.andThen_ok, run_underlying' hd, run_sizeOf' hi]
  have hl : (l.map fun (k, x) => (k, a.eval x)).toList = l.toList.map fun q => (q.1, a.eval q.2) := by simp
  rw [hl, d1]
  simp only [Sem.run_pure]

theorem fit_int {a : AV} (h : fitS .int a = true) : ∃ k n, a = .val (.int k n) := by
  cases a with
  | val x => cases x with
    | int k n => exact ⟨k, n, rfl⟩
    | _ => simp [fitS] at h
  | _ => simp [fitS] at h

theorem fit_bool {a : AV} (h : fitS .bool a = true) : ∃ b, a = .val (.bool b) := by
  cases a with
  | val x => cases x with
    | bool b => exact ⟨b, rfl⟩
    | _ => simp [fitS] at h
  | _ => simp [fitS] at h

theorem fit_str {a : AV} (h : fitS .str a = true) : ∃ b, a = .val (.string b) := by
  cases a with
  | val x => cases x with
    | string b => exact ⟨b, rfl⟩
    | _ => simp [fitS] at h
  | _ => simp [fitS] at h

theorem fit_st {s : Sh} {a : AV} (h : fitS (.st s) a = true) : ∃ l, a = .st l ∧ fitS s l = true := by
  cases a with
  | st l => exact ⟨l, rfl, h⟩
  | _ => simp [fitS] at h

theorem fit_cons {s t : Sh} {a : AV} (h : fitS (.cons s t) a = true) : ∃ x y, a = .cons x y ∧ fitS s x = true ∧ fitS t y = true := by
  cases a with
  | cons x y => simp only [fitS, Bool.and_eq_true] at h; exact ⟨x, y, rfl, h.1, h.2⟩
  | _ => simp [fitS] at h

theorem fit_nil {a : AV} (h : fitS .nil a = true) : a = .nil := by
  cases a with
  | nil => rfl
  | _ => simp [fitS] at h

theorem fit_arr {n e : Nat} {s : Sh} {a : AV} (h : fitS (.arr n e s) a = true) : ∃ f, a = .arr n e f ∧ ∀ i, i < n → fitS s (f i) = true := by
  cases a with
  | arr m q f =>
    simp only [fitS, Bool.and_eq_true, List.all_eq_true, List.mem_range] at h
    obtain ⟨h1, h2, h3⟩ := h
    rw [← beq_eq h1, ← beq_eq h2]
    exact ⟨f, rfl, h3⟩
  | _ => simp [fitS] at h

theorem fitS_size : ∀ (s : Sh) (a : AV), fitS s a = true → size a = ssize s := by
  intro s
  induction s with
  | int => intro a h; obtain ⟨k, n, rfl⟩ := fit_int h; rfl
  | bool => intro a h; obtain ⟨b, rfl⟩ := fit_bool h; rfl
  | str => intro a h; obtain ⟨b, rfl⟩ := fit_str h; rfl
  | st s ih => intro a h; obtain ⟨l, rfl, hl⟩ := fit_st h; exact (show size l = ssize s from ih l hl)
  | cons s t ihs iht => intro a h; obtain ⟨x, y, rfl, h1, h2⟩ := fit_cons h; simp only [size, ssize, ihs _ h1, iht _ h2]
  | nil => intro a h; obtain rfl := fit_nil h; rfl
  | arr n e s ih => intro a h; obtain ⟨f, rfl, _⟩ := fit_arr h; rfl

def shAg : Sh → Bool
  | .st _ => true
  | .arr _ _ _ => true
  | _ => false

def shCell : Sh → Bool
  | .int => true
  | .bool => true
  | .str => true
  | _ => false

theorem fitS_ag (s : Sh) (a : AV) (h : fitS s a = true) (hs : shAg s = true ∨ shCell s = true) : fits (shAg s) (ssize s) a = true := by
  have hz := fitS_size s a h
  cases s with
  | int => obtain ⟨k, n, rfl⟩ := fit_int h; rfl
  | bool => obtain ⟨b, rfl⟩ := fit_bool h; rfl
  | str => obtain ⟨b, rfl⟩ := fit_str h; rfl
  | st s => obtain ⟨l, rfl, _⟩ := fit_st h; simp only [fits, shAg, isAg, Bool.true_and]; have h9 := sizeIs_self (.st l); rw [hz] at h9; exact h9
  | arr n e s => obtain ⟨f, rfl, _⟩ := fit_arr h; simp only [fits, shAg, isAg, Bool.true_and]; have h9 := sizeIs_self (.arr n e f); rw [hz] at h9; exact h9
  | _ => simp [shAg, shCell] at hs

theorem eq_ok (w : World) (g : Gh) : ∀ (d : Nat),
    (∀ (t : TypeId) (s : Sh), shT P d t = some s → (shAg s = true ∨ shCell s = true) ∧ ∀ (D : Nat), d ≤ D → ∀ (a b : AV) (x y : Value), fitS s a = true → fitS s b = true → kndS s a b = true → (R g w a).v x → (R g w b).v y →
      (Op.equalIn D t x y).run P w = .ok (eqS s a b) w) ∧
    (∀ (fs : List Field) (off : Nat) (s : Sh), shFs P d off fs = some s → ∀ (D : Nat), d ≤ D → ∀ (a b : AV) (xs ys : Array Value), fitS s a = true → fitS s b = true → kndS s a b = true → (R g w a).s (fun j => xs[j]?) off → (R g w b).s (fun j => ys[j]?) off →
      off + size a ≤ xs.size → off + size b ≤ ys.size → (Op.eqFields D xs ys fs).run P w = .ok (eqS s a b) w) := by
  intro d
  induction d with
  | zero =>
    refine ⟨fun t s h => by simp [shT] at h, fun fs off s h D _ a b xs ys ha hb _ _ _ _ _ => ?_⟩
    cases fs with
    | nil => simp only [shFs] at h; injection h with h; subst h; obtain rfl := fit_nil ha; obtain rfl := fit_nil hb; rfl
    | cons f r => simp [shFs] at h
  | succ d ih =>
    refine ⟨fun t s h => ?_, fun fs off s h D hD a b xs ys ha hb hk hx hy hlx hly => ?_⟩
    · simp only [shT] at h
      split at h
      · rename_i k hu
        injection h with h; subst h
        refine ⟨.inr rfl, fun D hD a b x y ha hb hk hx hy => ?_⟩
        obtain ⟨D, rfl⟩ : ∃ m, D = m + 1 := ⟨D - 1, by omega⟩
        obtain ⟨k1, n1, rfl⟩ := fit_int ha
        obtain ⟨k2, n2, rfl⟩ := fit_int hb
        rw [val_v hx, val_v hy, kEq_eq hk]
        exact run_equalIn_int w D t _ k _ _ hu
      · rename_i hu
        injection h with h; subst h
        refine ⟨.inr rfl, fun D hD a b x y ha hb hk hx hy => ?_⟩
        obtain ⟨D, rfl⟩ : ∃ m, D = m + 1 := ⟨D - 1, by omega⟩
        obtain ⟨b1, rfl⟩ := fit_bool ha
        obtain ⟨b2, rfl⟩ := fit_bool hb
        rw [val_v hx, val_v hy]
        exact run_equalIn_bool' w D t _ _ hu
      · rename_i hu
        injection h with h; subst h
        refine ⟨.inr rfl, fun D hD a b x y ha hb hk hx hy => ?_⟩
        obtain ⟨D, rfl⟩ : ∃ m, D = m + 1 := ⟨D - 1, by omega⟩
        obtain ⟨b1, rfl⟩ := fit_str ha
        obtain ⟨b2, rfl⟩ := fit_str hb
        rw [val_v hx, val_v hy]
        exact run_equalIn_string w D t _ _ hu
      · rename_i fs hu
        split at h
        · rename_i hst
          split at h
          · rename_i s' hs'
            injection h with h; subst h
            refine ⟨.inl rfl, fun D hD a b x y ha hb hk hx hy => ?_⟩
            obtain ⟨D, rfl⟩ : ∃ m, D = m + 1 := ⟨D - 1, by omega⟩
            obtain ⟨la, rfl, ha2⟩ := fit_st ha
            obtain ⟨lb, rfl, hb2⟩ := fit_st hb
            obtain ⟨xs, rfl, h1, h2⟩ := hx
            obtain ⟨ys, rfl, h3, h4⟩ := hy
            have hf : P.fieldsOf t = fs := by simp [Program.fieldsOf, hu]
            rw [run_equalIn_struct (P := P) w D t xs ys (by rw [hf]; exact hu) hst, hf]
            exact ih.2 fs.toList 0 s' hs' D (by omega) _ _ xs ys ha2 hb2 hk h2 h4 (by omega) (by omega)
          · cases h
        · cases h
      · rename_i m e hu
        split at h
        · rename_i i s' hi hs'
          split at h
          · rename_i hsz
            injection h with h; subst h
            have hsz := beq_eq hsz
            refine ⟨.inl rfl, fun D hD a b x y ha hb hk hx hy => ?_⟩
            obtain ⟨D, rfl⟩ : ∃ m, D = m + 1 := ⟨D - 1, by omega⟩
            obtain ⟨f, rfl, ha2⟩ := fit_arr ha
            obtain ⟨h2, rfl, hb2⟩ := fit_arr hb
            obtain ⟨xs, rfl, a1, a2⟩ := hx
            obtain ⟨ys, rfl, b1, b2⟩ := hy
            have hcell : P.cellsOf e = i.size := by simp [Program.cellsOf, hi]
            rw [run_equalIn_array (P := P) w D xs ys hu hi, hcell]
            obtain ⟨hsc, heq⟩ := ih.1 e s' hs'
            simp only [kndS, List.all_eq_true, List.mem_range] at hk
            have hcov : ∃ u, P.underlying e = some u ∧ aggD u = shAg s' := by
              cases d with
              | zero => simp [shT] at hs'
              | succ d =>
                simp only [shT] at hs'
                split at hs'
                · rename_i hu2; injection hs' with hs'; subst hs'; exact ⟨_, hu2, rfl⟩
                · rename_i hu2; injection hs' with hs'; subst hs'; exact ⟨_, hu2, rfl⟩
                · rename_i hu2; injection hs' with hs'; subst hs'; exact ⟨_, hu2, rfl⟩
                · rename_i hu2
                  split at hs'
                  · split at hs'
                    · injection hs' with hs'; subst hs'; exact ⟨_, hu2, rfl⟩
                    · cases hs'
                  · cases hs'
                · rename_i hu2
                  split at hs'
                  · split at hs'
                    · injection hs' with hs'; subst hs'; exact ⟨_, hu2, rfl⟩
                    · cases hs'
                  · cases hs'
                · cases hs'
            obtain ⟨u, hu2, hag⟩ := hcov
            have key : ∀ (is : List Nat), (∀ q ∈ is, q < m) → (Op.eqItems D e i.size xs ys is).run P w = .ok (is.all fun q => eqS s' (f q) (h2 q)) w := by
              intro is
              induction is with
              | nil => intro _; rfl
              | cons q r ihr =>
                intro hq
                have hqn : q < m := hq q (by simp)
                obtain ⟨c1, c2⟩ := a2 q hqn
                obtain ⟨c3, c4⟩ := b2 q hqn
                rw [Nat.zero_add] at c2 c4
                have hm : (q + 1) * i.size ≤ m * i.size := Nat.mul_le_mul_right _ hqn
                rw [Nat.succ_mul] at hm
                obtain ⟨u1, r1, v1⟩ := run_part_seg (P := P) hu2 hi (by have := fitS_ag s' _ (ha2 q hqn) hsc; rwa [← hag, hsz] at this) c2 (by omega)
                obtain ⟨u2, r2, v2⟩ := run_part_seg (P := P) hu2 hi (by have := fitS_ag s' _ (hb2 q hqn) hsc; rwa [← hag, hsz] at this) c4 (by omega)
                have h3 := heq D (by omega) (f q) (h2 q) u1 u2 (ha2 q hqn) (hb2 q hqn) (hk q hqn) v1 v2
                simp only [Op.eqItems, Sem.run_bind, r1, r2, h3, Result.andThen_ok, List.all_cons]
                cases eqS s' (f q) (h2 q)
                · simp
                · simpa using ihr (fun x hx => hq x (by simp [hx]))
            exact key (List.range m) (fun q hq => by simpa using hq)
          · cases h
        · cases h
      · cases h
    · cases fs with
      | nil => simp only [shFs] at h; injection h with h; subst h; obtain rfl := fit_nil ha; obtain rfl := fit_nil hb; rfl
      | cons f r =>
        simp only [shFs] at h
        split at h
        · rename_i u i s' hn ho hu hi hs'
          split at h
          · rename_i q hsz hag hq
            injection h with h; subst h
            have hsz := beq_eq hsz
            have ho := beq_eq ho
            obtain ⟨a1, a2, rfl, ha2⟩ := fit_cons ha
            obtain ⟨b1, b2, rfl, hb2⟩ := fit_cons hb
            simp only [kndS, Bool.and_eq_true] at hk
            obtain ⟨hsc, heq⟩ := ih.1 f.type s' hs'
            have hag' : aggD u = shAg s' := by
              cases s' <;> simp [shAg, shCell] at hsc <;> simpa [shAg] using hag
            have z1 := fitS_size s' a1 ha2.1
            have z2 := fitS_size s' b1 hb2.1
            simp only [size] at hlx hly
            obtain ⟨u1, r1, v1⟩ := run_part_seg (P := P) hu hi (by have := fitS_ag s' _ ha2.1 hsc; rwa [← hag', hsz] at this) hx.1 (by omega)
            obtain ⟨u2, r2, v2⟩ := run_part_seg (P := P) hu hi (by have := fitS_ag s' _ hb2.1 hsc; rwa [← hag', hsz] at this) hy.1 (by omega)
            have h3 := heq D (by omega) a1 b1 u1 u2 ha2.1 hb2.1 hk.1 v1 v2
            have h4 := ih.2 r (off + i.size) q hq D (by omega) a2 b2 xs ys ha2.2 hb2.2 hk.2 (by have := hx.2; rwa [z1, hsz] at this) (by have := hy.2; rwa [z2, hsz] at this) (by omega) (by omega)
            have hn' : f.name ≠ "_" := by simpa using hn
            rw [Op.eqFields, if_pos hn', ho]
            simp only [Sem.run_bind, r1, r2, h3, Result.andThen_ok, eqS]
            cases eqS s' a1 b1
            · simp
            · simpa using h4
          · cases h
        · cases h

theorem ok_eqs (h : Good P gl N g w E o n a) {oo : Oper} {ne : Bool} {t ty : TypeId} {x y : Operand} {s : Sh} (ho : oo.op = .binOp (if ne then .neq else .eql) t x y ty) (hs : shT P 60 t = some s) (hgd : P.eqGuardType P.depth t = false)
    {K : AV → Prop} (hw : wpV (evF gl E) o (.eqs ne s (cx x) (cx y)) K) : Gives P g w a oo K := by
  have hx := ev_ok h x
  have hy := ev_ok h y
  simp only [wpV, chk_iff] at hw
  obtain ⟨h1, h2, h3, h4, h5, hK⟩ := hw
  have heq := ((eq_ok (P := P) w g 60).1 t s hs).2 10000 (by omega) _ _ _ _ h3 h4 h5 hx hy
  obtain ⟨xs, hxs, _⟩ := ag_seg h1 hx
  obtain ⟨ys, hys, _⟩ := ag_seg h2 hy
  have hop : (if ne then BinOp.neq else BinOp.eql) = .eql ∨ (if ne then BinOp.neq else BinOp.eql) = .neq := by cases ne <;> simp
  have hg : (Go.eqGuard (if ne then .neq else .eql) t x y (.agg xs) (.agg ys)).run P w = .ok () w := by
    unfold Go.eqGuard
    cases ne <;> simp [hgd]
  refine ⟨.val (.bool (eqSn ne (eqS s (evF gl E (cx x)) (evF gl E (cx y))))), .bool (eqSn ne (eqS s (evF gl E (cx x)) (evF gl E (cx y)))), ?_, val_mk _ trivial, brB_iff.1 hK⟩
  unfold execOp
  rw [ho]
  rw [hxs, hys] at heq
  simp only [hxs, hys, Sem.run_bind, hg, Result.andThen_ok]
  cases ne with
  | false =>
    simp only [Bool.false_eq_true, if_false, run_eql_struct, heq, Result.andThen_ok, Sem.run_pure, eqSn]
  | true =>
    simp only [if_true, run_neq_struct, heq, Result.andThen_ok, Sem.run_pure, eqSn]

theorem okX_spec {lo : Option Operand} {l : X} (h : okX lo = some l) : (lo = none ∧ l = .no) ∨ ∃ x, lo = some x ∧ l = cx x ∧ ∀ (ρ : X → AV) (K : Nat → Prop), loV ρ l K = (match ρ (cx x) with | .val (.int _ j) => 0 ≤ j ∧ K j.toNat | _ => False) ∧
    ∀ n, hiV ρ l n K = (match ρ (cx x) with | .val (.int _ j) => (0 ≤ j ∧ j ≤ n) ∧ K j.toNat | _ => False) := by
  cases lo with
  | none => simp only [okX] at h; injection h with h; exact .inl ⟨rfl, h.symm⟩
  | some x =>
    right
    refine ⟨x, rfl, ?_⟩
    simp only [okX] at h
    cases hc : cx x <;> rw [hc] at h <;> simp only [] at h <;> (try cases h) <;> exact ⟨rfl, fun ρ K => ⟨rfl, fun n => rfl⟩⟩

theorem run_bounds (h : Good P gl N g w E o n a) {b : Bool} {len cap : Nat} (hlc : len ≤ cap) {lo hi : Option Operand} {l hh : X} (hl : okX lo = some l) (hh' : okX hi = some hh) {K : Nat → Nat → Prop}
    (hw : loV (evF gl E) l fun q => hiV (evF gl E) hh len fun r => q ≤ r ∧ K q r) : ∃ q r, q ≤ r ∧ r ≤ len ∧ K q r ∧ (Instr.sliceBounds b len cap (lo.map a.eval) (hi.map a.eval) none).run P w = .ok (q, r, cap) w := by
  have low : ∀ (r : Nat), (∀ q, K q r → True) → True := fun _ _ => trivial
  have bound : ∀ (x : Operand) (k : IntKind) (j : Int) (y : Nat) (code : BoundsCode), a.eval x = .int k j → 0 ≤ j → j ≤ y → (Instr.sliceBound (a.eval x) y code).run P w = .ok j.toNat w := by
    intro x k j y code hx h0 h1
    rw [hx]
    simp only [Instr.sliceBound, asIntOf, Sem.run_bind, Sem.run_pure, Result.andThen_ok, h0, h1, and_self, if_true]
  rcases okX_spec hl with ⟨rfl, rfl⟩ | ⟨x, rfl, rfl, hx⟩ <;> rcases okX_spec hh' with ⟨rfl, rfl⟩ | ⟨y, rfl, rfl, hy⟩
  · exact ⟨0, len, hw.1, Nat.le_refl _, hw.2, by simp [Instr.sliceBounds]⟩
  · simp only [loV, (hy _ _).2] at hw
    have hvy := ev_ok h y
    split at hw
    · rename_i k j hev
      rw [hev] at hvy
      obtain ⟨⟨h0, h1⟩, h2, h3⟩ := hw
      refine ⟨0, j.toNat, h2, by omega, h3, ?_⟩
      simp [Instr.sliceBounds, bound y k j cap _ (val_v hvy) h0 (by omega)]
    · exact hw.elim
  · rw [(hx _ _).1] at hw
    have hvx := ev_ok h x
    split at hw
    · rename_i k j hev
      rw [hev] at hvx
      obtain ⟨h0, h2, h3⟩ := hw
      refine ⟨j.toNat, len, h2, Nat.le_refl _, h3, ?_⟩
      simp [Instr.sliceBounds, bound x k j len _ (val_v hvx) h0 (by omega)]
    · exact hw.elim
  · rw [(hx _ _).1] at hw
    have hvx := ev_ok h x
    have hvy := ev_ok h y
    split at hw
    · rename_i k j hev
      rw [hev] at hvx
      obtain ⟨h0, hw⟩ := hw
      rw [(hy _ _).2] at hw
      split at hw
      · rename_i k' j' hev'
        rw [hev'] at hvy
        obtain ⟨⟨h1, h1'⟩, h2, h3⟩ := hw
        refine ⟨j.toNat, j'.toNat, h2, by omega, h3, ?_⟩
        simp [Instr.sliceBounds, bound y k' j' cap _ (val_v hvy) h1 (by omega), bound x k j j'.toNat _ (val_v hvx) h0 (by omega)]
      · exact hw.elim
    · exact hw.elim

theorem ok_slc (h : Good P gl N g w E o n a) {oo : Oper} {t e : TypeId} {x : Operand} {lo hi : Option Operand} {l hh : X} {i : TypeInfo} (ho : oo.op = .slice t x lo hi none) (hl : okX lo = some l) (hh' : okX hi = some hh)
    (hd : P.underlying t = some (.slice e)) (hi' : P.info? e = some i) {K : AV → Prop} (hw : wpV (evF gl E) o (.slc i.size (cx x) l hh) K) : Gives P g w a oo K := by
  have hx := ev_ok h x
  simp only [wpV] at hw
  have he : execOp a.eval oo = (do pure (.value (← Instr.sliceAt t (a.eval x) (lo.map a.eval) (hi.map a.eval) none))) := by unfold execOp; rw [ho]; rfl
  split at hw
  · rename_i tok m e' f hev
    simp only [chk_iff] at hw
    obtain ⟨hee, hw⟩ := hw
    have hee := beq_eq hee
    subst hee
    rw [hev] at hx
    obtain ⟨⟨oa, c, hu, hc, ht, hrow⟩, hcv⟩ := hx
    have hcv : m ≤ 9223372036854775807 := by rw [hu] at hcv; exact hcv
    obtain ⟨q, r, h1, h2, hK, hb⟩ := run_bounds (P := P) (b := true) h hc hl hh' hw
    have hrun : (Instr.sliceAt t (a.eval x) (lo.map a.eval) (hi.map a.eval) none).run P w = .ok (.slice (if c = q then oa else oa.map (·.add (q * i.size))) (r - q) (c - q)) w := by
      rw [hu]
      simp only [Instr.sliceAt, Instr.slice, Sem.run_bind, run_underlying' hd, Result.andThen_ok, hb, run_sizeOf' hi', Sem.run_pure]
    refine gives_sem he hrun (v := .lst none (r - q) i.size (fun k => f (k + q))) ⟨⟨_, c - q, rfl, by omega, trivial, ?_⟩, show r - q ≤ 9223372036854775807 by omega⟩ hK
    cases oa with
    | none =>
      obtain ⟨rfl, rfl⟩ := hrow
      simp only [Option.map_none, ite_self]
      exact ⟨by omega, by omega⟩
    | some A =>
      obtain ⟨hs, hG, hr⟩ := hrow
      obtain ⟨Ab, Ao, As⟩ := A
      by_cases hcq : c = q
      · rw [if_pos hcq]
        refine ⟨fun hp => by omega, fun hp => ?_, fun k hk => by omega⟩
        have h0 : r - q = 0 := by omega
        rw [h0] at hp; simp at hp
      · rw [if_neg hcq]
        by_cases hm0 : m = 0
        · have h0 : r - q = 0 := by omega
          rw [Option.map_some]
          exact ⟨fun hp => by omega, fun hp => by rw [h0] at hp; simp at hp, fun k hk => by omega⟩
        have hs := hs (by omega)
        simp only at hs
        subst hs
        simp only [Option.map_some, addr_add]
        refine ⟨fun _ => rfl, fun hp => ?_, fun k hk => ?_⟩
        · have h3 : 0 < m * i.size := by
            have : 0 < i.size := Nat.pos_of_ne_zero (by intro e0; rw [e0] at hp; simp at hp)
            have : 0 < r - q := Nat.pos_of_ne_zero (by intro e0; rw [e0] at hp; simp at hp)
            exact Nat.mul_pos (by omega) ‹0 < i.size›
          have h4 := hG h3
          have h5 : (q + (r - q)) * i.size ≤ m * i.size := Nat.mul_le_mul_right _ (by omega)
          rw [Nat.add_mul] at h5
          simp only at h4 ⊢
          omega
        · obtain ⟨h3, h4⟩ := hr (k + q) (by omega)
          refine ⟨h3, ?_⟩
          have : Ao + q * i.size + k * i.size = Ao + (k + q) * i.size := by rw [Nat.add_mul]; omega
          rw [this]
          exact h4
  · rename_i bo lo0 m e' ty hev
    simp only [chk_iff] at hw
    obtain ⟨hee, hw⟩ := hw
    have hee := beq_eq hee
    subst hee
    rw [hev] at hx
    obtain ⟨hu, hcv⟩ := hx
    rcases hu with ⟨rfl, hu⟩ | ⟨b, c, hb, hmc, hu, hcM, cs, hcs, hle⟩
    · obtain ⟨q, r, h1, h2, ⟨_, hK⟩, hb⟩ := run_bounds (P := P) (b := true) h (Nat.le_refl 0) hl hh' hw
      have hrun : (Instr.sliceAt t (a.eval x) (lo.map a.eval) (hi.map a.eval) none).run P w = .ok (.slice none 0 0) w := by
        have e1 : r = 0 := by omega
        have e2 : q = 0 := by omega
        subst e1 e2
        rw [hu]
        simp only [Instr.sliceAt, Instr.slice, Sem.run_bind, run_underlying' hd, Result.andThen_ok, hb, run_sizeOf' hi', Sem.run_pure, Option.map_none, ite_self, Nat.sub_self]
      exact gives_sem he hrun (v := .sli bo (lo0 + q) (r - q) i.size ty) ⟨.inl ⟨by omega, rfl⟩, (show 0 ≤ 9223372036854775807 by decide)⟩ hK
    · obtain ⟨q, r, h1, h2, ⟨hqm, hK⟩, hbd⟩ := run_bounds (P := P) (b := true) h hmc hl hh' hw
      have hrun : (Instr.sliceAt t (a.eval x) (lo.map a.eval) (hi.map a.eval) none).run P w = .ok (.slice (if c = q then some ⟨b.1, b.2 + lo0 * i.size, none⟩ else (some (⟨b.1, b.2 + lo0 * i.size, none⟩ : Addr)).map (·.add (q * i.size))) (r - q) (c - q)) w := by
        rw [hu]
        simp only [Instr.sliceAt, Instr.slice, Sem.run_bind, run_underlying' hd, Result.andThen_ok, hbd, run_sizeOf' hi', Sem.run_pure]
      refine gives_sem he hrun (v := .sli bo (lo0 + q) (r - q) i.size ty) ⟨.inr ⟨b, c - q, hb, by omega, ?_, by omega, cs, hcs, ?_⟩, show r - q ≤ 9223372036854775807 by omega⟩ hK
      · by_cases hcq : c = q
        · have e1 : q = 0 := by omega
          have e2 : c = 0 := by omega
          subst e1
          rw [if_pos hcq, Nat.add_zero]
        · rw [if_neg hcq, Option.map_some, addr_add]
          congr 3
          rw [Nat.add_mul]; omega
      · have : lo0 + q + (c - q) = lo0 + c := by omega
        rw [this]; exact hle
  · exact hw.elim

theorem ok_sla (h : Good P gl N g w E o n a) {oo : Oper} {t e : TypeId} {len : Nat} {x : Operand} {lo hi : Option Operand} {l hh : X} {i : TypeInfo} (ho : oo.op = .slice t x lo hi none) (hl : okX lo = some l) (hh' : okX hi = some hh)
    (hd : P.underlying t = some (.array len e)) (hi' : P.info? e = some i) {K : AV → Prop} (hw : wpV (evF gl E) o (.sla len i.size e (cx x) l hh) K) : Gives P g w a oo K := by
  have hx := ev_ok h x
  simp only [wpV] at hw
  have he : execOp a.eval oo = (do pure (.value (← Instr.sliceAt t (a.eval x) (lo.map a.eval) (hi.map a.eval) none))) := by unfold execOp; rw [ho]; rfl
  split at hw
  · rename_i b hev
    split at hw
    · rename_i M e' f hlo
      simp only [chk_iff] at hw
      obtain ⟨hN, hee, hlen, hw⟩ := hw
      have hN := beq_eq hN
      have hee := beq_eq hee
      have hlen := Nat.le_of_ble_eq_true hlen
      subst hN hee
      rw [hev] at hx
      obtain ⟨⟨k, _, hk, hu⟩, _⟩ := hx
      obtain ⟨h0, _⟩ | ⟨k', cs, ty', h1, h2, h3, h4, h5, _⟩ := h.objs b _ hlo
      · rw [hk] at h0; cases h0
      have : k' = k := by rw [hk] at h1; injection h1 with h1; exact h1.symm
      subst this
      obtain ⟨q, r', h6, h7, ⟨hqm, hK⟩, hbd⟩ := run_bounds (P := P) (b := false) h (Nat.le_refl M) hl hh' hw
      have hrun : (Instr.sliceAt t (a.eval x) (lo.map a.eval) (hi.map a.eval) none).run P w = .ok (.slice (some (if M = q then ⟨k'.1, k'.2 + offP [], none⟩ else (⟨k'.1, k'.2 + offP [], none⟩ : Addr).add (q * i.size))) (r' - q) (M - q)) w := by
        rw [hu]
        simp only [Instr.sliceAt, Sem.run_bind, run_underlying' hd, Result.andThen_ok, Instr.sureAddr, Sem.run_pure, hbd, run_sizeOf' hi']
      have hfit : k'.2 + M * i.size ≤ cs.size := h4
      refine gives_sem he hrun (v := .sli b q (r' - q) i.size e) ⟨.inr ⟨k', M - q, hk, by omega, ?_, by omega, cs, ty', h3, ?_⟩, show r' - q ≤ 9223372036854775807 by omega⟩ hK
      · by_cases hcq : M = q
        · have e1 : q = 0 := by omega
          rw [if_pos hcq, e1]
          simp [offP]
        · rw [if_neg hcq, addr_add]
          simp [offP]
      · have : q + (M - q) = M := by omega
        rw [this]; exact hfit
    · exact hw.elim
  · exact hw.elim

theorem ok_sls (h : Good P gl N g w E o n a) {oo : Oper} {t : TypeId} {x : Operand} {lo hi : Option Operand} {l hh : X} (ho : oo.op = .slice t x lo hi none) (hl : okX lo = some l) (hh' : okX hi = some hh)
    (hd : P.underlying t = some .string) {K : AV → Prop} (hw : wpV (evF gl E) o (.sls (cx x) l hh) K) : Gives P g w a oo K := by
  have hx := ev_ok h x
  simp only [wpV] at hw
  have he : execOp a.eval oo = (do pure (.value (← Instr.sliceAt t (a.eval x) (lo.map a.eval) (hi.map a.eval) none))) := by unfold execOp; rw [ho]; rfl
  split at hw
  · rename_i s hev
    rw [hev] at hx
    obtain ⟨q, r, h1, h2, hK, hb⟩ := run_bounds (P := P) (b := false) h (Nat.le_refl s.size) hl hh' hw
    have hsz : s.size ≤ 9223372036854775807 := by have := val_v hx; obtain ⟨h1, h2⟩ := hx; rw [this] at h2; exact h2
    refine gives_val he hK (show (s.extract q r).size ≤ 9223372036854775807 by rw [ByteArray.size_extract]; omega) ?_
    rw [val_v hx]
    simp only [Instr.sliceAt, Instr.slice, Sem.run_bind, run_underlying' hd, Result.andThen_ok, Option.isSome_none, Bool.false_eq_true, if_false, Sem.run_pure, hb]
  · exact hw.elim

theorem exec_mm {ρ : Operand → Value} {oo : Oper} {c : Call} {mx : Bool} {l : List Operand} (ho : oo.op = .call c) (hb : c.callee = .builtin (if mx then .max else .min)) (hx : c.args.toList = l) :
    execOp ρ oo = (do pure (.value (← (if mx then Builtin.max_ c.argTypes oo.type (l.map ρ).toArray else Builtin.min_ c.argTypes oo.type (l.map ρ).toArray)))) := by
  have e1 : c.args.map ρ = (l.map ρ).toArray := by rw [← hx]; apply Array.ext'; simp
  cases mx with
  | true => simp only [if_true] at hb ⊢; rw [exec_builtin ho hb, e1]; rfl
  | false => simp only [Bool.false_eq_true, if_false] at hb ⊢; rw [exec_builtin ho hb, e1]; rfl

theorem okI_mm {k : IntKind} {mx : Bool} {x y : Int} (hx : okI k x) (hy : okI k y) : okI k (mmI mx x y) := by
  unfold mmI
  cases mx <;> simp only <;> split <;> assumption

theorem ok_mm (h : Good P gl N g w E o n a) {oo : Oper} {c : Call} {mx : Bool} {x y : Operand} (ho : oo.op = .call c) (hb : c.callee = .builtin (if mx then .max else .min)) (hx : c.args.toList = [x, y])
    {K : AV → Prop} (hw : wpV (evF gl E) o (.mm mx (cx x) (cx y)) K) : Gives P g w a oo K := by
  have he := exec_mm (ρ := a.eval) ho hb hx
  have hvx := ev_ok h x
  have hvy := ev_ok h y
  simp only [wpV] at hw
  split at hw
  · rename_i k u k' v hev hevy
    rw [hev] at hvx
    rw [hevy] at hvy
    obtain ⟨hk, hw2⟩ := chk_iff.1 hw
    have hk := kEq_eq hk
    subst hk
    refine gives_val he hw2 (okI_mm (int_ok hvx) (int_ok hvy)) ?_
    simp only [List.map_cons, List.map_nil, val_v hvx, val_v hvy]
    cases mx <;> rfl
  · exact hw.elim

theorem ok_mm3 (h : Good P gl N g w E o n a) {oo : Oper} {c : Call} {mx : Bool} {x y z : Operand} (ho : oo.op = .call c) (hb : c.callee = .builtin (if mx then .max else .min)) (hx : c.args.toList = [x, y, z])
    {K : AV → Prop} (hw : wpV (evF gl E) o (.mm3 mx (cx x) (cx y) (cx z)) K) : Gives P g w a oo K := by
  have he := exec_mm (ρ := a.eval) ho hb hx
  have hvx := ev_ok h x
  have hvy := ev_ok h y
  have hvz := ev_ok h z
  simp only [wpV] at hw
  split at hw
  · rename_i k u k' v k2 v2 hev hevy hevz
    rw [hev] at hvx
    rw [hevy] at hvy
    rw [hevz] at hvz
    obtain ⟨hk, hw2⟩ := chk_iff.1 hw
    obtain ⟨hk2, hw3⟩ := chk_iff.1 hw2
    have hk := kEq_eq hk
    have hk2 := kEq_eq hk2
    subst hk hk2
    refine gives_val he hw3 (okI_mm (okI_mm (int_ok hvx) (int_ok hvy)) (int_ok hvz)) ?_
    simp only [List.map_cons, List.map_nil, val_v hvx, val_v hvy, val_v hvz]
    cases mx <;> rfl
  · exact hw.elim

theorem ok_mm4 (h : Good P gl N g w E o n a) {oo : Oper} {c : Call} {mx : Bool} {x y z s : Operand} (ho : oo.op = .call c) (hb : c.callee = .builtin (if mx then .max else .min)) (hx : c.args.toList = [x, y, z, s])
    {K : AV → Prop} (hw : wpV (evF gl E) o (.mm4 mx (cx x) (cx y) (cx z) (cx s)) K) : Gives P g w a oo K := by
  have he := exec_mm (ρ := a.eval) ho hb hx
  have hvx := ev_ok h x
  have hvy := ev_ok h y
  have hvz := ev_ok h z
  have hvs := ev_ok h s
  simp only [wpV] at hw
  split at hw
  · rename_i k u k' v k2 v2 k3 v3 hev hevy hevz hevs
    rw [hev] at hvx
    rw [hevy] at hvy
    rw [hevz] at hvz
    rw [hevs] at hvs
    obtain ⟨hk, hw2⟩ := chk_iff.1 hw
    obtain ⟨hk2, hw3⟩ := chk_iff.1 hw2
    obtain ⟨hk3, hw4⟩ := chk_iff.1 hw3
    have hk := kEq_eq hk
    have hk2 := kEq_eq hk2
    have hk3 := kEq_eq hk3
    subst hk hk2 hk3
    refine gives_val he hw4 (okI_mm (okI_mm (okI_mm (int_ok hvx) (int_ok hvy)) (int_ok hvz)) (int_ok hvs)) ?_
    simp only [List.map_cons, List.map_nil, val_v hvx, val_v hvy, val_v hvz, val_v hvs]
    cases mx <;> rfl
  · exact hw.elim

theorem consX_l {gl : Nat → AV} (h : Good P gl N g w E o n a) : ∀ (l : List Operand), (R g w (consX (evF gl E) (l.map cx))).l (l.map a.eval)
  | [] => rfl
  | x :: r => ⟨ev_ok h x, consX_l h r⟩

theorem ok_mkf (h : Good P gl N g w E o n a) {oo : Oper} {fn : Fn} {x y : Array Operand} (ho : oo.op = .makeFunc fn x y) {K : AV → Prop} (hw : wpV (evF gl E) o (.mkf fn (x.toList.map cx) (y.toList.map cx)) K) : Gives P g w a oo K := by
  have he : execOp a.eval oo = (do pure (.value (← Instr.makeFunc fn (x.map a.eval) (y.map a.eval)))) := by unfold execOp; rw [ho]
  refine gives_sem he (cv := .func fn (x.map a.eval) (y.map a.eval)) rfl (v := .clo fn (consX (evF gl E) (x.toList.map cx)) (consX (evF gl E) (y.toList.map cx))) ⟨⟨_, _, rfl, ?_, ?_⟩, trivial⟩ hw
  · rw [Array.toList_map]; exact consX_l h _
  · rw [Array.toList_map]; exact consX_l h _

/-- Every value operation: the machine gives what the walk says. -/
theorem compV_ok (h : Good P gl N g w E o n a) {oo : Oper} {p : IOp} (hc : compV P oo.op = some p) {K : AV → Prop} (hw : wpV (evF gl E) o p K) : Gives P g w a oo K := by
  cases ho : oo.op <;> rw [ho] at hc <;> simp only [compV] at hc
  case move x => injection hc with hc; subst hc; exact ok_mv h (by unfold execOp; rw [ho]; rfl) hw
  case assign x => injection hc with hc; subst hc; exact ok_mv h (by unfold execOp; rw [ho]; rfl) hw
  case pick c x y => injection hc with hc; subst hc; exact ok_pick h ho hw
  case load t x =>
    split at hc
    · rename_i d i hd hi
      injection hc with hc; subst hc; exact ok_ld h ho hd hi hw
    · cases hc
  case fieldAddr s x k =>
    split at hc
    · rename_i fs hd
      split at hc
      · rename_i f hf
        split at hc
        · rename_i i hi
          split at hc
          · cases hc
          · rename_i h0
            injection hc with hc; subst hc; exact ok_fa h ho hd hf hi h0 hw
        · cases hc
      · cases hc
    · cases hc
  case field s x k =>
    split at hc
    · rename_i fs hd
      split at hc
      · rename_i f hf
        split at hc
        · rename_i d i hu hi
          injection hc with hc; subst hc; exact ok_fld h ho hd hf hu hi hw
        · cases hc
      · cases hc
    · cases hc
  case indexAddr t x i =>
    split at hc
    · rename_i len e hd
      split at hc
      · rename_i ti hi
        injection hc with hc; subst hc; exact ok_ixa h ho hd hi hw
      · cases hc
    · rename_i e hd
      split at hc
      · rename_i ti hi
        injection hc with hc; subst hc; exact ok_ixs h ho hd hi hw
      · cases hc
    · cases hc
  case index t x i =>
    split at hc
    · rename_i len e hd
      split at hc
      · rename_i d ti hu hi
        injection hc with hc; subst hc; exact ok_ix h ho hd hu hi hw
      · cases hc
    · rename_i hd
      injection hc with hc; subst hc; exact ok_ixb h ho hd hw
    · cases hc
  case binOp op t x y ty =>
    split at hc
    · injection hc with hc; subst hc; exact ok_bin h ho hw
    · injection hc with hc; subst hc; exact ok_sop h ho hw
    · rename_i hd
      split at hc
      · injection hc with hc; subst hc; exact ok_eqv (ne := false) h ho hd hw
      · injection hc with hc; subst hc; exact ok_eqv (ne := true) h ho hd hw
      · cases hc
    · rename_i ms hd
      unfold cEqn at hc
      split at hc
      · split at hc
        · injection hc with hc; subst hc; exact ok_eqn (ne := false) h ho hd hw
        · injection hc with hc; subst hc; exact ok_eqn (ne := true) h ho hd hw
        · cases hc
      · cases hc
    · split at hc
      · rename_i s hs hgd
        split at hc
        · injection hc with hc; subst hc; exact ok_eqs (ne := false) h ho hs hgd hw
        · injection hc with hc; subst hc; exact ok_eqs (ne := true) h ho hs hgd hw
        · cases hc
      · cases hc
  case unOp op t x => injection hc with hc; subst hc; exact ok_un h ho hw
  case convert s t x =>
    split at hc
    · rename_i d k hs ht
      injection hc with hc; subst hc; exact ok_conv h ho hs ht hw
    · rename_i e hs ht
      split at hc
      · rename_i hb
        injection hc with hc; subst hc; exact ok_b2s h ho hs hb ht hw
      · cases hc
    · cases hc
  case extract x i => injection hc with hc; subst hc; exact ok_ext h ho hw
  case build t l =>
    split at hc
    · rename_i hz
      split at hc
      · rename_i fs hd
        split at hc
        · rename_i ps hall hps
          injection hc with hc; subst hc; exact ok_buildS h ho hz hd hall hps hw
        · cases hc
      · rename_i m e hd
        split at hc
        · rename_i i hi
          injection hc with hc; subst hc; exact ok_buildA h ho hz hd hi hw
        · cases hc
      · cases hc
    · cases hc
  case nilCheck x => injection hc with hc; subst hc; exact ok_nck h ho hw
  case makeFunc fn x y => injection hc with hc; subst hc; exact ok_mkf h ho hw
  case slice t x lo hi mx =>
    cases mx with
    | some m => cases hc
    | none =>
      simp only at hc
      split at hc
      · rename_i l hh hl hh'
        split at hc
        · rename_i e hd
          split at hc
          · rename_i i hi'
            injection hc with hc; subst hc; exact ok_slc h ho hl hh' hd hi' hw
          · cases hc
        · rename_i hd
          injection hc with hc; subst hc; exact ok_sls h ho hl hh' hd hw
        · rename_i len e hd
          split at hc
          · rename_i i hi'
            injection hc with hc; subst hc; exact ok_sla h ho hl hh' hd hi' hw
          · cases hc
        · cases hc
      · cases hc
  case call c =>
    split at hc
    · rename_i x y _ hb hx
      injection hc with hc; subst hc; exact ok_mm (mx := false) h ho hb hx hw
    · rename_i x y _ hb hx
      injection hc with hc; subst hc; exact ok_mm (mx := true) h ho hb hx hw
    · rename_i x y z _ hb hx
      injection hc with hc; subst hc; exact ok_mm3 (mx := false) h ho hb hx hw
    · rename_i x y z _ hb hx
      injection hc with hc; subst hc; exact ok_mm3 (mx := true) h ho hb hx hw
    · rename_i x y z u _ hb hx
      injection hc with hc; subst hc; exact ok_mm4 (mx := false) h ho hb hx hw
    · rename_i x t hb hx ht
      split at hc
      · rename_i e hd
        injection hc with hc; subst hc; exact ok_len h ho hb hx ht hd hw
      · rename_i hd
        injection hc with hc; subst hc; exact ok_lens h ho hb hx ht hd hw
      · rename_i m e hd
        split at hc
        · rename_i hm
          injection hc with hc; subst hc
          exact exec_lenA ho hb hx ht hd (Nat.le_of_ble_eq_true hm) (by simpa [wpV, evF] using hw)
        · cases hc
      · cases hc
    · cases hc
  all_goals cases hc

end
end Ar
