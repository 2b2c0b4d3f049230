/- The value operations: what the walk asks and gives, how an operation of the program is read as one, and that the machine does it. No condition. -/
import Derived.Test.YtjkmmcbfcglkdaaArD
namespace Ar
open Go
set_option linter.unusedVariables false
set_option autoImplicit false

def kEq : IntKind → IntKind → Bool
  | .i8, .i8 | .i16, .i16 | .i32, .i32 | .i64, .i64 | .u8, .u8 | .u16, .u16 | .u32, .u32 | .u64, .u64 => true
  | _, _ => false

theorem kEq_eq {a b : IntKind} (h : kEq a b = true) : a = b := by cases a <;> cases b <;> simp [kEq] at h <;> rfl

def br (b : Bool) (A B : Prop) : Prop := match b with | true => A | false => B

theorem br_intro {b : Bool} {A B : Prop} (h : b = true → A) (h' : b = false → B) : br b A B := by cases b <;> simp [br, *]
theorem br_true {b : Bool} {A B : Prop} (hb : b = true) (h : A) : br b A B := by subst hb; exact h
theorem br_false {b : Bool} {A B : Prop} (hb : b = false) (h : B) : br b A B := by subst hb; exact h

/-- Byte number 'j' of a string. -/
def bt (s : ByteArray) (j : Nat) : Int := ((s.data.getD j 0).toNat : Int)

def bitV (op : BinOp) (k : IntKind) (x y : Int) : Option Value :=
  match op with
  | .and => some (.int k (k.wrap (BitVec.ofInt k.bits x &&& BitVec.ofInt k.bits y).toNat))
  | .or => some (.int k (k.wrap (BitVec.ofInt k.bits x ||| BitVec.ofInt k.bits y).toNat))
  | .xor => some (.int k (k.wrap (BitVec.ofInt k.bits x ^^^ BitVec.ofInt k.bits y).toNat))
  | .andNot => some (.int k (k.wrap (BitVec.ofInt k.bits x &&& ~~~BitVec.ofInt k.bits y).toNat))
  | _ => none

def binV (op : BinOp) (k k' : IntKind) (a b : Int) (K : AV → Prop) : Prop :=
  match op with
  | .add => chk (kEq k k') (K (.val (.int k (k.wrap (a + b)))))
  | .sub => chk (kEq k k') (K (.val (.int k (k.wrap (a - b)))))
  | .mul => chk (kEq k k') (K (.val (.int k (k.wrap (a * b)))))
  | .quo => chk (kEq k k') (b ≠ 0 ∧ K (.val (.int k (k.wrap (a.tdiv b)))))
  | .rem => chk (kEq k k') (b ≠ 0 ∧ K (.val (.int k (a.tmod b))))
  | .shl => 0 ≤ b ∧ K (.val (.int k (k.wrap (a * 2 ^ min b.toNat k.bits))))
  | .shr => 0 ≤ b ∧ K (.val (.int k (a.fdiv (2 ^ min b.toNat k.bits))))
  | .lss => chk (kEq k k') (K (.val (.bool (decide (a < b)))))
  | .leq => chk (kEq k k') (K (.val (.bool (decide (a ≤ b)))))
  | .gtr => chk (kEq k k') (K (.val (.bool (decide (a > b)))))
  | .geq => chk (kEq k k') (K (.val (.bool (decide (a ≥ b)))))
  | .eql => chk (kEq k k') (K (.val (.bool (decide (a = b)))))
  | .neq => chk (kEq k k') (K (.val (.bool (decide (a ≠ b)))))
  | op => chk (kEq k k') (match bitV op k a b with | some v => K (.val v) | none => False)

def strV (op : BinOp) (x y : ByteArray) (K : AV → Prop) : Prop :=
  match op with
  | .add => (x.size + y.size ≤ 9223372036854775807) ∧ K (.val (.string (x ++ y)))
  | .eql => K (.val (.bool (x.toList == y.toList)))
  | .neq => K (.val (.bool (!(x.toList == y.toList))))
  | .lss => K (.val (.bool (Op.bytesLess x.toList y.toList)))
  | .leq => K (.val (.bool (Op.bytesLess x.toList y.toList || x.toList == y.toList)))
  | .gtr => K (.val (.bool (!(Op.bytesLess x.toList y.toList || x.toList == y.toList))))
  | .geq => K (.val (.bool (!Op.bytesLess x.toList y.toList)))
  | _ => False

def unV (op : UnOp) (x : Value) (K : AV → Prop) : Prop :=
  match op, x with
  | .neg, .int k n => K (.val (.int k (k.wrap (0 - n))))
  | .xor, .int k n => match bitV .xor k (if k.signed then -1 else k.max) n with | some v => K (.val v) | none => False
  | .not, .bool b => K (.val (.bool !b))
  | _, _ => False

def setPart (k : Nat) (v : AV) : AV → AV
  | .st l => .st (setNth k v l)
  | .arr n e f => .arr n e (fun i => selA (i = k) v (f i))
  | a => a

def okPart (k off sz : Nat) (v : AV) : AV → Bool
  | .st l => hasN k l && Nat.beq (offN k l) off && Nat.beq (size (nth k l)) sz && Nat.beq (size v) sz && (isAg v || isCell v)
  | .arr n e f => Nat.ble (k + 1) n && Nat.beq (k * e) off && Nat.beq e sz && Nat.beq (size v) sz && (isAg v || isCell v)
  | _ => false

def mkParts (ρ : X → AV) : List (Nat × Nat × Nat × X) → AV → AV
  | [], z => z
  | (k, off, sz, x) :: r, z => mkParts ρ r (setPart k (ρ x) z)

def okParts (ρ : X → AV) : List (Nat × Nat × Nat × X) → AV → Bool
  | [], _ => true
  | (k, off, sz, x) :: r, z => okPart k off sz (ρ x) z && okParts ρ r (setPart k (ρ x) z)

def ssize : Sh → Nat
  | .st l => ssize l
  | .cons a b => ssize a + ssize b
  | .nil => 0
  | .arr n e _ => n * e
  | _ => 1

def fitS : Sh → AV → Bool
  | .int, .val (.int _ _) => true
  | .bool, .val (.bool _) => true
  | .str, .val (.string _) => true
  | .st s, .st l => fitS s l
  | .cons s t, .cons a b => fitS s a && fitS t b
  | .nil, .nil => true
  | .arr n e s, .arr n' e' f => Nat.beq n n' && (Nat.beq e e' && (List.range n).all fun i => fitS s (f i))
  | _, _ => false

/-- Do the integers' kinds agree? -/
def kndS : Sh → AV → AV → Bool
  | .int, .val (.int k _), .val (.int k' _) => kEq k k'
  | .st s, .st l, .st m => kndS s l m
  | .cons s t, .cons a b, .cons c d => kndS s a c && kndS t b d
  | .arr n _ s, .arr _ _ f, .arr _ _ h => (List.range n).all fun i => kndS s (f i) (h i)
  | _, _, _ => true

def eqS : Sh → AV → AV → Bool
  | .int, .val (.int _ a), .val (.int _ b) => a == b
  | .bool, .val (.bool a), .val (.bool b) => a == b
  | .str, .val (.string a), .val (.string b) => a.toList == b.toList
  | .st s, .st l, .st m => eqS s l m
  | .cons s t, .cons a b, .cons c d => eqS s a c && eqS t b d
  | .arr n _ s, .arr _ _ f, .arr _ _ h => (List.range n).all fun i => eqS s (f i) (h i)
  | _, _, _ => true

def loV (ρ : X → AV) (x : X) (K : Nat → Prop) : Prop := match x with
  | .no => K 0
  | x => match ρ x with
    | .val (.int _ j) => 0 ≤ j ∧ K j.toNat
    | _ => False

def hiV (ρ : X → AV) (x : X) (n : Nat) (K : Nat → Prop) : Prop := match x with
  | .no => K n
  | x => match ρ x with
    | .val (.int _ j) => (0 ≤ j ∧ j ≤ n) ∧ K j.toNat
    | _ => False

def eqSn (ne b : Bool) : Bool := match ne with
  | true => !b
  | false => b

def mmI (mx : Bool) (a b : Int) : Int := match mx with
  | true => if b > a then b else a
  | false => if b < a then b else a

/-- What a value operation gives. -/
def wpV (ρ : X → AV) (o : Objs) (op : IOp) (K : AV → Prop) : Prop :=
  match op with
  | .mv x => K (ρ x)
  | .pick c a b => match ρ c with
    | .val (.bool t) => br t (K (ρ a)) (K (ρ b))
    | _ => False
  | .ld ag n x => match ρ x with
    | .ptr b p => match lookO b o with
      | some (.box a) => chk (okNav p a) (chk (fits ag n (nav p a)) (K (nav p a)))
      | _ => False
    | .elt _ _ f i p => chk (okNav p (f i)) (chk (fits ag n (nav p (f i))) (K (nav p (f i))))
    | _ => False
  | .fa k off x => match ρ x with
    | .ptr b p => K (.ptr b (.fld k off :: p))
    | .elt n e f i p => K (.elt n e f i (.fld k off :: p))
    | _ => False
  | .fld ag n k off x => match ρ x with
    | .st l => chk (hasN k l) (chk (Nat.beq (offN k l) off) (chk (fits ag n (nth k l)) (K (nth k l))))
    | _ => False
  | .ixa len e x i => match ρ x, ρ i with
    | .ptr b p, .val (.int _ j) => (0 ≤ j ∧ j < len) ∧ K (.ptr b (.idx j.toNat len e :: p))
    | .elt n e' f q p, .val (.int _ j) => (0 ≤ j ∧ j < len) ∧ K (.elt n e' f q (.idx j.toNat len e :: p))
    | _, _ => False
  | .ixs e x i => match ρ x, ρ i with
    | .lst _ n e' f, .val (.int _ j) => chk (Nat.beq e e') ((0 ≤ j ∧ j < n) ∧ K (.elt n e' f j.toNat []))
    | .sli b lo n e', .val (.int _ j) => match lookO b o with
      | some (.box (.arr N e'' f)) => chk (Nat.beq e e') (chk (Nat.beq e e'') ((0 ≤ j ∧ j < n) ∧ (lo + j.toNat < N) ∧ K (.ptr b [.idx (lo + j.toNat) N e])))
      | _ => False
    | _, _ => False
  | .ix ag len e x i => match ρ x, ρ i with
    | .arr n e' f, .val (.int _ j) => chk (Nat.beq n len) (chk (Nat.beq e e') ((0 ≤ j ∧ j < len) ∧ chk (fits ag e (f j.toNat)) (K (f j.toNat))))
    | _, _ => False
  | .ixb x i => match ρ x, ρ i with
    | .val (.string s), .val (.int _ j) => (0 ≤ j ∧ j < s.size) ∧ K (.val (.int .u8 (bt s j.toNat)))
    | _, _ => False
  | .bin op x y => match ρ x, ρ y with
    | .val (.int k a), .val (.int k' b) => binV op k k' a b K
    | _, _ => False
  | .sop op x y => match ρ x, ρ y with
    | .val (.string a), .val (.string b) => strV op a b K
    | _, _ => False
  | .eqv ne x y => match ρ x, ρ y with
    | .val (.bool a), .val (.bool b) => K (.val (.bool (match ne with | true => !(a == b) | false => (a == b))))
    | _, _ => False
  | .un op x => match ρ x with
    | .val v => unV op v K
    | _ => False
  | .conv k x => match ρ x with
    | .val (.int _ a) => K (.val (.int k (k.wrap a)))
    | _ => False
  | .len x => match ρ x with
    | .lst _ n _ _ => K (.val (.int .i64 n))
    | .sli _ _ n _ => K (.val (.int .i64 n))
    | .val (.slice none 0 0) => K (.val (.int .i64 0))
    | _ => False
  | .lens x => match ρ x with
    | .val (.string s) => K (.val (.int .i64 s.size))
    | _ => False
  | .ext i x => match ρ x with
    | .tup l => chk (hasN i l) (K (nth i l))
    | _ => False
  | .build z l => chk (isAg z) (chk (okParts ρ l z) (K (mkParts ρ l z)))
  | .nck x => match ρ x with
    | .ptr b p => K (.ptr b p)
    | .elt n e f i p => K (.elt n e f i p)
    | _ => False
  | .eqs ne s x y => chk (isAg (ρ x)) (chk (isAg (ρ y)) (chk (fitS s (ρ x)) (chk (fitS s (ρ y)) (chk (kndS s (ρ x) (ρ y)) (K (.val (.bool (eqSn ne (eqS s (ρ x) (ρ y))))))))))
  | .slc e x lo hi => match ρ x with
    | .lst _ n e' f => chk (Nat.beq e e') (loV ρ lo fun l => hiV ρ hi n fun h => l ≤ h ∧ K (.lst none (h - l) e (fun i => f (i + l))))
    | _ => False
  | .sls x lo hi => match ρ x with
    | .val (.string s) => loV ρ lo fun l => hiV ρ hi s.size fun h => l ≤ h ∧ K (.val (.string (s.extract l h)))
    | _ => False
  | .mm mx x y => match ρ x, ρ y with
    | .val (.int k a), .val (.int _ b) => K (.val (.int k (mmI mx a b)))
    | _, _ => False
  | .mm3 mx x y z => match ρ x, ρ y, ρ z with
    | .val (.int k a), .val (.int _ b), .val (.int _ c) => K (.val (.int k (mmI mx (mmI mx a b) c)))
    | _, _, _ => False
  | _ => False

/-- The cells of a closed value. -/
def cellsOf : AV → List Value
  | .val x => [x]
  | .st l => cellsOf l
  | .cons a b => cellsOf a ++ cellsOf b
  | .arr n e f => (List.range n).flatMap fun i => cellsOf (f i)
  | _ => []

def closed : AV → Bool
  | .val x => cellVb x
  | .st l => closed l
  | .cons a b => closed a && closed b
  | .nil => true
  | .arr n e f => (List.range n).all fun i => closed (f i) && Nat.beq (size (f i)) e
  | _ => false

theorem cellsOf_length : ∀ (a : AV), closed a = true → (cellsOf a).length = size a := by
  intro a
  induction a with
  | val x => intro _; rfl
  | st l ih => intro h; exact ih h
  | cons a b iha ihb =>
    intro h
    simp only [closed, Bool.and_eq_true] at h
    simp [cellsOf, size, iha h.1, ihb h.2]
  | nil => intro _; rfl
  | arr n e f ih =>
    intro h
    simp only [closed, List.all_eq_true, List.mem_range, Bool.and_eq_true] at h
    simp only [cellsOf, size]
    have : ∀ m, m ≤ n → ((List.range m).flatMap fun i => cellsOf (f i)).length = m * e := by
      intro m
      induction m with
      | zero => simp
      | succ m ihm =>
        intro hm
        rw [List.range_succ, List.flatMap_append, List.length_append, ihm (by omega)]
        simp only [List.flatMap_cons, List.flatMap_nil, List.append_nil]
        rw [ih m (h m (by omega)).1, beq_eq (h m (by omega)).2, Nat.succ_mul]
    exact this n (Nat.le_refl _)
  | _ => intro h; simp [closed] at h

theorem closed_seg {g : Gh} {w : World} : ∀ (a : AV), closed a = true → ∀ {lk : Nat → Option Value} {off : Nat}, (∀ j, j < size a → lk (off + j) = (cellsOf a)[j]?) → (R g w a).s lk off := by
  intro a
  induction a with
  | val x => intro h lk off hl; exact ⟨x, by simpa [cellsOf] using hl 0 (by simp [size]), rfl, cellVb_iff.1 h⟩
  | st l ih => intro h lk off hl; exact ih h hl
  | cons a b iha ihb =>
    intro h lk off hl
    simp only [closed, Bool.and_eq_true] at h
    have la := cellsOf_length a h.1
    refine ⟨iha h.1 fun j hj => ?_, ihb h.2 fun j hj => ?_⟩
    · rw [hl j (by simp only [size]; omega)]
      simp only [cellsOf]
      rw [List.getElem?_append_left (by omega)]
    · have := hl (size a + j) (by simp only [size]; omega)
      rw [Nat.add_assoc, this]
      simp only [cellsOf]
      rw [List.getElem?_append_right (by omega), la]
      congr 1; omega
  | nil => intro _ _ _ _; trivial
  | arr n e f ih =>
    intro h lk off hl i hi
    have h' := h
    simp only [closed, List.all_eq_true, List.mem_range, Bool.and_eq_true] at h
    have hs := beq_eq (h i hi).2
    refine ⟨hs, ih i (h i hi).1 fun j hj => ?_⟩
    have hj' : j < e := by omega
    have := hl (i * e + j) (by simpa [size] using mul_add_lt hi hj')
    rw [Nat.add_assoc, this]
    simp only [cellsOf]
    have key : ∀ m, m ≤ n → ((List.range m).flatMap fun i => cellsOf (f i)).length = m * e := by
      intro m
      induction m with
      | zero => simp
      | succ m ihm =>
        intro hm
        rw [List.range_succ, List.flatMap_append, List.length_append, ihm (by omega)]
        simp only [List.flatMap_cons, List.flatMap_nil, List.append_nil]
        rw [cellsOf_length _ (h m (by omega)).1, beq_eq (h m (by omega)).2, Nat.succ_mul]
    have split : List.range n = List.range i ++ i :: (List.range (n - (i + 1))).map (fun q => q + (i + 1)) := by
      apply List.ext_getElem
      · simp; omega
      · intro q h1 h2
        simp only [List.getElem_range]
        by_cases hq : q < i
        · rw [List.getElem_append_left (by simpa using hq)]; simp
        · rw [List.getElem_append_right (by simpa using Nat.le_of_not_lt hq)]
          simp only [List.length_range]
          by_cases hq2 : q = i
          · subst hq2; simp
          · obtain ⟨m, rfl⟩ : ∃ m, q = i + 1 + m := ⟨q - (i + 1), by omega⟩
            have : i + 1 + m - i = m + 1 := by omega
            simp only [this, List.getElem_cons_succ, List.getElem_map, List.getElem_range]
            omega
    rw [split, List.flatMap_append, List.flatMap_cons]
    rw [List.getElem?_append_right (by rw [key i (Nat.le_of_lt hi)]; omega), key i (Nat.le_of_lt hi)]
    rw [List.getElem?_append_left (by rw [cellsOf_length _ (h i hi).1]; omega)]
    congr 1; omega
  | _ => intro h; simp [closed] at h

/-- Two one-cell values without memory: are they one? -/
def veq : Value → Value → Bool
  | .bool a, .bool b => a == b
  | .int k a, .int k' b => kEq k k' && decide (a = b)
  | .string a, .string b => decide (a = b)
  | .pointer none, .pointer none => true
  | .slice none 0 0, .slice none 0 0 => true
  | .map none, .map none => true
  | .nilFunc, .nilFunc => true
  | .nilIface, .nilIface => true
  | _, _ => false

theorem veq_eq {a b : Value} (h : veq a b = true) : a = b := by
  unfold veq at h
  split at h
  · simp at h; rw [h]
  · simp at h; rw [kEq_eq h.1, h.2]
  · simp at h; rw [h]
  all_goals first | rfl | simp at h

def veqL : List Value → List Value → Bool
  | [], [] => true
  | a :: r, b :: s => veq a b && veqL r s
  | _, _ => false

theorem veqL_eq : ∀ {a b : List Value}, veqL a b = true → a = b
  | [], [], _ => rfl
  | a :: r, b :: s, h => by simp [veqL] at h; rw [veq_eq h.1, veqL_eq h.2]
  | [], _ :: _, h => by simp [veqL] at h
  | _ :: _, [], h => by simp [veqL] at h

/-- The zero value of a type, as an abstract one (what it says is checked by 'zOk'). -/
def zeroT (P : Program) : Nat → TypeId → AV
  | 0, _ => .any
  | d + 1, t => match P.underlying t with
    | some (.struct fs) => .st (fs.toList.foldr (fun f r => .cons (zeroT P d f.type) r) .nil)
    | some (.array n e) => .arr n (match P.info? e with | some i => i.size | none => 0) (fun _ => zeroT P d e)
    | _ => match P.info? t with
      | some i => match i.zero with
        | some v => .val v
        | none => .any
      | none => .any

def zOk (P : Program) (t : TypeId) (z : AV) : Bool :=
  match P.info? t with
  | some i => match i.zero with
    | some v => closed z && veqL (cellsOf z) v.cells.toList
    | none => false
  | none => false

theorem zOk_spec {P : Program} {t : TypeId} {z : AV} (h : zOk P t z = true) : ∃ i v, P.info? t = some i ∧ i.zero = some v ∧ closed z = true ∧ v.cells = (cellsOf z).toArray := by
  unfold zOk at h
  split at h
  · rename_i i hi
    split at h
    · rename_i v hv
      simp only [Bool.and_eq_true] at h
      refine ⟨i, v, hi, hv, h.1, ?_⟩
      rw [veqL_eq h.2]
    · cases h
  · cases h

theorem run_zero {P : Program} {t : TypeId} {i : TypeInfo} {v : Value} (hi : P.info? t = some i) (hv : i.zero = some v) (w : World) : (zeroValue t).run P w = .ok v w := by
  unfold zeroValue typeInfo
  simp only [Sem.run_bind, run_program, Result.andThen_ok, hi, Sem.run_pure, hv]

end Ar
