/- The types of the program, as the walk reads them. No condition. -/
import Derived.Test.YtankpibkakfnhaaDoorK06
set_option linter.all false
namespace Ar
open Go
set_option linter.unusedVariables false
set_option autoImplicit false

theorem nf_I (n : Int) : nf (I n) := trivial

/-- Values that are data. -/
def dta : AV → Prop
  | .val _ => True
  | .any => True
  | .nil => True
  | .lst tok n _ f => tok = none ∧ ∀ i, dta (f i)
  | .arr n _ f => ∀ i, dta (f i)
  | .st l => dta l
  | .cons a b => dta a ∧ dta b
  | _ => False

/-- What reads at all has its sizes and its numbers in range. -/
def rng : AV → Prop
  | .val x => cellV x
  | .lst _ n e f => n ≤ 9223372036854775807 ∧ ∀ i, i < n → size (f i) = e ∧ rng (f i)
  | .elt n e f _ _ => ∀ i, i < n → size (f i) = e ∧ rng (f i)
  | .arr n e f => ∀ i, i < n → size (f i) = e ∧ rng (f i)
  | .st l => rng l
  | .cons a b => rng a ∧ rng b
  | .tup l => rng l
  | .clo _ a b => rng a ∧ rng b
  | .ifc _ a => rng a
  | _ => True

theorem dta_I (n : Int) : dta (I n) := trivial
theorem dta_encL {α : Type} [Inhabited α] {enc : α → AV} {e : Nat} {xs : List α} (h : ∀ x, dta (enc x)) : dta (encL enc e xs) := ⟨rfl, fun i => h _⟩

/-- The accounts' nets, none of them the least number. -/
structure Bk where
  f : Nat → Int
  h : ∀ a, a < 12 → f a ≠ -9223372036854775808
def bk0 : Bk := ⟨fun _ => 0, fun _ _ => by decide⟩
instance : Inhabited Bk := ⟨bk0⟩
def encBf (b : Nat → Int) : AV := .st (.cons (.arr 12 1 fun i => I (b i)) .nil)
theorem nf_encBf (b : Nat → Int) : nf (encBf b) := ⟨fun i => trivial, trivial⟩
theorem dta_encBf (b : Nat → Int) : dta (encBf b) := ⟨fun i => trivial, trivial⟩
def encBk (b : Bk) : AV := encBf b.f
theorem nf_encBk (b : Bk) : nf (encBk b) := nf_encBf _
theorem dta_encBk (b : Bk) : dta (encBk b) := dta_encBf _
def rgBk (b : Bk) : Prop := ∀ a, a < 12 → in64 (b.f a)
theorem rg_I {n : Int} (h : rng (I n)) : in64 n := okI_i64.1 h
theorem rg_L {α : Type} [Inhabited α] {enc : α → AV} {e : Nat} {xs : List α} {Q : α → Prop} (hq : ∀ x, rng (enc x) → Q x) (h : rng (encL enc e xs)) : ∀ x ∈ xs, Q x := fun x hx => by
  obtain ⟨i, hi, rfl⟩ := List.getElem_of_mem hx
  have h2 : rng (enc (at_ xs i)) := (h.2 i hi).2
  rw [at_lt hi] at h2
  exact hq _ h2
theorem rg_Bf {b : Nat → Int} (h : rng (encBf b)) : ∀ a, a < 12 → in64 (b a) := fun a ha => rg_I (h.1 a ha).2
theorem rg_Bk {b : Bk} (h : rng (encBk b)) : rgBk b := rg_Bf h

structure Ins where
  due : Int
  int : Int
  prin : Int
  marked : Bool

instance : Inhabited Ins := ⟨⟨0, 0, 0, false⟩⟩
def encIns (x : Ins) : AV := .st (.cons (I x.due) (.cons (I x.int) (.cons (I x.prin) (.cons (B x.marked) .nil))))
theorem nf_encIns (x : Ins) : nf (encIns x) := ⟨trivial, trivial, trivial, trivial, trivial⟩
theorem dta_encIns (x : Ins) : dta (encIns x) := ⟨trivial, trivial, trivial, trivial, trivial⟩
structure rgIns (x : Ins) : Prop where
  due : in64 x.due
  int : in64 x.int
  prin : in64 x.prin
  marked : True
theorem rg_Ins {x : Ins} (h : rng (encIns x)) : rgIns x := ⟨rg_I h.1, rg_I h.2.1, rg_I h.2.2.1, trivial⟩

structure Trm where
  kind : Int
  principal : Int
  rate : Int
  count : Int
  start : Int
  rule : Int

instance : Inhabited Trm := ⟨⟨0, 0, 0, 0, 0, 0⟩⟩
def encTrm (x : Trm) : AV := .st (.cons (I x.kind) (.cons (I x.principal) (.cons (I x.rate) (.cons (I x.count) (.cons (I x.start) (.cons (I x.rule) .nil))))))
theorem nf_encTrm (x : Trm) : nf (encTrm x) := ⟨trivial, trivial, trivial, trivial, trivial, trivial, trivial⟩
theorem dta_encTrm (x : Trm) : dta (encTrm x) := ⟨trivial, trivial, trivial, trivial, trivial, trivial, trivial⟩
structure rgTrm (x : Trm) : Prop where
  kind : in64 x.kind
  principal : in64 x.principal
  rate : in64 x.rate
  count : in64 x.count
  start : in64 x.start
  rule : in64 x.rule
theorem rg_Trm {x : Trm} (h : rng (encTrm x)) : rgTrm x := ⟨rg_I h.1, rg_I h.2.1, rg_I h.2.2.1, rg_I h.2.2.2.1, rg_I h.2.2.2.2.1, rg_I h.2.2.2.2.2.1⟩

structure Cse where
  status : Int
  susp : Bool
  cycles : Int
  since : Int
  deadline : Int
  promises : Int
  promiseDue : Int
  promiseAmount : Int
  promiseGot : Int
  kept : Int
  broken : Int
  cures : Int
  restr : Int
  cycleFees : Int
  lifeFees : Int

instance : Inhabited Cse := ⟨⟨0, false, 0, 0, 0, 0, 0, 0, 0, 0, 0, 0, 0, 0, 0⟩⟩
def encCse (x : Cse) : AV := .st (.cons (I x.status) (.cons (B x.susp) (.cons (I x.cycles) (.cons (I x.since) (.cons (I x.deadline) (.cons (I x.promises) (.cons (I x.promiseDue) (.cons (I x.promiseAmount) (.cons (I x.promiseGot) (.cons (I x.kept) (.cons (I x.broken) (.cons (I x.cures) (.cons (I x.restr) (.cons (I x.cycleFees) (.cons (I x.lifeFees) .nil)))))))))))))))
theorem nf_encCse (x : Cse) : nf (encCse x) := ⟨trivial, trivial, trivial, trivial, trivial, trivial, trivial, trivial, trivial, trivial, trivial, trivial, trivial, trivial, trivial, trivial⟩
theorem dta_encCse (x : Cse) : dta (encCse x) := ⟨trivial, trivial, trivial, trivial, trivial, trivial, trivial, trivial, trivial, trivial, trivial, trivial, trivial, trivial, trivial, trivial⟩
structure rgCse (x : Cse) : Prop where
  status : in64 x.status
  susp : True
  cycles : in64 x.cycles
  since : in64 x.since
  deadline : in64 x.deadline
  promises : in64 x.promises
  promiseDue : in64 x.promiseDue
  promiseAmount : in64 x.promiseAmount
  promiseGot : in64 x.promiseGot
  kept : in64 x.kept
  broken : in64 x.broken
  cures : in64 x.cures
  restr : in64 x.restr
  cycleFees : in64 x.cycleFees
  lifeFees : in64 x.lifeFees
theorem rg_Cse {x : Cse} (h : rng (encCse x)) : rgCse x := ⟨rg_I h.1, trivial, rg_I h.2.2.1, rg_I h.2.2.2.1, rg_I h.2.2.2.2.1, rg_I h.2.2.2.2.2.1, rg_I h.2.2.2.2.2.2.1, rg_I h.2.2.2.2.2.2.2.1, rg_I h.2.2.2.2.2.2.2.2.1, rg_I h.2.2.2.2.2.2.2.2.2.1, rg_I h.2.2.2.2.2.2.2.2.2.2.1, rg_I h.2.2.2.2.2.2.2.2.2.2.2.1, rg_I h.2.2.2.2.2.2.2.2.2.2.2.2.1, rg_I h.2.2.2.2.2.2.2.2.2.2.2.2.2.1, rg_I h.2.2.2.2.2.2.2.2.2.2.2.2.2.2.1⟩

structure Prt where
  fees : Int
  int : Int
  prin : Int
  unap : Int
  recov : Int

instance : Inhabited Prt := ⟨⟨0, 0, 0, 0, 0⟩⟩
def encPrt (x : Prt) : AV := .st (.cons (I x.fees) (.cons (I x.int) (.cons (I x.prin) (.cons (I x.unap) (.cons (I x.recov) .nil)))))
theorem nf_encPrt (x : Prt) : nf (encPrt x) := ⟨trivial, trivial, trivial, trivial, trivial, trivial⟩
theorem dta_encPrt (x : Prt) : dta (encPrt x) := ⟨trivial, trivial, trivial, trivial, trivial, trivial⟩
structure rgPrt (x : Prt) : Prop where
  fees : in64 x.fees
  int : in64 x.int
  prin : in64 x.prin
  unap : in64 x.unap
  recov : in64 x.recov
theorem rg_Prt {x : Prt} (h : rng (encPrt x)) : rgPrt x := ⟨rg_I h.1, rg_I h.2.1, rg_I h.2.2.1, rg_I h.2.2.2.1, rg_I h.2.2.2.2.1⟩

structure Ntc where
  id : Int
  loan : Int
  kind : Int
  day : Int
  amount : Int
  acked : Bool

instance : Inhabited Ntc := ⟨⟨0, 0, 0, 0, 0, false⟩⟩
def encNtc (x : Ntc) : AV := .st (.cons (I x.id) (.cons (I x.loan) (.cons (I x.kind) (.cons (I x.day) (.cons (I x.amount) (.cons (B x.acked) .nil))))))
theorem nf_encNtc (x : Ntc) : nf (encNtc x) := ⟨trivial, trivial, trivial, trivial, trivial, trivial, trivial⟩
theorem dta_encNtc (x : Ntc) : dta (encNtc x) := ⟨trivial, trivial, trivial, trivial, trivial, trivial, trivial⟩
structure rgNtc (x : Ntc) : Prop where
  id : in64 x.id
  loan : in64 x.loan
  kind : in64 x.kind
  day : in64 x.day
  amount : in64 x.amount
  acked : True
theorem rg_Ntc {x : Ntc} (h : rng (encNtc x)) : rgNtc x := ⟨rg_I h.1, rg_I h.2.1, rg_I h.2.2.1, rg_I h.2.2.2.1, rg_I h.2.2.2.2.1, trivial⟩

structure Ety where
  debit : Int
  credit : Int
  amount : Int

instance : Inhabited Ety := ⟨⟨0, 0, 0⟩⟩
def encEty (x : Ety) : AV := .st (.cons (I x.debit) (.cons (I x.credit) (.cons (I x.amount) .nil)))
theorem nf_encEty (x : Ety) : nf (encEty x) := ⟨trivial, trivial, trivial, trivial⟩
theorem dta_encEty (x : Ety) : dta (encEty x) := ⟨trivial, trivial, trivial, trivial⟩
structure rgEty (x : Ety) : Prop where
  debit : in64 x.debit
  credit : in64 x.credit
  amount : in64 x.amount
theorem rg_Ety {x : Ety} (h : rng (encEty x)) : rgEty x := ⟨rg_I h.1, rg_I h.2.1, rg_I h.2.2.1⟩

structure Owd where
  fees : Int
  int : Int
  prin : Int

instance : Inhabited Owd := ⟨⟨0, 0, 0⟩⟩
def encOwd (x : Owd) : AV := .st (.cons (I x.fees) (.cons (I x.int) (.cons (I x.prin) .nil)))
theorem nf_encOwd (x : Owd) : nf (encOwd x) := ⟨trivial, trivial, trivial, trivial⟩
theorem dta_encOwd (x : Owd) : dta (encOwd x) := ⟨trivial, trivial, trivial, trivial⟩
structure rgOwd (x : Owd) : Prop where
  fees : in64 x.fees
  int : in64 x.int
  prin : in64 x.prin
theorem rg_Owd {x : Owd} (h : rng (encOwd x)) : rgOwd x := ⟨rg_I h.1, rg_I h.2.1, rg_I h.2.2.1⟩

structure Psn where
  applied : Int
  rest : Int

instance : Inhabited Psn := ⟨⟨0, 0⟩⟩
def encPsn (x : Psn) : AV := .st (.cons (I x.applied) (.cons (I x.rest) .nil))
theorem nf_encPsn (x : Psn) : nf (encPsn x) := ⟨trivial, trivial, trivial⟩
theorem dta_encPsn (x : Psn) : dta (encPsn x) := ⟨trivial, trivial, trivial⟩
structure rgPsn (x : Psn) : Prop where
  applied : in64 x.applied
  rest : in64 x.rest
theorem rg_Psn {x : Psn} (h : rng (encPsn x)) : rgPsn x := ⟨rg_I h.1, rg_I h.2.1⟩

structure Evt where
  kind : Int
  today : Int
  days : Int
  amount : Int

instance : Inhabited Evt := ⟨⟨0, 0, 0, 0⟩⟩
def encEvt (x : Evt) : AV := .st (.cons (I x.kind) (.cons (I x.today) (.cons (I x.days) (.cons (I x.amount) .nil))))
theorem nf_encEvt (x : Evt) : nf (encEvt x) := ⟨trivial, trivial, trivial, trivial, trivial⟩
theorem dta_encEvt (x : Evt) : dta (encEvt x) := ⟨trivial, trivial, trivial, trivial, trivial⟩
structure rgEvt (x : Evt) : Prop where
  kind : in64 x.kind
  today : in64 x.today
  days : in64 x.days
  amount : in64 x.amount
theorem rg_Evt {x : Evt} (h : rng (encEvt x)) : rgEvt x := ⟨rg_I h.1, rg_I h.2.1, rg_I h.2.2.1, rg_I h.2.2.2.1⟩

structure Dte where
  year : Int
  month : Int
  day : Int

instance : Inhabited Dte := ⟨⟨0, 0, 0⟩⟩
def encDte (x : Dte) : AV := .st (.cons (I x.year) (.cons (I x.month) (.cons (I x.day) .nil)))
theorem nf_encDte (x : Dte) : nf (encDte x) := ⟨trivial, trivial, trivial, trivial⟩
theorem dta_encDte (x : Dte) : dta (encDte x) := ⟨trivial, trivial, trivial, trivial⟩
structure rgDte (x : Dte) : Prop where
  year : in64 x.year
  month : in64 x.month
  day : in64 x.day
theorem rg_Dte {x : Dte} (h : rng (encDte x)) : rgDte x := ⟨rg_I h.1, rg_I h.2.1, rg_I h.2.2.1⟩

structure Ln where
  id : Int
  terms : Trm
  plan : List Ins
  book : Bk
  case : Cse
  day : Int
  carry : Int
  applied : Int
  last : Prt
  hasLast : Bool
  chargedOff : Int
  trace : Int

instance : Inhabited Ln := ⟨⟨0, default, [], bk0, default, 0, 0, 0, default, false, 0, 0⟩⟩
def encLn (x : Ln) : AV := .st (.cons (I x.id) (.cons (encTrm x.terms) (.cons (encL encIns 4 x.plan) (.cons (encBk x.book) (.cons (encCse x.case) (.cons (I x.day) (.cons (I x.carry) (.cons (I x.applied) (.cons (encPrt x.last) (.cons (B x.hasLast) (.cons (I x.chargedOff) (.cons (I x.trace) .nil))))))))))))
theorem nf_encLn (x : Ln) : nf (encLn x) := ⟨trivial, (nf_encTrm _), nf_encL (nf_encIns), (nf_encBk _), (nf_encCse _), trivial, trivial, trivial, (nf_encPrt _), trivial, trivial, trivial, trivial⟩
theorem dta_encLn (x : Ln) : dta (encLn x) := ⟨trivial, (dta_encTrm _), dta_encL (dta_encIns), (dta_encBk _), (dta_encCse _), trivial, trivial, trivial, (dta_encPrt _), trivial, trivial, trivial, trivial⟩
structure rgLn (x : Ln) : Prop where
  id : in64 x.id
  terms : rgTrm x.terms
  plan : ∀ y ∈ x.plan, rgIns y
  book : rgBk x.book
  case : rgCse x.case
  day : in64 x.day
  carry : in64 x.carry
  applied : in64 x.applied
  last : rgPrt x.last
  hasLast : True
  chargedOff : in64 x.chargedOff
  trace : in64 x.trace
theorem rg_Ln {x : Ln} (h : rng (encLn x)) : rgLn x := ⟨rg_I h.1, rg_Trm h.2.1, rg_L (fun _ => rg_Ins) h.2.2.1, rg_Bk h.2.2.2.1, rg_Cse h.2.2.2.2.1, rg_I h.2.2.2.2.2.1, rg_I h.2.2.2.2.2.2.1, rg_I h.2.2.2.2.2.2.2.1, rg_Prt h.2.2.2.2.2.2.2.2.1, trivial, rg_I h.2.2.2.2.2.2.2.2.2.2.1, rg_I h.2.2.2.2.2.2.2.2.2.2.2.1⟩

structure Pol where
  firstDay : Int
  grace : Int
  nonAccrual : Int
  chargeOff : Int
  lateRate : Int
  lateMin : Int
  lateMax : Int
  cycleCap : Int
  lifeCap : Int
  promises : Int
  promiseDays : Int
  restr : Int
  order : Int
  rule : Int
  retryBase : Int
  retryCap : Int
  snapEvery : Int
  holidays : List Int

instance : Inhabited Pol := ⟨⟨0, 0, 0, 0, 0, 0, 0, 0, 0, 0, 0, 0, 0, 0, 0, 0, 0, []⟩⟩
def encPol (x : Pol) : AV := .st (.cons (I x.firstDay) (.cons (I x.grace) (.cons (I x.nonAccrual) (.cons (I x.chargeOff) (.cons (I x.lateRate) (.cons (I x.lateMin) (.cons (I x.lateMax) (.cons (I x.cycleCap) (.cons (I x.lifeCap) (.cons (I x.promises) (.cons (I x.promiseDays) (.cons (I x.restr) (.cons (I x.order) (.cons (I x.rule) (.cons (I x.retryBase) (.cons (I x.retryCap) (.cons (I x.snapEvery) (.cons (encL I 1 x.holidays) .nil))))))))))))))))))
theorem nf_encPol (x : Pol) : nf (encPol x) := ⟨trivial, trivial, trivial, trivial, trivial, trivial, trivial, trivial, trivial, trivial, trivial, trivial, trivial, trivial, trivial, trivial, trivial, nf_encL (nf_I), trivial⟩
theorem dta_encPol (x : Pol) : dta (encPol x) := ⟨trivial, trivial, trivial, trivial, trivial, trivial, trivial, trivial, trivial, trivial, trivial, trivial, trivial, trivial, trivial, trivial, trivial, dta_encL (dta_I), trivial⟩
structure rgPol (x : Pol) : Prop where
  firstDay : in64 x.firstDay
  grace : in64 x.grace
  nonAccrual : in64 x.nonAccrual
  chargeOff : in64 x.chargeOff
  lateRate : in64 x.lateRate
  lateMin : in64 x.lateMin
  lateMax : in64 x.lateMax
  cycleCap : in64 x.cycleCap
  lifeCap : in64 x.lifeCap
  promises : in64 x.promises
  promiseDays : in64 x.promiseDays
  restr : in64 x.restr
  order : in64 x.order
  rule : in64 x.rule
  retryBase : in64 x.retryBase
  retryCap : in64 x.retryCap
  snapEvery : in64 x.snapEvery
  holidays : ∀ y ∈ x.holidays, in64 y
theorem rg_Pol {x : Pol} (h : rng (encPol x)) : rgPol x := ⟨rg_I h.1, rg_I h.2.1, rg_I h.2.2.1, rg_I h.2.2.2.1, rg_I h.2.2.2.2.1, rg_I h.2.2.2.2.2.1, rg_I h.2.2.2.2.2.2.1, rg_I h.2.2.2.2.2.2.2.1, rg_I h.2.2.2.2.2.2.2.2.1, rg_I h.2.2.2.2.2.2.2.2.2.1, rg_I h.2.2.2.2.2.2.2.2.2.2.1, rg_I h.2.2.2.2.2.2.2.2.2.2.2.1, rg_I h.2.2.2.2.2.2.2.2.2.2.2.2.1, rg_I h.2.2.2.2.2.2.2.2.2.2.2.2.2.1, rg_I h.2.2.2.2.2.2.2.2.2.2.2.2.2.2.1, rg_I h.2.2.2.2.2.2.2.2.2.2.2.2.2.2.2.1, rg_I h.2.2.2.2.2.2.2.2.2.2.2.2.2.2.2.2.1, rg_L (fun _ => rg_I) h.2.2.2.2.2.2.2.2.2.2.2.2.2.2.2.2.2.1⟩

structure Otc where
  loan : Ln
  parts : Prt
  notices : List Ntc
  err : Int

instance : Inhabited Otc := ⟨⟨default, default, [], 0⟩⟩
def encOtc (x : Otc) : AV := .st (.cons (encLn x.loan) (.cons (encPrt x.parts) (.cons (encL encNtc 6 x.notices) (.cons (I x.err) .nil))))
theorem nf_encOtc (x : Otc) : nf (encOtc x) := ⟨(nf_encLn _), (nf_encPrt _), nf_encL (nf_encNtc), trivial, trivial⟩
theorem dta_encOtc (x : Otc) : dta (encOtc x) := ⟨(dta_encLn _), (dta_encPrt _), dta_encL (dta_encNtc), trivial, trivial⟩
structure rgOtc (x : Otc) : Prop where
  loan : rgLn x.loan
  parts : rgPrt x.parts
  notices : ∀ y ∈ x.notices, rgNtc y
  err : in64 x.err
theorem rg_Otc {x : Otc} (h : rng (encOtc x)) : rgOtc x := ⟨rg_Ln h.1, rg_Prt h.2.1, rg_L (fun _ => rg_Ntc) h.2.2.1, rg_I h.2.2.2.1⟩

structure Stt where
  today : Int
  loans : List Ln
  notices : List Ntc

instance : Inhabited Stt := ⟨⟨0, [], []⟩⟩
def encStt (x : Stt) : AV := .st (.cons (I x.today) (.cons (encL encLn 46 x.loans) (.cons (encL encNtc 6 x.notices) .nil)))
theorem nf_encStt (x : Stt) : nf (encStt x) := ⟨trivial, nf_encL (nf_encLn), nf_encL (nf_encNtc), trivial⟩
theorem dta_encStt (x : Stt) : dta (encStt x) := ⟨trivial, dta_encL (dta_encLn), dta_encL (dta_encNtc), trivial⟩
structure rgStt (x : Stt) : Prop where
  today : in64 x.today
  loans : ∀ y ∈ x.loans, rgLn y
  notices : ∀ y ∈ x.notices, rgNtc y
theorem rg_Stt {x : Stt} (h : rng (encStt x)) : rgStt x := ⟨rg_I h.1, rg_L (fun _ => rg_Ln) h.2.1, rg_L (fun _ => rg_Ntc) h.2.2.1⟩

structure Opn where
  kind : Int
  loan : Int
  amount : Int
  rate : Int
  count : Int
  days : Int
  text : ByteArray

instance : Inhabited Opn := ⟨⟨0, 0, 0, 0, 0, 0, ⟨#[]⟩⟩⟩
def encOpn (x : Opn) : AV := .st (.cons (I x.kind) (.cons (I x.loan) (.cons (I x.amount) (.cons (I x.rate) (.cons (I x.count) (.cons (I x.days) (.cons (.val (.string x.text)) .nil)))))))
theorem nf_encOpn (x : Opn) : nf (encOpn x) := ⟨trivial, trivial, trivial, trivial, trivial, trivial, trivial, trivial⟩
theorem dta_encOpn (x : Opn) : dta (encOpn x) := ⟨trivial, trivial, trivial, trivial, trivial, trivial, trivial, trivial⟩
structure rgOpn (x : Opn) : Prop where
  kind : in64 x.kind
  loan : in64 x.loan
  amount : in64 x.amount
  rate : in64 x.rate
  count : in64 x.count
  days : in64 x.days
  text : x.text.size ≤ 9223372036854775807
theorem rg_Opn {x : Opn} (h : rng (encOpn x)) : rgOpn x := ⟨rg_I h.1, rg_I h.2.1, rg_I h.2.2.1, rg_I h.2.2.2.1, rg_I h.2.2.2.2.1, rg_I h.2.2.2.2.2.1, h.2.2.2.2.2.2.1⟩

structure Wrk where
  p : Pol
  l : Ln
  parts : Prt
  notices : List Ntc
  err : Int

instance : Inhabited Wrk := ⟨⟨default, default, default, [], 0⟩⟩
def encWrk (x : Wrk) : AV := .st (.cons (encPol x.p) (.cons (encLn x.l) (.cons (encPrt x.parts) (.cons (encL encNtc 6 x.notices) (.cons (I x.err) .nil)))))
theorem nf_encWrk (x : Wrk) : nf (encWrk x) := ⟨(nf_encPol _), (nf_encLn _), (nf_encPrt _), nf_encL (nf_encNtc), trivial, trivial⟩
theorem dta_encWrk (x : Wrk) : dta (encWrk x) := ⟨(dta_encPol _), (dta_encLn _), (dta_encPrt _), dta_encL (dta_encNtc), trivial, trivial⟩
structure rgWrk (x : Wrk) : Prop where
  p : rgPol x.p
  l : rgLn x.l
  parts : rgPrt x.parts
  notices : ∀ y ∈ x.notices, rgNtc y
  err : in64 x.err
theorem rg_Wrk {x : Wrk} (h : rng (encWrk x)) : rgWrk x := ⟨rg_Pol h.1, rg_Ln h.2.1, rg_Prt h.2.2.1, rg_L (fun _ => rg_Ntc) h.2.2.2.1, rg_I h.2.2.2.2.1⟩

abbrev encBs (xs : List Bk) : AV := encL encBk 12 xs
theorem nfL_I (e : Nat) (xs : List Int) : nf (encL I e xs) := nf_encL nf_I
theorem nfL_Bf (e : Nat) (xs : List (Nat → Int)) : nf (encL encBf e xs) := nf_encL nf_encBf
theorem nfL_Bk (e : Nat) (xs : List Bk) : nf (encL encBk e xs) := nf_encL nf_encBk
theorem nfL_Ins (e : Nat) (xs : List Ins) : nf (encL encIns e xs) := nf_encL nf_encIns
theorem nfL_Ntc (e : Nat) (xs : List Ntc) : nf (encL encNtc e xs) := nf_encL nf_encNtc
theorem nfL_Ety (e : Nat) (xs : List Ety) : nf (encL encEty e xs) := nf_encL nf_encEty
theorem nfL_Ln (e : Nat) (xs : List Ln) : nf (encL encLn e xs) := nf_encL nf_encLn
theorem nfL_Opn (e : Nat) (xs : List Opn) : nf (encL encOpn e xs) := nf_encL nf_encOpn

theorem br_dec {p : Prop} [Decidable p] {A C : Prop} (h : p → A) (h' : ¬ p → C) : br (decide p) A C := by
  by_cases hp : p
  · rw [decide_eq_true hp]; exact h hp
  · rw [decide_eq_false hp]; exact h' hp

theorem br_dec2 {p : Prop} [Decidable p] {A C : Prop} (h : p → decide p = true → A) (h' : ¬ p → decide p = false → C) : br (decide p) A C := by
  by_cases hp : p
  · have := h hp (decide_eq_true hp); rw [decide_eq_true hp]; exact this
  · have := h' hp (decide_eq_false hp); rw [decide_eq_false hp]; exact this

theorem brB_dec {p : Prop} [Decidable p] {K : AV → Prop} (h : p → K (.val (.bool true))) (h' : ¬ p → K (.val (.bool false))) : brB (decide p) K := by
  by_cases hp : p
  · rw [decide_eq_true hp]; exact h hp
  · rw [decide_eq_false hp]; exact h' hp

theorem brB_true {b : Bool} {K : AV → Prop} (hb : b = true) (h : K (.val (.bool true))) : brB b K := by subst hb; exact h
theorem brB_false {b : Bool} {K : AV → Prop} (hb : b = false) (h : K (.val (.bool false))) : brB b K := by subst hb; exact h
theorem brB_any {b : Bool} {K : AV → Prop} (h : b = true → K (.val (.bool true))) (h' : b = false → K (.val (.bool false))) : brB b K := by cases b <;> first | exact h rfl | exact h' rfl

theorem br_keep {b : Bool} {A C : Prop} (h : br b A C) : br b A C := h

abbrev tup2 (a b : AV) : AV := .tup (.cons a (.cons b .nil))
abbrev tup3 (a b c : AV) : AV := .tup (.cons a (.cons b (.cons c .nil)))
abbrev tup4 (a b c d : AV) : AV := .tup (.cons a (.cons b (.cons c (.cons d .nil))))

abbrev QI : AV → Prop := fun r => ∃ n, r = I n
abbrev QU : AV → Prop := fun r => ∃ n, r = U n
abbrev QB : AV → Prop := fun r => ∃ b, r = B b
abbrev QII : AV → Prop := fun r => ∃ a b, r = tup2 (I a) (I b)
abbrev QIB : AV → Prop := fun r => ∃ a b, r = tup2 (I a) (B b)
abbrev QIIB : AV → Prop := fun r => ∃ a b c, r = tup3 (I a) (I b) (B c)

/-- A nil slice reads as a list of no elements. -/
theorem leA_nilL {α : Type} [Inhabited α] {enc : α → AV} {e : Nat} : LeA (.val (.slice none 0 0)) (encL enc e ([] : List α)) :=
  leA_one rfl rfl fun g w => ⟨_, _, rfl, rfl, fun u hu => by subst hu; exact ⟨none, 0, rfl, Nat.le_refl _, trivial, ⟨rfl, rfl⟩⟩⟩

end Ar
namespace Ar
open Go
set_option linter.unusedVariables false
set_option autoImplicit false

theorem le_Ins (due : Int) (int : Int) (prin : Int) (marked : Bool) : Le (.st (.cons (I due) (.cons (I int) (.cons (I prin) (.cons (B marked) .nil))))) (encIns ⟨due, int, prin, marked⟩) := Le.refl _
theorem leA_Ins (due : Int) (int : Int) (prin : Int) (marked : Bool) : LeA (.st (.cons (I due) (.cons (I int) (.cons (I prin) (.cons (B marked) .nil))))) (encIns ⟨due, int, prin, marked⟩) := LeA.refl _
theorem mk_Ins (due : Int) (int : Int) (prin : Int) (marked : Bool) : (.st (.cons (I due) (.cons (I int) (.cons (I prin) (.cons (B marked) .nil))))) = encIns ⟨due, int, prin, marked⟩ := rfl

theorem le_Trm (kind : Int) (principal : Int) (rate : Int) (count : Int) (start : Int) (rule : Int) : Le (.st (.cons (I kind) (.cons (I principal) (.cons (I rate) (.cons (I count) (.cons (I start) (.cons (I rule) .nil))))))) (encTrm ⟨kind, principal, rate, count, start, rule⟩) := Le.refl _
theorem leA_Trm (kind : Int) (principal : Int) (rate : Int) (count : Int) (start : Int) (rule : Int) : LeA (.st (.cons (I kind) (.cons (I principal) (.cons (I rate) (.cons (I count) (.cons (I start) (.cons (I rule) .nil))))))) (encTrm ⟨kind, principal, rate, count, start, rule⟩) := LeA.refl _
theorem mk_Trm (kind : Int) (principal : Int) (rate : Int) (count : Int) (start : Int) (rule : Int) : (.st (.cons (I kind) (.cons (I principal) (.cons (I rate) (.cons (I count) (.cons (I start) (.cons (I rule) .nil))))))) = encTrm ⟨kind, principal, rate, count, start, rule⟩ := rfl

theorem le_Cse (status : Int) (susp : Bool) (cycles : Int) (since : Int) (deadline : Int) (promises : Int) (promiseDue : Int) (promiseAmount : Int) (promiseGot : Int) (kept : Int) (broken : Int) (cures : Int) (restr : Int) (cycleFees : Int) (lifeFees : Int) : Le (.st (.cons (I status) (.cons (B susp) (.cons (I cycles) (.cons (I since) (.cons (I deadline) (.cons (I promises) (.cons (I promiseDue) (.cons (I promiseAmount) (.cons (I promiseGot) (.cons (I kept) (.cons (I broken) (.cons (I cures) (.cons (I restr) (.cons (I cycleFees) (.cons (I lifeFees) .nil)))))))))))))))) (encCse ⟨status, susp, cycles, since, deadline, promises, promiseDue, promiseAmount, promiseGot, kept, broken, cures, restr, cycleFees, lifeFees⟩) := Le.refl _
theorem leA_Cse (status : Int) (susp : Bool) (cycles : Int) (since : Int) (deadline : Int) (promises : Int) (promiseDue : Int) (promiseAmount : Int) (promiseGot : Int) (kept : Int) (broken : Int) (cures : Int) (restr : Int) (cycleFees : Int) (lifeFees : Int) : LeA (.st (.cons (I status) (.cons (B susp) (.cons (I cycles) (.cons (I since) (.cons (I deadline) (.cons (I promises) (.cons (I promiseDue) (.cons (I promiseAmount) (.cons (I promiseGot) (.cons (I kept) (.cons (I broken) (.cons (I cures) (.cons (I restr) (.cons (I cycleFees) (.cons (I lifeFees) .nil)))))))))))))))) (encCse ⟨status, susp, cycles, since, deadline, promises, promiseDue, promiseAmount, promiseGot, kept, broken, cures, restr, cycleFees, lifeFees⟩) := LeA.refl _
theorem mk_Cse (status : Int) (susp : Bool) (cycles : Int) (since : Int) (deadline : Int) (promises : Int) (promiseDue : Int) (promiseAmount : Int) (promiseGot : Int) (kept : Int) (broken : Int) (cures : Int) (restr : Int) (cycleFees : Int) (lifeFees : Int) : (.st (.cons (I status) (.cons (B susp) (.cons (I cycles) (.cons (I since) (.cons (I deadline) (.cons (I promises) (.cons (I promiseDue) (.cons (I promiseAmount) (.cons (I promiseGot) (.cons (I kept) (.cons (I broken) (.cons (I cures) (.cons (I restr) (.cons (I cycleFees) (.cons (I lifeFees) .nil)))))))))))))))) = encCse ⟨status, susp, cycles, since, deadline, promises, promiseDue, promiseAmount, promiseGot, kept, broken, cures, restr, cycleFees, lifeFees⟩ := rfl

theorem le_Prt (fees : Int) (int : Int) (prin : Int) (unap : Int) (recov : Int) : Le (.st (.cons (I fees) (.cons (I int) (.cons (I prin) (.cons (I unap) (.cons (I recov) .nil)))))) (encPrt ⟨fees, int, prin, unap, recov⟩) := Le.refl _
theorem leA_Prt (fees : Int) (int : Int) (prin : Int) (unap : Int) (recov : Int) : LeA (.st (.cons (I fees) (.cons (I int) (.cons (I prin) (.cons (I unap) (.cons (I recov) .nil)))))) (encPrt ⟨fees, int, prin, unap, recov⟩) := LeA.refl _
theorem mk_Prt (fees : Int) (int : Int) (prin : Int) (unap : Int) (recov : Int) : (.st (.cons (I fees) (.cons (I int) (.cons (I prin) (.cons (I unap) (.cons (I recov) .nil)))))) = encPrt ⟨fees, int, prin, unap, recov⟩ := rfl

theorem le_Ntc (id : Int) (loan : Int) (kind : Int) (day : Int) (amount : Int) (acked : Bool) : Le (.st (.cons (I id) (.cons (I loan) (.cons (I kind) (.cons (I day) (.cons (I amount) (.cons (B acked) .nil))))))) (encNtc ⟨id, loan, kind, day, amount, acked⟩) := Le.refl _
theorem leA_Ntc (id : Int) (loan : Int) (kind : Int) (day : Int) (amount : Int) (acked : Bool) : LeA (.st (.cons (I id) (.cons (I loan) (.cons (I kind) (.cons (I day) (.cons (I amount) (.cons (B acked) .nil))))))) (encNtc ⟨id, loan, kind, day, amount, acked⟩) := LeA.refl _
theorem mk_Ntc (id : Int) (loan : Int) (kind : Int) (day : Int) (amount : Int) (acked : Bool) : (.st (.cons (I id) (.cons (I loan) (.cons (I kind) (.cons (I day) (.cons (I amount) (.cons (B acked) .nil))))))) = encNtc ⟨id, loan, kind, day, amount, acked⟩ := rfl

theorem le_Ety (debit : Int) (credit : Int) (amount : Int) : Le (.st (.cons (I debit) (.cons (I credit) (.cons (I amount) .nil)))) (encEty ⟨debit, credit, amount⟩) := Le.refl _
theorem leA_Ety (debit : Int) (credit : Int) (amount : Int) : LeA (.st (.cons (I debit) (.cons (I credit) (.cons (I amount) .nil)))) (encEty ⟨debit, credit, amount⟩) := LeA.refl _
theorem mk_Ety (debit : Int) (credit : Int) (amount : Int) : (.st (.cons (I debit) (.cons (I credit) (.cons (I amount) .nil)))) = encEty ⟨debit, credit, amount⟩ := rfl

theorem le_Owd (fees : Int) (int : Int) (prin : Int) : Le (.st (.cons (I fees) (.cons (I int) (.cons (I prin) .nil)))) (encOwd ⟨fees, int, prin⟩) := Le.refl _
theorem leA_Owd (fees : Int) (int : Int) (prin : Int) : LeA (.st (.cons (I fees) (.cons (I int) (.cons (I prin) .nil)))) (encOwd ⟨fees, int, prin⟩) := LeA.refl _
theorem mk_Owd (fees : Int) (int : Int) (prin : Int) : (.st (.cons (I fees) (.cons (I int) (.cons (I prin) .nil)))) = encOwd ⟨fees, int, prin⟩ := rfl

theorem le_Psn (applied : Int) (rest : Int) : Le (.st (.cons (I applied) (.cons (I rest) .nil))) (encPsn ⟨applied, rest⟩) := Le.refl _
theorem leA_Psn (applied : Int) (rest : Int) : LeA (.st (.cons (I applied) (.cons (I rest) .nil))) (encPsn ⟨applied, rest⟩) := LeA.refl _
theorem mk_Psn (applied : Int) (rest : Int) : (.st (.cons (I applied) (.cons (I rest) .nil))) = encPsn ⟨applied, rest⟩ := rfl

theorem le_Evt (kind : Int) (today : Int) (days : Int) (amount : Int) : Le (.st (.cons (I kind) (.cons (I today) (.cons (I days) (.cons (I amount) .nil))))) (encEvt ⟨kind, today, days, amount⟩) := Le.refl _
theorem leA_Evt (kind : Int) (today : Int) (days : Int) (amount : Int) : LeA (.st (.cons (I kind) (.cons (I today) (.cons (I days) (.cons (I amount) .nil))))) (encEvt ⟨kind, today, days, amount⟩) := LeA.refl _
theorem mk_Evt (kind : Int) (today : Int) (days : Int) (amount : Int) : (.st (.cons (I kind) (.cons (I today) (.cons (I days) (.cons (I amount) .nil))))) = encEvt ⟨kind, today, days, amount⟩ := rfl

theorem le_Dte (year : Int) (month : Int) (day : Int) : Le (.st (.cons (I year) (.cons (I month) (.cons (I day) .nil)))) (encDte ⟨year, month, day⟩) := Le.refl _
theorem leA_Dte (year : Int) (month : Int) (day : Int) : LeA (.st (.cons (I year) (.cons (I month) (.cons (I day) .nil)))) (encDte ⟨year, month, day⟩) := LeA.refl _
theorem mk_Dte (year : Int) (month : Int) (day : Int) : (.st (.cons (I year) (.cons (I month) (.cons (I day) .nil)))) = encDte ⟨year, month, day⟩ := rfl

theorem le_Ln (id : Int) (terms_kind : Int) (terms_principal : Int) (terms_rate : Int) (terms_count : Int) (terms_start : Int) (terms_rule : Int) (plan : List Ins) (book : Bk) (case_status : Int) (case_susp : Bool) (case_cycles : Int) (case_since : Int) (case_deadline : Int) (case_promises : Int) (case_promiseDue : Int) (case_promiseAmount : Int) (case_promiseGot : Int) (case_kept : Int) (case_broken : Int) (case_cures : Int) (case_restr : Int) (case_cycleFees : Int) (case_lifeFees : Int) (day : Int) (carry : Int) (applied : Int) (last_fees : Int) (last_int : Int) (last_prin : Int) (last_unap : Int) (last_recov : Int) (hasLast : Bool) (chargedOff : Int) (trace : Int) : Le (.st (.cons (I id) (.cons (.st (.cons (I terms_kind) (.cons (I terms_principal) (.cons (I terms_rate) (.cons (I terms_count) (.cons (I terms_start) (.cons (I terms_rule) .nil))))))) (.cons (encL encIns 4 plan) (.cons (.st (.cons (.arr 12 1 fun i => I (book.f i)) .nil)) (.cons (.st (.cons (I case_status) (.cons (B case_susp) (.cons (I case_cycles) (.cons (I case_since) (.cons (I case_deadline) (.cons (I case_promises) (.cons (I case_promiseDue) (.cons (I case_promiseAmount) (.cons (I case_promiseGot) (.cons (I case_kept) (.cons (I case_broken) (.cons (I case_cures) (.cons (I case_restr) (.cons (I case_cycleFees) (.cons (I case_lifeFees) .nil)))))))))))))))) (.cons (I day) (.cons (I carry) (.cons (I applied) (.cons (.st (.cons (I last_fees) (.cons (I last_int) (.cons (I last_prin) (.cons (I last_unap) (.cons (I last_recov) .nil)))))) (.cons (B hasLast) (.cons (I chargedOff) (.cons (I trace) .nil))))))))))))) (encLn ⟨id, ⟨terms_kind, terms_principal, terms_rate, terms_count, terms_start, terms_rule⟩, plan, book, ⟨case_status, case_susp, case_cycles, case_since, case_deadline, case_promises, case_promiseDue, case_promiseAmount, case_promiseGot, case_kept, case_broken, case_cures, case_restr, case_cycleFees, case_lifeFees⟩, day, carry, applied, ⟨last_fees, last_int, last_prin, last_unap, last_recov⟩, hasLast, chargedOff, trace⟩) := Le.refl _
theorem leA_Ln (id : Int) (terms_kind : Int) (terms_principal : Int) (terms_rate : Int) (terms_count : Int) (terms_start : Int) (terms_rule : Int) (plan : List Ins) (book : Bk) (case_status : Int) (case_susp : Bool) (case_cycles : Int) (case_since : Int) (case_deadline : Int) (case_promises : Int) (case_promiseDue : Int) (case_promiseAmount : Int) (case_promiseGot : Int) (case_kept : Int) (case_broken : Int) (case_cures : Int) (case_restr : Int) (case_cycleFees : Int) (case_lifeFees : Int) (day : Int) (carry : Int) (applied : Int) (last_fees : Int) (last_int : Int) (last_prin : Int) (last_unap : Int) (last_recov : Int) (hasLast : Bool) (chargedOff : Int) (trace : Int) : LeA (.st (.cons (I id) (.cons (.st (.cons (I terms_kind) (.cons (I terms_principal) (.cons (I terms_rate) (.cons (I terms_count) (.cons (I terms_start) (.cons (I terms_rule) .nil))))))) (.cons (encL encIns 4 plan) (.cons (.st (.cons (.arr 12 1 fun i => I (book.f i)) .nil)) (.cons (.st (.cons (I case_status) (.cons (B case_susp) (.cons (I case_cycles) (.cons (I case_since) (.cons (I case_deadline) (.cons (I case_promises) (.cons (I case_promiseDue) (.cons (I case_promiseAmount) (.cons (I case_promiseGot) (.cons (I case_kept) (.cons (I case_broken) (.cons (I case_cures) (.cons (I case_restr) (.cons (I case_cycleFees) (.cons (I case_lifeFees) .nil)))))))))))))))) (.cons (I day) (.cons (I carry) (.cons (I applied) (.cons (.st (.cons (I last_fees) (.cons (I last_int) (.cons (I last_prin) (.cons (I last_unap) (.cons (I last_recov) .nil)))))) (.cons (B hasLast) (.cons (I chargedOff) (.cons (I trace) .nil))))))))))))) (encLn ⟨id, ⟨terms_kind, terms_principal, terms_rate, terms_count, terms_start, terms_rule⟩, plan, book, ⟨case_status, case_susp, case_cycles, case_since, case_deadline, case_promises, case_promiseDue, case_promiseAmount, case_promiseGot, case_kept, case_broken, case_cures, case_restr, case_cycleFees, case_lifeFees⟩, day, carry, applied, ⟨last_fees, last_int, last_prin, last_unap, last_recov⟩, hasLast, chargedOff, trace⟩) := LeA.refl _
theorem mk_Ln (id : Int) (terms_kind : Int) (terms_principal : Int) (terms_rate : Int) (terms_count : Int) (terms_start : Int) (terms_rule : Int) (plan : List Ins) (book : Bk) (case_status : Int) (case_susp : Bool) (case_cycles : Int) (case_since : Int) (case_deadline : Int) (case_promises : Int) (case_promiseDue : Int) (case_promiseAmount : Int) (case_promiseGot : Int) (case_kept : Int) (case_broken : Int) (case_cures : Int) (case_restr : Int) (case_cycleFees : Int) (case_lifeFees : Int) (day : Int) (carry : Int) (applied : Int) (last_fees : Int) (last_int : Int) (last_prin : Int) (last_unap : Int) (last_recov : Int) (hasLast : Bool) (chargedOff : Int) (trace : Int) : (.st (.cons (I id) (.cons (.st (.cons (I terms_kind) (.cons (I terms_principal) (.cons (I terms_rate) (.cons (I terms_count) (.cons (I terms_start) (.cons (I terms_rule) .nil))))))) (.cons (encL encIns 4 plan) (.cons (.st (.cons (.arr 12 1 fun i => I (book.f i)) .nil)) (.cons (.st (.cons (I case_status) (.cons (B case_susp) (.cons (I case_cycles) (.cons (I case_since) (.cons (I case_deadline) (.cons (I case_promises) (.cons (I case_promiseDue) (.cons (I case_promiseAmount) (.cons (I case_promiseGot) (.cons (I case_kept) (.cons (I case_broken) (.cons (I case_cures) (.cons (I case_restr) (.cons (I case_cycleFees) (.cons (I case_lifeFees) .nil)))))))))))))))) (.cons (I day) (.cons (I carry) (.cons (I applied) (.cons (.st (.cons (I last_fees) (.cons (I last_int) (.cons (I last_prin) (.cons (I last_unap) (.cons (I last_recov) .nil)))))) (.cons (B hasLast) (.cons (I chargedOff) (.cons (I trace) .nil))))))))))))) = encLn ⟨id, ⟨terms_kind, terms_principal, terms_rate, terms_count, terms_start, terms_rule⟩, plan, book, ⟨case_status, case_susp, case_cycles, case_since, case_deadline, case_promises, case_promiseDue, case_promiseAmount, case_promiseGot, case_kept, case_broken, case_cures, case_restr, case_cycleFees, case_lifeFees⟩, day, carry, applied, ⟨last_fees, last_int, last_prin, last_unap, last_recov⟩, hasLast, chargedOff, trace⟩ := rfl

theorem le_Pol (firstDay : Int) (grace : Int) (nonAccrual : Int) (chargeOff : Int) (lateRate : Int) (lateMin : Int) (lateMax : Int) (cycleCap : Int) (lifeCap : Int) (promises : Int) (promiseDays : Int) (restr : Int) (order : Int) (rule : Int) (retryBase : Int) (retryCap : Int) (snapEvery : Int) (holidays : List Int) : Le (.st (.cons (I firstDay) (.cons (I grace) (.cons (I nonAccrual) (.cons (I chargeOff) (.cons (I lateRate) (.cons (I lateMin) (.cons (I lateMax) (.cons (I cycleCap) (.cons (I lifeCap) (.cons (I promises) (.cons (I promiseDays) (.cons (I restr) (.cons (I order) (.cons (I rule) (.cons (I retryBase) (.cons (I retryCap) (.cons (I snapEvery) (.cons (encL I 1 holidays) .nil))))))))))))))))))) (encPol ⟨firstDay, grace, nonAccrual, chargeOff, lateRate, lateMin, lateMax, cycleCap, lifeCap, promises, promiseDays, restr, order, rule, retryBase, retryCap, snapEvery, holidays⟩) := Le.refl _
theorem leA_Pol (firstDay : Int) (grace : Int) (nonAccrual : Int) (chargeOff : Int) (lateRate : Int) (lateMin : Int) (lateMax : Int) (cycleCap : Int) (lifeCap : Int) (promises : Int) (promiseDays : Int) (restr : Int) (order : Int) (rule : Int) (retryBase : Int) (retryCap : Int) (snapEvery : Int) (holidays : List Int) : LeA (.st (.cons (I firstDay) (.cons (I grace) (.cons (I nonAccrual) (.cons (I chargeOff) (.cons (I lateRate) (.cons (I lateMin) (.cons (I lateMax) (.cons (I cycleCap) (.cons (I lifeCap) (.cons (I promises) (.cons (I promiseDays) (.cons (I restr) (.cons (I order) (.cons (I rule) (.cons (I retryBase) (.cons (I retryCap) (.cons (I snapEvery) (.cons (encL I 1 holidays) .nil))))))))))))))))))) (encPol ⟨firstDay, grace, nonAccrual, chargeOff, lateRate, lateMin, lateMax, cycleCap, lifeCap, promises, promiseDays, restr, order, rule, retryBase, retryCap, snapEvery, holidays⟩) := LeA.refl _
theorem mk_Pol (firstDay : Int) (grace : Int) (nonAccrual : Int) (chargeOff : Int) (lateRate : Int) (lateMin : Int) (lateMax : Int) (cycleCap : Int) (lifeCap : Int) (promises : Int) (promiseDays : Int) (restr : Int) (order : Int) (rule : Int) (retryBase : Int) (retryCap : Int) (snapEvery : Int) (holidays : List Int) : (.st (.cons (I firstDay) (.cons (I grace) (.cons (I nonAccrual) (.cons (I chargeOff) (.cons (I lateRate) (.cons (I lateMin) (.cons (I lateMax) (.cons (I cycleCap) (.cons (I lifeCap) (.cons (I promises) (.cons (I promiseDays) (.cons (I restr) (.cons (I order) (.cons (I rule) (.cons (I retryBase) (.cons (I retryCap) (.cons (I snapEvery) (.cons (encL I 1 holidays) .nil))))))))))))))))))) = encPol ⟨firstDay, grace, nonAccrual, chargeOff, lateRate, lateMin, lateMax, cycleCap, lifeCap, promises, promiseDays, restr, order, rule, retryBase, retryCap, snapEvery, holidays⟩ := rfl

theorem le_Otc (loan_id : Int) (loan_terms_kind : Int) (loan_terms_principal : Int) (loan_terms_rate : Int) (loan_terms_count : Int) (loan_terms_start : Int) (loan_terms_rule : Int) (loan_plan : List Ins) (loan_book : Bk) (loan_case_status : Int) (loan_case_susp : Bool) (loan_case_cycles : Int) (loan_case_since : Int) (loan_case_deadline : Int) (loan_case_promises : Int) (loan_case_promiseDue : Int) (loan_case_promiseAmount : Int) (loan_case_promiseGot : Int) (loan_case_kept : Int) (loan_case_broken : Int) (loan_case_cures : Int) (loan_case_restr : Int) (loan_case_cycleFees : Int) (loan_case_lifeFees : Int) (loan_day : Int) (loan_carry : Int) (loan_applied : Int) (loan_last_fees : Int) (loan_last_int : Int) (loan_last_prin : Int) (loan_last_unap : Int) (loan_last_recov : Int) (loan_hasLast : Bool) (loan_chargedOff : Int) (loan_trace : Int) (parts_fees : Int) (parts_int : Int) (parts_prin : Int) (parts_unap : Int) (parts_recov : Int) (notices : List Ntc) (err : Int) : Le (.st (.cons (.st (.cons (I loan_id) (.cons (.st (.cons (I loan_terms_kind) (.cons (I loan_terms_principal) (.cons (I loan_terms_rate) (.cons (I loan_terms_count) (.cons (I loan_terms_start) (.cons (I loan_terms_rule) .nil))))))) (.cons (encL encIns 4 loan_plan) (.cons (.st (.cons (.arr 12 1 fun i => I (loan_book.f i)) .nil)) (.cons (.st (.cons (I loan_case_status) (.cons (B loan_case_susp) (.cons (I loan_case_cycles) (.cons (I loan_case_since) (.cons (I loan_case_deadline) (.cons (I loan_case_promises) (.cons (I loan_case_promiseDue) (.cons (I loan_case_promiseAmount) (.cons (I loan_case_promiseGot) (.cons (I loan_case_kept) (.cons (I loan_case_broken) (.cons (I loan_case_cures) (.cons (I loan_case_restr) (.cons (I loan_case_cycleFees) (.cons (I loan_case_lifeFees) .nil)))))))))))))))) (.cons (I loan_day) (.cons (I loan_carry) (.cons (I loan_applied) (.cons (.st (.cons (I loan_last_fees) (.cons (I loan_last_int) (.cons (I loan_last_prin) (.cons (I loan_last_unap) (.cons (I loan_last_recov) .nil)))))) (.cons (B loan_hasLast) (.cons (I loan_chargedOff) (.cons (I loan_trace) .nil))))))))))))) (.cons (.st (.cons (I parts_fees) (.cons (I parts_int) (.cons (I parts_prin) (.cons (I parts_unap) (.cons (I parts_recov) .nil)))))) (.cons (encL encNtc 6 notices) (.cons (I err) .nil))))) (encOtc ⟨⟨loan_id, ⟨loan_terms_kind, loan_terms_principal, loan_terms_rate, loan_terms_count, loan_terms_start, loan_terms_rule⟩, loan_plan, loan_book, ⟨loan_case_status, loan_case_susp, loan_case_cycles, loan_case_since, loan_case_deadline, loan_case_promises, loan_case_promiseDue, loan_case_promiseAmount, loan_case_promiseGot, loan_case_kept, loan_case_broken, loan_case_cures, loan_case_restr, loan_case_cycleFees, loan_case_lifeFees⟩, loan_day, loan_carry, loan_applied, ⟨loan_last_fees, loan_last_int, loan_last_prin, loan_last_unap, loan_last_recov⟩, loan_hasLast, loan_chargedOff, loan_trace⟩, ⟨parts_fees, parts_int, parts_prin, parts_unap, parts_recov⟩, notices, err⟩) := Le.refl _
theorem leA_Otc (loan_id : Int) (loan_terms_kind : Int) (loan_terms_principal : Int) (loan_terms_rate : Int) (loan_terms_count : Int) (loan_terms_start : Int) (loan_terms_rule : Int) (loan_plan : List Ins) (loan_book : Bk) (loan_case_status : Int) (loan_case_susp : Bool) (loan_case_cycles : Int) (loan_case_since : Int) (loan_case_deadline : Int) (loan_case_promises : Int) (loan_case_promiseDue : Int) (loan_case_promiseAmount : Int) (loan_case_promiseGot : Int) (loan_case_kept : Int) (loan_case_broken : Int) (loan_case_cures : Int) (loan_case_restr : Int) (loan_case_cycleFees : Int) (loan_case_lifeFees : Int) (loan_day : Int) (loan_carry : Int) (loan_applied : Int) (loan_last_fees : Int) (loan_last_int : Int) (loan_last_prin : Int) (loan_last_unap : Int) (loan_last_recov : Int) (loan_hasLast : Bool) (loan_chargedOff : Int) (loan_trace : Int) (parts_fees : Int) (parts_int : Int) (parts_prin : Int) (parts_unap : Int) (parts_recov : Int) (notices : List Ntc) (err : Int) : LeA (.st (.cons (.st (.cons (I loan_id) (.cons (.st (.cons (I loan_terms_kind) (.cons (I loan_terms_principal) (.cons (I loan_terms_rate) (.cons (I loan_terms_count) (.cons (I loan_terms_start) (.cons (I loan_terms_rule) .nil))))))) (.cons (encL encIns 4 loan_plan) (.cons (.st (.cons (.arr 12 1 fun i => I (loan_book.f i)) .nil)) (.cons (.st (.cons (I loan_case_status) (.cons (B loan_case_susp) (.cons (I loan_case_cycles) (.cons (I loan_case_since) (.cons (I loan_case_deadline) (.cons (I loan_case_promises) (.cons (I loan_case_promiseDue) (.cons (I loan_case_promiseAmount) (.cons (I loan_case_promiseGot) (.cons (I loan_case_kept) (.cons (I loan_case_broken) (.cons (I loan_case_cures) (.cons (I loan_case_restr) (.cons (I loan_case_cycleFees) (.cons (I loan_case_lifeFees) .nil)))))))))))))))) (.cons (I loan_day) (.cons (I loan_carry) (.cons (I loan_applied) (.cons (.st (.cons (I loan_last_fees) (.cons (I loan_last_int) (.cons (I loan_last_prin) (.cons (I loan_last_unap) (.cons (I loan_last_recov) .nil)))))) (.cons (B loan_hasLast) (.cons (I loan_chargedOff) (.cons (I loan_trace) .nil))))))))))))) (.cons (.st (.cons (I parts_fees) (.cons (I parts_int) (.cons (I parts_prin) (.cons (I parts_unap) (.cons (I parts_recov) .nil)))))) (.cons (encL encNtc 6 notices) (.cons (I err) .nil))))) (encOtc ⟨⟨loan_id, ⟨loan_terms_kind, loan_terms_principal, loan_terms_rate, loan_terms_count, loan_terms_start, loan_terms_rule⟩, loan_plan, loan_book, ⟨loan_case_status, loan_case_susp, loan_case_cycles, loan_case_since, loan_case_deadline, loan_case_promises, loan_case_promiseDue, loan_case_promiseAmount, loan_case_promiseGot, loan_case_kept, loan_case_broken, loan_case_cures, loan_case_restr, loan_case_cycleFees, loan_case_lifeFees⟩, loan_day, loan_carry, loan_applied, ⟨loan_last_fees, loan_last_int, loan_last_prin, loan_last_unap, loan_last_recov⟩, loan_hasLast, loan_chargedOff, loan_trace⟩, ⟨parts_fees, parts_int, parts_prin, parts_unap, parts_recov⟩, notices, err⟩) := LeA.refl _
theorem mk_Otc (loan_id : Int) (loan_terms_kind : Int) (loan_terms_principal : Int) (loan_terms_rate : Int) (loan_terms_count : Int) (loan_terms_start : Int) (loan_terms_rule : Int) (loan_plan : List Ins) (loan_book : Bk) (loan_case_status : Int) (loan_case_susp : Bool) (loan_case_cycles : Int) (loan_case_since : Int) (loan_case_deadline : Int) (loan_case_promises : Int) (loan_case_promiseDue : Int) (loan_case_promiseAmount : Int) (loan_case_promiseGot : Int) (loan_case_kept : Int) (loan_case_broken : Int) (loan_case_cures : Int) (loan_case_restr : Int) (loan_case_cycleFees : Int) (loan_case_lifeFees : Int) (loan_day : Int) (loan_carry : Int) (loan_applied : Int) (loan_last_fees : Int) (loan_last_int : Int) (loan_last_prin : Int) (loan_last_unap : Int) (loan_last_recov : Int) (loan_hasLast : Bool) (loan_chargedOff : Int) (loan_trace : Int) (parts_fees : Int) (parts_int : Int) (parts_prin : Int) (parts_unap : Int) (parts_recov : Int) (notices : List Ntc) (err : Int) : (.st (.cons (.st (.cons (I loan_id) (.cons (.st (.cons (I loan_terms_kind) (.cons (I loan_terms_principal) (.cons (I loan_terms_rate) (.cons (I loan_terms_count) (.cons (I loan_terms_start) (.cons (I loan_terms_rule) .nil))))))) (.cons (encL encIns 4 loan_plan) (.cons (.st (.cons (.arr 12 1 fun i => I (loan_book.f i)) .nil)) (.cons (.st (.cons (I loan_case_status) (.cons (B loan_case_susp) (.cons (I loan_case_cycles) (.cons (I loan_case_since) (.cons (I loan_case_deadline) (.cons (I loan_case_promises) (.cons (I loan_case_promiseDue) (.cons (I loan_case_promiseAmount) (.cons (I loan_case_promiseGot) (.cons (I loan_case_kept) (.cons (I loan_case_broken) (.cons (I loan_case_cures) (.cons (I loan_case_restr) (.cons (I loan_case_cycleFees) (.cons (I loan_case_lifeFees) .nil)))))))))))))))) (.cons (I loan_day) (.cons (I loan_carry) (.cons (I loan_applied) (.cons (.st (.cons (I loan_last_fees) (.cons (I loan_last_int) (.cons (I loan_last_prin) (.cons (I loan_last_unap) (.cons (I loan_last_recov) .nil)))))) (.cons (B loan_hasLast) (.cons (I loan_chargedOff) (.cons (I loan_trace) .nil))))))))))))) (.cons (.st (.cons (I parts_fees) (.cons (I parts_int) (.cons (I parts_prin) (.cons (I parts_unap) (.cons (I parts_recov) .nil)))))) (.cons (encL encNtc 6 notices) (.cons (I err) .nil))))) = encOtc ⟨⟨loan_id, ⟨loan_terms_kind, loan_terms_principal, loan_terms_rate, loan_terms_count, loan_terms_start, loan_terms_rule⟩, loan_plan, loan_book, ⟨loan_case_status, loan_case_susp, loan_case_cycles, loan_case_since, loan_case_deadline, loan_case_promises, loan_case_promiseDue, loan_case_promiseAmount, loan_case_promiseGot, loan_case_kept, loan_case_broken, loan_case_cures, loan_case_restr, loan_case_cycleFees, loan_case_lifeFees⟩, loan_day, loan_carry, loan_applied, ⟨loan_last_fees, loan_last_int, loan_last_prin, loan_last_unap, loan_last_recov⟩, loan_hasLast, loan_chargedOff, loan_trace⟩, ⟨parts_fees, parts_int, parts_prin, parts_unap, parts_recov⟩, notices, err⟩ := rfl

theorem le_Stt (today : Int) (loans : List Ln) (notices : List Ntc) : Le (.st (.cons (I today) (.cons (encL encLn 46 loans) (.cons (encL encNtc 6 notices) .nil)))) (encStt ⟨today, loans, notices⟩) := Le.refl _
theorem leA_Stt (today : Int) (loans : List Ln) (notices : List Ntc) : LeA (.st (.cons (I today) (.cons (encL encLn 46 loans) (.cons (encL encNtc 6 notices) .nil)))) (encStt ⟨today, loans, notices⟩) := LeA.refl _
theorem mk_Stt (today : Int) (loans : List Ln) (notices : List Ntc) : (.st (.cons (I today) (.cons (encL encLn 46 loans) (.cons (encL encNtc 6 notices) .nil)))) = encStt ⟨today, loans, notices⟩ := rfl

theorem le_Opn (kind : Int) (loan : Int) (amount : Int) (rate : Int) (count : Int) (days : Int) (text : ByteArray) : Le (.st (.cons (I kind) (.cons (I loan) (.cons (I amount) (.cons (I rate) (.cons (I count) (.cons (I days) (.cons (.val (.string text)) .nil)))))))) (encOpn ⟨kind, loan, amount, rate, count, days, text⟩) := Le.refl _
theorem leA_Opn (kind : Int) (loan : Int) (amount : Int) (rate : Int) (count : Int) (days : Int) (text : ByteArray) : LeA (.st (.cons (I kind) (.cons (I loan) (.cons (I amount) (.cons (I rate) (.cons (I count) (.cons (I days) (.cons (.val (.string text)) .nil)))))))) (encOpn ⟨kind, loan, amount, rate, count, days, text⟩) := LeA.refl _
theorem mk_Opn (kind : Int) (loan : Int) (amount : Int) (rate : Int) (count : Int) (days : Int) (text : ByteArray) : (.st (.cons (I kind) (.cons (I loan) (.cons (I amount) (.cons (I rate) (.cons (I count) (.cons (I days) (.cons (.val (.string text)) .nil)))))))) = encOpn ⟨kind, loan, amount, rate, count, days, text⟩ := rfl

theorem le_Wrk (p_firstDay : Int) (p_grace : Int) (p_nonAccrual : Int) (p_chargeOff : Int) (p_lateRate : Int) (p_lateMin : Int) (p_lateMax : Int) (p_cycleCap : Int) (p_lifeCap : Int) (p_promises : Int) (p_promiseDays : Int) (p_restr : Int) (p_order : Int) (p_rule : Int) (p_retryBase : Int) (p_retryCap : Int) (p_snapEvery : Int) (p_holidays : List Int) (l_id : Int) (l_terms_kind : Int) (l_terms_principal : Int) (l_terms_rate : Int) (l_terms_count : Int) (l_terms_start : Int) (l_terms_rule : Int) (l_plan : List Ins) (l_book : Bk) (l_case_status : Int) (l_case_susp : Bool) (l_case_cycles : Int) (l_case_since : Int) (l_case_deadline : Int) (l_case_promises : Int) (l_case_promiseDue : Int) (l_case_promiseAmount : Int) (l_case_promiseGot : Int) (l_case_kept : Int) (l_case_broken : Int) (l_case_cures : Int) (l_case_restr : Int) (l_case_cycleFees : Int) (l_case_lifeFees : Int) (l_day : Int) (l_carry : Int) (l_applied : Int) (l_last_fees : Int) (l_last_int : Int) (l_last_prin : Int) (l_last_unap : Int) (l_last_recov : Int) (l_hasLast : Bool) (l_chargedOff : Int) (l_trace : Int) (parts_fees : Int) (parts_int : Int) (parts_prin : Int) (parts_unap : Int) (parts_recov : Int) (notices : List Ntc) (err : Int) : Le (.st (.cons (.st (.cons (I p_firstDay) (.cons (I p_grace) (.cons (I p_nonAccrual) (.cons (I p_chargeOff) (.cons (I p_lateRate) (.cons (I p_lateMin) (.cons (I p_lateMax) (.cons (I p_cycleCap) (.cons (I p_lifeCap) (.cons (I p_promises) (.cons (I p_promiseDays) (.cons (I p_restr) (.cons (I p_order) (.cons (I p_rule) (.cons (I p_retryBase) (.cons (I p_retryCap) (.cons (I p_snapEvery) (.cons (encL I 1 p_holidays) .nil))))))))))))))))))) (.cons (.st (.cons (I l_id) (.cons (.st (.cons (I l_terms_kind) (.cons (I l_terms_principal) (.cons (I l_terms_rate) (.cons (I l_terms_count) (.cons (I l_terms_start) (.cons (I l_terms_rule) .nil))))))) (.cons (encL encIns 4 l_plan) (.cons (.st (.cons (.arr 12 1 fun i => I (l_book.f i)) .nil)) (.cons (.st (.cons (I l_case_status) (.cons (B l_case_susp) (.cons (I l_case_cycles) (.cons (I l_case_since) (.cons (I l_case_deadline) (.cons (I l_case_promises) (.cons (I l_case_promiseDue) (.cons (I l_case_promiseAmount) (.cons (I l_case_promiseGot) (.cons (I l_case_kept) (.cons (I l_case_broken) (.cons (I l_case_cures) (.cons (I l_case_restr) (.cons (I l_case_cycleFees) (.cons (I l_case_lifeFees) .nil)))))))))))))))) (.cons (I l_day) (.cons (I l_carry) (.cons (I l_applied) (.cons (.st (.cons (I l_last_fees) (.cons (I l_last_int) (.cons (I l_last_prin) (.cons (I l_last_unap) (.cons (I l_last_recov) .nil)))))) (.cons (B l_hasLast) (.cons (I l_chargedOff) (.cons (I l_trace) .nil))))))))))))) (.cons (.st (.cons (I parts_fees) (.cons (I parts_int) (.cons (I parts_prin) (.cons (I parts_unap) (.cons (I parts_recov) .nil)))))) (.cons (encL encNtc 6 notices) (.cons (I err) .nil)))))) (encWrk ⟨⟨p_firstDay, p_grace, p_nonAccrual, p_chargeOff, p_lateRate, p_lateMin, p_lateMax, p_cycleCap, p_lifeCap, p_promises, p_promiseDays, p_restr, p_order, p_rule, p_retryBase, p_retryCap, p_snapEvery, p_holidays⟩, ⟨l_id, ⟨l_terms_kind, l_terms_principal, l_terms_rate, l_terms_count, l_terms_start, l_terms_rule⟩, l_plan, l_book, ⟨l_case_status, l_case_susp, l_case_cycles, l_case_since, l_case_deadline, l_case_promises, l_case_promiseDue, l_case_promiseAmount, l_case_promiseGot, l_case_kept, l_case_broken, l_case_cures, l_case_restr, l_case_cycleFees, l_case_lifeFees⟩, l_day, l_carry, l_applied, ⟨l_last_fees, l_last_int, l_last_prin, l_last_unap, l_last_recov⟩, l_hasLast, l_chargedOff, l_trace⟩, ⟨parts_fees, parts_int, parts_prin, parts_unap, parts_recov⟩, notices, err⟩) := Le.refl _
theorem leA_Wrk (p_firstDay : Int) (p_grace : Int) (p_nonAccrual : Int) (p_chargeOff : Int) (p_lateRate : Int) (p_lateMin : Int) (p_lateMax : Int) (p_cycleCap : Int) (p_lifeCap : Int) (p_promises : Int) (p_promiseDays : Int) (p_restr : Int) (p_order : Int) (p_rule : Int) (p_retryBase : Int) (p_retryCap : Int) (p_snapEvery : Int) (p_holidays : List Int) (l_id : Int) (l_terms_kind : Int) (l_terms_principal : Int) (l_terms_rate : Int) (l_terms_count : Int) (l_terms_start : Int) (l_terms_rule : Int) (l_plan : List Ins) (l_book : Bk) (l_case_status : Int) (l_case_susp : Bool) (l_case_cycles : Int) (l_case_since : Int) (l_case_deadline : Int) (l_case_promises : Int) (l_case_promiseDue : Int) (l_case_promiseAmount : Int) (l_case_promiseGot : Int) (l_case_kept : Int) (l_case_broken : Int) (l_case_cures : Int) (l_case_restr : Int) (l_case_cycleFees : Int) (l_case_lifeFees : Int) (l_day : Int) (l_carry : Int) (l_applied : Int) (l_last_fees : Int) (l_last_int : Int) (l_last_prin : Int) (l_last_unap : Int) (l_last_recov : Int) (l_hasLast : Bool) (l_chargedOff : Int) (l_trace : Int) (parts_fees : Int) (parts_int : Int) (parts_prin : Int) (parts_unap : Int) (parts_recov : Int) (notices : List Ntc) (err : Int) : LeA (.st (.cons (.st (.cons (I p_firstDay) (.cons (I p_grace) (.cons (I p_nonAccrual) (.cons (I p_chargeOff) (.cons (I p_lateRate) (.cons (I p_lateMin) (.cons (I p_lateMax) (.cons (I p_cycleCap) (.cons (I p_lifeCap) (.cons (I p_promises) (.cons (I p_promiseDays) (.cons (I p_restr) (.cons (I p_order) (.cons (I p_rule) (.cons (I p_retryBase) (.cons (I p_retryCap) (.cons (I p_snapEvery) (.cons (encL I 1 p_holidays) .nil))))))))))))))))))) (.cons (.st (.cons (I l_id) (.cons (.st (.cons (I l_terms_kind) (.cons (I l_terms_principal) (.cons (I l_terms_rate) (.cons (I l_terms_count) (.cons (I l_terms_start) (.cons (I l_terms_rule) .nil))))))) (.cons (encL encIns 4 l_plan) (.cons (.st (.cons (.arr 12 1 fun i => I (l_book.f i)) .nil)) (.cons (.st (.cons (I l_case_status) (.cons (B l_case_susp) (.cons (I l_case_cycles) (.cons (I l_case_since) (.cons (I l_case_deadline) (.cons (I l_case_promises) (.cons (I l_case_promiseDue) (.cons (I l_case_promiseAmount) (.cons (I l_case_promiseGot) (.cons (I l_case_kept) (.cons (I l_case_broken) (.cons (I l_case_cures) (.cons (I l_case_restr) (.cons (I l_case_cycleFees) (.cons (I l_case_lifeFees) .nil)))))))))))))))) (.cons (I l_day) (.cons (I l_carry) (.cons (I l_applied) (.cons (.st (.cons (I l_last_fees) (.cons (I l_last_int) (.cons (I l_last_prin) (.cons (I l_last_unap) (.cons (I l_last_recov) .nil)))))) (.cons (B l_hasLast) (.cons (I l_chargedOff) (.cons (I l_trace) .nil))))))))))))) (.cons (.st (.cons (I parts_fees) (.cons (I parts_int) (.cons (I parts_prin) (.cons (I parts_unap) (.cons (I parts_recov) .nil)))))) (.cons (encL encNtc 6 notices) (.cons (I err) .nil)))))) (encWrk ⟨⟨p_firstDay, p_grace, p_nonAccrual, p_chargeOff, p_lateRate, p_lateMin, p_lateMax, p_cycleCap, p_lifeCap, p_promises, p_promiseDays, p_restr, p_order, p_rule, p_retryBase, p_retryCap, p_snapEvery, p_holidays⟩, ⟨l_id, ⟨l_terms_kind, l_terms_principal, l_terms_rate, l_terms_count, l_terms_start, l_terms_rule⟩, l_plan, l_book, ⟨l_case_status, l_case_susp, l_case_cycles, l_case_since, l_case_deadline, l_case_promises, l_case_promiseDue, l_case_promiseAmount, l_case_promiseGot, l_case_kept, l_case_broken, l_case_cures, l_case_restr, l_case_cycleFees, l_case_lifeFees⟩, l_day, l_carry, l_applied, ⟨l_last_fees, l_last_int, l_last_prin, l_last_unap, l_last_recov⟩, l_hasLast, l_chargedOff, l_trace⟩, ⟨parts_fees, parts_int, parts_prin, parts_unap, parts_recov⟩, notices, err⟩) := LeA.refl _
theorem mk_Wrk (p_firstDay : Int) (p_grace : Int) (p_nonAccrual : Int) (p_chargeOff : Int) (p_lateRate : Int) (p_lateMin : Int) (p_lateMax : Int) (p_cycleCap : Int) (p_lifeCap : Int) (p_promises : Int) (p_promiseDays : Int) (p_restr : Int) (p_order : Int) (p_rule : Int) (p_retryBase : Int) (p_retryCap : Int) (p_snapEvery : Int) (p_holidays : List Int) (l_id : Int) (l_terms_kind : Int) (l_terms_principal : Int) (l_terms_rate : Int) (l_terms_count : Int) (l_terms_start : Int) (l_terms_rule : Int) (l_plan : List Ins) (l_book : Bk) (l_case_status : Int) (l_case_susp : Bool) (l_case_cycles : Int) (l_case_since : Int) (l_case_deadline : Int) (l_case_promises : Int) (l_case_promiseDue : Int) (l_case_promiseAmount : Int) (l_case_promiseGot : Int) (l_case_kept : Int) (l_case_broken : Int) (l_case_cures : Int) (l_case_restr : Int) (l_case_cycleFees : Int) (l_case_lifeFees : Int) (l_day : Int) (l_carry : Int) (l_applied : Int) (l_last_fees : Int) (l_last_int : Int) (l_last_prin : Int) (l_last_unap : Int) (l_last_recov : Int) (l_hasLast : Bool) (l_chargedOff : Int) (l_trace : Int) (parts_fees : Int) (parts_int : Int) (parts_prin : Int) (parts_unap : Int) (parts_recov : Int) (notices : List Ntc) (err : Int) : (.st (.cons (.st (.cons (I p_firstDay) (.cons (I p_grace) (.cons (I p_nonAccrual) (.cons (I p_chargeOff) (.cons (I p_lateRate) (.cons (I p_lateMin) (.cons (I p_lateMax) (.cons (I p_cycleCap) (.cons (I p_lifeCap) (.cons (I p_promises) (.cons (I p_promiseDays) (.cons (I p_restr) (.cons (I p_order) (.cons (I p_rule) (.cons (I p_retryBase) (.cons (I p_retryCap) (.cons (I p_snapEvery) (.cons (encL I 1 p_holidays) .nil))))))))))))))))))) (.cons (.st (.cons (I l_id) (.cons (.st (.cons (I l_terms_kind) (.cons (I l_terms_principal) (.cons (I l_terms_rate) (.cons (I l_terms_count) (.cons (I l_terms_start) (.cons (I l_terms_rule) .nil))))))) (.cons (encL encIns 4 l_plan) (.cons (.st (.cons (.arr 12 1 fun i => I (l_book.f i)) .nil)) (.cons (.st (.cons (I l_case_status) (.cons (B l_case_susp) (.cons (I l_case_cycles) (.cons (I l_case_since) (.cons (I l_case_deadline) (.cons (I l_case_promises) (.cons (I l_case_promiseDue) (.cons (I l_case_promiseAmount) (.cons (I l_case_promiseGot) (.cons (I l_case_kept) (.cons (I l_case_broken) (.cons (I l_case_cures) (.cons (I l_case_restr) (.cons (I l_case_cycleFees) (.cons (I l_case_lifeFees) .nil)))))))))))))))) (.cons (I l_day) (.cons (I l_carry) (.cons (I l_applied) (.cons (.st (.cons (I l_last_fees) (.cons (I l_last_int) (.cons (I l_last_prin) (.cons (I l_last_unap) (.cons (I l_last_recov) .nil)))))) (.cons (B l_hasLast) (.cons (I l_chargedOff) (.cons (I l_trace) .nil))))))))))))) (.cons (.st (.cons (I parts_fees) (.cons (I parts_int) (.cons (I parts_prin) (.cons (I parts_unap) (.cons (I parts_recov) .nil)))))) (.cons (encL encNtc 6 notices) (.cons (I err) .nil)))))) = encWrk ⟨⟨p_firstDay, p_grace, p_nonAccrual, p_chargeOff, p_lateRate, p_lateMin, p_lateMax, p_cycleCap, p_lifeCap, p_promises, p_promiseDays, p_restr, p_order, p_rule, p_retryBase, p_retryCap, p_snapEvery, p_holidays⟩, ⟨l_id, ⟨l_terms_kind, l_terms_principal, l_terms_rate, l_terms_count, l_terms_start, l_terms_rule⟩, l_plan, l_book, ⟨l_case_status, l_case_susp, l_case_cycles, l_case_since, l_case_deadline, l_case_promises, l_case_promiseDue, l_case_promiseAmount, l_case_promiseGot, l_case_kept, l_case_broken, l_case_cures, l_case_restr, l_case_cycleFees, l_case_lifeFees⟩, l_day, l_carry, l_applied, ⟨l_last_fees, l_last_int, l_last_prin, l_last_unap, l_last_recov⟩, l_hasLast, l_chargedOff, l_trace⟩, ⟨parts_fees, parts_int, parts_prin, parts_unap, parts_recov⟩, notices, err⟩ := rfl

end Ar
namespace Ar
open Go
set_option linter.unusedVariables false
set_option autoImplicit false

theorem ren_nt : ∀ a, nt a → ren (fun _ => LENT) a = a := by
  intro a
  induction a with
  | ptr o p => intro h; exact h.elim
  | sli o lo n e ty => intro h; exact h.elim
  | mp o => intro h; exact h.elim
  | elt n e f i p ih => intro h; simp only [ren, fun i => ih i (h i)]
  | lst tok n e f ih =>
    intro h
    rcases h.1 with rfl | rfl <;> simp only [ren, fun i => ih i (h.2 i)]
  | arr n e f ih => intro h; simp only [ren, fun i => ih i (h i)]
  | st l ih => intro h; simp only [ren, ih h]
  | cons a b iha ihb => intro h; simp only [ren, iha h.1, ihb h.2]
  | tup l ih => intro h; simp only [ren, ih h]
  | clo fn a b iha ihb => intro h; simp only [ren, iha h.1, ihb h.2]
  | ifc t a ih => intro h; simp only [ren, ih h]
  | _ => intro _; rfl

/-- A function's end: the row that was lent to it is there, and the results read as they should. -/
structure FinT (gl : Nat → AV) (N : Nat) (rs : List RV) (el : Nat) (ty : TypeId) (Q : AV → Nat → Prop) (e : Env) (o : Objs) (n : Nat) : Prop where
  h : ∃ e' o' n' m', LeSt gl N e o n e' o' n' ∧ lookO LENT o' = some (.room m' el ty) ∧ resA e' o' rs fun l => ∃ r, nt r ∧ Q r m' ∧ Le (packA l) r

def PureTX (P : Program) (gl : Nat → AV) (f : FuncId) (args : List AV) (el : Nat) (ty : TypeId) (m : Nat) (Q : AV → Nat → Prop) : Prop := ∃ r m', nt r ∧ Q r m' ∧ PureT P gl f args el ty m r m'

section
variable {P : Program} {gl : Nat → AV} {N : Nat}

theorem pureT_fn (hm : P.follows .mixedOrders = true) {f : FuncId} {fn : Func} {x : IC} {rs : List RV} {args : List AV} {el : Nat} {ty : TypeId} {m m' : Nat} {r : AV} (hf : P.funcs[f]? = some fn) (hN : fn.ntmps = N)
    (hcf : compF P N fn = some (x, rs)) (hlen : args.length ≤ N) (hgl : ∀ i, nf (gl i)) (ha : ∀ a ∈ args, nt a) (hnr : nt r)
    (o0 : Objs) (h0 : LeSt gl N (enumA 0 args) [(LENT, .room m el ty)] 0 (enumA 0 args) o0 0)
    (h : wp P gl N x (fun ex e o n => match ex with
      | .exit _ => False
      | _ => FinT gl N rs el ty (fun x k => x = r ∧ k = m') e o n) (enumA 0 args) o0 0) : PureT P gl f args el ty m r m' := by
  obtain ⟨c, hb, hc, hr⟩ : ∃ c, fn.body = some c ∧ comp P N c = some x ∧ compR P fn.results.toList = some rs := by
    unfold compF at hcf
    split at hcf
    · rename_i c hb
      split at hcf
      · rename_i y s h1 h2
        injection hcf with hcf
        injection hcf with h3 h4
        subst h3 h4
        exact ⟨c, hb, h1, h2⟩
      · cases hcf
    · cases hcf
  refine ⟨ha, hnr, hgl, fun G w cargs ob hz hglob hobj hargs => ?_⟩
  have hcl := RL_len hargs
  let g : Gh := ⟨fun _ => none, r1 (some (ob, m)), G⟩
  let act : Act := { tmps := cargs.toArray ++ Array.replicate (fn.ntmps - cargs.toArray.size) undef, defers := [] }
  have hsz : act.tmps.size = N := by
    show (cargs.toArray ++ Array.replicate (fn.ntmps - cargs.toArray.size) undef).size = N
    simp only [Array.size_append, List.size_toArray, Array.size_replicate, hcl, hN]
    omega
  have hone : ∀ k y, lookO k [(LENT, AObj.room m el ty)] = some y → k = LENT ∧ y = .room m el ty := fun k y hk => by
    rw [lookO_cons] at hk
    by_cases e1 : LENT = k
    · rw [if_pos e1] at hk; injection hk with hk; exact ⟨e1.symm, hk.symm⟩
    · rw [if_neg e1] at hk; cases hk
  have hgood : Good P gl N g w (EnvF (enumA 0 args)) [(LENT, .room m el ty)] 0 act := by
    refine ⟨fun k y hk => ?_, fun k y k' y' b h1 h2 _ _ => (hone k y h1).1.trans (hone k' y' h2).1.symm, fun k y hk => .inr (Nat.le_of_eq (hone k y hk).1.symm), fun k b hk => by simp [g] at hk, fun k b hk => ?_, fun t => ?_, hsz, (fun d hd => by cases hd), hz, hglob⟩
    · obtain ⟨rfl, rfl⟩ := hone k y hk; exact hobj
    · have hk : r1 (some (ob, m)) k = some b := hk
      unfold r1 at hk
      by_cases e1 : k = LENT
      · exact .inr (Nat.le_of_eq e1.symm)
      · rw [if_neg e1] at hk; cases hk
    · show (R g w (lookE t (enumA 0 args))).v (act.tmps.getD t undef)
      rw [lookE_enum]
      simp only [Nat.zero_le, if_true, Nat.sub_zero]
      by_cases ht : t < args.length
      · have h1 := RL_get hargs t ht
        have h2 : act.tmps.getD t undef = cargs.getD t undef := by
          have : t < cargs.length := by omega
          show (cargs.toArray ++ Array.replicate (fn.ntmps - cargs.toArray.size) undef).getD t undef = _
          rw [Array.getD_eq_getD_getElem?, Array.getElem?_append_left (by simpa using this)]
          simp
        rw [h2]; exact h1
      · have : args.getD t .any = .any := by simp [List.getD, Nat.le_of_not_lt ht]
        rw [this]; trivial
  refine calls_of_wp_defers hf hb (wp_mono (SemC.weak h0 (wp_sound hm c x hc _ _ _ _ h) g w act hgood) ?_)
  rintro ex a' w1 ⟨x', g', e', o', n', hx, hg1, hs1, hq⟩
  have fin : ∀ w', Drawn w1 w' → FinT gl N rs el ty (fun x k => x = r ∧ k = m') e' o' n' → ∃ v, (results fn a'.tmps).run P w' = .ok v w' ∧ ∃ u G' ob', Ending.returned v = .returned u ∧
      Stp ⟨fun _ => none, r1 (some (ob, m)), G⟩ w [(LENT, .room m el ty)] ⟨fun _ => none, r1 (some (ob', m')), G'⟩ w' [(LENT, .room m' el ty)] ∧ (∀ b, w'.heap.size ≤ b → G' b = 0) ∧
      ObjOk ⟨fun _ => none, r1 (some (ob', m')), G'⟩ w' LENT (.room m' el ty) ∧ (R ⟨fun _ => none, r1 (some (ob', m')), G'⟩ w' r).v u := by
    intro w' hd
    have hg' := hg1.drawn hd
    have hs' := hs1.trans (hd.stp g' o')
    intro hfin
    obtain ⟨e2, o2, n2, k', hle, hlook, hres⟩ := hfin.h
    obtain ⟨g2, hg2, hs2⟩ := hle P g' w' a' hg'
    obtain ⟨as, us, h1, h2, r', hnr', ⟨rfl, rfl⟩, h3⟩ := res_ok hg2 fn.results.toList rs hr _ hres
    have hs := hs'.trans hs2
    have hrun : (results fn a'.tmps).run P w' = .ok (if hs : us.toArray.size = 1 then us.toArray[0] else .tuple us.toArray) w' := by
      have e1 : results fn a'.tmps = (do
          let vs ← fn.results.mapM (resV a'.tmps)
          pure (if h : vs.size = 1 then vs[0] else .tuple vs)) := rfl
      rw [e1, Array.mapM_eq_mapM_toList]
      simp only [Sem.run_bind, Sem.run_map]
      rw [h1]
      simp only [Result.andThen_ok, Sem.run_pure]
    obtain ⟨ob', hob, hnil, hblk⟩ := hg2.objs LENT _ hlook
    have hl : (r1 (some (ob', k'))) LENT = some (ob', k') := if_pos rfl
    have hown : ∀ b, Own ⟨fun _ => none, r1 (some (ob', k')), g2.G⟩ [(LENT, .room k' el ty)] b → Own g2 o2 b := fun b ⟨q, y, h5, h6⟩ => by
      rw [lookO_cons] at h5
      by_cases e1 : LENT = q
      · subst e1
        rw [if_pos rfl] at h5
        injection h5 with h5
        subst h5
        refine ⟨LENT, _, hlook, ?_⟩
        have h6 : (r1 (some (ob', k')) LENT).bind (·.1) = some b := h6
        rw [hl] at h6
        show (g2.r LENT).bind (·.1) = some b
        rw [hob]; exact h6
      · rw [if_neg e1] at h5; cases h5
    have hownC : ∀ b j, OwnC ⟨fun _ => none, r1 (some (ob', k')), g2.G⟩ [(LENT, .room k' el ty)] b j → OwnC g2 o2 b j := fun b j ⟨q, y, h5, h6⟩ => by
      rw [lookO_cons] at h5
      by_cases e1 : LENT = q
      · subst e1
        rw [if_pos rfl] at h5
        injection h5 with h5
        subst h5
        refine ⟨LENT, _, hlook, ?_⟩
        have h6 : (r1 (some (ob', k')) LENT).bind (·.1) = some b := h6
        rw [hl] at h6
        show (g2.r LENT).bind (·.1) = some b
        rw [hob]; exact h6
      · rw [if_neg e1] at h5; cases h5
    refine ⟨_, hrun, _, g2.G, ob', rfl, ⟨hs.size, hs.keep, fun b hb => hs.own b (hown b hb), hs.pub, hs.le, hs.cap, hs.keepC, fun b j hb => hs.ownC b j (hownC b j hb), fun _ _ => rfl, fun k p q hk hp => ?_, hs.os, hs.out⟩, hg2.gz, ⟨ob', hl, hnil, hblk⟩, ?_⟩
    · obtain ⟨p2, q2, h5, h6, h7⟩ := hs.rl k p q hk hp
      have e1 : k = LENT := by
        by_cases e1 : k = LENT
        · exact e1
        · have hp : r1 (some (ob, m)) k = some (p, q) := hp
          unfold r1 at hp
          rw [if_neg e1] at hp; cases hp
      subst e1
      rw [hob] at h5
      injection h5 with h5
      injection h5 with h5 h8
      subst h5 h8
      exact ⟨ob', k', hl, h6, h7⟩
    · have hv := h3.v g2 w' _ (pack_ok (us := us.toArray) (by simpa using h2))
      rw [← ren_nt r' hnr, ← R_nt r' hnr, hob] at hv
      exact hv
  cases x' with
  | normal =>
    cases ex <;> simp only [ExR] at hx
    exact leaves_nop _ _ hg1.def_ (fun w2 hd => fin w2 hd hq)
  | ret =>
    cases ex <;> simp only [ExR] at hx
    exact leaves_nop _ _ hg1.def_ (fun w2 hd => fin w2 hd hq)
  | exit i => exact hq.elim

theorem pureT_fnX (hm : P.follows .mixedOrders = true) {f : FuncId} {fn : Func} {x : IC} {rs : List RV} {args : List AV} {el : Nat} {ty : TypeId} {m : Nat} {Q : AV → Nat → Prop} (hf : P.funcs[f]? = some fn) (hN : fn.ntmps = N)
    (hcf : compF P N fn = some (x, rs)) (hlen : args.length ≤ N) (hgl : ∀ i, nf (gl i)) (ha : ∀ a ∈ args, nt a)
    (o0 : Objs) (h0 : LeSt gl N (enumA 0 args) [(LENT, .room m el ty)] 0 (enumA 0 args) o0 0)
    (h : wp P gl N x (fun ex e o n => match ex with
      | .exit _ => False
      | _ => FinT gl N rs el ty Q e o n) (enumA 0 args) o0 0) : PureTX P gl f args el ty m Q := by
  obtain ⟨ex, e', o', n', h1, h2⟩ := wp_ex x h
  have key : FinT gl N rs el ty Q e' o' n' → (∀ r m', FinT gl N rs el ty (fun x k => x = r ∧ k = m') e' o' n' → wp P gl N x (fun ex e o n => match ex with
      | .exit _ => False
      | _ => FinT gl N rs el ty (fun x k => x = r ∧ k = m') e o n) (enumA 0 args) o0 0) → PureTX P gl f args el ty m Q := by
    intro hfin hw
    obtain ⟨e2, o2, n2, m', hle, hlook, hres⟩ := hfin.h
    obtain ⟨l, ⟨r, h3, h4, h5⟩, h6⟩ := resA_ex rs hres
    exact ⟨r, m', h3, h4, pureT_fn hm hf hN hcf hlen hgl ha h3 o0 h0 (hw r m' ⟨e2, o2, n2, m', hle, hlook, h6 _ ⟨r, h3, ⟨rfl, rfl⟩, h5⟩⟩)⟩
  cases ex with
  | normal => exact key h1 (fun r m' hr => h2 _ hr)
  | ret => exact key h1 (fun r m' hr => h2 _ hr)
  | exit i => exact h1.elim

/-- The call of such a function, the row's name being t in the caller. -/
theorem call_tx {b : Bool} {f : FuncId} {args args' args2 : List AV} {Q : AV → Nat → Prop} {o : Objs} {n t m el : Nat} {ty : TypeId} {K : AV → Objs → Nat → Prop} (h : PureTX P gl f args' el ty m Q) (ht : lookO t o = some (.room m el ty))
    (ha : List.map (ren fun _ => t) args' = args2) (hl : LeT t m args args2) (hK : ∀ r m', nt r → Q r m' → K (ren (fun _ => t) r) (setO t (.room m' el ty) o) n) : CallB b P gl f args o n K := by
  obtain ⟨r, m', h1, h2, h3⟩ := h
  exact call_t h3 ht ha rfl hl (hK r m' h1 h2)

/-- The results, the row being as it is. -/
theorem fin_t {rs : List RV} {el : Nat} {ty : TypeId} {Q : AV → Nat → Prop} {e : Env} {o : Objs} {n : Nat} (r : AV) (m' : Nat) (hn : nt r) (hQ : Q r m') (hl : lookO LENT o = some (.room m' el ty)) (h : resA e o rs fun l => RetIs l r) : FinT gl N rs el ty Q e o n :=
  ⟨e, o, n, m', LeSt.refl gl N e o n, hl, resA_mono rs (fun l hl => ⟨r, hn, hQ, hl.le⟩) h⟩

theorem fin_tl {rs : List RV} {el : Nat} {ty : TypeId} {Q : AV → Nat → Prop} {e e' : Env} {o o' : Objs} {n n' : Nat} (hl : LeSt gl N e o n e' o' n') (h : FinT gl N rs el ty Q e' o' n') : FinT gl N rs el ty Q e o n := by
  obtain ⟨e2, o2, n2, m', h1, h2, h3⟩ := h.h
  exact ⟨e2, o2, n2, m', hl.trans h1, h2, h3⟩

/-- Values that do not speak of a growing row of that name. -/
def NoT (k : Nat) : AV → Prop
  | .elt n _ f _ _ => ∀ i, NoT k (f i)
  | .lst tok n _ f => tok ≠ some k ∧ ∀ i, NoT k (f i)
  | .arr n _ f => ∀ i, NoT k (f i)
  | .st l => NoT k l
  | .cons a b => NoT k a ∧ NoT k b
  | .tup l => NoT k l
  | .clo _ a b => NoT k a ∧ NoT k b
  | .ifc _ a => NoT k a
  | _ => True

theorem noT_nf {k : Nat} : ∀ a, nf a → NoT k a := by
  intro a
  induction a with
  | ptr o p => intro h; exact h.elim
  | sli o lo n e ty => intro h; exact h.elim
  | mp o => intro h; exact h.elim
  | elt n e f i p ih => intro h i; exact ih i (h i)
  | lst tok n e f ih => intro h; exact ⟨by rw [h.1]; simp, fun i => ih i (h.2 i)⟩
  | arr n e f ih => intro h i; exact ih i (h i)
  | st l ih => intro h; exact ih h
  | cons a b iha ihb => intro h; exact ⟨iha h.1, ihb h.2⟩
  | tup l ih => intro h; exact ih h
  | clo fn a b iha ihb => intro h; exact ⟨iha h.1, ihb h.2⟩
  | ifc t a ih => intro h; exact ih h
  | _ => intro _; trivial

theorem noT_nt {k : Nat} (hk : LENT < k) : ∀ a, nt a → NoT k a := by
  intro a
  induction a with
  | ptr o p => intro h; exact h.elim
  | sli o lo n e ty => intro h; exact h.elim
  | mp o => intro h; exact h.elim
  | elt n e f i p ih => intro h i; exact ih i (h i)
  | lst tok n e f ih =>
    intro h
    refine ⟨?_, fun i => ih i (h.2 i)⟩
    rcases h.1 with h1 | h1 <;> rw [h1]
    · simp
    · intro h2; injection h2 with h2; omega
  | arr n e f ih => intro h i; exact ih i (h i)
  | st l ih => intro h; exact ih h
  | cons a b iha ihb => intro h; exact ⟨iha h.1, ihb h.2⟩
  | tup l ih => intro h; exact ih h
  | clo fn a b iha ihb => intro h; exact ⟨iha h.1, ihb h.2⟩
  | ifc t a ih => intro h; exact ih h
  | _ => intro _; trivial

theorem R_noT {g g' : Gh} {w : World} {k : Nat} (hm : g'.m = g.m) (hG : g'.G = g.G) (hr : ∀ q, q ≠ k → g'.r q = g.r q) : ∀ a, NoT k a → R g' w a = R g w a := by
  intro a
  induction a with
  | ptr o p => intro _; simp only [R, hm]
  | sli o lo n e ty => intro _; simp only [R, hm]
  | mp o => intro _; simp only [R, hm]
  | elt n e f i p ih => intro h; simp only [R, hG, fun i => ih i (h i)]
  | lst tok n e f ih =>
    intro h
    simp only [R, hG, fun i => ih i (h.2 i)]
    cases tok with
    | none => rfl
    | some t => simp only [tokOk, hr t (fun e => h.1 (by rw [e]))]
  | arr n e f ih => intro h; simp only [R, fun i => ih i (h i)]
  | st l ih => intro h; simp only [R, ih h]
  | cons a b iha ihb => intro h; simp only [R, iha h.1, ihb h.2]
  | tup l ih => intro h; simp only [R, ih h]
  | clo fn a b iha ihb => intro h; simp only [R, iha h.1, ihb h.2]
  | ifc t a ih => intro h; simp only [R, ih h]
  | _ => intro _; rfl

def NoE (k : Nat) : Env → Prop
  | [] => True
  | (_, a) :: r => NoT k a ∧ NoE k r

def NoO (k : Nat) : Objs → Prop
  | [] => True
  | (_, .box a) :: r => NoT k a ∧ NoO k r
  | (q, .room _ _ _) :: r => q ≠ k ∧ NoO k r
  | (q, .soon) :: r => q ≠ k ∧ NoO k r
  | (_, .dict _ f) :: r => (∀ n v, f n = some v → NoT k v) ∧ NoO k r

theorem noE_look {k : Nat} : ∀ {e : Env}, NoE k e → ∀ t, NoT k (lookE t e)
  | [], _, t => trivial
  | (q, a) :: r, h, t => by
    rw [lookE_cons]
    by_cases e1 : q = t
    · rw [if_pos e1]; exact h.1
    · rw [if_neg e1]; exact noE_look h.2 t

theorem noO_look {k : Nat} : ∀ {o : Objs}, NoO k o → ∀ q x, lookO q o = some x → match x with | .box a => NoT k a | .room _ _ _ => q ≠ k | .soon => q ≠ k | .dict _ f => ∀ n v, f n = some v → NoT k v
  | [], _, q, x, h => by simp [lookO] at h
  | (p, .box a) :: r, h, q, x, hx => by
    rw [lookO_cons] at hx
    by_cases e1 : p = q
    · rw [if_pos e1] at hx; injection hx with hx; subst hx; exact h.1
    · rw [if_neg e1] at hx; exact noO_look h.2 q x hx
  | (p, .room a b c) :: r, h, q, x, hx => by
    rw [lookO_cons] at hx
    by_cases e1 : p = q
    · rw [if_pos e1] at hx; injection hx with hx; subst hx; subst e1; exact h.1
    · rw [if_neg e1] at hx; exact noO_look h.2 q x hx
  | (p, .soon) :: r, h, q, x, hx => by
    rw [lookO_cons] at hx
    by_cases e1 : p = q
    · rw [if_pos e1] at hx; injection hx with hx; subst hx; subst e1; exact h.1
    · rw [if_neg e1] at hx; exact noO_look h.2 q x hx
  | (p, .dict a f) :: r, h, q, x, hx => by
    rw [lookO_cons] at hx
    by_cases e1 : p = q
    · rw [if_pos e1] at hx; injection hx with hx; subst hx; exact h.1
    · rw [if_neg e1] at hx; exact noO_look h.2 q x hx

/-- A room that nobody has used as yet (or that nobody speaks of any more): its row is nil. -/
theorem le_ghost {e : Env} {o : Objs} {n : Nat} (k sz : Nat) (ty : TypeId) (hgl : ∀ i, nf (gl i)) (hE : NoE k e) (hO : NoO k o) (hno : lookO k o = none) (hk : Nat.blt LENT k = true := by rfl) :
    LeSt gl N e o n e ((k, .room 0 sz ty) :: o) n := by
  have hk : LENT < k := Nat.le_of_ble_eq_true hk
  intro P g w a h
  let g' : Gh := { g with r := fun q => if q = k then some (none, 0) else g.r q }
  have hgk : g'.r k = some (none, 0) := if_pos rfl
  have hgn : ∀ q, q ≠ k → g'.r q = g.r q := fun q hq => if_neg hq
  have hR : ∀ a, NoT k a → R g' w a = R g w a := fun a ha => R_noT (g := g) (g' := g') (k := k) rfl rfl hgn a ha
  have hlook : ∀ q x, lookO q ((k, AObj.room 0 sz ty) :: o) = some x → (q = k ∧ x = .room 0 sz ty) ∨ (q ≠ k ∧ lookO q o = some x) := fun q x hq => by
    rw [lookO_cons] at hq
    by_cases e1 : k = q
    · rw [if_pos e1] at hq; injection hq with hq; exact .inl ⟨e1.symm, hq.symm⟩
    · rw [if_neg e1] at hq; exact .inr ⟨fun e2 => e1 e2.symm, hq⟩
  have hblk : ∀ q x, q ≠ k → blkOf g' q x = blkOf g q x := fun q x hq => blk_same rfl (hgn q hq)
  have hblk0 : blkOf g' k (.room 0 sz ty) = none := by simp [blkOf, hgk]
  refine ⟨g', ⟨fun q x hq => ?_, fun q x q' x' b h1 h2 h3 h4 => ?_, fun q x hq => ?_, h.mlt, fun q p hq => ?_, fun t => ?_, h.sz, h.def_, h.gz, fun i => ?_⟩,
    ⟨Nat.le_refl _, fun _ _ _ => ⟨rfl, rfl⟩, fun b ⟨q, x, h1, h2⟩ => ?_, fun _ _ _ => rfl, fun _ => Nat.le_refl _, fun _ cs _ hb => ⟨cs, hb, rfl⟩, fun _ _ _ _ => rfl, fun b j ⟨q, x, h1, h2⟩ => ?_, fun _ _ => rfl,
      fun q ob N hq hr => ⟨ob, N, by rw [hgn q (by omega)]; exact hr, Nat.le_refl _, fun _ => rfl⟩, rfl, rfl⟩⟩
  · rcases hlook q x hq with ⟨rfl, rfl⟩ | ⟨e1, h1⟩
    · exact ⟨none, hgk, ⟨fun _ => rfl, fun _ _ => rfl⟩, fun b hb => by cases hb⟩
    · have h2 := h.objs q x h1
      cases x with
      | box v =>
        obtain h0 | ⟨b, cs, ty, a1, a2, a3, a4, a5, a6⟩ := h2
        · exact .inl h0
        · exact .inr ⟨b, cs, ty, a1, a2, a3, a4, by rw [hR v (noO_look hO q _ h1)]; exact a5, a6⟩
      | room m e ty =>
        obtain ⟨ob, a1, a2, a3⟩ := h2
        exact ⟨ob, by rw [hgn q e1]; exact a1, a2, a3⟩
      | soon => exact h2
      | dict kd f =>
        obtain ⟨b, es, cl, a1, a2, a3, a4, a5, a6⟩ := h2
        refine ⟨b, es, cl, a1, a2, a3, a4, a5, fun y => ?_⟩
        have hx := noO_look hO q _ h1
        have := a6 y
        cases hf : f y with
        | none => rw [hf] at this; exact this
        | some v =>
          rw [hf] at this
          obtain ⟨u, c1, c2⟩ := this
          exact ⟨u, c1, by rw [hR v (hx y v hf)]; exact c2⟩
  · rcases hlook q x h1 with ⟨rfl, rfl⟩ | ⟨e1, h5⟩
    · rw [hblk0] at h3; cases h3
    · rcases hlook q' x' h2 with ⟨rfl, rfl⟩ | ⟨e2, h6⟩
      · rw [hblk0] at h4; cases h4
      · rw [hblk q x e1] at h3
        rw [hblk q' x' e2] at h4
        exact h.inj q x q' x' b h5 h6 h3 h4
  · rcases hlook q x hq with ⟨rfl, rfl⟩ | ⟨e1, h1⟩
    · exact .inr (Nat.le_of_lt hk)
    · exact h.blt q x h1
  · by_cases e1 : q = k
    · subst e1; exact .inr (Nat.le_of_lt hk)
    · rw [hgn q e1] at hq; exact h.rlt q p hq
  · show (R g' w (lookE t e)).v _
    rw [hR _ (noE_look hE t)]; exact h.env t
  · rw [hR _ (noT_nf _ (hgl i))]; exact h.gl i
  · rcases hlook q x h1 with ⟨rfl, rfl⟩ | ⟨e1, h5⟩
    · rw [hblk0] at h2; cases h2
    · exact .inl ⟨q, x, h5, by rw [← hblk q x e1]; exact h2⟩
  · rcases hlook q x h1 with ⟨rfl, rfl⟩ | ⟨e1, h5⟩
    · have h2 : (g'.r q).bind (·.1) = some b := h2
      rw [hgk] at h2; cases h2
    · refine .inl ⟨q, x, h5, ?_⟩
      cases x with
      | box v => exact h2
      | room _ _ _ => rw [← hgn q e1]; exact h2
      | soon => exact h2.elim
      | dict kd f => exact h2

theorem noE_enum {k : Nat} : ∀ (l : List AV) (q : Nat), (∀ a ∈ l, NoT k a) → NoE k (enumA q l)
  | [], _, _ => trivial
  | a :: r, q, h => ⟨h a (by simp), noE_enum r (q + 1) (fun x hx => h x (by simp [hx]))⟩

/-- A function that only computes, with a spare room or more from the start. -/
theorem pure_fnXg (hm : P.follows .mixedOrders = true) {f : FuncId} {fn : Func} {x : IC} {rs : List RV} {args : List AV} {Q : AV → Prop} (hf : P.funcs[f]? = some fn) (hN : fn.ntmps = N)
    (hcf : compF P N fn = some (x, rs)) (hlen : args.length ≤ N) (hgl : ∀ i, nf (gl i)) (ha : ∀ a ∈ args, nf a) (o0 : Objs) (h0 : LeSt gl N (enumA 0 args) [] 0 (enumA 0 args) o0 0)
    (h : wp P gl N x (fun ex e o n => match ex with
      | .exit _ => False
      | _ => FinP gl N rs Q e o n) (enumA 0 args) o0 0) : PureX P gl f args Q := by
  obtain ⟨ex, e', o', n', h1, h2⟩ := wp_ex x h
  have key : FinP gl N rs Q e' o' n' → (∀ r, FinP gl N rs (fun x => x = r) e' o' n' → wp P gl N x (fun ex e o n => match ex with
      | .exit _ => False
      | _ => FinP gl N rs (fun x => x = r) e o n) (enumA 0 args) o0 0) → PureX P gl f args Q := by
    intro hfin hw
    obtain ⟨e2, o2, n2, hle, hres⟩ := hfin.h
    obtain ⟨l, ⟨r, h3, h4, h5⟩, h6⟩ := resA_ex rs hres
    exact ⟨r, h3, h4, pure_ofQ h3 (pure_fnQg hm hf hN hcf hlen hgl ha o0 h0 (hw r ⟨e2, o2, n2, hle, h6 _ ⟨r, h3, rfl, h5⟩⟩))⟩
  cases ex with
  | normal => exact key h1 (fun r hr => h2 _ hr)
  | ret => exact key h1 (fun r hr => h2 _ hr)
  | exit i => exact h1.elim

end
end Ar
