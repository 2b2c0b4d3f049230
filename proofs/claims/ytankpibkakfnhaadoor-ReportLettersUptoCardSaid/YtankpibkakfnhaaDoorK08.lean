/- The work sheet whose notices grow in a room that is lent. No condition. -/
import Derived.Test.YtankpibkakfnhaaDoorK07
import Derived.Test.YtankpibkakfnhaaDoorK06
import Derived.MakeChecks
import Derived.Lay
set_option linter.all false
namespace Ar
open Go
set_option linter.unusedVariables false
set_option autoImplicit false

def encWrkT (t : Nat) (w : Wrk) : AV := .st (.cons (encPol w.p) (.cons (encLn w.l) (.cons (encPrt w.parts) (.cons (encT (some t) encNtc 6 w.notices) (.cons (I w.err) .nil)))))
def encWrkN (w : Wrk) : AV := .st (.cons (encPol w.p) (.cons (encLn w.l) (.cons (encPrt w.parts) (.cons (.val (.slice none 0 0)) (.cons (I w.err) .nil)))))

theorem leA_WrkT (t : Nat) (p_firstDay : Int) (p_grace : Int) (p_nonAccrual : Int) (p_chargeOff : Int) (p_lateRate : Int) (p_lateMin : Int) (p_lateMax : Int) (p_cycleCap : Int) (p_lifeCap : Int) (p_promises : Int) (p_promiseDays : Int) (p_restr : Int) (p_order : Int) (p_rule : Int) (p_retryBase : Int) (p_retryCap : Int) (p_snapEvery : Int) (p_holidays : List Int) (l_id : Int) (l_terms_kind : Int) (l_terms_principal : Int) (l_terms_rate : Int) (l_terms_count : Int) (l_terms_start : Int) (l_terms_rule : Int) (l_plan : List Ins) (l_book : Bk) (l_case_status : Int) (l_case_susp : Bool) (l_case_cycles : Int) (l_case_since : Int) (l_case_deadline : Int) (l_case_promises : Int) (l_case_promiseDue : Int) (l_case_promiseAmount : Int) (l_case_promiseGot : Int) (l_case_kept : Int) (l_case_broken : Int) (l_case_cures : Int) (l_case_restr : Int) (l_case_cycleFees : Int) (l_case_lifeFees : Int) (l_day : Int) (l_carry : Int) (l_applied : Int) (l_last_fees : Int) (l_last_int : Int) (l_last_prin : Int) (l_last_unap : Int) (l_last_recov : Int) (l_hasLast : Bool) (l_chargedOff : Int) (l_trace : Int) (parts_fees : Int) (parts_int : Int) (parts_prin : Int) (parts_unap : Int) (parts_recov : Int) (notices : List Ntc) (err : Int) : LeA (.st (.cons (.st (.cons (I p_firstDay) (.cons (I p_grace) (.cons (I p_nonAccrual) (.cons (I p_chargeOff) (.cons (I p_lateRate) (.cons (I p_lateMin) (.cons (I p_lateMax) (.cons (I p_cycleCap) (.cons (I p_lifeCap) (.cons (I p_promises) (.cons (I p_promiseDays) (.cons (I p_restr) (.cons (I p_order) (.cons (I p_rule) (.cons (I p_retryBase) (.cons (I p_retryCap) (.cons (I p_snapEvery) (.cons (encL I 1 p_holidays) .nil))))))))))))))))))) (.cons (.st (.cons (I l_id) (.cons (.st (.cons (I l_terms_kind) (.cons (I l_terms_principal) (.cons (I l_terms_rate) (.cons (I l_terms_count) (.cons (I l_terms_start) (.cons (I l_terms_rule) .nil))))))) (.cons (encL encIns 4 l_plan) (.cons (.st (.cons (.arr 12 1 fun i => I (l_book.f i)) .nil)) (.cons (.st (.cons (I l_case_status) (.cons (B l_case_susp) (.cons (I l_case_cycles) (.cons (I l_case_since) (.cons (I l_case_deadline) (.cons (I l_case_promises) (.cons (I l_case_promiseDue) (.cons (I l_case_promiseAmount) (.cons (I l_case_promiseGot) (.cons (I l_case_kept) (.cons (I l_case_broken) (.cons (I l_case_cures) (.cons (I l_case_restr) (.cons (I l_case_cycleFees) (.cons (I l_case_lifeFees) .nil)))))))))))))))) (.cons (I l_day) (.cons (I l_carry) (.cons (I l_applied) (.cons (.st (.cons (I l_last_fees) (.cons (I l_last_int) (.cons (I l_last_prin) (.cons (I l_last_unap) (.cons (I l_last_recov) .nil)))))) (.cons (B l_hasLast) (.cons (I l_chargedOff) (.cons (I l_trace) .nil))))))))))))) (.cons (.st (.cons (I parts_fees) (.cons (I parts_int) (.cons (I parts_prin) (.cons (I parts_unap) (.cons (I parts_recov) .nil)))))) (.cons (encT (some t) encNtc 6 notices) (.cons (I err) .nil)))))) (encWrkT t ⟨⟨p_firstDay, p_grace, p_nonAccrual, p_chargeOff, p_lateRate, p_lateMin, p_lateMax, p_cycleCap, p_lifeCap, p_promises, p_promiseDays, p_restr, p_order, p_rule, p_retryBase, p_retryCap, p_snapEvery, p_holidays⟩, ⟨l_id, ⟨l_terms_kind, l_terms_principal, l_terms_rate, l_terms_count, l_terms_start, l_terms_rule⟩, l_plan, l_book, ⟨l_case_status, l_case_susp, l_case_cycles, l_case_since, l_case_deadline, l_case_promises, l_case_promiseDue, l_case_promiseAmount, l_case_promiseGot, l_case_kept, l_case_broken, l_case_cures, l_case_restr, l_case_cycleFees, l_case_lifeFees⟩, l_day, l_carry, l_applied, ⟨l_last_fees, l_last_int, l_last_prin, l_last_unap, l_last_recov⟩, l_hasLast, l_chargedOff, l_trace⟩, ⟨parts_fees, parts_int, parts_prin, parts_unap, parts_recov⟩, notices, err⟩) := LeA.refl _
theorem le_WrkT (t : Nat) (p_firstDay : Int) (p_grace : Int) (p_nonAccrual : Int) (p_chargeOff : Int) (p_lateRate : Int) (p_lateMin : Int) (p_lateMax : Int) (p_cycleCap : Int) (p_lifeCap : Int) (p_promises : Int) (p_promiseDays : Int) (p_restr : Int) (p_order : Int) (p_rule : Int) (p_retryBase : Int) (p_retryCap : Int) (p_snapEvery : Int) (p_holidays : List Int) (l_id : Int) (l_terms_kind : Int) (l_terms_principal : Int) (l_terms_rate : Int) (l_terms_count : Int) (l_terms_start : Int) (l_terms_rule : Int) (l_plan : List Ins) (l_book : Bk) (l_case_status : Int) (l_case_susp : Bool) (l_case_cycles : Int) (l_case_since : Int) (l_case_deadline : Int) (l_case_promises : Int) (l_case_promiseDue : Int) (l_case_promiseAmount : Int) (l_case_promiseGot : Int) (l_case_kept : Int) (l_case_broken : Int) (l_case_cures : Int) (l_case_restr : Int) (l_case_cycleFees : Int) (l_case_lifeFees : Int) (l_day : Int) (l_carry : Int) (l_applied : Int) (l_last_fees : Int) (l_last_int : Int) (l_last_prin : Int) (l_last_unap : Int) (l_last_recov : Int) (l_hasLast : Bool) (l_chargedOff : Int) (l_trace : Int) (parts_fees : Int) (parts_int : Int) (parts_prin : Int) (parts_unap : Int) (parts_recov : Int) (notices : List Ntc) (err : Int) : Le (.st (.cons (.st (.cons (I p_firstDay) (.cons (I p_grace) (.cons (I p_nonAccrual) (.cons (I p_chargeOff) (.cons (I p_lateRate) (.cons (I p_lateMin) (.cons (I p_lateMax) (.cons (I p_cycleCap) (.cons (I p_lifeCap) (.cons (I p_promises) (.cons (I p_promiseDays) (.cons (I p_restr) (.cons (I p_order) (.cons (I p_rule) (.cons (I p_retryBase) (.cons (I p_retryCap) (.cons (I p_snapEvery) (.cons (encL I 1 p_holidays) .nil))))))))))))))))))) (.cons (.st (.cons (I l_id) (.cons (.st (.cons (I l_terms_kind) (.cons (I l_terms_principal) (.cons (I l_terms_rate) (.cons (I l_terms_count) (.cons (I l_terms_start) (.cons (I l_terms_rule) .nil))))))) (.cons (encL encIns 4 l_plan) (.cons (.st (.cons (.arr 12 1 fun i => I (l_book.f i)) .nil)) (.cons (.st (.cons (I l_case_status) (.cons (B l_case_susp) (.cons (I l_case_cycles) (.cons (I l_case_since) (.cons (I l_case_deadline) (.cons (I l_case_promises) (.cons (I l_case_promiseDue) (.cons (I l_case_promiseAmount) (.cons (I l_case_promiseGot) (.cons (I l_case_kept) (.cons (I l_case_broken) (.cons (I l_case_cures) (.cons (I l_case_restr) (.cons (I l_case_cycleFees) (.cons (I l_case_lifeFees) .nil)))))))))))))))) (.cons (I l_day) (.cons (I l_carry) (.cons (I l_applied) (.cons (.st (.cons (I l_last_fees) (.cons (I l_last_int) (.cons (I l_last_prin) (.cons (I l_last_unap) (.cons (I l_last_recov) .nil)))))) (.cons (B l_hasLast) (.cons (I l_chargedOff) (.cons (I l_trace) .nil))))))))))))) (.cons (.st (.cons (I parts_fees) (.cons (I parts_int) (.cons (I parts_prin) (.cons (I parts_unap) (.cons (I parts_recov) .nil)))))) (.cons (encT (some t) encNtc 6 notices) (.cons (I err) .nil)))))) (encWrkT t ⟨⟨p_firstDay, p_grace, p_nonAccrual, p_chargeOff, p_lateRate, p_lateMin, p_lateMax, p_cycleCap, p_lifeCap, p_promises, p_promiseDays, p_restr, p_order, p_rule, p_retryBase, p_retryCap, p_snapEvery, p_holidays⟩, ⟨l_id, ⟨l_terms_kind, l_terms_principal, l_terms_rate, l_terms_count, l_terms_start, l_terms_rule⟩, l_plan, l_book, ⟨l_case_status, l_case_susp, l_case_cycles, l_case_since, l_case_deadline, l_case_promises, l_case_promiseDue, l_case_promiseAmount, l_case_promiseGot, l_case_kept, l_case_broken, l_case_cures, l_case_restr, l_case_cycleFees, l_case_lifeFees⟩, l_day, l_carry, l_applied, ⟨l_last_fees, l_last_int, l_last_prin, l_last_unap, l_last_recov⟩, l_hasLast, l_chargedOff, l_trace⟩, ⟨parts_fees, parts_int, parts_prin, parts_unap, parts_recov⟩, notices, err⟩) := Le.refl _
theorem le_WrkZ (t : Nat) (p_firstDay : Int) (p_grace : Int) (p_nonAccrual : Int) (p_chargeOff : Int) (p_lateRate : Int) (p_lateMin : Int) (p_lateMax : Int) (p_cycleCap : Int) (p_lifeCap : Int) (p_promises : Int) (p_promiseDays : Int) (p_restr : Int) (p_order : Int) (p_rule : Int) (p_retryBase : Int) (p_retryCap : Int) (p_snapEvery : Int) (p_holidays : List Int) (l_id : Int) (l_terms_kind : Int) (l_terms_principal : Int) (l_terms_rate : Int) (l_terms_count : Int) (l_terms_start : Int) (l_terms_rule : Int) (l_plan : List Ins) (l_case_status : Int) (l_case_susp : Bool) (l_case_cycles : Int) (l_case_since : Int) (l_case_deadline : Int) (l_case_promises : Int) (l_case_promiseDue : Int) (l_case_promiseAmount : Int) (l_case_promiseGot : Int) (l_case_kept : Int) (l_case_broken : Int) (l_case_cures : Int) (l_case_restr : Int) (l_case_cycleFees : Int) (l_case_lifeFees : Int) (l_day : Int) (l_carry : Int) (l_applied : Int) (l_last_fees : Int) (l_last_int : Int) (l_last_prin : Int) (l_last_unap : Int) (l_last_recov : Int) (l_hasLast : Bool) (l_chargedOff : Int) (l_trace : Int) (parts_fees : Int) (parts_int : Int) (parts_prin : Int) (parts_unap : Int) (parts_recov : Int) (notices : List Ntc) (err : Int) : Le (.st (.cons (.st (.cons (I p_firstDay) (.cons (I p_grace) (.cons (I p_nonAccrual) (.cons (I p_chargeOff) (.cons (I p_lateRate) (.cons (I p_lateMin) (.cons (I p_lateMax) (.cons (I p_cycleCap) (.cons (I p_lifeCap) (.cons (I p_promises) (.cons (I p_promiseDays) (.cons (I p_restr) (.cons (I p_order) (.cons (I p_rule) (.cons (I p_retryBase) (.cons (I p_retryCap) (.cons (I p_snapEvery) (.cons (encL I 1 p_holidays) .nil))))))))))))))))))) (.cons (.st (.cons (I l_id) (.cons (.st (.cons (I l_terms_kind) (.cons (I l_terms_principal) (.cons (I l_terms_rate) (.cons (I l_terms_count) (.cons (I l_terms_start) (.cons (I l_terms_rule) .nil))))))) (.cons (encL encIns 4 l_plan) (.cons (.st (.cons (.arr 12 1 fun i => I 0) .nil)) (.cons (.st (.cons (I l_case_status) (.cons (B l_case_susp) (.cons (I l_case_cycles) (.cons (I l_case_since) (.cons (I l_case_deadline) (.cons (I l_case_promises) (.cons (I l_case_promiseDue) (.cons (I l_case_promiseAmount) (.cons (I l_case_promiseGot) (.cons (I l_case_kept) (.cons (I l_case_broken) (.cons (I l_case_cures) (.cons (I l_case_restr) (.cons (I l_case_cycleFees) (.cons (I l_case_lifeFees) .nil)))))))))))))))) (.cons (I l_day) (.cons (I l_carry) (.cons (I l_applied) (.cons (.st (.cons (I l_last_fees) (.cons (I l_last_int) (.cons (I l_last_prin) (.cons (I l_last_unap) (.cons (I l_last_recov) .nil)))))) (.cons (B l_hasLast) (.cons (I l_chargedOff) (.cons (I l_trace) .nil))))))))))))) (.cons (.st (.cons (I parts_fees) (.cons (I parts_int) (.cons (I parts_prin) (.cons (I parts_unap) (.cons (I parts_recov) .nil)))))) (.cons (encT (some t) encNtc 6 notices) (.cons (I err) .nil)))))) (encWrkT t ⟨⟨p_firstDay, p_grace, p_nonAccrual, p_chargeOff, p_lateRate, p_lateMin, p_lateMax, p_cycleCap, p_lifeCap, p_promises, p_promiseDays, p_restr, p_order, p_rule, p_retryBase, p_retryCap, p_snapEvery, p_holidays⟩, ⟨l_id, ⟨l_terms_kind, l_terms_principal, l_terms_rate, l_terms_count, l_terms_start, l_terms_rule⟩, l_plan, bk0, ⟨l_case_status, l_case_susp, l_case_cycles, l_case_since, l_case_deadline, l_case_promises, l_case_promiseDue, l_case_promiseAmount, l_case_promiseGot, l_case_kept, l_case_broken, l_case_cures, l_case_restr, l_case_cycleFees, l_case_lifeFees⟩, l_day, l_carry, l_applied, ⟨l_last_fees, l_last_int, l_last_prin, l_last_unap, l_last_recov⟩, l_hasLast, l_chargedOff, l_trace⟩, ⟨parts_fees, parts_int, parts_prin, parts_unap, parts_recov⟩, notices, err⟩) := Le.refl _
theorem mk_WrkN (p_firstDay : Int) (p_grace : Int) (p_nonAccrual : Int) (p_chargeOff : Int) (p_lateRate : Int) (p_lateMin : Int) (p_lateMax : Int) (p_cycleCap : Int) (p_lifeCap : Int) (p_promises : Int) (p_promiseDays : Int) (p_restr : Int) (p_order : Int) (p_rule : Int) (p_retryBase : Int) (p_retryCap : Int) (p_snapEvery : Int) (p_holidays : List Int) (l_id : Int) (l_terms_kind : Int) (l_terms_principal : Int) (l_terms_rate : Int) (l_terms_count : Int) (l_terms_start : Int) (l_terms_rule : Int) (l_plan : List Ins) (l_book : Bk) (l_case_status : Int) (l_case_susp : Bool) (l_case_cycles : Int) (l_case_since : Int) (l_case_deadline : Int) (l_case_promises : Int) (l_case_promiseDue : Int) (l_case_promiseAmount : Int) (l_case_promiseGot : Int) (l_case_kept : Int) (l_case_broken : Int) (l_case_cures : Int) (l_case_restr : Int) (l_case_cycleFees : Int) (l_case_lifeFees : Int) (l_day : Int) (l_carry : Int) (l_applied : Int) (l_last_fees : Int) (l_last_int : Int) (l_last_prin : Int) (l_last_unap : Int) (l_last_recov : Int) (l_hasLast : Bool) (l_chargedOff : Int) (l_trace : Int) (parts_fees : Int) (parts_int : Int) (parts_prin : Int) (parts_unap : Int) (parts_recov : Int) (err : Int) : (.st (.cons (.st (.cons (I p_firstDay) (.cons (I p_grace) (.cons (I p_nonAccrual) (.cons (I p_chargeOff) (.cons (I p_lateRate) (.cons (I p_lateMin) (.cons (I p_lateMax) (.cons (I p_cycleCap) (.cons (I p_lifeCap) (.cons (I p_promises) (.cons (I p_promiseDays) (.cons (I p_restr) (.cons (I p_order) (.cons (I p_rule) (.cons (I p_retryBase) (.cons (I p_retryCap) (.cons (I p_snapEvery) (.cons (encL I 1 p_holidays) .nil))))))))))))))))))) (.cons (.st (.cons (I l_id) (.cons (.st (.cons (I l_terms_kind) (.cons (I l_terms_principal) (.cons (I l_terms_rate) (.cons (I l_terms_count) (.cons (I l_terms_start) (.cons (I l_terms_rule) .nil))))))) (.cons (encL encIns 4 l_plan) (.cons (.st (.cons (.arr 12 1 fun i => I (l_book.f i)) .nil)) (.cons (.st (.cons (I l_case_status) (.cons (B l_case_susp) (.cons (I l_case_cycles) (.cons (I l_case_since) (.cons (I l_case_deadline) (.cons (I l_case_promises) (.cons (I l_case_promiseDue) (.cons (I l_case_promiseAmount) (.cons (I l_case_promiseGot) (.cons (I l_case_kept) (.cons (I l_case_broken) (.cons (I l_case_cures) (.cons (I l_case_restr) (.cons (I l_case_cycleFees) (.cons (I l_case_lifeFees) .nil)))))))))))))))) (.cons (I l_day) (.cons (I l_carry) (.cons (I l_applied) (.cons (.st (.cons (I l_last_fees) (.cons (I l_last_int) (.cons (I l_last_prin) (.cons (I l_last_unap) (.cons (I l_last_recov) .nil)))))) (.cons (B l_hasLast) (.cons (I l_chargedOff) (.cons (I l_trace) .nil))))))))))))) (.cons (.st (.cons (I parts_fees) (.cons (I parts_int) (.cons (I parts_prin) (.cons (I parts_unap) (.cons (I parts_recov) .nil)))))) (.cons (.val (.slice none 0 0)) (.cons (I err) .nil)))))) = encWrkN ⟨⟨p_firstDay, p_grace, p_nonAccrual, p_chargeOff, p_lateRate, p_lateMin, p_lateMax, p_cycleCap, p_lifeCap, p_promises, p_promiseDays, p_restr, p_order, p_rule, p_retryBase, p_retryCap, p_snapEvery, p_holidays⟩, ⟨l_id, ⟨l_terms_kind, l_terms_principal, l_terms_rate, l_terms_count, l_terms_start, l_terms_rule⟩, l_plan, l_book, ⟨l_case_status, l_case_susp, l_case_cycles, l_case_since, l_case_deadline, l_case_promises, l_case_promiseDue, l_case_promiseAmount, l_case_promiseGot, l_case_kept, l_case_broken, l_case_cures, l_case_restr, l_case_cycleFees, l_case_lifeFees⟩, l_day, l_carry, l_applied, ⟨l_last_fees, l_last_int, l_last_prin, l_last_unap, l_last_recov⟩, l_hasLast, l_chargedOff, l_trace⟩, ⟨parts_fees, parts_int, parts_prin, parts_unap, parts_recov⟩, [], err⟩ := rfl

theorem nt_encWrkT (w : Wrk) : nt (encWrkT LENT w) := ⟨nt_nf _ (nf_encPol _), nt_nf _ (nf_encLn _), nt_nf _ (nf_encPrt _), ⟨.inr rfl, fun i => nt_nf _ (nf_encNtc _)⟩, trivial, trivial⟩
theorem nf_encWrkN (w : Wrk) : nf (encWrkN w) := ⟨nf_encPol _, nf_encLn _, nf_encPrt _, trivial, trivial, trivial⟩

theorem ren_WrkT (τ : Nat → Nat) (t : Nat) (w : Wrk) : ren τ (encWrkT t w) = encWrkT (τ t) w := by
  unfold encWrkT encT
  simp only [ren, ren_nf τ _ (nf_encPol _), ren_nf τ _ (nf_encLn _), ren_nf τ _ (nf_encPrt _), ren_nf τ _ (nf_encNtc _)]

end Ar
namespace Ar
open Go
set_option linter.unusedVariables false
set_option autoImplicit false

theorem row_rng {w : World} {G : Nat → Nat} {n e : Nat} {f : Nat → AV} {S : Nat → (Nat → Option Value) → Nat → Prop} {a : Addr} (h : Row w G n e (fun i => size (f i)) S a)
    (ih : ∀ i lk off, S i lk off → rng (f i)) : ∀ i, i < n → size (f i) = e ∧ rng (f i) := fun i hi => ⟨(h.2.2 i hi).1, ih i _ _ (h.2.2 i hi).2⟩

theorem R_rng {g : Gh} {w : World} : ∀ a : AV, (∀ u, (R g w a).v u → rng a) ∧ (∀ lk off, (R g w a).s lk off → rng a) ∧ (∀ vs, (R g w a).l vs → rng a) := by
  have key : ∀ {a : AV} {p : Value → Prop}, R g w a = one p → (∀ u, p u → cellV u → rng a) → (∀ u, (R g w a).v u → rng a) ∧ (∀ lk off, (R g w a).s lk off → rng a) ∧ (∀ vs, (R g w a).l vs → rng a) := by
    intro a p hp h
    rw [hp]
    exact ⟨fun u hu => h u hu.1 hu.2, fun lk off ⟨u, _, h1, h2⟩ => h u h1 h2, fun _ hf => hf.elim⟩
  intro a
  induction a with
  | val x => exact key rfl (fun u hu hc => by subst hu; exact hc)
  | any => exact ⟨fun _ _ => trivial, fun _ _ _ => trivial, fun _ _ => trivial⟩
  | ptr o p => exact key rfl (fun _ _ _ => trivial)
  | elt n e f i p ih => exact key rfl (fun u ⟨_, _, a, hr, _⟩ _ => row_rng hr (fun i lk off h => (ih i).2.1 lk off h))
  | lst tok n e f ih =>
    refine key rfl ?_
    rintro u ⟨oa, c, rfl, hc, _, hm⟩ hcv
    refine ⟨hcv, ?_⟩
    cases oa with
    | none => obtain ⟨rfl, _⟩ := hm; exact fun i hi => absurd hi (Nat.not_lt_zero i)
    | some a => exact row_rng hm (fun i lk off h => (ih i).2.1 lk off h)
  | sli o lo n e ty => exact key rfl (fun _ _ _ => trivial)
  | arr n e f ih =>
    exact ⟨fun u ⟨cs, _, _, hc⟩ i hi => ⟨(hc i hi).1, (ih i).2.1 _ _ (hc i hi).2⟩, fun lk off hc i hi => ⟨(hc i hi).1, (ih i).2.1 _ _ (hc i hi).2⟩, fun _ hf => hf.elim⟩
  | st l ih => exact ⟨fun u ⟨cs, _, _, hc⟩ => ih.2.1 _ _ hc, fun lk off hc => ih.2.1 _ _ hc, fun _ hf => hf.elim⟩
  | cons a b iha ihb =>
    refine ⟨fun _ hf => hf.elim, fun lk off ⟨h1, h2⟩ => ⟨iha.2.1 _ _ h1, ihb.2.1 _ _ h2⟩, fun vs => ?_⟩
    cases vs with
    | nil => exact fun hf => hf.elim
    | cons u r => exact fun ⟨h1, h2⟩ => ⟨iha.1 u h1, ihb.2.2 r h2⟩
  | nil => exact ⟨fun _ _ => trivial, fun _ _ _ => trivial, fun _ _ => trivial⟩
  | tup l ih => exact ⟨fun u ⟨vs, _, hc⟩ => ih.2.2 _ hc, fun _ _ hf => hf.elim, fun _ hf => hf.elim⟩
  | clo fn a b iha ihb => exact key rfl (fun u ⟨xs, ys, _, h1, h2⟩ _ => ⟨iha.2.2 _ h1, ihb.2.2 _ h2⟩)
  | mp o => exact key rfl (fun _ _ _ => trivial)
  | ifc t a ih => exact key rfl (fun u ⟨x, _, hx⟩ _ => ih.1 _ hx)

def rngL : List AV → Prop
  | [] => True
  | a :: r => rng a ∧ rngL r

theorem RL_rng {g : Gh} {w : World} : ∀ {l : List AV} {vs : List Value}, RL g w l vs → rngL l
  | [], _, _ => trivial
  | _ :: _, [], h => h.elim
  | a :: r, u :: s, h => ⟨(R_rng a).1 u h.1, RL_rng h.2⟩

/-- What comes in may be taken to be in range. -/
theorem pure_rng {P : Program} {gl : Nat → AV} {f : FuncId} {args : List AV} {r : AV} (ha : ∀ a ∈ args, nf a) (hr : nf r) (hgl : ∀ i, nf (gl i)) (h : rngL args → Pure P gl f args r) : Pure P gl f args r :=
  ⟨ha, hr, hgl, fun G w cargs h1 h2 h3 => (h (RL_rng h3)).2.2.2 G w cargs h1 h2 h3⟩

/-! Data in range can be laid out in some world. -/
def gB (w : World) : Gh := ⟨fun _ => none, fun _ => none, fun b => match w.heap[b]? with
  | some (.cells c _ _) => c.size
  | _ => 0⟩

structure Ext (w w' : World) : Prop where
  size : w.heap.size ≤ w'.heap.size
  old : ∀ b, b < w.heap.size → w'.heap[b]? = w.heap[b]?

theorem Ext.refl (w : World) : Ext w w := ⟨Nat.le_refl _, fun _ _ => rfl⟩
theorem Ext.trans {w w1 w2 : World} (h : Ext w w1) (h' : Ext w1 w2) : Ext w w2 :=
  ⟨Nat.le_trans h.size h'.size, fun b hb => (h'.old b (Nat.lt_of_lt_of_le hb h.size)).trans (h.old b hb)⟩

theorem Ext.lt {w : World} {b : Nat} {x : Obj} (h : w.heap[b]? = some x) : b < w.heap.size := lt_of_heap h

theorem Ext.ev {w w' : World} (h : Ext w w') : Ev (gB w) w (gB w') w' where
  m := fun _ _ h => by cases h
  r := fun _ _ _ h => by cases h
  pub := fun b off ho => by
    have hb : b < w.heap.size := by
      simp only [gB] at ho
      split at ho
      · rename_i h1; exact lt_of_heap h1
      · omega
    exact cell_old (h.old b hb)
  le := fun b => by
    show (gB w).G b ≤ (gB w').G b
    by_cases hb : b < w.heap.size
    · simp only [gB, h.old b hb]; exact Nat.le_refl _
    · have : w.heap[b]? = none := Array.getElem?_eq_none (by omega)
      simp only [gB, this]; exact Nat.zero_le _
  cap := fun b cs ty hb => ⟨cs, by rw [cel_eq (h.old b (lt_of_cel hb))]; exact hb, rfl⟩

theorem real : ∀ (a : AV), dta a → rng a → ∀ w : World, ∃ (w' : World) (cs : List Value), Ext w w' ∧ cs.length = size a ∧ (R (gB w') w' a).s (fun j => cs[j]?) 0 := by
  have up : ∀ {w w' : World} {a : AV} {cs : List Value}, Ext w w' → (R (gB w) w a).s (fun j => cs[j]?) 0 → (R (gB w') w' a).s (fun j => cs[j]?) 0 :=
    fun h hs => (R_ev h.ev _).s _ _ _ _ (fun _ _ => rfl) hs
  have rows : ∀ (f : Nat → AV) (e n : Nat), (∀ i, i < n → size (f i) = e ∧ ∀ w : World, ∃ (w' : World) (cs : List Value), Ext w w' ∧ cs.length = size (f i) ∧ (R (gB w') w' (f i)).s (fun j => cs[j]?) 0) →
      ∀ w : World, ∃ (w' : World) (cs : List Value), Ext w w' ∧ cs.length = n * e ∧ ∀ i, i < n → (R (gB w') w' (f i)).s (fun j => cs[j]?) (i * e) := by
    intro f e n
    induction n with
    | zero => exact fun _ w => ⟨w, [], Ext.refl w, by simp, fun i hi => absurd hi (Nat.not_lt_zero i)⟩
    | succ n ih =>
      intro h w
      obtain ⟨w1, cs, h1, h2, h3⟩ := ih (fun i hi => h i (by omega)) w
      obtain ⟨hs, hn⟩ := h n (by omega)
      obtain ⟨w2, ds, h4, h5, h6⟩ := hn w1
      refine ⟨w2, cs ++ ds, h1.trans h4, by rw [List.length_append, h2, h5, hs, Nat.succ_mul], fun i hi => ?_⟩
      by_cases c : i < n
      · refine (R_ev h4.ev _).s _ _ _ _ (fun j hj => ?_) (h3 i c)
        rw [(h i (by omega)).1] at hj
        have := mul_add_lt c hj
        show (cs ++ ds)[i * e + j]? = cs[i * e + j]?
        rw [List.getElem?_append_left (by omega)]
      · obtain rfl : i = n := by omega
        refine R_look (fun j hj => ?_) h6
        show (cs ++ ds)[i * e + j]? = ds[0 + j]?
        rw [List.getElem?_append_right (by omega)]
        congr 1
        omega
  intro a
  induction a with
  | val x =>
    intro _ hr w
    exact ⟨w, [x], Ext.refl w, rfl, x, rfl, rfl, hr⟩
  | any => intro _ _ w; exact ⟨w, [.bool true], Ext.refl w, rfl, .bool true, rfl, trivial⟩
  | nil => intro _ _ w; exact ⟨w, [], Ext.refl w, rfl, trivial⟩
  | ptr => intro h; exact h.elim
  | elt => intro h; exact h.elim
  | sli => intro h; exact h.elim
  | tup => intro h; exact h.elim
  | clo => intro h; exact h.elim
  | mp => intro h; exact h.elim
  | ifc => intro h; exact h.elim
  | st l ih =>
    intro hd hr w
    obtain ⟨w', cs, h1, h2, h3⟩ := ih hd hr w
    exact ⟨w', cs, h1, h2, h3⟩
  | cons a b iha ihb =>
    intro hd hr w
    obtain ⟨w1, cs, h1, h2, h3⟩ := iha hd.1 hr.1 w
    obtain ⟨w2, ds, h4, h5, h6⟩ := ihb hd.2 hr.2 w1
    refine ⟨w2, cs ++ ds, h1.trans h4, by simp only [List.length_append, size]; omega, (R_ev h4.ev _).s _ _ _ _ (fun j hj => ?_) h3, R_look (fun j hj => ?_) h6⟩
    · show (cs ++ ds)[0 + j]? = cs[0 + j]?
      rw [List.getElem?_append_left (by omega)]
    · show (cs ++ ds)[0 + size a + j]? = ds[0 + j]?
      rw [List.getElem?_append_right (by omega)]
      congr 1
      omega
  | arr n e f ih =>
    intro hd hr w
    obtain ⟨w', cs, h1, h2, h3⟩ := rows f e n (fun i hi => ⟨(hr i hi).1, ih i (hd i) (hr i hi).2⟩) w
    exact ⟨w', cs, h1, h2, fun i hi => ⟨(hr i hi).1, by rw [Nat.zero_add]; exact h3 i hi⟩⟩
  | lst tok n e f ih =>
    intro hd hr w
    obtain ⟨rfl, hd⟩ := hd
    obtain ⟨hn, hr⟩ := hr
    obtain ⟨w1, cs, h1, h2, h3⟩ := rows f e n (fun i hi => ⟨(hr i hi).1, ih i (hd i) (hr i hi).2⟩) w
    let w2 : World := w1.alloc (.cells cs.toArray 0)
    have e2 : Ext w1 w2 := ⟨by show _ ≤ (w1.heap.push _).size; rw [Array.size_push]; omega, fun b hb => by show (w1.heap.push _)[b]? = _; rw [Array.getElem?_push, if_neg (by omega)]⟩
    have hnew : w2.heap[w1.heap.size]? = some (.cells cs.toArray 0 (0, 0)) := by show (w1.heap.push _)[w1.heap.size]? = _; rw [Array.getElem?_push, if_pos rfl]
    refine ⟨w2, [.slice (some ⟨w1.heap.size, 0, none⟩) n n], h1.trans e2, rfl, _, rfl, ⟨some ⟨w1.heap.size, 0, none⟩, n, rfl, Nat.le_refl _, trivial, fun _ => rfl, fun h0 => ?_, fun i hi => ⟨(hr i hi).1, ?_⟩⟩, csl hn⟩
    · show 0 + n * e ≤ (gB w2).G w1.heap.size
      simp only [gB, hnew]
      simp; omega
    · refine (R_ev e2.ev _).s _ _ _ _ (fun j hj => ?_) (h3 i hi)
      have hs : size (f i) = e := (hr i hi).1
      rw [look_cells hnew]
      show cs.toArray[0 + i * e + j]? = cs[i * e + j]?
      simp

theorem realL : ∀ (l : List AV), (∀ a ∈ l, dta a ∧ rng a ∧ (isAg a || isCell a) = true) → ∀ w : World, ∃ (w' : World) (vs : List Value), Ext w w' ∧ RL (gB w') w' l vs := by
  intro l
  induction l with
  | nil => exact fun _ w => ⟨w, [], Ext.refl w, trivial⟩
  | cons a r ih =>
    intro h w
    obtain ⟨h1, h2, h3⟩ := h a (List.mem_cons_self ..)
    obtain ⟨w1, cs, e1, hl, hs⟩ := real a h1 h2 w
    obtain ⟨w2, vs, e2, hr⟩ := ih (fun x hx => h x (List.mem_cons_of_mem _ hx)) w1
    have : ∃ u, (R (gB w1) w1 a).v u := by
      rw [Bool.or_eq_true] at h3
      rcases h3 with h3 | h3
      · exact ⟨.agg cs.toArray, seg_ag h3 hs (by simp [hl]) (fun j hj => by simp)⟩
      · obtain ⟨u, _, hu, _⟩ := seg_cell h3 hs
        exact ⟨u, hu⟩
    obtain ⟨u, hu⟩ := this
    exact ⟨w2, u :: vs, e1.trans e2, (R_ev e2.ev a).v u hu, hr⟩

/-- Some world has the variables as they are told. -/
def GlW (gl : Nat → AV) : Prop := ∃ w0 : World, ∀ i, (R (gB w0) w0 (gl i)).v (.pointer (some ⟨i, 0, none⟩))

theorem glw_any {gl : Nat → AV} (h : ∀ i, gl i = .any) : GlW gl := ⟨default, fun i => by rw [h i]; trivial⟩

/-- One variable, a row of cells. -/
theorem glw_row {gl : Nat → AV} (n : Nat) (f : Nat → AV) (x : Nat → Value) (h0 : gl 0 = .elt 1 n (fun _ => .arr n 1 f) 0 []) (h : ∀ i, gl (i + 1) = .any) (hf : ∀ i, f i = .val (x i)) (hx : ∀ i, cellV (x i)) : GlW gl := by
  refine ⟨{ (default : World) with heap := #[.cells ((List.range n).map x).toArray 0 (0, 0)] }, fun i => ?_⟩
  cases i with
  | succ i => rw [h i]; trivial
  | zero =>
    rw [h0]
    refine ⟨⟨trivial, by decide, ⟨0, 0, none⟩, ⟨fun _ => rfl, fun _ => ?_, fun i hi => ⟨?_, ?_⟩⟩, by simp [offP]⟩, trivial⟩
    · simp [gB]
    · simp [size]
    · have hi0 : i = 0 := by omega
      subst hi0
      intro j hj
      refine ⟨by rw [hf]; rfl, ?_⟩
      rw [hf]
      refine ⟨x j, ?_, rfl, hx j⟩
      simp [look, World.cell?, hj]

/-- What a function gives for data in range is in range. -/
theorem Pure.rng {P : Program} {gl : Nat → AV} {f : FuncId} {args : List AV} {r : AV} (h : Pure P gl f args r) (hgl : GlW gl) (ha : ∀ a ∈ args, dta a ∧ rng a ∧ (isAg a || isCell a) = true) : rng r := by
  obtain ⟨w0, hw0⟩ := hgl
  obtain ⟨w, vs, hx, hr⟩ := realL args ha w0
  obtain ⟨e, w', fr, ⟨u, G', _, _, _, hu⟩, _⟩ := h.2.2.2 (gB w).G w vs (fun b hb => by
    have : w.heap[b]? = none := Array.getElem?_eq_none hb
    simp only [gB, this]) (fun i => (R_ev hx.ev _).v _ (hw0 i)) hr []
  exact (R_rng r).1 u hu

theorem PureX.rng {P : Program} {gl : Nat → AV} {f : FuncId} {args : List AV} {Q : AV → Prop} (h : PureX P gl f args Q) (hgl : GlW gl) (ha : ∀ a ∈ args, dta a ∧ rng a ∧ (isAg a || isCell a) = true) :
    PureX P gl f args (fun r => Q r ∧ rng r) := by
  obtain ⟨r, h1, h2, h3⟩ := h
  exact ⟨r, h1, ⟨h2, h3.rng hgl ha⟩, h3⟩

end Ar
namespace Ar
open Go
set_option linter.unusedVariables false
set_option autoImplicit false

theorem of_i64 {a : AV} (h : Of (.int .i64) a) : ∃ n, a = I n ∧ in64 n := by
  obtain ⟨n, rfl, h1, h2⟩ := h
  exact ⟨n, rfl, okI_i64.1 ⟨h1, h2⟩⟩

theorem maxLen_lt : maxLen < 9223372036854775808 := by decide

/-- A list that comes in is a list of things that come in. -/
theorem of_list {α : Type} [Inhabited α] {e : Nat} {t : Ty} {enc : α → AV} {ok : α → Prop} (hx : ∀ a, Of t a → ∃ m, LeA a (enc m) ∧ ok m) {a : AV} (h : Of (.sl e t) a) :
    ∃ xs : List α, LeA a (encL enc e xs) ∧ (∀ x ∈ xs, ok x) ∧ (xs.length ≤ maxLen ∧ xs.length * tby t ≤ 140737488351232) := by
  obtain ⟨n, f, rfl, hn, hf⟩ := h
  have hc : ∀ i, ∃ m, i < n → LeA (f i) (enc m) ∧ ok m := fun i => by
    by_cases hi : i < n
    · obtain ⟨m, h1, h2⟩ := hx _ (hf i hi)
      exact ⟨m, fun _ => ⟨h1, h2⟩⟩
    · exact ⟨default, fun h => absurd h hi⟩
  have hl : ((List.range n).map fun i => (hc i).choose).length = n := by simp
  refine ⟨(List.range n).map fun i => (hc i).choose, ?_, fun x hx => ?_, by rw [hl]; exact hn⟩
  · unfold encL encT
    rw [hl]
    refine LeA.lst (.inl rfl) fun i hi => ?_
    rw [at_lt (by rw [hl]; exact hi)]
    simpa using ((hc i).choose_spec hi).1
  · obtain ⟨i, hi, rfl⟩ := List.mem_map.1 hx
    exact ((hc i).choose_spec (by simpa using hi)).2

theorem rng_list {α : Type} [Inhabited α] {enc : α → AV} {e : Nat} {xs : List α} (h : ∀ x ∈ xs, size (enc x) = e ∧ rng (enc x)) (hl : xs.length ≤ maxLen) : rng (encL enc e xs) :=
  ⟨by have := maxLen_lt; omega, fun i hi => h _ (at_mem hi)⟩

theorem of_ints {a : AV} (h : Of (.sl 1 (.int .i64)) a) : ∃ xs : List Int, LeA a (encL I 1 xs) ∧ rng (encL I 1 xs) ∧ xs.length * 8 ≤ 140737488351232 := by
  obtain ⟨xs, h1, h2, h3, h4⟩ := of_list (enc := I) (ok := in64) (fun a h => by obtain ⟨n, rfl, hn⟩ := of_i64 h; exact ⟨n, LeA.refl _, hn⟩) h
  exact ⟨xs, h1, rng_list (fun x hx => ⟨rfl, okI_i64.2 (h2 x hx)⟩) h3, h4⟩

theorem ofL1 {t0 : Ty} {l : List AV} (h : OfL [t0] l) : ∃ a0, l = [a0] ∧ Of t0 a0 := by
  cases l with
  | nil => exact h.elim
  | cons a l =>
    cases l with
    | nil => exact ⟨a, rfl, h.1⟩
    | cons => exact h.2.elim

theorem ofL2 {t0 t1 : Ty} {l : List AV} (h : OfL [t0, t1] l) : ∃ a0 a1, l = [a0, a1] ∧ Of t0 a0 ∧ Of t1 a1 := by
  cases l with
  | nil => exact h.elim
  | cons a l =>
    obtain ⟨a1, rfl, hh⟩ := ofL1 h.2
    exact ⟨a, a1, rfl, h.1, hh⟩

theorem ofL3 {t0 t1 t2 : Ty} {l : List AV} (h : OfL [t0, t1, t2] l) : ∃ a0 a1 a2, l = [a0, a1, a2] ∧ Of t0 a0 ∧ Of t1 a1 ∧ Of t2 a2 := by
  cases l with
  | nil => exact h.elim
  | cons a l =>
    obtain ⟨a1, a2, rfl, hh⟩ := ofL2 h.2
    exact ⟨a, a1, a2, rfl, h.1, hh⟩

theorem ofL4 {t0 t1 t2 t3 : Ty} {l : List AV} (h : OfL [t0, t1, t2, t3] l) : ∃ a0 a1 a2 a3, l = [a0, a1, a2, a3] ∧ Of t0 a0 ∧ Of t1 a1 ∧ Of t2 a2 ∧ Of t3 a3 := by
  cases l with
  | nil => exact h.elim
  | cons a l =>
    obtain ⟨a1, a2, a3, rfl, hh⟩ := ofL3 h.2
    exact ⟨a, a1, a2, a3, rfl, h.1, hh⟩

theorem ofL5 {t0 t1 t2 t3 t4 : Ty} {l : List AV} (h : OfL [t0, t1, t2, t3, t4] l) : ∃ a0 a1 a2 a3 a4, l = [a0, a1, a2, a3, a4] ∧ Of t0 a0 ∧ Of t1 a1 ∧ Of t2 a2 ∧ Of t3 a3 ∧ Of t4 a4 := by
  cases l with
  | nil => exact h.elim
  | cons a l =>
    obtain ⟨a1, a2, a3, a4, rfl, hh⟩ := ofL4 h.2
    exact ⟨a, a1, a2, a3, a4, rfl, h.1, hh⟩

theorem ofL6 {t0 t1 t2 t3 t4 t5 : Ty} {l : List AV} (h : OfL [t0, t1, t2, t3, t4, t5] l) : ∃ a0 a1 a2 a3 a4 a5, l = [a0, a1, a2, a3, a4, a5] ∧ Of t0 a0 ∧ Of t1 a1 ∧ Of t2 a2 ∧ Of t3 a3 ∧ Of t4 a4 ∧ Of t5 a5 := by
  cases l with
  | nil => exact h.elim
  | cons a l =>
    obtain ⟨a1, a2, a3, a4, a5, rfl, hh⟩ := ofL5 h.2
    exact ⟨a, a1, a2, a3, a4, a5, rfl, h.1, hh⟩

theorem ofL7 {t0 t1 t2 t3 t4 t5 t6 : Ty} {l : List AV} (h : OfL [t0, t1, t2, t3, t4, t5, t6] l) : ∃ a0 a1 a2 a3 a4 a5 a6, l = [a0, a1, a2, a3, a4, a5, a6] ∧ Of t0 a0 ∧ Of t1 a1 ∧ Of t2 a2 ∧ Of t3 a3 ∧ Of t4 a4 ∧ Of t5 a5 ∧ Of t6 a6 := by
  cases l with
  | nil => exact h.elim
  | cons a l =>
    obtain ⟨a1, a2, a3, a4, a5, a6, rfl, hh⟩ := ofL6 h.2
    exact ⟨a, a1, a2, a3, a4, a5, a6, rfl, h.1, hh⟩

def tyPol : Ty := .st (.cons (.int .i64) (.cons (.int .i64) (.cons (.int .i64) (.cons (.int .i64) (.cons (.int .i64) (.cons (.int .i64) (.cons (.int .i64) (.cons (.int .i64) (.cons (.int .i64) (.cons (.int .i64) (.cons (.int .i64) (.cons (.int .i64) (.cons (.int .i64) (.cons (.int .i64) (.cons (.int .i64) (.cons (.int .i64) (.cons (.int .i64) (.cons (.sl 1 (.int .i64)) .nil))))))))))))))))))
theorem of_Pol {a : AV} (h : Of tyPol a) : ∃ p : Pol, LeA a (encPol p) ∧ rng (encPol p) ∧ p.holidays.length * 8 ≤ 140737488351232 := by
  obtain ⟨_, rfl, _, _, rfl, h0, _, _, rfl, h1, _, _, rfl, h2, _, _, rfl, h3, _, _, rfl, h4, _, _, rfl, h5, _, _, rfl, h6, _, _, rfl, h7, _, _, rfl, h8, _, _, rfl, h9, _, _, rfl, h10, _, _, rfl, h11, _, _, rfl, h12, _, _, rfl, h13, _, _, rfl, h14, _, _, rfl, h15, _, _, rfl, h16, _, _, rfl, h17, rfl⟩ := h
  obtain ⟨n0, rfl, r0⟩ := of_i64 h0
  obtain ⟨n1, rfl, r1⟩ := of_i64 h1
  obtain ⟨n2, rfl, r2⟩ := of_i64 h2
  obtain ⟨n3, rfl, r3⟩ := of_i64 h3
  obtain ⟨n4, rfl, r4⟩ := of_i64 h4
  obtain ⟨n5, rfl, r5⟩ := of_i64 h5
  obtain ⟨n6, rfl, r6⟩ := of_i64 h6
  obtain ⟨n7, rfl, r7⟩ := of_i64 h7
  obtain ⟨n8, rfl, r8⟩ := of_i64 h8
  obtain ⟨n9, rfl, r9⟩ := of_i64 h9
  obtain ⟨n10, rfl, r10⟩ := of_i64 h10
  obtain ⟨n11, rfl, r11⟩ := of_i64 h11
  obtain ⟨n12, rfl, r12⟩ := of_i64 h12
  obtain ⟨n13, rfl, r13⟩ := of_i64 h13
  obtain ⟨n14, rfl, r14⟩ := of_i64 h14
  obtain ⟨n15, rfl, r15⟩ := of_i64 h15
  obtain ⟨n16, rfl, r16⟩ := of_i64 h16
  obtain ⟨n17, l17, r17, w17⟩ := of_ints h17
  exact ⟨⟨n0, n1, n2, n3, n4, n5, n6, n7, n8, n9, n10, n11, n12, n13, n14, n15, n16, n17⟩, LeA.st (LeA.cons (LeA.refl _) (LeA.cons (LeA.refl _) (LeA.cons (LeA.refl _) (LeA.cons (LeA.refl _) (LeA.cons (LeA.refl _) (LeA.cons (LeA.refl _) (LeA.cons (LeA.refl _) (LeA.cons (LeA.refl _) (LeA.cons (LeA.refl _) (LeA.cons (LeA.refl _) (LeA.cons (LeA.refl _) (LeA.cons (LeA.refl _) (LeA.cons (LeA.refl _) (LeA.cons (LeA.refl _) (LeA.cons (LeA.refl _) (LeA.cons (LeA.refl _) (LeA.cons (LeA.refl _) (LeA.cons l17 (LeA.refl _))))))))))))))))))), ⟨okI_i64.2 r0, okI_i64.2 r1, okI_i64.2 r2, okI_i64.2 r3, okI_i64.2 r4, okI_i64.2 r5, okI_i64.2 r6, okI_i64.2 r7, okI_i64.2 r8, okI_i64.2 r9, okI_i64.2 r10, okI_i64.2 r11, okI_i64.2 r12, okI_i64.2 r13, okI_i64.2 r14, okI_i64.2 r15, okI_i64.2 r16, r17, trivial⟩, w17⟩

def tyOpn : Ty := .st (.cons (.int .i64) (.cons (.int .i64) (.cons (.int .i64) (.cons (.int .i64) (.cons (.int .i64) (.cons (.int .i64) (.cons .str .nil)))))))
theorem of_Opn {a : AV} (h : Of tyOpn a) : ∃ p : Opn, LeA a (encOpn p) ∧ rng (encOpn p) := by
  obtain ⟨_, rfl, _, _, rfl, h0, _, _, rfl, h1, _, _, rfl, h2, _, _, rfl, h3, _, _, rfl, h4, _, _, rfl, h5, _, _, rfl, h6, rfl⟩ := h
  obtain ⟨n0, rfl, r0⟩ := of_i64 h0
  obtain ⟨n1, rfl, r1⟩ := of_i64 h1
  obtain ⟨n2, rfl, r2⟩ := of_i64 h2
  obtain ⟨n3, rfl, r3⟩ := of_i64 h3
  obtain ⟨n4, rfl, r4⟩ := of_i64 h4
  obtain ⟨n5, rfl, r5⟩ := of_i64 h5
  obtain ⟨n6, rfl, r6⟩ := h6
  exact ⟨⟨n0, n1, n2, n3, n4, n5, n6⟩, LeA.st (LeA.cons (LeA.refl _) (LeA.cons (LeA.refl _) (LeA.cons (LeA.refl _) (LeA.cons (LeA.refl _) (LeA.cons (LeA.refl _) (LeA.cons (LeA.refl _) (LeA.cons (LeA.refl _) (LeA.refl _)))))))), ⟨okI_i64.2 r0, okI_i64.2 r1, okI_i64.2 r2, okI_i64.2 r3, okI_i64.2 r4, okI_i64.2 r5, (show n6.size ≤ 9223372036854775807 by have := maxLen_lt; omega), trivial⟩⟩

def tyNtc : Ty := .st (.cons (.int .i64) (.cons (.int .i64) (.cons (.int .i64) (.cons (.int .i64) (.cons (.int .i64) (.cons .bool .nil))))))
theorem of_Ntc {a : AV} (h : Of tyNtc a) : ∃ p : Ntc, LeA a (encNtc p) ∧ rng (encNtc p) := by
  obtain ⟨_, rfl, _, _, rfl, h0, _, _, rfl, h1, _, _, rfl, h2, _, _, rfl, h3, _, _, rfl, h4, _, _, rfl, h5, rfl⟩ := h
  obtain ⟨n0, rfl, r0⟩ := of_i64 h0
  obtain ⟨n1, rfl, r1⟩ := of_i64 h1
  obtain ⟨n2, rfl, r2⟩ := of_i64 h2
  obtain ⟨n3, rfl, r3⟩ := of_i64 h3
  obtain ⟨n4, rfl, r4⟩ := of_i64 h4
  obtain ⟨n5, rfl⟩ := h5
  exact ⟨⟨n0, n1, n2, n3, n4, n5⟩, LeA.st (LeA.cons (LeA.refl _) (LeA.cons (LeA.refl _) (LeA.cons (LeA.refl _) (LeA.cons (LeA.refl _) (LeA.cons (LeA.refl _) (LeA.cons (LeA.refl _) (LeA.refl _))))))), ⟨okI_i64.2 r0, okI_i64.2 r1, okI_i64.2 r2, okI_i64.2 r3, okI_i64.2 r4, trivial, trivial⟩⟩

theorem of_Opns {a : AV} (h : Of (.sl 7 tyOpn) a) : ∃ xs : List Opn, LeA a (encL encOpn 7 xs) ∧ rng (encL encOpn 7 xs) := by
  obtain ⟨xs, h1, h2, h3, h4⟩ := of_list (enc := encOpn) (ok := fun x => rng (encOpn x)) (fun a h => of_Opn h) h
  exact ⟨xs, h1, rng_list (fun x hx => ⟨rfl, h2 x hx⟩) h3⟩

end Ar
namespace Ar
open Go
set_option linter.unusedVariables false
set_option autoImplicit false

theorem ints_laid {P : Program} {W : World} {name : String} {g : Nat} {t e : TypeId} (L : List Int) (hg : P.globalNamed name = some g) (ht : (P.globals[g]?).map (·.type) = some t)
    (hu : P.underlying t = some (.array L.length e)) (he : P.underlying e = some (.int .i64)) (hc : P.cellsOf e = 1) (hct : P.cellsOf t = L.length)
    (h : laidMet P [(name, .agg (L.map fun n => .lit (.int .i64 n)))] W) :
    (R (g0 W) W (.elt 1 L.length (fun _ => .arr L.length 1 (fun i => I (at_ L i))) 0 [])).v (.pointer (some ⟨g, 0, none⟩)) := by
  obtain ⟨ps, ⟨g', t', cs, fuel, p, q, hg', ht', hvar, hd, _, _⟩, _⟩ := h
  obtain rfl := Option.some.inj (hg.symm.trans hg')
  obtain rfl := Option.some.inj (ht.symm.trans ht')
  obtain ⟨xs, m, hm, hx, hlen, hxl, hf⟩ := DataW.trod_array hu hd
  have hcell : ∀ i, i < L.length → W.cell? ⟨g, i, none⟩ = some (.int .i64 (at_ L i)) ∧ okI .i64 (at_ L i) := fun i hi => by
    have h1 := hf i hi
    rw [hc, List.getElem?_eq_getElem (by omega : i < xs.length)] at h1
    obtain ⟨n, h2, h3, hw⟩ := DataW.trod_int he h1
    have hx1 : (DataW.agg (L.map fun n => .lit (.int .i64 n)) : DataW Unit) = .agg (xs.map (·.1)) := congrArg Prod.fst hx
    injection hx1 with hx1
    have h4 : (L.map fun n => (.lit (.int .i64 n) : DataW Unit))[i]? = (xs.map (·.1))[i]? := by rw [hx1]
    rw [List.getElem?_map, List.getElem?_map, List.getElem?_eq_getElem hi, List.getElem?_eq_getElem (by omega : i < xs.length)] at h4
    simp only [Option.map_some, Option.some.injEq] at h4
    rw [h3] at h4
    injection h4 with h4
    injection h4 with _ h4
    have hn : at_ L i = n := by rw [at_lt hi, h4]
    have hcs : cs.toList[i]? = some (.int .i64 n) := by
      have h5 : (((cs.toList.drop (i * 1)).take 1))[0]? = some (Value.int .i64 n) := by rw [h2]; rfl
      simpa using h5
    refine ⟨?_, ?_⟩
    · rw [hn, ← hcs]
      have := World.var?_cell hg hvar i
      rw [this]
      simp
    · rw [hn]
      simp only [Lit.wf, Bool.and_eq_true, decide_eq_true_eq] at hw
      exact hw
  refine ⟨⟨trivial, by decide, ⟨g, 0, none⟩, ⟨fun _ => rfl, fun h0 => ?_, fun i hi => ⟨by simp [size], fun j hj => ⟨rfl, ?_⟩⟩⟩, by simp [offP]⟩, trivial⟩
  · have hl : 0 < L.length := by simpa using h0
    have := (cell?_lt (hcell (L.length - 1) (by omega)).1).2
    simp only at this
    show 0 + 1 * L.length ≤ GW W g
    omega
  · obtain ⟨h1, h2⟩ := hcell j hj
    have hi0 : i = 0 := by omega
    subst hi0
    refine ⟨_, ?_, rfl, h2⟩
    show W.cell? ⟨g, 0 + 0 * L.length + j * 1, none⟩ = _
    rw [← h1]
    simp

end Ar
namespace Ar
open Go
set_option linter.unusedVariables false
set_option autoImplicit false

theorem nums_laid {P : Program} {W : World} {name : String} {g : Nat} {t e : TypeId} {k : IntKind} {r : List (String × DataW Unit)} (L : List Int) (hg : P.globalNamed name = some g) (ht : (P.globals[g]?).map (·.type) = some t)
    (hu : P.underlying t = some (.array L.length e)) (he : P.underlying e = some (.int k)) (hc : P.cellsOf e = 1) (hct : P.cellsOf t = L.length)
    (h : laidMet P ((name, .agg (L.map fun n => .lit (.int k n))) :: r) W) :
    (R (g0 W) W (.elt 1 L.length (fun _ => .arr L.length 1 (fun i => .val (.int k (at_ L i)))) 0 [])).v (.pointer (some ⟨g, 0, none⟩)) := by
  obtain ⟨ps, ⟨g', t', cs, fuel, p, q, hg', ht', hvar, hd, _, _⟩, _⟩ := h
  obtain rfl := Option.some.inj (hg.symm.trans hg')
  obtain rfl := Option.some.inj (ht.symm.trans ht')
  obtain ⟨xs, m, hm, hx, hlen, hxl, hf⟩ := DataW.trod_array hu hd
  have hcell : ∀ i, i < L.length → W.cell? ⟨g, i, none⟩ = some (.int k (at_ L i)) ∧ okI k (at_ L i) := fun i hi => by
    have h1 := hf i hi
    rw [hc, List.getElem?_eq_getElem (by omega : i < xs.length)] at h1
    obtain ⟨n, h2, h3, hw⟩ := DataW.trod_int he h1
    have hx1 : (DataW.agg (L.map fun n => .lit (.int k n)) : DataW Unit) = .agg (xs.map (·.1)) := congrArg Prod.fst hx
    injection hx1 with hx1
    have h4 : (L.map fun n => (.lit (.int k n) : DataW Unit))[i]? = (xs.map (·.1))[i]? := by rw [hx1]
    rw [List.getElem?_map, List.getElem?_map, List.getElem?_eq_getElem hi, List.getElem?_eq_getElem (by omega : i < xs.length)] at h4
    simp only [Option.map_some, Option.some.injEq] at h4
    rw [h3] at h4
    injection h4 with h4
    injection h4 with _ h4
    have hn : at_ L i = n := by rw [at_lt hi, h4]
    have hcs : cs.toList[i]? = some (.int k n) := by
      have h5 : (((cs.toList.drop (i * 1)).take 1))[0]? = some (Value.int k n) := by rw [h2]; rfl
      simpa using h5
    refine ⟨?_, ?_⟩
    · rw [hn, ← hcs]
      have := World.var?_cell hg hvar i
      rw [this]
      simp
    · rw [hn]
      simp only [Lit.wf, Bool.and_eq_true, decide_eq_true_eq] at hw
      exact hw
  refine ⟨⟨trivial, by decide, ⟨g, 0, none⟩, ⟨fun _ => rfl, fun h0 => ?_, fun i hi => ⟨by simp [size], fun j hj => ⟨rfl, ?_⟩⟩⟩, by simp [offP]⟩, trivial⟩
  · have hl : 0 < L.length := by simpa using h0
    have := (cell?_lt (hcell (L.length - 1) (by omega)).1).2
    simp only at this
    show 0 + 1 * L.length ≤ GW W g
    omega
  · obtain ⟨h1, h2⟩ := hcell j hj
    have hi0 : i = 0 := by omega
    subst hi0
    refine ⟨_, ?_, rfl, h2⟩
    show W.cell? ⟨g, 0 + 0 * L.length + j * 1, none⟩ = _
    rw [← h1]
    simp

theorem texts_laid {P : Program} {W : World} {name : String} {g : Nat} {t e : TypeId} {r : List (String × DataW Unit)} (L : List ByteArray) (hg : P.globalNamed name = some g) (ht : (P.globals[g]?).map (·.type) = some t)
    (hu : P.underlying t = some (.array L.length e)) (he : P.underlying e = some .string) (hc : P.cellsOf e = 1) (hct : P.cellsOf t = L.length)
    (h : laidMet P ((name, .agg (L.map fun s => .lit (.string s.data.toList))) :: r) W) :
    (R (g0 W) W (.elt 1 L.length (fun _ => .arr L.length 1 (fun i => .val (.string (at_ L i)))) 0 [])).v (.pointer (some ⟨g, 0, none⟩)) := by
  obtain ⟨ps, ⟨g', t', cs, fuel, p, q, hg', ht', hvar, hd, _, _⟩, _⟩ := h
  obtain rfl := Option.some.inj (hg.symm.trans hg')
  obtain rfl := Option.some.inj (ht.symm.trans ht')
  obtain ⟨xs, m, hm, hx, hlen, hxl, hf⟩ := DataW.trod_array hu hd
  have hcell : ∀ i, i < L.length → W.cell? ⟨g, i, none⟩ = some (.string (at_ L i)) ∧ (at_ L i).size ≤ 9223372036854775807 := fun i hi => by
    have h1 := hf i hi
    rw [hc, List.getElem?_eq_getElem (by omega : i < xs.length)] at h1
    obtain ⟨n, h2, h3, hw⟩ := DataW.trod_string he h1
    have hx1 : (DataW.agg (L.map fun s => .lit (.string s.data.toList)) : DataW Unit) = .agg (xs.map (·.1)) := congrArg Prod.fst hx
    injection hx1 with hx1
    have h4 : (L.map fun s => (.lit (.string s.data.toList) : DataW Unit))[i]? = (xs.map (·.1))[i]? := by rw [hx1]
    rw [List.getElem?_map, List.getElem?_map, List.getElem?_eq_getElem hi, List.getElem?_eq_getElem (by omega : i < xs.length)] at h4
    simp only [Option.map_some, Option.some.injEq] at h4
    rw [h3] at h4
    injection h4 with h4
    injection h4 with h4
    have hn : at_ L i = n := by
      rw [at_lt hi]
      exact ByteArray.ext (Array.toList_inj.mp h4)
    have hcs : cs.toList[i]? = some (.string n) := by
      have h5 : (((cs.toList.drop (i * 1)).take 1))[0]? = some (Value.string n) := by rw [h2]; rfl
      simpa using h5
    refine ⟨?_, ?_⟩
    · rw [hn, ← hcs]
      have := World.var?_cell hg hvar i
      rw [this]
      simp
    · rw [hn]
      exact Nat.le_trans hw (by decide)
  refine ⟨⟨trivial, by decide, ⟨g, 0, none⟩, ⟨fun _ => rfl, fun h0 => ?_, fun i hi => ⟨by simp [size], fun j hj => ⟨rfl, ?_⟩⟩⟩, by simp [offP]⟩, trivial⟩
  · have hl : 0 < L.length := by simpa using h0
    have := (cell?_lt (hcell (L.length - 1) (by omega)).1).2
    simp only at this
    show 0 + 1 * L.length ≤ GW W g
    omega
  · obtain ⟨h1, h2⟩ := hcell j hj
    have hi0 : i = 0 := by omega
    subst hi0
    refine ⟨_, ?_, rfl, h2⟩
    show W.cell? ⟨g, 0 + 0 * L.length + j * 1, none⟩ = _
    rw [← h1]
    simp

theorem laid_tail {P : Program} {x : String × DataW Unit} {r : List (String × DataW Unit)} {W : World} (h : laidMet P (x :: r) W) : laidMet P r W := by
  obtain ⟨n, d⟩ := x
  obtain ⟨ps, ⟨g, t, cs, fuel, p, q, _, _, _, _, hq, rfl⟩, hn, hc⟩ := h
  exact ⟨q, hq, (List.nodup_append.1 hn).2.1, fun b off hm => hc b off (List.mem_append_right _ hm)⟩

end Ar
namespace Ar
open Go
set_option linter.unusedVariables false
set_option autoImplicit false

def frz (k sz : Nat) (a : AV) : AV → AV
  | .ptr o p => match Nat.beq o k with
    | true => .elt 1 sz (fun _ => a) 0 p
    | false => .ptr o p
  | .elt n e f i p => .elt n e (fun i => frz k sz a (f i)) i p
  | .lst t n e f => .lst t n e (fun i => frz k sz a (f i))
  | .arr n e f => .arr n e (fun i => frz k sz a (f i))
  | .st l => .st (frz k sz a l)
  | .cons x y => .cons (frz k sz a x) (frz k sz a y)
  | .tup l => .tup (frz k sz a l)
  | .clo fn x y => .clo fn (frz k sz a x) (frz k sz a y)
  | .ifc t x => .ifc t (frz k sz a x)
  | .val x => .val x
  | .any => .any
  | .sli o lo n e ty => .sli o lo n e ty
  | .nil => .nil
  | .mp o => .mp o

theorem size_frz (k sz : Nat) (a : AV) : ∀ x, size (frz k sz a x) = size x := by
  intro x
  induction x with
  | ptr o p => simp only [frz]; split <;> rfl
  | arr n e f ih => rfl
  | st l ih => simpa [frz, size] using ih
  | cons x y ihx ihy => simp [frz, size, ihx, ihy]
  | _ => rfl

def frzObj (k sz : Nat) (a : AV) : AObj → AObj
  | .box x => .box (frz k sz a x)
  | .room m e ty => .room m e ty
  | .soon => .soon
  | .dict q f => .dict q (fun n => (f n).map (frz k sz a))

def frzE (k sz : Nat) (a : AV) : Env → Env
  | [] => []
  | (t, x) :: r => (t, frz k sz a x) :: frzE k sz a r

def frzO (k sz : Nat) (a : AV) : Objs → Objs
  | [] => []
  | (t, x) :: r => (t, frzObj k sz a x) :: frzO k sz a r

theorem lookE_frz (k sz : Nat) (a : AV) (t : Nat) : ∀ e : Env, lookE t (frzE k sz a e) = frz k sz a (lookE t e)
  | [] => rfl
  | (q, x) :: r => by
    simp only [frzE, lookE_cons]
    by_cases hq : q = t
    · rw [if_pos hq, if_pos hq]
    · rw [if_neg hq, if_neg hq]; exact lookE_frz k sz a t r

theorem lookO_frz (k sz : Nat) (a : AV) (t : Nat) : ∀ o : Objs, lookO t (frzO k sz a o) = (lookO t o).map (frzObj k sz a)
  | [] => rfl
  | (q, x) :: r => by
    simp only [frzO, lookO_cons]
    by_cases hq : q = t
    · rw [if_pos hq, if_pos hq]; rfl
    · rw [if_neg hq, if_neg hq]; exact lookO_frz k sz a t r

structure Fz (g : Gh) (w : World) (g' : Gh) (k sz : Nat) (a x : AV) : Prop where
  v : ∀ u, (R g w x).v u → (R g' w (frz k sz a x)).v u
  s : ∀ lk off, (R g w x).s lk off → (R g' w (frz k sz a x)).s lk off
  l : ∀ vs, (R g w x).l vs → (R g' w (frz k sz a x)).l vs

theorem fz_one {g g' : Gh} {w : World} {k sz : Nat} {a x : AV} {p p' : Value → Prop} (e : R g w x = one p) (e' : R g' w (frz k sz a x) = one p')
    (h : ∀ u, p u → p' u) : Fz g w g' k sz a x where
  v := fun u hu => by rw [e] at hu; rw [e']; exact ⟨h u hu.1, hu.2⟩
  s := fun lk off hu => by rw [e] at hu; rw [e']; obtain ⟨u, h1, h2, h3⟩ := hu; exact ⟨u, h1, h u h2, h3⟩
  l := fun vs hu => by rw [e] at hu; exact hu.elim

theorem row_frz {g g' : Gh} {w : World} {k sz : Nat} {a : AV} (hev : Ev g w g' w) {n e : Nat} {f : Nat → AV} {A : Addr} (ih : ∀ i, Fz g w g' k sz a (f i))
    (hr : Row w g.G n e (fun i => size (f i)) (fun i => (R g w (f i)).s) A) : Row w g'.G n e (fun i => size (frz k sz a (f i))) (fun i => (R g' w (frz k sz a (f i))).s) A := by
  obtain ⟨h1, h2, h3⟩ := hr
  refine ⟨h1, fun hp => Nat.le_trans (h2 hp) (hev.le _), fun i hi => ?_⟩
  obtain ⟨hs, hc⟩ := h3 i hi
  exact ⟨(size_frz k sz a (f i)).trans hs, (ih i).s _ _ hc⟩

theorem R_frz {g g' : Gh} {w : World} (hev : Ev g w g' w) {k : Nat} {a : AV} (hk : ∀ b, g.m k = some b → b.2 = 0 ∧ Row w g'.G 1 (size a) (fun _ => size a) (fun _ => (R g' w a).s) ⟨b.1, 0, none⟩) :
    ∀ x, Fz g w g' k (size a) a x := by
  intro x
  induction x with
  | val x => exact fz_one rfl rfl (fun u hu => hu)
  | any => exact ⟨fun _ _ => trivial, fun lk off h => h, fun _ hf => hf.elim⟩
  | ptr o p =>
    by_cases e : o = k
    · subst e
      have e2 : frz o (size a) a (.ptr o p) = .elt 1 (size a) (fun _ => a) 0 p := by simp only [frz, beq_self]
      refine fz_one (p' := fun u => okPath p ∧ 0 < 1 ∧ ∃ A, Row w g'.G 1 (size a) (fun _ => size a) (fun _ => (R g' w a).s) A ∧ u = .pointer (some ⟨A.block, A.off + (0 * size a + offP p), none⟩)) rfl (by rw [e2]; rfl) ?_
      rintro u ⟨b, hp, hb, rfl⟩
      obtain ⟨h1, h2⟩ := hk b hb
      refine ⟨hp, by decide, _, h2, ?_⟩
      simp [h1]
    · have e2 : frz k (size a) a (.ptr o p) = .ptr o p := by simp only [frz, beq_of_ne e]
      refine ⟨fun u hu => ?_, fun lk off hu => ?_, fun _ hf => hf.elim⟩
      · rw [e2]; exact (R_ev hev _).v _ hu
      · rw [e2]; exact (R_ev hev _).s _ _ _ _ (fun _ _ => rfl) hu
  | elt n e f i p ih => exact fz_one rfl rfl (fun u ⟨hp, hi, A, hr, hu⟩ => ⟨hp, hi, A, row_frz hev ih hr, hu⟩)
  | lst tok n e f ih =>
    refine fz_one rfl rfl ?_
    rintro u ⟨oa, c, hu, hc, ht, hm⟩
    refine ⟨oa, c, hu, hc, tokOk_ev hev ht, ?_⟩
    cases oa with
    | none => exact hm
    | some A => exact row_frz hev ih hm
  | sli o lo n e ty => exact ⟨fun u hu => (R_ev hev _).v u hu, fun lk off hu => (R_ev hev _).s _ _ _ _ (fun _ _ => rfl) hu, fun _ hf => hf.elim⟩
  | arr n e f ih =>
    exact ⟨fun u ⟨cs, hu, hs, hc⟩ => ⟨cs, hu, hs, fun i hi => ⟨(size_frz _ _ _ (f i)).trans (hc i hi).1, (ih i).s _ _ (hc i hi).2⟩⟩,
      fun lk off hc i hi => ⟨(size_frz _ _ _ (f i)).trans (hc i hi).1, (ih i).s _ _ (hc i hi).2⟩, fun _ hf => hf.elim⟩
  | st l ih => exact ⟨fun u ⟨cs, hu, hs, hc⟩ => ⟨cs, hu, hs.trans (size_frz _ _ _ l).symm, ih.s _ _ hc⟩, fun lk off hc => ih.s _ _ hc, fun _ hf => hf.elim⟩
  | cons x y ihx ihy =>
    refine ⟨fun _ hf => hf.elim, fun lk off ⟨h1, h2⟩ => ⟨ihx.s _ _ h1, ?_⟩, fun vs => ?_⟩
    · rw [size_frz]; exact ihy.s _ _ h2
    · cases vs with
      | nil => exact fun hf => hf.elim
      | cons u r => exact fun ⟨h1, h2⟩ => ⟨ihx.v u h1, ihy.l r h2⟩
  | nil => exact ⟨fun _ hf => hf.elim, fun _ _ _ => trivial, fun _ h => h⟩
  | tup l ih => exact ⟨fun u ⟨vs, hu, hc⟩ => ⟨vs, hu, ih.l _ hc⟩, fun _ _ hf => hf.elim, fun _ hf => hf.elim⟩
  | clo fn x y ihx ihy => exact fz_one rfl rfl (fun u ⟨xs, ys, hu, h1, h2⟩ => ⟨xs, ys, hu, ihx.l _ h1, ihy.l _ h2⟩)
  | mp o => exact ⟨fun u hu => (R_ev hev _).v u hu, fun lk off hu => (R_ev hev _).s _ _ _ _ (fun _ _ => rfl) hu, fun _ hf => hf.elim⟩
  | ifc t x ih => exact fz_one rfl rfl (fun u ⟨y, hu, hx⟩ => ⟨y, hu, ih.v _ hx⟩)

section
variable {P : Program} {gl : Nat → AV} {N : Nat}

theorem le_frz {e : Env} {o : Objs} {n : Nat} (k : Nat) {a : AV} (ho : lookO k o = some (.box a)) (hk : Nat.blt k LENT = true := by rfl) :
    LeSt gl N e o n (frzE k (size a) a e) (frzO k (size a) a (dropO k o)) n := by
  intro P g w act h
  have hk : k < LENT := Nat.le_of_ble_eq_true hk
  obtain ⟨d1, d2⟩ := good_drop h k
  have hl : ∀ q x, lookO q (dropO k o) = some x → q ≠ k ∧ lookO q o = some x := fun q x hq => by
    rw [lookO_dropO] at hq
    by_cases e : q = k
    · rw [if_pos e] at hq; cases hq
    · rw [if_neg e] at hq; exact ⟨e, hq⟩
  have hfo : ∀ q x, lookO q (frzO k (size a) a (dropO k o)) = some x → ∃ y, q ≠ k ∧ lookO q o = some y ∧ x = frzObj k (size a) a y := fun q x hq => by
    rw [lookO_frz] at hq
    cases hy : lookO q (dropO k o) with
    | none => rw [hy] at hq; cases hq
    | some y =>
      rw [hy] at hq
      obtain ⟨h1, h2⟩ := hl q y hy
      exact ⟨y, h1, h2, (Option.some.inj hq).symm⟩
  have blkf : ∀ (g : Gh) q y, blkOf g q (frzObj k (size a) a y) = blkOf g q y := fun g q y => by cases y <;> rfl
  have key : ∃ g' : Gh, g'.m = g.m ∧ g'.r = g.r ∧ Ev g w g' w ∧ (∀ b, g.m k = some b → b.2 = 0 ∧ Row w g'.G 1 (size a) (fun _ => size a) (fun _ => (R g' w a).s) ⟨b.1, 0, none⟩) ∧
      (∀ q, (∀ b, g.m k = some b → q ≠ b.1) → g'.G q = g.G q) ∧ (∀ q, w.heap.size ≤ q → g'.G q = 0) := by
    obtain ⟨h0, h1⟩ | ⟨b, cs, ty, h1, h2, h3, h4, h5, h6⟩ := h.objs k _ ho
    · exact ⟨g, rfl, rfl, Ev.refl g w, fun b hb => (by rw [h0] at hb; cases hb), fun _ _ => rfl, h.gz⟩
    · have h6 := h6 hk
      obtain ⟨b, off⟩ := b
      simp only at h1 h2 h3 h4 h5 h6
      subst h6
      let g' : Gh := { g with G := fun q => if q = b then size a else g.G q }
      have hG : ∀ q, q ≠ b → g'.G q = g.G q := fun q hq => if_neg hq
      have hGb : g'.G b = size a := if_pos rfl
      have hev : Ev g w g' w := ⟨fun _ _ h => h, fun t ob N ht => ⟨ob, N, ht, Nat.le_refl _, fun _ => rfl⟩, fun _ _ _ => rfl, fun q => by
        by_cases e : q = b
        · subst e; rw [h2]; exact Nat.zero_le _
        · rw [hG q e]; exact Nat.le_refl _, fun _ cs _ hb => ⟨cs, hb, rfl⟩⟩
      refine ⟨g', rfl, rfl, hev, fun c hc => ?_, fun q hq => hG q (hq (b, 0) h1), fun q hq => ?_⟩
      · rw [h1] at hc
        injection hc with hc
        subst hc
        refine ⟨rfl, fun _ => rfl, fun _ => ?_, fun i hi => ⟨rfl, ?_⟩⟩
        · show 0 + 1 * size a ≤ g'.G b
          rw [hGb]; omega
        · have : i = 0 := by omega
          subst this
          have := (R_ev hev a).s _ _ (look w b) 0 (fun _ _ => rfl) h5
          simpa using this
      · by_cases e : q = b
        · subst e
          have := lt_of_cel h3
          omega
        · rw [hG q e]; exact h.gz q hq
  obtain ⟨g', gm, gr, hev, hrow, hG, hz⟩ := key
  have fz := R_frz hev hrow
  have hblk : ∀ q x, blkOf g' q x = blkOf g q x := fun q x => blk_same (congrFun gm q) (congrFun gr q)
  have hGne : ∀ q y c, q ≠ k → lookO q o = some y → blkOf g q y = some c → g'.G c = g.G c := fun q y c e1 e2 hc => hG c fun b hb e => by
    subst e
    exact e1 (h.inj q y k _ _ e2 ho hc (by simp [blkOf, hb]))
  refine ⟨g', ⟨fun q x hq => ?_, fun q x q' x' c a1 a2 a3 a4 => ?_, fun q x hq => ?_, fun q b hq => h.mlt q b (by rw [← gm]; exact hq), fun q b hq => h.rlt q b (by rw [← gr]; exact hq), fun t => ?_, h.sz, h.def_, hz, fun i => (R_ev hev _).v _ (h.gl i)⟩,
    ⟨Nat.le_refl _, fun q hq hno => ⟨rfl, hG q fun b hb e => hno ⟨k, _, ho, by subst e; simp [blkOf, hb]⟩⟩, fun q ⟨x, y, a1, a2⟩ => ?_, fun _ _ _ => rfl, hev.le, hev.cap, fun _ _ _ _ => rfl, fun q j ⟨x, y, a1, a2⟩ => ?_, fun q _ => congrFun gm q, fun t ob M ht hr => ⟨ob, M, by rw [gr]; exact hr, Nat.le_refl _, fun _ => rfl⟩, rfl, rfl⟩⟩
  · obtain ⟨y, e1, e2, rfl⟩ := hfo q x hq
    have := obj_ev hev (h.objs q y e2) (congrFun gm q) (fun ob hp => by rw [gr]; exact hp) (fun c hc => ⟨hGne q y c e1 e2 hc, rfl⟩)
    have hold := h.objs q y e2
    cases y with
    | box y =>
      obtain ⟨a0, a1⟩ | ⟨b, cs, ty, b1, b2, b3, b4, b5, b6⟩ := hold
      · exact .inl ⟨by rw [gm]; exact a0, by rw [size_frz]; exact a1⟩
      · refine .inr ⟨b, cs, ty, by rw [gm]; exact b1, ?_, b3, by rw [size_frz]; exact b4, (fz y).s _ _ b5, b6⟩
        rw [hGne q _ b.1 e1 e2 (by simp [blkOf, b1])]; exact b2
    | room m e ty => exact this
    | soon => exact this
    | dict kd f =>
      obtain ⟨b, es, cl, b1, b2, b3, b4, b5, b6⟩ := hold
      refine ⟨b, es, cl, by rw [gm]; exact b1, ?_, b3, b4, b5, fun x => ?_⟩
      · rw [hGne q _ b e1 e2 (by simp [blkOf, b1])]; exact b2
      · have := b6 x
        show (match (f x).map (frz k (size a) a) with
          | none => lkp kd es.toList x = none
          | some v => ∃ u, lkp kd es.toList x = some u ∧ (R g' w v).v u)
        cases hf : f x with
        | none => rw [hf] at this; exact this
        | some v =>
          rw [hf] at this
          obtain ⟨u, h9, h10⟩ := this
          exact ⟨u, h9, (fz v).v u h10⟩
  · obtain ⟨y, e1, e2, rfl⟩ := hfo q x a1
    obtain ⟨y', e3, e4, rfl⟩ := hfo q' x' a2
    rw [hblk, blkf] at a3 a4
    exact h.inj q y q' y' c e2 e4 a3 a4
  · obtain ⟨y, e1, e2, rfl⟩ := hfo q x hq
    exact h.blt q y e2
  · show (R g' w (lookE t (frzE k (size a) a e))).v _
    rw [lookE_frz]
    exact (fz _).v _ (h.env t)
  · obtain ⟨z, e1, e2, rfl⟩ := hfo x y a1
    rw [hblk, blkf] at a2
    exact .inl ⟨x, z, e2, a2⟩
  · obtain ⟨z, e1, e2, rfl⟩ := hfo x y a1
    refine .inl ⟨x, z, e2, ?_⟩
    cases z with
    | box z => obtain ⟨off, a3, a4⟩ := a2; exact ⟨off, by rw [← gm]; exact a3, by rw [size_frz] at a4; exact a4⟩
    | room m e ty => show (g.r x).bind _ = _; rw [← gr]; exact a2
    | soon => exact a2
    | dict kd f => obtain ⟨off, a3⟩ := a2; exact ⟨off, by rw [← gm]; exact a3⟩

end
end Ar
