/- Calls that write into what is lent to them, and that give what they make to their caller. No condition. -/
import Derived.Test.YtankpibkakfnhaaDoorK06
set_option linter.all false
namespace Ar
open Go
set_option linter.unusedVariables false
set_option autoImplicit false

/-- The names of lent boxes, in the callee. -/
abbrev B0 : Nat := 2000000

/-- Values that speak of boxes (but of no growing rows, no maps). -/
def nk : AV → Prop
  | .mp _ => False
  | .elt n _ f _ _ => ∀ i, nk (f i)
  | .lst tok n _ f => tok = none ∧ ∀ i, nk (f i)
  | .arr n _ f => ∀ i, nk (f i)
  | .st l => nk l
  | .cons a b => nk a ∧ nk b
  | .tup l => nk l
  | .clo _ a b => nk a ∧ nk b
  | .ifc _ a => nk a
  | _ => True

theorem nk_nf : ∀ a, nf a → nk a := by
  intro a
  induction a with
  | elt n e f i p ih => intro h i; exact ih i (h i)
  | lst tok n e f ih => intro h; exact ⟨h.1, fun i => ih i (h.2 i)⟩
  | arr n e f ih => intro h i; exact ih i (h i)
  | st l ih => intro h; exact ih h
  | cons a b iha ihb => intro h; exact ⟨iha h.1, ihb h.2⟩
  | tup l ih => intro h; exact ih h
  | clo fn a b iha ihb => intro h; exact ⟨iha h.1, ihb h.2⟩
  | ifc t a ih => intro h; exact ih h
  | mp o => intro h; exact h.elim
  | _ => intro _; trivial

/-- The callee's names for what it is given (for good) and for what is lent to it. -/
def dom (c m k : Nat) : Prop := k < c ∨ (B0 ≤ k ∧ k < B0 + m)

instance (c m k : Nat) : Decidable (dom c m k) := by unfold dom; infer_instance

/-- Values that speak of those boxes alone. -/
def il (c m : Nat) : AV → Prop
  | .ptr o _ => dom c m o
  | .sli o _ _ _ _ => dom c m o
  | .mp _ => False
  | .elt n _ f _ _ => ∀ i, il c m (f i)
  | .lst tok n _ f => tok = none ∧ ∀ i, il c m (f i)
  | .arr n _ f => ∀ i, il c m (f i)
  | .st l => il c m l
  | .cons a b => il c m a ∧ il c m b
  | .tup l => il c m l
  | .clo _ a b => il c m a ∧ il c m b
  | .ifc _ a => il c m a
  | _ => True

theorem il_nf {c m : Nat} : ∀ a, nf a → il c m a := by
  intro a
  induction a with
  | ptr o p => intro h; exact h.elim
  | sli o lo n e ty => intro h; exact h.elim
  | mp o => intro h; exact h.elim
  | elt n e f i p ih => intro h i; exact ih i (h i)
  | lst tok n e f ih => intro h; exact ⟨h.1, fun i => ih i (h.2 i)⟩
  | arr n e f ih => intro h i; exact ih i (h i)
  | st l ih => intro h; exact ih h
  | cons a b iha ihb => intro h; exact ⟨iha h.1, ihb h.2⟩
  | tup l ih => intro h; exact ih h
  | clo fn a b iha ihb => intro h; exact ⟨iha h.1, ihb h.2⟩
  | ifc t a ih => intro h; exact ih h
  | _ => intro _; trivial

/-- The caller's name for the callee's, behind the call. -/
def tau (n : Nat) (ts : List Nat) (k : Nat) : Nat := if k < B0 then n + k else ts.getD (k - B0) 0

/-- The caller's name for the callee's, ahead of the call. -/
def sg (cs ts : List Nat) (k : Nat) : Nat := if k < B0 then cs.getD k 0 else ts.getD (k - B0) 0

def low (g : Gh) (cs ts : List Nat) : Gh := ⟨fun k => if dom cs.length ts.length k then g.m (sg cs ts k) else none, fun _ => none, g.G⟩

theorem low_m {g : Gh} {cs ts : List Nat} {o : Nat} (h : dom cs.length ts.length o) : (low g cs ts).m o = g.m (sg cs ts o) := if_pos h

theorem low_G (g : Gh) (cs ts : List Nat) : (low g cs ts).G = g.G := rfl

theorem R_il {g : Gh} {w : World} {cs ts : List Nat} : ∀ a, il cs.length ts.length a → R (low g cs ts) w a = R g w (ren (sg cs ts) a) := by
  intro a
  induction a with
  | ptr o p => intro h; simp only [R, ren, low_m h]
  | sli o lo k e ty => intro h; simp only [R, ren, low_m h]
  | mp o => intro h; exact h.elim
  | elt k e f i p ih => intro h; simp only [R, ren, size_ren, fun i => ih i (h i), low_G]
  | lst tok k e f ih =>
    intro h
    obtain ⟨rfl, h⟩ := h
    simp only [R, ren, size_ren, fun i => ih i (h i), tokOk, low_G]
  | arr k e f ih => intro h; simp only [R, ren, size_ren, fun i => ih i (h i)]
  | st l ih => intro h; simp only [R, ren, size_ren, ih h]
  | cons a b iha ihb => intro h; simp only [R, ren, size_ren, iha h.1, ihb h.2]
  | tup l ih => intro h; simp only [R, ren, ih h]
  | clo fn a b iha ihb => intro h; simp only [R, ren, iha h.1, ihb h.2]
  | ifc t a ih => intro h; simp only [R, ren, ih h]
  | _ => intro _; rfl

/-- Readings under other names. -/
structure Up1 (g : Gh) (w : World) (g' : Gh) (a b : AV) : Prop where
  v : ∀ u, (R g w a).v u → (R g' w b).v u
  s : ∀ lk off, (R g w a).s lk off → (R g' w b).s lk off
  l : ∀ vs, (R g w a).l vs → (R g' w b).l vs

theorem up1_one {g g' : Gh} {w : World} {a b : AV} {p p' : Value → Prop} (e : R g w a = one p) (e' : R g' w b = one p') (h : ∀ u, p u → p' u) : Up1 g w g' a b where
  v := fun u hu => by rw [e] at hu; rw [e']; exact ⟨h u hu.1, hu.2⟩
  s := fun lk off hu => by
    rw [e] at hu; rw [e']
    obtain ⟨u, h1, h2, h3⟩ := hu
    exact ⟨u, h1, h u h2, h3⟩
  l := fun vs hu => by rw [e] at hu; exact hu.elim

theorem up_row {g g' : Gh} {w : World} {τ : Nat → Nat} (hG : g'.G = g.G) {n e : Nat} {f : Nat → AV} {a : Addr} (ih : ∀ i, Up1 g w g' (f i) (ren τ (f i)))
    (hr : Row w g.G n e (fun i => size (f i)) (fun i => (R g w (f i)).s) a) : Row w g'.G n e (fun i => size (ren τ (f i))) (fun i => (R g' w (ren τ (f i))).s) a := by
  obtain ⟨h1, h2, h3⟩ := hr
  refine ⟨h1, by rw [hG]; exact h2, fun i hi => ?_⟩
  obtain ⟨hs, hc⟩ := h3 i hi
  exact ⟨(size_ren τ _).trans hs, (ih i).s _ _ hc⟩

theorem R_up {g g' : Gh} {w : World} {τ : Nat → Nat} (hm : ∀ o b, g.m o = some b → g'.m (τ o) = some b) (hG : g'.G = g.G) : ∀ a, nk a → Up1 g w g' a (ren τ a) := by
  intro a
  induction a with
  | val x => intro _; exact up1_one rfl rfl (fun u hu => hu)
  | any => intro _; exact ⟨fun _ _ => trivial, fun lk off h => h, fun _ hf => hf.elim⟩
  | ptr o p => intro _; exact up1_one rfl rfl (fun u ⟨b, hp, hb, hu⟩ => ⟨b, hp, hm o b hb, hu⟩)
  | elt n e f i p ih => intro hn; exact up1_one rfl rfl (fun u ⟨hp, hi, a, hr, hu⟩ => ⟨hp, hi, a, up_row hG (fun i => ih i (hn i)) hr, hu⟩)
  | lst tok n e f ih =>
    intro hn
    obtain ⟨rfl, hn⟩ := hn
    refine up1_one rfl rfl (fun u ⟨oa, c, hu, hc, _, hr⟩ => ⟨oa, c, hu, hc, trivial, ?_⟩)
    cases oa with
    | none => exact hr
    | some a => exact up_row hG (fun i => ih i (hn i)) hr
  | sli o lo n e ty =>
    intro _
    refine up1_one rfl rfl (fun u h => ?_)
    rcases h with h | ⟨b, c, h1, h2⟩
    · exact .inl h
    · exact .inr ⟨b, c, hm o b h1, h2⟩
  | arr n e f ih =>
    intro hn
    refine ⟨fun u ⟨cs, h1, h2, h3⟩ => ⟨cs, h1, h2, fun i hi => ?_⟩, fun lk off h i hi => ?_, fun _ hf => hf.elim⟩
    · obtain ⟨h4, h5⟩ := h3 i hi
      exact ⟨(size_ren τ _).trans h4, (ih i (hn i)).s _ _ h5⟩
    · obtain ⟨h4, h5⟩ := h i hi
      exact ⟨(size_ren τ _).trans h4, (ih i (hn i)).s _ _ h5⟩
  | st l ih =>
    intro hn
    refine ⟨fun u ⟨cs, h1, h2, h3⟩ => ⟨cs, h1, h2.trans (size_ren τ _).symm, (ih hn).s _ _ h3⟩, fun lk off h => (ih hn).s lk off h, fun _ hf => hf.elim⟩
  | cons a b iha ihb =>
    intro hn
    refine ⟨fun _ hf => hf.elim, fun lk off h => ⟨(iha hn.1).s _ _ h.1, by rw [size_ren]; exact (ihb hn.2).s _ _ h.2⟩, fun vs h => ?_⟩
    cases vs with
    | nil => exact h
    | cons u r => exact ⟨(iha hn.1).v _ h.1, (ihb hn.2).l _ h.2⟩
  | nil => intro _; exact ⟨fun _ h => h, fun _ _ h => h, fun _ h => h⟩
  | tup l ih => intro hn; exact ⟨fun u ⟨vs, h1, h2⟩ => ⟨vs, h1, (ih hn).l _ h2⟩, fun _ _ hf => hf.elim, fun _ hf => hf.elim⟩
  | clo fn a b iha ihb => intro hn; exact up1_one rfl rfl (fun u ⟨xs, ys, h1, h2, h3⟩ => ⟨xs, ys, h1, (iha hn.1).l _ h2, (ihb hn.2).l _ h3⟩)
  | mp o => intro hn; exact hn.elim
  | ifc t a ih => intro hn; exact up1_one rfl rfl (fun u ⟨x, h1, h2⟩ => ⟨x, h1, (ih hn).v _ h2⟩)

def act0 : Act := { tmps := #[], defers := [] }

/-- A function to which boxes are lent, and which may give new ones. -/
def PureI (P : Program) (gl : Nat → AV) (f : FuncId) (args : List AV) (o0 : Objs) (n0 : Nat) (r : AV) (o1 : Objs) (n1 : Nat) : Prop :=
  (∀ i, nf (gl i)) ∧ ∀ (g : Gh) (w : World) (cargs : List Value), Good P gl 0 g w (fun _ => .any) o0 n0 act0 → RL g w args cargs →
    Calls P f cargs.toArray w fun x w' => ∃ u g', x = .returned u ∧ Good P gl 0 g' w' (fun _ => .any) o1 n1 act0 ∧ Stp g w o0 g' w' o1 ∧ (R g' w' r).v u

def PureIX (P : Program) (gl : Nat → AV) (f : FuncId) (args : List AV) (o0 : Objs) (n0 : Nat) (Q : AV → Objs → Nat → Prop) : Prop :=
  ∃ r o1 n1, Q r o1 n1 ∧ PureI P gl f args o0 n0 r o1 n1

section
variable {P : Program} {gl : Nat → AV} {N : Nat}

structure FinI (gl : Nat → AV) (N : Nat) (rs : List RV) (Q : AV → Objs → Nat → Prop) (e : Env) (o : Objs) (n : Nat) : Prop where
  h : ∃ e' o' n', LeSt gl N e o n e' o' n' ∧ resA e' o' rs fun l => ∃ r, Le (packA l) r ∧ Q r o' n'

theorem pureI_fn (hm : P.follows .mixedOrders = true) {f : FuncId} {fn : Func} {x : IC} {rs : List RV} {args : List AV} {o0 : Objs} {n0 : Nat} {r : AV} {o1 : Objs} {n1 : Nat} (hf : P.funcs[f]? = some fn) (hN : fn.ntmps = N)
    (hcf : compF P N fn = some (x, rs)) (hlen : args.length ≤ N) (hgl : ∀ i, nf (gl i))
    (h : wp P gl N x (fun ex e o n => match ex with
      | .exit _ => False
      | _ => FinI gl N rs (fun a b c => a = r ∧ b = o1 ∧ c = n1) e o n) (enumA 0 args) o0 n0) : PureI P gl f args o0 n0 r o1 n1 := by
  obtain ⟨c, hb, hc, hr⟩ : ∃ c, fn.body = some c ∧ comp P N c = some x ∧ compR P fn.results.toList = some rs := by
    unfold compF at hcf
    split at hcf
    · rename_i c hb
      split at hcf
      · rename_i y s h1 h2
        injection hcf with hcf
        injection hcf with h3 h4
        subst h3 h4
        exact ⟨c, hb, h1, h2⟩
      · cases hcf
    · cases hcf
  refine ⟨hgl, fun g w cargs hg hargs => ?_⟩
  have hcl := RL_len hargs
  let act : Act := { tmps := cargs.toArray ++ Array.replicate (fn.ntmps - cargs.toArray.size) undef, defers := [] }
  have hsz : act.tmps.size = N := by
    show (cargs.toArray ++ Array.replicate (fn.ntmps - cargs.toArray.size) undef).size = N
    simp only [Array.size_append, List.size_toArray, Array.size_replicate, hcl, hN]
    omega
  have hgood : Good P gl N g w (EnvF (enumA 0 args)) o0 n0 act := by
    refine ⟨hg.objs, hg.inj, hg.blt, hg.mlt, hg.rlt, fun t => ?_, hsz, (fun d hd => by cases hd), hg.gz, hg.gl⟩
    show (R g w (lookE t (enumA 0 args))).v (act.tmps.getD t undef)
    rw [lookE_enum]
    simp only [Nat.zero_le, if_true, Nat.sub_zero]
    by_cases ht : t < args.length
    · have h1 := RL_get hargs t ht
      have h2 : act.tmps.getD t undef = cargs.getD t undef := by
        have : t < cargs.length := by omega
        show (cargs.toArray ++ Array.replicate (fn.ntmps - cargs.toArray.size) undef).getD t undef = _
        rw [Array.getD_eq_getD_getElem?, Array.getElem?_append_left (by simpa using this)]
        simp
      rw [h2]; exact h1
    · have : args.getD t .any = .any := by simp [List.getD, Nat.le_of_not_lt ht]
      rw [this]; trivial
  refine calls_of_wp_defers hf hb (wp_mono (wp_sound hm c x hc _ _ _ _ h g w act hgood) ?_)
  rintro ex a' w1 ⟨x', g', e', o', n', hx, hg1, hs1, hq⟩
  have fin : ∀ w', Drawn w1 w' → FinI gl N rs (fun a b c => a = r ∧ b = o1 ∧ c = n1) e' o' n' → ∃ v, (results fn a'.tmps).run P w' = .ok v w' ∧ ∃ u g2, Ending.returned v = .returned u ∧ Good P gl 0 g2 w' (fun _ => .any) o1 n1 act0 ∧ Stp g w o0 g2 w' o1 ∧ (R g2 w' r).v u := by
    intro w' hd
    have hg' := hg1.drawn hd
    have hs' := hs1.trans (hd.stp g' o')
    intro hfin
    obtain ⟨e2, o2, n2, hle, hres⟩ := hfin.h
    obtain ⟨g2, hg2, hs2⟩ := hle P g' w' a' hg'
    obtain ⟨as, us, h1, h2, r0, h3, rfl, rfl, rfl⟩ := res_ok hg2 fn.results.toList rs hr _ hres
    have hs := hs'.trans hs2
    have hrun : (results fn a'.tmps).run P w' = .ok (if hs : us.toArray.size = 1 then us.toArray[0] else .tuple us.toArray) w' := by
      have e1 : results fn a'.tmps = (do
          let vs ← fn.results.mapM (resV a'.tmps)
          pure (if h : vs.size = 1 then vs[0] else .tuple vs)) := rfl
      rw [e1, Array.mapM_eq_mapM_toList]
      simp only [Sem.run_bind, Sem.run_map]
      rw [h1]
      simp only [Result.andThen_ok, Sem.run_pure]
    exact ⟨_, hrun, _, g2, rfl, ⟨hg2.objs, hg2.inj, hg2.blt, hg2.mlt, hg2.rlt, fun _ => trivial, rfl, (fun d hd => by cases hd), hg2.gz, hg2.gl⟩, hs, h3.v g2 w' _ (pack_ok (us := us.toArray) (by simpa using h2))⟩
  cases x' with
  | normal =>
    cases ex <;> simp only [ExR] at hx
    exact leaves_nop _ _ hg1.def_ (fun w2 hd => fin w2 hd hq)
  | ret =>
    cases ex <;> simp only [ExR] at hx
    exact leaves_nop _ _ hg1.def_ (fun w2 hd => fin w2 hd hq)
  | exit i => exact hq.elim

theorem pureI_fnX (hm : P.follows .mixedOrders = true) {f : FuncId} {fn : Func} {x : IC} {rs : List RV} {args : List AV} {o0 : Objs} {n0 : Nat} {Q : AV → Objs → Nat → Prop} (hf : P.funcs[f]? = some fn) (hN : fn.ntmps = N)
    (hcf : compF P N fn = some (x, rs)) (hlen : args.length ≤ N) (hgl : ∀ i, nf (gl i))
    (h : wp P gl N x (fun ex e o n => match ex with
      | .exit _ => False
      | _ => FinI gl N rs Q e o n) (enumA 0 args) o0 n0) : PureIX P gl f args o0 n0 Q := by
  obtain ⟨ex, e', o', n', h1, h2⟩ := wp_ex x h
  have key : FinI gl N rs Q e' o' n' → (∀ r o1 n1, FinI gl N rs (fun a b c => a = r ∧ b = o1 ∧ c = n1) e' o' n' → wp P gl N x (fun ex e o n => match ex with
      | .exit _ => False
      | _ => FinI gl N rs (fun a b c => a = r ∧ b = o1 ∧ c = n1) e o n) (enumA 0 args) o0 n0) → PureIX P gl f args o0 n0 Q := by
    intro hfin hw
    obtain ⟨e2, o2, n2, hle, hres⟩ := hfin.h
    obtain ⟨l, ⟨r, h3, h4⟩, h6⟩ := resA_ex rs hres
    exact ⟨r, o2, n2, h4, pureI_fn hm hf hN hcf hlen hgl (hw r o2 n2 ⟨e2, o2, n2, hle, h6 _ ⟨r, h3, rfl, rfl, rfl⟩⟩)⟩
  cases ex with
  | normal => exact key h1 (fun r o1 n1 hr => h2 _ hr)
  | ret => exact key h1 (fun r o1 n1 hr => h2 _ hr)
  | exit i => exact h1.elim

/-! The call. -/
theorem lookO_mem {k : Nat} {x : AObj} : ∀ {l : Objs}, lookO k l = some x → (k, x) ∈ l
  | [], h => by simp [lookO] at h
  | (q, y) :: r, h => by
    rw [lookO_cons] at h
    by_cases e : q = k
    · rw [if_pos e] at h; injection h with h; subst e h; exact List.mem_cons_self ..
    · rw [if_neg e] at h; exact List.mem_cons_of_mem _ (lookO_mem h)

theorem mem_lookO {k : Nat} {x : AObj} : ∀ {l : Objs}, (k, x) ∈ l → ∃ y, lookO k l = some y
  | (q, y) :: r, h => by
    rw [lookO_cons]
    by_cases e : q = k
    · rw [if_pos e]; exact ⟨_, rfl⟩
    · rw [if_neg e]
      rcases List.mem_cons.1 h with h | h
      · injection h with h _; exact absurd h.symm e
      · exact mem_lookO h

def mapO (τ : Nat → Nat) (l : Objs) : Objs := l.map fun p => (τ p.1, p.2)

theorem lookO_app (k : Nat) : ∀ (a b : Objs), lookO k (a ++ b) = match lookO k a with | some x => some x | none => lookO k b
  | [], b => rfl
  | (q, y) :: r, b => by
    rw [List.cons_append, lookO_cons, lookO_cons, lookO_app k r b]
    by_cases e : q = k
    · rw [if_pos e, if_pos e]
    · rw [if_neg e, if_neg e]

theorem lookO_map {τ : Nat → Nat} {q : Nat} : ∀ (l : Objs), (∀ p ∈ l, τ p.1 = τ q → p.1 = q) → lookO (τ q) (mapO τ l) = lookO q l
  | [], _ => rfl
  | (k, y) :: r, h => by
    show lookO (τ q) ((τ k, y) :: mapO τ r) = _
    rw [lookO_cons, lookO_cons, lookO_map r (fun p hp => h p (List.mem_cons_of_mem _ hp))]
    by_cases e : k = q
    · rw [if_pos e, if_pos (by rw [e])]
    · rw [if_neg e, if_neg (fun e1 => e (h (k, y) (List.mem_cons_self ..) e1))]

theorem lookO_mapN {τ : Nat → Nat} {k : Nat} : ∀ (l : Objs), (∀ p ∈ l, τ p.1 ≠ k) → lookO k (mapO τ l) = none
  | [], _ => rfl
  | (q, y) :: r, h => by
    show lookO k ((τ q, y) :: mapO τ r) = _
    rw [lookO_cons, if_neg (h (q, y) (List.mem_cons_self ..)), lookO_mapN r (fun p hp => h p (List.mem_cons_of_mem _ hp))]

theorem mapO_back {τ : Nat → Nat} {k : Nat} {x : AObj} {l : Objs} (h : lookO k (mapO τ l) = some x) : ∃ p ∈ l, τ p.1 = k := by
  apply Classical.byContradiction
  intro hn
  rw [lookO_mapN l (fun p hp e => hn ⟨p, hp, e⟩)] at h
  cases h

/-- What was lent is no more what it was. -/
def dropL : List Nat → Objs → Objs
  | [], o => o
  | t :: r, o => dropO t (dropL r o)

theorem lookO_dropL (k : Nat) (o : Objs) : ∀ (ts : List Nat), lookO k (dropL ts o) = if k ∈ ts then none else lookO k o
  | [] => by simp [dropL]
  | t :: r => by
    rw [dropL, lookO_dropO, lookO_dropL k o r]
    by_cases e : k = t
    · subst e; simp
    · rw [if_neg e]; simp [e]

/-- What the callee leaves may come back. -/
def nfO : AObj → Prop
  | .box b => nf b
  | .room _ _ _ => True
  | _ => False

theorem RL_il {g : Gh} {w : World} {cs ts : List Nat} : ∀ {l : List AV} {vs : List Value}, (∀ a ∈ l, il cs.length ts.length a) → RL g w (l.map (ren (sg cs ts))) vs → RL (low g cs ts) w l vs
  | [], [], _, _ => trivial
  | a :: r, u :: s, hn, h => ⟨by rw [R_il a (hn a (by simp))]; exact h.1, RL_il (fun x hx => hn x (by simp [hx])) h.2⟩
  | [], _ :: _, _, h => h.elim
  | _ :: _, [], _, h => h.elim

theorem call_i {f : FuncId} {args args' : List AV} {o o0 : Objs} {n : Nat} {r : AV} {o1 : Objs} {n1 : Nat} {K : AV → Objs → Nat → Prop} (cs ts : List Nat) (h : PureI P gl f args' o0 cs.length r o1 n1)
    (hil : ∀ a ∈ args', il cs.length ts.length a) (hl : LeL args (args'.map (ren (sg cs ts))))
    (h0 : ∀ k x, lookO k o0 = some x → dom cs.length ts.length k)
    (hts : ∀ k, dom cs.length ts.length k → ∃ a b0, lookO (sg cs ts k) o = some (.box a) ∧ lookO k o0 = some (.box b0) ∧ LeA a b0 ∧ nf b0)
    (hcs : ∀ k, k < cs.length → cs.getD k 0 < LENT) (hcl : cs.length ≤ LENT)
    (hnd : ∀ i j, dom cs.length ts.length i → dom cs.length ts.length j → sg cs ts i = sg cs ts j → i = j)
    (h1 : ∀ k x, lookO k o1 = some x → (k < n1 ∨ (B0 ≤ k ∧ k < B0 + ts.length ∧ ∃ b, x = .box b)) ∧ nfO x)
    (hr : nk r) (hn : n + n1 ≤ LENT) (hK : K (ren (tau n ts) r) (mapO (tau n ts) o1 ++ dropL (cs ++ ts) o) (n + n1)) : CallB true P gl f args o n K := by
  have hL : LENT ≤ B0 := by decide
  have tlow : ∀ k, k < n1 → tau n ts k = n + k := fun k hk => if_pos (by omega)
  have thi : ∀ j, tau n ts (B0 + j) = ts.getD j 0 := fun j => by
    show (if B0 + j < B0 then n + (B0 + j) else ts.getD (B0 + j - B0) 0) = _
    rw [if_neg (by omega), Nat.add_sub_cancel_left]
  have shi : ∀ j, sg cs ts (B0 + j) = ts.getD j 0 := fun j => by
    show (if B0 + j < B0 then cs.getD (B0 + j) 0 else ts.getD (B0 + j - B0) 0) = _
    rw [if_neg (by omega), Nat.add_sub_cancel_left]
  have dhi : ∀ j, j < ts.length → dom cs.length ts.length (B0 + j) := fun j hj => .inr ⟨by omega, by omega⟩
  have sgm : ∀ k, dom cs.length ts.length k → sg cs ts k ∈ cs ++ ts := fun k hk => by
    rcases hk with hk | ⟨h2, h3⟩
    · rw [show sg cs ts k = cs.getD k 0 from if_pos (by omega), List.getD_eq_getElem?_getD, List.getElem?_eq_getElem hk]
      exact List.mem_append_left _ (List.getElem_mem hk)
    · obtain ⟨j, rfl⟩ : ∃ j, k = B0 + j := ⟨k - B0, by omega⟩
      have hj : j < ts.length := by omega
      rw [shi, List.getD_eq_getElem?_getD, List.getElem?_eq_getElem hj]
      exact List.mem_append_right _ (List.getElem_mem hj)
  have key : ∀ p ∈ o1, p.1 < n1 ∨ ∃ j, j < ts.length ∧ p.1 = B0 + j := fun p hp => by
    obtain ⟨y, hy⟩ := mem_lookO (k := p.1) (x := p.2) hp
    rcases (h1 _ _ hy).1 with h2 | ⟨h2, h3, _⟩
    · exact .inl h2
    · exact .inr ⟨p.1 - B0, by omega, by omega⟩
  refine ⟨⟨_, _, _, hK, fun hf k hk1 hk2 => ?_, fun N g w E a cargs hg hra => ?_⟩, fun hb => by cases hb⟩
  · rw [lookO_app, lookO_mapN]
    · show lookO k (dropL (cs ++ ts) o) = none
      rw [lookO_dropL]
      split
      · rfl
      · exact hf k (by omega) hk2
    · intro p hp e
      rcases key p hp with h2 | ⟨j, h2, h3⟩
      · rw [tlow _ h2] at e; omega
      · rw [h3, thi] at e
        obtain ⟨x, _, hx, _⟩ := hts _ (dhi j h2)
        rw [shi] at hx
        rw [e, hf k (by omega) hk2] at hx
        cases hx
  have tsn : ∀ j, j < ts.length → ts.getD j 0 < n ∨ LENT ≤ ts.getD j 0 := fun j hj => by
    obtain ⟨x, _, hx, _⟩ := hts _ (dhi j hj)
    rw [shi] at hx
    exact hg.blt _ _ hx
  have tinj : ∀ p ∈ o1, ∀ q ∈ o1, tau n ts p.1 = tau n ts q.1 → p.1 = q.1 := fun p hp q hq e => by
    rcases key p hp with h2 | ⟨i, h2, h3⟩ <;> rcases key q hq with h4 | ⟨j, h4, h5⟩
    · rw [tlow _ h2, tlow _ h4] at e; omega
    · rw [tlow _ h2, h5, thi] at e
      have := tsn j h4
      omega
    · rw [h3, thi, tlow _ h4] at e
      have := tsn i h2
      omega
    · rw [h3, h5, thi, thi] at e
      rw [h3, h5]
      exact hnd _ _ (dhi i h2) (dhi j h4) (by rw [shi, shi]; exact e)
  have lk1 : ∀ q x, lookO q o1 = some x → lookO (tau n ts q) (mapO (tau n ts) o1 ++ dropL (cs ++ ts) o) = some x := fun q x hq => by
    rw [lookO_app, lookO_map o1 (fun p hp e => tinj p hp (q, x) (lookO_mem hq) e), hq]
  have lk2 : ∀ k x, lookO k (mapO (tau n ts) o1 ++ dropL (cs ++ ts) o) = some x → (∃ q, lookO q o1 = some x ∧ tau n ts q = k) ∨ (lookO k o = some x ∧ (∀ j, dom cs.length ts.length j → sg cs ts j ≠ k) ∧ (k < n ∨ LENT ≤ k)) := fun k x hk => by
    rw [lookO_app] at hk
    cases hm : lookO k (mapO (tau n ts) o1) with
    | some y =>
      rw [hm] at hk
      simp only [Option.some.injEq] at hk
      subst hk
      obtain ⟨p, hp, e⟩ := mapO_back hm
      subst e
      rw [lookO_map o1 (fun q hq e => tinj q hq p hp e)] at hm
      exact .inl ⟨p.1, hm, rfl⟩
    | none =>
      rw [hm] at hk
      simp only [] at hk
      rw [lookO_dropL] at hk
      split at hk
      · cases hk
      · rename_i hmem
        refine .inr ⟨hk, fun j hj e => hmem ?_, hg.blt k x hk⟩
        rw [← e]; exact sgm j hj
  let gc : Gh := low g cs ts
  have gcm : ∀ k, dom cs.length ts.length k → gc.m k = g.m (sg cs ts k) := fun k hk => low_m hk
  have gcm0 : ∀ k, ¬ dom cs.length ts.length k → gc.m k = none := fun k hk => if_neg hk
  have own0 : ∀ b, Own gc o0 b → Own g o b := fun b ⟨k, x, hk, hb⟩ => by
    have hd := h0 k x hk
    obtain ⟨a0, b0, q1, q2, q3, q4⟩ := hts k hd
    rw [q2] at hk
    injection hk with hk
    subst hk
    exact ⟨_, _, q1, by have hb : (gc.m k).map (·.1) = some b := hb; rw [gcm k hd] at hb; exact hb⟩
  have slt : ∀ k, dom cs.length ts.length k → LENT ≤ sg cs ts k → LENT ≤ k := fun k hk hs => by
    rcases hk with hk | hk
    · rw [show sg cs ts k = cs.getD k 0 from if_pos (by omega)] at hs
      have := hcs k hk
      omega
    · omega
  have ownC0 : ∀ b i, OwnC gc o0 b i → OwnC g o b i := fun b i ⟨k, x, hk, hb⟩ => by
    have hd := h0 k x hk
    obtain ⟨a0, b0, q1, q2, q3, q4⟩ := hts k hd
    rw [q2] at hk
    injection hk with hk
    subst hk
    obtain ⟨off, hb1, hb2⟩ := hb
    rw [gcm k hd] at hb1
    exact ⟨_, _, q1, off, hb1, fun hs => by rw [q3.sz]; exact hb2 (slt k hd hs)⟩
  have hgc : Good P gl 0 gc w (fun _ => .any) o0 cs.length act0 := by
    refine ⟨fun k x hk => ?_, fun k x k' x' b e1 e2 e3 e4 => ?_, fun k x hk => ?_, fun k b hk => ?_, fun k b hk => (by cases hk), fun _ => trivial, rfl, (fun d hd => by cases hd), hg.gz, fun i => ?_⟩
    · have hd := h0 k x hk
      obtain ⟨a0, b0, q1, q2, q3, q4⟩ := hts k hd
      rw [q2] at hk
      injection hk with hk
      subst hk
      rcases hg.objs _ _ q1 with ⟨p1, p2⟩ | ⟨b, cs', ty, p1, p2, p3, p4, p5, p6⟩
      · exact .inl ⟨(gcm k hd).trans p1, q3.sz ▸ p2⟩
      · refine .inr ⟨b, cs', ty, (gcm k hd).trans p1, p2, p3, by rw [← q3.sz]; exact p4, ?_, fun hlt => p6 ?_⟩
        · rw [R_nf (g' := gc) (g := g) rfl b0 q4]
          exact q3.s g w _ _ p5
        · rcases hd with hd | hd
          · rw [show sg cs ts k = cs.getD k 0 from if_pos (by omega)]; exact hcs k hd
          · omega
    · have hd := h0 k x e1
      have hd' := h0 k' x' e2
      obtain ⟨a0, b0, q1, q2, q3, q4⟩ := hts k hd
      obtain ⟨a0', b0', q1', q2', q3', q4'⟩ := hts k' hd'
      rw [q2] at e1
      rw [q2'] at e2
      injection e1 with e1
      injection e2 with e2
      subst e1 e2
      have e3 : (gc.m k).map (·.1) = some b := e3
      have e4 : (gc.m k').map (·.1) = some b := e4
      rw [gcm k hd] at e3
      rw [gcm k' hd'] at e4
      exact hnd k k' hd hd' (hg.inj _ _ _ _ b q1 q1' e3 e4)
    · rcases h0 k x hk with hd | hd
      · exact .inl hd
      · exact .inr (by omega)
    · by_cases hd : dom cs.length ts.length k
      · rcases hd with hd | hd
        · exact .inl hd
        · exact .inr (by omega)
      · rw [gcm0 k hd] at hk; cases hk
    · rw [R_nf (g' := gc) (g := g) rfl _ (h.1 i)]; exact hg.gl i
  have hra' : RL gc w args' cargs := RL_il hil (RL.le hl hra)
  have sep : ∀ k x b, lookO k o = some x → (∀ j, dom cs.length ts.length j → sg cs ts j ≠ k) → blkOf g k x = some b → ¬ Own gc o0 b := fun k x b hk hne hb ⟨q, y, hq, hb'⟩ => by
    have hd := h0 q y hq
    obtain ⟨a0, b0, q1, q2, q3, q4⟩ := hts q hd
    rw [q2] at hq
    injection hq with hq
    subst hq
    have hb' : (gc.m q).map (·.1) = some b := hb'
    rw [gcm q hd] at hb'
    exact hne q hd (hg.inj _ _ _ _ b q1 hk hb' hb)
  refine (h.2 gc w cargs hgc hra').mono ?_
  rintro x w' ⟨u, g', hx, hg', hs, hu⟩
  let g2 : Gh := ⟨fun k => if n ≤ k ∧ k < n + n1 then g'.m (k - n) else g.m k, fun k => if n ≤ k ∧ k < n + n1 then g'.r (k - n) else g.r k, g'.G⟩
  have m2n : ∀ q, q < n1 → g2.m (n + q) = g'.m q := fun q hq => by
    show (if n ≤ n + q ∧ n + q < n + n1 then g'.m (n + q - n) else g.m (n + q)) = _
    rw [if_pos ⟨by omega, by omega⟩, Nat.add_sub_cancel_left]
  have r2n : ∀ q, q < n1 → g2.r (n + q) = g'.r q := fun q hq => by
    show (if n ≤ n + q ∧ n + q < n + n1 then g'.r (n + q - n) else g.r (n + q)) = _
    rw [if_pos ⟨by omega, by omega⟩, Nat.add_sub_cancel_left]
  have m2o : ∀ k, (k < n ∨ LENT ≤ k) → g2.m k = g.m k := fun k hk => if_neg (by omega)
  have r2o : ∀ k, (k < n ∨ LENT ≤ k) → g2.r k = g.r k := fun k hk => if_neg (by omega)
  have lent : ∀ j, j < ts.length → g'.m (B0 + j) = g.m (ts.getD j 0) := fun j hj => (hs.lent _ (by omega)).trans ((gcm _ (dhi j hj)).trans (by rw [shi]))
  have hev : Ev g w g2 w' := ⟨fun k b hb => by rw [m2o k (hg.mlt k b hb)]; exact hb, fun k ob M hk => ⟨ob, M, by rw [r2o k (hg.rlt k _ hk)]; exact hk, Nat.le_refl _, fun _ => rfl⟩, hs.pub, hs.le, hs.cap⟩
  have up : ∀ k b, g'.m k = some b → g2.m (tau n ts k) = some b := fun k b hb => by
    rcases hg'.mlt k b hb with h2 | h2
    · rw [tlow k h2, m2n k h2]; exact hb
    · rw [hs.lent k h2] at hb
      have h3 : dom cs.length ts.length k := Classical.byContradiction fun hc => by rw [show gc.m k = none from gcm0 k hc] at hb; cases hb
      have h3 : B0 ≤ k ∧ k < B0 + ts.length := h3.elim (fun h4 => by omega) id
      obtain ⟨j, rfl⟩ : ∃ j, k = B0 + j := ⟨k - B0, by omega⟩
      rw [show gc.m (B0 + j) = g.m (ts.getD j 0) from (gcm _ (dhi j (by omega))).trans (by rw [shi])] at hb
      rw [thi, m2o _ (tsn j (by omega))]; exact hb
  have m1 : ∀ j, j < ts.length → g2.m (ts.getD j 0) = g'.m (B0 + j) := fun j hj => (m2o _ (tsn j hj)).trans (lent j hj).symm
  have blk1 : ∀ q x, lookO q o1 = some x → blkOf g2 (tau n ts q) x = blkOf g' q x := fun q x hq => by
    rcases (h1 q x hq).1 with h2 | ⟨h2, h3, b1, rfl⟩
    · rw [tlow q h2]
      cases x <;> simp only [blkOf, m2n q h2, r2n q h2]
    · obtain ⟨j, rfl⟩ : ∃ j, q = B0 + j := ⟨q - B0, by omega⟩
      rw [thi]
      simp only [blkOf, m1 j (by omega)]
  have blk2 : ∀ k x, (k < n ∨ LENT ≤ k) → blkOf g2 k x = blkOf g k x := fun k x hk => blk_same (m2o k hk) (r2o k hk)
  refine ⟨u, g2, hx, (R_up up rfl r hr).v u hu, ⟨fun k x hk => ?_, fun k x k' x' b e1 e2 e3 e4 => ?_, fun k x hk => ?_, fun k b hk => ?_, fun k b hk => ?_, fun t => (R_ev hev _).v _ (hg.env t), hg.sz, hg.def_, hg'.gz, fun i => (R_ev hev _).v _ (hg.gl i)⟩,
    ⟨hs.size, fun b hb hno => hs.keep b hb (fun hh => hno (own0 b hh)), fun b ⟨k, x, hk, hb⟩ => ?_, hs.pub, hs.le, hs.cap, fun b j hb hno => hs.keepC b j hb (fun hh => hno (ownC0 b j hh)), fun b i ⟨k, x, hk, hb⟩ => ?_, fun k hk => m2o k (.inr hk),
      fun k ob M hk hr => ⟨ob, M, by rw [r2o k (.inr (by omega))]; exact hr, Nat.le_refl _, fun _ => rfl⟩, hs.os, hs.out⟩, hev, fun k hk => m2o k (.inl hk)⟩
  · rcases lk2 k x hk with ⟨q, hq, rfl⟩ | ⟨hko, hne, hkr⟩
    · obtain ⟨hqr, hnf⟩ := h1 q x hq
      have ho := hg'.objs q x hq
      rcases hqr with h2 | ⟨h2, h3, b1, rfl⟩
      · rw [tlow q h2]
        cases x with
        | box b =>
          rcases ho with ⟨p1, p2⟩ | ⟨bb, cs, ty, p1, p2, p3, p4, p5, p6⟩
          · exact .inl ⟨(m2n q h2).trans p1, p2⟩
          · exact .inr ⟨bb, cs, ty, (m2n q h2).trans p1, p2, p3, p4, by rw [R_nf (g' := g2) (g := g') rfl b hnf]; exact p5, fun _ => p6 (by omega)⟩
        | room m e ty =>
          obtain ⟨ob, p1, p2, p3⟩ := ho
          exact ⟨ob, (r2n q h2).trans p1, ⟨p2.1, fun h5 => absurd h5 (by omega)⟩, p3⟩
        | soon => exact hnf.elim
        | dict k f => exact hnf.elim
      · obtain ⟨j, rfl⟩ : ∃ j, q = B0 + j := ⟨q - B0, by omega⟩
        obtain ⟨a0, b0, q1, q2, q3, q4⟩ := hts _ (dhi j (by omega))
        rw [shi] at q1
        rw [thi]
        rcases ho with ⟨p1, p2⟩ | ⟨bb, cs, ty, p1, p2, p3, p4, p5, p6⟩
        · exact .inl ⟨(m1 j (by omega)).trans p1, p2⟩
        · refine .inr ⟨bb, cs, ty, (m1 j (by omega)).trans p1, p2, p3, p4, by rw [R_nf (g' := g2) (g := g') rfl b1 hnf]; exact p5, fun hlt => ?_⟩
          rw [lent j (by omega)] at p1
          rcases hg.objs _ _ q1 with ⟨r1, r2⟩ | ⟨b', cs', ty', r1, r2, r3, r4, r5, r6⟩
          · rw [r1] at p1; cases p1
          · rw [r1] at p1
            injection p1 with p1
            subst p1
            exact r6 hlt
    · exact obj_ev hev (hg.objs k x hko) (m2o k hkr) (fun p hp => by rw [r2o k hkr]; exact hp) (fun b hb => by
        have h2 := hs.keep b (own_lt hg ⟨k, x, hko, hb⟩) (sep k x b hko hne hb)
        exact ⟨h2.2, h2.1⟩)
  · rcases lk2 k x e1 with ⟨q, hq, rfl⟩ | ⟨hko, hne, hkr⟩ <;> rcases lk2 k' x' e2 with ⟨q', hq', rfl⟩ | ⟨hko', hne', hkr'⟩
    · rw [blk1 q x hq] at e3
      rw [blk1 q' x' hq'] at e4
      rw [hg'.inj q x q' x' b hq hq' e3 e4]
    · exfalso
      rw [blk1 q x hq] at e3
      rw [blk2 k' x' hkr'] at e4
      rcases hs.own b ⟨q, x, hq, e3⟩ with h2 | h2
      · exact sep k' x' b hko' hne' e4 h2
      · have := own_lt hg ⟨k', x', hko', e4⟩; omega
    · exfalso
      rw [blk1 q' x' hq'] at e4
      rw [blk2 k x hkr] at e3
      rcases hs.own b ⟨q', x', hq', e4⟩ with h2 | h2
      · exact sep k x b hko hne e3 h2
      · have := own_lt hg ⟨k, x, hko, e3⟩; omega
    · rw [blk2 k x hkr] at e3
      rw [blk2 k' x' hkr'] at e4
      exact hg.inj k x k' x' b hko hko' e3 e4
  · rcases lk2 k x hk with ⟨q, hq, rfl⟩ | ⟨hko, hne, hkr⟩
    · rcases (h1 q x hq).1 with h2 | ⟨h2, h3, _⟩
      · rw [tlow q h2]; exact .inl (by omega)
      · obtain ⟨j, rfl⟩ : ∃ j, q = B0 + j := ⟨q - B0, by omega⟩
        rw [thi]
        have := tsn j (by omega)
        omega
    · omega
  · by_cases h2 : n ≤ k ∧ k < n + n1
    · exact .inl h2.2
    · have hk : (if n ≤ k ∧ k < n + n1 then g'.m (k - n) else g.m k) = some b := hk
      rw [if_neg h2] at hk
      have := hg.mlt k b hk
      omega
  · by_cases h2 : n ≤ k ∧ k < n + n1
    · exact .inl h2.2
    · have hk : (if n ≤ k ∧ k < n + n1 then g'.r (k - n) else g.r k) = some b := hk
      rw [if_neg h2] at hk
      have := hg.rlt k b hk
      omega
  · rcases lk2 k x hk with ⟨q, hq, rfl⟩ | ⟨hko, hne, hkr⟩
    · rw [blk1 q x hq] at hb
      exact (hs.own b ⟨q, x, hq, hb⟩).imp (own0 b) id
    · rw [blk2 k x hkr] at hb
      exact .inl ⟨k, x, hko, hb⟩
  · rcases lk2 k x hk with ⟨q, hq, rfl⟩ | ⟨hko, hne, hkr⟩
    · obtain ⟨hqr, hnf⟩ := h1 q x hq
      rcases hqr with h2 | ⟨h2, h3, b1, rfl⟩
      · rw [tlow q h2] at hb
        cases x with
        | box bb =>
          obtain ⟨off, e1, _⟩ := hb
          exact (hs.ownC b i ⟨q, _, hq, off, by rw [← m2n q h2]; exact e1, fun h5 => absurd h5 (by omega)⟩).imp (ownC0 b i) id
        | room m e ty =>
          have hb : (g2.r (n + q)).bind (·.1) = some b := hb
          rw [r2n q h2] at hb
          exact (hs.ownC b i ⟨q, _, hq, hb⟩).imp (ownC0 b i) id
        | soon => exact hnf.elim
        | dict k f => exact hnf.elim
      · obtain ⟨j, rfl⟩ : ∃ j, q = B0 + j := ⟨q - B0, by omega⟩
        obtain ⟨a0, b0, q1, q2, q3, q4⟩ := hts _ (dhi j (by omega))
        rw [shi] at q1
        rw [thi] at hb
        obtain ⟨off, e1, e2⟩ := hb
        by_cases h5 : LENT ≤ ts.getD j 0
        · exact (hs.ownC b i ⟨B0 + j, _, hq, off, by rw [← m1 j (by omega)]; exact e1, fun _ => e2 h5⟩).imp (ownC0 b i) id
        · exact .inl ⟨_, _, q1, off, by rw [← m2o _ (tsn j (by omega))]; exact e1, fun h6 => absurd h6 h5⟩
    · refine .inl ⟨k, x, hko, ?_⟩
      cases x with
      | box bb => exact (m2o k hkr) ▸ hb
      | room m e ty => exact (r2o k hkr) ▸ hb
      | soon => exact hb
      | dict kk f => exact (m2o k hkr) ▸ hb

/-! Calls as they are met. -/
def OkL (m n1 : Nat) : Objs → Prop
  | [] => True
  | (k, x) :: r => ((k < n1 ∨ (B0 ≤ k ∧ k < B0 + m ∧ ∃ b, x = .box b)) ∧ nfO x) ∧ OkL m n1 r

theorem okL_look {m n1 : Nat} : ∀ {o : Objs}, OkL m n1 o → ∀ k x, lookO k o = some x → (k < n1 ∨ (B0 ≤ k ∧ k < B0 + m ∧ ∃ b, x = .box b)) ∧ nfO x
  | [], _, k, x, h => by simp [lookO] at h
  | (q, y) :: r, ho, k, x, h => by
    rw [lookO_cons] at h
    by_cases e : q = k
    · rw [if_pos e] at h; injection h with h; subst e h; exact ho.1
    · rw [if_neg e] at h; exact okL_look ho.2 k x h

theorem map_ren {τ : Nat → Nat} : ∀ {l : List AV}, (∀ a ∈ l, nf a) → l.map (ren τ) = l
  | [], _ => rfl
  | a :: r, h => by rw [List.map_cons, ren_nf τ a (h a (List.mem_cons_self ..)), map_ren (fun x hx => h x (List.mem_cons_of_mem _ hx))]

/-- The names and the boxes are told before one goes on. -/
def forceK : Nat → (Nat → Prop) → Prop
  | 0, K => K 0
  | k + 1, K => K (k + 1)
theorem forceK_iff {k : Nat} {K : Nat → Prop} : forceK k K ↔ K k := by cases k <;> exact Iff.rfl
def forceP : Objs → (Objs → Prop) → Prop
  | [], K => K []
  | (k, x) :: r, K => forceK k fun k' => forceP r fun r' => K ((k', x) :: r')
theorem forceP_iff : ∀ {o : Objs} {K : Objs → Prop}, forceP o K ↔ K o
  | [], _ => Iff.rfl
  | (k, x) :: r, K => by
    show forceK k (fun k' => forceP r fun r' => K ((k', x) :: r')) ↔ _
    rw [forceK_iff]
    exact forceP_iff (o := r)

/-- Nothing is given or lent; what is made comes back. -/
theorem call_o {f : FuncId} {args args' : List AV} {o : Objs} {n : Nat} {Q : AV → Objs → Nat → Prop} {K : AV → Objs → Nat → Prop} (h : PureIX P gl f args' [] 0 Q) (ha : ∀ a ∈ args', nf a) (hl : LeL args args')
    (hK : ∀ r o1 n1, Q r o1 n1 → OkL 0 n1 o1 ∧ nk r ∧ Nat.ble (n + n1) LENT = true ∧ forceP (mapO (tau n []) o1 ++ o) fun o' => K (ren (tau n []) r) o' (n + n1)) : CallB true P gl f args o n K := by
  obtain ⟨r, o1, n1, hq, hp⟩ := h
  obtain ⟨h1, h2, h3, h4⟩ := hK r o1 n1 hq
  have h4 := forceP_iff.1 h4
  refine call_i [] [] hp (fun a hx => il_nf a (ha a hx)) (by rw [map_ren ha]; exact hl) (fun k x hk => by simp [lookO] at hk) (fun k hk => ?_) (fun k hk => absurd hk (Nat.not_lt_zero k)) (Nat.zero_le _) (fun i j hi => ?_) (okL_look h1) h2 (Nat.le_of_ble_eq_true h3) h4
  · rcases hk with hk | ⟨hk, hk2⟩
    · exact absurd hk (Nat.not_lt_zero k)
    · have : k < B0 + 0 := hk2; omega
  · rcases hi with hi | ⟨hi, hi2⟩
    · exact absurd hi (Nat.not_lt_zero i)
    · have : i < B0 + 0 := hi2; omega

/-- One box is given for good. -/
theorem call_g {f : FuncId} {args args' : List AV} {o : Objs} {n : Nat} {Q : AV → Objs → Nat → Prop} {K : AV → Objs → Nat → Prop} (t : Nat) {a b0 : AV} (h : PureIX P gl f args' [(0, .box b0)] 1 Q) (ht : lookO t o = some (.box a)) (hL : Nat.blt t LENT = true) (hab : LeA a b0) (hb : nf b0)
    (hil : ∀ a ∈ args', il 1 0 a) (hl : LeL args (args'.map (ren (sg [t] []))))
    (hK : ∀ r o1 n1, Q r o1 n1 → OkL 0 n1 o1 ∧ nk r ∧ Nat.ble (n + n1) LENT = true ∧ forceP (mapO (tau n []) o1 ++ dropO t o) fun o' => K (ren (tau n []) r) o' (n + n1)) : CallB true P gl f args o n K := by
  obtain ⟨r, o1, n1, hq, hp⟩ := h
  obtain ⟨h1, h2, h3, h4⟩ := hK r o1 n1 hq
  have h4 := forceP_iff.1 h4
  have d0 : ∀ k, dom 1 0 k → k = 0 := fun k hk => by
    rcases hk with hk | ⟨hk, hk2⟩
    · omega
    · have : k < B0 + 0 := hk2; omega
  refine call_i [t] [] hp hil hl (fun k x hk => ?_) (fun k hk => ?_) (fun k hk => ?_) (show 1 ≤ LENT by decide) (fun i j hi hj _ => by rw [d0 i hi, d0 j hj]) (okL_look h1) h2 (Nat.le_of_ble_eq_true h3) h4
  · rw [lookO_cons] at hk
    by_cases e : (0 : Nat) = k
    · exact .inl (by show k < 1; omega)
    · rw [if_neg e] at hk; simp [lookO] at hk
  · obtain rfl := d0 k hk
    exact ⟨a, b0, ht, by rw [lookO_cons, if_pos rfl], hab, hb⟩
  · have : k = 0 := by have : k < 1 := hk; omega
    subst this
    exact Nat.le_of_ble_eq_true hL

end
end Ar
namespace Ar
open Go
set_option linter.unusedVariables false
set_option autoImplicit false

/-- Values that hang on nothing that is written for good. -/
def fl : AV → Prop
  | .elt _ _ _ _ _ => False
  | .lst _ _ _ _ => False
  | .mp _ => False
  | .arr _ _ f => ∀ i, fl (f i)
  | .st l => fl l
  | .cons a b => fl a ∧ fl b
  | .tup l => fl l
  | .clo _ a b => fl a ∧ fl b
  | .ifc _ a => fl a
  | _ => True

def flO : AObj → Prop
  | .box b => fl b
  | .room _ _ _ => True
  | _ => False

def flL : Objs → Prop
  | [] => True
  | (k, x) :: r => flO x ∧ flL r

theorem flL_look : ∀ {o : Objs}, flL o → ∀ k x, lookO k o = some x → flO x
  | [], _, k, x, h => by simp [lookO] at h
  | (q, y) :: r, ho, k, x, h => by
    rw [lookO_cons] at h
    by_cases e : q = k
    · rw [if_pos e] at h; injection h with h; subst h; exact ho.1
    · rw [if_neg e] at h; exact flL_look ho.2 k x h

theorem R_fl {g g' : Gh} {w : World} (hm : g'.m = g.m) : ∀ a, fl a → R g' w a = R g w a := by
  intro a
  induction a with
  | ptr o p => intro _; simp only [R, hm]
  | sli o lo k e ty => intro _; simp only [R, hm]
  | mp o => intro h; exact h.elim
  | elt k e f i p ih => intro h; exact h.elim
  | lst tok k e f ih => intro h; exact h.elim
  | arr k e f ih => intro h; simp only [R, fun i => ih i (h i)]
  | st l ih => intro h; simp only [R, ih h]
  | cons a b iha ihb => intro h; simp only [R, iha h.1, ihb h.2]
  | tup l ih => intro h; simp only [R, ih h]
  | clo fn a b iha ihb => intro h; simp only [R, iha h.1, ihb h.2]
  | ifc t a ih => intro h; simp only [R, ih h]
  | _ => intro _; rfl

section
variable {P : Program} {gl : Nat → AV} {N : Nat}

/-- A part of a row of one's own, as a list. -/
def LeW (k m sz : Nat) (f : Nat → AV) : List AV → List AV → Prop
  | [], [] => True
  | a :: r, b :: s => (Le a b ∨ (∃ ty lo q, lo + q ≤ m ∧ a = .sli k lo q sz ty ∧ b = .lst none q sz (fun i => f (lo + i)))) ∧ LeW k m sz f r s
  | _, _ => False

theorem leW_nil {k m sz : Nat} {f : Nat → AV} : LeW k m sz f [] [] := trivial
theorem leW_k {k m sz : Nat} {f : Nat → AV} {a : AV} {r s : List AV} (h : LeW k m sz f r s) : LeW k m sz f (a :: r) (a :: s) := ⟨.inl (Le.refl a), h⟩
theorem leW_s {k m lo q sz : Nat} {ty : TypeId} {f : Nat → AV} {r s : List AV} (hq : lo + q ≤ m) (h : LeW k m sz f r s) : LeW k m sz f (.sli k lo q sz ty :: r) (.lst none q sz (fun i => f (lo + i)) :: s) := ⟨.inr ⟨ty, lo, q, hq, rfl, rfl⟩, h⟩

theorem RL_thaw {g g' : Gh} {w : World} {k m sz : Nat} {f : Nat → AV} (hev : Ev g w g' w) (h4 : ∀ ty lo q u, lo + q ≤ m → (R g w (.sli k lo q sz ty)).v u → (R g' w (.lst none q sz (fun i => f (lo + i)))).v u) : ∀ {l l' : List AV} {vs : List Value}, LeW k m sz f l l' → RL g w l vs → RL g' w l' vs
  | [], [], [], _, _ => trivial
  | a :: r, b :: s, u :: t, h, h' => by
    refine ⟨?_, RL_thaw hev h4 h.2 h'.2⟩
    rcases h.1 with h1 | ⟨ty, lo, q, hq, rfl, rfl⟩
    · exact h1.v g' w u ((R_ev hev a).v u h'.1)
    · exact h4 ty lo q u hq h'.1
  | [], _ :: _, _, h, _ => h.elim
  | _ :: _, [], _, h, _ => h.elim
  | _ :: _, _ :: _, [], _, h => h.elim
  | [], [], _ :: _, _, h => h.elim

theorem call_thaw {f : FuncId} {args args' : List AV} {o : Objs} {n : Nat} {K : AV → Objs → Nat → Prop} (k : Nat) {m sz : Nat} {fe : Nat → AV} (ho : lookO k o = some (.box (.arr m sz fe))) (hl : LeW k m sz fe args args')
    (h : CallB true P gl f args' (dropO k o) n (fun v o2 n2 => fl v ∧ flL o2 ∧ lookO k o2 = none ∧ Nat.blt k n2 = true ∧ forceP ((k, .box (.arr m sz fe)) :: o2) fun o' => K v o' n2)) (hk : Nat.blt k LENT = true := by rfl) : CallB true P gl f args o n K := by
  have hk : k < LENT := Nat.le_of_ble_eq_true hk
  obtain ⟨v, o2, n2, ⟨hv, hfl, hkn, hk2, hK⟩, hx⟩ := h.x
  have hK := forceP_iff.1 hK
  have hk2 : k < n2 := Nat.le_of_ble_eq_true hk2
  refine ⟨⟨v, _, n2, hK, fun hf q h1 h2 => ?_, fun N g w E a cargs hg hr => ?_⟩, fun hb => by cases hb⟩
  · rw [lookO_cons, if_neg (by omega)]
    refine hx.1 (fun q h1 h2 => ?_) q h1 h2
    rw [lookO_dropO]
    by_cases e1 : q = k
    · rw [if_pos e1]
    · rw [if_neg e1]; exact hf q h1 h2
  obtain ⟨d1, d2⟩ := good_drop hg k
  have hkn0 : k < n := by
    rcases hg.blt k _ ho with h7 | h7 <;> omega
  have hdl : ∀ q x, lookO q (dropO k o) = some x → q ≠ k ∧ lookO q o = some x := fun q x hq => by
    rw [lookO_dropO] at hq
    by_cases e : q = k
    · rw [if_pos e] at hq; cases hq
    · rw [if_neg e] at hq; exact ⟨e, hq⟩
  have hlk : ∀ q x, lookO q ((k, AObj.box (.arr m sz fe)) :: o2) = some x → (q = k ∧ x = .box (.arr m sz fe)) ∨ (q ≠ k ∧ lookO q o2 = some x) := fun q x hq => by
    rw [lookO_cons] at hq
    by_cases e : k = q
    · rw [if_pos e] at hq; injection hq with hq; exact .inl ⟨e.symm, hq.symm⟩
    · rw [if_neg e] at hq; exact .inr ⟨fun e' => e e'.symm, hq⟩
  obtain ⟨h0, h1⟩ | ⟨b, cs, ty, h1, h2, h3, h4, h5, h6⟩ := hg.objs k _ ho
  · have hsl : ∀ ty lo q u, lo + q ≤ m → (R g w (.sli k lo q sz ty)).v u → (R g w (.lst none q sz (fun i => fe (lo + i)))).v u := fun ty lo q u _ hu => by
      obtain ⟨⟨rfl, rfl⟩ | ⟨b, c, hb, _⟩, _⟩ := hu
      · exact ⟨⟨none, 0, rfl, Nat.le_refl _, trivial, ⟨rfl, rfl⟩⟩, csl (by decide)⟩
      · rw [h0] at hb; cases hb
    refine (hx.2 N g w E a cargs d1 (RL_thaw (Ev.refl g w) hsl hl hr)).mono ?_
    rintro x w' ⟨u, g2, a1, a2, a3, a4, a5⟩
    have s4 := d2.trans a4
    have hgk : g2.m k = none := (a5.m k hkn0).trans h0
    refine ⟨u, g2, a1, a2, ⟨fun q x hq => ?_, fun q x q' x' b e1 e2 e3 e4 => ?_, fun q x hq => ?_, a3.mlt, a3.rlt, a3.env, a3.sz, a3.def_, a3.gz, a3.gl⟩, ⟨s4.size, s4.keep, fun b ⟨q, x, hq, hb⟩ => ?_, s4.pub, s4.le, s4.cap, s4.keepC, fun b j ⟨q, x, hq, hb⟩ => ?_, s4.lent, s4.rl, s4.os, s4.out⟩, a5⟩
    · rcases hlk q x hq with ⟨rfl, rfl⟩ | ⟨_, hq⟩
      · exact .inl ⟨hgk, h1⟩
      · exact a3.objs q x hq
    · rcases hlk q x e1 with ⟨rfl, rfl⟩ | ⟨_, e1⟩
      · simp [blkOf, hgk] at e3
      · rcases hlk q' x' e2 with ⟨rfl, rfl⟩ | ⟨_, e2⟩
        · simp [blkOf, hgk] at e4
        · exact a3.inj q x q' x' b e1 e2 e3 e4
    · rcases hlk q x hq with ⟨rfl, rfl⟩ | ⟨_, hq⟩
      · exact .inl hk2
      · exact a3.blt q x hq
    · rcases hlk q x hq with ⟨rfl, rfl⟩ | ⟨_, hq⟩
      · simp [blkOf, hgk] at hb
      · exact s4.own b ⟨q, x, hq, hb⟩
    · rcases hlk q x hq with ⟨rfl, rfl⟩ | ⟨_, hq⟩
      · obtain ⟨off, hb1, _⟩ := hb
        rw [hgk] at hb1; cases hb1
      · exact s4.ownC b j ⟨q, x, hq, hb⟩
  · have h6 := h6 hk
    obtain ⟨b, off⟩ := b
    simp only at h1 h2 h3 h4 h5 h6
    subst h6
    let g' : Gh := { g with G := fun q => if q = b then m * sz else g.G q }
    have hG : ∀ q, q ≠ b → g'.G q = g.G q := fun q hq => if_neg hq
    have hGb : g'.G b = m * sz := if_pos rfl
    have hblt := lt_of_cel h3
    have hev : Ev g w g' w := ⟨fun _ _ h => h, fun t ob N ht => ⟨ob, N, ht, Nat.le_refl _, fun _ => rfl⟩, fun _ _ _ => rfl, fun q => by
      by_cases e : q = b
      · subst e; rw [h2]; exact Nat.zero_le _
      · rw [hG q e]; exact Nat.le_refl _, fun _ cs _ hb => ⟨cs, hb, rfl⟩⟩
    have hown : Own g o b := ⟨k, _, ho, by simp [blkOf, h1]⟩
    have hnot : ¬ Own g' (dropO k o) b := fun ⟨q, x, hq, hb⟩ => by
      obtain ⟨e1, e2⟩ := hdl q x hq
      exact e1 (hg.inj q x k _ _ e2 ho (by rw [← hb]; exact (blk_same rfl rfl).symm) (by simp [blkOf, h1]))
    have hgd : Good P gl N g' w E (dropO k o) n a := by
      refine ⟨fun q x hq => ?_, fun q x q' x' c a1 a2 a3 a4 => ?_, d1.blt, hg.mlt, hg.rlt, fun t => (R_ev hev _).v _ (hg.env t), hg.sz, hg.def_, fun q hq => ?_, fun i => (R_ev hev _).v _ (hg.gl i)⟩
      · obtain ⟨e1, e2⟩ := hdl q x hq
        refine obj_ev hev (hg.objs q x e2) rfl (fun _ hp => hp) (fun c hc => ⟨hG c ?_, rfl⟩)
        rintro rfl
        exact e1 (hg.inj q x k _ _ e2 ho hc (by simp [blkOf, h1]))
      · obtain ⟨e1, e2⟩ := hdl q x a1
        obtain ⟨e3, e4⟩ := hdl q' x' a2
        exact hg.inj q x q' x' c e2 e4 (by rw [← a3]; exact (blk_same rfl rfl).symm) (by rw [← a4]; exact (blk_same rfl rfl).symm)
      · by_cases e : q = b
        · subst e; omega
        · rw [hG q e]; exact hg.gz q hq
    have hsl : ∀ ty lo q u, lo + q ≤ m → (R g w (.sli k lo q sz ty)).v u → (R g' w (.lst none q sz (fun i => fe (lo + i)))).v u := fun ty lo q u hq hu => by
      obtain ⟨⟨rfl, rfl⟩ | ⟨c0, c, hb, hmc, rfl, hcM, _⟩, _⟩ := hu
      · exact ⟨⟨none, 0, rfl, Nat.le_refl _, trivial, ⟨rfl, rfl⟩⟩, csl (by decide)⟩
      · rw [h1] at hb
        injection hb with hb
        subst hb
        refine ⟨⟨some ⟨b, 0 + lo * sz, none⟩, c, rfl, hmc, trivial, fun _ => rfl, fun _ => ?_, fun i hi => ?_⟩, csl (by omega)⟩
        · show 0 + lo * sz + q * sz ≤ g'.G b
          rw [hGb, Nat.zero_add, ← Nat.add_mul]
          exact Nat.mul_le_mul_right _ hq
        · obtain ⟨b1, b2⟩ := h5 (lo + i) (by omega)
          refine ⟨b1, ?_⟩
          show (R g' w (fe (lo + i))).s (look w b) (0 + lo * sz + i * sz)
          rw [show 0 + lo * sz + i * sz = 0 + (lo + i) * sz by rw [Nat.add_mul, Nat.add_assoc]]
          exact (R_ev hev _).s _ _ _ _ (fun _ _ => rfl) b2
    have hs1 : Stp g w o g' w (dropO k o) := ⟨Nat.le_refl _, fun q hq hno => ⟨rfl, hG q (fun e => hno (e ▸ hown))⟩, fun q ⟨x, y, a1, a2⟩ => .inl ⟨x, y, (hdl x y a1).2, by rw [← a2]; exact (blk_same rfl rfl).symm⟩, fun _ _ _ => rfl, hev.le, hev.cap, fun _ _ _ _ => rfl, fun q j ⟨x, y, a1, a2⟩ => .inl ⟨x, y, (hdl x y a1).2, a2⟩, fun _ _ => rfl, fun _ ob N _ h => ⟨ob, N, h, Nat.le_refl _, fun _ => rfl⟩, rfl, rfl⟩
    refine (hx.2 N g' w E a cargs hgd (RL_thaw hev hsl hl hr)).mono ?_
    rintro x w' ⟨u, g2, a1, a2, a3, a4, a5⟩
    have s4 := hs1.trans a4
    let g3 : Gh := { g2 with G := fun q => if q = b then 0 else g2.G q }
    have hG3 : ∀ q, q ≠ b → g3.G q = g2.G q := fun q hq => if_neg hq
    have hG3b : g3.G b = 0 := if_pos rfl
    have hmk : g2.m k = some (b, 0) := a5.ev.m k _ h1
    have hblk : ∀ q x, blkOf g3 q x = blkOf g2 q x := fun q x => blk_same rfl rfl
    have hnb : ∀ q x, lookO q o2 = some x → blkOf g2 q x ≠ some b := fun q x hq e => by
      rcases a4.own b ⟨q, x, hq, e⟩ with h7 | h7
      · exact hnot h7
      · omega
    have hev3 : Ev g w g3 w' := by
      have h7 := hev.trans a5.ev
      refine ⟨h7.m, h7.r, h7.pub, fun q => ?_, h7.cap⟩
      by_cases e : q = b
      · subst e; rw [h2]; exact Nat.zero_le _
      · rw [hG3 q e]; exact h7.le q
    have hown3 : ∀ q, Own g3 ((k, AObj.box (.arr m sz fe)) :: o2) q → Own g o q ∨ w.heap.size ≤ q := fun c ⟨q, x, hq, hb⟩ => by
      rcases hlk q x hq with ⟨rfl, rfl⟩ | ⟨_, hq⟩
      · have : (g2.m q).map (·.1) = some c := hb
        rw [hmk] at this
        injection this with this
        exact .inl (this ▸ hown)
      · exact s4.own c ⟨q, x, hq, by rw [← hb]; exact (hblk q x).symm⟩
    refine ⟨u, g3, a1, by rw [R_fl (g := g2) (g' := g3) rfl v hv]; exact a2, ⟨fun q x hq => ?_, fun q x q' x' c e1 e2 e3 e4 => ?_, fun q x hq => ?_, a3.mlt, a3.rlt, fun t => (R_ev hev3 _).v _ (hg.env t), hg.sz, hg.def_, fun q hq => ?_, fun i => (R_ev hev3 _).v _ (hg.gl i)⟩, ⟨s4.size, fun q hq hno => ?_, hown3, s4.pub, hev3.le, s4.cap, s4.keepC, fun c j ⟨q, x, hq, hb⟩ => ?_, s4.lent, s4.rl, s4.os, s4.out⟩, hev3, a5.m⟩
    · rcases hlk q x hq with ⟨rfl, rfl⟩ | ⟨_, hq⟩
      · obtain ⟨cs', h7, h8⟩ := a5.ev.cap b cs ty h3
        refine .inr ⟨(b, 0), cs', ty, hmk, hG3b, h7, by rw [h8]; exact h4, ?_, fun _ => rfl⟩
        refine (R_ev hev3 _).s _ _ _ _ (fun j hj => ?_) h5
        exact a5.ev.pub b (0 + j) (by rw [hGb]; simpa [size] using hj)
      · have ho2 := a3.objs q x hq
        have hf := flL_look hfl q x hq
        have hnb' := hnb q x hq
        cases x with
        | box y =>
          rcases ho2 with ⟨p1, p2⟩ | ⟨bb, cs', ty', p1, p2, p3, p4, p5, p6⟩
          · exact .inl ⟨p1, p2⟩
          · refine .inr ⟨bb, cs', ty', p1, ?_, p3, p4, by rw [R_fl (g := g2) (g' := g3) rfl y hf]; exact p5, p6⟩
            rw [hG3 bb.1 (fun e => hnb' (by simp [blkOf, p1, e]))]; exact p2
        | room mm ee ty' =>
          obtain ⟨ob, p1, p2, p3⟩ := ho2
          refine ⟨ob, p1, p2, fun bb hb => ?_⟩
          rw [hG3 bb (fun e => hnb' (by rw [← e, ← hb]; simp [blkOf, p1]))]
          exact p3 bb hb
        | soon => exact hf.elim
        | dict kk ff => exact hf.elim
    · rw [hblk] at e3 e4
      have hkb : ∀ c', blkOf g2 k (.box (.arr m sz fe)) = some c' → c' = b := fun c' e => by
        have e : (g2.m k).map (·.1) = some c' := e
        rw [hmk] at e
        injection e with e
        exact e.symm
      rcases hlk q x e1 with ⟨f1, f2⟩ | ⟨_, f1⟩ <;> rcases hlk q' x' e2 with ⟨f3, f4⟩ | ⟨_, f3⟩
      · exact f1.trans f3.symm
      · subst f1 f2
        rw [hkb c e3] at e4
        exact absurd e4 (hnb q' x' f3)
      · subst f3 f4
        rw [hkb c e4] at e3
        exact absurd e3 (hnb q x f1)
      · exact a3.inj q x q' x' c f1 f3 e3 e4
    · rcases hlk q x hq with ⟨rfl, rfl⟩ | ⟨_, hq⟩
      · exact .inl hk2
      · exact a3.blt q x hq
    · by_cases e : q = b
      · rw [e]; exact hG3b
      · rw [hG3 q e]; exact a3.gz q hq
    · obtain ⟨k1, k2⟩ := s4.keep q hq hno
      exact ⟨k1, (hG3 q (fun e => hno (e ▸ hown))).trans k2⟩
    · rcases hlk q x hq with ⟨rfl, rfl⟩ | ⟨_, hq⟩
      · obtain ⟨off, hb1, _⟩ := hb
        have hb1 : g2.m q = some (c, off) := hb1
        rw [hmk] at hb1
        injection hb1 with hb1
        injection hb1 with hb1 hb2
        subst hb1 hb2
        exact .inl ⟨q, _, ho, 0, h1, fun hL => absurd hL (by omega)⟩
      · exact s4.ownC c j ⟨q, x, hq, hb⟩

theorem good_up {g : Gh} {w : World} {E : Nat → AV} {o : Objs} {n n' : Nat} {a : Act} (h : Good P gl N g w E o n a) (hn : n ≤ n') : Good P gl N g w E o n' a :=
  ⟨h.objs, h.inj, fun k x hk => (h.blt k x hk).imp (fun h => Nat.lt_of_lt_of_le h hn) id, fun k b hk => (h.mlt k b hk).imp (fun h => Nat.lt_of_lt_of_le h hn) id, fun k b hk => (h.rlt k b hk).imp (fun h => Nat.lt_of_lt_of_le h hn) id, h.env, h.sz, h.def_, h.gz, h.gl⟩

/-- Names may be counted further. -/
theorem le_up {e : Env} {o : Objs} {n n' : Nat} (hn : n ≤ n') : LeSt gl N e o n e o n' := fun P g w a h => ⟨g, good_up h hn, Stp.refl g w o⟩

/-! A growing row that the function has made is given to the caller as a row of its own. -/
/-- Values that hang on one growing row alone, at its full length. -/
def okw (k m e : Nat) : AV → Prop
  | .elt _ _ _ _ _ => False
  | .lst tok n e' f => tok = some k ∧ n = m ∧ e' = e ∧ ∀ i, fl (f i)
  | .mp _ => False
  | .ptr _ _ => False
  | .sli _ _ _ _ _ => False
  | .arr _ _ f => False
  | .st l => False
  | .cons a b => okw k m e a ∧ okw k m e b
  | .tup l => okw k m e l
  | .clo _ a b => False
  | .ifc _ a => False
  | _ => True

def ow (ty : TypeId) : AV → AV
  | .lst _ n e _ => .sli 0 0 n e ty
  | .cons a b => .cons (ow ty a) (ow ty b)
  | .tup l => .tup (ow ty l)
  | a => a

structure Ow1 (g : Gh) (w : World) (g' : Gh) (a b : AV) : Prop where
  v : ∀ u, (R g w a).v u → (R g' w b).v u
  l : ∀ vs, (R g w a).l vs → (R g' w b).l vs

theorem R_ow {g g' : Gh} {w : World} {k m e : Nat} {ty : TypeId} {ob : Option Nat} (hr : g.r k = some (ob, m)) (hm : ∀ b, ob = some b → g'.m 0 = some (b, 0)) (h0 : ob = none → m = 0)
    (hc : ∀ b, ob = some b → ∃ (cs : Array Value) (ty' : TypeId), Cel w (b) cs ty') : ∀ a, okw k m e a → Ow1 g w g' a (ow ty a) := by
  intro a
  induction a with
  | lst tok n e' f ih =>
    intro h
    obtain ⟨rfl, rfl, rfl, hf⟩ := h
    refine ⟨fun u hu => ?_, fun vs h => h.elim⟩
    obtain ⟨⟨oa, c, rfl, hnc, ⟨ob', N', q1, q2, q3⟩, hrow⟩, hcell⟩ := hu
    rw [hr] at q1
    injection q1 with q1
    injection q1 with q1 q1'
    subst q1 q1'
    obtain ⟨q4, q5⟩ := q3 rfl
    cases ob with
    | none =>
      have hn := h0 rfl
      subst hn
      rw [show oa = none from q4] at hrow ⊢
      obtain ⟨_, rfl⟩ := hrow
      exact ⟨.inl ⟨rfl, rfl⟩, csl (by decide)⟩
    | some b =>
      obtain ⟨cs, ty', p1, p2, p3⟩ := q5 b rfl
      obtain ⟨cs', ty2, p4⟩ := hc b rfl
      obtain ⟨p5, p6⟩ := p1.inj p4
      subst p5 p6
      rw [show oa = some ⟨b, 0, none⟩ from q4]
      exact ⟨.inr ⟨(b, 0), c, hm b rfl, hnc, by simp, p3, cs, _, p1, by simpa using p2⟩, hcell⟩
  | cons a b iha ihb =>
    intro h
    refine ⟨fun u hu => hu.elim, fun vs hu => ?_⟩
    cases vs with
    | nil => exact hu
    | cons u r => exact ⟨(iha h.1).v u hu.1, (ihb h.2).l r hu.2⟩
  | tup l ih => intro h; exact ⟨fun u ⟨vs, hu, hl⟩ => ⟨vs, hu, (ih h).l _ hl⟩, fun vs hu => hu.elim⟩
  | nil => intro h; exact ⟨fun u hu => hu, fun vs hu => hu⟩
  | val x => intro h; exact ⟨fun u hu => hu, fun vs hu => hu⟩
  | any => intro h; exact ⟨fun u hu => hu, fun vs hu => hu⟩
  | elt n e f i p ih => intro h; exact h.elim
  | ptr o p => intro h; exact h.elim
  | sli o lo n e ty => intro h; exact h.elim
  | mp o => intro h; exact h.elim
  | arr n e f ih => intro h; exact h.elim
  | st l ih => intro h; exact h.elim
  | clo fn a b iha ihb => intro h; exact h.elim
  | ifc t a ih => intro h; exact h.elim

structure FinO (gl : Nat → AV) (N : Nat) (rs : List RV) (r : AV) (k m sz : Nat) (ty : TypeId) (f : Nat → AV) (e : Env) (o : Objs) (n : Nat) : Prop where
  h : ∃ e' o' n', LeSt gl N e o n e' o' n' ∧ lookO k o' = some (.room m sz ty) ∧ resA e' o' rs fun l => Le (packA l) r

theorem pureO_fn (hm : P.follows .mixedOrders = true) {f : FuncId} {fn : Func} {x : IC} {rs : List RV} {args : List AV} {r : AV} (k m sz : Nat) (ty : TypeId) (h : Nat → AV) (hf : P.funcs[f]? = some fn) (hN : fn.ntmps = N)
    (hcf : compF P N fn = some (x, rs)) (hlen : args.length ≤ N) (hgl : ∀ i, nf (gl i)) (hk : Nat.blt k LENT = true) (hr : okw k m sz r) (hh : ∀ i, fl (h i)) (hn : ∀ i, nf (h i)) (hex : ∀ g w u, (R g w r).v u → ∃ u', (R g w (.lst (some k) m sz h)).v u')
    (hw : wp P gl N x (fun ex e o n => match ex with
      | .exit _ => False
      | _ => FinO gl N rs r k m sz ty h e o n) (enumA 0 args) [] 0) : PureI P gl f args [] 0 (ow ty r) [(0, .box (.arr m sz h))] 1 := by
  have hk : k < LENT := Nat.le_of_ble_eq_true hk
  obtain ⟨c, hb, hc, hrs⟩ : ∃ c, fn.body = some c ∧ comp P N c = some x ∧ compR P fn.results.toList = some rs := by
    unfold compF at hcf
    split at hcf
    · rename_i c hb
      split at hcf
      · rename_i y s h1 h2
        injection hcf with hcf
        injection hcf with h3 h4
        subst h3 h4
        exact ⟨c, hb, h1, h2⟩
      · cases hcf
    · cases hcf
  refine ⟨hgl, fun g w cargs hg hargs => ?_⟩
  have hcl := RL_len hargs
  let act : Act := { tmps := cargs.toArray ++ Array.replicate (fn.ntmps - cargs.toArray.size) undef, defers := [] }
  have hsz : act.tmps.size = N := by
    show (cargs.toArray ++ Array.replicate (fn.ntmps - cargs.toArray.size) undef).size = N
    simp only [Array.size_append, List.size_toArray, Array.size_replicate, hcl, hN]
    omega
  have hgood : Good P gl N g w (EnvF (enumA 0 args)) [] 0 act := by
    refine ⟨hg.objs, hg.inj, hg.blt, hg.mlt, hg.rlt, fun t => ?_, hsz, (fun d hd => by cases hd), hg.gz, hg.gl⟩
    show (R g w (lookE t (enumA 0 args))).v (act.tmps.getD t undef)
    rw [lookE_enum]
    simp only [Nat.zero_le, if_true, Nat.sub_zero]
    by_cases ht : t < args.length
    · have h1 := RL_get hargs t ht
      have h2 : act.tmps.getD t undef = cargs.getD t undef := by
        have : t < cargs.length := by omega
        show (cargs.toArray ++ Array.replicate (fn.ntmps - cargs.toArray.size) undef).getD t undef = _
        rw [Array.getD_eq_getD_getElem?, Array.getElem?_append_left (by simpa using this)]
        simp
      rw [h2]; exact h1
    · have : args.getD t .any = .any := by simp [List.getD, Nat.le_of_not_lt ht]
      rw [this]; trivial
  refine calls_of_wp_defers hf hb (wp_mono (wp_sound hm c x hc _ _ _ _ hw g w act hgood) ?_)
  rintro ex a' w1 ⟨x', g', e', o', n', hx, hg1, hs1, hq⟩
  have fin : ∀ w', Drawn w1 w' → FinO gl N rs r k m sz ty h e' o' n' → ∃ v, (results fn a'.tmps).run P w' = .ok v w' ∧ ∃ u g2, Ending.returned v = .returned u ∧ Good P gl 0 g2 w' (fun _ => .any) [(0, .box (.arr m sz h))] 1 act0 ∧ Stp g w [] g2 w' [(0, .box (.arr m sz h))] ∧ (R g2 w' (ow ty r)).v u := by
    intro w' hd
    have hg' := hg1.drawn hd
    have hs' := hs1.trans (hd.stp g' o')
    intro hfin
    obtain ⟨e2, o2, n2, hle, hro, hres⟩ := hfin.h
    obtain ⟨g2, hg2, hs2⟩ := hle P g' w' a' hg'
    obtain ⟨as, us, h1, h2, h3⟩ := res_ok hg2 fn.results.toList rs hrs _ hres
    have hs := hs'.trans hs2
    have hrun : (results fn a'.tmps).run P w' = .ok (if hs : us.toArray.size = 1 then us.toArray[0] else .tuple us.toArray) w' := by
      have e1 : results fn a'.tmps = (do
          let vs ← fn.results.mapM (resV a'.tmps)
          pure (if h : vs.size = 1 then vs[0] else .tuple vs)) := rfl
      rw [e1, Array.mapM_eq_mapM_toList]
      simp only [Sem.run_bind, Sem.run_map]
      rw [h1]
      simp only [Result.andThen_ok, Sem.run_pure]
    have hu := h3.v g2 w' _ (pack_ok (us := us.toArray) (by simpa using h2))
    generalize (if hs : us.toArray.size = 1 then us.toArray[0] else Value.tuple us.toArray) = u at hu hrun
    obtain ⟨ob, q1, q2, q3⟩ := hg2.objs k _ hro
    let g3 : Gh := ⟨fun q => if q < LENT then (if q = 0 then ob.map (fun b => (b, 0)) else none) else g.m q, fun q => if q < LENT then none else g.r q, fun q => if ob = some q then 0 else g2.G q⟩
    have gm0 : g3.m 0 = ob.map (fun b => (b, 0)) := rfl
    have gmL : ∀ q, LENT ≤ q → g3.m q = g.m q := fun q hq => if_neg (by omega)
    have grL : ∀ q, LENT ≤ q → g3.r q = g.r q := fun q hq => if_neg (by omega)
    have gmn : ∀ q, q < LENT → q ≠ 0 → g3.m q = none := fun q h1 h2 => by
      show (if q < LENT then (if q = 0 then _ else none) else g.m q) = none
      rw [if_pos h1, if_neg h2]
    have gG : ∀ q, ob ≠ some q → g3.G q = g2.G q := fun q hq => if_neg hq
    have gG0 : ∀ q, ob = some q → g3.G q = 0 := fun q hq => if_pos hq
    have hnew : ∀ b, ob = some b → w.heap.size ≤ b := fun b hb => by
      rcases hs.own b ⟨k, _, hro, by simp [blkOf, q1, hb]⟩ with ⟨q, x, hq, _⟩ | h7
      · simp [lookO] at hq
      · exact h7
    have hmold : ∀ q b, g.m q = some b → LENT ≤ q := fun q b hb => (hg.mlt q b hb).elim (fun h => absurd h (Nat.not_lt_zero _)) id
    have hrold : ∀ q b, g.r q = some b → LENT ≤ q := fun q b hb => (hg.rlt q b hb).elim (fun h => absurd h (Nat.not_lt_zero _)) id
    have hle3 : ∀ b, g.G b ≤ g3.G b := fun b => by
      by_cases e : ob = some b
      · rw [hg.gz b (hnew b e)]; exact Nat.zero_le _
      · rw [gG b e]; exact hs.le b
    have hev : Ev g w g3 w' := ⟨fun q b hb => by rw [gmL q (hmold q b hb)]; exact hb, fun q ob N hb => ⟨ob, N, by rw [grL q (hrold q _ hb)]; exact hb, Nat.le_refl _, fun _ => rfl⟩, hs.pub, hle3, hs.cap⟩
    have hlk : ∀ q x, lookO q [(0, AObj.box (.arr m sz h))] = some x → q = 0 ∧ x = .box (.arr m sz h) := fun q x hq => by
      rw [lookO_cons] at hq
      by_cases e : 0 = q
      · rw [if_pos e] at hq; injection hq with hq; exact ⟨e.symm, hq.symm⟩
      · rw [if_neg e] at hq; simp [lookO] at hq
    have hcell : ∀ b, ob = some b → ∃ (cs : Array Value) (ty' : TypeId), Cel w' (b) cs ty' := fun b hb => by
      obtain ⟨_, cs, ty2, h7, _⟩ := q3 b hb
      exact ⟨cs, ty2, h7⟩
    obtain ⟨u', hu'⟩ := hex g2 w' u hu
    refine ⟨u, hrun, u, g3, rfl, ⟨fun q x hq => ?_, fun q x q' x' b e1 e2 e3 e4 => ?_, fun q x hq => ?_, fun q b hb => ?_, fun q b hb => ?_, fun _ => trivial, rfl, (fun d hd => by cases hd), fun b hb => ?_, fun i => (R_ev hev _).v _ (hg.gl i)⟩,
      ⟨hs.size, fun b hb _ => ?_, fun b ⟨q, x, hq, hb⟩ => ?_, hs.pub, hle3, hs.cap, hs.keepC, fun b j ⟨q, x, hq, hb⟩ => ?_, fun q hq => gmL q hq, fun q ob N hq hb => ⟨ob, N, by rw [grL q (by omega)]; exact hb, Nat.le_refl _, fun _ => rfl⟩, hs.os, hs.out⟩,
      (R_ow (g := g2) (g' := g3) (ty := ty) q1 (fun b hb => by rw [gm0, hb]; rfl) q2.1 hcell r hr).v u hu⟩
    · obtain ⟨rfl, rfl⟩ := hlk q x hq
      obtain ⟨⟨oa, c, rfl, hnc, ⟨ob', N', p1, p2, p3⟩, hrow⟩, hcv⟩ := hu'
      rw [q1] at p1
      injection p1 with p1
      injection p1 with p1 p1'
      subst p1 p1'
      obtain ⟨p4, p5⟩ := p3 rfl
      cases ob with
      | none => exact .inl ⟨gm0, by show m * sz = 0; rw [q2.1 rfl, Nat.zero_mul]⟩
      | some b =>
        obtain ⟨hGb, cs, ty2, h7, h8⟩ := q3 b rfl
        refine .inr ⟨(b, 0), cs, ty2, gm0, gG0 b rfl, h7, by simpa [size] using h8, fun i hi => ?_, fun _ => rfl⟩
        rw [show oa = some ⟨b, 0, none⟩ from p4] at hrow
        obtain ⟨h9, h10⟩ := hrow.2.2 i hi
        refine ⟨h9, ?_⟩
        have h10 : (R g2 w' (h i)).s (look w' b) (0 + i * sz) := h10
        rw [R_nf (g' := g3) (g := ⟨g2.m, g2.r, g3.G⟩) rfl (h i) (hn i), R_fl (g' := ⟨g2.m, g2.r, g3.G⟩) (g := g2) rfl (h i) (hh i)]
        exact h10
    · rw [(hlk q x e1).1, (hlk q' x' e2).1]
    · rw [(hlk q x hq).1]; exact .inl (by decide)
    · by_cases e : q < LENT
      · by_cases e0 : q = 0
        · exact .inl (by omega)
        · rw [gmn q e e0] at hb; cases hb
      · exact .inr (by omega)
    · by_cases e : q < LENT
      · have hb : (if q < LENT then none else g.r q) = some b := hb
        rw [if_pos e] at hb; cases hb
      · exact .inr (by omega)
    · by_cases e : ob = some b
      · exact gG0 b e
      · rw [gG b e]; exact hg2.gz b hb
    · have h7 := hs.keep b hb (fun ⟨q, x, hq, _⟩ => by simp [lookO] at hq)
      refine ⟨h7.1, ?_⟩
      rw [gG b (fun e => by have := hnew b e; omega)]; exact h7.2
    · obtain ⟨rfl, rfl⟩ := hlk q x hq
      have hb : (g3.m 0).map (·.1) = some b := hb
      rw [gm0] at hb
      cases ob with
      | none => cases hb
      | some b' => injection hb with hb; exact .inr (hb ▸ hnew b' rfl)
    · obtain ⟨rfl, rfl⟩ := hlk q x hq
      obtain ⟨off, hb, _⟩ := hb
      have hb : g3.m 0 = some (b, off) := hb
      rw [gm0] at hb
      cases ob with
      | none => cases hb
      | some b' => injection hb with hb; injection hb with hb _; exact .inr (hb ▸ hnew b' rfl)
  cases x' with
  | normal =>
    cases ex <;> simp only [ExR] at hx
    exact leaves_nop _ _ hg1.def_ (fun w2 hd => fin w2 hd hq)
  | ret =>
    cases ex <;> simp only [ExR] at hx
    exact leaves_nop _ _ hg1.def_ (fun w2 hd => fin w2 hd hq)
  | exit i => exact hq.elim

/-- The row alone. -/
theorem pureO1_fn (hm : P.follows .mixedOrders = true) {f : FuncId} {fn : Func} {x : IC} {rs : List RV} {args : List AV} (k m sz : Nat) (ty : TypeId) (h : Nat → AV) (hf : P.funcs[f]? = some fn) (hN : fn.ntmps = N)
    (hcf : compF P N fn = some (x, rs)) (hlen : args.length ≤ N) (hgl : ∀ i, nf (gl i)) (hk : Nat.blt k LENT = true) (hh : ∀ i, fl (h i)) (hn : ∀ i, nf (h i))
    (hw : wp P gl N x (fun ex e o n => match ex with
      | .exit _ => False
      | _ => FinO gl N rs (.lst (some k) m sz h) k m sz ty h e o n) (enumA 0 args) [] 0) : PureIX P gl f args [] 0 (fun r o1 n1 => r = .sli 0 0 m sz ty ∧ o1 = [(0, .box (.arr m sz h))] ∧ n1 = 1) :=
  ⟨_, _, _, ⟨rfl, rfl, rfl⟩, pureO_fn (r := .lst (some k) m sz h) hm k m sz ty h hf hN hcf hlen hgl hk ⟨rfl, rfl, rfl, hh⟩ hh hn (fun _ _ u hu => ⟨u, hu⟩) hw⟩

/-- The row, and two numbers. -/
theorem pureO3_fn (hm : P.follows .mixedOrders = true) {f : FuncId} {fn : Func} {x : IC} {rs : List RV} {args : List AV} (k m sz : Nat) (ty : TypeId) (h : Nat → AV) (b c : Value) (hf : P.funcs[f]? = some fn) (hN : fn.ntmps = N)
    (hcf : compF P N fn = some (x, rs)) (hlen : args.length ≤ N) (hgl : ∀ i, nf (gl i)) (hk : Nat.blt k LENT = true) (hh : ∀ i, fl (h i)) (hn : ∀ i, nf (h i))
    (hw : wp P gl N x (fun ex e o n => match ex with
      | .exit _ => False
      | _ => FinO gl N rs (.tup (.cons (.lst (some k) m sz h) (.cons (.val b) (.cons (.val c) .nil)))) k m sz ty h e o n) (enumA 0 args) [] 0) : PureIX P gl f args [] 0 (fun r o1 n1 => r = .tup (.cons (.sli 0 0 m sz ty) (.cons (.val b) (.cons (.val c) .nil))) ∧ o1 = [(0, .box (.arr m sz h))] ∧ n1 = 1) :=
  ⟨_, _, _, ⟨rfl, rfl, rfl⟩, pureO_fn (r := .tup (.cons (.lst (some k) m sz h) (.cons (.val b) (.cons (.val c) .nil)))) hm k m sz ty h hf hN hcf hlen hgl hk ⟨⟨rfl, rfl, rfl, hh⟩, trivial, trivial, trivial⟩ hh hn (fun g w u ⟨vs, h1, h2⟩ => by
    cases hv : vs.toList with
    | nil => rw [hv] at h2; exact h2.elim
    | cons v r => rw [hv] at h2; exact ⟨v, h2.1⟩) hw⟩

/-- An answer whose first part is nil, as a row of the caller's own. -/
theorem pureI_nil3 {f : FuncId} {args : List AV} {b c : Value} (k sz : Nat) (ty : TypeId) (h : Nat → AV) (hk : Nat.blt k LENT = true) (hp : Pure P gl f args (.tup (.cons (.val (.slice none 0 0)) (.cons (.val b) (.cons (.val c) .nil))))) :
    PureI P gl f args [] 0 (.tup (.cons (.sli k 0 0 sz ty) (.cons (.val b) (.cons (.val c) .nil)))) [(k, .box (.arr 0 sz h))] (k + 1) := by
  have hk : k < LENT := Nat.le_of_ble_eq_true hk
  refine ⟨hp.2.2.1, fun g w cargs hg hr => (good_call hg hp hr).mono ?_⟩
  rintro x w' ⟨u, g', hx, hg', hs, hu, _⟩
  have hfresh : g'.m k = none := by
    cases hgm : g'.m k with
    | none => rfl
    | some p => exact absurd (hg'.mlt k p hgm) (by omega)
  obtain ⟨k1, k2⟩ := good_new (good_up hg' (Nat.zero_le k)) (w' := w') (g' := g') (x := .box (.arr 0 sz h)) (Ev.refl g' w') (Nat.le_refl _) (fun _ _ => rfl) (fun _ _ => rfl) (fun _ _ => rfl) (fun _ _ => rfl) hg'.gz
    (fun b hb => by simp [blkOf, hfresh] at hb) (.inl ⟨hfresh, by simp [size]⟩) rfl rfl hk
  refine ⟨u, g', hx, k1, hs.trans k2, ?_⟩
  obtain ⟨vs, h1, h2⟩ := hu
  refine ⟨vs, h1, ?_⟩
  cases hv : vs.toList with
  | nil => rw [hv] at h2; exact h2.elim
  | cons v r =>
    rw [hv] at h2
    refine ⟨?_, h2.2⟩
    obtain ⟨rfl, _⟩ := h2.1
    exact ⟨.inl ⟨rfl, rfl⟩, csl (by decide)⟩

theorem Pure.le {f : FuncId} {args : List AV} {r r' : AV} (hp : Pure P gl f args r) (hl : LeA r r') (hn : nf r') : Pure P gl f args r' :=
  ⟨hp.1, hn, hp.2.2.1, fun G w cargs h1 h2 h3 => (hp.2.2.2 G w cargs h1 h2 h3).mono fun x w' ⟨u, G', a1, a2, a3, a4⟩ => ⟨u, G', a1, a2, a3, hl.le.v _ w' u a4⟩⟩

theorem leA_nil3 (sz : Nat) (f : Nat → AV) : LeA (.val (.slice none 0 0)) (.lst none 0 sz f) := by
  refine leA_one rfl rfl (fun g w => ⟨_, _, rfl, rfl, ?_⟩)
  rintro u rfl
  exact ⟨none, 0, rfl, Nat.le_refl _, trivial, ⟨rfl, rfl⟩⟩

/-- A row of one's own is given away: nobody writes into it any more; parts of it too are lists. -/
theorem good_freezeP {g : Gh} {w : World} {E : Nat → AV} {o : Objs} {n : Nat} {a : Act} (hg : Good P gl N g w E o n a) {k m sz : Nat} {fe : Nat → AV} (ho : lookO k o = some (.box (.arr m sz fe))) (hk : k < LENT) :
    ∃ g', Good P gl N g' w E (dropO k o) n a ∧ Stp g w o g' w (dropO k o) ∧ ∀ ty lo q u, lo + q ≤ m → (R g w (.sli k lo q sz ty)).v u → (R g' w (.lst none q sz (fun i => fe (lo + i)))).v u := by
  obtain ⟨d1, d2⟩ := good_drop hg k
  have hdl : ∀ q x, lookO q (dropO k o) = some x → q ≠ k ∧ lookO q o = some x := fun q x hq => by
    rw [lookO_dropO] at hq
    by_cases e : q = k
    · rw [if_pos e] at hq; cases hq
    · rw [if_neg e] at hq; exact ⟨e, hq⟩
  obtain ⟨h0, h1⟩ | ⟨b, cs, ty, h1, h2, h3, h4, h5, h6⟩ := hg.objs k _ ho
  · refine ⟨g, d1, d2, fun ty lo q u _ hu => ?_⟩
    obtain ⟨⟨rfl, rfl⟩ | ⟨b, c, hb, _⟩, _⟩ := hu
    · exact ⟨⟨none, 0, rfl, Nat.le_refl _, trivial, ⟨rfl, rfl⟩⟩, csl (by decide)⟩
    · rw [h0] at hb; cases hb
  · have h6 := h6 hk
    obtain ⟨b, off⟩ := b
    simp only at h1 h2 h3 h4 h5 h6
    subst h6
    let g' : Gh := { g with G := fun q => if q = b then m * sz else g.G q }
    have hG : ∀ q, q ≠ b → g'.G q = g.G q := fun q hq => if_neg hq
    have hGb : g'.G b = m * sz := if_pos rfl
    have hblt := lt_of_cel h3
    have hev : Ev g w g' w := ⟨fun _ _ h => h, fun t ob N ht => ⟨ob, N, ht, Nat.le_refl _, fun _ => rfl⟩, fun _ _ _ => rfl, fun q => by
      by_cases e : q = b
      · subst e; rw [h2]; exact Nat.zero_le _
      · rw [hG q e]; exact Nat.le_refl _, fun _ cs _ hb => ⟨cs, hb, rfl⟩⟩
    have hown : Own g o b := ⟨k, _, ho, by simp [blkOf, h1]⟩
    refine ⟨g', ⟨fun q x hq => ?_, fun q x q' x' c a1 a2 a3 a4 => ?_, d1.blt, hg.mlt, hg.rlt, fun t => (R_ev hev _).v _ (hg.env t), hg.sz, hg.def_, fun q hq => ?_, fun i => (R_ev hev _).v _ (hg.gl i)⟩,
      ⟨Nat.le_refl _, fun q hq hno => ⟨rfl, hG q (fun e => hno (e ▸ hown))⟩, fun q ⟨x, y, a1, a2⟩ => .inl ⟨x, y, (hdl x y a1).2, by rw [← a2]; exact (blk_same rfl rfl).symm⟩, fun _ _ _ => rfl, hev.le, hev.cap, fun _ _ _ _ => rfl, fun q j ⟨x, y, a1, a2⟩ => .inl ⟨x, y, (hdl x y a1).2, a2⟩, fun _ _ => rfl, fun _ ob N _ h => ⟨ob, N, h, Nat.le_refl _, fun _ => rfl⟩, rfl, rfl⟩, fun ty lo q u hq hu => ?_⟩
    · obtain ⟨e1, e2⟩ := hdl q x hq
      refine obj_ev hev (hg.objs q x e2) rfl (fun _ hp => hp) (fun c hc => ⟨hG c ?_, rfl⟩)
      rintro rfl
      exact e1 (hg.inj q x k _ _ e2 ho hc (by simp [blkOf, h1]))
    · obtain ⟨e1, e2⟩ := hdl q x a1
      obtain ⟨e3, e4⟩ := hdl q' x' a2
      exact hg.inj q x q' x' c e2 e4 (by rw [← a3]; exact (blk_same rfl rfl).symm) (by rw [← a4]; exact (blk_same rfl rfl).symm)
    · by_cases e : q = b
      · subst e; omega
      · rw [hG q e]; exact hg.gz q hq
    · obtain ⟨⟨rfl, rfl⟩ | ⟨c0, c, hb, hmc, rfl, hcM, _⟩, _⟩ := hu
      · exact ⟨⟨none, 0, rfl, Nat.le_refl _, trivial, ⟨rfl, rfl⟩⟩, csl (by decide)⟩
      · rw [h1] at hb
        injection hb with hb
        subst hb
        refine ⟨⟨some ⟨b, 0 + lo * sz, none⟩, c, rfl, hmc, trivial, fun _ => rfl, fun _ => ?_, fun i hi => ?_⟩, csl (by omega)⟩
        · show 0 + lo * sz + q * sz ≤ g'.G b
          rw [hGb, Nat.zero_add, ← Nat.add_mul]
          exact Nat.mul_le_mul_right _ hq
        · obtain ⟨b1, b2⟩ := h5 (lo + i) (by omega)
          refine ⟨b1, ?_⟩
          show (R g' w (fe (lo + i))).s (look w b) (0 + lo * sz + i * sz)
          rw [show 0 + lo * sz + i * sz = 0 + (lo + i) * sz by rw [Nat.add_mul, Nat.add_assoc]]
          exact (R_ev hev _).s _ _ _ _ (fun _ _ => rfl) b2

/-- A row of one's own, of which a part is in a slot, is given away: nobody writes into it any more. -/
theorem le_freezeP {e : Env} {o : Objs} {n : Nat} (t k : Nat) {m lo q sz : Nat} {ty : TypeId} {f : Nat → AV} (ht : lookE t e = .sli k lo q sz ty) (ho : lookO k o = some (.box (.arr m sz f))) (hq : lo + q ≤ m) (hk : Nat.blt k LENT = true := by rfl) :
    LeSt gl N e o n ((t, .lst none q sz (fun i => f (lo + i))) :: e) (dropO k o) n := by
  intro P g w a h
  obtain ⟨g', h1, h2, h4⟩ := good_freezeP h ho (Nat.le_of_ble_eq_true hk)
  refine ⟨g', { h1 with env := fun p => ?_ }, h2⟩
  show (R g' w (lookE p ((t, .lst none q sz (fun i => f (lo + i))) :: e))).v _
  rw [lookE_cons]
  by_cases hp : t = p
  · subst hp
    rw [if_pos rfl]
    have hv := h.env t
    rw [show EnvF e t = .sli k lo q sz ty from ht] at hv
    exact h4 ty lo q _ hq hv
  · rw [if_neg hp]; exact h1.env p

/-- Two boxes are given for good. -/
theorem call_g2 {f : FuncId} {args args' : List AV} {o : Objs} {n : Nat} {Q : AV → Objs → Nat → Prop} {K : AV → Objs → Nat → Prop} (t u : Nat) {a b a0 b0 : AV} (h : PureIX P gl f args' [(0, .box a0), (1, .box b0)] 2 Q) (ht : lookO t o = some (.box a)) (hu : lookO u o = some (.box b))
    (hL : Nat.blt t LENT = true) (hL' : Nat.blt u LENT = true) (htu : Nat.beq t u = false) (ha : LeA a a0) (hb : LeA b b0) (na : nf a0) (nb : nf b0)
    (hil : ∀ a ∈ args', il 2 0 a) (hl : LeL args (args'.map (ren (sg [t, u] []))))
    (hK : ∀ r o1 n1, Q r o1 n1 → OkL 0 n1 o1 ∧ nk r ∧ Nat.ble (n + n1) LENT = true ∧ forceP (mapO (tau n []) o1 ++ dropO t (dropO u o)) fun o' => K (ren (tau n []) r) o' (n + n1)) : CallB true P gl f args o n K := by
  obtain ⟨r, o1, n1, hq, hp⟩ := h
  obtain ⟨h1, h2, h3, h4⟩ := hK r o1 n1 hq
  have h4 := forceP_iff.1 h4
  have hne : t ≠ u := fun e => by rw [e, beq_self] at htu; cases htu
  have d0 : ∀ k, dom 2 0 k → k = 0 ∨ k = 1 := fun k hk => by
    rcases hk with hk | ⟨hk, hk2⟩
    · omega
    · have : k < B0 + 0 := hk2; omega
  refine call_i [t, u] [] hp hil hl (fun k x hk => ?_) (fun k hk => ?_) (fun k hk => ?_) (show 2 ≤ LENT by decide) (fun i j hi hj e => ?_) (okL_look h1) h2 (Nat.le_of_ble_eq_true h3) h4
  · rw [lookO_cons, lookO_cons] at hk
    by_cases e : (0 : Nat) = k
    · exact .inl (by show k < 2; omega)
    · by_cases e1 : (1 : Nat) = k
      · exact .inl (by show k < 2; omega)
      · rw [if_neg e, if_neg e1] at hk; simp [lookO] at hk
  · rcases d0 k hk with rfl | rfl
    · exact ⟨a, a0, ht, by rw [lookO_cons, if_pos rfl], ha, na⟩
    · exact ⟨b, b0, hu, by rw [lookO_cons, if_neg (by decide), lookO_cons, if_pos rfl], hb, nb⟩
  · have hk : k < 2 := hk
    rcases (show k = 0 ∨ k = 1 by omega) with rfl | rfl
    · exact Nat.le_of_ble_eq_true hL
    · exact Nat.le_of_ble_eq_true hL'
  · rcases d0 i hi with rfl | rfl <;> rcases d0 j hj with rfl | rfl
    · rfl
    · exact absurd e hne
    · exact absurd e.symm hne
    · rfl

end
end Ar
namespace Ar
open Go
set_option linter.unusedVariables false
set_option autoImplicit false
set_option maxRecDepth 100000
section
variable {P : Program} {gl : Nat → AV} {N : Nat}

theorem good_grow {g : Gh} {w : World} {E : Nat → AV} {o : Objs} {n : Nat} {a : Act} (h : Good P gl N g w E o n a) {k m sz : Nat} {f : Nat → AV} (ho : lookO k o = some (.box (.arr m sz f))) (hk : k < LENT) (hn : n < LENT) {ty : TypeId} {u : Value}
    (hu : (R g w (.sli k 0 m sz ty)).v u) :
    ∃ g', Good P gl N g' w E ((n, .room m sz ty) :: dropO k o) (n + 1) a ∧ Stp g w o g' w ((n, .room m sz ty) :: dropO k o) ∧ (R g' w (.lst (some n) m sz f)).v u := by
  obtain ⟨d1, d2⟩ := good_drop h k
  have hrn : g.r n = none := by
    cases e : g.r n with
    | none => rfl
    | some p => exact absurd (h.rlt n p e) (by omega)
  have hl : ∀ q x, lookO q (dropO k o) = some x → q ≠ k ∧ lookO q o = some x := fun q x hq => by
    rw [lookO_dropO] at hq
    by_cases e : q = k
    · rw [if_pos e] at hq; cases hq
    · rw [if_neg e] at hq; exact ⟨e, hq⟩
  have hnn : ∀ x, lookO n o ≠ some x := fun x hx => by
    rcases h.blt n x hx with h1 | h1 <;> omega
  have hl2 : ∀ q x, lookO q ((n, AObj.room m sz ty) :: dropO k o) = some x → (q = n ∧ x = .room m sz ty) ∨ (q ≠ n ∧ q ≠ k ∧ lookO q o = some x) := fun q x hq => by
    rw [lookO_cons] at hq
    by_cases e : n = q
    · rw [if_pos e] at hq; injection hq with hq; exact .inl ⟨e.symm, hq.symm⟩
    · rw [if_neg e] at hq; exact .inr ⟨fun h => e h.symm, hl q x hq⟩
  obtain ⟨⟨hm0, hu0⟩ | ⟨⟨b, off⟩, c, hb, hmc, hu1, hcM, cs2, ty2, hcel2, hfit⟩, hcv⟩ := hu
  · -- nil
    subst hm0 hu0
    let g' : Gh := { g with r := fun q => if q = n then some (none, 0) else g.r q }
    have hev : Ev g w g' w := ⟨fun _ _ h => h, fun t ob M ht => ⟨ob, M, by show (if t = n then _ else _) = _; rw [if_neg (fun e => by rw [e, hrn] at ht; cases ht)]; exact ht, Nat.le_refl _, fun _ => rfl⟩, fun _ _ _ => rfl, fun _ => Nat.le_refl _, fun _ cs _ hb => ⟨cs, hb, rfl⟩⟩
    have hblk : ∀ q x, q ≠ n → blkOf g' q x = blkOf g q x := fun q x hq => blk_same rfl (by show (if q = n then _ else _) = _; rw [if_neg hq])
    refine ⟨g', ⟨fun q x hq => ?_, fun q x q' x' c a1 a2 a3 a4 => ?_, fun q x hq => ?_, fun q b hq => ?_, fun q b hq => ?_, fun t => (R_ev hev _).v _ (h.env t), h.sz, h.def_, h.gz, fun i => (R_ev hev _).v _ (h.gl i)⟩,
      ⟨Nat.le_refl _, fun _ _ _ => ⟨rfl, rfl⟩, fun q ⟨x, y, a1, a2⟩ => ?_, fun _ _ _ => rfl, hev.le, hev.cap, fun _ _ _ _ => rfl, fun q j ⟨x, y, a1, a2⟩ => ?_, fun _ _ => rfl, fun q ob M e hr => ⟨ob, M, by show (if q = n then _ else _) = _; rw [if_neg (by omega)]; exact hr, Nat.le_refl _, fun _ => rfl⟩, rfl, rfl⟩, ?_⟩
    · rcases hl2 q x hq with ⟨rfl, rfl⟩ | ⟨e1, e2, e3⟩
      · exact ⟨none, by simp [g'], ⟨fun _ => rfl, fun _ _ => rfl⟩, fun b hb => by cases hb⟩
      · exact obj_ev hev (h.objs q x e3) rfl (fun p hp => by show (if q = n then _ else _) = _; rw [if_neg e1]; exact hp) (fun c hc => ⟨rfl, rfl⟩)
    · rcases hl2 q x a1 with ⟨rfl, rfl⟩ | ⟨e1, e2, e3⟩
      · simp [blkOf, g'] at a3
      · rcases hl2 q' x' a2 with ⟨rfl, rfl⟩ | ⟨f1, f2, f3⟩
        · simp [blkOf, g'] at a4
        · exact h.inj q x q' x' c e3 f3 (by rw [← hblk q x e1]; exact a3) (by rw [← hblk q' x' f1]; exact a4)
    · rcases hl2 q x hq with ⟨rfl, rfl⟩ | ⟨e1, e2, e3⟩
      · exact .inl (Nat.lt_succ_self _)
      · rcases h.blt q x e3 with h1 | h1
        · exact .inl (by omega)
        · exact .inr h1
    · rcases h.mlt q b hq with h1 | h1
      · exact .inl (by omega)
      · exact .inr h1
    · by_cases e : q = n
      · subst e; exact .inl (Nat.lt_succ_self _)
      · have hq : g.r q = some b := by rw [← hq]; show _ = (if q = n then _ else _); rw [if_neg e]
        rcases h.rlt q b hq with h1 | h1
        · exact .inl (by omega)
        · exact .inr h1
    · rcases hl2 x y a1 with ⟨rfl, rfl⟩ | ⟨e1, e2, e3⟩
      · simp [blkOf, g'] at a2
      · exact .inl ⟨x, y, e3, by rw [← hblk x y e1]; exact a2⟩
    · rcases hl2 x y a1 with ⟨rfl, rfl⟩ | ⟨e1, e2, e3⟩
      · simp [g'] at a2
      · refine .inl ⟨x, y, e3, ?_⟩
        cases y with
        | box v => exact a2
        | room m' e ty => simpa [g', e1] using a2
        | soon => exact a2
        | dict kd f => exact a2
    · exact ⟨⟨none, 0, rfl, Nat.le_refl _, ⟨none, 0, by simp [g'], Nat.le_refl _, fun _ => ⟨rfl, fun b hb => by cases hb⟩⟩, ⟨rfl, rfl⟩⟩, csl (by decide)⟩
  · -- a block
    obtain ⟨h0, h1⟩ | ⟨b', cs, tyb, h1, h2, h3, h4, h5, h6⟩ := h.objs k _ ho
    · rw [h0] at hb; cases hb
    rw [h1] at hb
    injection hb with hb
    subst hb
    have h6 := h6 hk
    simp only at h1 h2 h3 h4 h5 h6 hcel2 hfit
    subst h6
    obtain ⟨e1, e2⟩ := hcel2.inj h3
    subst e1 e2
    let g' : Gh := { g with G := fun q => if q = b then m * sz else g.G q, r := fun q => if q = n then some (some b, m) else g.r q }
    have hG : ∀ q, q ≠ b → g'.G q = g.G q := fun q hq => if_neg hq
    have hGb : g'.G b = m * sz := if_pos rfl
    have hev : Ev g w g' w := ⟨fun _ _ h => h, fun t ob M ht => ⟨ob, M, by show (if t = n then _ else _) = _; rw [if_neg (fun e => by rw [e, hrn] at ht; cases ht)]; exact ht, Nat.le_refl _, fun _ => rfl⟩, fun _ _ _ => rfl, fun q => by
      by_cases e : q = b
      · subst e; rw [h2]; exact Nat.zero_le _
      · rw [hG q e]; exact Nat.le_refl _, fun _ cs _ hb => ⟨cs, hb, rfl⟩⟩
    have hblk : ∀ q x, q ≠ n → blkOf g' q x = blkOf g q x := fun q x hq => blk_same rfl (by show (if q = n then _ else _) = _; rw [if_neg hq])
    have hbn : blkOf g' n (.room m sz ty) = some b := by simp [blkOf, g']
    have hbk : blkOf g k (.box (.arr m sz f)) = some b := by simp [blkOf, h1]
    have hown : Own g o b := ⟨k, _, ho, hbk⟩
    refine ⟨g', ⟨fun q x hq => ?_, fun q x q' x' c a1 a2 a3 a4 => ?_, fun q x hq => ?_, fun q bb hq => ?_, fun q bb hq => ?_, fun t => (R_ev hev _).v _ (h.env t), h.sz, h.def_, fun q hq => ?_, fun i => (R_ev hev _).v _ (h.gl i)⟩,
      ⟨Nat.le_refl _, fun q hq hno => ⟨rfl, hG q (fun e => hno (e ▸ hown))⟩, fun q ⟨x, y, a1, a2⟩ => ?_, fun _ _ _ => rfl, hev.le, hev.cap, fun _ _ _ _ => rfl, fun q j ⟨x, y, a1, a2⟩ => ?_, fun _ _ => rfl, fun q ob M e hr => ⟨ob, M, by show (if q = n then _ else _) = _; rw [if_neg (by omega)]; exact hr, Nat.le_refl _, fun _ => rfl⟩, rfl, rfl⟩, ?_⟩
    · rcases hl2 q x hq with ⟨rfl, rfl⟩ | ⟨e1, e2, e3⟩
      · exact ⟨some b, by simp [g'], ⟨(by simp), fun h5 => by omega⟩, fun q hq => by injection hq with hq; subst hq; exact ⟨hGb, _, _, h3, by simpa [size] using h4⟩⟩
      · refine obj_ev hev (h.objs q x e3) rfl (fun p hp => by show (if q = n then _ else _) = _; rw [if_neg e1]; exact hp) (fun c hc => ⟨hG c ?_, rfl⟩)
        rintro rfl
        exact e2 (h.inj q x k _ _ e3 ho hc hbk)
    · rcases hl2 q x a1 with ⟨rfl, rfl⟩ | ⟨e1, e2, e3⟩
      · rcases hl2 q' x' a2 with ⟨rfl, rfl⟩ | ⟨f1, f2, f3⟩
        · rfl
        · rw [hbn] at a3
          injection a3 with a3
          subst a3
          exact absurd (h.inj q' x' k _ _ f3 ho (by rw [← hblk q' x' f1]; exact a4) hbk) f2
      · rcases hl2 q' x' a2 with ⟨rfl, rfl⟩ | ⟨f1, f2, f3⟩
        · rw [hbn] at a4
          injection a4 with a4
          subst a4
          exact absurd (h.inj q x k _ _ e3 ho (by rw [← hblk q x e1]; exact a3) hbk) e2
        · exact h.inj q x q' x' c e3 f3 (by rw [← hblk q x e1]; exact a3) (by rw [← hblk q' x' f1]; exact a4)
    · rcases hl2 q x hq with ⟨rfl, rfl⟩ | ⟨e1, e2, e3⟩
      · exact .inl (Nat.lt_succ_self _)
      · rcases h.blt q x e3 with h1 | h1
        · exact .inl (by omega)
        · exact .inr h1
    · rcases h.mlt q bb hq with h1 | h1
      · exact .inl (by omega)
      · exact .inr h1
    · by_cases e : q = n
      · subst e; exact .inl (Nat.lt_succ_self _)
      · have hq : g.r q = some bb := by rw [← hq]; show _ = (if q = n then _ else _); rw [if_neg e]
        rcases h.rlt q bb hq with h1 | h1
        · exact .inl (by omega)
        · exact .inr h1
    · by_cases e : q = b
      · subst e
        have := lt_of_cel h3
        omega
      · rw [hG q e]; exact h.gz q hq
    · rcases hl2 x y a1 with ⟨rfl, rfl⟩ | ⟨e1, e2, e3⟩
      · rw [hbn] at a2; injection a2 with a2; subst a2; exact .inl hown
      · exact .inl ⟨x, y, e3, by rw [← hblk x y e1]; exact a2⟩
    · rcases hl2 x y a1 with ⟨rfl, rfl⟩ | ⟨e1, e2, e3⟩
      · have : q = b := by simp [g'] at a2; exact a2.symm
        subst this
        exact .inl ⟨k, _, ho, 0, h1, fun h => by omega⟩
      · refine .inl ⟨x, y, e3, ?_⟩
        cases y with
        | box v => exact a2
        | room m' e ty => simpa [g', e1] using a2
        | soon => exact a2
        | dict kd f => exact a2
    · subst hu1
      refine ⟨⟨some ⟨b, 0, none⟩, c, by simp, hmc, ⟨some b, m, by simp [g'], Nat.le_refl _, fun _ => ⟨rfl, fun q hq => ?_⟩⟩, ?_⟩, csl (by omega)⟩
      · injection hq with hq; subst hq; exact ⟨_, _, h3, by simpa using hfit, hcM⟩
      · refine row_of h3 (Nat.le_of_eq hGb.symm) (fun i hi => ?_)
        obtain ⟨b1, b2⟩ := h5 i hi
        rw [look_cel h3, Nat.zero_add] at b2
        exact ⟨b1, (R_ev hev _).s _ _ _ _ (fun _ _ => rfl) b2⟩

theorem le_grow {e : Env} {o : Objs} {n : Nat} (t k : Nat) {m sz : Nat} {ty : TypeId} {f : Nat → AV} (ht : lookE t e = .sli k 0 m sz ty) (ho : lookO k o = some (.box (.arr m sz f))) (hk : Nat.blt k LENT = true := by rfl) (hn : Nat.blt n LENT = true := by rfl) :
    LeSt gl N e o n ((t, .lst (some n) m sz f) :: e) ((n, .room m sz ty) :: dropO k o) (n + 1) := by
  intro P g w a h
  have hv := h.env t
  rw [show EnvF e t = .sli k 0 m sz ty from ht] at hv
  obtain ⟨g', h1, h2, h3⟩ := good_grow h ho (Nat.le_of_ble_eq_true hk) (Nat.le_of_ble_eq_true hn) hv
  refine ⟨g', { h1 with env := fun q => ?_ }, h2⟩
  show (R g' w (lookE q ((t, .lst (some n) m sz f) :: e))).v _
  rw [lookE_cons]
  by_cases hq : t = q
  · subst hq
    rw [if_pos rfl]
    exact h3
  · rw [if_neg hq]; exact h1.env q
end
end Ar
namespace Ar
open Go
set_option linter.unusedVariables false
set_option autoImplicit false
set_option maxRecDepth 100000
section
variable {P : Program} {gl : Nat → AV} {N : Nat}

/-- The row, and one number. -/
theorem pureO2_fn (hm : P.follows .mixedOrders = true) {f : FuncId} {fn : Func} {x : IC} {rs : List RV} {args : List AV} (k m sz : Nat) (ty : TypeId) (h : Nat → AV) (b : Value) (hf : P.funcs[f]? = some fn) (hN : fn.ntmps = N)
    (hcf : compF P N fn = some (x, rs)) (hlen : args.length ≤ N) (hgl : ∀ i, nf (gl i)) (hk : Nat.blt k LENT = true) (hh : ∀ i, fl (h i)) (hn : ∀ i, nf (h i))
    (hw : wp P gl N x (fun ex e o n => match ex with
      | .exit _ => False
      | _ => FinO gl N rs (.tup (.cons (.lst (some k) m sz h) (.cons (.val b) .nil))) k m sz ty h e o n) (enumA 0 args) [] 0) : PureIX P gl f args [] 0 (fun r o1 n1 => r = .tup (.cons (.sli 0 0 m sz ty) (.cons (.val b) .nil)) ∧ o1 = [(0, .box (.arr m sz h))] ∧ n1 = 1) :=
  ⟨_, _, _, ⟨rfl, rfl, rfl⟩, pureO_fn (r := .tup (.cons (.lst (some k) m sz h) (.cons (.val b) .nil))) hm k m sz ty h hf hN hcf hlen hgl hk ⟨⟨rfl, rfl, rfl, hh⟩, trivial, trivial⟩ hh hn (fun g w u ⟨vs, h1, h2⟩ => by
    cases hv : vs.toList with
    | nil => rw [hv] at h2; exact h2.elim
    | cons v r => rw [hv] at h2; exact ⟨v, h2.1⟩) hw⟩

/-- An answer whose first part is nil, as a row of the caller's own. -/
theorem pureI_nil2 {f : FuncId} {args : List AV} {b : Value} (k sz : Nat) (ty : TypeId) (h : Nat → AV) (hk : Nat.blt k LENT = true) (hp : Pure P gl f args (.tup (.cons (.val (.slice none 0 0)) (.cons (.val b) .nil)))) :
    PureI P gl f args [] 0 (.tup (.cons (.sli k 0 0 sz ty) (.cons (.val b) .nil))) [(k, .box (.arr 0 sz h))] (k + 1) := by
  have hk : k < LENT := Nat.le_of_ble_eq_true hk
  refine ⟨hp.2.2.1, fun g w cargs hg hr => (good_call hg hp hr).mono ?_⟩
  rintro x w' ⟨u, g', hx, hg', hs, hu, _⟩
  have hfresh : g'.m k = none := by
    cases hgm : g'.m k with
    | none => rfl
    | some p => exact absurd (hg'.mlt k p hgm) (by omega)
  obtain ⟨k1, k2⟩ := good_new (good_up hg' (Nat.zero_le k)) (w' := w') (g' := g') (x := .box (.arr 0 sz h)) (Ev.refl g' w') (Nat.le_refl _) (fun _ _ => rfl) (fun _ _ => rfl) (fun _ _ => rfl) (fun _ _ => rfl) hg'.gz
    (fun b hb => by simp [blkOf, hfresh] at hb) (.inl ⟨hfresh, by simp [size]⟩) rfl rfl hk
  refine ⟨u, g', hx, k1, hs.trans k2, ?_⟩
  obtain ⟨vs, h1, h2⟩ := hu
  refine ⟨vs, h1, ?_⟩
  cases hv : vs.toList with
  | nil => rw [hv] at h2; exact h2.elim
  | cons v r =>
    rw [hv] at h2
    refine ⟨?_, h2.2⟩
    obtain ⟨rfl, _⟩ := h2.1
    exact ⟨.inl ⟨rfl, rfl⟩, csl (by decide)⟩
end
end Ar
