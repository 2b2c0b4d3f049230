/- A function's contract out of the walk over its body; how a state may be weakened. No condition. -/
import Derived.Test.YtankpibkakfnhaaDoorK05
import Derived.Laws.Externs
import Derived.ProofKit
import Derived.Deep.Slices
import Derived.WideKeyArgs
import Derived.OpenShut
set_option linter.all false
namespace Ar
open Go
set_option linter.unusedVariables false
set_option autoImplicit false

inductive RV where
  | t (i : Nat)
  | c (i : Nat) (ag : Bool) (n : Nat)

def compR (P : Program) : List ResultVar → Option (List RV)
  | [] => some []
  | .tmp t :: r => match compR P r with
    | some l => some (.t t :: l)
    | none => none
  | .cell a t :: r => match P.underlying t, P.info? t, compR P r with
    | some d, some i, some l => some (.c a (aggD d) i.size :: l)
    | _, _, _ => none

def resA (e : Env) (o : Objs) : List RV → (List AV → Prop) → Prop
  | [], K => K []
  | .t t :: r, K => resA e o r fun l => K (lookE t e :: l)
  | .c a ag n :: r, K => match lookE a e with
    | .ptr b p => match lookO b o with
      | some (.box x) => chk (okNav p x) (chk (fits ag n (nav p x)) (resA e o r fun l => K (nav p x :: l)))
      | _ => False
    | _ => False

def consL : List AV → AV
  | [] => .nil
  | a :: r => .cons a (consL r)

def packA : List AV → AV
  | [a] => a
  | l => .tup (consL l)

/-- What a return gives, at its weakest. -/
def RetIs (l : List AV) (r : AV) : Prop := match l with
  | [a] => force a fun a => Le a r
  | l => forceL l fun l => Le (.tup (consL l)) r

theorem RetIs.le {l : List AV} {r : AV} (h : RetIs l r) : Le (packA l) r := by
  unfold RetIs at h
  split at h
  · exact (force_iff (K := fun a => Le a r)).1 h
  · rename_i hne
    have := (forceL_iff (K := fun l => Le (.tup (consL l)) r)).1 h
    match l, hne with
    | [], _ => exact this
    | [a], hne => exact absurd rfl (hne a)
    | _ :: _ :: _, _ => exact this

def enumA : Nat → List AV → Env
  | _, [] => []
  | k, a :: r => (k, a) :: enumA (k + 1) r

theorem lookE_enum : ∀ (l : List AV) (k t : Nat), lookE t (enumA k l) = if k ≤ t then l.getD (t - k) .any else .any
  | [], k, t => by simp [enumA, lookE]
  | a :: r, k, t => by
    simp only [enumA, lookE_cons, lookE_enum r (k + 1) t]
    by_cases h : k = t
    · subst h; simp
    · rw [if_neg h]
      by_cases h2 : k ≤ t
      · have h3 : k + 1 ≤ t := by omega
        rw [if_pos h2, if_pos h3]
        obtain ⟨m, rfl⟩ : ∃ m, t = k + 1 + m := ⟨t - (k + 1), by omega⟩
        rw [show k + 1 + m - (k + 1) = m by omega, show k + 1 + m - k = m + 1 by omega]
        simp
      · have h3 : ¬ k + 1 ≤ t := by omega
        rw [if_neg h2, if_neg h3]

def resV (tmps : Array Value) : ResultVar → Sem Value
  | .tmp t => pure (tmps.getD t undef)
  | .cell b t => do loadVar t (← asAddr (tmps.getD b undef))

section
variable {P : Program} {gl : Nat → AV} {N : Nat}

theorem RL_len {g : Gh} {w : World} : ∀ {l : List AV} {vs : List Value}, RL g w l vs → vs.length = l.length
  | [], [], _ => rfl
  | _ :: _, _ :: _, h => by simp [RL_len h.2]
  | [], _ :: _, h => h.elim
  | _ :: _, [], h => h.elim

theorem RL_get {g : Gh} {w : World} : ∀ {l : List AV} {vs : List Value}, RL g w l vs → ∀ t, t < l.length → (R g w (l.getD t .any)).v (vs.getD t undef)
  | [], [], _, t, ht => by simp at ht
  | a :: r, u :: s, h, 0, _ => h.1
  | a :: r, u :: s, h, t + 1, ht => by simpa using RL_get h.2 t (by simpa using ht)
  | [], _ :: _, h, _, _ => h.elim
  | _ :: _, [], h, _, _ => h.elim

theorem res_ok {g : Gh} {w : World} {e : Env} {o : Objs} {n : Nat} {a : Act} (h : Good P gl N g w (EnvF e) o n a) : ∀ (l : List ResultVar) (rs : List RV), compR P l = some rs → ∀ (K : List AV → Prop), resA e o rs K →
    ∃ (as : List AV) (us : List Value), (l.mapM (resV a.tmps)).run P w = .ok us w ∧ RL g w as us ∧ K as
  | [], rs, hc, K, hk => by simp only [compR] at hc; injection hc with hc; subst hc; exact ⟨[], [], rfl, trivial, hk⟩
  | .tmp t :: r, rs, hc, K, hk => by
    simp only [compR] at hc
    split at hc
    · rename_i l hl
      injection hc with hc
      subst hc
      obtain ⟨as, us, h1, h2, h3⟩ := res_ok h r l hl _ hk
      refine ⟨lookE t e :: as, a.tmps.getD t undef :: us, ?_, ⟨h.env t, h2⟩, h3⟩
      rw [List.mapM_cons]
      simp only [resV, Sem.run_bind, Sem.run_pure, Result.andThen_ok, h1]
    · cases hc
  | .cell b t :: r, rs, hc, K, hk => by
    simp only [compR] at hc
    split at hc
    · rename_i d i l hd hi hl
      injection hc with hc
      subst hc
      simp only [resA] at hk
      split at hk
      · rename_i q p hq
        split at hk
        · rename_i x hx
          simp only [chk_iff] at hk
          obtain ⟨k1, k2, k3⟩ := hk
          obtain ⟨as, us, h1, h2, h3⟩ := res_ok h r l hl _ k3
          have hv := h.env b
          rw [show EnvF e b = .ptr q p from hq] at hv
          obtain ⟨bb, cs, ty, b1, b2, b3, b4, b5, b6, b7, b8⟩ := box_seg h hv hx k1
          obtain ⟨cv, c1, c2⟩ := run_loadVar_seg (P := P) hd hi k2 b6
          refine ⟨nav p x :: as, cv :: us, ?_, ⟨c2, h2⟩, h3⟩
          have hstep : (resV a.tmps (.cell b t)).run P w = .ok cv w := by
            show ((do loadVar t (← asAddr (a.tmps.getD b undef)) : Sem Value)).run P w = .ok cv w
            rw [b4]
            simp only [asAddr, Sem.run_bind, Sem.run_pure, Result.andThen_ok, c1]
          rw [List.mapM_cons, Sem.run_bind, hstep]
          simp only [Result.andThen_ok, Sem.run_bind, h1, Sem.run_pure]
        · exact hk.elim
      · exact hk.elim
    · cases hc

theorem RL_l {g : Gh} {w : World} : ∀ {as : List AV} {us : List Value}, RL g w as us → (R g w (consL as)).l us
  | [], [], _ => rfl
  | _ :: _, _ :: _, h => ⟨h.1, RL_l h.2⟩
  | [], _ :: _, h => h.elim
  | _ :: _, [], h => h.elim

theorem pack_ok {g : Gh} {w : World} {as : List AV} {us : Array Value} (h : RL g w as us.toList) : (R g w (packA as)).v (if hs : us.size = 1 then us[0] else .tuple us) := by
  have hl := RL_len h
  by_cases hs : us.size = 1
  · rw [dif_pos hs]
    have h1 : as.length = 1 := by rw [← hl]; simpa using hs
    obtain ⟨x, rfl⟩ := List.length_eq_one_iff.1 h1
    obtain ⟨y, hy⟩ := List.length_eq_one_iff.1 (show us.toList.length = 1 by simpa using hs)
    rw [hy] at h
    have : us[0] = y := by
      have : us.toList[0]'(by simp [hs]) = y := by simp [hy]
      simpa using this
    rw [this]
    exact h.1
  · rw [dif_neg hs]
    have h1 : as.length ≠ 1 := by rw [← hl]; simpa using hs
    have hp : packA as = .tup (consL as) := by
      match as, h1 with
      | [], _ => rfl
      | [_], h1 => simp at h1
      | _ :: _ :: _, _ => rfl
    rw [hp]
    exact ⟨us, rfl, RL_l h⟩

/-- A function that only computes: its contract out of the walk over its body. -/
theorem pure_intro (hm : P.follows .mixedOrders = true) {f : FuncId} {fn : Func} {c : Code} {x : IC} {rs : List RV} {args : List AV} {r : AV} (hf : P.funcs[f]? = some fn) (hb : fn.body = some c) (hN : fn.ntmps = N)
    (hc : comp P N c = some x) (hr : compR P fn.results.toList = some rs) (hlen : args.length ≤ N) (hgl : ∀ i, nf (gl i)) (ha : ∀ a ∈ args, nf a) (hnr : nf r)
    (h : wp P gl N x (fun ex e o n => match ex with
      | .exit _ => False
      | _ => resA e o rs fun l => RetIs l r) (enumA 0 args) [] 0) : Pure P gl f args r := by
  refine ⟨ha, hnr, hgl, fun G w cargs hz hglob hargs => ?_⟩
  have hcl := RL_len hargs
  let g : Gh := ⟨fun _ => none, fun _ => none, G⟩
  let act : Act := { tmps := cargs.toArray ++ Array.replicate (fn.ntmps - cargs.toArray.size) undef, defers := [] }
  have hsz : act.tmps.size = N := by
    show (cargs.toArray ++ Array.replicate (fn.ntmps - cargs.toArray.size) undef).size = N
    simp only [Array.size_append, List.size_toArray, Array.size_replicate, hcl, hN]
    omega
  have hgood : Good P gl N g w (EnvF (enumA 0 args)) [] 0 act := by
    refine ⟨fun k x hk => by simp [lookO] at hk, fun k x k' x' b hk => by simp [lookO] at hk, fun k x hk => by simp [lookO] at hk, fun k b hk => by simp [g] at hk, fun k b hk => by simp [g] at hk, fun t => ?_, hsz, (fun d hd => by cases hd), hz, hglob⟩
    show (R g w (lookE t (enumA 0 args))).v (act.tmps.getD t undef)
    rw [lookE_enum]
    simp only [Nat.zero_le, if_true, Nat.sub_zero]
    by_cases ht : t < args.length
    · have h1 := RL_get hargs t ht
      have h2 : act.tmps.getD t undef = cargs.getD t undef := by
        have : t < cargs.length := by omega
        show (cargs.toArray ++ Array.replicate (fn.ntmps - cargs.toArray.size) undef).getD t undef = _
        rw [Array.getD_eq_getD_getElem?, Array.getElem?_append_left (by simpa using this)]
        simp
      rw [h2]; exact h1
    · have : args.getD t .any = .any := by simp [List.getD, Nat.le_of_not_lt ht]
      rw [this]; trivial
  refine calls_of_wp_defers hf hb (wp_mono (wp_sound hm c x hc _ _ _ _ h g w act hgood) ?_)
  rintro ex a' w1 ⟨x', g', e', o', n', hx, hg1, hs1, hq⟩
  have fin : ∀ w', Drawn w1 w' → resA e' o' rs (fun l => RetIs l r) → ∃ v, (results fn a'.tmps).run P w' = .ok v w' ∧ ∃ u G', Ending.returned v = .returned u ∧ Stp ⟨fun _ => none, fun _ => none, G⟩ w [] ⟨fun _ => none, fun _ => none, G'⟩ w' [] ∧
      (∀ b, w'.heap.size ≤ b → G' b = 0) ∧ (R ⟨fun _ => none, fun _ => none, G'⟩ w' r).v u := by
    intro w' hd
    have hg' := hg1.drawn hd
    have hs' := hs1.trans (hd.stp g' o')
    intro hres
    obtain ⟨as, us, h1, h2, h3⟩ := res_ok hg' fn.results.toList rs hr _ hres
    have hrun : (results fn a'.tmps).run P w' = .ok (if hs : us.toArray.size = 1 then us.toArray[0] else .tuple us.toArray) w' := by
      have e1 : results fn a'.tmps = (do
          let vs ← fn.results.mapM (resV a'.tmps)
          pure (if h : vs.size = 1 then vs[0] else .tuple vs)) := rfl
      rw [e1, Array.mapM_eq_mapM_toList]
      simp only [Sem.run_bind, Sem.run_map]
      rw [h1]
      simp only [Result.andThen_ok, Sem.run_pure]
    refine ⟨_, hrun, _, g'.G, rfl, ⟨hs'.size, fun b hb _ => hs'.keep b hb (fun ⟨k, x, h5, _⟩ => by simp [lookO] at h5), fun b ⟨k, x, h5, _⟩ => by simp [lookO] at h5, hs'.pub, hs'.le, hs'.cap, fun b j hb _ => cell_old (hs'.keep b hb (fun ⟨k, x, h5, _⟩ => by simp [lookO] at h5)).1, fun b j ⟨k, x, h5, _⟩ => by simp [lookO] at h5, fun _ _ => rfl, fun _ _ _ _ h => (by cases h), hs'.os, hs'.out⟩, hg'.gz, ?_⟩
    have hv := h3.le.v g' w' _ (pack_ok (us := us.toArray) (by simpa using h2))
    rwa [← R_nf (g' := ⟨fun _ => none, fun _ => none, g'.G⟩) (g := g') rfl r hnr] at hv
  cases x' with
  | normal =>
    cases ex <;> simp only [ExR] at hx
    exact leaves_nop _ _ hg1.def_ (fun w2 hd => fin w2 hd hq)
  | ret =>
    cases ex <;> simp only [ExR] at hx
    exact leaves_nop _ _ hg1.def_ (fun w2 hd => fin w2 hd hq)
  | exit i => exact hq.elim

def compF (P : Program) (N : Nat) (fn : Func) : Option (IC × List RV) :=
  match fn.body with
  | some c => match comp P N c, compR P fn.results.toList with
    | some x, some rs => some (x, rs)
    | _, _ => none
  | none => none

theorem pure_fn (hm : P.follows .mixedOrders = true) {f : FuncId} {fn : Func} {x : IC} {rs : List RV} {args : List AV} {r : AV} (hf : P.funcs[f]? = some fn) (hN : fn.ntmps = N)
    (hc : compF P N fn = some (x, rs)) (hlen : args.length ≤ N) (hgl : ∀ i, nf (gl i)) (ha : ∀ a ∈ args, nf a) (hnr : nf r)
    (h : wp P gl N x (fun ex e o n => match ex with
      | .exit _ => False
      | _ => resA e o rs fun l => RetIs l r) (enumA 0 args) [] 0) : Pure P gl f args r := by
  unfold compF at hc
  split at hc
  · rename_i c hb
    split at hc
    · rename_i y s h1 h2
      injection hc with hc
      injection hc with h3 h4
      subst h3 h4
      exact pure_intro hm hf hb hN h1 h2 hlen hgl ha hnr h
    · cases hc
  · cases hc

/-! Weakening: fewer slots, fewer boxes, weaker readings. -/
def bnd (m : Nat) : AV → Prop
  | .ptr o _ => o < m ∨ LENT ≤ o
  | .sli o _ _ _ _ => o < m ∨ LENT ≤ o
  | .mp o => o < m ∨ LENT ≤ o
  | .elt _ _ f _ _ => ∀ i, bnd m (f i)
  | .lst tok _ _ f => (∀ t, tok = some t → t < m ∨ LENT ≤ t) ∧ ∀ i, bnd m (f i)
  | .arr _ _ f => ∀ i, bnd m (f i)
  | .st l => bnd m l
  | .cons a b => bnd m a ∧ bnd m b
  | .tup l => bnd m l
  | .clo _ a b => bnd m a ∧ bnd m b
  | .ifc _ a => bnd m a
  | _ => True

theorem bnd_nf {m : Nat} : ∀ a, nf a → bnd m a := by
  intro a
  induction a with
  | ptr o p => intro h; exact h.elim
  | sli o lo n e ty => intro h; exact h.elim
  | mp o => intro h; exact h.elim
  | elt n e f i p ih => intro h i; exact ih i (h i)
  | lst tok n e f ih => intro h; exact ⟨fun t ht => (by rw [h.1] at ht; cases ht), fun i => ih i (h.2 i)⟩
  | arr n e f ih => intro h i; exact ih i (h i)
  | st l ih => intro h; exact ih h
  | cons a b iha ihb => intro h; exact ⟨iha h.1, ihb h.2⟩
  | tup l ih => intro h; exact ih h
  | clo fn a b iha ihb => intro h; exact ⟨iha h.1, ihb h.2⟩
  | ifc t a ih => intro h; exact ih h
  | _ => intro _; trivial

def Gh.cut (g : Gh) (m : Nat) : Gh := ⟨fun k => if k < m ∨ LENT ≤ k then g.m k else none, fun k => if k < m ∨ LENT ≤ k then g.r k else none, g.G⟩

theorem R_cut {g : Gh} {w : World} {m : Nat} : ∀ a, bnd m a → R (g.cut m) w a = R g w a := by
  intro a
  induction a with
  | ptr o p => intro h; simp only [R, Gh.cut, if_pos (show o < m ∨ LENT ≤ o from h)]
  | sli o lo n e ty => intro h; simp only [R, Gh.cut, if_pos (show o < m ∨ LENT ≤ o from h)]
  | mp o => intro h; simp only [R, Gh.cut, if_pos (show o < m ∨ LENT ≤ o from h)]
  | elt n e f i p ih => intro h; simp only [R, fun i => ih i (h i)]; rfl
  | lst tok n e f ih =>
    intro h
    simp only [R, fun i => ih i (h.2 i)]
    cases tok with
    | none => rfl
    | some t => simp only [tokOk, Gh.cut, if_pos (h.1 t rfl)]
  | arr n e f ih => intro h; simp only [R, fun i => ih i (h i)]
  | st l ih => intro h; simp only [R, ih h]
  | cons a b iha ihb => intro h; simp only [R, iha h.1, ihb h.2]
  | tup l ih => intro h; simp only [R, ih h]
  | clo fn a b iha ihb => intro h; simp only [R, iha h.1, ihb h.2]
  | ifc t a ih => intro h; simp only [R, ih h]
  | _ => intro _; rfl

/-- Every slot that is named reads weaker. -/
def LeE (e : Env) (m : Nat) : Env → Prop
  | [] => True
  | (t, b) :: r => (Le (lookE t e) b ∧ bnd m b) ∧ LeE e m r

/-- A map that reads weaker. -/
def DLe (m : Nat) (h f : Int → Option AV) : Prop := ∀ n, match f n with
  | none => h n = none
  | some b => ∃ a, h n = some a ∧ Le a b ∧ bnd m b

def LeO (o : Objs) (m : Nat) : Objs → Prop
  | [] => True
  | (k, .box b) :: r => ((k < m ∨ LENT ≤ k) ∧ (∃ a, lookO k o = some (.box a) ∧ LeA a b) ∧ bnd m b) ∧ LeO o m r
  | (k, .room q e ty) :: r => ((k < m ∨ LENT ≤ k) ∧ lookO k o = some (.room q e ty)) ∧ LeO o m r
  | (_, .soon) :: _ => False
  | (k, .dict q f) :: r => ((k < m ∨ LENT ≤ k) ∧ ∃ h, lookO k o = some (.dict q h) ∧ DLe m h f) ∧ LeO o m r

theorem LeE_look {e : Env} {m : Nat} : ∀ {e' : Env}, LeE e m e' → ∀ t, Le (lookE t e) (lookE t e') ∧ bnd m (lookE t e')
  | [], _, t => ⟨Le.any _, trivial⟩
  | (k, b) :: r, h, t => by
    rw [lookE_cons]
    by_cases hk : k = t
    · subst hk; rw [if_pos rfl]; exact h.1
    · rw [if_neg hk]; exact LeE_look h.2 t

theorem LeO_look {o : Objs} {m : Nat} : ∀ {o' : Objs}, LeO o m o' → ∀ k x, lookO k o' = some x → match x with
    | .box b => (k < m ∨ LENT ≤ k) ∧ (∃ a, lookO k o = some (.box a) ∧ LeA a b) ∧ bnd m b
    | .room q e ty => (k < m ∨ LENT ≤ k) ∧ lookO k o = some (.room q e ty)
    | .soon => False
    | .dict q f => (k < m ∨ LENT ≤ k) ∧ ∃ h, lookO k o = some (.dict q h) ∧ DLe m h f
  | [], _, k, x, h => by simp [lookO] at h
  | (q, .box b) :: r, h, k, x, hx => by
    rw [lookO_cons] at hx
    by_cases hk : q = k
    · subst hk; rw [if_pos rfl] at hx; injection hx with hx; subst hx; exact h.1
    · rw [if_neg hk] at hx; exact LeO_look h.2 k x hx
  | (q, .room a e ty) :: r, h, k, x, hx => by
    rw [lookO_cons] at hx
    by_cases hk : q = k
    · subst hk; rw [if_pos rfl] at hx; injection hx with hx; subst hx; exact h.1
    · rw [if_neg hk] at hx; exact LeO_look h.2 k x hx
  | (q, .dict a f) :: r, h, k, x, hx => by
    rw [lookO_cons] at hx
    by_cases hk : q = k
    · subst hk; rw [if_pos rfl] at hx; injection hx with hx; subst hx; exact h.1
    · rw [if_neg hk] at hx; exact LeO_look h.2 k x hx

theorem le_st {e e' : Env} {o o' : Objs} {n n' : Nat} (hn : n' ≤ n) (he : LeE e n' e') (ho : LeO o n' o') (hgl : ∀ i, nf (gl i)) : LeSt gl N e o n e' o' n' := by
  intro P g w a h
  have hcutm : ∀ k, k < n' ∨ LENT ≤ k → (g.cut n').m k = g.m k := fun k hk => if_pos hk
  have hcutr : ∀ k, k < n' ∨ LENT ≤ k → (g.cut n').r k = g.r k := fun k hk => if_pos hk
  have hb' : ∀ k x, lookO k o' = some x → blkOf (g.cut n') k x = blkOf g k x ∧ ∃ y, lookO k o = some y ∧ blkOf g k y = blkOf g k x := by
    intro k x hx
    have h2 := LeO_look ho k x hx
    cases x with
    | box b => obtain ⟨h1, ⟨a, h3, _⟩, _⟩ := h2; exact ⟨by simp only [blkOf, hcutm k h1], _, h3, rfl⟩
    | room q e ty => exact ⟨by simp only [blkOf, hcutr k h2.1], _, h2.2, rfl⟩
    | soon => exact h2.elim
    | dict q f => obtain ⟨h1, d, h3, _⟩ := h2; exact ⟨by simp only [blkOf, hcutm k h1], _, h3, rfl⟩
  refine ⟨g.cut n', ⟨fun k x hx => ?_, fun k x k' x' b h1 h2 h3 h4 => ?_, fun k x hx => by (have h2 := LeO_look ho k x hx; cases x with | box b => exact h2.1 | room q e ty => exact h2.1 | soon => exact h2.elim | dict q f => exact h2.1), fun k b hk => ?_, fun k b hk => ?_, fun t => ?_, h.sz, h.def_, h.gz, fun i => ?_⟩,
    ⟨Nat.le_refl _, fun _ _ _ => ⟨rfl, rfl⟩, fun b hb => ?_, fun _ _ _ => rfl, fun _ => Nat.le_refl _, fun _ cs _ hb => ⟨cs, hb, rfl⟩, fun _ _ _ _ => rfl, fun b j hb => ?_, fun k hk => hcutm k (.inr hk), fun k ob N hk hr => ⟨ob, N, by rw [hcutr k (.inr (Nat.le_of_eq hk.symm))]; exact hr, Nat.le_refl _, fun _ => rfl⟩, rfl, rfl⟩⟩
  · have h2 := LeO_look ho k x hx
    cases x with
    | box b =>
      obtain ⟨h1, ⟨y, h3, h4⟩, h5⟩ := h2
      obtain ⟨a0, a1⟩ | ⟨q, cs, ty, a1, a2, a3, a4, a5, a6⟩ := h.objs k _ h3
      · exact .inl ⟨by rw [hcutm k h1]; exact a0, by rw [← h4.sz]; exact a1⟩
      exact .inr ⟨q, cs, ty, by rw [hcutm k h1]; exact a1, a2, a3, by rw [← h4.sz]; exact a4, by rw [R_cut b h5]; exact h4.s g w _ _ a5, a6⟩
    | room q e ty =>
      obtain ⟨h1, h2⟩ := h2
      obtain ⟨ob, a1, a2, a3⟩ := h.objs k _ h2
      exact ⟨ob, by rw [hcutr k h1]; exact a1, a2, a3⟩
    | soon => exact h2.elim
    | dict q f =>
      obtain ⟨h1, d, h3, hd⟩ := h2
      obtain ⟨bb, es, cl, a1, a2, a3, a4, a5⟩ := h.objs k _ h3
      refine ⟨bb, es, cl, by rw [hcutm k h1]; exact a1, a2, a3, a4, a5.1, fun i => ?_⟩
      have e1 := hd i
      have e2 := a5.2 i
      cases hf : f i with
      | none =>
        rw [hf] at e1
        have e1 : d i = none := e1
        rw [e1] at e2
        exact e2
      | some b =>
        rw [hf] at e1
        obtain ⟨c, e3, e4, e5⟩ := e1
        rw [e3] at e2
        obtain ⟨u, e6, e7⟩ := e2
        exact ⟨u, e6, by rw [R_cut b e5]; exact e4.v g w u e7⟩
  · obtain ⟨l1, y1, b1, c1⟩ := hb' k x h1
    obtain ⟨l2, y2, b2, c2⟩ := hb' k' x' h2
    exact h.inj k y1 k' y2 b b1 b2 (by rw [c1, ← l1]; exact h3) (by rw [c2, ← l2]; exact h4)
  · simp only [Gh.cut] at hk
    by_cases hlt : k < n' ∨ LENT ≤ k
    · exact hlt
    · rw [if_neg hlt] at hk; cases hk
  · simp only [Gh.cut] at hk
    by_cases hlt : k < n' ∨ LENT ≤ k
    · exact hlt
    · rw [if_neg hlt] at hk; cases hk
  · obtain ⟨h1, h2⟩ := LeE_look he t
    show (R (g.cut n') w (lookE t e')).v _
    rw [R_cut _ h2]
    exact h1.v g w _ (h.env t)
  · rw [R_cut _ (bnd_nf _ (hgl i))]; exact h.gl i
  · obtain ⟨k, x, h1, h2⟩ := hb
    obtain ⟨l1, y1, b1, c1⟩ := hb' k x h1
    exact .inl ⟨k, y1, b1, by rw [c1, ← l1]; exact h2⟩
  · obtain ⟨k, x, h1, h2⟩ := hb
    have h3 := LeO_look ho k x h1
    cases x with
    | box b =>
      obtain ⟨k1, ⟨y, k2, k3⟩, _⟩ := h3
      obtain ⟨off, k4, k5⟩ := h2
      rw [hcutm k k1] at k4
      exact .inl ⟨k, _, k2, off, k4, by rw [k3.sz]; exact k5⟩
    | room q e ty =>
      obtain ⟨k1, k2⟩ := h3
      have h2 : ((g.cut n').r k).bind (·.1) = some b := h2
      rw [hcutr k k1] at h2
      exact .inl ⟨k, _, k2, h2⟩
    | soon => exact h3.elim
    | dict q f =>
      obtain ⟨k1, d, k2, _⟩ := h3
      obtain ⟨off, k4⟩ := h2
      rw [hcutm k k1] at k4
      exact .inl ⟨k, _, k2, off, k4⟩

end
end Ar
namespace Ar
open Go
set_option linter.unusedVariables false
set_option autoImplicit false

abbrev I (n : Int) : AV := .val (.int .i64 n)
abbrev U (n : Int) : AV := .val (.int .u64 n)
abbrev B (b : Bool) : AV := .val (.bool b)

def in64 (n : Int) : Prop := -9223372036854775808 ≤ n ∧ n ≤ 9223372036854775807
def inU64 (n : Int) : Prop := 0 ≤ n ∧ n ≤ 18446744073709551615

theorem wrap_u64 (n : Int) : IntKind.u64.wrap n = n % 18446744073709551616 := by
  simp [IntKind.wrap, IntKind.bits, IntKind.signed]

theorem wrap_i64 (n : Int) : IntKind.i64.wrap n = if n % 18446744073709551616 ≥ 9223372036854775808 then n % 18446744073709551616 - 18446744073709551616 else n % 18446744073709551616 := by
  simp [IntKind.wrap, IntKind.bits, IntKind.signed]

theorem wrap_id {n : Int} (h : in64 n) : IntKind.i64.wrap n = n := by
  rw [wrap_i64]; obtain ⟨h1, h2⟩ := h; split <;> omega

theorem wrap_in (n : Int) : in64 (IntKind.i64.wrap n) := by
  rw [wrap_i64]; unfold in64; split <;> omega

theorem wrapu_id {n : Int} (h : inU64 n) : IntKind.u64.wrap n = n := by
  rw [wrap_u64]; obtain ⟨h1, h2⟩ := h; omega

section
variable {α : Type} [Inhabited α]

def at_ (xs : List α) (i : Nat) : α := xs.getD i default

theorem at_lt {xs : List α} {i : Nat} (h : i < xs.length) : at_ xs i = xs[i] := by simp [at_, h]

theorem at_append_left {xs ys : List α} {i : Nat} (h : i < xs.length) : at_ (xs ++ ys) i = at_ xs i := by
  simp [at_, List.getElem?_append_left h]

theorem at_append_right {xs ys : List α} {i : Nat} (h : xs.length ≤ i) : at_ (xs ++ ys) i = at_ ys (i - xs.length) := by
  simp [at_, List.getElem?_append_right h]

theorem at_mem {xs : List α} {i : Nat} (h : i < xs.length) : at_ xs i ∈ xs := by rw [at_lt h]; exact List.getElem_mem h

theorem take_at {xs : List α} {i : Nat} (h : i < xs.length) : xs.take (i + 1) = xs.take i ++ [at_ xs i] := by
  rw [at_lt h, List.take_succ_eq_append_getElem h]

/-- A list, told element by element. -/
def encT (tok : Option Nat) (enc : α → AV) (e : Nat) (xs : List α) : AV := .lst tok xs.length e (fun i => enc (at_ xs i))

abbrev encL (enc : α → AV) (e : Nat) (xs : List α) : AV := encT none enc e xs

theorem nf_encL {enc : α → AV} {e : Nat} {xs : List α} (h : ∀ x, nf (enc x)) : nf (encL enc e xs) := ⟨rfl, fun i => h _⟩

theorem bnd_encT {enc : α → AV} {e m t : Nat} {xs : List α} (h : ∀ x, nf (enc x)) (ht : t < m) : bnd m (encT (some t) enc e xs) :=
  ⟨fun q hq => by injection hq with hq; exact .inl (by omega), fun i => bnd_nf _ (h _)⟩

theorem leA_drop {enc : α → AV} {e : Nat} {tok : Option Nat} {xs : List α} : LeA (encT tok enc e xs) (encL enc e xs) := LeA.lst (.inr rfl) (fun i _ => LeA.refl _)

/-- A list that has grown by another. -/
theorem leA_app {enc : α → AV} {e k : Nat} {tok : Option Nat} {xs ys : List α} {h : Nat → AV} (hk : k = ys.length) (hy : ∀ i, i < ys.length → LeA (h i) (enc (at_ ys i))) :
    LeA (.lst tok (xs.length + k) e (appF xs.length (fun i => enc (at_ xs i)) h)) (encT tok enc e (xs ++ ys)) := by
  subst hk
  unfold encT
  rw [List.length_append]
  refine LeA.lst (.inl rfl) (fun i hi => ?_)
  unfold appF
  by_cases hlt : i < xs.length
  · rw [if_pos hlt, at_append_left hlt]; exact LeA.refl _
  · rw [if_neg hlt, at_append_right (by omega)]; exact hy _ (by omega)

theorem leA_snoc {enc : α → AV} {e : Nat} {tok : Option Nat} {xs : List α} {x : α} {h : Nat → AV} (hy : LeA (h 0) (enc x)) :
    LeA (.lst tok (xs.length + 1) e (appF xs.length (fun i => enc (at_ xs i)) h)) (encT tok enc e (xs ++ [x])) :=
  leA_app (ys := [x]) rfl (fun i hi => by
    obtain rfl : i = 0 := by simpa using hi
    exact hy)

end

theorem LeSt.trans {gl : Nat → AV} {N : Nat} {e e1 e2 : Env} {o o1 o2 : Objs} {n n1 n2 : Nat} (h : LeSt gl N e o n e1 o1 n1) (h' : LeSt gl N e1 o1 n1 e2 o2 n2) : LeSt gl N e o n e2 o2 n2 := by
  intro P g w a hg
  obtain ⟨g1, h1, s1⟩ := h P g w a hg
  obtain ⟨g2, h2, s2⟩ := h' P g1 w a h1
  exact ⟨g2, h2, s1.trans s2⟩

/-- A nil slice in a slot is a growing row of no elements. -/
theorem le_nil {gl : Nat → AV} {N : Nat} {e : Env} {o : Objs} {n : Nat} (t sz : Nat) (ty : TypeId) (f : Nat → AV) (ht : lookE t e = .val (.slice none 0 0)) (hL : Nat.blt n LENT = true := by rfl) :
    LeSt gl N e o n ((t, .lst (some n) 0 sz f) :: e) ((n, .room 0 sz ty) :: o) (n + 1) := by
  have hL' : n < LENT := Nat.le_of_ble_eq_true hL
  intro P g w a h
  let g' : Gh := { g with r := fun q => if q = n then some (none, 0) else g.r q }
  have hev : Ev g w g' w := ⟨fun _ _ h => h, fun t ob N ht => ⟨ob, N, by
      have := h.rlt t _ ht
      show (if t = n then _ else _) = _
      rw [if_neg (by omega)]; exact ht, Nat.le_refl _, fun _ => rfl⟩, fun _ _ _ => rfl, fun _ => Nat.le_refl _, fun _ c _ hb => ⟨c, hb, rfl⟩⟩
  obtain ⟨k1, k2⟩ := good_new h (w' := w) (g' := g') (x := .room 0 sz ty) hev (Nat.le_refl _) (fun _ _ => rfl) (fun _ _ => rfl) (fun q hq => by show (if q = n then _ else _) = _; rw [if_neg hq]) (fun _ _ => rfl) h.gz
    (fun b hb => by simp [blkOf, g'] at hb) ⟨none, by simp [g'], ⟨fun _ => rfl, fun _ _ => rfl⟩, fun b hb => by cases hb⟩ rfl rfl (Nat.le_of_ble_eq_true hL)
  refine ⟨g', ?_, k2⟩
  refine { k1 with env := fun q => ?_ }
  show (R g' w (lookE q ((t, .lst (some n) 0 sz f) :: e))).v _
  rw [lookE_cons]
  by_cases hq : t = q
  · subst hq
    rw [if_pos rfl]
    have hv := h.env t
    rw [show EnvF e t = .val (.slice none 0 0) from ht] at hv
    rw [val_v hv]
    exact ⟨⟨none, 0, rfl, Nat.le_refl _, ⟨none, 0, by simp [g'], Nat.le_refl _, fun _ => ⟨rfl, fun b hb => by cases hb⟩⟩, ⟨rfl, rfl⟩⟩, (csl (by decide))⟩
  · rw [if_neg hq]; exact k1.env q

/-- The loop that stands in a region of code: a relation over whatever data, and a measure. -/
theorem loop_at {P : Program} {gl : Nat → AV} {N : Nat} (hm : P.follows .mixedOrders = true) {α : Type} (st : α → Env × Objs × Nat) (ok : α → Prop) (μ : α → Nat) {W : (AExit → Post) → Post} {Q : AExit → Post} {e : Env} {o : Objs} {n : Nat} (y : α) (h0 : ok y)
    (hle : LeSt gl N e o n (st y).1 (st y).2.1 (st y).2.2)
    (round : ∀ y, ok y → W (RoundQ gl N st ok μ y Q) (st y).1 (st y).2.1 (st y).2.2) : LoopP gl N W Q e o n := ⟨⟨α, st, ok, μ, y, h0, hle, round⟩⟩

theorem eqS_refl : ∀ (s : Sh) (a : AV), eqS s a a = true := by
  intro s
  induction s with
  | int => intro a; unfold eqS; split <;> simp_all
  | bool => intro a; unfold eqS; split <;> simp_all
  | str => intro a; unfold eqS; split <;> simp_all
  | st s ih => intro a; unfold eqS; split <;> simp_all
  | cons s t ihs iht => intro a; unfold eqS; split <;> simp_all
  | arr n e s ih => intro a; unfold eqS; split <;> simp_all
  | nil => intro a; rfl

theorem eqS_eq {s : Sh} {a b : AV} (h : a = b) : eqS s a b = true := h ▸ eqS_refl s a

theorem le_r {a b : Nat} (h : Nat.ble a b = true) : a ≤ b := Nat.le_of_ble_eq_true h
theorem lt_r {a b : Nat} (h : Nat.ble (a + 1) b = true) : a < b := Nat.le_of_ble_eq_true h

/-! What a loop's head asks for, slot by slot. -/
theorem leE_i {e r : Env} {m t : Nat} {k : IntKind} {x y : Int} (h : lookE t e = .val (.int k x)) (hx : x = y) (hr : LeE e m r) : LeE e m ((t, .val (.int k y)) :: r) :=
  ⟨⟨by rw [h, hx]; exact Le.refl _, trivial⟩, hr⟩

theorem leE_b {e r : Env} {m t : Nat} {x y : Bool} (h : lookE t e = .val (.bool x)) (hx : x = y) (hr : LeE e m r) : LeE e m ((t, .val (.bool y)) :: r) :=
  ⟨⟨by rw [h, hx]; exact Le.refl _, trivial⟩, hr⟩

theorem leE_eq {e r : Env} {m t : Nat} {a : AV} (h : lookE t e = a) (hb : bnd m a) (hr : LeE e m r) : LeE e m ((t, a) :: r) :=
  ⟨⟨by rw [h]; exact Le.refl _, hb⟩, hr⟩

theorem leE_ptr {e r : Env} {m t o : Nat} {p : List PE} (h : lookE t e = .ptr o p) (ho : (Nat.blt o m || Nat.ble LENT o) = true) (hr : LeE e m r) : LeE e m ((t, .ptr o p) :: r) :=
  ⟨⟨by rw [h]; exact Le.refl _, by
    rw [Bool.or_eq_true] at ho
    exact ho.imp Nat.le_of_ble_eq_true Nat.le_of_ble_eq_true⟩, hr⟩

theorem leE_le {e r : Env} {m t : Nat} {a b : AV} (h : lookE t e = a) (hab : Le a b) (hb : bnd m b) (hr : LeE e m r) : LeE e m ((t, b) :: r) :=
  ⟨⟨by rw [h]; exact hab, hb⟩, hr⟩

theorem leO_box {o r : Objs} {m k : Nat} {a b : AV} (hk : k < m) (h : lookO k o = some (.box a)) (hab : LeA a b) (hb : bnd m b) (hr : LeO o m r) : LeO o m ((k, .box b) :: r) :=
  ⟨⟨.inl hk, ⟨a, h, hab⟩, hb⟩, hr⟩

theorem leO_room {o r : Objs} {m k q e : Nat} {ty : TypeId} (hk : k < m) (h : lookO k o = some (.room q e ty)) (hr : LeO o m r) : LeO o m ((k, .room q e ty) :: r) :=
  ⟨⟨.inl hk, h⟩, hr⟩

theorem okI_u64 {n : Int} : okI .u64 n ↔ inU64 n := by
  have h1 : IntKind.u64.min = 0 := by decide
  have h2 : IntKind.u64.max = 18446744073709551615 := by decide
  unfold okI inU64
  rw [h1, h2]

theorem okI_i64 {n : Int} : okI .i64 n ↔ in64 n := by
  have h1 : IntKind.i64.min = -9223372036854775808 := by decide
  have h2 : IntKind.i64.max = 9223372036854775807 := by decide
  unfold okI in64
  rw [h1, h2]

/-! The library's carries. -/
theorem xpure_add64 {P : Program} {f : FuncId} {fn : Func} (hf : P.funcs[f]? = some fn) (hname : (fn.name == "runtime.NumGoroutine") = false) (hb : fn.body.isNone = true) (hn : Extern.findNext fn = none) (he : Extern.find fn = some add64Entry)
    {x y c : Int} (hx : 0 ≤ x) (hy : 0 ≤ y) (hc0 : 0 ≤ c) (hc : c ≤ 1) :
    XPure P f [U x, U y, U c] (.tup (.cons (U ((x + y + c) % 18446744073709551616)) (.cons (U ((x + y + c) / 18446744073709551616)) .nil))) := by
  intro g w cargs hr
  match cargs, hr with
  | [a, b, d], hr =>
    obtain ⟨h1, h2, h3, _⟩ := hr
    have r1 := okI_u64.1 (int_ok h1)
    have r2 := okI_u64.1 (int_ok h2)
    rw [val_v h1, val_v h2, val_v h3]
    refine ⟨_, by rw [run_callFunc_extern hf hname hb hn he, run_add64 x y c hx hy hc0 hc]; rfl, ?_⟩
    exact ⟨_, rfl, ⟨rfl, okI_u64.2 (by unfold inU64 at *; omega)⟩, ⟨rfl, okI_u64.2 (by unfold inU64 at *; omega)⟩, rfl⟩
  | [], hr => exact hr.elim
  | [_], hr => exact hr.2.elim
  | [_, _], hr => exact hr.2.2.elim
  | _ :: _ :: _ :: _ :: _, hr => exact hr.2.2.2.elim

end Ar
namespace Ar
open Go Go.ChangeShapes Go.WideShapes
set_option linter.unusedVariables false
set_option autoImplicit false

/-- The form of what comes in. -/
inductive Ty where
  | int (k : IntKind)
  | bool
  | str
  | st (l : Ty)
  | cons (a b : Ty)
  | nil
  | arr (n e : Nat) (a : Ty)
  | sl (e : Nat) (a : Ty)

/-- At least so many bytes take its values. -/
def tby : Ty → Nat
  | .int _ => 8
  | .bool => 0
  | .str => 16
  | .st l => tby l
  | .cons a b => tby a + tby b
  | .nil => 0
  | .arr n _ a => n * tby a
  | .sl _ _ => 24

def tsize : Ty → Nat
  | .int _ | .bool | .str | .sl .. => 1
  | .st l => tsize l
  | .cons a b => tsize a + tsize b
  | .nil => 0
  | .arr n e _ => n * e

/-- The form is that of the type. -/
def conf (P : Program) : Ty → (TypeId → Bool) × (List Field → Nat → Bool)
  | .int k => (fun t => match P.underlying t with | some (.int k') => decide (k' = k) | _ => false, fun _ _ => false)
  | .bool => (fun t => match P.underlying t with | some .bool => true | _ => false, fun _ _ => false)
  | .str => (fun t => match P.underlying t with | some .string => true | _ => false, fun _ _ => false)
  | .st l => (fun t => match P.underlying t with | some (.struct fs) => (conf P l).2 fs.toList 0 && Nat.beq (P.cellsOf t) (tsize l) | _ => false, fun _ _ => false)
  | .cons a b => (fun _ => false, fun fs off => match fs with
    | [] => false
    | f :: r => Nat.beq f.offset off && Nat.beq (P.cellsOf f.type) (tsize a) && (conf P a).1 f.type && (conf P b).2 r (off + tsize a))
  | .nil => (fun _ => false, fun fs _ => match fs with | [] => true | _ => false)
  | .arr n e a => (fun t => match P.underlying t with | some (.array n' u) => Nat.beq n n' && Nat.beq (P.cellsOf u) e && Nat.beq (tsize a) e && Nat.beq (P.cellsOf t) (n * e) && (conf P a).1 u | _ => false, fun _ _ => false)
  | .sl e a => (fun t => match P.underlying t with | some (.slice u) => Nat.beq (P.cellsOf u) e && Nat.beq (tsize a) e && (conf P a).1 u && Nat.blt 0 e && Nat.ble (tby a) (P.bytesOf u) | _ => false, fun _ _ => false)

/-- A value of that form. -/
def Of : Ty → AV → Prop
  | .int k, a => ∃ n, a = .val (.int k n) ∧ k.min ≤ n ∧ n ≤ k.max
  | .bool, a => ∃ b, a = .val (.bool b)
  | .str, a => ∃ s : ByteArray, a = .val (.string s) ∧ s.size ≤ maxLen
  | .st l, a => ∃ b, a = .st b ∧ Of l b
  | .cons x y, a => ∃ b c, a = .cons b c ∧ Of x b ∧ Of y c
  | .nil, a => a = .nil
  | .arr n e x, a => ∃ f, a = .arr n e f ∧ ∀ i, i < n → Of x (f i)
  | .sl e x, a => ∃ n f, a = .lst none n e f ∧ (n ≤ maxLen ∧ n * tby x ≤ 140737488351232) ∧ ∀ i, i < n → Of x (f i)

def GW (w : World) (b : Nat) : Nat := match w.heap[b]? with
  | some (.cells c _ _) => c.size
  | _ => 0

def g0 (w : World) : Gh := ⟨fun _ => none, fun _ => none, GW w⟩

theorem cell?_lt {w : World} {a : Addr} {v : Value} (h : w.cell? a = some v) : a.spot = none ∧ a.off < GW w a.block := by
  unfold World.cell? at h
  unfold GW
  split at h
  · rename_i c _ _ hc
    rw [hc]
    split at h
    · cases h
    · rename_i hs
      refine ⟨by simpa using hs, ?_⟩
      exact (Array.getElem?_eq_some_iff.1 h).1
  · cases h

variable {H : Type} {enc : TypeId × Value → H} {P : Program} {w : World} {base : Nat} {spare : Nat → Bool} {held : Bool}

theorem beqE {a b : Nat} (h : Nat.beq a b = true) : a = b := Nat.eq_of_beq_eq_true h

abbrev wOk (l : List Nat) : Prop := l.all (· ≤ reachBytes) = true
theorem wOk_app {a b : List Nat} (h : wOk (a ++ b)) : wOk a ∧ wOk b := by
  unfold wOk at *; rw [List.all_append, Bool.and_eq_true] at h; exact h
theorem wEach_at : ∀ {ts : List TypeId} {ds : List (DataW H)}, wOk (DataW.weightsEach P ts ds) → ∀ (i : Nat) (t : TypeId) (d : DataW H), ts[i]? = some t → ds[i]? = some d → wOk (d.weights P t)
  | t :: ts, d :: ds, h, i, t', d', h1, h2 => by
    simp only [DataW.weightsEach] at h
    obtain ⟨h3, h4⟩ := wOk_app h
    cases i with
    | zero => injection h1 with h1; injection h2 with h2; subst h1 h2; exact h3
    | succ i => exact wEach_at h4 i t' d' (by simpa using h1) (by simpa using h2)
  | [], _, _, i, t', d', h1, _ => by simp at h1
  | _ :: _, [], _, i, t', d', _, h2 => by simp at h2
theorem wAll_at {e : TypeId} : ∀ {ds : List (DataW H)}, wOk (DataW.weightsAll P e ds) → ∀ (i : Nat) (d : DataW H), ds[i]? = some d → wOk (d.weights P e)
  | d :: ds, h, i, d', h2 => by
    simp only [DataW.weightsAll] at h
    obtain ⟨h3, h4⟩ := wOk_app h
    cases i with
    | zero => injection h2 with h2; subst h2; exact h3
    | succ i => exact wAll_at h4 i d' (by simpa using h2)
  | [], _, i, d', h2 => by simp at h2

theorem open_ty (ty : Ty) :
    (∀ (fuel : Nat) (t : TypeId) (cs : List Value) (x : DataW H × List MemPlace), (conf P ty).1 t = true → DataW.trod enc P w base spare held fuel t cs = some x → wOk (x.1.weights P t) →
      ∃ a, Of ty a ∧ size a = tsize ty ∧ cs.length = tsize ty ∧ (R (g0 w) w a).s (fun j => cs[j]?) 0) ∧
    (∀ (fuel : Nat) (fs : List Field) (off : Nat) (cs : List Value), (conf P ty).2 fs off = true → (∀ f ∈ fs, ∃ y, DataW.trod enc P w base spare held fuel f.type ((cs.drop f.offset).take (P.cellsOf f.type)) = some y ∧ wOk (y.1.weights P f.type)) →
      ∃ a, Of ty a ∧ size a = tsize ty ∧ (R (g0 w) w a).s (fun j => cs[j]?) off) := by
  induction ty with
  | int k =>
    refine ⟨fun fuel t cs x hc h hwt => ?_, fun _ _ _ _ hc => by simp [conf] at hc⟩
    simp only [conf] at hc
    split at hc
    · rename_i k' ht
      have hc := of_decide_eq_true hc
      subst hc
      obtain ⟨n, rfl, rfl, hw⟩ := DataW.trod_int ht h
      simp only [Lit.wf, Bool.and_eq_true, decide_eq_true_eq] at hw
      exact ⟨.val (.int k' n), ⟨n, rfl, hw⟩, rfl, rfl, ⟨_, rfl, rfl, hw⟩⟩
    · cases hc
  | bool =>
    refine ⟨fun fuel t cs x hc h hwt => ?_, fun _ _ _ _ hc => by simp [conf] at hc⟩
    simp only [conf] at hc
    split at hc
    · rename_i ht
      obtain ⟨b, rfl, rfl⟩ := DataW.trod_bool ht h
      exact ⟨.val (.bool b), ⟨b, rfl⟩, rfl, rfl, ⟨_, rfl, rfl, trivial⟩⟩
    · cases hc
  | str =>
    refine ⟨fun fuel t cs x hc h hwt => ?_, fun _ _ _ _ hc => by simp [conf] at hc⟩
    simp only [conf] at hc
    split at hc
    · rename_i ht
      obtain ⟨s, rfl, rfl, hs⟩ := DataW.trod_string ht h
      exact ⟨.val (.string s), ⟨s, rfl, hs⟩, rfl, rfl, ⟨_, rfl, rfl, (show s.size ≤ 9223372036854775807 by simp only [maxLen] at hs; omega)⟩⟩
    · cases hc
  | st l ih =>
    refine ⟨fun fuel t cs x hc h hwt => ?_, fun _ _ _ _ hc => by simp [conf] at hc⟩
    simp only [conf] at hc
    split at hc
    · rename_i fs ht
      simp only [Bool.and_eq_true] at hc
      obtain ⟨xs, n, hn, hx, hlen, hxl, hf⟩ := DataW.trod_struct ht h
      obtain ⟨a, ha, hs, hr⟩ := ih.2 n fs.toList 0 cs hc.1 (fun f hfm => by
        obtain ⟨i, hi, rfl⟩ := List.mem_iff_getElem.1 hfm
        simp only [Array.length_toList] at hi
        refine ⟨xs[i]'(by omega), ?_⟩
        have := hf i (fs[i]) (by simp [hi])
        simp only [Array.getElem_toList]
        refine ⟨by rw [this, List.getElem?_eq_getElem], ?_⟩
        subst hx
        simp only [DataW.weights, ht] at hwt
        exact wEach_at hwt i _ _ (by simp [hi]) (by simp [List.getElem?_eq_getElem (show i < xs.length by omega)]))
      exact ⟨.st a, ⟨a, rfl, ha⟩, hs, by rw [hlen, beqE hc.2]; rfl, hr⟩
    · cases hc
  | cons p q ihp ihq =>
    refine ⟨fun _ _ _ _ hc => by simp [conf] at hc, fun fuel fs off cs hc h => ?_⟩
    simp only [conf] at hc
    split at hc
    · cases hc
    · rename_i f r
      simp only [Bool.and_eq_true] at hc
      obtain ⟨⟨⟨h1, h2⟩, h3⟩, h4⟩ := hc
      obtain ⟨y, hy, hyw⟩ := h f (List.mem_cons_self ..)
      obtain ⟨a, ha, hs, hl, hr⟩ := ihp.1 _ _ _ _ h3 hy hyw
      obtain ⟨b, hb, hsb, hrb⟩ := ihq.2 fuel r (off + tsize p) cs h4 (fun f' hf' => h f' (List.mem_cons_of_mem _ hf'))
      rw [beqE h1, beqE h2] at hr hl
      refine ⟨.cons a b, ⟨a, b, rfl, ha, hb⟩, by simp [size, hs, hsb, tsize], R_look (fun j hj => ?_) hr, by rw [hs]; exact hrb⟩
      rw [hs] at hj
      simp [hj]
  | nil =>
    refine ⟨fun _ _ _ _ hc => by simp [conf] at hc, fun fuel fs off cs hc h => ?_⟩
    exact ⟨.nil, rfl, rfl, trivial⟩
  | arr n e p ih =>
    refine ⟨fun fuel t cs x hc h hwt => ?_, fun _ _ _ _ hc => by simp [conf] at hc⟩
    simp only [conf] at hc
    split at hc
    · rename_i n' u ht
      simp only [Bool.and_eq_true] at hc
      obtain ⟨⟨⟨⟨h1, h2⟩, h3⟩, h4⟩, h5⟩ := hc
      have h1 := beqE h1; have h2 := beqE h2; have h3 := beqE h3; have h4 := beqE h4
      subst h1
      obtain ⟨xs, m, hm, hx, hlen, hxl, hf⟩ := Go.DataW.trod_array ht h
      have hcell : ∀ i, ∃ a, i < n → Of p a ∧ size a = e ∧ (R (g0 w) w a).s (fun j => cs[j]?) (i * e) := by
        intro i
        by_cases hi : i < n
        · have := hf i hi
          rw [h2, List.getElem?_eq_getElem (by omega : i < xs.length)] at this
          obtain ⟨a, ha, hs, hl, hr⟩ := ih.1 _ _ _ _ h5 this (by
            subst hx
            simp only [DataW.weights, ht] at hwt
            exact wAll_at hwt i _ (by simp [List.getElem?_eq_getElem (show i < xs.length by omega)]))
          refine ⟨a, fun _ => ⟨ha, by rw [hs, h3], R_look (fun j hj => ?_) hr⟩⟩
          rw [hs, h3] at hj
          simp [hj]
        · exact ⟨.nil, fun h => absurd h hi⟩
      refine ⟨.arr n e fun i => (hcell i).choose, ⟨_, rfl, fun i hi => ((hcell i).choose_spec hi).1⟩, rfl, by rw [hlen, h4]; rfl, fun i hi => ?_⟩
      obtain ⟨a1, a2, a3⟩ := (hcell i).choose_spec hi
      exact ⟨a2, by rw [Nat.zero_add]; exact a3⟩
    · cases hc
  | sl e p ih =>
    refine ⟨fun fuel t cs x hc h hwt => ?_, fun _ _ _ _ hc => by simp [conf] at hc⟩
    simp only [conf] at hc
    split at hc
    · rename_i u ht
      simp only [Bool.and_eq_true] at hc
      obtain ⟨⟨⟨⟨h2, h3⟩, h5⟩, h6⟩, h7⟩ := hc
      have h2 := beqE h2; have h3 := beqE h3
      have hby : tby p ≤ P.bytesOf u := Nat.le_of_ble_eq_true h7
      have h6 : 0 < e := Nat.le_of_ble_eq_true h6
      rcases Deep.open_slice ht h with ⟨rfl, rfl⟩ | ⟨a, len, cap, m, n, D, Pl, rfl, hb, hl, hm, hmm, hx, hi⟩
      · exact ⟨.lst none 0 e fun _ => .nil, ⟨0, _, rfl, ⟨Nat.zero_le _, by omega⟩, fun i hi => absurd hi (Nat.not_lt_zero i)⟩, rfl, rfl, ⟨_, rfl, ⟨none, 0, rfl, Nat.le_refl _, trivial, rfl, rfl⟩, csl (by decide)⟩⟩
      · have hlm : len ≤ m := by rw [hmm]; split <;> omega
        subst hx
        simp only [DataW.weights, ht, List.length_map, List.length_range] at hwt
        have hwt : wOk ([(len + (m - len)) * P.bytesOf u] ++ (DataW.weightsAll P u (List.map D (List.range len)) ++ DataW.weightsAll P u (List.map (fun j => D (len + j)) (List.range (m - len))))) := hwt
        obtain ⟨hw1, hw2⟩ := wOk_app hwt
        obtain ⟨hw2, _⟩ := wOk_app hw2
        have hwl : len * tby p ≤ 140737488351232 := by
          have h1 : (len + (m - len)) * P.bytesOf u ≤ reachBytes := by simpa [wOk] using hw1
          exact Nat.le_trans (Nat.mul_le_mul (Nat.le_add_right len (m - len)) hby) h1
        rw [h2] at hi
        have hcell : ∀ i, ∃ b, i < len → Of p b ∧ size b = e ∧ (R (g0 w) w b).s (look w a.block) (a.off + i * e) ∧ a.spot = none ∧ a.off + (i * e + e) ≤ GW w a.block := by
          intro i
          by_cases hil : i < len
          · obtain ⟨cs', hc', ht'⟩ := hi i (by omega)
            obtain ⟨b, hb1, hb2, hb3, hb4⟩ := ih.1 _ _ _ _ h5 ht' (wAll_at hw2 i _ (by simp [hil]))
            obtain ⟨_, hcl, hat⟩ := World.cells?_some hc'
            rw [h3] at hb2 hb3
            have hat' : ∀ j, j < e → ∃ v, cs'[j]? = some v ∧ w.cell? ((a.add (i * e)).add j) = some v := by
              intro j hj
              exact ⟨cs'[j]'(by omega), List.getElem?_eq_getElem (by omega), by rw [hat j hj]; exact List.getElem?_eq_getElem (by omega)⟩
            have hsp : a.spot = none ∧ ∀ j, (a.add (i * e)).add j = ⟨a.block, a.off + i * e + j, none⟩ := by
              obtain ⟨v, _, hv⟩ := hat' 0 h6
              have h1 := (cell?_lt hv).1
              have hs : a.spot = none := by
                by_cases z : i * e = 0
                · rw [z] at h1; simpa [Addr.add] using h1
                · by_cases hi0 : 0 < len
                  · obtain ⟨cs0, hc0, _⟩ := hi 0 (by omega)
                    obtain ⟨_, hcl0, hat0⟩ := World.cells?_some hc0
                    have h7 := hat0 0 h6
                    rw [List.getElem?_eq_getElem (by omega)] at h7
                    have := (cell?_lt h7).1
                    simpa [Addr.add] using this
                  · omega
              refine ⟨hs, fun j => ?_⟩
              obtain ⟨ab, ao, as⟩ := a
              simp only at hs
              subst hs
              simp only [Addr.add]
              split <;> split <;> simp_all [Nat.add_assoc]
            refine ⟨b, fun _ => ⟨hb1, hb2, R_look (fun j hj => ?_) hb4, hsp.1, ?_⟩⟩
            · rw [hb2] at hj
              obtain ⟨v, hv1, hv2⟩ := hat' j hj
              rw [hsp.2] at hv2
              show look w a.block (a.off + i * e + j) = cs'[0 + j]?
              rw [Nat.zero_add, hv1]
              exact hv2
            · obtain ⟨v, _, hv⟩ := hat' (e - 1) (by omega)
              rw [hsp.2] at hv
              have := (cell?_lt hv).2
              simp only at this
              omega
          · exact ⟨.nil, fun h => absurd h hil⟩
        refine ⟨.lst none len e fun i => (hcell i).choose, ⟨len, _, rfl, ⟨by omega, hwl⟩, fun i hi => ((hcell i).choose_spec hi).1⟩, rfl, rfl, ⟨_, rfl, ⟨some a, cap, rfl, hl, trivial, ?_⟩, csl (by simp only [maxLen] at hm; omega)⟩⟩
        refine ⟨fun h0 => ((hcell 0).choose_spec h0).2.2.2.1, fun h0 => ?_, fun i hi => ⟨((hcell i).choose_spec hi).2.1, ((hcell i).choose_spec hi).2.2.1⟩⟩
        have hl0 : 0 < len := Nat.pos_of_ne_zero (by rintro rfl; simp at h0)
        have := ((hcell (len - 1)).choose_spec (by omega)).2.2.2.2
        have h8 : (len - 1) * e + e = len * e := by
          obtain ⟨k, rfl⟩ : ∃ k, len = k + 1 := ⟨len - 1, by omega⟩
          simp [Nat.add_mul]
        rw [h8] at this
        exact this
    · cases hc

theorem agg_cells {cs : Array Value} : (Value.agg cs).cells = cs := rfl

theorem open_top {ty : Ty} {b0 : Nat} {t : TypeId} {v : Value} {d : DataW H} {ps : List MemPlace} (hc : (conf P ty).1 t = true) (hval : Value.okWide P w .any b0 t v) (h : DataW.Trod enc P w base spare held t v d ps) (hwt : wOk (d.weights P t)) :
    ∃ a, Of ty a ∧ (R (g0 w) w a).v v := by
  obtain ⟨fuel, h⟩ := h
  obtain ⟨a, ha, hs, hl, hr⟩ := (open_ty ty).1 fuel t _ _ hc h hwt
  refine ⟨a, ha, ?_⟩
  have one1 : ∀ {p : Value → Prop}, v.cells = #[v] → (∃ u, v.cells.toList[0]? = some u ∧ p u ∧ cellV u) → p v ∧ cellV v := by
    intro p hv ⟨u, h1, h2, h3⟩
    rw [hv] at h1
    simp at h1
    subst h1
    exact ⟨h2, h3⟩
  cases ty with
  | int k =>
    simp only [conf] at hc
    split at hc
    · rename_i k' ht
      obtain ⟨n, rfl⟩ := okWide_int ht hval
      obtain ⟨m, rfl, _⟩ := ha
      exact one1 rfl hr
    · cases hc
  | bool =>
    simp only [conf] at hc
    split at hc
    · rename_i ht
      obtain ⟨n, rfl⟩ := okWide_bool ht hval
      obtain ⟨m, rfl⟩ := ha
      exact one1 rfl hr
    · cases hc
  | str =>
    simp only [conf] at hc
    split at hc
    · rename_i ht
      obtain ⟨n, rfl⟩ := okWide_string ht hval
      obtain ⟨m, rfl, _⟩ := ha
      exact one1 rfl hr
    · cases hc
  | st l =>
    simp only [conf] at hc
    split at hc
    · rename_i fs ht
      obtain ⟨cs, rfl, hsz⟩ := okWide_struct ht hval
      obtain ⟨b, rfl, hb⟩ := ha
      rw [agg_cells] at hl hr
      refine ⟨cs, rfl, ?_, R_look (fun j hj => ?_) hr⟩
      · rw [← Array.length_toList, hl]; exact hs.symm
      · simp
    · cases hc
  | arr n e p =>
    simp only [conf] at hc
    split at hc
    · rename_i n' u ht
      have hv : ∃ cs, v = .agg cs := by
        simp only [Value.okWide, ht] at hval
        obtain ⟨cs, h1, _⟩ := hval
        exact ⟨cs, h1⟩
      obtain ⟨cs, rfl⟩ := hv
      obtain ⟨f, rfl, hf⟩ := ha
      rw [agg_cells] at hl hr
      refine ⟨cs, rfl, by rw [← Array.length_toList, hl]; rfl, fun i hi => ⟨(hr i hi).1, R_look (fun j hj => ?_) (hr i hi).2⟩⟩
      simp
    · cases hc
  | sl e p =>
    simp only [conf] at hc
    split at hc
    · rename_i u ht
      obtain ⟨x, len, cap, rfl⟩ := okWide_slice ht hval
      obtain ⟨n, f, rfl, _⟩ := ha
      exact one1 rfl hr
    · cases hc
  | cons a b => simp [conf] at hc
  | nil => simp [conf] at hc

def OfL : List Ty → List AV → Prop
  | [], [] => True
  | t :: ts, a :: as => Of t a ∧ OfL ts as
  | _, _ => False

def confL (P : Program) : List Ty → List TypeId → Bool
  | [], [] => true
  | a :: as, t :: ts => (conf P a).1 t && confL P as ts
  | _, _ => false

theorem open_args {b0 : Nat} : ∀ {tys : List Ty} {ts : List TypeId} {vs : List Value} {ds : List (DataW H)} {ps : List MemPlace}, confL P tys ts = true → DataW.TrodAll enc P w base spare held ts vs ds ps →
    (∀ (j : Nat) t v, ts[j]? = some t → vs[j]? = some v → Value.okWide P w .any b0 t v) → wOk (DataW.weightsEach P ts ds) → ds.length = ts.length ∧ ∃ as, OfL tys as ∧ RL (g0 w) w as vs
  | [], [], vs, ds, ps, hc, h, hv, hwt => by
    obtain ⟨rfl, rfl, _⟩ := trodAll_nil h
    exact ⟨rfl, [], trivial, trivial⟩
  | a :: as, t :: ts, vs, ds, ps, hc, h, hv, hwt => by
    simp only [confL, Bool.and_eq_true] at hc
    obtain ⟨v, vs', d, ds', p, q, rfl, rfl, rfl, h1, h2⟩ := trodAll_cons h
    simp only [DataW.weightsEach] at hwt
    obtain ⟨hw1, hw2⟩ := wOk_app hwt
    obtain ⟨x, hx, hr⟩ := open_top hc.1 (hv 0 t v rfl rfl) h1 hw1
    obtain ⟨hl, xs, hxs, hrs⟩ := open_args hc.2 h2 (fun j t' v' h3 h4 => hv (j + 1) t' v' h3 h4) hw2
    exact ⟨by simp [hl], x :: xs, ⟨hx, hxs⟩, ⟨hr, hrs⟩⟩
  | [], _ :: _, _, _, _, hc, _, _, _ => by simp [confL] at hc
  | _ :: _, [], _, _, _, hc, _, _, _ => by simp [confL] at hc

theorem trodAll_stays (hl : laidOutB P = true) {W W' : World} {sp' : Nat → Bool} (hsame : ∀ k, k < W.heap.size → W'.heap[k]? = W.heap[k]?) : ∀ {ts : List TypeId} {vs : List Value} {ds : List (DataW H)} {ps : List MemPlace},
    (∀ t ∈ ts, P.readableRec t = true ∧ t < P.types.size) → DataW.TrodAll enc P W 0 (fun _ => true) true ts vs ds ps → (∀ p ∈ ps, p.block < W.heap.size) → (∀ p ∈ ps, sp' p.block = true) → DataW.TrodAll enc P W' 0 sp' true ts vs ds ps
  | [], [], [], ps, _, h, _, _ => h
  | t :: ts, v :: vs, d :: ds, ps, ht, ⟨p, q, h1, h2, e⟩, hb, hs => by
    subst e
    refine ⟨p, q, ?_, trodAll_stays hl hsame (fun t h => ht t (List.mem_cons_of_mem _ h)) h2 (fun x hx => hb x (List.mem_append_right _ hx)) (fun x hx => hs x (List.mem_append_right _ hx)), rfl⟩
    refine WideElems.Trod_stays hl (ht t (List.mem_cons_self ..)).1 (ht t (List.mem_cons_self ..)).2 h1 (fun x hx => ?_) (fun x hx => hs x (List.mem_append_left _ hx))
    have := hb x (List.mem_append_left _ hx)
    cases x with
    | cell b o => exact World.cell?_of_block (w := W) (hsame b this)
    | map b => exact hsame b this
  | [], _ :: _, _, _, _, h, _, _ => h.elim
  | [], [], _ :: _, _, _, h, _, _ => h.elim
  | _ :: _, [], _, _, _, h, _, _ => h.elim
  | _ :: _, _ :: _, [], _, _, h, _, _ => h.elim

theorem post_stays {f : Func} {s : ChangeSpec} {apart fresh handsOn again : Bool} {W W' : World} {args : Array Value} {v : Value} {ds gs : List (DataW H)} {before pa pv : List MemPlace}
    (hW : DataW.Whole enc P f.params.toList s.vars apart W args.toList ds gs before)
    (hres : ∀ (b : Nat) (sp : Nat → Bool) (hd : Bool), DataW.TrodAll enc P W' b sp hd f.resultTypes.toList (v.resultList f.resultTypes.size) (s.fn H (ds ++ gs)).results [])
    (hargs : ∀ sp : Nat → Bool, (∀ p ∈ before, sp p.block = true) → DataW.TrodAll enc P W' 0 sp true f.params.toList args.toList (s.fn H (ds ++ gs)).args pa)
    (hvars : ∀ sp : Nat → Bool, (∀ p ∈ before, sp p.block = true) → DataW.TrodVars enc P W' sp s.vars (s.fn H (ds ++ gs)).vars pv)
    (hps : before = pa ++ pv) (hk : W.keptBut W' (· ∈ before)) (hsame : ∀ k, k < W.heap.size → W'.heap[k]? = W.heap[k]?)
    (hok : ∀ (j : Nat) (t : TypeId) (r : Value), f.resultTypes[j]? = some t → (v.resultList f.resultTypes.size)[j]? = some r → Value.okWide P W' .any 0 t r) :
    s.post enc P f apart fresh handsOn again W args v W' := by
  have hold : ∀ p ∈ before, (fun b => decide (b < W.heap.size)) p.block = true := fun p hp => by simpa using hW.lt p hp
  have hlt := hW.lt
  refine ⟨ds, gs, before, [], pa, pv, hW, hres _ _ _, hargs _ hold, hvars _ hold, World.keptBut_mono (fun p hp => ⟨hp, ?_⟩) hk, fun _ => ?_⟩
  · rw [hps, List.mem_append] at hp
    exact Or.inr hp
  · obtain ⟨_, _, _, _, _, hz, hn⟩ := hW
    refine ⟨hok, _, _, ([] ++ pa) ++ pv, ⟨[] ++ pa, pv, trodAll_append (hargs _ (fun _ _ => rfl)) (hres _ _ _), hvars _ (fun _ _ => rfl), rfl, ?_, ?_⟩, ?_⟩
    · intro b off hp
      have hm : MemPlace.cell b off ∈ before := by rw [hps]; simpa using hp
      have := hz b off hm
      unfold World.frozen? at this ⊢
      simp only at this ⊢
      rw [hsame b (hlt _ hm)]
      exact this
    · intro ha
      have := hn ha
      rw [hps] at this
      simpa using this
    · intro p hp _
      rw [hps]
      simpa using hp

theorem kept_of_same {W W' : World} (hos : W'.os = W.os) (hout : W'.output = W.output) (hsame : ∀ k, k < W.heap.size → W'.heap[k]? = W.heap[k]?) (may : MemPlace → Prop) : W.keptBut W' may := by
  refine ⟨hos, hout, fun i hi => ?_⟩
  rw [hsame i hi]
  cases h : W.heap[i]? with
  | none => trivial
  | some o => cases o <;> simp

/-- From a law's contract to what its row asks. -/
theorem law_calls {f : FuncId} {fn : Func} {s : ChangeSpec} {apart fresh handsOn again : Bool} {tb : TypeId} {tys : List Ty}
    (hlaid : laidOutB P = true) (hts : (fn.params.toList.all fun t => P.readableRec t && Nat.blt t P.types.size) = true) (hres : fn.resultTypes = #[tb]) (htb : P.underlying tb = some .bool)
    (hc : confL P tys fn.params.toList = true) (hv : s.vars = [])
    (hsf : ∀ ds : List (DataW H), ds.length = fn.params.toList.length → s.fn H ds = { results := [.lit (.bool true)], args := ds })
    {gl : Nat → AV} (law : ∀ as, OfL tys as → ∃ args', LeL as args' ∧ Pure P gl f args' (.val (.bool true)))
    {W : World} (hgl : ∀ i, (R (g0 W) W (gl i)).v (.pointer (some ⟨i, 0, none⟩))) {b0 : Nat} {args : Array Value} {ds gs : List (DataW H)} {before : List MemPlace}
    (hval : ∀ (j : Nat) t v, fn.params[j]? = some t → args[j]? = some v → Value.okWide P W .any b0 t v)
    (hW : DataW.Whole enc P fn.params.toList s.vars apart W args.toList ds gs before) (hwt : wOk (DataW.weightsEach P (fn.params.toList ++ s.plain.varTypes P) (ds ++ gs))) :
    Calls P f args W fun e W' => ∃ v, e = .returned v ∧ s.post enc P fn apart fresh handsOn again W args v W' := by
  have hts : ∀ t ∈ fn.params.toList, P.readableRec t = true ∧ t < P.types.size := fun t ht => by
    have := List.all_eq_true.1 hts t ht
    rw [Bool.and_eq_true] at this
    exact ⟨this.1, Nat.le_of_ble_eq_true this.2⟩
  have hW' := hW
  have hlt := hW.lt
  obtain ⟨p, q, hA, hV, rfl, hfz, hnd⟩ := hW
  rw [hv] at hV
  obtain ⟨rfl, rfl⟩ := trodVars_none hV
  have hva : ∀ (j : Nat) t v, fn.params.toList[j]? = some t → args.toList[j]? = some v → Value.okWide P W .any b0 t v := fun j t v h1 h2 => hval j t v (by rw [← h1]; simp) (by rw [← h2]; simp)
  have hvt : s.plain.varTypes P = [] := by
    simp [DataSpec.varTypes, ChangeSpec.plain, hv]
  rw [hvt, List.append_nil, List.append_nil] at hwt
  obtain ⟨hlen, as, has, hr⟩ := open_args hc hA hva hwt
  obtain ⟨args', hle, _, _, _, hp⟩ := law as has
  have := hp (GW W) W args.toList (fun b hb => by unfold GW; rw [Array.getElem?_eq_none hb]) hgl (RL.le hle hr)
  refine this.mono fun x W' ⟨u, G', hx, hstp, _, hu⟩ => ?_
  have hu := val_v hu
  subst hu
  have hsame : ∀ k, k < W.heap.size → W'.heap[k]? = W.heap[k]? := fun k hk => (hstp.keep k hk (fun ⟨_, _, h, _⟩ => by cases h)).1
  simp only [List.append_nil] at hW' hlt
  have hsf' : s.fn H (ds ++ []) = { results := [.lit (.bool true)], args := ds } := by rw [List.append_nil]; exact hsf ds hlen
  have e0 : ∀ (d : List (DataW H)), (⟨[.lit (.bool true)], d, []⟩ : Left H).results = [.lit (.bool true)] := fun _ => rfl
  refine ⟨_, hx, post_stays (pa := p) (pv := []) hW' (fun b sp hd => ?_) (fun sp hsp => ?_) (fun sp _ => ?_) (List.append_nil p).symm (kept_of_same hstp.os hstp.out hsame _) hsame ?_⟩
  · rw [hsf', hres]
    exact trodAll_mk1 (RowKit.shut_bool htb true)
  · rw [hsf']
    exact trodAll_stays hlaid hsame hts hA hlt hsp
  · rw [hsf', hv]
    rfl
  · exact RowKit.ok_one hres rfl (RowKit.okWide_bool_mk htb true)

end Ar
namespace Ar
open Go
set_option linter.unusedVariables false
set_option autoImplicit false

/-- A function's end: what it returns reads as something that is as it should be. -/
structure FinP (gl : Nat → AV) (N : Nat) (rs : List RV) (Q : AV → Prop) (e : Env) (o : Objs) (n : Nat) : Prop where
  h : ∃ e' o' n', LeSt gl N e o n e' o' n' ∧ resA e' o' rs fun l => ∃ r, nf r ∧ Q r ∧ Le (packA l) r

theorem resA_mono {e : Env} {o : Objs} : ∀ (rs : List RV) {K K' : List AV → Prop}, (∀ l, K l → K' l) → resA e o rs K → resA e o rs K'
  | [], _, _, h, hk => h _ hk
  | .t t :: r, _, _, h, hk => by simp only [resA] at hk ⊢; exact resA_mono r (fun l => h _) hk
  | .c a ag n :: r, _, _, h, hk => by
    simp only [resA] at hk ⊢
    split at hk
    · split at hk
      · simp only [chk_iff] at hk ⊢
        exact ⟨hk.1, hk.2.1, resA_mono r (fun l => h _) hk.2.2⟩
      · exact hk.elim
    · exact hk.elim

section
variable {P : Program} {gl : Nat → AV} {N : Nat}

/-- The results as they are. -/
theorem fin_e {rs : List RV} {Q : AV → Prop} {e : Env} {o : Objs} {n : Nat} (h : resA e o rs fun l => forceL l fun l => nf (packA l) ∧ Q (packA l)) : FinP gl N rs Q e o n :=
  ⟨e, o, n, LeSt.refl gl N e o n, resA_mono rs (fun l hl => by
    have := forceL_iff.1 hl
    exact ⟨packA l, this.1, this.2, Le.refl _⟩) h⟩

/-- The results read weaker. -/
theorem fin_r {rs : List RV} {Q : AV → Prop} {e : Env} {o : Objs} {n : Nat} (r : AV) (hn : nf r) (hQ : Q r) (h : resA e o rs fun l => RetIs l r) : FinP gl N rs Q e o n :=
  ⟨e, o, n, LeSt.refl gl N e o n, resA_mono rs (fun l hl => ⟨r, hn, hQ, hl.le⟩) h⟩

theorem fin_le {rs : List RV} {Q : AV → Prop} {e e' : Env} {o o' : Objs} {n n' : Nat} (hl : LeSt gl N e o n e' o' n') (h : FinP gl N rs Q e' o' n') : FinP gl N rs Q e o n := by
  obtain ⟨e2, o2, n2, h1, h2⟩ := h.h
  exact ⟨e2, o2, n2, hl.trans h1, h2⟩

theorem pure_fnQg (hm : P.follows .mixedOrders = true) {f : FuncId} {fn : Func} {x : IC} {rs : List RV} {args : List AV} {Q : AV → Prop} (hf : P.funcs[f]? = some fn) (hN : fn.ntmps = N)
    (hcf : compF P N fn = some (x, rs)) (hlen : args.length ≤ N) (hgl : ∀ i, nf (gl i)) (ha : ∀ a ∈ args, nf a) (o0 : Objs) (h0 : LeSt gl N (enumA 0 args) [] 0 (enumA 0 args) o0 0)
    (h : wp P gl N x (fun ex e o n => match ex with
      | .exit _ => False
      | _ => FinP gl N rs Q e o n) (enumA 0 args) o0 0) : PureQ P gl f args Q := by
  obtain ⟨c, hb, hc, hr⟩ : ∃ c, fn.body = some c ∧ comp P N c = some x ∧ compR P fn.results.toList = some rs := by
    unfold compF at hcf
    split at hcf
    · rename_i c hb
      split at hcf
      · rename_i y s h1 h2
        injection hcf with hcf
        injection hcf with h3 h4
        subst h3 h4
        exact ⟨c, hb, h1, h2⟩
      · cases hcf
    · cases hcf
  refine ⟨ha, hgl, fun G w cargs hz hglob hargs => ?_⟩
  have hcl := RL_len hargs
  let g : Gh := ⟨fun _ => none, fun _ => none, G⟩
  let act : Act := { tmps := cargs.toArray ++ Array.replicate (fn.ntmps - cargs.toArray.size) undef, defers := [] }
  have hsz : act.tmps.size = N := by
    show (cargs.toArray ++ Array.replicate (fn.ntmps - cargs.toArray.size) undef).size = N
    simp only [Array.size_append, List.size_toArray, Array.size_replicate, hcl, hN]
    omega
  have hgood : Good P gl N g w (EnvF (enumA 0 args)) [] 0 act := by
    refine ⟨fun k x hk => by simp [lookO] at hk, fun k x k' x' b hk => by simp [lookO] at hk, fun k x hk => by simp [lookO] at hk, fun k b hk => by simp [g] at hk, fun k b hk => by simp [g] at hk, fun t => ?_, hsz, (fun d hd => by cases hd), hz, hglob⟩
    show (R g w (lookE t (enumA 0 args))).v (act.tmps.getD t undef)
    rw [lookE_enum]
    simp only [Nat.zero_le, if_true, Nat.sub_zero]
    by_cases ht : t < args.length
    · have h1 := RL_get hargs t ht
      have h2 : act.tmps.getD t undef = cargs.getD t undef := by
        have : t < cargs.length := by omega
        show (cargs.toArray ++ Array.replicate (fn.ntmps - cargs.toArray.size) undef).getD t undef = _
        rw [Array.getD_eq_getD_getElem?, Array.getElem?_append_left (by simpa using this)]
        simp
      rw [h2]; exact h1
    · have : args.getD t .any = .any := by simp [List.getD, Nat.le_of_not_lt ht]
      rw [this]; trivial
  refine calls_of_wp_defers hf hb (wp_mono (SemC.weak h0 (wp_sound hm c x hc _ _ _ _ h) g w act hgood) ?_)
  rintro ex a' w1 ⟨x', g', e', o', n', hx, hg1, hs1, hq⟩
  have fin : ∀ w', Drawn w1 w' → FinP gl N rs Q e' o' n' → ∃ v, (results fn a'.tmps).run P w' = .ok v w' ∧ ∃ u G' r, Ending.returned v = .returned u ∧ Stp ⟨fun _ => none, fun _ => none, G⟩ w [] ⟨fun _ => none, fun _ => none, G'⟩ w' [] ∧
      (∀ b, w'.heap.size ≤ b → G' b = 0) ∧ nf r ∧ Q r ∧ (R ⟨fun _ => none, fun _ => none, G'⟩ w' r).v u := by
    intro w' hd
    have hg' := hg1.drawn hd
    have hs' := hs1.trans (hd.stp g' o')
    intro hfin
    obtain ⟨e2, o2, n2, hle, hres⟩ := hfin.h
    obtain ⟨g2, hg2, hs2⟩ := hle P g' w' a' hg'
    obtain ⟨as, us, h1, h2, r, hnr, hqr, h3⟩ := res_ok hg2 fn.results.toList rs hr _ hres
    have hs := hs'.trans hs2
    have hrun : (results fn a'.tmps).run P w' = .ok (if hs : us.toArray.size = 1 then us.toArray[0] else .tuple us.toArray) w' := by
      have e1 : results fn a'.tmps = (do
          let vs ← fn.results.mapM (resV a'.tmps)
          pure (if h : vs.size = 1 then vs[0] else .tuple vs)) := rfl
      rw [e1, Array.mapM_eq_mapM_toList]
      simp only [Sem.run_bind, Sem.run_map]
      rw [h1]
      simp only [Result.andThen_ok, Sem.run_pure]
    refine ⟨_, hrun, _, g2.G, r, rfl, ⟨hs.size, fun b hb _ => hs.keep b hb (fun ⟨k, x, h5, _⟩ => by simp [lookO] at h5), fun b ⟨k, x, h5, _⟩ => by simp [lookO] at h5, hs.pub, hs.le, hs.cap, fun b j hb _ => cell_old (hs.keep b hb (fun ⟨k, x, h5, _⟩ => by simp [lookO] at h5)).1, fun b j ⟨k, x, h5, _⟩ => by simp [lookO] at h5, fun _ _ => rfl, fun _ _ _ _ h => (by cases h), hs.os, hs.out⟩, hg2.gz, hnr, hqr, ?_⟩
    have hv := h3.v g2 w' _ (pack_ok (us := us.toArray) (by simpa using h2))
    rwa [← R_nf (g' := ⟨fun _ => none, fun _ => none, g2.G⟩) (g := g2) rfl r hnr] at hv
  cases x' with
  | normal =>
    cases ex <;> simp only [ExR] at hx
    exact leaves_nop _ _ hg1.def_ (fun w2 hd => fin w2 hd hq)
  | ret =>
    cases ex <;> simp only [ExR] at hx
    exact leaves_nop _ _ hg1.def_ (fun w2 hd => fin w2 hd hq)
  | exit i => exact hq.elim

theorem pure_fnQ (hm : P.follows .mixedOrders = true) {f : FuncId} {fn : Func} {x : IC} {rs : List RV} {args : List AV} {Q : AV → Prop} (hf : P.funcs[f]? = some fn) (hN : fn.ntmps = N)
    (hcf : compF P N fn = some (x, rs)) (hlen : args.length ≤ N) (hgl : ∀ i, nf (gl i)) (ha : ∀ a ∈ args, nf a)
    (h : wp P gl N x (fun ex e o n => match ex with
      | .exit _ => False
      | _ => FinP gl N rs Q e o n) (enumA 0 args) [] 0) : PureQ P gl f args Q :=
  pure_fnQg hm hf hN hcf hlen hgl ha [] (LeSt.refl gl N _ _ _) h

theorem resA_ex {e : Env} {o : Objs} : ∀ (rs : List RV) {K : List AV → Prop}, resA e o rs K → ∃ l, K l ∧ ∀ K' : List AV → Prop, K' l → resA e o rs K'
  | [], K, h => ⟨[], h, fun _ hk => hk⟩
  | .t t :: r, K, h => by
    simp only [resA] at h
    obtain ⟨l, h1, h2⟩ := resA_ex r h
    exact ⟨_, h1, fun K' hk => by simp only [resA]; exact h2 _ hk⟩
  | .c a ag n :: r, K, h => by
    simp only [resA] at h
    split at h
    · rename_i q p hq
      split at h
      · rename_i x hx
        simp only [chk_iff] at h
        obtain ⟨l, h1, h2⟩ := resA_ex r h.2.2
        refine ⟨_, h1, fun K' hk => ?_⟩
        simp only [resA, hq, hx, chk_iff]
        exact ⟨h.1, h.2.1, h2 _ hk⟩
      · exact h.elim
    · exact h.elim

/-- The contract of a function that only computes, of whose result something is known. -/
def PureX (P : Program) (gl : Nat → AV) (f : FuncId) (args : List AV) (Q : AV → Prop) : Prop := ∃ r, nf r ∧ Q r ∧ Pure P gl f args r

theorem pure_fnX (hm : P.follows .mixedOrders = true) {f : FuncId} {fn : Func} {x : IC} {rs : List RV} {args : List AV} {Q : AV → Prop} (hf : P.funcs[f]? = some fn) (hN : fn.ntmps = N)
    (hcf : compF P N fn = some (x, rs)) (hlen : args.length ≤ N) (hgl : ∀ i, nf (gl i)) (ha : ∀ a ∈ args, nf a)
    (h : wp P gl N x (fun ex e o n => match ex with
      | .exit _ => False
      | _ => FinP gl N rs Q e o n) (enumA 0 args) [] 0) : PureX P gl f args Q := by
  obtain ⟨ex, e', o', n', h1, h2⟩ := wp_ex x h
  have key : FinP gl N rs Q e' o' n' → (∀ r, FinP gl N rs (fun x => x = r) e' o' n' → wp P gl N x (fun ex e o n => match ex with
      | .exit _ => False
      | _ => FinP gl N rs (fun x => x = r) e o n) (enumA 0 args) [] 0) → PureX P gl f args Q := by
    intro hfin hw
    obtain ⟨e2, o2, n2, hle, hres⟩ := hfin.h
    obtain ⟨l, ⟨r, h3, h4, h5⟩, h6⟩ := resA_ex rs hres
    exact ⟨r, h3, h4, pure_ofQ h3 (pure_fnQ hm hf hN hcf hlen hgl ha (hw r ⟨e2, o2, n2, hle, h6 _ ⟨r, h3, rfl, h5⟩⟩))⟩
  cases ex with
  | normal => exact key h1 (fun r hr => h2 _ hr)
  | ret => exact key h1 (fun r hr => h2 _ hr)
  | exit i => exact h1.elim

theorem call_x2 {b : Bool} {f : FuncId} {args args' : List AV} {Q : AV → Prop} {o : Objs} {n : Nat} {K : AV → Objs → Nat → Prop} (h : PureX P gl f args' Q) (hl : LeL args args') (hK : ∀ r, nf r → Q r → K r o n) : CallB b P gl f args o n K := by
  obtain ⟨r, h1, h2, h3⟩ := h
  exact call_pure h3 hl (hK r h1 h2)

theorem PureX.mono {f : FuncId} {args : List AV} {Q Q' : AV → Prop} (h : PureX P gl f args Q) (hq : ∀ r, nf r → Q r → Q' r) : PureX P gl f args Q' := by
  obtain ⟨r, h1, h2, h3⟩ := h
  exact ⟨r, h1, hq r h1 h2, h3⟩

def renObj (τ : Nat → Nat) : AObj → AObj
  | .box a => .box (ren τ a)
  | .room n e ty => .room n e ty
  | .soon => .soon
  | .dict k f => .dict k (fun n => (f n).map (ren τ))

def renE (τ : Nat → Nat) : Env → Env
  | [] => []
  | (t, a) :: r => (t, ren τ a) :: renE τ r

def renO (τ : Nat → Nat) : Objs → Objs
  | [] => []
  | (k, x) :: r => (τ k, renObj τ x) :: renO τ r

theorem lookE_ren (τ : Nat → Nat) (t : Nat) : ∀ e : Env, lookE t (renE τ e) = ren τ (lookE t e)
  | [] => rfl
  | (k, a) :: r => by
    simp only [renE, lookE_cons, lookE_ren τ t r]
    by_cases h : k = t <;> simp [h]

theorem lookO_ren {τ : Nat → Nat} (h : ∀ k, τ (τ k) = k) (k : Nat) : ∀ o : Objs, lookO k (renO τ o) = (lookO (τ k) o).map (renObj τ)
  | [] => rfl
  | (q, x) :: r => by
    simp only [renO, lookO_cons, lookO_ren h k r]
    by_cases e : τ q = k
    · have e2 : q = τ k := by rw [← e, h]
      rw [if_pos e, if_pos e2]; rfl
    · have e2 : ¬ q = τ k := fun e3 => e (by rw [e3, h])
      rw [if_neg e, if_neg e2]

/-- Two names change places. -/
def swp (i j : Nat) (k : Nat) : Nat := match Nat.beq k i with
  | true => j
  | false => match Nat.beq k j with
    | true => i
    | false => k

theorem swp_eq (i j k : Nat) : swp i j k = if k = i then j else if k = j then i else k := by
  unfold swp
  by_cases h : k = i
  · subst h; simp
  · rw [beq_of_ne h, if_neg h]
    by_cases h2 : k = j
    · subst h2; simp
    · rw [beq_of_ne h2, if_neg h2]

theorem swp_swp (i j k : Nat) : swp i j (swp i j k) = k := by
  rw [swp_eq i j k, swp_eq]
  by_cases h : k = i
  · subst h
    rw [if_pos rfl]
    by_cases h2 : j = k
    · rw [if_pos h2, h2]
    · rw [if_neg h2, if_pos rfl]
  · rw [if_neg h]
    by_cases h2 : k = j
    · rw [if_pos h2, if_pos rfl, h2]
    · rw [if_neg h2, if_neg h, if_neg h2]

theorem le_swap {e : Env} {o : Objs} {n : Nat} (i j : Nat) (hgl : ∀ i, nf (gl i)) (hi : Nat.blt i n = true := by rfl) (hj : Nat.blt j n = true := by rfl) (hiL : Nat.blt i LENT = true := by rfl) (hjL : Nat.blt j LENT = true := by rfl) :
    LeSt gl N e o n (renE (swp i j) e) (renO (swp i j) o) n := by
  intro P g w a h
  have hi : i < n := Nat.le_of_ble_eq_true hi
  have hj : j < n := Nat.le_of_ble_eq_true hj
  have hiL : i < LENT := Nat.le_of_ble_eq_true hiL
  have hjL : j < LENT := Nat.le_of_ble_eq_true hjL
  have hτ := swp_swp i j
  have hn : ∀ k, swp i j k < n ∨ LENT ≤ swp i j k → k < n ∨ LENT ≤ k := fun k hk => by
    rw [swp_eq] at hk
    by_cases h1 : k = i
    · subst h1; exact .inl hi
    · rw [if_neg h1] at hk
      by_cases h2 : k = j
      · subst h2; exact .inl hj
      · rwa [if_neg h2] at hk
  have hn2 : ∀ k, swp i j k < n → k < n := fun k hk => by
    rw [swp_eq] at hk
    by_cases h1 : k = i
    · subst h1; exact hi
    · rw [if_neg h1] at hk
      by_cases h2 : k = j
      · subst h2; exact hj
      · rwa [if_neg h2] at hk
  have hL : ∀ k, LENT ≤ k → swp i j k = k := fun k hk => by
    rw [swp_eq, if_neg (by omega), if_neg (by omega)]
  have hL2 : ∀ k, k < LENT → swp i j k < LENT := fun k hk => by
    rw [swp_eq]
    by_cases h1 : k = i
    · rw [if_pos h1]; exact hjL
    · rw [if_neg h1]
      by_cases h2 : k = j
      · rw [if_pos h2]; exact hiL
      · rwa [if_neg h2]
  let g' : Gh := ⟨fun k => g.m (swp i j k), fun k => g.r (swp i j k), g.G⟩
  have hR : ∀ a, R g' w (ren (swp i j) a) = R g w a := fun a => by
    show R ⟨fun k => g.m (swp i j k), fun k => g.r (swp i j k), g.G⟩ w (ren (swp i j) a) = _
    rw [R_ren, ren_ren hτ]
  have hlook : ∀ k x, lookO k (renO (swp i j) o) = some x → ∃ y, lookO (swp i j k) o = some y ∧ x = renObj (swp i j) y := fun k x hk => by
    rw [lookO_ren hτ] at hk
    cases hl : lookO (swp i j k) o with
    | none => rw [hl] at hk; cases hk
    | some y => rw [hl] at hk; injection hk with hk; exact ⟨y, rfl, hk.symm⟩
  have hblk : ∀ k y, blkOf g' k (renObj (swp i j) y) = blkOf g (swp i j k) y := fun k y => by cases y <;> rfl
  refine ⟨g', ⟨fun k x hk => ?_, fun k x k' x' b h1 h2 h3 h4 => ?_, fun k x hk => ?_, fun k b hk => hn k (h.mlt _ _ hk), fun k b hk => hn k (h.rlt _ _ hk), fun t => ?_, h.sz, h.def_, h.gz, fun i => ?_⟩,
    ⟨Nat.le_refl _, fun _ _ _ => ⟨rfl, rfl⟩, fun b ⟨k, x, h1, h2⟩ => ?_, fun _ _ _ => rfl, fun _ => Nat.le_refl _, fun _ cs _ hb => ⟨cs, hb, rfl⟩, fun _ _ _ _ => rfl, fun b q ⟨k, x, h1, h2⟩ => ?_, fun k hk => by show g.m _ = _; rw [hL k hk], fun k ob N hk hr => ⟨ob, N, by show g.r _ = _; rw [hL k (Nat.le_of_eq hk.symm)]; exact hr, Nat.le_refl _, fun _ => rfl⟩, rfl, rfl⟩⟩
  · obtain ⟨y, h1, rfl⟩ := hlook k x hk
    have h2 := h.objs _ _ h1
    cases y with
    | box v =>
      obtain ⟨a0, a1⟩ | ⟨q, cs, ty, a1, a2, a3, a4, a5, a6⟩ := h2
      · exact .inl ⟨a0, by rw [size_ren]; exact a1⟩
      · exact .inr ⟨q, cs, ty, a1, a2, a3, by rw [size_ren]; exact a4, by rw [hR]; exact a5, fun hk => a6 (hL2 k hk)⟩
    | room m e ty =>
      obtain ⟨ob, a1, ⟨a2, a3⟩, a4⟩ := h2
      exact ⟨ob, a1, ⟨a2, fun h5 => a3 (by rw [hL k (Nat.le_of_lt h5)]; exact h5)⟩, a4⟩
    | soon => exact h2
    | dict kd f =>
      obtain ⟨b, es, cl, h3, h4, h5, h6, h7, h8⟩ := h2
      refine ⟨b, es, cl, h3, h4, h5, ?_, h7, fun x => ?_⟩
      · rcases Nat.lt_or_ge k LENT with h9 | h9
        · exact h9
        · rw [hL k h9] at h6; exact h6
      · have := h8 x
        show (match (f x).map (ren (swp i j)) with
          | none => lkp kd es.toList x = none
          | some v => ∃ u, lkp kd es.toList x = some u ∧ (R g' w v).v u)
        cases hf : f x with
        | none => rw [hf] at this; exact this
        | some v =>
          rw [hf] at this
          obtain ⟨u, h9, h10⟩ := this
          exact ⟨u, h9, by rw [hR]; exact h10⟩
  · obtain ⟨y, a1, rfl⟩ := hlook k x h1
    obtain ⟨y', a2, rfl⟩ := hlook k' x' h2
    rw [hblk] at h3 h4
    have := h.inj _ _ _ _ b a1 a2 h3 h4
    rw [← hτ k, this, hτ]
  · obtain ⟨y, h1, rfl⟩ := hlook k x hk
    exact hn k (h.blt _ _ h1)
  · show (R g' w (lookE t (renE (swp i j) e))).v _
    rw [lookE_ren, hR]; exact h.env t
  · have := h.gl i
    rw [R_nf (g' := g') (g := g) rfl _ (hgl i)]; exact this
  · obtain ⟨y, a1, rfl⟩ := hlook k x h1
    exact .inl ⟨_, y, a1, by rw [← hblk]; exact h2⟩
  · obtain ⟨y, a1, rfl⟩ := hlook k x h1
    refine .inl ⟨_, y, a1, ?_⟩
    cases y with
    | box v =>
      obtain ⟨off, h3, h4⟩ := h2
      refine ⟨off, h3, fun hk => ?_⟩
      have h5 : LENT ≤ k := by
        rcases Nat.lt_or_ge k LENT with h6 | h6
        · have := hL2 k h6; omega
        · exact h6
      have := h4 h5
      rwa [size_ren] at this
    | room m e ty => exact h2
    | soon => exact h2.elim
    | dict kd f => exact h2

/-! A row of one's own is given away: nobody writes into it any more. -/
theorem good_freeze {g : Gh} {w : World} {E : Nat → AV} {o : Objs} {n : Nat} {a : Act} (h : Good P gl N g w E o n a) {k m sz : Nat} {f : Nat → AV} (ho : lookO k o = some (.box (.arr m sz f))) (hk : k < LENT) :
    ∃ g', Good P gl N g' w E (dropO k o) n a ∧ Stp g w o g' w (dropO k o) ∧ Ev g w g' w ∧ (∀ ty u, (R g w (.sli k 0 m sz ty)).v u → (R g' w (.lst none m sz f)).v u) ∧ ∀ q, g'.m q = g.m q := by
  obtain ⟨d1, d2⟩ := good_drop h k
  have hl : ∀ q x, lookO q (dropO k o) = some x → q ≠ k ∧ lookO q o = some x := fun q x hq => by
    rw [lookO_dropO] at hq
    by_cases e : q = k
    · rw [if_pos e] at hq; cases hq
    · rw [if_neg e] at hq; exact ⟨e, hq⟩
  obtain ⟨h0, h1⟩ | ⟨b, cs, ty, h1, h2, h3, h4, h5, h6⟩ := h.objs k _ ho
  · refine ⟨g, d1, d2, Ev.refl g w, fun ty u hu => ?_, fun _ => rfl⟩
    obtain ⟨⟨rfl, rfl⟩ | ⟨b, c, hb, _⟩, _⟩ := hu
    · exact ⟨⟨none, 0, rfl, Nat.le_refl _, trivial, ⟨rfl, rfl⟩⟩, csl (by decide)⟩
    · rw [h0] at hb; cases hb
  · have h6 := h6 hk
    obtain ⟨b, off⟩ := b
    simp only at h1 h2 h3 h4 h5 h6
    subst h6
    let g' : Gh := { g with G := fun q => if q = b then m * sz else g.G q }
    have hG : ∀ q, q ≠ b → g'.G q = g.G q := fun q hq => if_neg hq
    have hGb : g'.G b = m * sz := if_pos rfl
    have hev : Ev g w g' w := ⟨fun _ _ h => h, fun t ob N ht => ⟨ob, N, ht, Nat.le_refl _, fun _ => rfl⟩, fun _ _ _ => rfl, fun q => by
      by_cases e : q = b
      · subst e; rw [h2]; exact Nat.zero_le _
      · rw [hG q e]; exact Nat.le_refl _, fun _ cs _ hb => ⟨cs, hb, rfl⟩⟩
    have hown : Own g o b := ⟨k, _, ho, by simp [blkOf, h1]⟩
    refine ⟨g', ⟨fun q x hq => ?_, fun q x q' x' c a1 a2 a3 a4 => ?_, d1.blt, h.mlt, h.rlt, fun t => (R_ev hev _).v _ (h.env t), h.sz, h.def_, fun q hq => ?_, fun i => (R_ev hev _).v _ (h.gl i)⟩,
      ⟨Nat.le_refl _, fun q hq hno => ⟨rfl, hG q (fun e => hno (e ▸ hown))⟩, fun q ⟨x, y, a1, a2⟩ => .inl ⟨x, y, (hl x y a1).2, by rw [← a2]; exact (blk_same rfl rfl).symm⟩, fun _ _ _ => rfl, hev.le, hev.cap, fun _ _ _ _ => rfl, fun q j ⟨x, y, a1, a2⟩ => .inl ⟨x, y, (hl x y a1).2, a2⟩, fun _ _ => rfl, fun _ ob N _ h => ⟨ob, N, h, Nat.le_refl _, fun _ => rfl⟩, rfl, rfl⟩, hev, fun ty u hu => ?_, fun _ => rfl⟩
    · obtain ⟨e1, e2⟩ := hl q x hq
      refine obj_ev hev (h.objs q x e2) rfl (fun _ hp => hp) (fun c hc => ⟨hG c ?_, rfl⟩)
      rintro rfl
      exact e1 (h.inj q x k _ _ e2 ho hc (by simp [blkOf, h1]))
    · obtain ⟨e1, e2⟩ := hl q x a1
      obtain ⟨e3, e4⟩ := hl q' x' a2
      exact h.inj q x q' x' c e2 e4 (by rw [← a3]; exact (blk_same rfl rfl).symm) (by rw [← a4]; exact (blk_same rfl rfl).symm)
    · by_cases e : q = b
      · subst e
        have := lt_of_cel h3
        omega
      · rw [hG q e]; exact h.gz q hq
    · obtain ⟨⟨rfl, rfl⟩ | ⟨c0, c, hb, hmc, rfl, hcM, _⟩, _⟩ := hu
      · exact ⟨⟨none, 0, rfl, Nat.le_refl _, trivial, ⟨rfl, rfl⟩⟩, csl (by decide)⟩
      · rw [h1] at hb
        injection hb with hb
        subst hb
        refine ⟨⟨some ⟨b, 0, none⟩, c, by simp, hmc, trivial, ?_⟩, csl (by omega)⟩
        refine row_of h3 (Nat.le_of_eq hGb.symm) (fun i hi => ?_)
        obtain ⟨b1, b2⟩ := h5 i hi
        rw [look_cel h3, Nat.zero_add] at b2
        exact ⟨b1, (R_ev hev _).s _ _ _ _ (fun _ _ => rfl) b2⟩

theorem le_freeze {e : Env} {o : Objs} {n : Nat} (t k : Nat) {m sz : Nat} {ty : TypeId} {f : Nat → AV} (ht : lookE t e = .sli k 0 m sz ty) (ho : lookO k o = some (.box (.arr m sz f))) (hk : Nat.blt k LENT = true := by rfl) :
    LeSt gl N e o n ((t, .lst none m sz f) :: e) (dropO k o) n := by
  intro P g w a h
  obtain ⟨g', h1, h2, h3, h4, _⟩ := good_freeze h ho (Nat.le_of_ble_eq_true hk)
  refine ⟨g', { h1 with env := fun q => ?_ }, h2⟩
  show (R g' w (lookE q ((t, .lst none m sz f) :: e))).v _
  rw [lookE_cons]
  by_cases hq : t = q
  · subst hq
    rw [if_pos rfl]
    have hv := h.env t
    rw [show EnvF e t = .sli k 0 m sz ty from ht] at hv
    exact h4 ty _ hv
  · rw [if_neg hq]; exact h1.env q

/-- A nil slice that begins to grow as a row of one's own. -/
theorem le_nilv {e : Env} {o : Objs} {n : Nat} (t sz : Nat) (ty : TypeId) (f : Nat → AV) (ht : lookE t e = .val (.slice none 0 0)) (hL : Nat.blt n LENT = true := by rfl) :
    LeSt gl N e o n ((t, .sli n 0 0 sz ty) :: e) ((n, .box (.arr 0 sz f)) :: o) (n + 1) := by
  intro P g w a h
  have hL : n < LENT := Nat.le_of_ble_eq_true hL
  have hfresh : g.m n = none := by
    cases hgm : g.m n with
    | none => rfl
    | some p => exact absurd (h.mlt n p hgm) (by omega)
  obtain ⟨k1, k2⟩ := good_new h (w' := w) (g' := g) (x := .box (.arr 0 sz f)) (Ev.refl g w) (Nat.le_refl _) (fun _ _ => rfl) (fun _ _ => rfl) (fun _ _ => rfl) (fun _ _ => rfl) h.gz
    (fun b hb => by simp [blkOf, hfresh] at hb) (.inl ⟨hfresh, by simp [size]⟩) rfl rfl hL
  refine ⟨g, { k1 with env := fun q => ?_ }, k2⟩
  show (R g w (lookE q ((t, .sli n 0 0 sz ty) :: e))).v _
  rw [lookE_cons]
  by_cases hq : t = q
  · subst hq
    rw [if_pos rfl]
    have hv := h.env t
    rw [show EnvF e t = .val (.slice none 0 0) from ht] at hv
    rw [val_v hv]
    exact ⟨.inl ⟨rfl, rfl⟩, csl (by decide)⟩
  · rw [if_neg hq]; exact k1.env q

/-- Arguments of which a row of one's own is given away for good. -/
def LeF (k m sz : Nat) (f : Nat → AV) : List AV → List AV → Prop
  | [], [] => True
  | a :: r, b :: s => (Le a b ∨ ((∃ ty, a = .sli k 0 m sz ty) ∧ b = .lst none m sz f)) ∧ LeF k m sz f r s
  | _, _ => False

theorem RL_freeze {g g' : Gh} {w : World} {k m sz : Nat} {f : Nat → AV} (hev : Ev g w g' w) (h4 : ∀ ty u, (R g w (.sli k 0 m sz ty)).v u → (R g' w (.lst none m sz f)).v u) : ∀ {l l' : List AV} {vs : List Value}, LeF k m sz f l l' → RL g w l vs → RL g' w l' vs
  | [], [], [], _, _ => trivial
  | a :: r, b :: s, u :: t, h, h' => by
    refine ⟨?_, RL_freeze hev h4 h.2 h'.2⟩
    rcases h.1 with h1 | ⟨⟨ty, rfl⟩, rfl⟩
    · exact h1.v g' w u ((R_ev hev a).v u h'.1)
    · exact h4 ty u h'.1
  | [], _ :: _, _, h, _ => h.elim
  | _ :: _, [], _, h, _ => h.elim
  | _ :: _, _ :: _, [], _, h => h.elim
  | [], [], _ :: _, _, h => h.elim

theorem call_freeze {f : FuncId} {args args' : List AV} {o : Objs} {n : Nat} {K : AV → Objs → Nat → Prop} (k : Nat) {m sz : Nat} {fe : Nat → AV} (ho : lookO k o = some (.box (.arr m sz fe))) (hl : LeF k m sz fe args args')
    (h : CallB true P gl f args' (dropO k o) n K) (hk : Nat.blt k LENT = true := by rfl) : CallB true P gl f args o n K := by
  obtain ⟨v, o2, n2, hK, hx⟩ := h.x
  refine ⟨⟨v, o2, n2, hK, fun hf => hx.1 (fun q h1 h2 => by
    rw [lookO_dropO]
    by_cases e1 : q = k
    · rw [if_pos e1]
    · rw [if_neg e1]; exact hf q h1 h2), fun N g w E a cargs hg hr => ?_⟩, fun hb => by cases hb⟩
  obtain ⟨g', h1, h2, h3, h4, h5⟩ := good_freeze hg ho (Nat.le_of_ble_eq_true hk)
  refine (hx.2 N g' w E a cargs h1 (RL_freeze h3 h4 hl hr)).mono ?_
  rintro x w' ⟨u, g2, a1, a2, a3, a4, a5⟩
  exact ⟨u, g2, a1, a2, a3, h2.trans a4, h3.trans a5.ev, fun k hk => (a5.m k hk).trans (h5 k)⟩

end

theorem Le.ren {τ : Nat → Nat} {a : AV} (h : nf a) : Le (ren τ a) a := Le.of_eq (ren_nf τ a h)

theorem LeA.ren {τ : Nat → Nat} {a : AV} (h : nf a) : LeA (ren τ a) a := LeA.of_eq (ren_nf τ a h)

end Ar
