/- A function's contract out of the walk over its body; how a state may be weakened. No condition. -/
import Derived.Test.YtjkmmcbfcglkdaaArM
namespace Ar
open Go
set_option linter.unusedVariables false
set_option autoImplicit false

inductive RV where
  | t (i : Nat)
  | c (i : Nat) (ag : Bool) (n : Nat)

def compR (P : Program) : List ResultVar → Option (List RV)
  | [] => some []
  | .tmp t :: r => match compR P r with
    | some l => some (.t t :: l)
    | none => none
  | .cell a t :: r => match P.underlying t, P.info? t, compR P r with
    | some d, some i, some l => some (.c a (aggD d) i.size :: l)
    | _, _, _ => none

def resA (e : Env) (o : Objs) : List RV → (List AV → Prop) → Prop
  | [], K => K []
  | .t t :: r, K => resA e o r fun l => K (lookE t e :: l)
  | .c a ag n :: r, K => match lookE a e with
    | .ptr b p => match lookO b o with
      | some (.box x) => chk (okNav p x) (chk (fits ag n (nav p x)) (resA e o r fun l => K (nav p x :: l)))
      | _ => False
    | _ => False

def consL : List AV → AV
  | [] => .nil
  | a :: r => .cons a (consL r)

def packA : List AV → AV
  | [a] => a
  | l => .tup (consL l)

/-- What a return gives, at its weakest. -/
def RetIs (l : List AV) (r : AV) : Prop := match l with
  | [a] => force a fun a => Le a r
  | l => forceL l fun l => Le (.tup (consL l)) r

theorem RetIs.le {l : List AV} {r : AV} (h : RetIs l r) : Le (packA l) r := by
  unfold RetIs at h
  split at h
  · exact (force_iff (K := fun a => Le a r)).1 h
  · rename_i hne
    have := (forceL_iff (K := fun l => Le (.tup (consL l)) r)).1 h
    match l, hne with
    | [], _ => exact this
    | [a], hne => exact absurd rfl (hne a)
    | _ :: _ :: _, _ => exact this

def enumA : Nat → List AV → Env
  | _, [] => []
  | k, a :: r => (k, a) :: enumA (k + 1) r

theorem lookE_enum : ∀ (l : List AV) (k t : Nat), lookE t (enumA k l) = if k ≤ t then l.getD (t - k) .any else .any
  | [], k, t => by simp [enumA, lookE]
  | a :: r, k, t => by
    simp only [enumA, lookE_cons, lookE_enum r (k + 1) t]
    by_cases h : k = t
    · subst h; simp
    · rw [if_neg h]
      by_cases h2 : k ≤ t
      · have h3 : k + 1 ≤ t := by omega
        rw [if_pos h2, if_pos h3]
        obtain ⟨m, rfl⟩ : ∃ m, t = k + 1 + m := ⟨t - (k + 1), by omega⟩
        rw [show k + 1 + m - (k + 1) = m by omega, show k + 1 + m - k = m + 1 by omega]
        simp
      · have h3 : ¬ k + 1 ≤ t := by omega
        rw [if_neg h2, if_neg h3]

def resV (tmps : Array Value) : ResultVar → Sem Value
  | .tmp t => pure (tmps.getD t undef)
  | .cell b t => do loadVar t (← asAddr (tmps.getD b undef))

section
variable {P : Program} {gl : Nat → AV} {N : Nat}

theorem RL_len {g : Gh} {w : World} : ∀ {l : List AV} {vs : List Value}, RL g w l vs → vs.length = l.length
  | [], [], _ => rfl
  | _ :: _, _ :: _, h => by simp [RL_len h.2]
  | [], _ :: _, h => h.elim
  | _ :: _, [], h => h.elim

theorem RL_get {g : Gh} {w : World} : ∀ {l : List AV} {vs : List Value}, RL g w l vs → ∀ t, t < l.length → (R g w (l.getD t .any)).v (vs.getD t undef)
  | [], [], _, t, ht => by simp at ht
  | a :: r, u :: s, h, 0, _ => h.1
  | a :: r, u :: s, h, t + 1, ht => by simpa using RL_get h.2 t (by simpa using ht)
  | [], _ :: _, h, _, _ => h.elim
  | _ :: _, [], h, _, _ => h.elim

theorem res_ok {g : Gh} {w : World} {e : Env} {o : Objs} {n : Nat} {a : Act} (h : Good gl N g w (EnvF e) o n a) : ∀ (l : List ResultVar) (rs : List RV), compR P l = some rs → ∀ (K : List AV → Prop), resA e o rs K →
    ∃ (as : List AV) (us : List Value), (l.mapM (resV a.tmps)).run P w = .ok us w ∧ RL g w as us ∧ K as
  | [], rs, hc, K, hk => by simp only [compR] at hc; injection hc with hc; subst hc; exact ⟨[], [], rfl, trivial, hk⟩
  | .tmp t :: r, rs, hc, K, hk => by
    simp only [compR] at hc
    split at hc
    · rename_i l hl
      injection hc with hc
      subst hc
      obtain ⟨as, us, h1, h2, h3⟩ := res_ok h r l hl _ hk
      refine ⟨lookE t e :: as, a.tmps.getD t undef :: us, ?_, ⟨h.env t, h2⟩, h3⟩
      rw [List.mapM_cons]
      simp only [resV, Sem.run_bind, Sem.run_pure, Result.andThen_ok, h1]
    · cases hc
  | .cell b t :: r, rs, hc, K, hk => by
    simp only [compR] at hc
    split at hc
    · rename_i d i l hd hi hl
      injection hc with hc
      subst hc
      simp only [resA] at hk
      split at hk
      · rename_i q p hq
        split at hk
        · rename_i x hx
          simp only [chk_iff] at hk
          obtain ⟨k1, k2, k3⟩ := hk
          obtain ⟨as, us, h1, h2, h3⟩ := res_ok h r l hl _ k3
          have hv := h.env b
          rw [show EnvF e b = .ptr q p from hq] at hv
          obtain ⟨bb, cs, ty, b1, b2, b3, b4, b5, b6, b7, b8⟩ := box_seg h hv hx k1
          obtain ⟨cv, c1, c2⟩ := run_loadVar_seg (P := P) hd hi k2 b6
          refine ⟨nav p x :: as, cv :: us, ?_, ⟨c2, h2⟩, h3⟩
          have hstep : (resV a.tmps (.cell b t)).run P w = .ok cv w := by
            show ((do loadVar t (← asAddr (a.tmps.getD b undef)) : Sem Value)).run P w = .ok cv w
            rw [b4]
            simp only [asAddr, Sem.run_bind, Sem.run_pure, Result.andThen_ok, c1]
          rw [List.mapM_cons, Sem.run_bind, hstep]
          simp only [Result.andThen_ok, Sem.run_bind, h1, Sem.run_pure]
        · exact hk.elim
      · exact hk.elim
    · cases hc

theorem RL_l {g : Gh} {w : World} : ∀ {as : List AV} {us : List Value}, RL g w as us → (R g w (consL as)).l us
  | [], [], _ => rfl
  | _ :: _, _ :: _, h => ⟨h.1, RL_l h.2⟩
  | [], _ :: _, h => h.elim
  | _ :: _, [], h => h.elim

theorem pack_ok {g : Gh} {w : World} {as : List AV} {us : Array Value} (h : RL g w as us.toList) : (R g w (packA as)).v (if hs : us.size = 1 then us[0] else .tuple us) := by
  have hl := RL_len h
  by_cases hs : us.size = 1
  · rw [dif_pos hs]
    have h1 : as.length = 1 := by rw [← hl]; simpa using hs
    obtain ⟨x, rfl⟩ := List.length_eq_one_iff.1 h1
    obtain ⟨y, hy⟩ := List.length_eq_one_iff.1 (show us.toList.length = 1 by simpa using hs)
    rw [hy] at h
    have : us[0] = y := by
      have : us.toList[0]'(by simp [hs]) = y := by simp [hy]
      simpa using this
    rw [this]
    exact h.1
  · rw [dif_neg hs]
    have h1 : as.length ≠ 1 := by rw [← hl]; simpa using hs
    have hp : packA as = .tup (consL as) := by
      match as, h1 with
      | [], _ => rfl
      | [_], h1 => simp at h1
      | _ :: _ :: _, _ => rfl
    rw [hp]
    exact ⟨us, rfl, RL_l h⟩

/-- A function that only computes: its contract out of the walk over its body. -/
theorem pure_intro (hm : P.follows .mixedOrders = true) {f : FuncId} {fn : Func} {c : Code} {x : IC} {rs : List RV} {args : List AV} {r : AV} (hf : P.funcs[f]? = some fn) (hb : fn.body = some c) (hN : fn.ntmps = N)
    (hc : comp P N c = some x) (hr : compR P fn.results.toList = some rs) (hlen : args.length ≤ N) (hgl : ∀ i, nf (gl i)) (ha : ∀ a ∈ args, nf a) (hnr : nf r)
    (h : wp P gl N x (fun ex e o n => match ex with
      | .exit _ => False
      | _ => resA e o rs fun l => RetIs l r) (enumA 0 args) [] 0) : Pure P gl f args r := by
  refine ⟨ha, hnr, hgl, fun G w cargs hz hglob hargs => ?_⟩
  have hcl := RL_len hargs
  let g : Gh := ⟨fun _ => none, fun _ => none, G⟩
  let act : Act := { tmps := cargs.toArray ++ Array.replicate (fn.ntmps - cargs.toArray.size) undef, defers := [] }
  have hsz : act.tmps.size = N := by
    show (cargs.toArray ++ Array.replicate (fn.ntmps - cargs.toArray.size) undef).size = N
    simp only [Array.size_append, List.size_toArray, Array.size_replicate, hcl, hN]
    omega
  have hgood : Good gl N g w (EnvF (enumA 0 args)) [] 0 act := by
    refine ⟨fun k x hk => by simp [lookO] at hk, fun k x k' x' b hk => by simp [lookO] at hk, fun k b hk => by simp [g] at hk, fun k b hk => by simp [g] at hk, fun t => ?_, hsz, rfl, hz, hglob⟩
    show (R g w (lookE t (enumA 0 args))).v (act.tmps.getD t undef)
    rw [lookE_enum]
    simp only [Nat.zero_le, if_true, Nat.sub_zero]
    by_cases ht : t < args.length
    · have h1 := RL_get hargs t ht
      have h2 : act.tmps.getD t undef = cargs.getD t undef := by
        have : t < cargs.length := by omega
        show (cargs.toArray ++ Array.replicate (fn.ntmps - cargs.toArray.size) undef).getD t undef = _
        rw [Array.getD_eq_getD_getElem?, Array.getElem?_append_left (by simpa using this)]
        simp
      rw [h2]; exact h1
    · have : args.getD t .any = .any := by simp [List.getD, Nat.le_of_not_lt ht]
      rw [this]; trivial
  refine calls_of_wp hf hb (wp_mono (wp_sound hm c x hc _ _ _ _ h g w act hgood) ?_)
  rintro ex a' w' ⟨x', g', e', o', n', hx, hg', hs', hq⟩
  have fin : resA e' o' rs (fun l => RetIs l r) → ∃ v, (results fn a'.tmps).run P w' = .ok v w' ∧ ∃ u G', Ending.returned v = .returned u ∧ Stp ⟨fun _ => none, fun _ => none, G⟩ w [] ⟨fun _ => none, fun _ => none, G'⟩ w' [] ∧
      (∀ b, w'.heap.size ≤ b → G' b = 0) ∧ (R ⟨fun _ => none, fun _ => none, G'⟩ w' r).v u := by
    intro hres
    obtain ⟨as, us, h1, h2, h3⟩ := res_ok hg' fn.results.toList rs hr _ hres
    have hrun : (results fn a'.tmps).run P w' = .ok (if hs : us.toArray.size = 1 then us.toArray[0] else .tuple us.toArray) w' := by
      have e1 : results fn a'.tmps = (do
          let vs ← fn.results.mapM (resV a'.tmps)
          pure (if h : vs.size = 1 then vs[0] else .tuple vs)) := rfl
      rw [e1, Array.mapM_eq_mapM_toList]
      simp only [Sem.run_bind, Sem.run_map]
      rw [h1]
      simp only [Result.andThen_ok, Sem.run_pure]
    refine ⟨_, hrun, _, g'.G, rfl, ⟨hs'.size, fun b hb _ => hs'.keep b hb (fun ⟨k, x, h5, _⟩ => by simp [lookO] at h5), fun b ⟨k, x, h5, _⟩ => by simp [lookO] at h5, hs'.pub, hs'.le, hs'.cap, hs'.os, hs'.out⟩, hg'.gz, ?_⟩
    have hv := h3.le.v g' w' _ (pack_ok (us := us.toArray) (by simpa using h2))
    rwa [← R_nf (g' := ⟨fun _ => none, fun _ => none, g'.G⟩) (g := g') rfl r hnr] at hv
  cases x' with
  | normal =>
    cases ex <;> simp only [ExR] at hx
    obtain ⟨v, hr, hp⟩ := fin hq
    exact ⟨hg'.def_, v, hr, hp⟩
  | ret =>
    cases ex <;> simp only [ExR] at hx
    obtain ⟨v, hr, hp⟩ := fin hq
    exact ⟨hg'.def_, v, hr, hp⟩
  | exit i => exact hq.elim

def compF (P : Program) (N : Nat) (fn : Func) : Option (IC × List RV) :=
  match fn.body with
  | some c => match comp P N c, compR P fn.results.toList with
    | some x, some rs => some (x, rs)
    | _, _ => none
  | none => none

theorem pure_fn (hm : P.follows .mixedOrders = true) {f : FuncId} {fn : Func} {x : IC} {rs : List RV} {args : List AV} {r : AV} (hf : P.funcs[f]? = some fn) (hN : fn.ntmps = N)
    (hc : compF P N fn = some (x, rs)) (hlen : args.length ≤ N) (hgl : ∀ i, nf (gl i)) (ha : ∀ a ∈ args, nf a) (hnr : nf r)
    (h : wp P gl N x (fun ex e o n => match ex with
      | .exit _ => False
      | _ => resA e o rs fun l => RetIs l r) (enumA 0 args) [] 0) : Pure P gl f args r := by
  unfold compF at hc
  split at hc
  · rename_i c hb
    split at hc
    · rename_i y s h1 h2
      injection hc with hc
      injection hc with h3 h4
      subst h3 h4
      exact pure_intro hm hf hb hN h1 h2 hlen hgl ha hnr h
    · cases hc
  · cases hc

/-! Weakening: fewer slots, fewer boxes, weaker readings. -/
def bnd (m : Nat) : AV → Prop
  | .ptr o _ => o < m
  | .sli o _ _ _ => o < m
  | .mp o => o < m
  | .elt _ _ f _ _ => ∀ i, bnd m (f i)
  | .lst tok _ _ f => (∀ t, tok = some t → t < m) ∧ ∀ i, bnd m (f i)
  | .arr _ _ f => ∀ i, bnd m (f i)
  | .st l => bnd m l
  | .cons a b => bnd m a ∧ bnd m b
  | .tup l => bnd m l
  | .clo _ a b => bnd m a ∧ bnd m b
  | .ifc _ a => bnd m a
  | _ => True

theorem bnd_nf {m : Nat} : ∀ a, nf a → bnd m a := by
  intro a
  induction a with
  | ptr o p => intro h; exact h.elim
  | sli o lo n e => intro h; exact h.elim
  | mp o => intro h; exact h.elim
  | elt n e f i p ih => intro h i; exact ih i (h i)
  | lst tok n e f ih => intro h; exact ⟨fun t ht => (by rw [h.1] at ht; cases ht), fun i => ih i (h.2 i)⟩
  | arr n e f ih => intro h i; exact ih i (h i)
  | st l ih => intro h; exact ih h
  | cons a b iha ihb => intro h; exact ⟨iha h.1, ihb h.2⟩
  | tup l ih => intro h; exact ih h
  | clo fn a b iha ihb => intro h; exact ⟨iha h.1, ihb h.2⟩
  | ifc t a ih => intro h; exact ih h
  | _ => intro _; trivial

def Gh.cut (g : Gh) (m : Nat) : Gh := ⟨fun k => if k < m then g.m k else none, fun k => if k < m then g.r k else none, g.G⟩

theorem R_cut {g : Gh} {w : World} {m : Nat} : ∀ a, bnd m a → R (g.cut m) w a = R g w a := by
  intro a
  induction a with
  | ptr o p => intro h; simp only [R, Gh.cut, if_pos (show o < m from h)]
  | sli o lo n e => intro h; simp only [R, Gh.cut, if_pos (show o < m from h)]
  | mp o => intro h; simp only [R, Gh.cut, if_pos (show o < m from h)]
  | elt n e f i p ih => intro h; simp only [R, fun i => ih i (h i)]; rfl
  | lst tok n e f ih =>
    intro h
    simp only [R, fun i => ih i (h.2 i)]
    cases tok with
    | none => rfl
    | some t => simp only [tokOk, Gh.cut, if_pos (h.1 t rfl)]
  | arr n e f ih => intro h; simp only [R, fun i => ih i (h i)]
  | st l ih => intro h; simp only [R, ih h]
  | cons a b iha ihb => intro h; simp only [R, iha h.1, ihb h.2]
  | tup l ih => intro h; simp only [R, ih h]
  | clo fn a b iha ihb => intro h; simp only [R, iha h.1, ihb h.2]
  | ifc t a ih => intro h; simp only [R, ih h]
  | _ => intro _; rfl

/-- Every slot that is named reads weaker. -/
def LeE (e : Env) (m : Nat) : Env → Prop
  | [] => True
  | (t, b) :: r => (Le (lookE t e) b ∧ bnd m b) ∧ LeE e m r

def LeO (o : Objs) (m : Nat) : Objs → Prop
  | [] => True
  | (k, .box b) :: r => (k < m ∧ (∃ a, lookO k o = some (.box a) ∧ LeA a b) ∧ bnd m b) ∧ LeO o m r
  | (k, .room q e ty) :: r => (k < m ∧ lookO k o = some (.room q e ty)) ∧ LeO o m r

theorem LeE_look {e : Env} {m : Nat} : ∀ {e' : Env}, LeE e m e' → ∀ t, Le (lookE t e) (lookE t e') ∧ bnd m (lookE t e')
  | [], _, t => ⟨Le.any _, trivial⟩
  | (k, b) :: r, h, t => by
    rw [lookE_cons]
    by_cases hk : k = t
    · subst hk; rw [if_pos rfl]; exact h.1
    · rw [if_neg hk]; exact LeE_look h.2 t

theorem LeO_look {o : Objs} {m : Nat} : ∀ {o' : Objs}, LeO o m o' → ∀ k x, lookO k o' = some x → k < m ∧ match x with
    | .box b => (∃ a, lookO k o = some (.box a) ∧ LeA a b) ∧ bnd m b
    | .room q e ty => lookO k o = some (.room q e ty)
  | [], _, k, x, h => by simp [lookO] at h
  | (q, .box b) :: r, h, k, x, hx => by
    rw [lookO_cons] at hx
    by_cases hk : q = k
    · subst hk; rw [if_pos rfl] at hx; injection hx with hx; subst hx; exact h.1
    · rw [if_neg hk] at hx; exact LeO_look h.2 k x hx
  | (q, .room a e ty) :: r, h, k, x, hx => by
    rw [lookO_cons] at hx
    by_cases hk : q = k
    · subst hk; rw [if_pos rfl] at hx; injection hx with hx; subst hx; exact h.1
    · rw [if_neg hk] at hx; exact LeO_look h.2 k x hx

theorem le_st {e e' : Env} {o o' : Objs} {n n' : Nat} (hn : n' ≤ n) (he : LeE e n' e') (ho : LeO o n' o') (hgl : ∀ i, nf (gl i)) : LeSt gl N e o n e' o' n' := by
  intro g w a h
  have hcutm : ∀ k, k < n' → (g.cut n').m k = g.m k := fun k hk => if_pos hk
  have hcutr : ∀ k, k < n' → (g.cut n').r k = g.r k := fun k hk => if_pos hk
  have hblk : ∀ k x, k < n' → blkOf (g.cut n') k x = blkOf g k x := fun k x hk => blk_same (hcutm k hk) (hcutr k hk)
  have hb' : ∀ k x, lookO k o' = some x → k < n' ∧ ∃ y, lookO k o = some y ∧ blkOf g k y = blkOf g k x := by
    intro k x hx
    obtain ⟨h1, h2⟩ := LeO_look ho k x hx
    cases x with
    | box b => obtain ⟨⟨a, h3, _⟩, _⟩ := h2; exact ⟨h1, _, h3, rfl⟩
    | room q e ty => exact ⟨h1, _, h2, rfl⟩
  refine ⟨g.cut n', ⟨fun k x hx => ?_, fun k x k' x' b h1 h2 h3 h4 => ?_, fun k b hk => ?_, fun k b hk => ?_, fun t => ?_, h.sz, h.def_, h.gz, fun i => ?_⟩,
    ⟨Nat.le_refl _, fun _ _ _ => ⟨rfl, rfl⟩, fun b hb => ?_, fun _ _ _ => rfl, fun _ => Nat.le_refl _, fun _ cs _ hb => ⟨cs, hb, rfl⟩, rfl, rfl⟩⟩
  · obtain ⟨h1, h2⟩ := LeO_look ho k x hx
    cases x with
    | box b =>
      obtain ⟨⟨y, h3, h4⟩, h5⟩ := h2
      obtain ⟨q, cs, ty, a1, a2, a3, a4, a5⟩ := h.objs k _ h3
      exact ⟨q, cs, ty, by rw [hcutm k h1]; exact a1, a2, a3, by rw [a4, h4.sz], by rw [R_cut b h5]; exact h4.s g w _ _ a5⟩
    | room q e ty =>
      obtain ⟨ob, a1, a2, a3⟩ := h.objs k _ h2
      exact ⟨ob, by rw [hcutr k h1]; exact a1, a2, a3⟩
  · obtain ⟨l1, y1, b1, c1⟩ := hb' k x h1
    obtain ⟨l2, y2, b2, c2⟩ := hb' k' x' h2
    exact h.inj k y1 k' y2 b b1 b2 (by rw [c1, ← hblk k x l1]; exact h3) (by rw [c2, ← hblk k' x' l2]; exact h4)
  · simp only [Gh.cut] at hk
    by_cases hlt : k < n'
    · exact hlt
    · rw [if_neg hlt] at hk; cases hk
  · simp only [Gh.cut] at hk
    by_cases hlt : k < n'
    · exact hlt
    · rw [if_neg hlt] at hk; cases hk
  · obtain ⟨h1, h2⟩ := LeE_look he t
    show (R (g.cut n') w (lookE t e')).v _
    rw [R_cut _ h2]
    exact h1.v g w _ (h.env t)
  · rw [R_cut _ (bnd_nf _ (hgl i))]; exact h.gl i
  · obtain ⟨k, x, h1, h2⟩ := hb
    obtain ⟨l1, y1, b1, c1⟩ := hb' k x h1
    exact .inl ⟨k, y1, b1, by rw [c1, ← hblk k x l1]; exact h2⟩

end
end Ar
