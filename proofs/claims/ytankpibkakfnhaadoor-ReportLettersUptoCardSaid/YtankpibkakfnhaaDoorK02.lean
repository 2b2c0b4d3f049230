/- The operations that make memory or write into boxes of the walk's own, and that the machine does what the walk says. No condition. -/
import Derived.Test.YtankpibkakfnhaaDoorK01
import Derived.Lib.AppendZerosOnto
import Derived.Laws.AppendOwn
import Derived.Laws.MakeOwn
import Derived.Lib.ConvBytes
import Derived.Lib.AppendStr
set_option linter.all false
namespace Ar
open Go
set_option linter.unusedVariables false
set_option autoImplicit false

section
variable {P : Program} {gl : Nat → AV} {N : Nat} {g : Gh} {w : World} {E : Nat → AV} {o : Objs} {n : Nat} {a : Act}

theorem csl {oa : Option Addr} {n c : Nat} (h : n ≤ 9223372036854775807) : cellV (.slice oa n c) := h

theorem heap_push (w : World) (x : Obj) : ({ w with heap := w.heap.push x } : World).heap[w.heap.size]? = some x := by simp

theorem heap_push_old (w : World) (x : Obj) {b : Nat} (hb : b < w.heap.size) : ({ w with heap := w.heap.push x } : World).heap[b]? = w.heap[b]? := by
  show (w.heap.push x)[b]? = _
  simp [Array.getElem?_push, Nat.ne_of_lt hb]

theorem lt_of_heap {w : World} {b : Nat} {x : Obj} (h : w.heap[b]? = some x) : b < w.heap.size := (Array.getElem?_eq_some_iff.1 h).1

theorem lt_of_cel {w : World} {b : Nat} {cs : Array Value} {ty : TypeId} (h : Cel w b cs ty) : b < w.heap.size := by
  obtain ⟨mk, h1, _⟩ := h
  exact lt_of_heap h1

theorem look_cel {w : World} {b : Nat} {cs : Array Value} {ty : TypeId} (h : Cel w b cs ty) : look w b = fun j => cs[j]? := by
  obtain ⟨mk, h1, _⟩ := h
  funext j; unfold look World.cell?; simp only [h1]; rfl

theorem cel_eq {w w' : World} {b : Nat} (e : w'.heap[b]? = w.heap[b]?) (cs : Array Value) (ty : TypeId) : Cel w' b cs ty = Cel w b cs ty := by unfold Cel; rw [e]

theorem unf_frozen {w : World} {b : Nat} {cs : Array Value} {ty : TypeId} {mk : Nat × Nat} (h : w.heap[b]? = some (.cells cs ty mk)) (hu : Unf cs mk) {j : Nat} (hj : j < cs.size) : w.frozen? ⟨b, j, none⟩ = false := by
  obtain ⟨lo, hi⟩ := mk
  simp only [World.frozen?, h]
  rcases hu with hu | hu
  · injection hu with h1 h2; subst h1 h2; simp
  · have : ¬ lo ≤ j := by simp only at hu; omega
    simp [this]

theorem storeCells_cel (P : Program) (g o : Nat) (t : TypeId) (mk : Nat × Nat) : ∀ (vs : List Value) (i : Nat) (cur : Array Value) (w : World), w.heap[g]? = some (.cells cur t mk) → Unf cur mk → o + i + vs.length ≤ cur.size → (∀ v ∈ vs, v.oneCell' = true) →
    (storeCells ⟨g, o, none⟩ vs i).run P w = .ok () (w.setRow g (cur.toList.take (o + i) ++ vs ++ cur.toList.drop (o + i + vs.length)).toArray)
  | [], i, cur, w, hg, _, _, _ => by
    simp only [storeCells, List.append_nil, List.length_nil, Nat.add_zero, List.take_append_drop, Array.toArray_toList]
    rw [setRow_self w g cur t mk hg]
    rfl
  | v :: rest, i, cur, w, hg, hu, hl, h1 => by
    have hi : o + i < cur.size := by simp at hl; omega
    have hadd : (⟨g, o, none⟩ : Addr).add i = ⟨g, o + i, none⟩ := by unfold Addr.add; split <;> simp_all
    have hcell : w.cell? ⟨g, o + i, none⟩ = some cur[o + i] := by simp [World.cell?, hg, hi]
    have hfro : w.frozen? ⟨g, o + i, none⟩ = false := unf_frozen hg hu hi
    have hst : (store ((⟨g, o, none⟩ : Addr).add i) v).run P w = .ok () (w.setRow g (cur.setIfInBounds (o + i) v)) := by
      rw [hadd, run_store P w _ v _ (h1 v (by simp)), hcell]
      simp [hfro, setCell_eq_setRow w g (o + i) cur t mk v hg]
    have ih := storeCells_cel P g o t mk rest (i + 1) (cur.setIfInBounds (o + i) v) (w.setRow g (cur.setIfInBounds (o + i) v)) (setRow_heap w g cur _ t _ hg) (hu.imp id (fun h => by simpa using h)) (by simp at hl ⊢; omega) (fun x hx => h1 x (by simp [hx]))
    simp only [storeCells, Sem.run_bind, hst, Result.andThen_ok, ih, setRow_setRow]
    congr 3
    have e := list_seg_step cur.toList (o + i) v rest (by simp at hl ⊢; omega)
    simpa [Array.toList_setIfInBounds, Nat.add_assoc] using e

theorem run_storeCells_cel (P : Program) (g o : Nat) (t : TypeId) (vs : List Value) (i : Nat) (cur : Array Value) (w : World) (hg : Cel w g cur t) (hl : o + i + vs.length ≤ cur.size) (h1 : ∀ v ∈ vs, v.oneCell' = true) :
    (storeCells ⟨g, o, none⟩ vs i).run P w = .ok () (w.setRow g (cur.toList.take (o + i) ++ vs ++ cur.toList.drop (o + i + vs.length)).toArray) := by
  obtain ⟨mk, h2, h3⟩ := hg
  exact storeCells_cel P g o t mk vs i cur w h2 h3 hl h1

theorem setRow_cel {w : World} {g : Nat} {old cs : Array Value} {t : TypeId} (h : Cel w g old t) (hs : cs.size = old.size) : Cel (w.setRow g cs) g cs t := by
  obtain ⟨mk, h1, h2⟩ := h
  exact ⟨mk, setRow_heap w g old cs t mk h1, h2.imp id (fun h => by rw [hs]; exact h)⟩

theorem cell_old {w w' : World} {b off : Nat} (h : w'.heap[b]? = w.heap[b]?) : w'.cell? ⟨b, off, none⟩ = w.cell? ⟨b, off, none⟩ := by
  unfold World.cell?; simp only [h]

theorem look_eq {w w' : World} {b : Nat} (h : w'.heap[b]? = w.heap[b]?) : look w' b = look w b := funext fun _ => cell_old h

theorem look_cells {w : World} {b : Nat} {cs : Array Value} {ty : TypeId} {fr : Nat × Nat} (h : w.heap[b]? = some (.cells cs ty fr)) : look w b = fun j => cs[j]? := by
  funext j; unfold look World.cell?; simp only [h]; rfl

/-- The block of an object that stands is below the heap's end. -/
theorem own_lt (h : Good P gl N g w E o n a) {b : Nat} (hb : Own g o b) : b < w.heap.size := by
  obtain ⟨k, x, h1, h2⟩ := hb
  have := h.objs k x h1
  cases x with
  | box v =>
    obtain ⟨h0, _⟩ | ⟨q, cs, ty, h3, _, h4, _⟩ := this
    · simp [blkOf, h0] at h2
    · simp only [blkOf, h3, Option.map_some] at h2; injection h2 with h2; subst h2; exact lt_of_cel h4
  | room m e ty =>
    obtain ⟨ob, h3, _, h4⟩ := this
    simp only [blkOf, h3, Option.bind_some] at h2
    obtain ⟨_, cs, _, h5, _⟩ := h4 b h2
    exact lt_of_cel h5
  | soon => cases h2
  | dict k f =>
    obtain ⟨q, es, cl, h3, _, h4, _⟩ := this
    simp only [blkOf, h3, Option.map_some] at h2; injection h2 with h2; subst h2; exact lt_of_heap h4

/-- An object that is not touched reads as it did. -/
theorem obj_ev {g' : Gh} {w' : World} (hev : Ev g w g' w') {k : Nat} {x : AObj} (hx : ObjOk g w k x) (hm : g'.m k = g.m k)
    (hr : ∀ p, g.r k = some p → g'.r k = some p) (hb : ∀ b, blkOf g k x = some b → g'.G b = g.G b ∧ w'.heap[b]? = w.heap[b]?) : ObjOk g' w' k x := by
  cases x with
  | box v =>
    obtain ⟨h0, h1⟩ | ⟨b, cs, ty, h1, h2, h3, h4, h5, h6⟩ := hx
    · exact .inl ⟨hm.trans h0, h1⟩
    obtain ⟨e2, e3⟩ := hb b.1 (by simp [blkOf, h1])
    exact .inr ⟨b, cs, ty, hm.trans h1, by rw [e2, h2], by rw [cel_eq e3]; exact h3, h4, by rw [look_eq e3]; exact (R_ev hev v).s _ _ _ _ (fun _ _ => rfl) h5, h6⟩
  | room m e ty =>
    obtain ⟨ob, h1, h2, h3⟩ := hx
    refine ⟨ob, hr _ h1, h2, fun b hb' => ?_⟩
    obtain ⟨e3, e4⟩ := hb b (by simp [blkOf, h1, hb'])
    simp only [e3, cel_eq e4]
    exact h3 b hb'
  | soon => exact hm.trans hx
  | dict kd f =>
    obtain ⟨b, es, cl, h1, h2, h3, h4, h5⟩ := hx
    obtain ⟨e2, e3⟩ := hb b (by simp [blkOf, h1])
    exact ⟨b, es, cl, hm.trans h1, by rw [e2, h2], by rw [e3]; exact h3, h4, h5.ev hev⟩

theorem blk_same {g' : Gh} {k : Nat} {x : AObj} (hm : g'.m k = g.m k) (hr : g'.r k = g.r k) : blkOf g' k x = blkOf g k x := by
  cases x <;> simp [blkOf, hm, hr]

/-- A new name for a new block (or for none yet). -/
theorem good_new (h : Good P gl N g w E o n a) {w' : World} {g' : Gh} {x : AObj} (hev : Ev g w g' w') (hsz : w.heap.size ≤ w'.heap.size) (hold : ∀ b, b < w.heap.size → w'.heap[b]? = w.heap[b]?)
    (hm : ∀ k, k ≠ n → g'.m k = g.m k) (hr : ∀ k, k ≠ n → g'.r k = g.r k) (hG : ∀ b, b < w.heap.size → g'.G b = g.G b) (hz : ∀ b, w'.heap.size ≤ b → g'.G b = 0)
    (hb : ∀ b, blkOf g' n x = some b → w.heap.size ≤ b) (hx : ObjOk g' w' n x) (os : w'.os = w.os) (out : w'.output = w.output) (hL : n < LENT) :
    Good P gl N g' w' E ((n, x) :: o) (n + 1) a ∧ Stp g w o g' w' ((n, x) :: o) := by
  have hn : ∀ k y, lookO k o = some y → k ≠ n := by
    rintro k y hk rfl
    have := h.objs k y hk
    cases y with
    | box v => exact absurd (h.blt _ _ hk) (by omega)
    | room m e t => obtain ⟨ob, h1, _⟩ := this; exact absurd (h.rlt _ _ h1) (by omega)
    | soon => exact absurd (h.blt _ _ hk) (by omega)
    | dict kd f => exact absurd (h.blt _ _ hk) (by omega)
  have hown : ∀ b, Own g' ((n, x) :: o) b → Own g o b ∨ w.heap.size ≤ b := by
    rintro b ⟨k, y, h1, h2⟩
    rw [lookO_cons] at h1
    by_cases hk : n = k
    · subst hk
      rw [if_pos rfl] at h1
      injection h1 with h1
      subst h1
      exact .inr (hb b h2)
    · rw [if_neg hk] at h1
      have hk' : k ≠ n := fun e => hk e.symm
      exact .inl ⟨k, y, h1, by rw [← h2, blk_same (hm k hk') (hr k hk')]⟩
  have hownC : ∀ b j, OwnC g' ((n, x) :: o) b j → OwnC g o b j ∨ w.heap.size ≤ b := by
    rintro b j ⟨k, y, h1, h2⟩
    rw [lookO_cons] at h1
    by_cases hk : n = k
    · subst hk
      rw [if_pos rfl] at h1
      injection h1 with h1
      subst h1
      refine .inr (hb b ?_)
      cases x with
      | box v => obtain ⟨off, h3, _⟩ := h2; simp [blkOf, h3]
      | room _ _ _ => exact h2
      | soon => exact h2.elim
      | dict _ _ => obtain ⟨off, h3⟩ := h2; simp [blkOf, h3]
    · rw [if_neg hk] at h1
      have hk' : k ≠ n := fun e => hk e.symm
      refine .inl ⟨k, y, h1, ?_⟩
      cases y with
      | box v => rw [← hm k hk']; exact h2
      | room _ _ _ => rw [← hr k hk']; exact h2
      | soon => exact h2.elim
      | dict _ _ => rw [← hm k hk']; exact h2
  have hlt := fun b (hb : Own g o b) => own_lt h hb
  refine ⟨⟨fun k y hk => ?_, fun k y k' y' b h1 h2 h3 h4 => ?_, fun k y hk => ?_, fun k b hk => ?_, fun k b hk => ?_, fun t => (R_ev hev _).v _ (h.env t), h.sz, h.def_, hz, fun i => (R_ev hev _).v _ (h.gl i)⟩,
    ⟨hsz, fun b hb _ => ⟨hold b hb, hG b hb⟩, hown, hev.pub, hev.le, hev.cap, fun b j hb _ => cell_old (hold b hb), hownC, fun k hk => hm k (by omega), fun k ob N hk hr' => ⟨ob, N, by rw [hr k (by omega)]; exact hr', Nat.le_refl _, fun _ => rfl⟩, os, out⟩⟩
  · rw [lookO_cons] at hk
    by_cases hkn : n = k
    · subst hkn
      rw [if_pos rfl] at hk
      injection hk with hk
      subst hk
      exact hx
    · rw [if_neg hkn] at hk
      have hk' : k ≠ n := fun e => hkn e.symm
      refine obj_ev hev (h.objs k y hk) (hm k hk') (fun p hp => by rw [hr k hk']; exact hp) (fun b hb => ?_)
      have := hlt b ⟨k, y, hk, hb⟩
      exact ⟨hG b this, hold b this⟩
  · rw [lookO_cons] at h1 h2
    by_cases hk : n = k <;> by_cases hk2 : n = k'
    · exact hk.symm.trans hk2
    · exfalso
      subst hk
      rw [if_pos rfl] at h1
      injection h1 with h1
      subst h1
      rw [if_neg hk2] at h2
      have hk' : k' ≠ n := fun e => hk2 e.symm
      rw [blk_same (hm k' hk') (hr k' hk')] at h4
      have := hlt b ⟨k', y', h2, h4⟩
      have := hb b h3
      omega
    · exfalso
      subst hk2
      rw [if_pos rfl] at h2
      injection h2 with h2
      subst h2
      rw [if_neg hk] at h1
      have hk' : k ≠ n := fun e => hk e.symm
      rw [blk_same (hm k hk') (hr k hk')] at h3
      have := hlt b ⟨k, y, h1, h3⟩
      have := hb b h4
      omega
    · rw [if_neg hk] at h1
      rw [if_neg hk2] at h2
      have hk1 : k ≠ n := fun e => hk e.symm
      have hk' : k' ≠ n := fun e => hk2 e.symm
      rw [blk_same (hm k hk1) (hr k hk1)] at h3
      rw [blk_same (hm k' hk') (hr k' hk')] at h4
      exact h.inj k y k' y' b h1 h2 h3 h4
  · rw [lookO_cons] at hk
    by_cases hkn : n = k
    · subst hkn; exact .inl (Nat.lt_succ_self _)
    · rw [if_neg hkn] at hk; exact (h.blt k y hk).imp Nat.lt_succ_of_lt id
  · by_cases hkn : k = n
    · subst hkn; exact .inl (Nat.lt_succ_self _)
    · rw [hm k hkn] at hk; exact (h.mlt k b hk).imp Nat.lt_succ_of_lt id
  · by_cases hkn : k = n
    · subst hkn; exact .inl (Nat.lt_succ_self _)
    · rw [hr k hkn] at hk; exact (h.rlt k b hk).imp Nat.lt_succ_of_lt id

theorem pub_lt (h : Good P gl N g w E o n a) {b off : Nat} (ho : off < g.G b) : b < w.heap.size := by
  rcases Nat.lt_or_ge b w.heap.size with hb | hb
  · exact hb
  · rw [h.gz b hb] at ho; omega

/-- A new box. -/
theorem good_box (h : Good P gl N g w E o n a) {z : AV} {cs : Array Value} {ty : TypeId} (hs : size z ≤ cs.size) (hz : (R g w z).s (fun j => cs[j]?) 0) (hL : n < LENT) :
    ∃ g', Good P gl N g' { w with heap := w.heap.push (.cells cs ty) } E ((n, .box z) :: o) (n + 1) a ∧ Stp g w o g' { w with heap := w.heap.push (.cells cs ty) } ((n, .box z) :: o) ∧
      (R g' { w with heap := w.heap.push (.cells cs ty) } (.ptr n [])).v (.pointer (some ⟨w.heap.size, 0, none⟩)) := by
  let w' : World := { w with heap := w.heap.push (.cells cs ty) }
  let g' : Gh := { g with m := fun k => if k = n then some (w.heap.size, 0) else g.m k }
  have hold : ∀ b, b < w.heap.size → w'.heap[b]? = w.heap[b]? := fun b hb => heap_push_old w _ hb
  have hnew : Cel w' (w.heap.size) cs ty := .mk0 (heap_push w _)
  have hsz : w'.heap.size = w.heap.size + 1 := by simp [w']
  have hm : ∀ k b, g.m k = some b → g'.m k = some b := fun k b hk => by
    have := h.mlt k b hk
    show (if k = n then _ else _) = _
    rw [if_neg (by omega)]; exact hk
  have hev : Ev g w g' w' := ⟨hm, fun t ob N ht => ⟨ob, N, ht, Nat.le_refl _, fun _ => rfl⟩, fun b off ho => cell_old (hold b (pub_lt h ho)), fun _ => Nat.le_refl _,
    fun b c t hb => ⟨c, by rw [cel_eq (hold b (lt_of_cel hb))]; exact hb, rfl⟩⟩
  obtain ⟨h1, h2⟩ := good_new h (w' := w') (g' := g') (x := .box z) hev (by omega) hold (fun k hk => by show (if k = n then _ else _) = _; rw [if_neg hk]) (fun _ _ => rfl) (fun _ _ => rfl)
    (fun b hb => h.gz b (by omega)) (fun b hb => by simp [blkOf, g'] at hb; omega)
    (.inr ⟨(w.heap.size, 0), cs, ty, by simp [g'], h.gz _ (Nat.le_refl _), hnew, by simp [hs], by rw [look_cel hnew]; exact (R_ev hev z).s _ _ _ _ (fun _ _ => rfl) hz, fun _ => rfl⟩) rfl rfl hL
  exact ⟨g', h1, h2, ⟨⟨(w.heap.size, 0), trivial, by simp [g'], by simp [offP]⟩, trivial⟩⟩

/-- A write into a box. -/
theorem good_store (h : Good P gl N g w E o n a) {b : Nat} {x y : AV} {q q2 : Nat} {cs cs' : Array Value} {ty : TypeId} (hb : lookO b o = some (.box x)) (hq : g.m b = some (q, q2)) (hc : Cel w (q) cs ty)
    (hs : cs'.size = cs.size) (hy : size y = size x) (hin : q2 + size x ≤ cs.size) (hz : (R g w y).s (fun j => cs'[j]?) q2) (hout : ∀ j, ¬ (q2 ≤ j ∧ j < q2 + size x) → cs'[j]? = cs[j]?) :
    Good P gl N g (w.setRow q cs') E (setO b (.box y) o) n a ∧ Stp g w o g (w.setRow q cs') (setO b (.box y) o) := by
  have hG : g.G q = 0 := by
    obtain ⟨h0, _⟩ | ⟨q', _, _, h1, h2, _⟩ := h.objs b _ hb
    · rw [hq] at h0; cases h0
    rw [hq] at h1; injection h1 with h1; subst h1; exact h2
  have h0q : b < LENT → q2 = 0 := by
    obtain ⟨h0, _⟩ | ⟨q', _, _, h1, _, _, _, _, h2⟩ := h.objs b _ hb
    · rw [hq] at h0; cases h0
    rw [hq] at h1; injection h1 with h1; subst h1; exact h2
  have hnew : Cel (w.setRow q cs') q cs' ty := by
    obtain ⟨mk, hc1, hc2⟩ := hc
    exact ⟨mk, setRow_heap w q cs cs' ty mk hc1, hc2.imp id (fun h => by rw [hs]; exact h)⟩
  have hoth : ∀ k, k ≠ q → (w.setRow q cs').heap[k]? = w.heap[k]? := fun k hk => setRow_other w q k cs' hk
  have hev : Ev g w g (w.setRow q cs') := by
    refine ⟨fun _ _ h => h, fun t ob N ht => ⟨ob, N, ht, Nat.le_refl _, fun _ => rfl⟩, fun k off ho => ?_, fun _ => Nat.le_refl _, fun k c t hk => ?_⟩
    · have : k ≠ q := by rintro rfl; rw [hG] at ho; omega
      exact cell_old (hoth k this)
    · by_cases hkq : k = q
      · subst hkq
        obtain ⟨rfl, rfl⟩ := hc.inj hk
        exact ⟨cs', hnew, hs⟩
      · exact ⟨c, by rw [cel_eq (hoth k hkq)]; exact hk, rfl⟩
  have hlook : ∀ k z, lookO k (setO b (.box y) o) = some z → ∃ z', lookO k o = some z' ∧ (∀ g : Gh, blkOf g k z = blkOf g k z') ∧ (k ≠ b → z = z') ∧ (k = b → z = .box y) := by
    intro k z hk
    rw [lookO_setO] at hk
    by_cases e : k = b
    · subst e
      rw [if_pos rfl, hb] at hk
      injection hk with hk
      subst hk
      exact ⟨_, hb, fun _ => rfl, fun h => absurd rfl h, fun _ => rfl⟩
    · rw [if_neg e] at hk
      exact ⟨z, hk, fun _ => rfl, fun _ => rfl, fun h => absurd h e⟩
  refine ⟨⟨fun k z hk => ?_, fun k z k' z' bb h1 h2 h3 h4 => ?_, fun k z hk => by (obtain ⟨z', h1, _⟩ := hlook k z hk; exact h.blt k z' h1), h.mlt, h.rlt, fun t => (R_ev hev _).v _ (h.env t), h.sz, h.def_, fun b hb => h.gz b (by simpa using hb), fun i => (R_ev hev _).v _ (h.gl i)⟩,
    ⟨by simp, fun k hk hn => ⟨hoth k (fun e => hn ⟨b, _, hb, by rw [e]; simp [blkOf, hq]⟩), rfl⟩, fun k hk => ?_, hev.pub, hev.le, hev.cap, fun k j hk hn => ?_, fun k j hk => ?_, fun _ _ => rfl, fun _ ob N _ h => ⟨ob, N, h, Nat.le_refl _, fun _ => rfl⟩, rfl, rfl⟩⟩
  · obtain ⟨z', h1, h2, h3, h4⟩ := hlook k z hk
    by_cases e : k = b
    · subst e
      rw [h4 rfl]
      exact .inr ⟨(q, q2), cs', ty, hq, hG, hnew, by rw [hy, hs]; exact hin, by rw [look_cel hnew]; exact (R_ev hev y).s _ _ _ _ (fun _ _ => rfl) hz, h0q⟩
    · rw [h3 e]
      refine obj_ev hev (h.objs k z' h1) rfl (fun _ h => h) (fun bb hbb => ⟨rfl, hoth bb ?_⟩)
      rintro rfl
      exact e (h.inj k z' b _ _ h1 hb hbb (by simp [blkOf, hq]))
  · obtain ⟨y1, a1, a2, _, _⟩ := hlook k z h1
    obtain ⟨y2, a3, a4, _, _⟩ := hlook k' z' h2
    exact h.inj k y1 k' y2 bb a1 a3 (by rw [← a2]; exact h3) (by rw [← a4]; exact h4)
  · obtain ⟨k', z, h1, h2⟩ := hk
    obtain ⟨z', h3, h4, _, _⟩ := hlook k' z h1
    exact .inl ⟨k', z', h3, by rw [← h4]; exact h2⟩
  · by_cases e : k = q
    · subst e
      have : ¬ (q2 ≤ j ∧ j < q2 + size x) := fun hj => hn ⟨b, _, hb, q2, hq, fun _ => hj⟩
      have h1 : (w.setRow k cs').cell? ⟨k, j, none⟩ = cs'[j]? := by show look (w.setRow k cs') k j = _; rw [look_cel hnew]
      have h2 : w.cell? ⟨k, j, none⟩ = cs[j]? := by show look w k j = _; rw [look_cel hc]
      rw [h1, h2, hout j this]
    · exact cell_old (hoth k e)
  · obtain ⟨k', z, h1, h2⟩ := hk
    obtain ⟨z', h3, _, h5, h6⟩ := hlook k' z h1
    refine .inl ?_
    by_cases e : k' = b
    · subst e
      rw [h6 rfl] at h2
      obtain ⟨off, h7, h8⟩ := h2
      exact ⟨k', _, hb, off, h7, by rw [← hy]; exact h8⟩
    · rw [h5 e] at h2
      exact ⟨k', z', h3, h2⟩

theorem blk_room {k : Nat} {m e : Nat} {ty : TypeId} {ob : Option Nat} {q : Nat} (h : g.r k = some (ob, q)) : blkOf g k (.room m e ty) = ob := by simp [blkOf, h]

/-- A growing row has grown. -/
theorem good_room (h : Good P gl N g w E o n a) {t m m' e : Nat} {ty : TypeId} {ob ob' : Option Nat} {g' : Gh} {w' : World} (hk : lookO t o = some (.room m e ty)) (hrt : g.r t = some (ob, m)) (hev : Ev g w g' w')
    (hm : ∀ k, g'.m k = g.m k) (hr : ∀ k, k ≠ t → g'.r k = g.r k) (hr' : g'.r t = some (ob', m')) (hsz : w.heap.size ≤ w'.heap.size)
    (hold : ∀ b, b < w.heap.size → ob ≠ some b → w'.heap[b]? = w.heap[b]? ∧ g'.G b = g.G b) (hz : ∀ b, w'.heap.size ≤ b → g'.G b = 0) (hx : ObjOk g' w' t (.room m' e ty))
    (hb : ∀ b, ob' = some b → ob = some b ∨ w.heap.size ≤ b) (os : w'.os = w.os) (out : w'.output = w.output) :
    Good P gl N g' w' E (setO t (.room m' e ty) o) n a ∧ Stp g w o g' w' (setO t (.room m' e ty) o) := by
  have htn := h.rlt t _ hrt
  have hlook : ∀ k z, lookO k (setO t (.room m' e ty) o) = some z → (k = t ∧ z = .room m' e ty) ∨ (k ≠ t ∧ lookO k o = some z) := by
    intro k z hz
    rw [lookO_setO] at hz
    by_cases e1 : k = t
    · subst e1
      rw [if_pos rfl, hk] at hz
      injection hz with hz
      exact .inl ⟨rfl, hz.symm⟩
    · rw [if_neg e1] at hz
      exact .inr ⟨e1, hz⟩
  have hblk : ∀ k z, k ≠ t → blkOf g' k z = blkOf g k z := fun k z e1 => blk_same (hm k) (hr k e1)
  have hbt : blkOf g' t (.room m' e ty) = ob' := blk_room hr'
  have hbt0 : blkOf g t (.room m e ty) = ob := blk_room hrt
  have hne : ∀ k z b, k ≠ t → lookO k o = some z → blkOf g k z = some b → ob ≠ some b := fun k z b e1 h1 h2 h3 => e1 (h.inj k z t _ b h1 hk h2 (by rw [hbt0, h3]))
  have hown : ∀ b, Own g' (setO t (.room m' e ty) o) b → Own g o b ∨ w.heap.size ≤ b := by
    rintro b ⟨k, z, h1, h2⟩
    rcases hlook k z h1 with ⟨rfl, rfl⟩ | ⟨e1, h3⟩
    · rw [hbt] at h2
      exact (hb b h2).imp (fun h4 => ⟨k, _, hk, by rw [hbt0, h4]⟩) id
    · exact .inl ⟨k, z, h3, by rw [← h2, hblk k z e1]⟩
  have hownC : ∀ b j, OwnC g' (setO t (.room m' e ty) o) b j → OwnC g o b j ∨ w.heap.size ≤ b := by
    rintro b j ⟨k, z, h1, h2⟩
    rcases hlook k z h1 with ⟨rfl, rfl⟩ | ⟨e1, h3⟩
    · have h2 : (g'.r k).bind (·.1) = some b := h2
      rw [hr'] at h2
      exact (hb b h2).imp (fun h4 => ⟨k, _, hk, by simp [hrt, h4]⟩) id
    · refine .inl ⟨k, z, h3, ?_⟩
      cases z with
      | box v => rw [← hm k]; exact h2
      | room _ _ _ => rw [← hr k e1]; exact h2
      | soon => exact h2.elim
      | dict _ _ => rw [← hm k]; exact h2
  refine ⟨⟨fun k z hz => ?_, fun k z k' z' b h1 h2 h3 h4 => ?_, fun k z hz => by (rcases hlook k z hz with ⟨rfl, rfl⟩ | ⟨e1, h3⟩; exact h.blt _ _ hk; exact h.blt _ _ h3), fun k b hk => by rw [hm] at hk; exact h.mlt k b hk, fun k p hk => ?_, fun t => (R_ev hev _).v _ (h.env t), h.sz, h.def_, hz, fun i => (R_ev hev _).v _ (h.gl i)⟩,
    ⟨hsz, fun b hb hn => hold b hb (fun e1 => hn ⟨t, _, hk, by rw [hbt0, e1]⟩), hown, hev.pub, hev.le, hev.cap, fun b j hb' hn => cell_old (hold b hb' (fun e1 => hn ⟨t, _, hk, by simp [hrt, e1]⟩)).1, hownC, fun k _ => hm k, fun k ob N _ h => hev.r k ob N h, os, out⟩⟩
  · rcases hlook k z hz with ⟨rfl, rfl⟩ | ⟨e1, h3⟩
    · exact hx
    · refine obj_ev hev (h.objs k z h3) (hm k) (fun p hp => by rw [hr k e1]; exact hp) (fun b hb => ?_)
      have := hold b (own_lt h ⟨k, z, h3, hb⟩) (hne k z b e1 h3 hb)
      exact ⟨this.2, this.1⟩
  · rcases hlook k z h1 with ⟨rfl, rfl⟩ | ⟨e1, h5⟩ <;> rcases hlook k' z' h2 with ⟨rfl, rfl⟩ | ⟨e2, h6⟩
    · rfl
    · exfalso
      rw [hbt] at h3
      rw [hblk k' z' e2] at h4
      rcases hb b h3 with h7 | h7
      · exact hne k' z' b e2 h6 h4 h7
      · have := own_lt h ⟨k', z', h6, h4⟩; omega
    · exfalso
      rw [hbt] at h4
      rw [hblk k z e1] at h3
      rcases hb b h4 with h7 | h7
      · exact hne k z b e1 h5 h3 h7
      · have := own_lt h ⟨k, z, h5, h3⟩; omega
    · rw [hblk k z e1] at h3
      rw [hblk k' z' e2] at h4
      exact h.inj k z k' z' b h5 h6 h3 h4
  · by_cases e1 : k = t
    · subst e1; exact htn
    · rw [hr k e1] at hk; exact h.rlt k p hk

/-- An object is forgotten. -/
theorem good_drop (h : Good P gl N g w E o n a) (q : Nat) : Good P gl N g w E (dropO q o) n a ∧ Stp g w o g w (dropO q o) := by
  have hl : ∀ k x, lookO k (dropO q o) = some x → lookO k o = some x := fun k x hk => by
    rw [lookO_dropO] at hk
    by_cases e : k = q
    · rw [if_pos e] at hk; cases hk
    · rwa [if_neg e] at hk
  exact ⟨⟨fun k x hk => h.objs k x (hl k x hk), fun k x k' x' b h1 h2 => h.inj k x k' x' b (hl k x h1) (hl k' x' h2), fun k x hk => h.blt k x (hl k x hk), h.mlt, h.rlt, h.env, h.sz, h.def_, h.gz, h.gl⟩,
    ⟨Nat.le_refl _, fun _ _ _ => ⟨rfl, rfl⟩, fun b ⟨k, x, h1, h2⟩ => .inl ⟨k, x, hl k x h1, h2⟩, fun _ _ _ => rfl, fun _ => Nat.le_refl _, fun _ cs _ h => ⟨cs, h, rfl⟩, fun _ _ _ _ => rfl, fun b j ⟨k, x, h1, h2⟩ => .inl ⟨k, x, hl k x h1, h2⟩, fun _ _ => rfl, fun _ ob N _ h => ⟨ob, N, h, Nat.le_refl _, fun _ => rfl⟩, rfl, rfl⟩⟩

/-- An own block goes over to a new name, with new contents. -/
theorem good_take (h : Good P gl N g w E o n a) {q b : Nat} {x y : AV} {cs cs' : Array Value} {ty : TypeId} {w' : World} (hq : lookO q o = some (.box x)) (hL : q < LENT) (hm : g.m q = some (b, 0))
    (hc : Cel w (b) cs ty) (hnew : Cel w' (b) cs' ty) (hoth : ∀ k, k ≠ b → w'.heap[k]? = w.heap[k]?) (hsz : w'.heap.size = w.heap.size) (os : w'.os = w.os) (out : w'.output = w.output)
    (hs : cs'.size = cs.size) (hy : size y ≤ cs'.size) (hz : (R g w y).s (fun j => cs'[j]?) 0) (hn : n < LENT) :
    ∃ g', Good P gl N g' w' E ((n, .box y) :: dropO q o) (n + 1) a ∧ Stp g w o g' w' ((n, .box y) :: dropO q o) ∧ g'.m n = some (b, 0) := by
  let g' : Gh := { g with m := fun k => if k = n then some (b, 0) else g.m k }
  have hGb : g.G b = 0 := by
    obtain ⟨h0, _⟩ | ⟨q', _, _, h1, h2, _⟩ := h.objs q _ hq
    · rw [hm] at h0; cases h0
    rw [hm] at h1; injection h1 with h1; subst h1; exact h2
  have hbq : blkOf g q (.box x) = some b := by simp [blkOf, hm]
  have hgm : ∀ k, k ≠ n → g'.m k = g.m k := fun k hk => if_neg hk
  have hgn : g'.m n = some (b, 0) := if_pos rfl
  have hnn : ∀ k y, lookO k o = some y → k ≠ n := by
    rintro k y hk rfl
    have := h.blt _ _ hk
    omega
  have hev : Ev g w g' w' := by
    refine ⟨fun k p hk => ?_, fun t ob N ht => ⟨ob, N, ht, Nat.le_refl _, fun _ => rfl⟩, fun k off ho => ?_, fun _ => Nat.le_refl _, fun k c t hk => ?_⟩
    · have := h.mlt k p hk
      rw [hgm k (by omega)]; exact hk
    · have : k ≠ b := by rintro rfl; rw [hGb] at ho; omega
      exact cell_old (hoth k this)
    · by_cases e : k = b
      · subst e
        obtain ⟨rfl, rfl⟩ := hc.inj hk
        exact ⟨cs', hnew, hs⟩
      · exact ⟨c, by rw [cel_eq (hoth k e)]; exact hk, rfl⟩
  have hlook : ∀ k z, lookO k ((n, .box y) :: dropO q o) = some z → (k = n ∧ z = .box y) ∨ (k ≠ n ∧ k ≠ q ∧ lookO k o = some z) := fun k z hk => by
    rw [lookO_cons, lookO_dropO] at hk
    by_cases e : n = k
    · subst e; rw [if_pos rfl] at hk; injection hk with hk; exact .inl ⟨rfl, hk.symm⟩
    · rw [if_neg e] at hk
      by_cases e2 : k = q
      · rw [if_pos e2] at hk; cases hk
      · rw [if_neg e2] at hk; exact .inr ⟨fun h => e h.symm, e2, hk⟩
  have hne : ∀ k z c, k ≠ q → lookO k o = some z → blkOf g k z = some c → c ≠ b := by
    rintro k z c e1 h1 h2 rfl
    exact e1 (h.inj k z q _ _ h1 hq h2 hbq)
  refine ⟨g', ⟨fun k z hk => ?_, fun k z k' z' c h1 h2 h3 h4 => ?_, fun k z hk => ?_, fun k p hk => ?_, fun k p hk => (h.rlt k p hk).imp Nat.lt_succ_of_lt id, fun t => (R_ev hev _).v _ (h.env t), h.sz, h.def_, fun c hcc => h.gz c (by rw [hsz] at hcc; exact hcc), fun i => (R_ev hev _).v _ (h.gl i)⟩,
    ⟨Nat.le_of_eq hsz.symm, fun k hk hno => ⟨hoth k (fun e => hno ⟨q, _, hq, by rw [e]; exact hbq⟩), rfl⟩, fun c ⟨k, z, h1, h2⟩ => ?_, hev.pub, hev.le, hev.cap, fun k j hk hno => ?_, fun c j ⟨k, z, h1, h2⟩ => ?_, fun k hk => hgm k (by omega), fun _ ob N _ h => ⟨ob, N, h, Nat.le_refl _, fun _ => rfl⟩, os, out⟩, hgn⟩
  · rcases hlook k z hk with ⟨rfl, rfl⟩ | ⟨e1, e2, h1⟩
    · exact .inr ⟨(b, 0), cs', ty, hgn, hGb, hnew, by simpa using hy, by rw [look_cel hnew]; exact (R_ev hev y).s _ _ _ _ (fun _ _ => rfl) hz, fun _ => rfl⟩
    · exact obj_ev hev (h.objs k z h1) (hgm k e1) (fun _ hp => hp) (fun c hcc => ⟨rfl, hoth c (hne k z c e2 h1 hcc)⟩)
  · rcases hlook k z h1 with ⟨rfl, rfl⟩ | ⟨e1, e2, h5⟩ <;> rcases hlook k' z' h2 with ⟨rfl, rfl⟩ | ⟨e3, e4, h6⟩
    · rfl
    · exfalso
      simp only [blkOf, hgn, Option.map_some] at h3
      injection h3 with h3
      subst h3
      rw [blk_same (g := g) (hgm k' e3) rfl] at h4
      exact hne k' z' _ e4 h6 h4 rfl
    · exfalso
      simp only [blkOf, hgn, Option.map_some] at h4
      injection h4 with h4
      subst h4
      rw [blk_same (g := g) (hgm k e1) rfl] at h3
      exact hne k z _ e2 h5 h3 rfl
    · rw [blk_same (g := g) (hgm k e1) rfl] at h3
      rw [blk_same (g := g) (hgm k' e3) rfl] at h4
      exact h.inj k z k' z' c h5 h6 h3 h4
  · rcases hlook k z hk with ⟨rfl, rfl⟩ | ⟨_, _, h1⟩
    · exact .inl (Nat.lt_succ_self _)
    · exact (h.blt k z h1).imp Nat.lt_succ_of_lt id
  · by_cases e : k = n
    · subst e; exact .inl (Nat.lt_succ_self _)
    · rw [hgm k e] at hk; exact (h.mlt k p hk).imp Nat.lt_succ_of_lt id
  · rcases hlook k z h1 with ⟨rfl, rfl⟩ | ⟨e1, e2, h5⟩
    · refine .inl ⟨q, _, hq, ?_⟩
      simp only [blkOf, hgn, Option.map_some] at h2
      injection h2 with h2
      rw [← h2]; exact hbq
    · exact .inl ⟨k, z, h5, by rw [← h2, blk_same (hgm k e1) rfl]⟩
  · by_cases e : k = b
    · subst e
      exact absurd ⟨q, _, hq, 0, hm, fun h9 => absurd hL (by omega)⟩ hno
    · exact cell_old (hoth k e)
  · rcases hlook k z h1 with ⟨rfl, rfl⟩ | ⟨e1, e2, h5⟩
    · obtain ⟨off, h6, _⟩ := h2
      rw [hgn] at h6
      injection h6 with h6
      injection h6 with h6 h7
      subst h6
      exact .inl ⟨q, _, hq, 0, hm, fun h9 => absurd hL (by omega)⟩
    · refine .inl ⟨k, z, h5, ?_⟩
      cases z with
      | box v => rw [← hgm k e1]; exact h2
      | room _ _ _ => exact h2
      | soon => exact h2.elim
      | dict _ _ => rw [← hgm k e1]; exact h2

/-- A new row of one's own in a new block. -/
theorem good_vec (h : Good P gl N g w E o n a) {w1 : World} (hd : Drawn w w1) {z : AV} {cs : Array Value} {ty : TypeId} (hs : size z ≤ cs.size) (hz : (R g w z).s (fun j => cs[j]?) 0) (hL : n < LENT) :
    ∃ g', Good P gl N g' (w1.alloc (.cells cs ty)) E ((n, .box z) :: o) (n + 1) a ∧ Stp g w o g' (w1.alloc (.cells cs ty)) ((n, .box z) :: o) ∧ g'.m n = some (w1.heap.size, 0) ∧
      (w1.alloc (.cells cs ty)).heap[w1.heap.size]? = some (.cells cs ty (0, 0)) := by
  have h1 := h.drawn hd
  have hz1 : (R g w1 z).s (fun j => cs[j]?) 0 := (R_ev (hd.ev g) z).s _ _ _ _ (fun _ _ => rfl) hz
  obtain ⟨g', k1, k2, k3⟩ := good_box h1 (ty := ty) hs hz1 hL
  refine ⟨g', k1, (hd.stp g o).trans k2, ?_, heap_push w1 _⟩
  obtain ⟨⟨b, _, hb, hu⟩, _⟩ := k3
  injection hu with hu
  injection hu with hu
  injection hu with h2 h3 _
  obtain ⟨b1, b2⟩ := b
  simp only [offP, Nat.add_zero] at h2 h3
  rw [hb, ← h2, ← h3]

def appF (m : Nat) (f h : Nat → AV) : Nat → AV := fun i => if i < m then f i else h (i - m)

def fOf : AV → Nat → AV
  | .arr _ _ f => f
  | _ => fun _ => .any

/-- A literal row of bytes that is more than a few: it becomes a row of one's own. -/
def bytesLit (z : AV) (k : Nat) : Bool := match z with
  | .val (.int .u8 _) => Nat.ble 8 k
  | _ => false

/-- What an operation that makes memory or writes gives. -/
def wpL (ρ : X → AV) (o : Objs) (n : Nat) (op : IOp) (K : AV → Objs → Nat → Prop) : Prop :=
  match op with
  | .alloc z => chk (Nat.blt n LENT) (K (.ptr n []) ((n, .box z) :: o) (n + 1))
  | .box x => chk (Nat.blt n LENT) <| chk (isAg (ρ x) || isCell (ρ x)) (K (.ptr n []) ((n, .box (ρ x)) :: o) (n + 1))
  | .sto sz x v => match ρ x with
    | .ptr b p => match lookO b o with
      | some (.box a) => chk (okNav p a) (chk (sizeIs (nav p a) sz) (chk (sizeIs (ρ v) sz) (chk (isAg (ρ v) || isCell (ρ v)) (K .any (setO b (.box (upd p (ρ v) a)) o) n))))
      | _ => False
    | _ => False
  | .alcN j z => match lookO (n - j) o with
    | some .soon => chk (Nat.ble j n) <| chk (Nat.blt (n - j) LENT) (K (.ptr (n - j) []) (setO (n - j) (.box z) o) n)
    | _ => False
  | .stoN j sz x v => match ρ x with
    | .ptr b p => chk (Nat.beq b (n - j)) (match lookO b o with
      | some (.box a) => chk (okNav p a) (chk (sizeIs (nav p a) sz) (chk (sizeIs (ρ v) sz) (chk (isAg (ρ v) || isCell (ρ v)) (K .any (setO b (.box (upd p (ρ v) a)) o) n))))
      | _ => False)
    | _ => False
  | .mkm k => chk (Nat.blt n LENT) (K (.mp n) ((n, .dict k (fun _ => none)) :: o) (n + 1))
  | .mupd k m key v => match ρ m with
    | .mp q => match lookO q o with
      | some (.dict k' f) => match ρ key with
        | .val (.int k2 x) => chk (kEq k k') <| chk (kEq k k2) (K .any (setO q (.dict k' (fun y => if y = x then some (ρ v) else f y)) o) n)
        | _ => False
      | _ => False
    | _ => False
  | .mget k z ok m key => match ρ m with
    | .mp q => match lookO q o with
      | some (.dict k' f) => match ρ key with
        | .val (.int k2 x) => chk (kEq k k') <| chk (kEq k k2) (match f x with
          | some v => K (match ok with | true => .tup (.cons v (.cons (.val (.bool true)) .nil)) | false => v) o n
          | none => K (match ok with | true => .tup (.cons z (.cons (.val (.bool false)) .nil)) | false => z) o n)
        | _ => False
      | _ => False
    | _ => False
  | .aps ty x y => match ρ x, ρ y with
    | .sli q lo m e1 ty1, .val (.string s) => match lookO q o with
      | some (.box (.arr m' e3 f)) => chk (Nat.blt q LENT) <| chk (Nat.blt n LENT) <| chk (Nat.beq lo 0) <| chk (Nat.beq e1 1) <| chk (Nat.beq e3 1) <| chk (Nat.beq ty ty1)
          (m = m' ∧ m + s.size ≤ 140737488355328 ∧ K (.sli n 0 (m + s.size) 1 ty) ((n, .box (.arr (m + s.size) 1 (appF m f (fun i => .val (.int .u8 (bt s i)))))) :: dropO q o) (n + 1))
      | _ => False
    | _, _ => False
  | .s2b ty x => match ρ x with
    | .val (.string s) => chk (Nat.blt n LENT) (s.size ≤ 140737488355328 ∧ K (.sli n 0 s.size 1 ty) ((n, .box (.arr s.size 1 (fun i => .val (.int .u8 (bt s i))))) :: o) (n + 1))
    | _ => False
  | .cvb x => match ρ x with
    | .sli b lo k e ty => match lookO b o with
      | some (.box _) => 0 < k ∧ K (.sli b lo k e ty) o n
      | _ => False
    | _ => False
  | .mks e by_ ty z l c => match ρ l, ρ c with
    | .val (.int _ m), .val (.int _ q) => chk (Nat.blt n LENT) ((0 ≤ m ∧ m ≤ q ∧ q * by_ ≤ 140737488355328) ∧ K (.sli n 0 m.toNat e ty) ((n, .box (.arr m.toNat e (fun _ => z))) :: o) (n + 1))
    | _, _ => False
  | .bsl e ty z l => chk (Nat.blt n LENT) <| chk (okParts ρ l (.arr l.length e (fun _ => z))) (match bytesLit z l.length with
      | true => K (.sli n 0 l.length e ty) ((n, .box (.arr l.length e (fOf (mkParts ρ l (.arr l.length e (fun _ => z)))))) :: o) (n + 1)
      | false => K (.lst (some n) l.length e (fOf (mkParts ρ l (.arr l.length e (fun _ => z))))) ((n, .room l.length e ty) :: o) (n + 1))
  | .app e by_ ty x y => match ρ x, ρ y with
    | .val (.slice none 0 0), .lst _ k e' h => chk (Nat.blt n LENT) <| chk (Nat.beq e e') (k * by_ ≤ 140737488355328 ∧ K (.lst (some n) k e h) ((n, .room k e ty) :: o) (n + 1))
    | .val (.slice none 0 0), .val (.slice none 0 0) => K (.val (.slice none 0 0)) o n
    | .sli q lo m e1 ty1, .val (.slice none 0 0) => K (.sli q lo m e1 ty1) o n
    | .lst tok m e1 f, .val (.slice none 0 0) => K (.lst tok m e1 f) o n
    | .sli q lo m e1 ty1, .lst _ k e2 h => match lookO q o with
      | some (.box (.arr m' e3 f)) => chk (Nat.blt q LENT) <| chk (Nat.blt n LENT) <| chk (Nat.beq lo 0) <| chk (Nat.beq e e1) <| chk (Nat.beq e e2) <| chk (Nat.beq e e3) <| chk (Nat.beq ty ty1)
          (m = m' ∧ (m + k) * by_ ≤ 140737488355328 ∧ K (.sli n 0 (m + k) e ty) ((n, .box (.arr (m + k) e (appF m f h))) :: dropO q o) (n + 1))
      | _ => False
    | .sli q lo m e1 ty1, .sli q2 lo2 k e2 _ => match lookO q o, lookO q2 o with
      | some (.box (.arr m' e3 f)), some (.box (.arr N2 e4 h)) => chk (Nat.blt q LENT) <| chk (Nat.blt n LENT) <| chk (Nat.beq lo 0) <| chk (Nat.beq e e1) <| chk (Nat.beq e e2) <| chk (Nat.beq e e3) <| chk (Nat.beq e e4) <| chk (Nat.beq ty ty1)
          (m = m' ∧ lo2 + k ≤ N2 ∧ (m + k) * by_ ≤ 140737488355328 ∧ K (.sli n 0 (m + k) e ty) ((n, .box (.arr (m + k) e (appF m f (fun i => h (lo2 + i))))) :: dropO q o) (n + 1))
      | _, _ => False
    | .lst (some t) m e1 f, .lst _ k e2 h => match lookO t o with
      | some (.room m' e3 ty') => chk (Nat.beq e e1) (chk (Nat.beq e e2) (chk (Nat.beq e e3) (chk (Nat.beq ty ty') (m = m' ∧ (m + k) * by_ ≤ 140737488355328 ∧ K (.lst (some t) (m + k) e (appF m f h)) (setO t (.room (m + k) e ty) o) n))))
      | _ => False
    | .lst (some t) m e1 f, .sli q2 lo2 k e2 _ => match lookO t o, lookO q2 o with
      | some (.room m' e3 ty'), some (.box (.arr N2 e4 h)) => chk (Nat.beq e e1) <| chk (Nat.beq e e2) <| chk (Nat.beq e e3) <| chk (Nat.beq e e4) <| chk (Nat.beq ty ty')
          (m = m' ∧ lo2 + k ≤ N2 ∧ (m + k) * by_ ≤ 140737488355328 ∧ K (.lst (some t) (m + k) e (appF m f (fun i => h (lo2 + i)))) (setO t (.room (m + k) e ty) o) n)
      | _, _ => False
    | _, _ => False
  | .appz e by_ ty z x c => match ρ x, ρ c with
    | .sli q lo m e1 ty1, .val (.int _ k) => match lookO q o with
      | some (.box (.arr m' e3 f)) => chk (Nat.blt q LENT) <| chk (Nat.blt n LENT) <| chk (Nat.beq lo 0) <| chk (Nat.beq e e1) <| chk (Nat.beq e e3) <| chk (Nat.beq ty ty1)
          (m = m' ∧ 0 ≤ k ∧ ((m : Int) + k) * by_ ≤ 140737488355328 ∧ K (.sli n 0 (m + k.toNat) e ty) ((n, .box (.arr (m + k.toNat) e (appF m f (fun _ => z)))) :: dropO q o) (n + 1))
      | _ => False
    | _, _ => False
  | _ => False

/-- What an operation does: the world goes on to one that reads as the new state. -/
def Does (P : Program) (gl : Nat → AV) (N : Nat) (g : Gh) (w : World) (E : Nat → AV) (o : Objs) (n : Nat) (a : Act) (oo : Oper) (K : AV → Objs → Nat → Prop) : Prop :=
  ∃ v nx w' g' o' n', (execOp a.eval oo).run P w = .ok nx w' ∧ (∃ cv, (nx = .value cv ∨ (nx = .skip ∧ cv = undef)) ∧ (R g' w' v).v cv) ∧ Good P gl N g' w' E o' n' a ∧ Stp g w o g' w' o' ∧ K v o' n'

theorem does_sem {oo : Oper} {K : AV → Objs → Nat → Prop} {s : Sem Value} (he : execOp a.eval oo = (do pure (.value (← s)))) {v : AV} {cv : Value} {w' : World} {g' : Gh} {o' : Objs} {n' : Nat}
    (hr : s.run P w = .ok cv w') (hv : (R g' w' v).v cv) (hg : Good P gl N g' w' E o' n' a) (hs : Stp g w o g' w' o') (hK : K v o' n') : Does P gl N g w E o n a oo K :=
  ⟨v, .value cv, w', g', o', n', by rw [he]; simp only [Sem.run_bind, hr, Result.andThen_ok, Sem.run_pure], ⟨cv, .inl rfl, hv⟩, hg, hs, hK⟩

theorem ok_alloc (h : Good P gl N g w E o n a) {oo : Oper} {t : TypeId} {z : AV} (ho : oo.op = .alloc t) (hz : zOk P t z = true) {K : AV → Objs → Nat → Prop} (hw : wpL (evF gl E) o n (.alloc z) K) : Does P gl N g w E o n a oo K := by
  simp only [wpL, chk_iff] at hw
  obtain ⟨hL, hw⟩ := hw
  have hL : n < LENT := Nat.le_of_ble_eq_true hL
  obtain ⟨i, v, hi, hv, hcl, hcells⟩ := zOk_spec hz
  have hlen : v.cells.size = size z := by rw [hcells, List.size_toArray, cellsOf_length z hcl]
  obtain ⟨g', h1, h2, h3⟩ := good_box h (ty := t) (Nat.le_of_eq hlen.symm) (closed_seg z hcl (fun j hj => by rw [Nat.zero_add]; show v.cells[j]? = _; rw [hcells]; simp)) hL
  refine does_sem (s := Instr.alloc t true (.tuple #[])) (by unfold execOp; rw [ho]) ?_ h3 h1 h2 hw
  simp only [Instr.alloc, Sem.run_bind, run_zero hi hv, Result.andThen_ok, newVar, newRow, run_newObj, Sem.run_pure]

theorem ok_box (h : Good P gl N g w E o n a) {oo : Oper} {t : TypeId} {x : Operand} (ho : oo.op = .box t x) {K : AV → Objs → Nat → Prop} (hw : wpL (evF gl E) o n (.box (cx x)) K) : Does P gl N g w E o n a oo K := by
  simp only [wpL, chk_iff] at hw
  obtain ⟨hL, hw⟩ := hw
  have hL : n < LENT := Nat.le_of_ble_eq_true hL
  have hx := ev_ok h x
  obtain ⟨g', h1, h2, h3⟩ := good_box h (ty := t) (Nat.le_of_eq (size_ag hw.1 hx).symm) (cells_seg hw.1 hx) hL
  refine does_sem (s := Instr.box t (a.eval x)) (by unfold execOp; rw [ho]) ?_ h3 h1 h2 hw.2
  simp only [Instr.box, newVar, newRow, Sem.run_bind, run_newObj, Result.andThen_ok, Sem.run_pure]

theorem cell1 {v : Value} (h : cellV v) : v.oneCell' = true := by cases v <;> first | rfl | exact h.elim

theorem ok_sto (h : Good P gl N g w E o n a) {oo : Oper} {t : TypeId} {x v : Operand} {i : TypeInfo} (ho : oo.op = .store t x v) (hi : P.info? t = some i) {K : AV → Objs → Nat → Prop}
    (hw : wpL (evF gl E) o n (.sto i.size (cx x) (cx v)) K) : Does P gl N g w E o n a oo K := by
  have hx := ev_ok h x
  have hv := ev_ok h v
  simp only [wpL] at hw
  split at hw
  · rename_i b p hev
    split at hw
    · rename_i z hb
      simp only [chk_iff] at hw
      obtain ⟨h1, h2, h3, h4, hK⟩ := hw
      rw [hev] at hx
      obtain ⟨q, cs, ty, hq, hc, hs, hu, hseg, hn, hle, hp⟩ := box_seg h hx hb h1
      have h2 := sizeIs_eq h2
      have h3 := sizeIs_eq h3
      have hsz := size_ag h4 hv
      have hvs := cells_seg h4 hv
      have hl : (a.eval v).cells.toList.length = i.size := by simp [hsz, h3]
      have hst := run_storeCells_cel P q.1 (q.2 + offP p) ty (a.eval v).cells.toList 0 cs w hc (by rw [hl]; omega) (fun u hu => by
        obtain ⟨j, hj⟩ := List.mem_iff_getElem?.1 hu
        have hjl : j < (a.eval v).cells.size := by simpa using (List.getElem?_eq_some_iff.1 hj).1
        obtain ⟨u', h5, h6⟩ := seg_cells _ hvs j (by omega)
        simp only [Nat.zero_add] at h5
        rw [Array.getElem?_toList, h5] at hj
        injection hj with hj
        subst hj
        exact cell1 h6)
      simp only [Nat.add_zero] at hst
      generalize hcs' : (cs.toList.take (q.2 + offP p) ++ (a.eval v).cells.toList ++ cs.toList.drop (q.2 + offP p + (a.eval v).cells.toList.length)).toArray = cs' at hst
      have hcs : cs.toList.length = cs.size := by simp
      have hcsz : cs'.size = cs.size := by
        rw [← hcs']
        simp only [List.size_toArray, List.length_append, List.length_take, List.length_drop, hl, hcs]
        omega
      have hget : ∀ j, cs'[j]? = if q.2 + offP p ≤ j ∧ j < q.2 + offP p + i.size then (a.eval v).cells[j - (q.2 + offP p)]? else cs[j]? := by
        intro j
        rw [← hcs']
        simp only [List.getElem?_toArray]
        have ht : (cs.toList.take (q.2 + offP p)).length = q.2 + offP p := by simp [hcs]; omega
        by_cases hj : j < q.2 + offP p
        · have hne : ¬ (q.2 + offP p ≤ j ∧ j < q.2 + offP p + i.size) := by omega
          rw [if_neg hne, List.append_assoc, List.getElem?_append_left (by omega), List.getElem?_take_of_lt hj, Array.getElem?_toList]
        · rw [List.append_assoc, List.getElem?_append_right (by omega), ht]
          by_cases hj2 : j < q.2 + offP p + i.size
          · rw [if_pos ⟨by omega, hj2⟩, List.getElem?_append_left (by omega), Array.getElem?_toList]
          · have hne : ¬ (q.2 + offP p ≤ j ∧ j < q.2 + offP p + i.size) := by omega
            rw [if_neg hne, List.getElem?_append_right (by omega), List.getElem?_drop, hl]
            rw [show q.2 + offP p + i.size + (j - (q.2 + offP p) - i.size) = j by omega, Array.getElem?_toList]
      have hsegc : (R g w z).s (fun j => cs[j]?) q.2 := by rw [look_cel hc] at hseg; exact hseg
      obtain ⟨u1, u2⟩ := seg_upd p (lk' := fun j => cs'[j]?) h1 hp hsegc (by omega) (R_look (fun j hj => by
          show cs'[q.2 + offP p + j]? = (a.eval v).cells[0 + j]?
          rw [Nat.zero_add, hget, if_pos ⟨by omega, by omega⟩]
          congr 1; omega) hvs) (fun j hj hn => by
          show cs'[q.2 + j]? = cs[q.2 + j]?
          rw [hget, if_neg (by omega)])
      obtain ⟨k1, k2⟩ := good_store h (y := upd p (evF gl E (cx v)) z) hb hq hc hcsz u2 hs u1 (fun j hj => by rw [hget, if_neg (by omega)])
      refine ⟨.any, .skip, _, g, _, n, ?_, ⟨undef, .inr ⟨rfl, rfl⟩, trivial⟩, k1, k2, hK⟩
      unfold execOp
      rw [ho]
      simp only [Instr.storeAt, hu, Instr.sureAddr, storeVar, Sem.run_bind, Sem.run_pure, Result.andThen_ok, run_sizeOf' hi]
      have e1 : ¬ (a.eval v).cells.size ≠ i.size := by rw [hsz, h3]; simp
      simp only [e1, if_false, Result.andThen_ok, hst]
    · exact hw.elim
  · exact hw.elim

theorem row_of {w' : World} {g' : Gh} {b m e : Nat} {f : Nat → AV} {cs : Array Value} {ty : TypeId} (hb : Cel w' (b) cs ty) (hG : m * e ≤ g'.G b)
    (hf : ∀ i, i < m → size (f i) = e ∧ (R g' w' (f i)).s (fun j => cs[j]?) (i * e)) : Row w' g'.G m e (fun i => size (f i)) (fun i => (R g' w' (f i)).s) ⟨b, 0, none⟩ := by
  refine ⟨fun _ => rfl, fun _ => by simpa using hG, fun i hi => ⟨(hf i hi).1, ?_⟩⟩
  rw [look_cel hb, Nat.zero_add]
  exact (hf i hi).2

/-- A new growing row in a new block. -/
theorem good_row (h : Good P gl N g w E o n a) {w1 : World} (hd : Drawn w w1) {m e c : Nat} {f : Nat → AV} {cs : Array Value} {ty : TypeId} (hc : cs.size = c * e) (hL : n < LENT) (hm : m ≤ c) (hcm : c ≤ 9223372036854775807)
    (hf : ∀ i, i < m → size (f i) = e ∧ (R g w (f i)).s (fun j => cs[j]?) (i * e)) :
    ∃ g', Good P gl N g' (w1.alloc (.cells cs ty)) E ((n, .room m e ty) :: o) (n + 1) a ∧ Stp g w o g' (w1.alloc (.cells cs ty)) ((n, .room m e ty) :: o) ∧
      (R g' (w1.alloc (.cells cs ty)) (.lst (some n) m e f)).v (.slice (some ⟨w1.heap.size, 0, none⟩) m c) := by
  have h1 := h.drawn hd
  let w' : World := w1.alloc (.cells cs ty)
  let g' : Gh := { g with r := fun k => if k = n then some (some w1.heap.size, m) else g.r k, G := fun b => if b = w1.heap.size then m * e else g.G b }
  have hold : ∀ b, b < w1.heap.size → w'.heap[b]? = w1.heap[b]? := fun b hb => heap_push_old w1 _ hb
  have hnew : Cel w' (w1.heap.size) cs ty := .mk0 (heap_push w1 _)
  have hsz : w'.heap.size = w1.heap.size + 1 := by show (w1.heap.push _).size = _; simp
  have hr : ∀ k p, g.r k = some p → g'.r k = some p := fun k p hk => by
    have := h.rlt k p hk
    show (if k = n then _ else _) = _
    rw [if_neg (by omega)]; exact hk
  have hG : ∀ b, b < w1.heap.size → g'.G b = g.G b := fun b hb => by show (if b = w1.heap.size then _ else _) = _; rw [if_neg (by omega)]
  have hGn : g'.G w1.heap.size = m * e := by show (if _ then _ else _) = _; rw [if_pos rfl]
  have hev : Ev g w1 g' w' := ⟨fun _ _ h => h, fun t ob N ht => ⟨ob, N, hr t _ ht, Nat.le_refl _, fun _ => rfl⟩, fun b off ho => cell_old (hold b (pub_lt h1 ho)), fun b => by
      by_cases hb : b = w1.heap.size
      · subst hb; rw [h1.gz _ (Nat.le_refl _)]; exact Nat.zero_le _
      · show _ ≤ (if b = w1.heap.size then _ else _); rw [if_neg hb]; exact Nat.le_refl _,
    fun b c t hb => ⟨c, by rw [cel_eq (hold b (lt_of_cel hb))]; exact hb, rfl⟩⟩
  have hle : m * e ≤ cs.size := by rw [hc]; exact Nat.mul_le_mul_right e hm
  obtain ⟨k1, k2⟩ := good_new h1 (w' := w') (g' := g') (x := .room m e ty) hev (by omega) hold (fun _ _ => rfl) (fun k hk => by show (if k = n then _ else _) = _; rw [if_neg hk]) hG
    (fun b hb => by show (if b = w1.heap.size then _ else _) = _; rw [if_neg (by omega)]; exact h1.gz b (by omega)) (fun b hb => by simp [blkOf, g'] at hb; omega)
    ⟨some w1.heap.size, by simp [g'], ⟨by simp, fun h5 => by omega⟩, fun b hb => by injection hb with hb; subst hb; exact ⟨hGn, cs, _, hnew, hle⟩⟩ rfl rfl hL
  refine ⟨g', k1, (hd.stp g o).trans k2, ⟨some ⟨w1.heap.size, 0, none⟩, c, rfl, hm, ⟨some w1.heap.size, m, by simp [g'], Nat.le_refl _, fun _ => ⟨rfl, fun b hb => ?_⟩⟩, ?_⟩, csl (by first | omega | (simp only [maxLen] at *; omega))⟩
  · injection hb with hb; subst hb; exact ⟨cs, ty, hnew, Nat.le_of_eq hc.symm, hcm⟩
  · exact row_of hnew (Nat.le_of_eq hGn.symm) (fun i hi => ⟨(hf i hi).1, (R_ev ((hd.ev g).trans hev) _).s _ _ _ _ (fun _ _ => rfl) (hf i hi).2⟩)

theorem ok_bsl (h : Good P gl N g w E o n a) {oo : Oper} {t e : TypeId} {len : Nat} {l : Array (Nat × Operand)} {i : TypeInfo} {z : AV} (ho : oo.op = .buildSlice t len l) (hd : P.underlying t = some (.slice e)) (hi : P.info? e = some i)
    (hz : zOk P e z = true) (hsz : size z = i.size) (hlen : (partsA i.size l.toList).length = len) (hmax : len * i.size ≤ 16777216) (hpos : 0 < i.size) {K : AV → Objs → Nat → Prop}
    (hw : wpL (evF gl E) o n (.bsl i.size e z (partsA i.size l.toList)) K) : Does P gl N g w E o n a oo K := by
  simp only [wpL, chk_iff] at hw
  obtain ⟨hL, h1, hK⟩ := hw
  have hL : n < LENT := Nat.le_of_ble_eq_true hL
  rw [hlen] at h1 hK
  obtain ⟨i', v, hi', hv, hcl, hcells⟩ := zOk_spec hz
  obtain rfl : i = i' := by rw [hi] at hi'; injection hi'
  have hvs : v.cells.size = i.size := by rw [hcells, List.size_toArray, cellsOf_length z hcl, hsz]
  have he : execOp a.eval oo = (do pure (.value (← Instr.buildSlice t len (l.map fun (k, x) => (k, a.eval x))))) := by unfold execOp; rw [ho]
  let zero : Array Value := if len * i.size = 0 then #[] else v.cells
  let cells : Array Value := (Array.range (len * i.size)).map (zero[· % zero.size]!)
  have hcs : cells.size = len * i.size := by simp [cells]
  have hseg : (R g w (.arr len i.size (fun _ => z))).s (fun j => cells[j]?) 0 := by
    intro q hq
    refine ⟨hsz, closed_seg z hcl (fun j hj => ?_)⟩
    rw [hsz] at hj
    have hlt := mul_add_lt hq hj
    have hne : len * i.size ≠ 0 := by omega
    have hzz : zero = v.cells := if_neg hne
    have hq' : q * i.size + j < (Array.range (len * i.size)).size := by simpa using hlt
    show cells[0 + q * i.size + j]? = (cellsOf z)[j]?
    simp only [cells, Nat.zero_add, Array.getElem?_map, Array.getElem?_range, hlt, if_true, Option.map_some, hzz]
    have hmod : (q * i.size + j) % v.cells.size = j := by
      rw [hvs, Nat.add_comm, Nat.add_mul_mod_self_right, Nat.mod_eq_of_lt hj]
    rw [hmod, hcells]
    have hj' : j < (cellsOf z).length := by rw [cellsOf_length z hcl, hsz]; exact hj
    simp [hj']
  obtain ⟨cells', d1, d2, d3, d4⟩ := fill_ok (g := g) (w := w) (evF gl E) a.eval (fun x => ev_ok h x) _ l.toList _ (.arr len i.size (fun _ => z)) cells (prel_a l.toList) h1 rfl hseg (by rw [hcs]; rfl)
  have harr : ∀ (ps : List (Nat × Nat × Nat × X)) (f : Nat → AV), ∃ f', mkParts (evF gl E) ps (.arr len i.size f) = .arr len i.size f' := by
    intro ps
    induction ps with
    | nil => intro f; exact ⟨f, rfl⟩
    | cons p r ih => intro f; obtain ⟨k, off, sz, x⟩ := p; exact ih _
  obtain ⟨f', hf'⟩ := harr (partsA i.size l.toList) (fun _ => z)
  rw [hf'] at d2 d3 hK
  have hrun : (Instr.buildSlice t len (l.map fun (k, x) => (k, a.eval x))).run P w = .ok (.slice (some ⟨w.heap.size, 0, none⟩) len len) (w.alloc (.cells cells' e)) := by
    have hl : (l.map fun (k, x) => (k, a.eval x)).toList = l.toList.map fun q => (q.1, a.eval q.2) := by simp
    have hmax' : ¬ (len * i.size > 2 ^ 24) := by omega
    simp only [Instr.buildSlice, Sem.run_bind, run_underlying' hd, Result.andThen_ok, run_sizeOf' hi, hmax', if_false]
    have hfin : ∀ zz : Array Value, zz = zero → (do
        match Instr.fill (fun q => some (q * i.size, i.size)) ((Array.range (len * i.size)).map (zz[· % zz.size]!)) (l.map fun (k, x) => (k, a.eval x)).toList with
        | some cells => do pure (Value.slice (some (← newRow e cells)) len len)
        | _ => stuck "buildSlice: a part of the wrong size" : Sem Value).run P w = .ok (.slice (some ⟨w.heap.size, 0, none⟩) len len) (w.alloc (.cells cells' e)) := by
      rintro zz rfl
      rw [hl, d1]
      rfl
    by_cases h0 : len * i.size = 0
    · rw [if_pos h0]
      exact hfin #[] (if_pos h0).symm
    · rw [if_neg h0]
      simp only [Sem.run_bind, run_zero hi hv, Result.andThen_ok]
      exact hfin v.cells (if_neg h0).symm
  have hlen0 : len ≤ 16777216 := by
    rcases Nat.eq_zero_or_pos i.size with h0 | h0
    · omega
    · have : len * 1 ≤ len * i.size := Nat.mul_le_mul_left len h0
      omega
  cases hbl : bytesLit z len with
  | true =>
    rw [hbl] at hK
    obtain ⟨g', k1, k2, k3, k4⟩ := good_vec h (Drawn.refl w) (z := .arr len i.size f') (cs := cells') (ty := e) (by rw [d2]; exact Nat.le_refl _) d3 hL
    exact does_sem he hrun (v := .sli n 0 len i.size e) ⟨.inr ⟨_, len, k3, Nat.le_refl _, by simp, by omega, _, _, .mk0 k4, by rw [d2]; simp [size]⟩, csl (by omega)⟩ k1 k2 hK
  | false =>
    rw [hbl] at hK
    obtain ⟨g', k1, k2, k3⟩ := good_row h (Drawn.refl w) (m := len) (c := len) (f := f') (cs := cells') (ty := e) d2 hL (Nat.le_refl _) (by
        rcases Nat.eq_zero_or_pos i.size with h0 | h0
        · omega
        · have : len * 1 ≤ len * i.size := Nat.mul_le_mul_left len h0
          omega)
      (fun q hq => ⟨(d3 q hq).1, by have := (d3 q hq).2; rwa [Nat.zero_add] at this⟩)
    exact does_sem he hrun k3 k1 k2 hK

theorem row_news {A : Addr} {G : Nat → Nat} {k e : Nat} {h : Nat → AV} (hr : Row w G k e (fun i => size (h i)) (fun i => (R g w (h i)).s) A) :
    ∃ news : List Value, news.length = k * e ∧ (∀ j u, news[j]? = some u → w.cell? (A.add j) = some u) ∧ (∀ u ∈ news, u.oneCell' = true) ∧ ∀ i, i < k → size (h i) = e ∧ (R g w (h i)).s (fun j => news[j]?) (i * e) := by
  obtain ⟨hs, _, hc⟩ := hr
  by_cases hk0 : k = 0
  · subst hk0
    exact ⟨[], by simp, fun j u hu => by simp at hu, fun u hu => by simp at hu, fun i hi => by omega⟩
  have hs := hs (by omega)
  obtain ⟨Ab, Ao, As⟩ := A
  simp only at hs
  subst hs
  have cell : ∀ j, j < k * e → ∃ u, look w Ab (Ao + j) = some u ∧ cellV u := by
    intro j hj
    have he : 0 < e := Nat.pos_of_ne_zero (by rintro rfl; simp at hj)
    have hi : j / e < k := Nat.div_lt_of_lt_mul (by rwa [Nat.mul_comm] at hj)
    obtain ⟨h1, h2⟩ := hc (j / e) hi
    have h1 : size (h (j / e)) = e := h1
    obtain ⟨u, h3, h4⟩ := seg_cells _ h2 (j % e) (by rw [h1]; exact Nat.mod_lt _ he)
    refine ⟨u, ?_, h4⟩
    rw [← h3]
    show look w Ab (Ao + j) = look w Ab (Ao + j / e * e + j % e)
    congr 1
    have := Nat.div_add_mod j e
    rw [Nat.mul_comm] at this
    omega
  have hget : ∀ j, j < k * e → ((List.range (k * e)).map fun j => (look w Ab (Ao + j)).getD undef)[j]? = look w Ab (Ao + j) := by
    intro j hj
    obtain ⟨u, hu, _⟩ := cell j hj
    simp [hj, hu]
  refine ⟨(List.range (k * e)).map fun j => (look w Ab (Ao + j)).getD undef, by simp, fun j u hu => ?_, fun u hu => ?_, fun i hi => ⟨(hc i hi).1, R_look (fun j hj => ?_) (hc i hi).2⟩⟩
  · have hj : j < k * e := by have := (List.getElem?_eq_some_iff.1 hu).1; simpa using this
    rw [hget j hj] at hu
    rw [addr_add]; exact hu
  · obtain ⟨j, hj, rfl⟩ := List.mem_map.1 hu
    obtain ⟨v, hv, hc⟩ := cell j (by simpa using hj)
    rw [hv]; exact cell1 hc
  · have hs : size (h i) = e := (hc i hi).1
    have := mul_add_lt hi (hs ▸ hj)
    show ((List.range (k * e)).map fun j => (look w Ab (Ao + j)).getD undef)[i * e + j]? = _
    rw [hget _ this, Nat.add_assoc]

theorem seg_app {m k e : Nat} {f h : Nat → AV} {lk lk1 lk2 : Nat → Option Value} (hf : ∀ i, i < m → size (f i) = e ∧ (R g w (f i)).s lk1 (i * e)) (hh : ∀ i, i < k → size (h i) = e ∧ (R g w (h i)).s lk2 (i * e))
    (h1 : ∀ j, j < m * e → lk j = lk1 j) (h2 : ∀ j, j < k * e → lk (m * e + j) = lk2 j) : ∀ i, i < m + k → size (appF m f h i) = e ∧ (R g w (appF m f h i)).s lk (i * e) := by
  intro i hi
  unfold appF
  by_cases hlt : i < m
  · rw [if_pos hlt]
    obtain ⟨a1, a2⟩ := hf i hlt
    exact ⟨a1, R_look (fun j hj => h1 _ (mul_add_lt hlt (a1 ▸ hj))) a2⟩
  · rw [if_neg hlt]
    obtain ⟨q, rfl⟩ : ∃ q, i = m + q := ⟨i - m, by omega⟩
    rw [show m + q - m = q by omega]
    obtain ⟨a1, a2⟩ := hh q (by omega)
    refine ⟨a1, R_look (fun j hj => ?_) a2⟩
    rw [Nat.add_mul, Nat.add_assoc]
    exact h2 _ (mul_add_lt (by omega) (a1 ▸ hj))

theorem run_append_room_cel {P : Program} (w : World) (t ty e : TypeId) (i : TypeInfo) (ht : P.underlying t = some (.slice e)) (hi : P.info? e = some i)
    (g sLen sCap : Nat) (cur : Array Value) {e' : TypeId} (hg : Cel w g cur e')
    (a : Addr) (m c : Nat) (news : List Value) (hl : news.length = m * i.size) (hnews : ∀ j u, news[j]? = some u → w.cell? (a.add j) = some u) (h1 : ∀ u ∈ news, u.oneCell' = true)
    (hroom : sLen + m ≤ sCap) (hfit : sLen * i.size + news.length ≤ cur.size) :
    (Builtin.append_ #[t, t] ty #[.slice (some ⟨g, 0, none⟩) sLen sCap, .slice (some a) m c]).run P w =
      .ok (.slice (some ⟨g, 0, none⟩) (sLen + m) sCap) (w.setRow g (cur.toList.take (sLen * i.size) ++ news ++ cur.toList.drop (sLen * i.size + news.length)).toArray) := by
  have hf := run_firstCells_some (P := P) w i.size m a m c news hl hnews
  have hst := run_storeCells_cel P g (sLen * i.size) _ news 0 cur w hg (by simpa using hfit) h1
  simp only [Nat.add_zero] at hst
  simp [Builtin.append_, run_underlying ht, Go.sizeOf, typeInfo, hi, Builtin.lenOf, hroom, hf, Addr.add_lit, hst]

theorem run_append_zero {t ty e : TypeId} {i : TypeInfo} (ht : P.underlying t = some (.slice e)) (hi : P.info? e = some i) {ob oa : Option Addr} {m cb c : Nat} (hm : m ≤ cb) :
    (Builtin.append_ #[t, t] ty #[.slice ob m cb, .slice oa 0 c]).run P w = .ok (.slice ob m cb) w := by
  have e1 : (#[t, t] : Array TypeId)[0]? = some t := rfl
  have e2 : (#[.slice ob m cb, .slice oa 0 c] : Array Value)[0]? = some (.slice ob m cb) := rfl
  have e3 : (#[.slice ob m cb, .slice oa 0 c] : Array Value)[1]? = some (.slice oa 0 c) := rfl
  have e4 : (#[t, t] : Array TypeId)[1]? = some t := rfl
  have hf : (Builtin.firstCells i.size 0 (.slice oa 0 c)).run P w = .ok #[] w := by
    cases oa <;> simp [Builtin.firstCells, loadCells, loadCellsFrom]
  simp only [Builtin.append_, e1, e2, e3, e4, Sem.run_bind, run_underlying' ht, Result.andThen_ok, run_sizeOf' hi, Sem.run_pure, Bool.false_eq_true, if_false, Builtin.lenOf, Nat.add_zero, hm, if_true]
  cases ob <;> simp [storeCells, hf]

theorem exec_app {ρ : Operand → Value} {oo : Oper} {c : Call} {x y : Operand} {t : TypeId} (ho : oo.op = .call c) (hb : c.callee = .builtin .append) (hx : c.args.toList = [x, y]) (ht : c.argTypes.toList = [t, t]) :
    execOp ρ oo = (do pure (.value (← Builtin.append_ #[t, t] oo.type #[ρ x, ρ y]))) := by
  have he : execOp ρ oo = (do pure (.value (← Builtin.append_ c.argTypes oo.type (c.args.map ρ)))) := exec_builtin ho hb
  have hargs : c.args = #[x, y] := by rw [← Array.toArray_toList (xs := c.args), hx]
  have hts : c.argTypes = #[t, t] := by rw [← Array.toArray_toList (xs := c.argTypes), ht]
  rw [hargs, hts] at he
  simpa only [List.map_toArray, List.map_cons, List.map_nil] using he

theorem setO_self (t : Nat) (x : AObj) : ∀ (o : Objs), lookO t o = some x → setO t x o = o
  | [], h => by simp [lookO] at h
  | (k, y) :: r, h => by
    rw [lookO_cons] at h
    by_cases e : k = t
    · subst e
      rw [if_pos rfl] at h
      injection h with h
      subst h
      simp [setO]
    · rw [if_neg e] at h
      simp only [setO, beq_of_ne e, setO_self t x r h]

/-- A row of one's own grows. -/
theorem does_appG (h : Good P gl N g w E o n a) {oo : Oper} {t tx e : TypeId} {i : TypeInfo} {z : Value}
    (hd : P.underlying t = some (.slice e)) (hi : P.info? e = some i) (hz : i.zero = some z) (hzs : z.cells.size = i.size) (hpos : 0 < i.size) (hby : 0 < i.bytes) {K : AV → Objs → Nat → Prop}
    {q M k : Nat} {f fh : Nat → AV} {u1 u2 : Value} (hux : (R g w (.sli q 0 M i.size e)).v u1) (hy : ∃ news : List Value, news.length = k * i.size ∧ (∀ u ∈ news, u.oneCell' = true) ∧ (∀ q, q < k → size (fh q) = i.size ∧ (R g w (fh q)).s (fun j => news[j]?) (q * i.size)) ∧
      (k = 0 → ∀ (ob : Option Addr) (m cb : Nat), m ≤ cb → (Builtin.append_ #[t, tx] oo.type #[.slice ob m cb, u2]).run P w = .ok (.slice ob m cb) w) ∧
      (0 < k → (Builtin.append_ #[t, tx] oo.type #[.slice none 0 0, u2]).run P w = .ok (.slice (some ⟨w.heap.size, 0, none⟩) k (grownCap w k 0 e)) (w.drew.alloc (.cells (news.toArray ++ Builtin.zeroCells z.cells (grownCap w k 0 e - k)) e))) ∧
      (0 < k → ∀ (b M c : Nat) (cur : Array Value) (ty' : TypeId), Cel w b cur ty' → M + k ≤ c → M * i.size + news.length ≤ cur.size →
        (Builtin.append_ #[t, tx] oo.type #[.slice (some ⟨b, 0, none⟩) M c, u2]).run P w = .ok (.slice (some ⟨b, 0, none⟩) (M + k) c) (w.setRow b (cur.toList.take (M * i.size) ++ news ++ cur.toList.drop (M * i.size + news.length)).toArray)) ∧
      (0 < k → ∀ (b : Addr) (M c : Nat) (olds : List Value), olds.length = M * i.size → (∀ j v, olds[j]? = some v → w.cell? (b.add j) = some v) → c < M + k → (M + k) * i.bytes ≤ 140737488355328 →
        (Builtin.append_ #[t, tx] oo.type #[.slice (some b) M c, u2]).run P w = .ok (.slice (some ⟨w.heap.size, 0, none⟩) (M + k) (grownCap w (M + k) c e))
          (w.drew.alloc (.cells (olds.toArray ++ news.toArray ++ Builtin.zeroCells z.cells (grownCap w (M + k) c e - (M + k))) e)))) (hlo : lookO q o = some (.box (.arr M i.size f))) (hqL : q < LENT) (hL : n < LENT)
    (hbd : (M + k) * i.bytes ≤ 140737488355328) (he : execOp a.eval oo = (do pure (.value (← Builtin.append_ #[t, tx] oo.type #[u1, u2])))) (hK : K (.sli n 0 (M + k) i.size e) ((n, .box (.arr (M + k) i.size (appF M f fh))) :: dropO q o) (n + 1)) :
    Does P gl N g w E o n a oo K := by
  have small : ∀ {m : Nat}, m * i.bytes ≤ 140737488355328 → m ≤ 140737488355328 := fun {m} hm => Nat.le_trans (Nat.le_mul_of_pos_right m hby) hm
  have hsm := small hbd
  obtain ⟨news, hl, h1, hs, yz, yn, yr, yg⟩ := hy
  obtain ⟨hdr1, hdr2⟩ := good_drop h q
  rcases hux with ⟨⟨hM0, hux⟩ | ⟨b, c, hb, hMc, hux, hcm, cur, tyc, hcur, hfitc⟩, _⟩
  · -- a nil slice
    subst hM0 hux
    have hobj := h.objs q _ hlo
    rcases Nat.eq_zero_or_pos k with rfl | hk
    · -- nothing is added: a new name for no block
      have hev : Ev g w g w := Ev.refl g w
      have hfresh : g.m n = none := by
        cases hgm : g.m n with
        | none => rfl
        | some p => exact absurd (h.mlt n p hgm) (by omega)
      obtain ⟨k1, k2⟩ := good_new hdr1 (w' := w) (g' := g) (x := .box (.arr (0 + 0) i.size (appF 0 f fh))) hev (Nat.le_refl _) (fun _ _ => rfl) (fun _ _ => rfl) (fun _ _ => rfl) (fun _ _ => rfl) h.gz
        (fun b hb => by simp [blkOf, hfresh] at hb) (.inl ⟨hfresh, by simp [size]⟩) rfl rfl hL
      exact does_sem he (yz rfl none 0 0 (Nat.le_refl 0)) (v := .sli n 0 (0 + 0) i.size e) ⟨.inl ⟨rfl, rfl⟩, csl (by first | omega | (simp only [maxLen] at *; omega))⟩ k1 (hdr2.trans k2) hK
    ·
        have hr := yn hk
        have hge := grownCap_ge w k 0 e
        let cs : Array Value := news.toArray ++ Builtin.zeroCells z.cells (grownCap w k 0 e - k)
        have hcs : cs.size = grownCap w k 0 e * i.size := by
          show (news.toArray ++ Builtin.zeroCells z.cells _).size = _
          simp only [Array.size_append, List.size_toArray, size_zeroCells, hzs, hl, ← Nat.add_mul]; congr 1; omega
        have hcap := grownCap_le_maxLen w k 0 e (by simp only [maxLen]; omega)
        obtain ⟨g', k1, k2, k3, k4⟩ := good_vec hdr1 (w1 := w.drew) ⟨rfl, rfl, rfl⟩ (z := .arr (0 + k) i.size (appF 0 f fh)) (cs := cs) (ty := e)
          (by simp only [size, Nat.zero_add, hcs]; exact Nat.mul_le_mul_right _ hge) (fun q hq => by
            have hq' := hs q (by omega)
            have e1 : appF 0 f fh q = fh q := by simp [appF]
            rw [e1]
            refine ⟨hq'.1, R_look (fun j hj => ?_) hq'.2⟩
            have hlt := mul_add_lt (show q < k by omega) (hq'.1 ▸ hj)
            show cs[0 + q * i.size + j]? = news[q * i.size + j]?
            simp only [Nat.zero_add, cs, Array.getElem?_append, List.size_toArray, hl, hlt, if_true, List.getElem?_toArray]) hL
        refine does_sem he hr (v := .sli n 0 (0 + k) i.size e) ⟨.inr ⟨_, grownCap w k 0 e, k3, by omega, by simp only [Nat.zero_add, Nat.zero_mul]; rfl, by simp only [maxLen] at hcap; omega, cs, _, .mk0 k4, by simp only [Nat.zero_add, hcs]; exact Nat.le_refl _⟩, csl (by first | omega | (simp only [maxLen] at *; omega))⟩ k1 (hdr2.trans k2) hK
  · -- a slice of a block
    obtain ⟨h0, _⟩ | ⟨b', cs0, ty0, c1, c2, c3, c4, c5, c6⟩ := h.objs q _ hlo
    · rw [hb] at h0; cases h0
    rw [hb] at c1
    injection c1 with c1
    subst c1
    obtain ⟨b, boff⟩ := b
    have c6 : boff = 0 := c6 hqL
    subst c6
    simp only [Nat.zero_mul, Nat.add_zero, Nat.zero_add] at *
    obtain ⟨c3, c7⟩ := hcur.inj c3
    subst c3 c7 hux
    have hfold : ∀ q, q < M → size (f q) = i.size ∧ (R g w (f q)).s (fun j => cur[j]?) (q * i.size) := fun q hq => by
      obtain ⟨b1, b2⟩ := c5 q hq
      rw [look_cel hcur, Nat.zero_add] at b2
      exact ⟨b1, b2⟩
    have hMc' : M * i.size ≤ cur.size := Nat.le_trans (Nat.mul_le_mul_right _ hMc) hfitc
    rcases Nat.eq_zero_or_pos k with rfl | hk
    · obtain ⟨g', k1, k2, k3⟩ := good_take h (y := .arr (M + 0) i.size (appF M f fh)) (w' := w) hlo hqL hb hcur hcur (fun _ _ => rfl) rfl rfl rfl rfl (by simpa [size] using hMc') (fun q hq => by
        have : appF M f fh q = f q := by simp only [appF]; rw [if_pos (by omega)]
        rw [this, Nat.zero_add]; exact hfold q (by omega)) hL
      exact does_sem he (yz rfl _ _ _ hMc) (v := .sli n 0 (M + 0) i.size e) ⟨.inr ⟨_, c, k3, by omega, by simp only [Nat.zero_mul, Nat.add_zero], hcm, cur, _, hcur, by simp only [Nat.zero_add]; exact hfitc⟩, csl (by first | omega | (simp only [maxLen] at *; omega))⟩ k1 k2 hK
    ·
        by_cases hroom : M + k ≤ c
        · have hfit : M * i.size + news.length ≤ cur.size := by rw [hl, ← Nat.add_mul]; exact Nat.le_trans (Nat.mul_le_mul_right _ hroom) hfitc
          have hr := yr hk b M c cur _ hcur hroom hfit
          generalize hcs' : (cur.toList.take (M * i.size) ++ news ++ cur.toList.drop (M * i.size + news.length)).toArray = cs at hr
          have hcl : cur.toList.length = cur.size := by simp
          have hcs : cs.size = cur.size := by
            rw [← hcs']
            simp only [List.size_toArray, List.length_append, List.length_take, List.length_drop, hcl]
            omega
          have htl : (cur.toList.take (M * i.size)).length = M * i.size := by rw [List.length_take, hcl]; omega
          have hlow : ∀ j, j < M * i.size → cs[j]? = cur[j]? := fun j hj => by
            rw [← hcs']
            simp only [List.getElem?_toArray]
            rw [List.append_assoc, List.getElem?_append_left (by omega), List.getElem?_take_of_lt hj, Array.getElem?_toList]
          have hhigh : ∀ j, j < k * i.size → cs[M * i.size + j]? = news[j]? := fun j hj => by
            rw [← hcs']
            simp only [List.getElem?_toArray]
            rw [List.append_assoc, List.getElem?_append_right (by omega), htl, List.getElem?_append_left (by omega)]
            congr 1; omega
          have hnew := setRow_cel hcur hcs
          obtain ⟨g', k1, k2, k3⟩ := good_take h (y := .arr (M + k) i.size (appF M f fh)) (w' := w.setRow b cs) hlo hqL hb hcur hnew (fun q hq => setRow_other w b q cs hq) (by simp) rfl rfl hcs
            (by simp only [size]; rw [hcs, Nat.add_mul]; rw [hl] at hfit; exact hfit) (fun q hq => by
              rw [Nat.zero_add]; exact seg_app hfold hs hlow hhigh q hq) hL
          exact does_sem he hr (v := .sli n 0 (M + k) i.size e) ⟨.inr ⟨_, c, k3, hroom, by simp only [Nat.zero_mul, Nat.add_zero], hcm, cs, _, hnew, by simp only [Nat.zero_add]; rw [hcs]; exact hfitc⟩, csl (by first | omega | (simp only [maxLen] at *; omega))⟩ k1 k2 hK
        · have hxl : (cur.toList.take (M * i.size)).length = M * i.size := by rw [List.length_take]; simp; omega
          have hr := yg hk ⟨b, 0, none⟩ M c (cur.toList.take (M * i.size)) hxl (fun j u hu => by
              have hj : j < M * i.size := by have := (List.getElem?_eq_some_iff.1 hu).1; omega
              rw [List.getElem?_take_of_lt hj, Array.getElem?_toList] at hu
              rw [addr_add, Nat.zero_add]
              have : (look w b) j = some u := by rw [look_cel hcur]; exact hu
              exact this) (by omega) hbd
          have hge := grownCap_ge w (M + k) c e
          let cs : Array Value := (cur.toList.take (M * i.size)).toArray ++ news.toArray ++ Builtin.zeroCells z.cells (grownCap w (M + k) c e - (M + k))
          have hcs : cs.size = grownCap w (M + k) c e * i.size := by
            show ((cur.toList.take (M * i.size)).toArray ++ news.toArray ++ Builtin.zeroCells z.cells _).size = _
            simp only [Array.size_append, List.size_toArray, size_zeroCells, hzs, hl, hxl, ← Nat.add_mul]; congr 1; omega
          have hcap := grownCap_le_maxLen w (M + k) c e (by simp only [maxLen]; omega)
          obtain ⟨g', k1, k2, k3, k4⟩ := good_vec hdr1 (w1 := w.drew) ⟨rfl, rfl, rfl⟩ (z := .arr (M + k) i.size (appF M f fh)) (cs := cs) (ty := e)
            (by simp only [size, hcs]; exact Nat.mul_le_mul_right _ hge) (fun q hq => by
              rw [Nat.zero_add]
              exact seg_app (lk := fun j => cs[j]?) hfold hs (fun j hj => by
                  show cs[j]? = cur[j]?
                  simp only [cs, Array.getElem?_append, Array.size_append, List.size_toArray, hxl, hl]
                  rw [if_pos (by omega), if_pos hj, List.getElem?_toArray, List.getElem?_take_of_lt hj, Array.getElem?_toList]) (fun j hj => by
                  show cs[M * i.size + j]? = news[j]?
                  simp only [cs, Array.getElem?_append, Array.size_append, List.size_toArray, hxl, hl]
                  rw [if_pos (by omega), if_neg (by omega), List.getElem?_toArray]
                  congr 1; omega) q hq) hL
          refine does_sem he hr (v := .sli n 0 (M + k) i.size e) ⟨.inr ⟨_, grownCap w (M + k) c e, k3, hge, by simp only [Nat.zero_mul, Nat.add_zero]; rfl, by simp only [maxLen] at hcap; omega, cs, _, .mk0 k4, by simp only [Nat.zero_add, hcs]; exact Nat.le_refl _⟩, csl (by first | omega | (simp only [maxLen] at *; omega))⟩ k1 (hdr2.trans k2) hK

/-- What is appended is a list. -/
theorem app_lst {oo : Oper} {t e : TypeId} {i : TypeInfo} {z : Value} (hd : P.underlying t = some (.slice e)) (hi : P.info? e = some i) (hz : i.zero = some z) (hby : 0 < i.bytes) {k : Nat} {fh : Nat → AV} {oa : Option Addr} {cy : Nat} {G : Nat → Nat}
    (hrow : ORow w G k i.size (fun q => size (fh q)) (fun q => (R g w (fh q)).s) cy oa) (hbd : k * i.bytes ≤ 140737488355328) :
    ∃ news : List Value, news.length = k * i.size ∧ (∀ u ∈ news, u.oneCell' = true) ∧ (∀ q, q < k → size (fh q) = i.size ∧ (R g w (fh q)).s (fun j => news[j]?) (q * i.size)) ∧
      (k = 0 → ∀ (ob : Option Addr) (m cb : Nat), m ≤ cb → (Builtin.append_ #[t, t] oo.type #[.slice ob m cb, .slice oa k cy]).run P w = .ok (.slice ob m cb) w) ∧
      (0 < k → (Builtin.append_ #[t, t] oo.type #[.slice none 0 0, .slice oa k cy]).run P w = .ok (.slice (some ⟨w.heap.size, 0, none⟩) k (grownCap w k 0 e)) (w.drew.alloc (.cells (news.toArray ++ Builtin.zeroCells z.cells (grownCap w k 0 e - k)) e))) ∧
      (0 < k → ∀ (b M c : Nat) (cur : Array Value) (ty' : TypeId), Cel w b cur ty' → M + k ≤ c → M * i.size + news.length ≤ cur.size →
        (Builtin.append_ #[t, t] oo.type #[.slice (some ⟨b, 0, none⟩) M c, .slice oa k cy]).run P w = .ok (.slice (some ⟨b, 0, none⟩) (M + k) c) (w.setRow b (cur.toList.take (M * i.size) ++ news ++ cur.toList.drop (M * i.size + news.length)).toArray)) ∧
      (0 < k → ∀ (b : Addr) (M c : Nat) (olds : List Value), olds.length = M * i.size → (∀ j v, olds[j]? = some v → w.cell? (b.add j) = some v) → c < M + k → (M + k) * i.bytes ≤ 140737488355328 →
        (Builtin.append_ #[t, t] oo.type #[.slice (some b) M c, .slice oa k cy]).run P w = .ok (.slice (some ⟨w.heap.size, 0, none⟩) (M + k) (grownCap w (M + k) c e))
          (w.drew.alloc (.cells (olds.toArray ++ news.toArray ++ Builtin.zeroCells z.cells (grownCap w (M + k) c e - (M + k))) e))) := by
  have small : ∀ {m : Nat}, m * i.bytes ≤ 140737488355328 → m ≤ 140737488355328 := fun {m} hm => Nat.le_trans (Nat.le_mul_of_pos_right m hby) hm
  rcases Nat.eq_zero_or_pos k with rfl | hk
  · exact ⟨[], by simp, fun u hu => by simp at hu, fun q hq => by omega, fun _ ob m cb hm => run_append_zero hd hi hm, fun h => by omega, fun h => by omega, fun h => by omega⟩
  · cases oa with
    | none => obtain ⟨rfl, _⟩ := hrow; omega
    | some A =>
      obtain ⟨news, hl, hn, h1, hs⟩ := row_news hrow
      exact ⟨news, hl, h1, hs, fun h => by omega, fun _ => run_append_nil (P := P) w t oo.type e i z hd hi hz A k cy news hl hn hk (by have := small hbd; omega) (by omega),
        fun _ b M c cur ty' hc hroom hfit => run_append_room_cel (P := P) w t oo.type e i hd hi b M c cur hc A k cy news hl hn h1 hroom hfit,
        fun _ b M c olds hlo holds hg hb2 => run_append_grow (P := P) w t oo.type e i z hd hi hz b M c olds hlo holds A k cy news hl hn hg (by have := small hb2; omega) (growslice_fits (by omega) hb2)⟩

theorem does_app (h : Good P gl N g w E o n a) {oo : Oper} {t e : TypeId} {i : TypeInfo} {z : Value}
    (hd : P.underlying t = some (.slice e)) (hi : P.info? e = some i) (hz : i.zero = some z) (hzs : z.cells.size = i.size) (hpos : 0 < i.size) (hby : 0 < i.bytes) {K : AV → Objs → Nat → Prop}
    {q M k : Nat} {f fh : Nat → AV} {tok : Option Nat} {u1 u2 : Value} (hux : (R g w (.sli q 0 M i.size e)).v u1) (huy : (R g w (.lst tok k i.size fh)).v u2) (hlo : lookO q o = some (.box (.arr M i.size f))) (hqL : q < LENT) (hL : n < LENT)
    (hbd : (M + k) * i.bytes ≤ 140737488355328) (he : execOp a.eval oo = (do pure (.value (← Builtin.append_ #[t, t] oo.type #[u1, u2])))) (hK : K (.sli n 0 (M + k) i.size e) ((n, .box (.arr (M + k) i.size (appF M f fh))) :: dropO q o) (n + 1)) :
    Does P gl N g w E o n a oo K := by
  obtain ⟨⟨oa, cy, hu, hcy, _, hrow⟩, _⟩ := huy
  subst hu
  exact does_appG h hd hi hz hzs hpos hby hux (app_lst (oo := oo) hd hi hz hby hrow (Nat.le_trans (Nat.mul_le_mul_right _ (Nat.le_add_left k M)) hbd)) hlo hqL hL hbd he hK

/-- A growing row grows by what is at hand. -/
theorem does_appR (h : Good P gl N g w E o n a) {oo : Oper} {t tx e : TypeId} {i : TypeInfo} {z : Value}
    (hd : P.underlying t = some (.slice e)) (hi : P.info? e = some i) (hz : i.zero = some z) (hzs : z.cells.size = i.size) (hpos : 0 < i.size) (hby : 0 < i.bytes) {K : AV → Objs → Nat → Prop}
    {tk m k : Nat} {f fh : Nat → AV} {ty' : TypeId} {u1 u2 : Value} (hvx : (R g w (.lst (some tk) m i.size f)).v u1) (hy : ∃ news : List Value, news.length = k * i.size ∧ (∀ u ∈ news, u.oneCell' = true) ∧ (∀ q, q < k → size (fh q) = i.size ∧ (R g w (fh q)).s (fun j => news[j]?) (q * i.size)) ∧
      (k = 0 → ∀ (ob : Option Addr) (m cb : Nat), m ≤ cb → (Builtin.append_ #[t, tx] oo.type #[.slice ob m cb, u2]).run P w = .ok (.slice ob m cb) w) ∧
      (0 < k → (Builtin.append_ #[t, tx] oo.type #[.slice none 0 0, u2]).run P w = .ok (.slice (some ⟨w.heap.size, 0, none⟩) k (grownCap w k 0 e)) (w.drew.alloc (.cells (news.toArray ++ Builtin.zeroCells z.cells (grownCap w k 0 e - k)) e))) ∧
      (0 < k → ∀ (b M c : Nat) (cur : Array Value) (ty' : TypeId), Cel w b cur ty' → M + k ≤ c → M * i.size + news.length ≤ cur.size →
        (Builtin.append_ #[t, tx] oo.type #[.slice (some ⟨b, 0, none⟩) M c, u2]).run P w = .ok (.slice (some ⟨b, 0, none⟩) (M + k) c) (w.setRow b (cur.toList.take (M * i.size) ++ news ++ cur.toList.drop (M * i.size + news.length)).toArray)) ∧
      (0 < k → ∀ (b : Addr) (M c : Nat) (olds : List Value), olds.length = M * i.size → (∀ j v, olds[j]? = some v → w.cell? (b.add j) = some v) → c < M + k → (M + k) * i.bytes ≤ 140737488355328 →
        (Builtin.append_ #[t, tx] oo.type #[.slice (some b) M c, u2]).run P w = .ok (.slice (some ⟨w.heap.size, 0, none⟩) (M + k) (grownCap w (M + k) c e))
          (w.drew.alloc (.cells (olds.toArray ++ news.toArray ++ Builtin.zeroCells z.cells (grownCap w (M + k) c e - (M + k))) e)))) (hlo : lookO tk o = some (.room m i.size ty'))
    (hbd : (m + k) * i.bytes ≤ 140737488355328) (he : execOp a.eval oo = (do pure (.value (← Builtin.append_ #[t, tx] oo.type #[u1, u2])))) (hK : K (.lst (some tk) (m + k) i.size (appF m f fh)) (setO tk (.room (m + k) i.size ty') o) n) :
    Does P gl N g w E o n a oo K := by
  have small : ∀ {m : Nat}, m * i.bytes ≤ 140737488355328 → m ≤ 140737488355328 := fun {m} hm => Nat.le_trans (Nat.le_mul_of_pos_right m hby) hm
  obtain ⟨news, hl, h1, hs, yz, yn, yr, yg⟩ := hy
  obtain ⟨⟨ob0, cx0, hux, hcx, ⟨ob, M, hrt, hmM, htok⟩, hrowx⟩, hcvx⟩ := hvx
  have hcvx : m ≤ 9223372036854775807 := by rw [hux] at hcvx; exact hcvx
  obtain ⟨ob2, hr2, hnil, hblk⟩ := h.objs tk _ hlo
  rw [hrt] at hr2
  injection hr2 with hr2
  injection hr2 with hr2 hr3
  subst hr2 hr3
  obtain ⟨hob, hcell⟩ := htok rfl
  rw [hux] at he
  rcases Nat.eq_zero_or_pos k with rfl | hk
  · have hself := setO_self tk _ o hlo
    simp only [Nat.add_zero] at hK
    rw [hself] at hK
    refine does_sem he (yz rfl _ _ _ hcx) (v := .lst (some tk) M i.size (appF M f fh)) ⟨⟨ob0, cx0, rfl, hcx, ⟨ob, M, hrt, hmM, fun _ => ⟨hob, hcell⟩⟩, ?_⟩, csl (by first | omega | (simp only [maxLen] at *; omega))⟩ h (Stp.refl g w o) hK
    cases ob0 with
    | none => exact hrowx
    | some A => exact ⟨hrowx.1, hrowx.2.1, fun q hq => by
        have : appF M f fh q = f q := by simp [appF, hq]
        simp only [this]; exact hrowx.2.2 q hq⟩
  · skip
    have hsm := small hbd
    cases ob with
    | none =>
      obtain rfl := hnil.1 rfl
      simp only [Option.map_none] at hob
      subst hob
      obtain ⟨_, rfl⟩ := hrowx
      have hr := yn hk
      have hge := grownCap_ge w k 0 e
      let cs : Array Value := news.toArray ++ Builtin.zeroCells z.cells (grownCap w k 0 e - k)
      let w' : World := w.drew.alloc (.cells cs e)
      let g' : Gh := { g with r := fun q => if q = tk then some (some w.heap.size, 0 + k) else g.r q, G := fun b => if b = w.heap.size then (0 + k) * i.size else g.G b }
      have hcs : cs.size = grownCap w k 0 e * i.size := by
        show (news.toArray ++ Builtin.zeroCells z.cells _).size = _
        simp only [Array.size_append, List.size_toArray, size_zeroCells, hzs, hl, ← Nat.add_mul]; congr 1; omega
      have hcap := grownCap_le_maxLen w k 0 e (by simp only [maxLen]; omega)
      have hold : ∀ b, b < w.heap.size → w'.heap[b]? = w.heap[b]? := fun b hb => heap_push_old w.drew _ hb
      have hnew : Cel w' (w.heap.size) cs e := .mk0 (heap_push w.drew _)
      have hsz : w'.heap.size = w.heap.size + 1 := by show (w.heap.push _).size = _; simp
      have hGn : g'.G w.heap.size = (0 + k) * i.size := by show (if _ then _ else _) = _; rw [if_pos rfl]
      have hle : (0 + k) * i.size ≤ cs.size := by rw [hcs, Nat.zero_add]; exact Nat.mul_le_mul_right _ hge
      have hev : Ev g w g' w' := ⟨fun _ _ h => h, fun q p N hq => by
          by_cases e1 : q = tk
          · subst e1
            rw [hrt] at hq; injection hq with hq; injection hq with a1 a2; subst a1 a2
            exact ⟨some w.heap.size, 0 + k, by simp [g'], by omega, fun e2 => by omega⟩
          · exact ⟨p, N, by show (if q = tk then _ else _) = _; rw [if_neg e1]; exact hq, Nat.le_refl _, fun _ => rfl⟩, fun b off ho => cell_old (hold b (pub_lt h ho)), fun b => by
          by_cases hb : b = w.heap.size
          · subst hb; rw [h.gz _ (Nat.le_refl _)]; exact Nat.zero_le _
          · show _ ≤ (if b = w.heap.size then _ else _); rw [if_neg hb]; exact Nat.le_refl _,
        fun b c t hb => ⟨c, by rw [cel_eq (hold b (lt_of_cel hb))]; exact hb, rfl⟩⟩
      obtain ⟨k1, k2⟩ := good_room h (g' := g') (w' := w') (m' := 0 + k) (ob' := some w.heap.size) hlo hrt hev (fun _ => rfl) (fun q hq => by show (if q = tk then _ else _) = _; rw [if_neg hq]) (by simp [g']) (by omega)
        (fun b hb _ => ⟨hold b hb, by show (if b = w.heap.size then _ else _) = _; rw [if_neg (by omega)]⟩) (fun b hb => by show (if b = w.heap.size then _ else _) = _; rw [if_neg (by omega)]; exact h.gz b (by omega))
        ⟨some w.heap.size, by simp [g'], ⟨(by simp), fun _ h5 => by omega⟩, fun b hb => by injection hb with hb; subst hb; exact ⟨hGn, cs, _, hnew, hle⟩⟩ (fun b hb => by injection hb with hb; exact .inr (Nat.le_of_eq hb)) rfl rfl
      refine does_sem he hr (v := .lst (some tk) (0 + k) i.size (appF 0 f fh)) ⟨⟨some ⟨w.heap.size, 0, none⟩, grownCap w k 0 e, by rw [Nat.zero_add], by omega, ⟨some w.heap.size, 0 + k, by simp [g'], Nat.le_refl _, fun _ => ⟨rfl, fun b hb => ?_⟩⟩, ?_⟩, csl (by first | omega | (simp only [maxLen] at *; omega))⟩ k1 k2 hK
      · injection hb with hb; subst hb; exact ⟨cs, e, hnew, Nat.le_of_eq hcs.symm, by simp only [maxLen] at hcap; omega⟩
      · exact row_of hnew (Nat.le_of_eq hGn.symm) (fun q hq => by
          have hq' := hs q (by omega)
          have e1 : appF 0 f fh q = fh q := by simp [appF]
          rw [e1]
          exact ⟨hq'.1, (R_ev hev _).s _ _ _ _ (fun j hj => by
            have := mul_add_lt (show q < k by omega) (hq'.1 ▸ hj)
            show cs[q * i.size + j]? = news[q * i.size + j]?
            simp only [cs, Array.getElem?_append, List.size_toArray, hl, this, if_true, List.getElem?_toArray]) hq'.2⟩)
    | some b =>
      simp only [Option.map_some] at hob
      subst hob
      obtain ⟨cur, tyc, hcur, hcsz, hcx'⟩ := hcell b rfl
      obtain ⟨hGb, cur', ty2, hcur', _⟩ := hblk b rfl
      obtain ⟨a1, a2⟩ := hcur.inj hcur'
      subst a1 a2
      have hMc : M * i.size ≤ cur.size := Nat.le_trans (Nat.mul_le_mul_right _ hcx) hcsz
      have hfold : ∀ q, q < M → size (f q) = i.size ∧ (R g w (f q)).s (fun j => cur[j]?) (q * i.size) := fun q hq => by
        obtain ⟨b1, b2⟩ := hrowx.2.2 q hq
        rw [look_cel hcur, Nat.zero_add] at b2
        exact ⟨b1, b2⟩
      by_cases hroom : M + k ≤ cx0
      · have hfit : M * i.size + news.length ≤ cur.size := by rw [hl, ← Nat.add_mul]; exact Nat.le_trans (Nat.mul_le_mul_right _ hroom) hcsz
        have hr := yr hk b M cx0 cur _ hcur hroom hfit
        generalize hcs' : (cur.toList.take (M * i.size) ++ news ++ cur.toList.drop (M * i.size + news.length)).toArray = cs at hr
        have hcl : cur.toList.length = cur.size := by simp
        have hcs : cs.size = cur.size := by
          rw [← hcs']
          simp only [List.size_toArray, List.length_append, List.length_take, List.length_drop, hcl]
          omega
        have htl : (cur.toList.take (M * i.size)).length = M * i.size := by rw [List.length_take, hcl]; omega
        have hlow : ∀ j, j < M * i.size → cs[j]? = cur[j]? := fun j hj => by
          rw [← hcs']
          simp only [List.getElem?_toArray]
          rw [List.append_assoc, List.getElem?_append_left (by omega), List.getElem?_take_of_lt hj, Array.getElem?_toList]
        have hhigh : ∀ j, j < k * i.size → cs[M * i.size + j]? = news[j]? := fun j hj => by
          rw [← hcs']
          simp only [List.getElem?_toArray]
          rw [List.append_assoc, List.getElem?_append_right (by omega), htl, List.getElem?_append_left (by omega)]
          congr 1; omega
        let w' : World := w.setRow b cs
        let g' : Gh := { g with r := fun q => if q = tk then some (some b, M + k) else g.r q, G := fun q => if q = b then (M + k) * i.size else g.G q }
        have hnew : Cel w' (b) cs tyc := setRow_cel hcur hcs
        have hoth : ∀ q, q ≠ b → w'.heap[q]? = w.heap[q]? := fun q hq => setRow_other w b q cs hq
        have hsz : w'.heap.size = w.heap.size := by simp [w']
        have hGn : g'.G b = (M + k) * i.size := by show (if _ then _ else _) = _; rw [if_pos rfl]
        have hle : (M + k) * i.size ≤ cs.size := by rw [hcs]; exact Nat.le_trans (Nat.mul_le_mul_right _ hroom) hcsz
        have hev : Ev g w g' w' := ⟨fun _ _ h => h, fun q p N hq => by
            by_cases e1 : q = tk
            · subst e1
              rw [hrt] at hq; injection hq with hq; injection hq with a1 a2; subst a1 a2
              exact ⟨some b, M + k, by simp [g'], by omega, fun e2 => by omega⟩
            · exact ⟨p, N, by show (if q = tk then _ else _) = _; rw [if_neg e1]; exact hq, Nat.le_refl _, fun _ => rfl⟩, fun q off ho => by
            by_cases e1 : q = b
            · subst e1
              rw [hGb] at ho
              have : (look w' q) off = (look w q) off := by rw [look_cel hnew, look_cel hcur]; exact hlow off ho
              exact this
            · exact cell_old (hoth q e1), fun q => by
            by_cases e1 : q = b
            · subst e1; rw [hGn, hGb]; exact Nat.mul_le_mul_right _ (by omega)
            · show _ ≤ (if q = b then _ else _); rw [if_neg e1]; exact Nat.le_refl _,
          fun q c ty hq => by
            by_cases e1 : q = b
            · subst e1
              obtain ⟨rfl, rfl⟩ := hcur.inj hq
              exact ⟨cs, hnew, hcs⟩
            · exact ⟨c, by rw [cel_eq (hoth q e1)]; exact hq, rfl⟩⟩
        obtain ⟨k1, k2⟩ := good_room h (g' := g') (w' := w') (m' := M + k) (ob' := some b) hlo hrt hev (fun _ => rfl) (fun q hq => by show (if q = tk then _ else _) = _; rw [if_neg hq]) (by simp [g']) (by omega)
          (fun q hq hne => ⟨hoth q (fun e1 => hne (by rw [e1])), by show (if q = b then _ else _) = _; rw [if_neg (fun e1 => hne (by rw [e1]))]⟩)
          (fun q hq => by show (if q = b then _ else _) = _; rw [if_neg (fun e1 => by subst e1; have := lt_of_cel hcur; omega)]; exact h.gz q (by omega))
          ⟨some b, by simp [g'], ⟨(by simp), fun _ h5 => by omega⟩, fun q hq => by injection hq with hq; subst hq; exact ⟨hGn, cs, _, hnew, hle⟩⟩ (fun q hq => .inl hq) rfl rfl
        refine does_sem he hr (v := .lst (some tk) (M + k) i.size (appF M f fh)) ⟨⟨some ⟨b, 0, none⟩, cx0, rfl, hroom, ⟨some b, M + k, by simp [g'], Nat.le_refl _, fun _ => ⟨rfl, fun q hq => ?_⟩⟩, ?_⟩, csl (by first | omega | (simp only [maxLen] at *; omega))⟩ k1 k2 hK
        · injection hq with hq; subst hq; exact ⟨cs, tyc, hnew, by rw [hcs]; exact hcsz, hcx'⟩
        · refine row_of hnew (Nat.le_of_eq hGn.symm) (fun q hq => ?_)
          obtain ⟨c1, c2⟩ := seg_app hfold hs hlow hhigh q hq
          exact ⟨c1, (R_ev hev _).s _ _ _ _ (fun _ _ => rfl) c2⟩
      · have hxl : (cur.toList.take (M * i.size)).length = M * i.size := by rw [List.length_take]; simp; omega
        have hr := yg hk ⟨b, 0, none⟩ M cx0 (cur.toList.take (M * i.size)) hxl (fun j u hu => by
            have hj : j < M * i.size := by have := (List.getElem?_eq_some_iff.1 hu).1; omega
            rw [List.getElem?_take_of_lt hj, Array.getElem?_toList] at hu
            rw [addr_add, Nat.zero_add]
            have : (look w b) j = some u := by rw [look_cel hcur]; exact hu
            exact this) (by omega) hbd
        have hge := grownCap_ge w (M + k) cx0 e
        let cs : Array Value := (cur.toList.take (M * i.size)).toArray ++ news.toArray ++ Builtin.zeroCells z.cells (grownCap w (M + k) cx0 e - (M + k))
        let w' : World := w.drew.alloc (.cells cs e)
        let g' : Gh := { g with r := fun q => if q = tk then some (some w.heap.size, M + k) else g.r q, G := fun q => if q = w.heap.size then (M + k) * i.size else g.G q }
        have hcs : cs.size = grownCap w (M + k) cx0 e * i.size := by
          show ((cur.toList.take (M * i.size)).toArray ++ news.toArray ++ Builtin.zeroCells z.cells _).size = _
          simp only [Array.size_append, List.size_toArray, size_zeroCells, hzs, hl, hxl, ← Nat.add_mul]; congr 1; omega
        have hcap := grownCap_le_maxLen w (M + k) cx0 e (by simp only [maxLen]; omega)
        have hold : ∀ b, b < w.heap.size → w'.heap[b]? = w.heap[b]? := fun b hb => heap_push_old w.drew _ hb
        have hnew : Cel w' (w.heap.size) cs e := .mk0 (heap_push w.drew _)
        have hsz : w'.heap.size = w.heap.size + 1 := by show (w.heap.push _).size = _; simp
        have hGn : g'.G w.heap.size = (M + k) * i.size := by show (if _ then _ else _) = _; rw [if_pos rfl]
        have hle : (M + k) * i.size ≤ cs.size := by rw [hcs]; exact Nat.mul_le_mul_right _ hge
        have hev : Ev g w g' w' := ⟨fun _ _ h => h, fun q p N hq => by
            by_cases e1 : q = tk
            · subst e1
              rw [hrt] at hq; injection hq with hq; injection hq with a1 a2; subst a1 a2
              exact ⟨some w.heap.size, M + k, by simp [g'], by omega, fun e2 => by omega⟩
            · exact ⟨p, N, by show (if q = tk then _ else _) = _; rw [if_neg e1]; exact hq, Nat.le_refl _, fun _ => rfl⟩, fun b off ho => cell_old (hold b (pub_lt h ho)), fun q => by
            by_cases hb : q = w.heap.size
            · subst hb; rw [h.gz _ (Nat.le_refl _)]; exact Nat.zero_le _
            · show _ ≤ (if q = w.heap.size then _ else _); rw [if_neg hb]; exact Nat.le_refl _,
          fun b c t hb => ⟨c, by rw [cel_eq (hold b (lt_of_cel hb))]; exact hb, rfl⟩⟩
        obtain ⟨k1, k2⟩ := good_room h (g' := g') (w' := w') (m' := M + k) (ob' := some w.heap.size) hlo hrt hev (fun _ => rfl) (fun q hq => by show (if q = tk then _ else _) = _; rw [if_neg hq]) (by simp [g']) (by omega)
          (fun q hq _ => ⟨hold q hq, by show (if q = w.heap.size then _ else _) = _; rw [if_neg (by omega)]⟩) (fun q hq => by show (if q = w.heap.size then _ else _) = _; rw [if_neg (by omega)]; exact h.gz q (by omega))
          ⟨some w.heap.size, by simp [g'], ⟨(by simp), fun _ h5 => by omega⟩, fun q hq => by injection hq with hq; subst hq; exact ⟨hGn, cs, _, hnew, hle⟩⟩ (fun q hq => by injection hq with hq; exact .inr (Nat.le_of_eq hq)) rfl rfl
        refine does_sem he hr (v := .lst (some tk) (M + k) i.size (appF M f fh)) ⟨⟨some ⟨w.heap.size, 0, none⟩, grownCap w (M + k) cx0 e, rfl, hge, ⟨some w.heap.size, M + k, by simp [g'], Nat.le_refl _, fun _ => ⟨rfl, fun q hq => ?_⟩⟩, ?_⟩, csl (by first | omega | (simp only [maxLen] at *; omega))⟩ k1 k2 hK
        · injection hq with hq; subst hq; exact ⟨cs, e, hnew, Nat.le_of_eq hcs.symm, by simp only [maxLen] at hcap; omega⟩
        · refine row_of hnew (Nat.le_of_eq hGn.symm) (fun q hq => ?_)
          obtain ⟨c1, c2⟩ := seg_app (lk := fun j => cs[j]?) hfold hs (fun j hj => by
              show cs[j]? = cur[j]?
              simp only [cs, Array.getElem?_append, Array.size_append, List.size_toArray, hxl, hl]
              rw [if_pos (by omega), if_pos hj, List.getElem?_toArray, List.getElem?_take_of_lt hj, Array.getElem?_toList]) (fun j hj => by
              show cs[M * i.size + j]? = news[j]?
              simp only [cs, Array.getElem?_append, Array.size_append, List.size_toArray, hxl, hl]
              rw [if_pos (by omega), if_neg (by omega), List.getElem?_toArray]
              congr 1; omega) q hq
          exact ⟨c1, (R_ev hev _).s _ _ _ _ (fun _ _ => rfl) c2⟩

theorem run_appz_zero {t tn ty e : TypeId} {i : TypeInfo} {kn kq : IntKind} (ht : P.underlying t = some (.slice e)) (htn : P.underlying tn = some (.int kn)) (hi : P.info? e = some i) {ob : Option Addr} {m cb : Nat} (hm : m ≤ cb) :
    (Builtin.append_ #[t, tn] ty #[.slice ob m cb, .int kq ((0 : Nat) : Int)]).run P w = .ok (.slice ob m cb) w := by
  have hw : IntKind.i64.wrap 0 = 0 := by decide
  cases ob <;> simp [Builtin.append_, run_underlying ht, run_underlying htn, Go.sizeOf, typeInfo, hi, asInt, asIntOf, hw, hm, storeCells]

theorem run_appz_room {P : Program} (w : World) (t tn ty e : TypeId) (i : TypeInfo) (z : Value) (kq kn : IntKind) (ht : P.underlying t = some (.slice e)) (htn : P.underlying tn = some (.int kn)) (hi : P.info? e = some i) (hz : i.zero = some z)
    (g sLen sCap : Nat) (cur : Array Value) {e' : TypeId} (hg : Cel w (g) cur e') (k : Nat) (h0 : 0 < k) (hs : 0 < i.size) (h63 : (k : Int) ≤ 9223372036854775807) (h48 : k * i.bytes ≤ 281474976710656)
    (news : List Value) (hnews : (Builtin.zeroCells z.cells k).toList = news) (h1 : ∀ u ∈ news, u.oneCell' = true) (hroom : sLen + k ≤ sCap) (hfit : sLen * i.size + news.length ≤ cur.size) :
    (Builtin.append_ #[t, tn] ty #[.slice (some ⟨g, 0, none⟩) sLen sCap, .int kq k]).run P w =
      .ok (.slice (some ⟨g, 0, none⟩) (sLen + k) sCap) (w.setRow g (cur.toList.take (sLen * i.size) ++ news ++ cur.toList.drop (sLen * i.size + news.length)).toArray) := by
  have hst := run_storeCells_cel P g (sLen * i.size) _ news 0 cur w hg (by simpa using hfit) h1
  simp only [Nat.add_zero] at hst
  have hw : IntKind.i64.wrap (k : Int) = k := by rw [IntKind.wrap_i64]; omega
  have hneg : ¬ ((k : Int) < 0) := by omega
  have hns : ¬ (k * i.size = 0) := Nat.mul_ne_zero (by omega) (by omega)
  have h48i : ¬ (281474976710656 < (k : Int) * (i.bytes : Int)) := by rw [← Int.natCast_mul]; omega
  have hk : k ≠ 0 := by omega
  simp [Builtin.append_, run_underlying ht, run_underlying htn, Go.sizeOf, typeInfo, zeroValue, hi, hz, asInt, asIntOf, hw, hneg, hk, hns, h48i, hroom, Addr.add_lit, hnews, hst]

/-- A row of one's own grows by zeros. -/
theorem does_appz (h : Good P gl N g w E o n a) {oo : Oper} {t e : TypeId} {i : TypeInfo} {z : Value}
    (hd : P.underlying t = some (.slice e)) (hi : P.info? e = some i) (hz : i.zero = some z) (hzs : z.cells.size = i.size) (hpos : 0 < i.size) (hby : 0 < i.bytes) {K : AV → Objs → Nat → Prop}
    {q M k : Nat} {f fh : Nat → AV} {tn : TypeId} {kn kq : IntKind} (htn : P.underlying tn = some (.int kn)) {u1 : Value} (hux : (R g w (.sli q 0 M i.size e)).v u1) (hs : ∀ p, p < k → size (fh p) = i.size ∧ (R g w (fh p)).s (fun j => (Builtin.zeroCells z.cells k).toList[j]?) (p * i.size)) (h1 : ∀ u ∈ (Builtin.zeroCells z.cells k).toList, u.oneCell' = true) (hlo : lookO q o = some (.box (.arr M i.size f))) (hqL : q < LENT) (hL : n < LENT)
    (hbd : (M + k) * i.bytes ≤ 140737488355328) (he : execOp a.eval oo = (do pure (.value (← Builtin.append_ #[t, tn] oo.type #[u1, .int kq k])))) (hK : K (.sli n 0 (M + k) i.size e) ((n, .box (.arr (M + k) i.size (appF M f fh))) :: dropO q o) (n + 1)) :
    Does P gl N g w E o n a oo K := by
  have small : ∀ {m : Nat}, m * i.bytes ≤ 140737488355328 → m ≤ 140737488355328 := fun {m} hm => Nat.le_trans (Nat.le_mul_of_pos_right m hby) hm
  have hsm := small hbd
  have hkb : k * i.bytes ≤ 140737488355328 := Nat.le_trans (Nat.mul_le_mul_right _ (Nat.le_add_left k M)) hbd
  have hl : (Builtin.zeroCells z.cells k).toList.length = k * i.size := by rw [Array.length_toList, size_zeroCells, hzs]
  generalize hnews : (Builtin.zeroCells z.cells k).toList = news at hs h1 hl
  obtain ⟨hdr1, hdr2⟩ := good_drop h q
  rcases hux with ⟨⟨hM0, hux⟩ | ⟨b, c, hb, hMc, hux, hcm, cur, tyc, hcur, hfitc⟩, _⟩
  · -- a nil slice
    subst hM0 hux
    have hobj := h.objs q _ hlo
    rcases Nat.eq_zero_or_pos k with rfl | hk
    · -- nothing is added: a new name for no block
      have hev : Ev g w g w := Ev.refl g w
      have hfresh : g.m n = none := by
        cases hgm : g.m n with
        | none => rfl
        | some p => exact absurd (h.mlt n p hgm) (by omega)
      obtain ⟨k1, k2⟩ := good_new hdr1 (w' := w) (g' := g) (x := .box (.arr (0 + 0) i.size (appF 0 f fh))) hev (Nat.le_refl _) (fun _ _ => rfl) (fun _ _ => rfl) (fun _ _ => rfl) (fun _ _ => rfl) h.gz
        (fun b hb => by simp [blkOf, hfresh] at hb) (.inl ⟨hfresh, by simp [size]⟩) rfl rfl hL
      exact does_sem he (run_appz_zero hd htn hi (Nat.le_refl 0)) (v := .sli n 0 (0 + 0) i.size e) ⟨.inl ⟨rfl, rfl⟩, csl (by first | omega | (simp only [maxLen] at *; omega))⟩ k1 (hdr2.trans k2) hK
    ·
        have hr := Lib.run_append_nil_zeros (P := P) w t tn oo.type e i z kq kn hd htn hi hz k hk hpos (by omega) (by simp only [Nat.zero_add] at hbd; omega)
        rw [show Builtin.zeroCells z.cells k = news.toArray by rw [← hnews]] at hr
        have hge := grownCap_ge w k 0 e
        let cs : Array Value := news.toArray ++ Builtin.zeroCells z.cells (grownCap w k 0 e - k)
        have hcs : cs.size = grownCap w k 0 e * i.size := by
          show (news.toArray ++ Builtin.zeroCells z.cells _).size = _
          simp only [Array.size_append, List.size_toArray, size_zeroCells, hzs, hl, ← Nat.add_mul]; congr 1; omega
        have hcap := grownCap_le_maxLen w k 0 e (by simp only [maxLen]; omega)
        obtain ⟨g', k1, k2, k3, k4⟩ := good_vec hdr1 (w1 := w.drew) ⟨rfl, rfl, rfl⟩ (z := .arr (0 + k) i.size (appF 0 f fh)) (cs := cs) (ty := e)
          (by simp only [size, Nat.zero_add, hcs]; exact Nat.mul_le_mul_right _ hge) (fun q hq => by
            have hq' := hs q (by omega)
            have e1 : appF 0 f fh q = fh q := by simp [appF]
            rw [e1]
            refine ⟨hq'.1, R_look (fun j hj => ?_) hq'.2⟩
            have hlt := mul_add_lt (show q < k by omega) (hq'.1 ▸ hj)
            show cs[0 + q * i.size + j]? = news[q * i.size + j]?
            simp only [Nat.zero_add, cs, Array.getElem?_append, List.size_toArray, hl, hlt, if_true, List.getElem?_toArray]) hL
        refine does_sem he hr (v := .sli n 0 (0 + k) i.size e) ⟨.inr ⟨_, grownCap w k 0 e, k3, by omega, by simp only [Nat.zero_add, Nat.zero_mul]; rfl, by simp only [maxLen] at hcap; omega, cs, _, .mk0 k4, by simp only [Nat.zero_add, hcs]; exact Nat.le_refl _⟩, csl (by first | omega | (simp only [maxLen] at *; omega))⟩ k1 (hdr2.trans k2) hK
  · -- a slice of a block
    obtain ⟨h0, _⟩ | ⟨b', cs0, ty0, c1, c2, c3, c4, c5, c6⟩ := h.objs q _ hlo
    · rw [hb] at h0; cases h0
    rw [hb] at c1
    injection c1 with c1
    subst c1
    obtain ⟨b, boff⟩ := b
    have c6 : boff = 0 := c6 hqL
    subst c6
    simp only [Nat.zero_mul, Nat.add_zero, Nat.zero_add] at *
    obtain ⟨c3, c7⟩ := hcur.inj c3
    subst c3 c7 hux
    have hfold : ∀ q, q < M → size (f q) = i.size ∧ (R g w (f q)).s (fun j => cur[j]?) (q * i.size) := fun q hq => by
      obtain ⟨b1, b2⟩ := c5 q hq
      rw [look_cel hcur, Nat.zero_add] at b2
      exact ⟨b1, b2⟩
    have hMc' : M * i.size ≤ cur.size := Nat.le_trans (Nat.mul_le_mul_right _ hMc) hfitc
    rcases Nat.eq_zero_or_pos k with rfl | hk
    · obtain ⟨g', k1, k2, k3⟩ := good_take h (y := .arr (M + 0) i.size (appF M f fh)) (w' := w) hlo hqL hb hcur hcur (fun _ _ => rfl) rfl rfl rfl rfl (by simpa [size] using hMc') (fun q hq => by
        have : appF M f fh q = f q := by simp only [appF]; rw [if_pos (by omega)]
        rw [this, Nat.zero_add]; exact hfold q (by omega)) hL
      exact does_sem he (run_appz_zero hd htn hi hMc) (v := .sli n 0 (M + 0) i.size e) ⟨.inr ⟨_, c, k3, by omega, by simp only [Nat.zero_mul, Nat.add_zero], hcm, cur, _, hcur, by simp only [Nat.zero_add]; exact hfitc⟩, csl (by first | omega | (simp only [maxLen] at *; omega))⟩ k1 k2 hK
    ·
        by_cases hroom : M + k ≤ c
        · have hfit : M * i.size + news.length ≤ cur.size := by rw [hl, ← Nat.add_mul]; exact Nat.le_trans (Nat.mul_le_mul_right _ hroom) hfitc
          have hr := run_appz_room (P := P) w t tn oo.type e i z kq kn hd htn hi hz b M c cur hcur k hk hpos (by omega) (by omega) news hnews h1 hroom hfit
          generalize hcs' : (cur.toList.take (M * i.size) ++ news ++ cur.toList.drop (M * i.size + news.length)).toArray = cs at hr
          have hcl : cur.toList.length = cur.size := by simp
          have hcs : cs.size = cur.size := by
            rw [← hcs']
            simp only [List.size_toArray, List.length_append, List.length_take, List.length_drop, hcl]
            omega
          have htl : (cur.toList.take (M * i.size)).length = M * i.size := by rw [List.length_take, hcl]; omega
          have hlow : ∀ j, j < M * i.size → cs[j]? = cur[j]? := fun j hj => by
            rw [← hcs']
            simp only [List.getElem?_toArray]
            rw [List.append_assoc, List.getElem?_append_left (by omega), List.getElem?_take_of_lt hj, Array.getElem?_toList]
          have hhigh : ∀ j, j < k * i.size → cs[M * i.size + j]? = news[j]? := fun j hj => by
            rw [← hcs']
            simp only [List.getElem?_toArray]
            rw [List.append_assoc, List.getElem?_append_right (by omega), htl, List.getElem?_append_left (by omega)]
            congr 1; omega
          have hnew := setRow_cel hcur hcs
          obtain ⟨g', k1, k2, k3⟩ := good_take h (y := .arr (M + k) i.size (appF M f fh)) (w' := w.setRow b cs) hlo hqL hb hcur hnew (fun q hq => setRow_other w b q cs hq) (by simp) rfl rfl hcs
            (by simp only [size]; rw [hcs, Nat.add_mul]; rw [hl] at hfit; exact hfit) (fun q hq => by
              rw [Nat.zero_add]; exact seg_app hfold hs hlow hhigh q hq) hL
          exact does_sem he hr (v := .sli n 0 (M + k) i.size e) ⟨.inr ⟨_, c, k3, hroom, by simp only [Nat.zero_mul, Nat.add_zero], hcm, cs, _, hnew, by simp only [Nat.zero_add]; rw [hcs]; exact hfitc⟩, csl (by first | omega | (simp only [maxLen] at *; omega))⟩ k1 k2 hK
        · have hxl : (cur.toList.take (M * i.size)).length = M * i.size := by rw [List.length_take]; simp; omega
          have hfo := run_firstCells_some (P := P) w.drew i.size M ⟨b, 0, none⟩ M c (cur.toList.take (M * i.size)) hxl (fun j u hu => by
              have hj : j < M * i.size := by have := (List.getElem?_eq_some_iff.1 hu).1; omega
              rw [List.getElem?_take_of_lt hj, Array.getElem?_toList] at hu
              rw [addr_add, Nat.zero_add]
              have : (look w b) j = some u := by rw [look_cel hcur]; exact hu
              show w.cell? ⟨b, j, none⟩ = some u
              exact this)
          have hr := Lib.run_append_grow_zeros (P := P) w t tn oo.type e i z kq kn hd htn hi hz (some ⟨b, 0, none⟩) M c (cur.toList.take (M * i.size)) hfo k hk hpos (by omega) (by omega) (by omega) (growslice_fits (by omega) hbd)
          rw [show Builtin.zeroCells z.cells k = news.toArray by rw [← hnews]] at hr
          have hge := grownCap_ge w (M + k) c e
          let cs : Array Value := (cur.toList.take (M * i.size)).toArray ++ news.toArray ++ Builtin.zeroCells z.cells (grownCap w (M + k) c e - (M + k))
          have hcs : cs.size = grownCap w (M + k) c e * i.size := by
            show ((cur.toList.take (M * i.size)).toArray ++ news.toArray ++ Builtin.zeroCells z.cells _).size = _
            simp only [Array.size_append, List.size_toArray, size_zeroCells, hzs, hl, hxl, ← Nat.add_mul]; congr 1; omega
          have hcap := grownCap_le_maxLen w (M + k) c e (by simp only [maxLen]; omega)
          obtain ⟨g', k1, k2, k3, k4⟩ := good_vec hdr1 (w1 := w.drew) ⟨rfl, rfl, rfl⟩ (z := .arr (M + k) i.size (appF M f fh)) (cs := cs) (ty := e)
            (by simp only [size, hcs]; exact Nat.mul_le_mul_right _ hge) (fun q hq => by
              rw [Nat.zero_add]
              exact seg_app (lk := fun j => cs[j]?) hfold hs (fun j hj => by
                  show cs[j]? = cur[j]?
                  simp only [cs, Array.getElem?_append, Array.size_append, List.size_toArray, hxl, hl]
                  rw [if_pos (by omega), if_pos hj, List.getElem?_toArray, List.getElem?_take_of_lt hj, Array.getElem?_toList]) (fun j hj => by
                  show cs[M * i.size + j]? = news[j]?
                  simp only [cs, Array.getElem?_append, Array.size_append, List.size_toArray, hxl, hl]
                  rw [if_pos (by omega), if_neg (by omega), List.getElem?_toArray]
                  congr 1; omega) q hq) hL
          refine does_sem he hr (v := .sli n 0 (M + k) i.size e) ⟨.inr ⟨_, grownCap w (M + k) c e, k3, hge, by simp only [Nat.zero_mul, Nat.add_zero]; rfl, by simp only [maxLen] at hcap; omega, cs, _, .mk0 k4, by simp only [Nat.zero_add, hcs]; exact Nat.le_refl _⟩, csl (by first | omega | (simp only [maxLen] at *; omega))⟩ k1 (hdr2.trans k2) hK

theorem zeroCells_get (z : Array Value) (n j : Nat) (hj : j < n * z.size) (hz : 0 < z.size) : (Builtin.zeroCells z n)[j]? = z[j % z.size]? := by
  have : j % z.size < z.size := Nat.mod_lt _ hz
  unfold Builtin.zeroCells
  rw [Array.getElem?_map, Array.getElem?_range, if_pos hj, Option.map_some, getElem!_pos z (j % z.size) this, Array.getElem?_eq_getElem this]

theorem zeros_hs {P : Program} {g : Gh} {w : World} {e : TypeId} {i : TypeInfo} {z : AV} {zv : Value} (hz : zOk P e z = true) (hi : P.info? e = some i) (hzv : i.zero = some zv) (hsz : size z = i.size) (k : Nat) :
    (∀ p, p < k → size z = i.size ∧ (R g w z).s (fun j => (Builtin.zeroCells zv.cells k).toList[j]?) (p * i.size)) ∧ zv.cells.size = i.size := by
  obtain ⟨i', v, hi', hv, hcl, hcells⟩ := zOk_spec hz
  rw [hi] at hi'
  injection hi' with hi'
  subst hi'
  rw [hzv] at hv
  injection hv with hv
  subst hv
  have hlen : zv.cells.size = i.size := by rw [hcells, List.size_toArray, cellsOf_length z hcl, hsz]
  refine ⟨fun p hp => ⟨hsz, closed_seg z hcl (fun j hj => ?_)⟩, hlen⟩
  rw [hsz] at hj
  have hlt := mul_add_lt hp hj
  show (Builtin.zeroCells zv.cells k).toList[p * i.size + j]? = _
  rw [Array.getElem?_toList, zeroCells_get _ _ _ (by rw [hlen]; exact hlt) (by omega), hlen, Nat.mul_comm, Nat.mul_add_mod, Nat.mod_eq_of_lt hj, hcells]
  simp

theorem zeros_one {g : Gh} {w : World} {z : AV} {k e : Nat} {l : List Value} (hs : ∀ p, p < k → size z = e ∧ (R g w z).s (fun j => l[j]?) (p * e)) (hl : l.length = k * e) (he : 0 < e) : ∀ u ∈ l, u.oneCell' = true := by
  intro u hu
  obtain ⟨j, hj, rfl⟩ := List.mem_iff_getElem.1 hu
  have hjk : j / e < k := Nat.div_lt_of_lt_mul (by rw [Nat.mul_comm, ← hl]; exact hj)
  obtain ⟨h1, h2⟩ := hs (j / e) hjk
  obtain ⟨v, h3, h4⟩ := seg_cells _ h2 (j % e) (by rw [h1]; exact Nat.mod_lt _ he)
  have h3 : l[j / e * e + j % e]? = some v := h3
  rw [show j / e * e + j % e = j by have := Nat.div_add_mod j e; rw [Nat.mul_comm] at this; exact this, List.getElem?_eq_getElem hj] at h3
  injection h3 with h3
  rw [h3]; exact cell1 h4

theorem ok_appz (h : Good P gl N g w E o n a) {oo : Oper} {c : Call} {x y : Operand} {t tn e : TypeId} {kn : IntKind} {i : TypeInfo} {z : Value} {za : AV} (ho : oo.op = .call c) (hb : c.callee = .builtin .append) (hx : c.args.toList = [x, y]) (ht : c.argTypes.toList = [t, tn])
    (hd : P.underlying t = some (.slice e)) (htn : P.underlying tn = some (.int kn)) (hi : P.info? e = some i) (hz : i.zero = some z) (hza : zOk P e za = true) (hsz : size za = i.size) (hpos : 0 < i.size) (hby : 0 < i.bytes) {K : AV → Objs → Nat → Prop}
    (hw : wpL (evF gl E) o n (.appz i.size i.bytes e za (cx x) (cx y)) K) : Does P gl N g w E o n a oo K := by
  have he : execOp a.eval oo = (do pure (.value (← Builtin.append_ #[t, tn] oo.type #[a.eval x, a.eval y]))) := by
    have he : execOp a.eval oo = (do pure (.value (← Builtin.append_ c.argTypes oo.type (c.args.map a.eval)))) := exec_builtin ho hb
    have hargs : c.args = #[x, y] := by rw [← Array.toArray_toList (xs := c.args), hx]
    have hts : c.argTypes = #[t, tn] := by rw [← Array.toArray_toList (xs := c.argTypes), ht]
    rw [hargs, hts] at he
    simpa only [List.map_toArray, List.map_cons, List.map_nil] using he
  have hvx := ev_ok h x
  have hvy := ev_ok h y
  simp only [wpL] at hw
  split at hw
  · rename_i q lo m e1 ty1 kq k hev hevy
    rw [hev] at hvx
    rw [hevy] at hvy
    split at hw
    · rename_i m' e3 f hlo
      simp only [chk_iff] at hw
      obtain ⟨c1, c2, c3, c4, c5, c6, rfl, hk0, hbd, hK⟩ := hw
      have c3 := beq_eq c3
      have c4 := beq_eq c4
      have c5 := beq_eq c5
      have c6 := beq_eq c6
      subst c3 c4 c6
      subst c5
      obtain ⟨k', rfl⟩ := Int.eq_ofNat_of_zero_le hk0
      obtain ⟨z1, z2⟩ := zeros_hs (g := g) (w := w) hza hi hz hsz k'
      rw [val_v hvy] at he
      exact does_appz h hd hi hz z2 hpos hby htn hvx z1 (zeros_one z1 (by rw [Array.length_toList, size_zeroCells, z2]) hpos) hlo (Nat.le_of_ble_eq_true c1) (Nat.le_of_ble_eq_true c2) (by have := hbd; rw [← Int.natCast_add, ← Int.natCast_mul] at this; omega) he hK
    · exact hw.elim
  · exact hw.elim

theorem ok_app (h : Good P gl N g w E o n a) {oo : Oper} {c : Call} {x y : Operand} {t e : TypeId} {i : TypeInfo} {z : Value} (ho : oo.op = .call c) (hb : c.callee = .builtin .append) (hx : c.args.toList = [x, y]) (ht : c.argTypes.toList = [t, t])
    (hd : P.underlying t = some (.slice e)) (hi : P.info? e = some i) (hz : i.zero = some z) (hzs : z.cells.size = i.size) (hpos : 0 < i.size) (hby : 0 < i.bytes) {K : AV → Objs → Nat → Prop}
    (hw : wpL (evF gl E) o n (.app i.size i.bytes e (cx x) (cx y)) K) : Does P gl N g w E o n a oo K := by
  have he := exec_app (ρ := a.eval) ho hb hx ht
  have hvx := ev_ok h x
  have hvy := ev_ok h y
  simp only [wpL] at hw
  have small : ∀ {m : Nat}, m * i.bytes ≤ 140737488355328 → m ≤ 140737488355328 := fun {m} hm => Nat.le_trans (Nat.le_mul_of_pos_right m hby) hm
  split at hw
  · rename_i tok k e' f hev hevy
    rw [hev] at hvx
    rw [hevy] at hvy
    simp only [chk_iff] at hw
    obtain ⟨hL, hee, hbd, hK⟩ := hw
    have hL : n < LENT := Nat.le_of_ble_eq_true hL
    have hee := beq_eq hee
    subst hee
    obtain ⟨⟨oa, cy, hu, hcy, _, hrow⟩, _⟩ := hvy
    rw [val_v hvx, hu] at he
    rcases Nat.eq_zero_or_pos k with rfl | hk
    · let g' : Gh := { g with r := fun q => if q = n then some (none, 0) else g.r q }
      have hev : Ev g w g' w := ⟨fun _ _ h => h, fun t ob N ht => ⟨ob, N, by
          have := h.rlt t _ ht
          show (if t = n then _ else _) = _
          rw [if_neg (by omega)]; exact ht, Nat.le_refl _, fun _ => rfl⟩, fun _ _ _ => rfl, fun _ => Nat.le_refl _, fun _ c _ hb => ⟨c, hb, rfl⟩⟩
      obtain ⟨k1, k2⟩ := good_new h (w' := w) (g' := g') (x := .room 0 i.size e) hev (Nat.le_refl _) (fun _ _ => rfl) (fun _ _ => rfl) (fun q hq => by show (if q = n then _ else _) = _; rw [if_neg hq]) (fun _ _ => rfl) h.gz
        (fun b hb => by simp [blkOf, g'] at hb) ⟨none, by simp [g'], ⟨fun _ => rfl, fun _ _ => rfl⟩, fun b hb => by cases hb⟩ rfl rfl hL
      exact does_sem he (run_append_zero hd hi (Nat.le_refl 0)) (v := .lst (some n) 0 i.size f) ⟨⟨none, 0, rfl, Nat.le_refl _, ⟨none, 0, by simp [g'], Nat.le_refl _, fun _ => ⟨rfl, fun b hb => by cases hb⟩⟩, ⟨rfl, rfl⟩⟩, csl (by first | omega | (simp only [maxLen] at *; omega))⟩ k1 k2 hK
    · cases oa with
      | none => obtain ⟨rfl, _⟩ := hrow; omega
      | some A =>
        obtain ⟨news, hl, hn, h1, hs⟩ := row_news hrow
        have hr := run_append_nil (P := P) w t oo.type e i z hd hi hz A k cy news hl hn hk (by have := small hbd; omega) (by omega)
        have hge := grownCap_ge w k 0 e
        obtain ⟨g', k1, k2, k3⟩ := good_row h (w1 := w.drew) ⟨rfl, rfl, rfl⟩ (m := k) (e := i.size) (c := grownCap w k 0 e) (f := f) (cs := news.toArray ++ Builtin.zeroCells z.cells (grownCap w k 0 e - k)) (ty := e)
          (by simp only [Array.size_append, List.size_toArray, size_zeroCells, hzs, hl, ← Nat.add_mul]; congr 1; omega) hL hge
          (by have := grownCap_le_maxLen w k 0 e (by simp only [maxLen]; have := small hbd; omega); simp only [maxLen] at this; omega)
          (fun q hq => ⟨(hs q hq).1, R_look (fun j hj => by
            have hs' := (hs q hq).1
            have := mul_add_lt hq (hs' ▸ hj)
            simp only [Array.getElem?_append, List.size_toArray, hl, this, if_true, List.getElem?_toArray]) (hs q hq).2⟩)
        exact does_sem he hr k3 k1 k2 hK
  · rename_i hev hevy
    rw [hev] at hvx
    rw [hevy] at hvy
    rw [val_v hvx, val_v hvy] at he
    exact does_sem he (run_append_zero hd hi (Nat.le_refl 0)) (v := .val (.slice none 0 0)) (val_mk _ (csl (by decide))) h (Stp.refl g w o) hw
  · rename_i q lo m e1 ty1 hev hevy
    rw [hev] at hvx
    rw [hevy] at hvy
    have hvx0 := hvx
    rcases hvx with ⟨⟨hM0, hux⟩ | ⟨b, c, hb, hMc, hux, hrest⟩, _⟩
    · rw [hux, val_v hvy] at he
      rw [hux] at hvx0
      exact does_sem he (run_append_zero hd hi (Nat.le_refl 0)) hvx0 h (Stp.refl g w o) hw
    · rw [hux, val_v hvy] at he
      rw [hux] at hvx0
      exact does_sem he (run_append_zero hd hi hMc) hvx0 h (Stp.refl g w o) hw
  · rename_i tok m e1 f hev hevy
    rw [hev] at hvx
    rw [hevy] at hvy
    have hvx0 := hvx
    obtain ⟨⟨ob0, cx0, hux, hcx, _⟩, _⟩ := hvx
    rw [hux, val_v hvy] at he
    rw [hux] at hvx0
    exact does_sem he (run_append_zero hd hi hcx) hvx0 h (Stp.refl g w o) hw
  · rename_i q lo m e1 ty1 tok k e2 fh hev hevy
    rw [hev] at hvx
    rw [hevy] at hvy
    split at hw
    · rename_i m' e3 f hlo
      simp only [chk_iff] at hw
      obtain ⟨q0, q1, q2, q3, q4, q5, q6, q7, hbd, hK⟩ := hw
      have q0 : q < LENT := Nat.le_of_ble_eq_true q0
      have q1 : n < LENT := Nat.le_of_ble_eq_true q1
      have q2 := beq_eq q2; have q3 := beq_eq q3; have q4 := beq_eq q4; have q5 := beq_eq q5; have q6 := beq_eq q6
      subst q2 q3 q4 q5 q6 q7
      exact does_app h hd hi hz hzs hpos hby hvx hvy hlo q0 q1 hbd he hK
    · exact hw.elim
  · rename_i q lo m e1 ty1 q2 lo2 k e2 ty2 hev hevy
    rw [hev] at hvx
    rw [hevy] at hvy
    split at hw
    · rename_i m' e3 f N2 e4 fh hlo hlo2
      simp only [chk_iff] at hw
      obtain ⟨q0, q1, p2, p3, p4, p5, p6, p7, p8, hle, hbd, hK⟩ := hw
      have q0 : q < LENT := Nat.le_of_ble_eq_true q0
      have q1 : n < LENT := Nat.le_of_ble_eq_true q1
      have p2 := beq_eq p2; have p3 := beq_eq p3; have p4 := beq_eq p4; have p5 := beq_eq p5; have p6 := beq_eq p6; have p7 := beq_eq p7
      subst p2 p3 p4 p5 p6 p7 p8
      have hbk : k * i.bytes ≤ 140737488355328 := Nat.le_trans (Nat.mul_le_mul_right _ (Nat.le_add_left k m)) hbd
      rcases hvy with ⟨⟨hk0, hu⟩ | ⟨b2, c2, hb2, hkc, hu, hcm2, _⟩, _⟩
      · subst hk0
        rw [hu] at he
        exact does_appG h hd hi hz hzs hpos hby hvx (app_lst (oo := oo) (G := fun _ => 0) (cy := 0) (oa := none) hd hi hz hby ⟨rfl, rfl⟩ hbk) hlo q0 q1 hbd he hK
      · rw [hu] at he
        have hrow : ORow w (fun _ => b2.2 + lo2 * i.size + k * i.size) k i.size (fun q => size (fh (lo2 + q))) (fun q => (R g w (fh (lo2 + q))).s) c2 (some ⟨b2.1, b2.2 + lo2 * i.size, none⟩) := ⟨fun _ => rfl, fun _ => Nat.le_refl _, fun p hp => ?_⟩
        exact does_appG h hd hi hz hzs hpos hby hvx (app_lst (oo := oo) hd hi hz hby hrow hbk) hlo q0 q1 hbd he hK
        obtain ⟨h0, _⟩ | ⟨b3, cs3, ty3, r1, r2, r3, r4, r5, r6⟩ := h.objs q2 _ hlo2
        · rw [hb2] at h0; cases h0
        rw [hb2] at r1
        injection r1 with r1
        subst r1
        obtain ⟨s1, s2⟩ := r5 (lo2 + p) (by omega)
        refine ⟨s1, ?_⟩
        show (R g w (fh (lo2 + p))).s (look w b2.1) (b2.2 + lo2 * i.size + p * i.size)
        rw [show b2.2 + lo2 * i.size + p * i.size = b2.2 + (lo2 + p) * i.size by rw [Nat.add_mul]; omega]
        exact s2
    · exact hw.elim
  · rename_i tk m e1 f tok k e2 fh hev hevy
    rw [hev] at hvx
    rw [hevy] at hvy
    split at hw
    · rename_i m' e3 ty' hlo
      simp only [chk_iff] at hw
      obtain ⟨q1, q2, q3, q4, q5, hbd, hK⟩ := hw
      have q1 := beq_eq q1; have q2 := beq_eq q2; have q3 := beq_eq q3; have q4 := beq_eq q4
      subst q1 q2 q3 q4 q5
      obtain ⟨⟨oa, cy, hu, hcy, _, hrow⟩, _⟩ := hvy
      rw [hu] at he
      exact does_appR h hd hi hz hzs hpos hby hvx (app_lst (oo := oo) hd hi hz hby hrow (Nat.le_trans (Nat.mul_le_mul_right _ (Nat.le_add_left k m)) hbd)) hlo hbd he hK
    · exact hw.elim
  · rename_i tk m e1 f q2 lo2 k e2 ty2 hev hevy
    rw [hev] at hvx
    rw [hevy] at hvy
    split at hw
    · rename_i m' e3 ty' N2 e4 fh hlo hlo2
      simp only [chk_iff] at hw
      obtain ⟨p1, p2, p3, p4, p5, p6, hle, hbd, hK⟩ := hw
      have p1 := beq_eq p1; have p2 := beq_eq p2; have p3 := beq_eq p3; have p4 := beq_eq p4; have p5 := beq_eq p5
      subst p1 p2 p3 p4 p5 p6
      have hbk : k * i.bytes ≤ 140737488355328 := Nat.le_trans (Nat.mul_le_mul_right _ (Nat.le_add_left k m)) hbd
      rcases hvy with ⟨⟨hk0, hu⟩ | ⟨b2, c2, hb2, hkc, hu, hcm2, _⟩, _⟩
      · subst hk0
        rw [hu] at he
        exact does_appR h hd hi hz hzs hpos hby hvx (app_lst (oo := oo) (G := fun _ => 0) (cy := 0) (oa := none) hd hi hz hby ⟨rfl, rfl⟩ hbk) hlo hbd he hK
      · rw [hu] at he
        have hrow : ORow w (fun _ => b2.2 + lo2 * i.size + k * i.size) k i.size (fun q => size (fh (lo2 + q))) (fun q => (R g w (fh (lo2 + q))).s) c2 (some ⟨b2.1, b2.2 + lo2 * i.size, none⟩) := ⟨fun _ => rfl, fun _ => Nat.le_refl _, fun p hp => ?_⟩
        exact does_appR h hd hi hz hzs hpos hby hvx (app_lst (oo := oo) hd hi hz hby hrow hbk) hlo hbd he hK
        obtain ⟨h0, _⟩ | ⟨b3, cs3, ty3, r1, r2, r3, r4, r5, r6⟩ := h.objs q2 _ hlo2
        · rw [hb2] at h0; cases h0
        rw [hb2] at r1
        injection r1 with r1
        subst r1
        obtain ⟨s1, s2⟩ := r5 (lo2 + p) (by omega)
        refine ⟨s1, ?_⟩
        show (R g w (fh (lo2 + p))).s (look w b2.1) (b2.2 + lo2 * i.size + p * i.size)
        rw [show b2.2 + lo2 * i.size + p * i.size = b2.2 + (lo2 + p) * i.size by rw [Nat.add_mul]; omega]
        exact s2
    · exact hw.elim
  · exact hw.elim

/-- A new box under a name that was laid by for it. -/
theorem good_soon (h : Good P gl N g w E o n a) {q : Nat} (hq : lookO q o = some .soon) (hL : q < LENT) {z : AV} {cs : Array Value} {ty : TypeId} (hs : size z ≤ cs.size) (hz : (R g w z).s (fun j => cs[j]?) 0) :
    ∃ g', Good P gl N g' (w.alloc (.cells cs ty)) E (setO q (.box z) o) n a ∧ Stp g w o g' (w.alloc (.cells cs ty)) (setO q (.box z) o) ∧ (R g' (w.alloc (.cells cs ty)) (.ptr q [])).v (.pointer (some ⟨w.heap.size, 0, none⟩)) := by
  have hm0 : g.m q = none := h.objs q _ hq
  let w' : World := w.alloc (.cells cs ty)
  have hsz : w'.heap.size = w.heap.size + 1 := by show (w.heap.push _).size = _; rw [Array.size_push]
  have hold : ∀ b, b < w.heap.size → w'.heap[b]? = w.heap[b]? := fun b hb => by show (w.heap.push _)[b]? = _; rw [Array.getElem?_push, if_neg (by omega)]
  have hnew : Cel w' (w.heap.size) cs ty := .mk0 <| by show (w.heap.push _)[w.heap.size]? = _; rw [Array.getElem?_push, if_pos rfl]
  let g' : Gh := { g with m := fun k => if k = q then some (w.heap.size, 0) else g.m k }
  have hmq : g'.m q = some (w.heap.size, 0) := if_pos rfl
  have hmn : ∀ k, k ≠ q → g'.m k = g.m k := fun k hk => if_neg hk
  have hev : Ev g w g' w' := ⟨fun k b hb => by
      by_cases e : k = q
      · subst e; rw [hm0] at hb; cases hb
      · rw [hmn k e]; exact hb, fun _ ob N h => ⟨ob, N, h, Nat.le_refl _, fun _ => rfl⟩, fun b off ho => cell_old (hold b (pub_lt h ho)), fun _ => Nat.le_refl _, fun b cs ty hb => ⟨cs, by rw [cel_eq (hold b (lt_of_cel hb))]; exact hb, rfl⟩⟩
  have hlook : ∀ k y, lookO k (setO q (.box z) o) = some y → (k = q ∧ y = .box z) ∨ (k ≠ q ∧ lookO k o = some y) := fun k y hk => by
    rw [lookO_setO] at hk
    by_cases e : k = q
    · rw [if_pos e, hq] at hk; injection hk with hk; exact .inl ⟨e, hk.symm⟩
    · rw [if_neg e] at hk; exact .inr ⟨e, hk⟩
  have hblk : ∀ k y, k ≠ q → blkOf g' k y = blkOf g k y := fun k y e => blk_same (hmn k e) rfl
  have hbq : ∀ b, blkOf g' q (.box z) = some b → b = w.heap.size := fun b hb => by simp only [blkOf, hmq, Option.map_some] at hb; injection hb with hb; exact hb.symm
  refine ⟨g', ⟨fun k y hk => ?_, fun k y k' y' b h1 h2 h3 h4 => ?_, fun k y hk => ?_, fun k b hk => ?_, h.rlt, fun t => (R_ev hev _).v _ (h.env t), h.sz, h.def_, fun b hb => h.gz b (by rw [hsz] at hb; omega), fun i => (R_ev hev _).v _ (h.gl i)⟩,
    ⟨by show _ ≤ w'.heap.size; omega, fun b hb _ => ⟨hold b hb, rfl⟩, fun b ⟨k, y, h1, h2⟩ => ?_, hev.pub, hev.le, hev.cap, fun b j hb _ => cell_old (hold b hb), fun b j ⟨k, y, h1, h2⟩ => ?_, fun k hk => hmn k (by omega), fun k ob N _ hk => ⟨ob, N, hk, Nat.le_refl _, fun _ => rfl⟩, rfl, rfl⟩,
    ⟨⟨(w.heap.size, 0), trivial, hmq, rfl⟩, trivial⟩⟩
  · rcases hlook k y hk with ⟨rfl, rfl⟩ | ⟨e, h1⟩
    · exact .inr ⟨(w.heap.size, 0), cs, ty, hmq, h.gz _ (Nat.le_refl _), hnew, by simpa using hs, by rw [look_cel hnew]; exact (R_ev hev z).s _ _ _ _ (fun _ _ => rfl) hz, fun _ => rfl⟩
    · refine obj_ev hev (h.objs k y h1) (hmn k e) (fun p hp => hp) (fun b hb => ?_)
      have := own_lt h ⟨k, y, h1, hb⟩
      exact ⟨rfl, hold b this⟩
  · rcases hlook k y h1 with ⟨rfl, rfl⟩ | ⟨e, h5⟩ <;> rcases hlook k' y' h2 with ⟨rfl, rfl⟩ | ⟨e', h6⟩
    · rfl
    · have := hbq b h3
      rw [hblk k' y' e'] at h4
      have := own_lt h ⟨k', y', h6, h4⟩
      omega
    · have := hbq b h4
      rw [hblk k y e] at h3
      have := own_lt h ⟨k, y, h5, h3⟩
      omega
    · exact h.inj k y k' y' b h5 h6 (by rw [← hblk k y e]; exact h3) (by rw [← hblk k' y' e']; exact h4)
  · rcases hlook k y hk with ⟨rfl, rfl⟩ | ⟨e, h1⟩
    · exact h.blt k _ hq
    · exact h.blt k y h1
  · by_cases e : k = q
    · subst e; exact h.blt k _ hq
    · rw [hmn k e] at hk; exact h.mlt k b hk
  · rcases hlook k y h1 with ⟨rfl, rfl⟩ | ⟨e, h5⟩
    · exact .inr (Nat.le_of_eq (hbq b h2).symm)
    · exact .inl ⟨k, y, h5, by rw [← hblk k y e]; exact h2⟩
  · rcases hlook k y h1 with ⟨rfl, rfl⟩ | ⟨e, h5⟩
    · obtain ⟨off, h6, _⟩ := h2
      rw [hmq] at h6
      injection h6 with h6
      injection h6 with h6 _
      exact .inr (Nat.le_of_eq h6)
    · refine .inl ⟨k, y, h5, ?_⟩
      cases y with
      | box v => rw [← hmn k e]; exact h2
      | room _ _ _ => exact h2
      | soon => exact h2.elim
      | dict _ _ => rw [← hmn k e]; exact h2

theorem ok_alcN (h : Good P gl N g w E o n a) {oo : Oper} {t : TypeId} {z : AV} {j : Nat} (ho : oo.op = .alloc t) (hz : zOk P t z = true) {K : AV → Objs → Nat → Prop} (hw : wpL (evF gl E) o n (.alcN j z) K) : Does P gl N g w E o n a oo K := by
  simp only [wpL] at hw
  split at hw
  · rename_i hq
    simp only [chk_iff] at hw
    obtain ⟨_, hL, hw⟩ := hw
    have hL : n - j < LENT := Nat.le_of_ble_eq_true hL
    obtain ⟨i, v, hi, hv, hcl, hcells⟩ := zOk_spec hz
    have hlen : v.cells.size = size z := by rw [hcells, List.size_toArray, cellsOf_length z hcl]
    obtain ⟨g', h1, h2, h3⟩ := good_soon h hq hL (ty := t) (cs := v.cells) (Nat.le_of_eq hlen.symm) (closed_seg z hcl (fun j hj => by rw [Nat.zero_add]; show v.cells[j]? = _; rw [hcells]; simp))
    refine does_sem (s := Instr.alloc t true (.tuple #[])) (by unfold execOp; rw [ho]) ?_ h3 h1 h2 hw
    simp only [Instr.alloc, Sem.run_bind, run_zero hi hv, Result.andThen_ok, newVar, newRow, run_newObj, Sem.run_pure]
    rfl
  · exact hw.elim

theorem stoN_sto {ρ : X → AV} {j sz : Nat} {x v : X} {K : AV → Objs → Nat → Prop} (hw : wpL ρ o n (.stoN j sz x v) K) : wpL ρ o n (.sto sz x v) K ∧ ∃ p, ρ x = .ptr (n - j) p := by
  simp only [wpL] at hw
  split at hw
  · rename_i b p hx
    obtain ⟨h1, h2⟩ := chk_iff.1 hw
    have h1 := beq_eq h1
    subst h1
    refine ⟨?_, p, hx⟩
    simp only [wpL, hx]
    exact h2
  · exact hw.elim

/-! Maps from numbers. -/
def AllK (k : IntKind) (es : List MapEntry) : Prop := ∀ e ∈ es, ∃ m, e.key = .int k m

theorem find_int {k kk : IntKind} {n : Int} : ∀ (es : List MapEntry) (i : Nat), AllK k es →
    (lkp k es n = none ∧ Instr.findNow (.int kk) (.int k n) es i = some none) ∨
    (∃ j u e, Instr.findNow (.int kk) (.int k n) es i = some (some (i + j, u)) ∧ lkp k es n = some u ∧ es[j]? = some e ∧ e.key = .int k n ∧
      ∀ u' y, lkp k (es.modify j fun e => { e with key := .int k n, val := u' }) y = if y = n then some u' else lkp k es y)
  | [], i, _ => .inl ⟨rfl, rfl⟩
  | e :: es, i, h => by
    obtain ⟨m, hm⟩ := h e (List.mem_cons_self ..)
    have hes : AllK k es := fun x hx => h x (List.mem_cons_of_mem _ hx)
    by_cases c : m = n
    · subst c
      refine .inr ⟨0, e.val, e, ?_, ?_, rfl, hm, fun u' y => ?_⟩
      · simp [Instr.findNow, Instr.sameNow, hm]
      · simp [lkp, hm]
      · simp only [List.modify_zero_cons, lkp, hm, true_and]
        by_cases cy : m = y
        · subst cy; simp
        · rw [if_neg cy, if_neg (fun e => cy e.symm), if_neg cy]
    · have e1 : Instr.findNow (.int kk) (.int k n) (e :: es) i = Instr.findNow (.int kk) (.int k n) es (i + 1) := by
        have : (n == m) = false := by simp; exact fun e => c e.symm
        simp [Instr.findNow, Instr.sameNow, hm, this]
      have e2 : lkp k (e :: es) n = lkp k es n := by simp [lkp, hm, c]
      rcases find_int es (i + 1) hes with ⟨h1, h2⟩ | ⟨j, u, e', h1, h2, h3, h4, h5⟩
      · exact .inl ⟨e2.trans h1, e1.trans h2⟩
      · refine .inr ⟨j + 1, u, e', by rw [e1, h1]; congr 3; omega, e2.trans h2, by simpa using h3, h4, fun u' y => ?_⟩
        simp only [List.modify_succ_cons, lkp, hm, true_and]
        rw [h5 u' y]
        by_cases cy : m = y
        · subst cy; rw [if_pos rfl, if_neg c, if_pos rfl]
        · rw [if_neg cy, if_neg cy]

theorem lkp_push {k : IntKind} {n : Int} {u : Value} {b : Nat} : ∀ (es : List MapEntry) (y : Int), AllK k es → lkp k es n = none →
    lkp k (es ++ [{ key := .int k n, val := u, born := b }]) y = if y = n then some u else lkp k es y
  | [], y, _, _ => by
    simp only [List.nil_append, lkp, true_and]
    by_cases c : n = y
    · subst c; simp
    · rw [if_neg c, if_neg (fun e => c e.symm)]
  | e :: es, y, h, hn => by
    obtain ⟨m, hm⟩ := h e (List.mem_cons_self ..)
    have hes : AllK k es := fun x hx => h x (List.mem_cons_of_mem _ hx)
    simp only [lkp, hm, true_and] at hn
    have hmn : m ≠ n := fun e => by rw [if_pos e] at hn; cases hn
    rw [if_neg hmn] at hn
    simp only [List.cons_append, lkp, hm, true_and]
    rw [lkp_push es y hes hn]
    by_cases c : m = y
    · subst c; rw [if_pos rfl, if_neg hmn, if_pos rfl]
    · rw [if_neg c, if_neg c]

def setB (w : World) (b : Nat) (x : Obj) : World := { w with heap := w.heap.setIfInBounds b x }

theorem run_ck {P : Program} {w : World} {kt : TypeId} {k kk : IntKind} {n : Int} (hk : P.underlying kt = some (.int kk)) (b : Bool) (f : Nat) : (Instr.checkKey b (f + 1) kt (.int k n)).run P w = .ok () w := by
  simp [Instr.checkKey, Sem.run_bind, run_underlying' hk]

theorem run_mget {P : Program} {w : World} {t kt et : TypeId} {k kk : IntKind} {b : Nat} {es : Array MapEntry} {cl : Nat} {n : Int} {zi : TypeInfo} {z : Value} (ht : P.underlying t = some (.map kt et)) (hk : P.underlying kt = some (.int kk))
    (hb : w.heap[b]? = some (.map es cl)) (ha : AllK k es.toList) (hi : P.info? et = some zi) (hz : zi.zero = some z) (ok : Bool) :
    (Instr.lookup t (.map (some b)) (.int k n) ok).run P w = .ok (match lkp k es.toList n with
      | some u => if ok then .tuple #[u, .bool true] else u
      | none => if ok then .tuple #[z, .bool false] else z) w := by
  have hg : (getObj b).run P w = .ok (.map es cl) w := by simp [getObj, Sem.run, hb]
  have hc : (Instr.checkKey es.isEmpty 10000 kt (.int k n)).run P w = .ok () w := run_ck hk es.isEmpty 9999
  rcases find_int (k := k) (kk := kk) (n := n) es.toList 0 ha with ⟨h1, h2⟩ | ⟨j, u, e, h1, h2, _⟩
  · rw [h1]
    have hf : (Instr.findKey kt (.int k n) es.toList).run P w = .ok none w := by
      simp only [Instr.findKey, Sem.run_bind, run_underlying' hk, Result.andThen_ok, h2, Sem.run_pure]
    cases ok <;> simp [Instr.lookup, Sem.run_bind, run_underlying' ht, hg, hc, hf, run_zero hi hz]
  · rw [h2]
    have hf : (Instr.findKey kt (.int k n) es.toList).run P w = .ok (some (0 + j, u)) w := by
      simp only [Instr.findKey, Sem.run_bind, run_underlying' hk, Result.andThen_ok, h1, Sem.run_pure]
    cases ok <;> simp [Instr.lookup, Sem.run_bind, run_underlying' ht, hg, hc, hf]

theorem run_mupd {P : Program} {w : World} {t kt et : TypeId} {k kk : IntKind} {b : Nat} {es : Array MapEntry} {cl : Nat} {n : Int} (ht : P.underlying t = some (.map kt et)) (hk : P.underlying kt = some (.int kk))
    (hb : w.heap[b]? = some (.map es cl)) (ha : AllK k es.toList) (u : Value) :
    ∃ (es' : Array MapEntry) (cl' : Nat), (Instr.mapUpdate t (.map (some b)) (.int k n) u).run P w = .ok () (setB w b (.map es' cl')) ∧ AllK k es'.toList ∧ ∀ y, lkp k es'.toList y = if y = n then some u else lkp k es.toList y := by
  have hg : (getObj b).run P w = .ok (.map es cl) w := by simp [getObj, Sem.run, hb]
  have hset : ∀ x, (setObj b x).run P w = .ok () (setB w b x) := fun x => by simp [setObj, Sem.run, hb, setB]
  have hc : (Instr.checkKey false 10000 kt (.int k n)).run P w = .ok () w := run_ck hk false 9999
  rcases find_int (k := k) (kk := kk) (n := n) es.toList 0 ha with ⟨h1, h2⟩ | ⟨j, u0, e, h1, h2, h3, h4, h5⟩
  · have hf : (Instr.findKey kt (.int k n) es.toList).run P w = .ok none w := by
      simp only [Instr.findKey, Sem.run_bind, run_underlying' hk, Result.andThen_ok, h2, Sem.run_pure]
    refine ⟨es.push { key := .int k n, val := u, born := cl }, cl + 1, ?_, ?_, fun y => ?_⟩
    · simp [Instr.mapUpdate, Sem.run_bind, run_underlying' ht, hg, hc, hf, hset]
    · intro e he
      rw [Array.toList_push] at he
      rcases List.mem_append.1 he with he | he
      · exact ha e he
      · simp at he; subst he; exact ⟨n, rfl⟩
    · rw [Array.toList_push]; exact lkp_push es.toList y ha h1
  · have hf : (Instr.findKey kt (.int k n) es.toList).run P w = .ok (some (0 + j, u0)) w := by
      simp only [Instr.findKey, Sem.run_bind, run_underlying' hk, Result.andThen_ok, h1, Sem.run_pure]
    have hkey : ((es[0 + j]?).map (·.key)).getD (.int k n) = .int k n := by
      rw [Nat.zero_add, ← Array.getElem?_toList, h3]; simp [h4]
    have hks : (Instr.keyThatStays (.int k n) (.int k n)).run P w = .ok (.int k n) w := by
      simp [Instr.keyThatStays, Instr.sameBits]
    rw [Nat.zero_add] at hkey hf
    refine ⟨es.modify j fun e => { e with key := .int k n, val := u }, cl, ?_, ?_, fun y => ?_⟩
    · simp [Instr.mapUpdate, Sem.run_bind, run_underlying' ht, hg, hc, hf, hset, hkey, hks]
    · intro e he
      rw [Array.toList_modify] at he
      obtain ⟨q, hq1⟩ := List.mem_iff_getElem?.1 he
      rw [List.getElem?_modify] at hq1
      cases hq : es.toList[q]? with
      | none => rw [hq] at hq1; simp at hq1
      | some e0 =>
        rw [hq] at hq1
        have := ha e0 (List.mem_iff_getElem?.2 ⟨q, hq⟩)
        have hq1 : some (if j = q then { key := Value.int k n, val := u, born := e0.born } else e0) = some e := by rw [← hq1]; split <;> rfl
        injection hq1 with hq1
        subst hq1
        split
        · exact ⟨n, rfl⟩
        · exact this
    · rw [Array.toList_modify]; exact h5 u y

theorem setB_at {w : World} {b : Nat} {x y : Obj} (h : w.heap[b]? = some y) : (setB w b x).heap[b]? = some x := by
  have := lt_of_heap h
  simp [setB, Array.getElem?_setIfInBounds, this]
theorem setB_ot {w : World} {b k : Nat} {x : Obj} (h : k ≠ b) : (setB w b x).heap[k]? = w.heap[k]? := by
  simp [setB, Array.getElem?_setIfInBounds, Ne.symm h]

theorem good_dict (h : Good P gl N g w E o n a) {q : Nat} {k : IntKind} {f f' : Int → Option AV} (hq : lookO q o = some (.dict k f)) {b cl cl' : Nat} {es es' : Array MapEntry} (hm : g.m q = some (b, 0))
    (hb : w.heap[b]? = some (.map es cl)) (hd : DictR g w k f' es'.toList) :
    Good P gl N g (setB w b (.map es' cl')) E (setO q (.dict k f') o) n a ∧ Stp g w o g (setB w b (.map es' cl')) (setO q (.dict k f') o) := by
  obtain ⟨b', es0, cl0, h1, hG, h3, hL, _⟩ := h.objs q _ hq
  rw [hm] at h1
  injection h1 with h1
  injection h1 with h1 _
  subst h1
  have hnew : (setB w b (.map es' cl')).heap[b]? = some (.map es' cl') := setB_at hb
  have hoth : ∀ k, k ≠ b → (setB w b (.map es' cl')).heap[k]? = w.heap[k]? := fun k hk => setB_ot hk
  have hsz : (setB w b (.map es' cl')).heap.size = w.heap.size := by simp [setB]
  have hev : Ev g w g (setB w b (.map es' cl')) := by
    refine ⟨fun _ _ h => h, fun t ob N ht => ⟨ob, N, ht, Nat.le_refl _, fun _ => rfl⟩, fun k off ho => ?_, fun _ => Nat.le_refl _, fun k c t hk => ?_⟩
    · have : k ≠ b := by rintro rfl; rw [hG] at ho; omega
      exact cell_old (hoth k this)
    · have : k ≠ b := by rintro rfl; obtain ⟨mk, hk, _⟩ := hk; rw [hb] at hk; cases hk
      exact ⟨c, by rw [cel_eq (hoth k this)]; exact hk, rfl⟩
  have hlook : ∀ j z, lookO j (setO q (.dict k f') o) = some z → ∃ z', lookO j o = some z' ∧ (∀ g : Gh, blkOf g j z = blkOf g j z') ∧ (j ≠ q → z = z') ∧ (j = q → z = .dict k f') := by
    intro j z hk
    rw [lookO_setO] at hk
    by_cases e : j = q
    · subst e
      rw [if_pos rfl, hq] at hk
      injection hk with hk
      subst hk
      exact ⟨_, hq, fun _ => rfl, fun h => absurd rfl h, fun _ => rfl⟩
    · rw [if_neg e] at hk
      exact ⟨z, hk, fun _ => rfl, fun _ => rfl, fun h => absurd h e⟩
  have hown : Own g o b := ⟨q, _, hq, by simp [blkOf, hm]⟩
  refine ⟨⟨fun j z hk => ?_, fun j z j' z' bb h1 h2 h3 h4 => ?_, fun j z hk => by (obtain ⟨z', h1, _⟩ := hlook j z hk; exact h.blt j z' h1), h.mlt, h.rlt, fun t => (R_ev hev _).v _ (h.env t), h.sz, h.def_, fun c hc => h.gz c (by rw [hsz] at hc; exact hc), fun i => (R_ev hev _).v _ (h.gl i)⟩,
    ⟨by rw [hsz]; exact Nat.le_refl _, fun j hj hn => ⟨hoth j (fun e => hn (e ▸ hown)), rfl⟩, fun j hk => ?_, hev.pub, hev.le, hev.cap, fun j i hj hn => ?_, fun j i hk => ?_, fun _ _ => rfl, fun _ ob N _ h => ⟨ob, N, h, Nat.le_refl _, fun _ => rfl⟩, rfl, rfl⟩⟩
  · obtain ⟨z', h1, h2, h3, h4⟩ := hlook j z hk
    by_cases e : j = q
    · subst e
      rw [h4 rfl]
      exact ⟨b, es', cl', hm, hG, hnew, hL, hd.ev hev⟩
    · rw [h3 e]
      refine obj_ev hev (h.objs j z' h1) rfl (fun _ h => h) (fun bb hbb => ⟨rfl, hoth bb ?_⟩)
      rintro rfl
      exact e (h.inj j z' q _ _ h1 hq hbb (by simp [blkOf, hm]))
  · obtain ⟨y1, a1, a2, _, _⟩ := hlook j z h1
    obtain ⟨y2, a3, a4, _, _⟩ := hlook j' z' h2
    exact h.inj j y1 j' y2 bb a1 a3 (by rw [← a2]; exact h3) (by rw [← a4]; exact h4)
  · obtain ⟨k', z, h1, h2⟩ := hk
    obtain ⟨z', h3, h4, _, _⟩ := hlook k' z h1
    exact .inl ⟨k', z', h3, by rw [← h4]; exact h2⟩
  · have : j ≠ b := by rintro rfl; exact hn ⟨q, _, hq, 0, hm⟩
    exact cell_old (hoth j this)
  · obtain ⟨k', z, h1, h2⟩ := hk
    obtain ⟨z', h3, _, h5, h6⟩ := hlook k' z h1
    refine .inl ?_
    by_cases e : k' = q
    · subst e
      rw [h6 rfl] at h2
      exact ⟨k', _, hq, h2⟩
    · rw [h5 e] at h2
      exact ⟨k', z', h3, h2⟩

theorem ok_mkm (h : Good P gl N g w E o n a) {oo : Oper} {t : TypeId} {k : IntKind} (ho : oo.op = .makeMap t none) {K : AV → Objs → Nat → Prop} (hw : wpL (evF gl E) o n (.mkm k) K) : Does P gl N g w E o n a oo K := by
  simp only [wpL, chk_iff] at hw
  obtain ⟨hL, hw⟩ := hw
  have hL : n < LENT := Nat.le_of_ble_eq_true hL
  let g' : Gh := { g with m := fun q => if q = n then some (w.heap.size, 0) else g.m q }
  have hnm : g.m n = none := by
    cases hgm : g.m n with
    | none => rfl
    | some p => exact absurd (h.mlt n p hgm) (by omega)
  have hgz : g.G w.heap.size = 0 := h.gz _ (Nat.le_refl _)
  have hev : Ev g w g' { w with heap := w.heap.push (.map #[] 0) } := by
    refine ⟨fun q p hq => ?_, fun t ob N ht => ⟨ob, N, ht, Nat.le_refl _, fun _ => rfl⟩, fun k off hk => cell_old (heap_push_old w _ (pub_lt h hk)), fun _ => Nat.le_refl _, fun b cs ty hb => ⟨cs, by rw [cel_eq (heap_push_old w _ (lt_of_cel hb))]; exact hb, rfl⟩⟩
    show (if q = n then _ else _) = _
    by_cases e : q = n
    · subst e; rw [hnm] at hq; cases hq
    · rw [if_neg e]; exact hq
  obtain ⟨k1, k2⟩ := good_new h (w' := { w with heap := w.heap.push (.map #[] 0) }) (g' := g') (x := .dict k (fun _ => none)) hev (by simp) (fun b hb => heap_push_old w _ hb) (fun q hq => if_neg hq) (fun _ _ => rfl) (fun _ _ => rfl)
    (fun b hb => h.gz b (by simp at hb; omega)) (fun b hb => by simp [blkOf, g'] at hb; omega) ⟨w.heap.size, #[], 0, by simp [g'], hgz, heap_push w _, hL, fun e he => by simp at he, fun n => rfl⟩ rfl rfl hL
  refine does_sem (s := Instr.makeMap t none) (by unfold execOp; rw [ho]; rfl) (v := .mp n) (cv := .map (some w.heap.size)) (by simp [Instr.makeMap]) ⟨⟨(w.heap.size, 0), by simp [g'], rfl⟩, trivial⟩ k1 k2 hw

theorem ok_mupd (h : Good P gl N g w E o n a) {oo : Oper} {t kt et : TypeId} {k : IntKind} {m key v : Operand} (ho : oo.op = .mapUpdate t m key v) (ht : P.underlying t = some (.map kt et)) (hk : P.underlying kt = some (.int k))
    {K : AV → Objs → Nat → Prop} (hw : wpL (evF gl E) o n (.mupd k (cx m) (cx key) (cx v)) K) : Does P gl N g w E o n a oo K := by
  simp only [wpL] at hw
  split at hw
  · rename_i q hxm
    split at hw
    · rename_i k' f hq
      split at hw
      · rename_i k2 x hxk
        simp only [chk_iff] at hw
        obtain ⟨e1, e2, hw⟩ := hw
        have e1 := kEq_eq e1
        have e2 := kEq_eq e2
        subst e1
        subst e2
        have hvm := ev_ok h m
        have hvk := ev_ok h key
        have hvv := ev_ok h v
        rw [hxm] at hvm
        rw [hxk] at hvk
        obtain ⟨⟨b, hgm, hem⟩, _⟩ := hvm
        obtain ⟨b', es, cl, h1, hG, hb, hL, hd⟩ := h.objs q _ hq
        rw [h1] at hgm
        injection hgm with hgm
        subst hgm
        obtain ⟨es', cl', hrun, hall, hl⟩ := run_mupd (n := x) ht hk hb hd.1 (a.eval v)
        have hd' : DictR g w k (fun y => if y = x then some (evF gl E (cx v)) else f y) es'.toList := ⟨hall, fun y => by
          by_cases c : y = x
          · simp only [c, if_true]
            exact ⟨_, by rw [hl, if_pos rfl], hvv⟩
          · simp only [c, if_false]
            have := hd.2 y
            rw [hl, if_neg c]
            exact this⟩
        obtain ⟨k1, k2⟩ := good_dict h hq h1 hb (cl' := cl') hd'
        have hek : a.eval key = .int k x := val_v hvk
        refine ⟨.any, .skip, _, g, _, n, ?_, ⟨undef, .inr ⟨rfl, rfl⟩, trivial⟩, k1, k2, hw⟩
        unfold execOp
        rw [ho]
        simp only [hem, hek, Sem.run_bind, hrun, Result.andThen_ok, Sem.run_pure]
      · exact hw.elim
    · exact hw.elim
  · exact hw.elim

theorem ok_mget (h : Good P gl N g w E o n a) {oo : Oper} {t kt et : TypeId} {k : IntKind} {m key : Operand} {i : TypeInfo} {v0 : Value} {ok : Bool} (ho : oo.op = .lookup t m key ok) (ht : P.underlying t = some (.map kt et)) (hk : P.underlying kt = some (.int k))
    (hi : P.info? et = some i) (hv0 : i.zero = some v0) (hc : cellV v0) {K : AV → Objs → Nat → Prop} (hw : wpL (evF gl E) o n (.mget k (.val v0) ok (cx m) (cx key)) K) : Does P gl N g w E o n a oo K := by
  simp only [wpL] at hw
  split at hw
  · rename_i q hxm
    split at hw
    · rename_i k' f hq
      split at hw
      · rename_i k2 x hxk
        simp only [chk_iff] at hw
        obtain ⟨e1, e2, hw⟩ := hw
        have e1 := kEq_eq e1
        have e2 := kEq_eq e2
        subst e1
        subst e2
        have hvm := ev_ok h m
        have hvk := ev_ok h key
        rw [hxm] at hvm
        rw [hxk] at hvk
        obtain ⟨⟨b, hgm, hem⟩, _⟩ := hvm
        obtain ⟨b', es, cl, h1, hG, hb, hL, hd⟩ := h.objs q _ hq
        rw [h1] at hgm
        injection hgm with hgm
        subst hgm
        have hek : a.eval key = .int k x := val_v hvk
        have hrun := run_mget (n := x) ht hk hb hd.1 hi hv0 ok
        have hd2 := hd.2 x
        have hexec : execOp a.eval oo = (do pure (.value (← Instr.lookup t (.map (some b')) (.int k x) ok))) := by unfold execOp; rw [ho]; simp only [hem, hek]
        have hzv : (R g w (.val v0)).v v0 := ⟨rfl, hc⟩
        cases hfx : f x with
        | none =>
          rw [hfx] at hd2 hw
          simp only at hd2 hw
          rw [hd2] at hrun
          cases ok with
          | true => exact does_sem hexec hrun (v := .tup (.cons (.val v0) (.cons (.val (.bool false)) .nil))) (cv := .tuple #[v0, .bool false]) ⟨#[v0, .bool false], rfl, hzv, ⟨rfl, trivial⟩, rfl⟩ h (Stp.refl g w o) hw
          | false => exact does_sem hexec hrun hzv h (Stp.refl g w o) hw
        | some v =>
          rw [hfx] at hd2 hw
          simp only at hd2 hw
          obtain ⟨u, hu1, hu2⟩ := hd2
          rw [hu1] at hrun
          cases ok with
          | true => exact does_sem hexec hrun (v := .tup (.cons v (.cons (.val (.bool true)) .nil))) (cv := .tuple #[u, .bool true]) ⟨#[u, .bool true], rfl, hu2, ⟨rfl, trivial⟩, rfl⟩ h (Stp.refl g w o) hw
          | false => exact does_sem hexec hrun hu2 h (Stp.refl g w o) hw
      · exact hw.elim
    · exact hw.elim
  · exact hw.elim

theorem madeCells_get (z : Array Value) (n j : Nat) (hj : j < n) (hz : 0 < z.size) : (madeCells z n)[j]? = z[j % z.size]? := by
  have : j % z.size < z.size := Nat.mod_lt _ hz
  unfold madeCells
  rw [Array.getElem?_map, Array.getElem?_range, if_pos hj, Option.map_some, getElem!_pos z (j % z.size) this, Array.getElem?_eq_getElem this]

theorem ok_mks (h : Good P gl N g w E o n a) {oo : Oper} {t e : TypeId} {i : TypeInfo} {z : AV} {l c : Operand} (ho : oo.op = .makeSlice t l c) (ht : P.underlying t = some (.slice e)) (hi : P.info? e = some i)
    (hz : zOk P e z = true) (hsz : size z = i.size) (hpos : 0 < i.size) (hby : 0 < i.bytes) {K : AV → Objs → Nat → Prop} (hw : wpL (evF gl E) o n (.mks i.size i.bytes e z (cx l) (cx c)) K) : Does P gl N g w E o n a oo K := by
  have hl := ev_ok h l
  have hc := ev_ok h c
  simp only [wpL] at hw
  split at hw
  · rename_i kl m kc q hevl hevc
    rw [hevl] at hl
    rw [hevc] at hc
    obtain ⟨hL, ⟨h0, hmq, hb⟩, hK⟩ := chk_iff.1 hw
    have hL : n < LENT := Nat.le_of_ble_eq_true hL
    obtain ⟨i', v, hi', hv, hcl, hcells⟩ := zOk_spec hz
    rw [hi] at hi'
    injection hi' with hi'
    subst hi'
    have hlen : v.cells.size = i.size := by rw [hcells, List.size_toArray, cellsOf_length z hcl, hsz]
    have hq0 : 0 ≤ q := by omega
    obtain ⟨q', rfl⟩ := Int.eq_ofNat_of_zero_le hq0
    have hb2 : ((q' * i.bytes : Nat) : Int) ≤ 140737488355328 := by rw [Int.natCast_mul]; exact hb
    have hqb : q' * i.bytes ≤ 140737488355328 := by omega
    have hqc : (i.bytes : Int) * (q' : Int) ≤ 281474976710656 := by rw [Int.mul_comm, ← Int.natCast_mul]; omega
    have hq1 : q' ≤ q' * i.bytes := Nat.le_mul_of_pos_right _ hby
    have hrun := run_make (P := P) w t e i v ht hi hv kl kc m q' h0 hmq hqc (by omega)
    have hmm : m.toNat ≤ q' := by omega
    have hfit : m.toNat * i.size ≤ q' * i.size := Nat.mul_le_mul_right _ hmm
    obtain ⟨g', k1, k2, k3, k4⟩ := good_vec h (Drawn.refl w) (z := .arr m.toNat i.size (fun _ => z)) (cs := madeCells v.cells ((q' : Int).toNat * i.size)) (ty := e) (by simp only [size, size_madeCells, Int.toNat_natCast]; exact hfit) (fun p hp => ⟨hsz, by
      refine closed_seg z hcl (fun j hj => ?_)
      rw [hsz] at hj
      have hlt := mul_add_lt hp hj
      show (madeCells v.cells ((q' : Int).toNat * i.size))[0 + p * i.size + j]? = _
      rw [madeCells_get _ _ _ (by rw [Int.toNat_natCast, Nat.zero_add]; omega) (by omega), hlen, Nat.zero_add, Nat.mul_comm, Nat.mul_add_mod, Nat.mod_eq_of_lt hj, hcells]
      simp⟩) hL
    refine does_sem (s := Instr.makeSlice t (a.eval l) (a.eval c)) (by unfold execOp; rw [ho]) (by rw [val_v hl, val_v hc]; exact hrun) (v := .sli n 0 m.toNat i.size e) ⟨.inr ⟨_, (q' : Int).toNat, k3, by rw [Int.toNat_natCast]; exact hmm, by simp, by rw [Int.toNat_natCast]; omega, _, _, .mk0 k4, by rw [size_madeCells]; simp⟩, csl (by omega)⟩ k1 k2 hK
  · exact hw.elim

/-- A new row of one's own in a new block, whatever the block's mark. -/
theorem good_vecM (h : Good P gl N g w E o n a) {w' : World} {z : AV} {cs : Array Value} {ty : TypeId} {mk : Nat × Nat} (hh : w'.heap = w.heap.push (.cells cs ty mk)) (hu : Unf cs mk) (os : w'.os = w.os) (out : w'.output = w.output)
    (hs : size z ≤ cs.size) (hz : (R g w z).s (fun j => cs[j]?) 0) (hL : n < LENT) :
    ∃ g', Good P gl N g' w' E ((n, .box z) :: o) (n + 1) a ∧ Stp g w o g' w' ((n, .box z) :: o) ∧ g'.m n = some (w.heap.size, 0) ∧ Cel w' w.heap.size cs ty := by
  let g' : Gh := { g with m := fun k => if k = n then some (w.heap.size, 0) else g.m k }
  have hold : ∀ b, b < w.heap.size → w'.heap[b]? = w.heap[b]? := fun b hb => by rw [hh, Array.getElem?_push, if_neg (by omega)]
  have hnew : Cel w' (w.heap.size) cs ty := ⟨mk, by rw [hh, Array.getElem?_push, if_pos rfl], hu⟩
  have hsz : w'.heap.size = w.heap.size + 1 := by rw [hh, Array.size_push]
  have hm : ∀ k b, g.m k = some b → g'.m k = some b := fun k b hk => by
    have := h.mlt k b hk
    show (if k = n then _ else _) = _
    rw [if_neg (by omega)]; exact hk
  have hev : Ev g w g' w' := ⟨hm, fun t ob N ht => ⟨ob, N, ht, Nat.le_refl _, fun _ => rfl⟩, fun b off ho => cell_old (hold b (pub_lt h ho)), fun _ => Nat.le_refl _,
    fun b c t hb => ⟨c, by rw [cel_eq (hold b (lt_of_cel hb))]; exact hb, rfl⟩⟩
  obtain ⟨h1, h2⟩ := good_new h (w' := w') (g' := g') (x := .box z) hev (by omega) hold (fun k hk => by show (if k = n then _ else _) = _; rw [if_neg hk]) (fun _ _ => rfl) (fun _ _ => rfl)
    (fun b hb => h.gz b (by omega)) (fun b hb => by simp [blkOf, g'] at hb; omega)
    (.inr ⟨(w.heap.size, 0), cs, ty, by simp [g'], h.gz _ (Nat.le_refl _), hnew, by simp [hs], by rw [look_cel hnew]; exact (R_ev hev z).s _ _ _ _ (fun _ _ => rfl) hz, fun _ => rfl⟩) os out hL
  exact ⟨g', h1, h2, by simp [g'], hnew⟩

theorem bytesWorld_heap (w : World) (e : TypeId) (s : ByteArray) : (Lib.bytesWorld w e s).heap = w.heap.push (.cells (Lib.bytesCells w e s) e ((Lib.bytesCells w e s).size, (Lib.bytesCells w e s).size + 1)) := by
  apply Array.ext_getElem?
  intro j
  rw [Array.getElem?_push]
  by_cases h : j = w.heap.size
  · subst h; rw [if_pos rfl]; exact Lib.bytesWorld_at_new w e s
  · rw [if_neg h]
    by_cases h2 : j < w.heap.size
    · exact Lib.bytesWorld_at_old w e s j h2
    · rw [Array.getElem?_eq_none (by rw [Lib.bytesWorld_size]; omega), Array.getElem?_eq_none (by omega)]

theorem ok_s2b (h : Good P gl N g w E o n a) {oo : Oper} {s t e : TypeId} {x : Operand} (ho : oo.op = .convert s t x) (hs : P.underlying s = some .string) (ht : P.underlying t = some (.slice e)) (hb : P.underlying e = some (.int .u8))
    {K : AV → Objs → Nat → Prop} (hw : wpL (evF gl E) o n (.s2b e (cx x)) K) : Does P gl N g w E o n a oo K := by
  have hx := ev_ok h x
  simp only [wpL] at hw
  split at hw
  · rename_i str hev
    rw [hev] at hx
    obtain ⟨hL, hsz, hK⟩ := chk_iff.1 hw
    have hL : n < LENT := Nat.le_of_ble_eq_true hL
    have hrun := Lib.run_convert_string_bytes (P := P) w s t e str hs ht hb
    have hge : str.size ≤ grownCap w str.size 0 e := grownCap_ge w str.size 0 e
    have hle := grownCap_le_maxLen w str.size 0 e (by simp only [maxLen]; omega)
    have hcs : (Lib.bytesCells w e str).size = grownCap w str.size 0 e := by
      have hd : str.data.size = str.size := rfl
      unfold Lib.bytesCells
      simp only [Array.size_append, Array.size_map, Array.size_replicate, hd]
      omega
    obtain ⟨g', k1, k2, k3, k4⟩ := good_vecM h (w' := Lib.bytesWorld w e str) (z := .arr str.size 1 (fun i => .val (.int .u8 (bt str i)))) (bytesWorld_heap w e str) (.inr (Nat.le_refl _)) (by unfold Lib.bytesWorld World.freeze; rw [if_neg (by decide)]; rfl) (by unfold Lib.bytesWorld World.freeze; rw [if_neg (by decide)]; rfl)
      (by simp only [size, Nat.mul_one]; rw [hcs]; exact hge) (fun p hp => ⟨rfl, by
        refine ⟨_, ?_, rfl, ?_⟩
        · have hd : p < str.data.size := hp
          show (Lib.bytesCells w e str)[0 + p * 1]? = _
          unfold Lib.bytesCells
          rw [Nat.zero_add, Nat.mul_one, Array.getElem?_append, if_pos (by simpa using hd), Array.getElem?_map, Array.getElem?_eq_getElem hd]
          simp only [bt, Array.getD, hd, dif_pos, Option.map_some]; rfl
        · exact okI_byte str p⟩) hL
    refine does_sem (s := Go.convert s t (a.eval x)) (by unfold execOp; rw [ho]) (by rw [val_v hx]; exact hrun) (v := .sli n 0 str.size 1 e) ⟨.inr ⟨_, grownCap w str.size 0 e, k3, hge, by simp, by simp only [maxLen] at hle; omega, _, _, k4, by rw [hcs]; simp⟩, csl (by omega)⟩ k1 k2 hK
  · exact hw.elim

/-- A block is marked anew. -/
theorem good_mark (h : Good P gl N g w E o n a) {w' : World} {b : Nat} {cs : Array Value} {ty : TypeId} {mk mk' : Nat × Nat} (hb : w.heap[b]? = some (.cells cs ty mk)) (hb' : w'.heap[b]? = some (.cells cs ty mk')) (hu' : Unf cs mk') (hown : Own g o b)
    (hoth : ∀ k, k ≠ b → w'.heap[k]? = w.heap[k]?) (hsz : w'.heap.size = w.heap.size) (os : w'.os = w.os) (out : w'.output = w.output) :
    Good P gl N g w' E o n a ∧ Stp g w o g w' o := by
  have hcel : ∀ k cs ty, Cel w k cs ty → Cel w' k cs ty := fun k c t hc => by
    by_cases e : k = b
    · subst e
      obtain ⟨m2, q1, q2⟩ := hc
      rw [hb] at q1
      injection q1 with q1
      injection q1 with q3 q4 q5
      subst q3 q4
      exact ⟨mk', hb', hu'⟩
    · rw [cel_eq (hoth k e)]; exact hc
  have hlook : ∀ k, look w' k = look w k := fun k => by
    by_cases e : k = b
    · subst e; funext j; unfold look World.cell?; simp only [hb, hb']
    · exact look_eq (hoth k e)
  have hcell : ∀ k j, w'.cell? ⟨k, j, none⟩ = w.cell? ⟨k, j, none⟩ := fun k j => congrFun (hlook k) j
  have hev : Ev g w g w' := ⟨fun _ _ h => h, fun _ ob N h => ⟨ob, N, h, Nat.le_refl _, fun _ => rfl⟩, fun k j _ => hcell k j, fun _ => Nat.le_refl _, fun k c t hc => ⟨c, hcel k c t hc, rfl⟩⟩
  refine ⟨⟨fun k x hx => ?_, h.inj, h.blt, h.mlt, h.rlt, fun t => (R_ev hev _).v _ (h.env t), h.sz, h.def_, fun k hk => h.gz k (by rw [← hsz]; exact hk), fun i => (R_ev hev _).v _ (h.gl i)⟩,
    ⟨by rw [hsz]; exact Nat.le_refl _, fun k hk hn => ⟨hoth k (fun e => hn (e ▸ hown)), rfl⟩, fun _ h => .inl h, fun k j _ => hcell k j, fun _ => Nat.le_refl _, hev.cap, fun k j _ _ => hcell k j, fun _ _ h => .inl h, fun _ _ => rfl, fun _ ob N _ h => ⟨ob, N, h, Nat.le_refl _, fun _ => rfl⟩, os, out⟩⟩
  have hx := h.objs k x hx
  cases x with
  | box v =>
    obtain h0 | ⟨q, c, t, h1, h2, h3, h4, h5, h6⟩ := hx
    · exact .inl h0
    · exact .inr ⟨q, c, t, h1, h2, hcel _ _ _ h3, h4, by rw [hlook]; exact (R_ev hev v).s _ _ _ _ (fun _ _ => rfl) h5, h6⟩
  | room m e ty' =>
    obtain ⟨ob, h1, h2, h3⟩ := hx
    refine ⟨ob, h1, h2, fun q hq => ?_⟩
    obtain ⟨h4, c, ty2, h5, h6⟩ := h3 q hq
    exact ⟨h4, c, ty2, hcel _ _ _ h5, h6⟩
  | soon => exact hx
  | dict kk f =>
    obtain ⟨q, es, cl, h1, h2, h3, h4, h5⟩ := hx
    refine ⟨q, es, cl, h1, h2, ?_, h4, h5.ev hev⟩
    rw [hoth q (fun e => by subst e; rw [hb] at h3; cases h3)]
    exact h3

theorem ok_cvb (h : Good P gl N g w E o n a) {oo : Oper} {t e : TypeId} {x : Operand} (ho : oo.op = .convert t t x) (ht : P.underlying t = some (.slice e)) (hb : P.underlying e = some (.int .u8))
    {K : AV → Objs → Nat → Prop} (hw : wpL (evF gl E) o n (.cvb (cx x)) K) : Does P gl N g w E o n a oo K := by
  have hx := ev_ok h x
  simp only [wpL] at hw
  split at hw
  · rename_i q lo k e' ty hev
    split at hw
    · rename_i y hlo
      obtain ⟨hk, hK⟩ := hw
      rw [hev] at hx
      have hx0 := hx
      obtain ⟨⟨rfl, _⟩ | ⟨b, c, hm, hkc, hu, hcm, cs, tyc, ⟨mk, hcs, hunf⟩, hfit⟩, hcv⟩ := hx
      · omega
      · obtain ⟨m1, m2⟩ := mk
        let mk' : Nat × Nat := if m1 = m2 then (cs.size, cs.size + 1) else (min m1 cs.size, max m2 (cs.size + 1))
        have hun' : Unf cs mk' := by
          show Unf cs (if m1 = m2 then _ else _)
          split
          · exact .inr (Nat.le_refl _)
          · rcases hunf with hh | hh
            · injection hh with h1 h2; subst h1 h2; rename_i hne; exact absurd rfl hne
            · exact .inr (by simp only at hh ⊢; omega)
        let w' : World := w.freeze ⟨b.1, cs.size, none⟩ 1
        have hheap : w'.heap = w.heap.modify b.1 (fun
            | .cells c elem (lo, hi) => .cells c elem (if lo == hi then (cs.size, cs.size + 1) else (min lo cs.size, max hi (cs.size + 1)))
            | o => o) := by
          show (World.freeze w ⟨b.1, cs.size, none⟩ 1).heap = _
          unfold World.freeze
          rw [if_neg (by decide)]
          rfl
        have hat : w'.heap[b.1]? = some (.cells cs tyc mk') := by
          rw [hheap, Array.getElem?_modify, if_pos rfl, hcs]
          show some (Obj.cells cs tyc (if m1 == m2 then _ else _)) = _
          congr 2
          by_cases e1 : m1 = m2
          · simp [mk', e1]
          · simp [mk', e1]
        have hoth : ∀ k, k ≠ b.1 → w'.heap[k]? = w.heap[k]? := fun k hk => by
          rw [hheap, Array.getElem?_modify, if_neg (fun e => hk e.symm)]
        have hsz : w'.heap.size = w.heap.size := by rw [hheap, Array.size_modify]
        have hfz : w'.os = w.os ∧ w'.output = w.output := by
          show (World.freeze w ⟨b.1, cs.size, none⟩ 1).os = _ ∧ (World.freeze w ⟨b.1, cs.size, none⟩ 1).output = _
          unfold World.freeze
          rw [if_neg (by decide)]
          exact ⟨rfl, rfl⟩
        obtain ⟨g1, g2⟩ := good_mark h hcs hat hun' ⟨q, _, hlo, by simp [blkOf, hm]⟩ hoth hsz hfz.1 hfz.2
        have hsh : w.shape? b.1 = some (tyc, cs.size) := by unfold World.shape?; rw [hcs]
        have hrun : (Go.convert t t (a.eval x)).run P w = .ok (a.eval x) w' := by
          rw [hu]
          simp [Go.convert, run_underlying' ht, run_underlying' hb, markStringish, hsh, w']
        have hev' : Ev g w g w' := ⟨fun _ _ h => h, fun _ ob N h => ⟨ob, N, h, Nat.le_refl _, fun _ => rfl⟩, g2.pub, g2.le, g2.cap⟩
        exact does_sem (s := Go.convert t t (a.eval x)) (by unfold execOp; rw [ho]) hrun ((R_ev hev' _).v _ hx0) g1 g2 hK
    · exact hw.elim
  · exact hw.elim

theorem run_append_zero_str {t tx ty e : TypeId} {i : TypeInfo} (ht : P.underlying t = some (.slice e)) (hx : P.underlying tx = some .string) (hi : P.info? e = some i) {ob : Option Addr} {m cb : Nat} {s : ByteArray} (hs : s.size = 0) (hm : m ≤ cb) :
    (Builtin.append_ #[t, tx] ty #[.slice ob m cb, .string s]).run P w = .ok (.slice ob m cb) w := by
  have hf := Lib.run_firstCells_string (P := P) w i.size s
  have h0 : Lib.strCells s = [] := by
    have := Lib.strCells_length s
    rw [hs] at this
    exact List.eq_nil_of_length_eq_zero this
  rw [h0, hs] at hf
  cases ob with
  | none => simp [Builtin.append_, run_underlying ht, run_underlying hx, Go.sizeOf, typeInfo, hi, Builtin.lenOf, hs, hm, hf]
  | some b => simp [Builtin.append_, run_underlying ht, run_underlying hx, Go.sizeOf, typeInfo, hi, Builtin.lenOf, hs, hm, hf, storeCells]

theorem run_append_room_str {t tx ty e : TypeId} {i : TypeInfo} (ht : P.underlying t = some (.slice e)) (hx : P.underlying tx = some .string) (hi : P.info? e = some i) (hs1 : i.size = 1)
    {b sLen sCap : Nat} {cur : Array Value} {t' : TypeId} (hg : Cel w b cur t') {s : ByteArray} (hroom : sLen + s.size ≤ sCap) (hfit : sLen + s.size ≤ cur.size) :
    (Builtin.append_ #[t, tx] ty #[.slice (some ⟨b, 0, none⟩) sLen sCap, .string s]).run P w =
      .ok (.slice (some ⟨b, 0, none⟩) (sLen + s.size) sCap) (w.setRow b (cur.toList.take sLen ++ Lib.strCells s ++ cur.toList.drop (sLen + s.size)).toArray) := by
  have hf := Lib.run_firstCells_string (P := P) w 1 s
  have hst := run_storeCells_cel P b sLen _ (Lib.strCells s) 0 cur w hg (by simpa [Lib.strCells_length] using hfit) (Lib.strCells_oneCell s)
  simp only [Nat.add_zero, Lib.strCells_length] at hst
  simp [Builtin.append_, run_underlying ht, run_underlying hx, Go.sizeOf, typeInfo, hi, hs1, Builtin.lenOf, hroom, hf, Addr.add_lit, hst]

theorem ok_aps (h : Good P gl N g w E o n a) {oo : Oper} {c : Call} {x y : Operand} {t tx e : TypeId} {i : TypeInfo} {z : Value} (ho : oo.op = .call c) (hb : c.callee = .builtin .append) (hx : c.args.toList = [x, y]) (ht : c.argTypes.toList = [t, tx])
    (hd : P.underlying t = some (.slice e)) (hdx : P.underlying tx = some .string) (hi : P.info? e = some i) (hz : i.zero = some z) (hzs : z.cells.size = i.size) (hs1 : i.size = 1) (hb1 : i.bytes = 1) {K : AV → Objs → Nat → Prop}
    (hw : wpL (evF gl E) o n (.aps e (cx x) (cx y)) K) : Does P gl N g w E o n a oo K := by
  have he : execOp a.eval oo = (do pure (.value (← Builtin.append_ #[t, tx] oo.type #[a.eval x, a.eval y]))) := by
    have he : execOp a.eval oo = (do pure (.value (← Builtin.append_ c.argTypes oo.type (c.args.map a.eval)))) := exec_builtin ho hb
    have hargs : c.args = #[x, y] := by rw [← Array.toArray_toList (xs := c.args), hx]
    have hts : c.argTypes = #[t, tx] := by rw [← Array.toArray_toList (xs := c.argTypes), ht]
    rw [hargs, hts] at he
    simpa only [List.map_toArray, List.map_cons, List.map_nil] using he
  have hvx := ev_ok h x
  have hvy := ev_ok h y
  simp only [wpL] at hw
  split at hw
  · rename_i q lo m e1 ty1 s hev hevy
    rw [hev] at hvx
    rw [hevy] at hvy
    split at hw
    · rename_i m' e3 f hlo
      simp only [chk_iff] at hw
      obtain ⟨q0, q1, p2, p3, p4, p5, p6, hbd, hK⟩ := hw
      have q0 : q < LENT := Nat.le_of_ble_eq_true q0
      have q1 : n < LENT := Nat.le_of_ble_eq_true q1
      have p2 := beq_eq p2; have p3 := beq_eq p3; have p4 := beq_eq p4; have p5 := beq_eq p5
      subst p2 p3 p4 p5 p6
      rw [val_v hvy] at he
      have hvx : (R g w (.sli q 0 m i.size e)).v (a.eval x) := by rw [hs1]; exact hvx
      have hlo : lookO q o = some (.box (.arr m i.size f)) := by rw [hs1]; exact hlo
      have hK : K (.sli n 0 (m + s.size) i.size e) ((n, .box (.arr (m + s.size) i.size (appF m f (fun j => .val (.int .u8 (bt s j)))))) :: dropO q o) (n + 1) := by rw [hs1]; exact hK
      have hlen := Lib.strCells_length s
      have hsc : ∀ j, j < s.size → (Lib.strCells s)[j]? = some (.int .u8 (bt s j)) := fun j hj => by
        have hd : j < s.data.size := hj
        unfold Lib.strCells
        rw [List.getElem?_map, Array.getElem?_toList, Array.getElem?_eq_getElem hd]
        simp only [bt, Array.getD, hd, dif_pos, Option.map_some]; rfl
      refine does_appG (k := s.size) (fh := fun j => .val (.int .u8 (bt s j))) h hd hi hz hzs (by omega) (by omega) hvx ⟨Lib.strCells s, by rw [hlen, hs1, Nat.mul_one], Lib.strCells_oneCell s, fun p hp => ⟨hs1.symm, ?_⟩, fun h0 ob m cb hm => run_append_zero_str hd hdx hi h0 hm, fun hk => ?_, fun hk b M c cur ty' hc hroom hfit => ?_, fun hk b M c olds hlo2 holds hg hb2 => ?_⟩ hlo q0 q1 (by rw [hb1, Nat.mul_one]; exact hbd) he hK
      · exact ⟨_, by show (Lib.strCells s)[p * i.size]? = _; rw [hs1, Nat.mul_one]; exact hsc p hp, rfl, okI_byte s p⟩
      · have hr := run_append_nil_string (P := P) w t tx oo.type e i z hd hdx hi hz s hk (by omega) (by rw [hb1]; omega)
        rw [hr]
        congr 4
        unfold Lib.strCells
        apply Array.ext'
        simp
      · rw [hlen] at hfit ⊢
        rw [hs1, Nat.mul_one] at hfit ⊢
        exact run_append_room_str hd hdx hi hs1 hc hroom hfit
      · exact Lib.run_append_grow_string (P := P) w t tx oo.type e i z hd hdx hi hz b M c olds hlo2 holds s hg (by rw [hb1] at hb2; omega) (growslice_fits (by omega) hb2)
    · exact hw.elim
  · exact hw.elim

end
end Ar
