/- Regions: one walk in the order of the text serves every order that the machine may take. No condition. -/
import Derived.Test.YtankpibkakfnhaaDoorK04
import Derived.Scope
set_option linter.all false
namespace Ar
open Go
set_option linter.unusedVariables false
set_option autoImplicit false
set_option maxHeartbeats 1000000

section
variable {P : Program} {gl : Nat → AV} {N : Nat} {ops : Array Oper} {es : List Ent}

def qI (P : Program) (gl : Nat → AV) (es : List Ent) (i : Nat) (K : FS → Prop) (s : FS) : Prop :=
  match es[i]? with
  | some en => qE P gl en K s
  | none => K s

theorem qI_mono {i : Nat} {K K' : FS → Prop} {s : FS} (hk : ∀ s, K s → K' s) (h : qI P gl es i K s) : qI P gl es i K' s := by
  unfold qI at *
  split
  · rename_i en he; rw [he] at h; exact qE_mono hk h
  · rename_i he; rw [he] at h; exact hk _ h

def wpAnyA (P : Program) (gl : Nat → AV) (ops : Array Oper) (es : List Ent) (Q : FS → Prop) : Nat → Array Bool → FS → Prop
  | 0, listed, s => Region.ready .any ops listed = [] ∧ Q s
  | fuel + 1, listed, s => (Region.ready .any ops listed = [] → Q s) ∧ ∀ i ∈ Region.ready .any ops listed, qI P gl es i (wpAnyA P gl ops es Q fuel (listed.setIfInBounds i true)) s

/-- Does the operation number j wait, at whatever remove, for the one number k? -/
def reachGo (ops : Array Oper) (k : Nat) : Nat → Nat → List Nat → Nat → Bool
  | 0, _, _, _ => false
  | fuel + 1, i, r, j => match ops[i]? with
    | none => false
    | some oi => match oi.after.any fun e => Region.binds .any e && (Nat.beq e.on k || r.any fun q => Nat.beq e.on q) with
      | true => match Nat.beq i j with
        | true => true
        | false => reachGo ops k fuel (i + 1) (i :: r) j
      | false => match Nat.beq i j with
        | true => false
        | false => reachGo ops k fuel (i + 1) r j
/-- Does j wait for k, directly or through others? -/
def transC (ops : Array Oper) (k fuel j : Nat) : Bool := reachGo ops k (fuel + 1) (k + 1) [] j

/-- What is listed stands behind what it waits for. -/
def Closed (ops : Array Oper) (listed : Array Bool) : Prop := ∀ (j : Nat) oj, ops[j]? = some oj → listed.getD j false = true → ∀ e ∈ oj.after, Region.binds .any e = true → listed.getD e.on false = true

theorem reach_not {listed : Array Bool} (hc : Closed ops listed) {k : Nat} (hk : listed.getD k true = false) : ∀ (fuel i : Nat) (r : List Nat) (j : Nat),
    (∀ q ∈ r, ∃ oq, ops[q]? = some oq ∧ ∃ e ∈ oq.after, Region.binds .any e = true ∧ ¬ listed.getD e.on false = true) → reachGo ops k fuel i r j = true →
    ∃ oj, ops[j]? = some oj ∧ ∃ e ∈ oj.after, Region.binds .any e = true ∧ ¬ listed.getD e.on false = true
  | 0, _, _, _, _, h => by simp [reachGo] at h
  | fuel + 1, i, r, j, hr, h => by
    unfold reachGo at h
    cases ho : ops[i]? with
    | none => simp [ho] at h
    | some oi =>
      simp only [ho] at h
      cases ht : oi.after.any fun e => Region.binds .any e && (Nat.beq e.on k || r.any fun q => Nat.beq e.on q) with
      | false =>
        simp only [ht] at h
        cases hb : Nat.beq i j with
        | true => simp [hb] at h
        | false => simp only [hb] at h; exact reach_not hc hk fuel (i + 1) r j hr h
      | true =>
        simp only [ht] at h
        have hi : ∃ e ∈ oi.after, Region.binds .any e = true ∧ ¬ listed.getD e.on false = true := by
          rw [← Array.any_toList] at ht
          obtain ⟨e, he, hb⟩ := List.any_eq_true.1 ht
          simp only [Bool.and_eq_true, Bool.or_eq_true] at hb
          have he := Array.mem_toList_iff.1 he
          refine ⟨e, he, hb.1, fun hl => ?_⟩
          rcases hb.2 with h1 | h1
          · have h1 := beq_eq h1
            subst h1
            rcases Nat.lt_or_ge e.on listed.size with h' | h'
            · simp [h'] at hk hl; rw [hk] at hl; cases hl
            · simp [Array.getElem?_eq_none h'] at hl
          · obtain ⟨q, hq, hq2⟩ := List.any_eq_true.1 h1
            have hq2 := beq_eq hq2
            obtain ⟨oe, ho2, e', h2, h3, h4⟩ := hr q hq
            rw [← hq2] at ho2
            exact h4 (hc e.on oe ho2 hl e' h2 h3)
        cases hb : Nat.beq i j with
        | true =>
          have hb := beq_eq hb
          subst hb
          exact ⟨oi, ho, hi⟩
        | false =>
          simp only [hb] at h
          refine reach_not hc hk fuel (i + 1) (i :: r) j (fun q hq => ?_) h
          rcases List.mem_cons.1 hq with rfl | hq
          · exact ⟨oi, ho, hi⟩
          · exact hr q hq

theorem trans_not {listed : Array Bool} (hc : Closed ops listed) {k : Nat} (hk : listed.getD k true = false) (fuel j : Nat) (oj : Oper) (hj : ops[j]? = some oj) (h : transC ops k fuel j = true) :
    ∃ e ∈ oj.after, Region.binds .any e = true ∧ ¬ listed.getD e.on false = true := by
  obtain ⟨o', h1, h2⟩ := reach_not hc hk (fuel + 1) (k + 1) [] j (fun q hq => by cases hq) h
  rw [hj] at h1
  injection h1 with h1
  exact h1 ▸ h2

theorem closed_set {listed : Array Bool} (hc : Closed ops listed) {i : Nat} (hr : i ∈ Region.ready .any ops listed) : Closed ops (listed.setIfInBounds i true) := by
  have mono : ∀ q, listed.getD q false = true → (listed.setIfInBounds i true).getD q false = true := fun q hq => by
    simp only [Array.getD_eq_getD_getElem?, Array.getElem?_setIfInBounds] at hq ⊢
    by_cases e : i = q
    · subst e
      rw [if_pos rfl]
      by_cases h2 : i < listed.size
      · simp [h2]
      · simp [Array.getElem?_eq_none (Nat.le_of_not_lt h2)] at hq
    · rw [if_neg e]; exact hq
  intro j oj hj hl e he hb
  by_cases hji : j = i
  · subst hji
    obtain ⟨_, o2, ho2, hall⟩ := mem_ready.1 hr
    rw [hj] at ho2
    injection ho2 with ho2
    subst ho2
    exact mono _ (hall e he hb)
  · refine mono _ (hc j oj hj ?_ e he hb)
    rwa [getD_set_ne false (Ne.symm hji)] at hl

/-- The load's box is none of those that these slots point to, and no entry writes these slots. -/
def SepS (es : List Ent) (ei : Ent) (js : List Nat) (s : FS) : Prop := ∀ j ∈ js, (∀ en ∈ es, en.dst ≠ some j) ∧ ∃ i, adr ei.op = some i ∧ ∀ b p b' q, s.E i = .ptr b p → s.E j = .ptr b' q → b ≠ b'

theorem sepV_ne {x y : AV} (h : sepV x y = true) {b b' : Nat} {p q : List PE} (hx : x = .ptr b p) (hy : y = .ptr b' q) : b ≠ b' := by
  subst hx hy
  simp only [sepV] at h
  rintro rfl
  rw [beq_self] at h
  cases h

theorem sepB_spec {E : Nat → AV} {p : IOp} : ∀ {js : List Nat}, sepB E p js = true → ∀ j ∈ js, ∃ i, adr p = some i ∧ ∀ b q b' r, E i = .ptr b q → E j = .ptr b' r → b ≠ b'
  | [], _, j, hj => by cases hj
  | k :: r, h, j, hj => by
    simp only [sepB] at h
    split at h
    · rename_i i hi
      simp only [Bool.and_eq_true] at h
      rcases List.mem_cons.1 hj with rfl | hj
      · exact ⟨i, hi, fun b q b' r h1 h2 => sepV_ne h.1 h1 h2⟩
      · exact sepB_spec h.2 j hj
    · cases h

def sepE (js : List Nat) (x y : Ent) : Bool := apartV x y && match adrS y.op with
  | some j => js.contains j
  | none => false

theorem rds_adr {en : Ent} {i : Nat} (h : adr en.op = some i) : i ∈ en.rds := by
  unfold Ent.rds
  cases hp : en.op <;> rw [hp] at h <;> simp only [adr] at h <;> try cases h
  rename_i ag m x
  cases x <;> simp only [] at h <;> try cases h
  simp [rd, rdX]

theorem wpAnyA_first {Q : FS → Prop} {i : Nat} {ei : Ent} (hi : es[i]? = some ei) (d : Nat) (js : List Nat) : ∀ (fuel : Nat) (listed : Array Bool) (s : FS) {v : AV} {o : Objs} {n : Nat}, Closed ops listed → Fr s → SepS es ei js s →
      (∀ (j : Nat) oj ej, ops[j]? = some oj → es[j]? = some ej → j ≠ i → listed.getD j true = false → transC ops i d j = false → apartE ei ej = true ∨ sepE js ei ej = true) →
      (∀ (j : Nat) oj, ops[j]? = some oj → ∃ ej, es[j]? = some ej) →
      i ∈ Region.ready .any ops listed → YF P gl ei s v o n →
      wpAnyA P gl ops es Q fuel (listed.setIfInBounds i true) (s.next ei v o n) → wpAnyA P gl ops es Q (fuel + 1) listed s := by
  intro fuel
  induction fuel with
  | zero =>
    intro listed s v o n hcl hfr hsp _ _ hr hy H
    refine ⟨fun h => (by rw [h] at hr; cases hr), fun j hj => ?_⟩
    by_cases hji : j = i
    · subst hji
      unfold qI; rw [hi]
      exact ⟨v, o, n, hy, H⟩
    · have := ready_mono hj hji
      rw [H.1] at this
      cases this
  | succ fuel ih =>
    intro listed s v o n hcl hfr hsp hfree hes hr hy H
    refine ⟨fun h => (by rw [h] at hr; cases hr), fun j hj => ?_⟩
    by_cases hji : j = i
    · subst hji
      unfold qI; rw [hi]
      exact ⟨v, o, n, hy, H⟩
    · have h1 := H.2 j (ready_mono hj hji)
      obtain ⟨hjun, oj, hoj, hall⟩ := mem_ready.1 hj
      obtain ⟨ej, hej⟩ := hes j oj hoj
      have hnot : transC ops i d j = false := by
        cases ht : transC ops i d j with
        | false => rfl
        | true =>
          obtain ⟨e, he, hb, hn⟩ := trans_not hcl (mem_ready.1 hr).1 d j oj hoj ht
          exact absurd (hall e he hb) hn
      unfold qI at h1 ⊢
      rw [hej] at h1 ⊢
      obtain ⟨u, o2, n2, hy2, hK⟩ := h1
      have hmem : ∀ {q : Nat} {en : Ent}, es[q]? = some en → en ∈ es := fun {q en} hq => List.mem_of_getElem? hq
      obtain ⟨hapV, o3, n3, hy3, hy4, he⟩ : apartV ei ej = true ∧ ∃ o3 n3, YF P gl ej s u o3 n3 ∧ YF P gl ei (s.next ej u o3 n3) v o2 n2 ∧ (s.next ej u o3 n3).next ei v o2 n2 = (s.next ei v o n).next ej u o2 n2 := by
        rcases hfree j oj ej hoj hej hji hjun hnot with ha | ha
        · have hav : apartV ei ej = true := by simp only [apartE, Bool.and_eq_true] at ha; exact ha.1
          exact ⟨hav, YF_swap ha hfr hy hy2⟩
        · simp only [sepE, Bool.and_eq_true] at ha
          obtain ⟨hav, hb⟩ := ha
          split at hb
          · rename_i q hq
            obtain ⟨h5, i2, h6, h7⟩ := hsp q (by simpa using hb)
            exact ⟨hav, YF_swapS hav h6 hq h7 (h5 ei (hmem hi)) hy hy2⟩
          · cases hb
      have hsp' : SepS es ei js (s.next ej u o3 n3) := fun q hq => by
        obtain ⟨h5, i2, h6, h7⟩ := hsp q hq
        refine ⟨h5, i2, h6, fun b p b' r h8 h9 => h7 b p b' r ?_ ?_⟩
        · rw [← h8]
          exact (putD_ne (fun x hx e => (apartV_spec hapV).2.2 x hx (e ▸ rds_adr h6))).symm
        · rw [← h9]
          exact (putD_ne (fun x hx (e : x = q) => h5 ej (hmem hej) (by rw [← e]; exact hx))).symm
      refine ⟨u, o3, n3, hy3, ?_⟩
      have hfree' : ∀ (k : Nat) ok ek, ops[k]? = some ok → es[k]? = some ek → k ≠ i → (listed.setIfInBounds j true).getD k true = false →
          transC ops i d k = false → apartE ei ek = true ∨ sepE js ei ek = true := fun k ok ek hk hk2 hki hun hno => by
        refine hfree k ok ek hk hk2 hki ?_ hno
        by_cases hjk : j = k
        · subst hjk; exact hjun
        · rw [getD_set_ne true hjk] at hun; exact hun
      refine ih (listed.setIfInBounds j true) _ (closed_set hcl hj) (YF_fr hfr hy3) hsp' hfree' hes (ready_mono hr (Ne.symm hji)) hy4 ?_
      rw [Array.setIfInBounds_comm _ _ hji, he]
      exact hK

def freeC (ops : Array Oper) (es : List Ent) (listed : Array Bool) (k : Nat) : Bool :=
  (List.range ops.size).all fun j => Nat.beq j k || (listed.getD j true || ((match es[k]?, es[j]? with
    | some x, some y => apartE x y
    | _, _ => false) || transC ops k ops.size j))

def lexC (ops : Array Oper) (es : List Ent) : Nat → Nat → Array Bool → Bool
  | 0, _, listed => (Region.ready .any ops listed).isEmpty
  | fuel + 1, k, listed => (Region.ready .any ops listed).contains k && (freeC ops es listed k && lexC ops es fuel (k + 1) (listed.setIfInBounds k true))

/-- The order of the text. -/
def wpTxt (P : Program) (gl : Nat → AV) (Q : FS → Prop) : List Ent → FS → Prop
  | [], s => Q s
  | en :: r, s => qE P gl en (wpTxt P gl Q r) s

theorem wpAnyA_lex {Q : FS → Prop} (hes : ∀ (j : Nat) oj, ops[j]? = some oj → ∃ ej, es[j]? = some ej) (hlen : es.length = ops.size) : ∀ (l : List Ent) (k : Nat) (listed : Array Bool) (s : FS), Closed ops listed → Fr s → (∀ j, l[j]? = es[k + j]?) →
    lexC ops es l.length k listed = true → wpTxt P gl Q l s → wpAnyA P gl ops es Q l.length listed s
  | [], _, _, _, _, _, _, hB, h => ⟨by simpa [lexC] using hB, h⟩
  | en :: l, k, listed, s, hcl, hfr, hl, hB, h => by
    have h0 : es[k]? = some en := by simpa using (hl 0).symm
    simp only [List.length_cons, lexC, Bool.and_eq_true] at hB
    obtain ⟨hr, hf, hB'⟩ := hB
    have hr : k ∈ Region.ready .any ops listed := by simpa using hr
    obtain ⟨v, o, n, hy, hK⟩ := h
    refine wpAnyA_first h0 ops.size [] l.length listed s hcl hfr (fun j hj => by cases hj) (fun j oj ej hj hej hjk hun hno => .inl ?_) hes hr hy
      (wpAnyA_lex hes hlen l (k + 1) _ _ (closed_set hcl hr) (YF_fr hfr hy) (fun j => by have := hl (j + 1); simpa [Nat.add_assoc, Nat.add_comm 1 j] using this) hB' hK)
    have hjl : j < ops.size := (Array.getElem?_eq_some_iff.1 hj).1
    have := (List.all_eq_true.1 hf) j (by simpa using hjl)
    simp only [Bool.or_eq_true, h0, hej] at this
    rcases this with h1 | h1 | h1 | h1
    · exact absurd (beq_eq h1) hjk
    · rw [hun] at h1; cases h1
    · exact h1
    · rw [hno] at h1; cases h1

/-! The same, where stores may come ahead of a load of another box. -/
def freeS (ops : Array Oper) (es : List Ent) (js : List Nat) (listed : Array Bool) (k : Nat) : Bool :=
  (List.range ops.size).all fun j => Nat.beq j k || (listed.getD j true || ((match es[k]?, es[j]? with
    | some x, some y => apartE x y || sepE js x y
    | _, _ => false) || transC ops k ops.size j))

def noDst (es : List Ent) (js : List Nat) : Bool := js.all fun j => es.all fun en => match en.dst with
  | some d => !Nat.beq d j
  | none => true

def lexS (ops : Array Oper) (es : List Ent) : List (List Nat) → Nat → Array Bool → Bool
  | [], _, listed => (Region.ready .any ops listed).isEmpty
  | js :: r, k, listed => (Region.ready .any ops listed).contains k && (noDst es js && (freeS ops es js listed k && lexS ops es r (k + 1) (listed.setIfInBounds k true)))

def wpTxtS (P : Program) (gl : Nat → AV) (Q : FS → Prop) : List (Ent × List Nat) → FS → Prop
  | [], s => Q s
  | (en, js) :: r, s => sepB s.E en.op js = true ∧ qE P gl en (wpTxtS P gl Q r) s

theorem noDst_spec {js : List Nat} (h : noDst es js = true) : ∀ j ∈ js, ∀ en ∈ es, en.dst ≠ some j := fun j hj en hen he => by
  have := List.all_eq_true.1 (List.all_eq_true.1 h j hj) en hen
  rw [he] at this
  simp at this

theorem wpAnyA_lexS {Q : FS → Prop} (hes : ∀ (j : Nat) oj, ops[j]? = some oj → ∃ ej, es[j]? = some ej) (hlen : es.length = ops.size) : ∀ (l : List (Ent × List Nat)) (k : Nat) (listed : Array Bool) (s : FS), Closed ops listed → Fr s → (∀ j, (l.map (·.1))[j]? = es[k + j]?) →
    lexS ops es (l.map (·.2)) k listed = true → wpTxtS P gl Q l s → wpAnyA P gl ops es Q l.length listed s
  | [], _, _, _, _, _, _, hB, h => ⟨by simpa [lexS] using hB, h⟩
  | (en, js) :: l, k, listed, s, hcl, hfr, hl, hB, h => by
    have h0 : es[k]? = some en := by simpa using (hl 0).symm
    simp only [List.map_cons, lexS, Bool.and_eq_true] at hB
    obtain ⟨hr, hnd, hf, hB'⟩ := hB
    have hr : k ∈ Region.ready .any ops listed := by simpa using hr
    obtain ⟨hsep, v, o, n, hy, hK⟩ := h
    refine wpAnyA_first h0 ops.size js l.length listed s hcl hfr (fun j hj => ?_) (fun j oj ej hj hej hjk hun hno => ?_) hes hr hy
      (wpAnyA_lexS hes hlen l (k + 1) _ _ (closed_set hcl hr) (YF_fr hfr hy) (fun j => by have := hl (j + 1); simpa [Nat.add_assoc, Nat.add_comm 1 j] using this) hB' hK)
    · exact ⟨noDst_spec hnd j hj, sepB_spec hsep j hj⟩
    · have hjl : j < ops.size := (Array.getElem?_eq_some_iff.1 hj).1
      have := (List.all_eq_true.1 hf) j (by simpa using hjl)
      simp only [Bool.or_eq_true, h0, hej] at this
      rcases this with h1 | h1 | (h1 | h1) | h1
      · exact absurd (beq_eq h1) hjk
      · rw [hun] at h1; cases h1
      · exact .inl h1
      · exact .inr h1
      · rw [hno] at h1; cases h1

/-! The same, where boxes are made in the region itself. -/
def SepZ (ei : Ent) (js : List Nat) (s : FS) : Prop := ∀ j ∈ js, ∀ i b p, adr ei.op = some i → s.E i = .ptr b p → b ≠ s.n - j

theorem wpAnyA_firstR {Q : FS → Prop} {i : Nat} {ei : Ent} (hi : es[i]? = some ei) (hkeep : ∀ (j : Nat) ej, es[j]? = some ej → keepN ej.op = true) (d : Nat) (js : List Nat) : ∀ (fuel : Nat) (listed : Array Bool) (s : FS) {v : AV} {o : Objs} {n : Nat}, Closed ops listed → Fr s → SepZ ei js s →
      (∀ (j : Nat) oj ej, ops[j]? = some oj → es[j]? = some ej → j ≠ i → listed.getD j true = false → transC ops i d j = false → apartE ei ej = true ∨ apartS ei ej = true ∨ sepR js ei ej = true) →
      (∀ (j : Nat) oj, ops[j]? = some oj → ∃ ej, es[j]? = some ej) →
      i ∈ Region.ready .any ops listed → YF P gl ei s v o n →
      wpAnyA P gl ops es Q fuel (listed.setIfInBounds i true) (s.next ei v o n) → wpAnyA P gl ops es Q (fuel + 1) listed s := by
  intro fuel
  induction fuel with
  | zero =>
    intro listed s v o n hcl hfr hsp _ _ hr hy H
    refine ⟨fun h => (by rw [h] at hr; cases hr), fun j hj => ?_⟩
    by_cases hji : j = i
    · subst hji
      unfold qI; rw [hi]
      exact ⟨v, o, n, hy, H⟩
    · have := ready_mono hj hji
      rw [H.1] at this
      cases this
  | succ fuel ih =>
    intro listed s v o n hcl hfr hsp hfree hes hr hy H
    refine ⟨fun h => (by rw [h] at hr; cases hr), fun j hj => ?_⟩
    by_cases hji : j = i
    · subst hji
      unfold qI; rw [hi]
      exact ⟨v, o, n, hy, H⟩
    · have h1 := H.2 j (ready_mono hj hji)
      obtain ⟨hjun, oj, hoj, hall⟩ := mem_ready.1 hj
      obtain ⟨ej, hej⟩ := hes j oj hoj
      have hnot : transC ops i d j = false := by
        cases ht : transC ops i d j with
        | false => rfl
        | true =>
          obtain ⟨e, he, hb, hn⟩ := trans_not hcl (mem_ready.1 hr).1 d j oj hoj ht
          exact absurd (hall e he hb) hn
      unfold qI at h1 ⊢
      rw [hej] at h1 ⊢
      obtain ⟨u, o2, n2, hy2, hK⟩ := h1
      obtain ⟨hapV, o3, n3, hy3, hy4, he⟩ : apartV ei ej = true ∧ ∃ o3 n3, YF P gl ej s u o3 n3 ∧ YF P gl ei (s.next ej u o3 n3) v o2 n2 ∧ (s.next ej u o3 n3).next ei v o2 n2 = (s.next ei v o n).next ej u o2 n2 := by
        rcases hfree j oj ej hoj hej hji hjun hnot with ha | ha | ha
        · have hav : apartV ei ej = true := by simp only [apartE, Bool.and_eq_true] at ha; exact ha.1
          exact ⟨hav, YF_swap ha hfr hy hy2⟩
        · have hav : apartV ei ej = true := by simp only [apartS, Bool.and_eq_true] at ha; exact ha.1
          exact ⟨hav, YF_swapR ha hy hy2⟩
        · simp only [sepR, Bool.and_eq_true] at ha
          obtain ⟨hav, _, hsome, hb⟩ := ha
          split at hb
          · rename_i q hq
            obtain ⟨i2, h6⟩ := Option.isSome_iff_exists.1 hsome
            exact ⟨hav, YF_swapZ hav h6 hq (fun b p hE => hsp q (by simpa using hb) i2 b p h6 hE) hy hy2⟩
          · cases hb
      have hn3 : n3 = s.n := YF_keep (hkeep j ej hej) hy3
      have hsp' : SepZ ei js (s.next ej u o3 n3) := fun q hq i2 b p h6 hE => by
        have e1 : s.E i2 = .ptr b p := by
          rw [← hE]
          exact (putD_ne (fun x hx e => (apartV_spec hapV).2.2 x hx (e ▸ rds_adr h6))).symm
        show b ≠ n3 - q
        rw [hn3]
        exact hsp q hq i2 b p h6 e1
      refine ⟨u, o3, n3, hy3, ?_⟩
      have hfree' : ∀ (k : Nat) ok ek, ops[k]? = some ok → es[k]? = some ek → k ≠ i → (listed.setIfInBounds j true).getD k true = false →
          transC ops i d k = false → apartE ei ek = true ∨ apartS ei ek = true ∨ sepR js ei ek = true := fun k ok ek hk hk2 hki hun hno => by
        refine hfree k ok ek hk hk2 hki ?_ hno
        by_cases hjk : j = k
        · subst hjk; exact hjun
        · rw [getD_set_ne true hjk] at hun; exact hun
      refine ih (listed.setIfInBounds j true) _ (closed_set hcl hj) (YF_fr hfr hy3) hsp' hfree' hes (ready_mono hr (Ne.symm hji)) hy4 ?_
      rw [Array.setIfInBounds_comm _ _ hji, he]
      exact hK

def freeR (ops : Array Oper) (es : List Ent) (js : List Nat) (listed : Array Bool) (k : Nat) : Bool :=
  (List.range ops.size).all fun j => Nat.beq j k || (listed.getD j true || ((match es[k]?, es[j]? with
    | some x, some y => apartE x y || (apartS x y || sepR js x y)
    | _, _ => false) || transC ops k ops.size j))

/-- A load that may be swapped with a store into a box of the region's own is not guarded. -/
def bareB (en : Ent) : List Nat → Bool
  | [] => true
  | _ :: _ => match en.gd with
    | none => true
    | some _ => false

def lexR (ops : Array Oper) (es : List Ent) : List (Nat × List Nat) → Array Bool → Bool
  | [], listed => (Region.ready .any ops listed).isEmpty
  | (k, js) :: r, listed => (Region.ready .any ops listed).contains k && ((match es[k]? with | some en => bareB en js | none => false) && (freeR ops es js listed k && lexR ops es r (listed.setIfInBounds k true)))

def wpTxtR (P : Program) (gl : Nat → AV) (Q : FS → Prop) : List (Ent × List Nat) → FS → Prop
  | [], s => Q s
  | (en, js) :: r, s => soonB s.n s.o js = true ∧ qE P gl en (wpTxtR P gl Q r) s

def pickE (es : List Ent) : List (Nat × List Nat) → List (Ent × List Nat)
  | [] => []
  | (k, js) :: r => (es.getD k (.n .dead), js) :: pickE es r

theorem soonB_spec {n : Nat} {o : Objs} : ∀ {js : List Nat}, soonB n o js = true → ∀ j ∈ js, lookO (n - j) o = some .soon
  | [], _, j, hj => by cases hj
  | k :: r, h, j, hj => by
    simp only [soonB, Bool.and_eq_true] at h
    obtain ⟨h1, h2⟩ := h
    rcases List.mem_cons.1 hj with rfl | hj
    · split at h1
      · assumption
      · cases h1
    · exact soonB_spec h2 j hj

theorem ld_box {P : Program} {gl : Nat → AV} {E : Nat → AV} {o : Objs} {n i : Nat} {p : IOp} (hp : adr p = some i) {v : AV} {o1 : Objs} {n1 : Nat} (h : wpF false P gl ⟨E, o, n⟩ p (fun x y z => x = v ∧ y = o1 ∧ z = n1)) {b : Nat} {q : List PE} (he : E i = .ptr b q) :
    ∃ a, lookO b o = some (.box a) := by
  cases p <;> simp only [adr] at hp <;> try cases hp
  rename_i ag m x
  cases x <;> simp only [] at hp <;> try cases hp
  simp only [wpF, wpV, evF, he] at h
  split at h
  · rename_i a hb; exact ⟨a, hb⟩
  · exact h.elim

theorem wpAnyA_lexR {Q : FS → Prop} (hes : ∀ (j : Nat) oj, ops[j]? = some oj → ∃ ej, es[j]? = some ej) (hkeep : ∀ (j : Nat) ej, es[j]? = some ej → keepN ej.op = true) : ∀ (l : List (Nat × List Nat)) (listed : Array Bool) (s : FS), Closed ops listed → Fr s →
    lexR ops es l listed = true → wpTxtR P gl Q (pickE es l) s → wpAnyA P gl ops es Q l.length listed s
  | [], _, _, _, _, hB, h => ⟨by simpa [lexR] using hB, h⟩
  | (k, js) :: l, listed, s, hcl, hfr, hB, h => by
    simp only [lexR, Bool.and_eq_true] at hB
    obtain ⟨hr, hbare, hf, hB'⟩ := hB
    split at hbare
    · rename_i en h0
      have hg : es.getD k (.n .dead) = en := by simp [List.getD, h0]
      simp only [pickE, wpTxtR, hg] at h
      have hr : k ∈ Region.ready .any ops listed := by simpa using hr
      obtain ⟨hsoon, v, o, n, hy, hK⟩ := h
      refine wpAnyA_firstR h0 hkeep ops.size js l.length listed s hcl hfr (fun j hj i b p hi hE => ?_) (fun j oj ej hj hej hjk hun hno => ?_) hes hr hy
        (wpAnyA_lexR hes hkeep l _ _ (closed_set hcl hr) (YF_fr hfr hy) hB' hK)
      · have hs := soonB_spec hsoon j hj
        rcases hy with ⟨_, hy⟩ | ⟨hgd, _⟩
        · obtain ⟨a, hb⟩ := ld_box (o := s.o) (n := s.n) hi hy hE
          rintro rfl
          rw [hs] at hb
          cases hb
        · cases js with
          | nil => cases hj
          | cons j0 r =>
            simp only [bareB] at hbare
            split at hbare
            · rename_i hnone
              rw [hnone] at hgd
              cases hgd
            · cases hbare
      · have hjl : j < ops.size := (Array.getElem?_eq_some_iff.1 hj).1
        have := (List.all_eq_true.1 hf) j (by simpa using hjl)
        simp only [Bool.or_eq_true, h0, hej] at this
        rcases this with h1 | h1 | (h1 | h1 | h1) | h1
        · exact absurd (beq_eq h1) hjk
        · rw [hun] at h1; cases h1
        · exact .inl h1
        · exact .inr (.inl h1)
        · exact .inr (.inr h1)
        · rw [hno] at h1; cases h1
    · cases hbare

/-- What an operation makes of the machine. -/
theorem compF_ok {b : Bool} {g : Gh} {w : World} {s : FS} {a : Act} (h : Good P gl N g w s.E s.o s.n a) {oo : Oper} {p : IOp} (hc : compOp P oo.op = some p) {K : AV → Objs → Nat → Prop} (hw : wpF b P gl s p K)
    {next : Act → World → Prop} {Q : Exit → Act → World → Prop}
    (hn : ∀ v cv g' w' o' n' a', (R g' w' v).v cv → Good P gl N g' w' s.E o' n' a' → Stp g w s.o g' w' o' → K v o' n' → next (a'.put oo.dst cv) w') : oo.wp P a w next Q := by
  unfold Oper.wp
  simp only [compOp] at hc
  split at hc
  · rename_i q hq
    injection hc with hc
    subst hc
    have hv : wpV (evF gl s.E) s.o q fun v => K v s.o s.n := by
      cases q <;> simp only [wpF] at hw <;> first | exact hw | (exfalso; cases hop : oo.op <;> rw [hop] at hq <;> simp only [compV, cEqn] at hq <;> (repeat' (split at hq)) <;> cases hq)
    obtain ⟨v, cv, hr, h1, h2⟩ := compV_ok h hq hv
    rw [hr]
    exact hn v cv g w s.o s.n a h1 h (Stp.refl g w s.o) h2
  · split at hc
    · rename_i q hq
      injection hc with hc
      subst hc
      have hl : wpL (evF gl s.E) s.o s.n q K := by
        cases q <;> simp only [wpF] at hw <;> first | exact hw | (exfalso; cases hop : oo.op <;> rw [hop] at hq <;> simp only [compL] at hq <;> (repeat' (split at hq)) <;> cases hq)
      obtain ⟨v, nx, w', g', o', n', hr, ⟨cv, hcv, h1⟩, h2, h3, h4⟩ := compL_ok h hq hl
      rw [hr]
      rcases hcv with rfl | ⟨rfl, rfl⟩
      · exact hn v cv g' w' o' n' a h1 h2 h3 h4
      · exact hn v undef g' w' o' n' a h1 h2 h3 h4
    · split at hc
      · rename_i q hq
        injection hc with hc
        subst hc
        cases q with
        | call f l =>
          obtain ⟨xs, rfl, hr⟩ := compC_run hq a w
          simp only [wpF] at hw
          cases b with
          | true =>
            rw [hr]
            refine (hw.s N g w _ a _ h (evFL_ok h xs)).mono ?_
            rintro x w' ⟨v, u, g', o', n', rfl, h1, h2, h3, h4⟩
            exact hn v u g' w' o' n' a h1 h2 h3 h4
          | false =>
          rcases hw with ⟨args', r, hle, hp, hK⟩ | ⟨t, m, e, ty, args', r, m', ht, hle, hp, hK⟩
          · rw [hr]
            have hargs := RL.le hle (evFL_ok h xs)
            refine (good_callV h hp hargs).mono ?_
            rintro x w' ⟨u, g', rfl, h1, h2, h3, _⟩
            exact hn r u g' w' s.o s.n a h3 h1 h2 hK
          · rw [hr]
            have hargs := RL_leT h ht hle (evFL_ok h xs)
            refine (good_callT h ht hp hargs).mono ?_
            rintro x w' ⟨u, g', rfl, h1, h2, h3, _⟩
            exact hn _ u g' w' _ s.n a h3 h1 h2 hK
        | xcall f l =>
          obtain ⟨xs, rfl, hr⟩ := compC_x hq a w
          simp only [wpF] at hw
          obtain ⟨r, hp, hK⟩ := hw
          obtain ⟨v, h1, h2⟩ := hp g w _ (evFL_ok h xs)
          rw [hr, h1]
          exact hn r v g w s.o s.n a h2 h (Stp.refl g w s.o) hK
        | calv x l =>
          obtain ⟨xo, xs, rfl, rfl, hrun⟩ := compC_v hq a w
          simp only [wpF] at hw
          have hx := ev_ok h xo
          split at hw
          · rename_i f fa fc he
            obtain ⟨hok, hw⟩ := hw
            rw [he] at hx
            obtain ⟨⟨ys, zs, hu, hl1, hl2⟩, _⟩ := hx
            rw [hrun f ys zs hu hok]
            have hargs : RL g w (toLA fa ++ evFL gl s.E (xs.map cx) ++ toLA fc) (ys.toList ++ xs.map a.eval ++ zs.toList) := RL_append (RL_append (toLA_RL fa hl1) (evFL_ok h xs)) (toLA_RL fc hl2)
            cases b with
            | true =>
              refine (hw.s N g w _ a _ h hargs).mono ?_
              rintro x w' ⟨v, u, g', o', n', rfl, h1, h2, h3, h4⟩
              exact hn v u g' w' o' n' a h1 h2 h3 h4
            | false =>
              rcases hw with ⟨args', r, hle, hp, hK⟩ | ⟨t, m, e, ty, args', r, m', ht, hle, hp, hK⟩
              · refine (good_callV h hp (RL.le hle hargs)).mono ?_
                rintro x w' ⟨u, g', rfl, h1, h2, h3, _⟩
                exact hn r u g' w' s.o s.n a h3 h1 h2 hK
              · refine (good_callT h ht hp (RL_leT h ht hle hargs)).mono ?_
                rintro x w' ⟨u, g', rfl, h1, h2, h3, _⟩
                exact hn _ u g' w' _ s.n a h3 h1 h2 hK
          · exact hw.elim
        | dfr x =>
          obtain ⟨xo, rfl, hrun⟩ := compC_d hq a w
          simp only [wpF] at hw
          have hx := ev_ok h xo
          split at hw
          · rename_i f fc he
            rw [he] at hx
            obtain ⟨⟨ys, zs, hu, hl1, hl2⟩, _⟩ := hx
            have hys : ys = #[] := by apply Array.ext'; exact hl1
            subst hys
            rw [hrun f zs hu]
            refine hn .any undef g w s.o s.n { a with defers := ⟨.fn (.func f) zs, #[]⟩ :: a.defers } trivial ⟨h.objs, h.inj, h.blt, h.mlt, h.rlt, h.env, h.sz, fun d hd => ?_, h.gz, h.gl⟩ (Stp.refl g w s.o) hw.2
            rcases List.mem_cons.1 hd with rfl | hd
            · exact hw.1.h zs
            · exact h.def_ d hd
          · exact hw.elim
        | _ => exfalso; cases hop : oo.op <;> rw [hop] at hq <;> simp only [compC] at hq <;> (repeat' (split at hq)) <;> cases hq
      · injection hc with hc
        subst hc
        simp only [wpF, wpV] at hw

theorem comp_alloc {P : Program} {op : Op} {z : AV} (h : compOp P op = some (.alloc z)) : ∃ t, op = .alloc t ∧ zOk P t z = true := by
  simp only [compOp] at h
  split at h
  · rename_i q hq
    injection h with h; subst h
    exfalso
    cases op <;> simp only [compV, cEqn] at hq <;> (repeat' (split at hq)) <;> cases hq
  · split at h
    · rename_i q hq
      injection h with h; subst h
      cases op <;> simp only [compL] at hq
      case alloc t =>
        split at hq
        · rename_i hz
          injection hq with hq
          injection hq with hq
          subst hq
          exact ⟨_, rfl, hz⟩
        · cases hq
      all_goals (exfalso; (repeat' (split at hq)) <;> cases hq)
    · split at h
      · rename_i q hq
        injection h with h; subst h
        exfalso
        cases op <;> simp only [compC] at hq <;> (repeat' (split at hq)) <;> cases hq
      · cases h

/-- The entry is the operation, or stands for it. -/
def OpIs (P : Program) (op : Op) (p : IOp) : Prop :=
  compOp P op = some p ∨ (∃ j z, compOp P op = some (.alloc z) ∧ p = .alcN j z) ∨ (∃ j sz x v, compOp P op = some (.sto sz x v) ∧ p = .stoN j sz x v) ∨ (∃ f l, compOp P op = some (.call f l) ∧ p = .callx f l)

theorem compI_ok {b : Bool} {g : Gh} {w : World} {s : FS} {a : Act} (h : Good P gl N g w s.E s.o s.n a) {oo : Oper} {p : IOp} (hc : OpIs P oo.op p) {K : AV → Objs → Nat → Prop} (hw : wpF b P gl s p K)
    {next : Act → World → Prop} {Q : Exit → Act → World → Prop}
    (hn : ∀ v cv g' w' o' n' a', (R g' w' v).v cv → Good P gl N g' w' s.E o' n' a' → Stp g w s.o g' w' o' → K v o' n' → next (a'.put oo.dst cv) w') : oo.wp P a w next Q := by
  rcases hc with hc | ⟨j, z, hc, rfl⟩ | ⟨j, sz, x, v, hc, rfl⟩ | ⟨f, l, hc, rfl⟩
  · exact compF_ok h hc hw hn
  · obtain ⟨t, ho, hz⟩ := comp_alloc hc
    have hw : wpL (evF gl s.E) s.o s.n (.alcN j z) K := by simpa only [wpF] using hw
    obtain ⟨v, nx, w', g', o', n', hr, ⟨cv, hcv, h1⟩, h2, h3, h4⟩ := ok_alcN h ho hz hw
    unfold Oper.wp
    rw [hr]
    rcases hcv with rfl | ⟨rfl, rfl⟩
    · exact hn v cv g' w' o' n' a h1 h2 h3 h4
    · exact hn v undef g' w' o' n' a h1 h2 h3 h4
  · refine compF_ok (b := b) h hc ?_ hn
    simp only [wpF] at hw ⊢
    exact (stoN_sto hw).1
  · exact compF_ok (b := true) h hc (by simpa only [wpF] using hw) hn

structure EntOf (P : Program) (N : Nat) (ops : List Oper) (oo : Oper) (en : Ent) : Prop where
  dst : en.dst = oo.dst
  lt : ∀ d, oo.dst = some d → d < N
  op : OpIs P oo.op en.op
  gd : match oo.guard with
    | none => en.gd = none
    | some (j, b) => ∃ t, (ops[j]?).bind (·.dst) = some t ∧ en.gd = some (t, b)

theorem compE_spec {all : List Oper} : ∀ (l : List Oper) (es : List Ent), compE P N all l = some es → es.length = l.length ∧ ∀ (j : Nat) oo, l[j]? = some oo → ∃ en, es[j]? = some en ∧ EntOf P N all oo en
  | [], es, h => by simp only [compE] at h; injection h with h; subst h; exact ⟨rfl, fun j oo hj => by simp at hj⟩
  | oo :: r, es, h => by
    simp only [compE] at h
    split at h
    · rename_i p l hp hl
      obtain ⟨h1, h2⟩ := compE_spec r l hl
      have fin : ∀ en, es = en :: l → EntOf P N all oo en → es.length = (oo :: r).length ∧ ∀ (j : Nat) o2, (oo :: r)[j]? = some o2 → ∃ en, es[j]? = some en ∧ EntOf P N all o2 en := by
        rintro en rfl he
        refine ⟨by simp [h1], fun j o2 hj => ?_⟩
        cases j with
        | zero => simp at hj; subst hj; exact ⟨en, rfl, he⟩
        | succ j => simp at hj; obtain ⟨e2, a1, a2⟩ := h2 j o2 hj; exact ⟨e2, by simpa using a1, a2⟩
      split at h
      · rename_i d hd hg
        split at h
        · rename_i hlt
          injection h with h
          exact fin _ h.symm ⟨hd.symm ▸ rfl, fun d' hd' => by rw [hd] at hd'; injection hd' with hd'; subst hd'; exact Nat.le_of_ble_eq_true hlt, .inl hp, by rw [hg]; rfl⟩
        · cases h
      · rename_i hd hg
        injection h with h
        exact fin _ h.symm ⟨hd.symm ▸ rfl, fun d' hd' => by (rw [hd] at hd'; cases hd'), .inl hp, by rw [hg]; rfl⟩
      · rename_i d j b hd hg
        split at h
        · rename_i t ht
          split at h
          · rename_i hlt
            injection h with h
            exact fin _ h.symm ⟨hd.symm ▸ rfl, fun d' hd' => by rw [hd] at hd'; injection hd' with hd'; subst hd'; exact Nat.le_of_ble_eq_true hlt, .inl hp, by rw [hg]; exact ⟨t, ht, rfl⟩⟩
          · cases h
        · cases h
      · rename_i j b hd hg
        split at h
        · rename_i t ht
          injection h with h
          exact fin _ h.symm ⟨hd.symm ▸ rfl, fun d' hd' => by (rw [hd] at hd'; cases hd'), .inl hp, by rw [hg]; exact ⟨t, ht, rfl⟩⟩
        · cases h
    · cases h

theorem compE_op {all : List Oper} : ∀ (l : List Oper) (es : List Ent), compE P N all l = some es → es.length = l.length ∧ ∀ (j : Nat) oo en, l[j]? = some oo → es[j]? = some en → compOp P oo.op = some en.op
  | [], es, h => by simp only [compE] at h; injection h with h; subst h; exact ⟨rfl, fun j oo en hj => by simp at hj⟩
  | oo :: r, es, h => by
    simp only [compE] at h
    split at h
    · rename_i p l hp hl
      obtain ⟨h1, h2⟩ := compE_op r l hl
      have fin : ∀ en, es = en :: l → en.op = p → es.length = (oo :: r).length ∧ ∀ (j : Nat) o2 e2, (oo :: r)[j]? = some o2 → es[j]? = some e2 → compOp P o2.op = some e2.op := by
        rintro en rfl he
        refine ⟨by simp [h1], fun j o2 e2 hj hj2 => ?_⟩
        cases j with
        | zero => simp at hj hj2; subst hj hj2; rw [he]; exact hp
        | succ j => simp at hj hj2; exact h2 j o2 e2 hj hj2
      split at h
      · split at h
        · injection h with h; exact fin _ h.symm rfl
        · cases h
      · injection h with h; exact fin _ h.symm rfl
      · split at h
        · split at h
          · injection h with h; exact fin _ h.symm rfl
          · cases h
        · cases h
      · split at h
        · injection h with h; exact fin _ h.symm rfl
        · cases h
    · cases h

theorem Good.putO {g : Gh} {w : World} {E : Nat → AV} {o : Objs} {n : Nat} {a : Act} (h : Good P gl N g w E o n a) {d : Option Nat} (hd : ∀ x, d = some x → x < N) {v : AV} {u : Value} (hv : (R g w v).v u) : Good P gl N g w (putD E d v) o n (a.put d u) := by
  cases d with
  | none => exact h
  | some x => exact h.put (hd x rfl) hv

theorem guard_ok {g : Gh} {w : World} {s : FS} {a : Act} (h : Good P gl N g w s.E s.o s.n a) {oo : Oper} {en : Ent} (he : EntOf P N ops.toList oo en) {r : Bool} (hg : Gd s en.gd r) : Region.wanted oo (yielded ops a.tmps) = r := by
  have hgd := he.gd
  cases hq : oo.guard with
  | none =>
    rw [hq] at hgd
    simp only [] at hgd
    rw [hgd] at hg
    simp only [Gd] at hg
    simp only [Region.wanted, hq, hg]
  | some q =>
    obtain ⟨j, b⟩ := q
    rw [hq] at hgd
    obtain ⟨t, ht, hen⟩ := hgd
    rw [hen] at hg
    rw [Array.getElem?_toList] at ht
    rcases hg with ⟨c, hc, rfl⟩ | ⟨hc, rfl⟩
    · have := h.env t
      rw [hc] at this
      have hv := val_v this
      have hv' : a.tmps[t]? = some (.bool c) := by
        rw [Array.getD_eq_getD_getElem?] at hv
        cases hx : a.tmps[t]? with
        | none => rw [hx] at hv; simp [undef] at hv
        | some y => rw [hx] at hv; simp at hv; rw [hv]
      simp only [Region.wanted, hq, yielded]
      rw [ht]
      simp only [Option.bind_some, hv']
      cases c <;> cases b <;> rfl
    · have := h.env t
      rw [hc] at this
      obtain ⟨vs, hv, hn⟩ := this
      have hn : vs.toList = [] := hn
      have hn : vs = #[] := by simpa using hn
      subst hn
      simp only [Region.wanted, hq, yielded]
      rw [ht]
      rw [Array.getD_eq_getD_getElem?] at hv
      cases hx : a.tmps[t]? with
      | none => simp [hx]
      | some y => rw [hx] at hv; simp at hv; subst hv; simp [hx]

/-- One entry, on the machine. -/
theorem qE_ok {g : Gh} {w : World} {s : FS} {a : Act} (h : Good P gl N g w s.E s.o s.n a) {i : Nat} {oo : Oper} {en : Ent} (hi : ops[i]? = some oo) (he : EntOf P N ops.toList oo en) {K : FS → Prop} (hq : qE P gl en K s)
    {next : Act → World → Prop} {Q : Exit → Act → World → Prop}
    (hn : ∀ s' g' w' a', Good P gl N g' w' s'.E s'.o s'.n a' → Stp g w s.o g' w' s'.o → K s' → next a' w') : Go.wpOp P ops Q i next a w := by
  obtain ⟨v, o, n, hy, hK⟩ := hq
  unfold Go.wpOp
  rw [hi]
  simp only []
  rcases hy with ⟨h1, h2⟩ | ⟨h1, rfl, rfl, rfl⟩
  · rw [guard_ok h he h1]
    simp only [if_true]
    refine .inl (compI_ok h he.op h2 ?_)
    rintro v' cv g' w' o' n' a' hv hg hs ⟨rfl, rfl, rfl⟩
    refine hn _ g' w' _ ?_ hs hK
    rw [← he.dst]
    exact hg.putO (fun x hx => he.lt x (he.dst ▸ hx)) hv
  · rw [guard_ok h he h1]
    simp only [Bool.false_eq_true, if_false]
    refine hn (s.next en (.tup .nil) s.o s.n) g w _ ?_ (Stp.refl g w s.o) hK
    rw [← he.dst]
    exact h.putO (v := .tup .nil) (u := undef) (fun x hx => he.lt x (he.dst ▸ hx)) ⟨#[], rfl, rfl⟩

theorem wpAnyA_ok {Q : FS → Prop} {Q' : Exit → Act → World → Prop} {g0 : Gh} {w0 : World} {o0 : Objs} (hes : ∀ (j : Nat) oj, ops[j]? = some oj → ∃ ej, es[j]? = some ej ∧ EntOf P N ops.toList oj ej)
    (hQ : ∀ s g w a, Good P gl N g w s.E s.o s.n a → Stp g0 w0 o0 g w s.o → Q s → Q' .normal a w) : ∀ (fuel : Nat) (listed : Array Bool) (s : FS) (g : Gh) (w : World) (a : Act),
    Good P gl N g w s.E s.o s.n a → Stp g0 w0 o0 g w s.o → wpAnyA P gl ops es Q fuel listed s → wpAny P .any ops Q' fuel listed a w
  | 0, listed, s, g, w, a, h, hs, hq => ⟨hq.1, hQ s g w a h hs hq.2⟩
  | fuel + 1, listed, s, g, w, a, h, hs, hq => by
    refine ⟨fun h0 => hQ s g w a h hs (hq.1 h0), fun i hi => ?_⟩
    obtain ⟨_, oo, hoo, _⟩ := mem_ready.1 hi
    obtain ⟨en, hen, he⟩ := hes i oo hoo
    have h1 := hq.2 i hi
    unfold qI at h1
    rw [hen] at h1
    exact qE_ok h hoo he h1 (fun s' g' w' a' hg hst hK => wpAnyA_ok hes hQ fuel _ s' g' w' a' hg (hs.trans hst) hK)

theorem wpTxt_ok {Q : FS → Prop} {Q' : Exit → Act → World → Prop} {g0 : Gh} {w0 : World} {o0 : Objs} (hes : ∀ (j : Nat) oj, ops[j]? = some oj → ∃ ej, es[j]? = some ej ∧ EntOf P N ops.toList oj ej) (hlen : es.length = ops.size)
    (hQ : ∀ s g w a, Good P gl N g w s.E s.o s.n a → Stp g0 w0 o0 g w s.o → Q s → Q' .normal a w) : ∀ (l : List Ent) (k : Nat) (s : FS) (g : Gh) (w : World) (a : Act), (∀ j, l[j]? = es[k + j]?) → k + l.length = ops.size →
    Good P gl N g w s.E s.o s.n a → Stp g0 w0 o0 g w s.o → wpTxt P gl Q l s → wpOps P ops Q' (List.range' k l.length) a w
  | [], k, s, g, w, a, _, _, h, hs, hq => hQ s g w a h hs hq
  | en :: r, k, s, g, w, a, hl, hk, h, hs, hq => by
    have h0 : es[k]? = some en := by simpa using (hl 0).symm
    have hlt : k < ops.size := by simp at hk; omega
    obtain ⟨en', he1, he2⟩ := hes k ops[k] (Array.getElem?_eq_getElem hlt)
    rw [h0] at he1
    injection he1 with he1
    subst he1
    rw [List.length_cons, List.range'_succ, wpOps_cons]
    exact qE_ok h (Array.getElem?_eq_getElem hlt) he2 hq (fun s' g' w' a' hg hst hK => wpTxt_ok hes hlen hQ r (k + 1) s' g' w' a' (fun j => by have := hl (j + 1); simpa [Nat.add_assoc, Nat.add_comm 1 j] using this) (by simp at hk; omega) hg (hs.trans hst) hK)

end
end Ar
namespace Ar
open Go
set_option linter.unusedVariables false
set_option autoImplicit false

def drawOk (ops : Array Oper) (es : List Ent) : Bool := lexC ops es es.length 0 (Array.replicate ops.size false)

/-- The slots of stores that may come ahead of the load number k. -/
def sepsOf (ops : Array Oper) (es : List Ent) (k : Nat) : List Nat := (List.range ops.size).filterMap fun j => match es[k]?, es[j]? with
  | some x, some y => match Nat.beq j k || (apartE x y || transC ops k ops.size j), adr x.op, adrS y.op with
    | false, some _, some q => match Nat.ble (k + 1) j with
      | true => some q
      | false => none
    | _, _, _ => none
  | _, _ => none

def withS (ops : Array Oper) (es : List Ent) : List (Ent × List Nat) := (List.range es.length).map fun k => (es.getD k (.n .dead), sepsOf ops es k)

def drawOkS (ops : Array Oper) (es : List Ent) (l : List (Ent × List Nat)) : Bool := lexS ops es (l.map (·.2)) 0 (Array.replicate ops.size false)

/-! Regions in which boxes are made. -/
def allocIx (es : List Ent) : List Nat := (List.range es.length).filter fun i => match es[i]? with
  | some (.o _ (.alloc _)) => true
  | _ => false

def jOf (A : List Nat) (i : Nat) : Nat := A.length - A.idxOf i

def remk1 (es : List Ent) (A : List Nat) (i : Nat) (en : Ent) : Ent := match en with
  | .o d (.alloc z) => .o d (.alcN (jOf A i) z)
  | .n (.sto sz (.t d) v) => match A.find? (fun a => match es[a]? with
      | some e => (match e.dst with | some d' => Nat.beq d d' | none => false)
      | none => false) with
    | some a => .n (.stoN (jOf A a) sz (.t d) v)
    | none => en
  | en => en

def remk (es : List Ent) : List Ent := (List.range es.length).map fun i => remk1 es (allocIx es) i (es.getD i (.n .dead))

def ordK (p : IOp) : Nat := match p with
  | .alcN _ _ => 1
  | .stoN _ _ _ _ => 2
  | .sto _ _ _ => 2
  | _ => 0

def ordIx (es : List Ent) : List Nat :=
  ((List.range es.length).filter fun i => Nat.beq (ordK (es.getD i (.n .dead)).op) 0) ++
    (((List.range es.length).filter fun i => Nat.beq (ordK (es.getD i (.n .dead)).op) 1) ++ ((List.range es.length).filter fun i => Nat.beq (ordK (es.getD i (.n .dead)).op) 2))

def zsOf (ops : Array Oper) (es : List Ent) (k : Nat) : List Nat := (List.range ops.size).filterMap fun j => match es[k]?, es[j]? with
  | some x, some y => match adr x.op, adrN y.op, transC ops k ops.size j with
    | some _, some q, false => some q
    | _, _, _ => none
  | _, _ => none

def ordR (ops : Array Oper) (es : List Ent) : List (Nat × List Nat) := (ordIx es).map fun k => (k, zsOf ops es k)

def drawOkR (ops : Array Oper) (es : List Ent) : Bool := (es.all fun en => keepN en.op) && (Nat.beq (ordR ops es).length ops.size && lexR ops es (ordR ops es) (Array.replicate ops.size false))

/-- Calls of any kind. -/
def xop : IOp → IOp
  | .call f l => .callx f l
  | p => p

def Ent.xe : Ent → Ent
  | .o d p => .o d (xop p)
  | .n p => .n (xop p)
  | .og d j b p => .og d j b (xop p)
  | .ng j b p => .ng j b (xop p)

theorem entOf_xe {P : Program} {N : Nat} {ops : List Oper} {oo : Oper} {en : Ent} (h : EntOf P N ops oo en) (hc : compOp P oo.op = some en.op) : EntOf P N ops oo en.xe := by
  have hx : OpIs P oo.op (xop en.op) := by
    cases hp : en.op <;> rw [hp] at hc
    case call f l => exact .inr (.inr (.inr ⟨f, l, hc, rfl⟩))
    all_goals exact .inl hc
  cases en <;> exact ⟨h.dst, h.lt, hx, h.gd⟩

def comp (P : Program) (N : Nat) : Code → Option IC
  | .skip => some .skip
  | .region _ ops draw => match compE P N ops.toList ops.toList with
    | some es => match draw with
      | false => some (.ops es)
      | true => match drawOk ops (es.map Ent.xe) with
       | true => some (.dops (es.map Ent.xe))
       | false => match drawOk ops es with
        | true => some (.dops es)
        | false => match drawOkS ops es (withS ops es) with
          | true => some (.dopss (withS ops es))
          | false => match drawOkR ops (remk es) with
            | true => some (.dopr (allocIx es).length (pickE (remk es) (ordR ops (remk es))))
            | false => none
    | none => none
  | .seq a b => match comp P N a, comp P N b with
    | some x, some y => some (.seq x y)
    | _, _ => none
  | .cond c a b => match comp P N a, comp P N b with
    | some x, some y => some (.cond (cx c) x y)
    | _, _ => none
  | .block id a => match comp P N a with
    | some x => some (.block id x)
    | none => none
  | .loop a => match comp P N a with
    | some x => some (.loop x)
    | none => none
  | .exit id => some (.exit id)
  | .ret => some .ret
  | .scope a => comp P N a
  | .label _ => some .skip
  | _ => none

def ExR : AExit → Exit → Prop
  | .normal, .normal => True
  | .ret, .ret => True
  | .exit i, .exit j => i = j
  | _, _ => False

def Up (P : Program) (gl : Nat → AV) (N : Nat) (g : Gh) (w : World) (o : Objs) (Q : AExit → Post) : Exit → Act → World → Prop := fun x a' w' =>
  ∃ x' g' e' o' n', ExR x' x ∧ Good P gl N g' w' (EnvF e') o' n' a' ∧ Stp g w o g' w' o' ∧ Q x' e' o' n'

def SemC (P : Program) (gl : Nat → AV) (N : Nat) (c : Code) (Q : AExit → Post) (e : Env) (o : Objs) (n : Nat) : Prop :=
  ∀ g w a, Good P gl N g w (EnvF e) o n a → c.wp P (Up P gl N g w o Q) a w

/-! Weakening a state. -/
def LeSt (gl : Nat → AV) (N : Nat) (e : Env) (o : Objs) (n : Nat) (e' : Env) (o' : Objs) (n' : Nat) : Prop :=
  ∀ (P : Program) g w a, Good P gl N g w (EnvF e) o n a → ∃ g', Good P gl N g' w (EnvF e') o' n' a ∧ Stp g w o g' w o'

theorem LeSt.refl (gl : Nat → AV) (N : Nat) (e : Env) (o : Objs) (n : Nat) : LeSt gl N e o n e o n := fun P g w a h => ⟨g, h, Stp.refl g w o⟩

/-- What a round of a loop comes to. -/
def RoundQ (gl : Nat → AV) (N : Nat) {α : Type} (st : α → Env × Objs × Nat) (ok : α → Prop) (μ : α → Nat) (y : α) (Q : AExit → Post) (ex : AExit) (e : Env) (o : Objs) (n : Nat) : Prop := match ex with
  | .normal => ∃ z, ok z ∧ μ z < μ y ∧ LeSt gl N e o n (st z).1 (st z).2.1 (st z).2.2
  | .ret => Q .ret e o n
  | .exit i => Q (.exit i) e o n

/-- A loop, by a relation over whatever data, and a measure. -/
structure LoopP (gl : Nat → AV) (N : Nat) (W : (AExit → Post) → Post) (Q : AExit → Post) (e : Env) (o : Objs) (n : Nat) : Prop where
  h : ∃ (α : Type) (st : α → Env × Objs × Nat) (ok : α → Prop) (μ : α → Nat) (y : α), ok y ∧ LeSt gl N e o n (st y).1 (st y).2.1 (st y).2.2 ∧
    ∀ y, ok y → W (RoundQ gl N st ok μ y Q) (st y).1 (st y).2.1 (st y).2.2

def wp (P : Program) (gl : Nat → AV) (N : Nat) : IC → (AExit → Post) → Post
  | .skip, Q, e, o, n => Q .normal e o n
  | .ops l, Q, e, o, n => wpE true P gl l (Q .normal) e o n
  | .dops l, Q, e, o, n => wpE false P gl l (Q .normal) e o n
  | .dopss l, Q, e, o, n => wpES P gl l (Q .normal) e o n
  | .dopr m l, Q, e, o, n => chk (Nat.ble (n + m) LENT) (wpER P gl l (Q .normal) e (pre m n o) (n + m))
  | .seq a b, Q, e, o, n => wp P gl N a (fun x e o n => match x with
    | .normal => wp P gl N b Q e o n
    | .ret => Q .ret e o n
    | .exit i => Q (.exit i) e o n) e o n
  | .cond x a b, Q, e, o, n => match ev gl e x with
    | .val (.bool t) => br t (wp P gl N a Q e o n) (wp P gl N b Q e o n)
    | _ => False
  | .block id a, Q, e, o, n => wp P gl N a (fun x e o n => match x with
    | .normal => Q .normal e o n
    | .ret => Q .ret e o n
    | .exit i => match Nat.beq i id with
      | true => Q .normal e o n
      | false => Q (.exit i) e o n) e o n
  | .loop a, Q, e, o, n => LoopP gl N (wp P gl N a) Q e o n
  | .exit id, Q, e, o, n => Q (.exit id) e o n
  | .ret, Q, e, o, n => Q .ret e o n

section
variable {P : Program} {gl : Nat → AV} {N : Nat}

theorem wpOp_F {b : Bool} {e : Env} {o : Objs} {n : Nat} {p : IOp} {K : AV → Objs → Nat → Prop} (h : Ar.wpOp b P gl e o n p K) : wpF b P gl ⟨EnvF e, o, n⟩ p K := by
  have e1 : ev gl e = evF gl (EnvF e) := ev_eq gl e
  have e2 : EnvF e = fun t => lookE t e := rfl
  cases p <;> simp only [Ar.wpOp, e1, force_iff, forceO_iff, forceL_iff, evL_eq] at h
  case calv x l =>
    simp only [wpF]
    split at h
    · rename_i f a c he
      (try rw [he])
      refine ⟨h.1, ?_⟩
      cases b with
      | true => exact h.2
      | false => exact h.2.d rfl
    · exact h.elim
  all_goals first
    | exact h
    | (cases b with
       | true => exact h
       | false => exact h.d rfl)

theorem wpE_cons {b : Bool} {en : Ent} {r : List Ent} {K : Post} {e : Env} {o : Objs} {n : Nat} (h : wpE b P gl (en :: r) K e o n) : wpE b P gl [en] (wpE b P gl r K) e o n := by
  cases en <;> exact h

/-- One entry of a region whose order is fixed, on the machine. -/
theorem ent_ok {ops : Array Oper} {g : Gh} {w : World} {e : Env} {o : Objs} {n : Nat} {a : Act} (h : Good P gl N g w (EnvF e) o n a) {i : Nat} {oo : Oper} {en : Ent} (hi : ops[i]? = some oo) (he : EntOf P N ops.toList oo en) {K : Post} (hq : wpE true P gl [en] K e o n)
    {next : Act → World → Prop} {Q : Exit → Act → World → Prop}
    (hn : ∀ e' o' n' g' w' a', Good P gl N g' w' (EnvF e') o' n' a' → Stp g w o g' w' o' → K e' o' n' → next a' w') : Go.wpOp P ops Q i next a w := by
  have hs : Good P gl N g w (⟨EnvF e, o, n⟩ : FS).E (⟨EnvF e, o, n⟩ : FS).o (⟨EnvF e, o, n⟩ : FS).n a := h
  unfold Go.wpOp
  rw [hi]
  simp only []
  have hdst := he.dst
  have hlt := he.lt
  cases en with
  | o d op =>
    rw [guard_ok hs he (r := true) rfl]
    simp only [if_true]
    refine .inl (compI_ok hs he.op (wpOp_F hq) fun v cv g' w' o' n' a' hv hg hst hK => ?_)
    rw [← hdst]
    exact hn ((d, v) :: e) o' n' g' w' _ (hg.putE (hlt d hdst.symm) hv) hst hK
  | n op =>
    rw [guard_ok hs he (r := true) rfl]
    simp only [if_true]
    refine .inl (compI_ok hs he.op (wpOp_F hq) fun v cv g' w' o' n' a' hv hg hst hK => ?_)
    rw [← hdst]
    exact hn e o' n' g' w' _ hg hst hK
  | og d j b op =>
    rcases wpE_og hq with ⟨hgd, hq⟩ | ⟨hgd, hq⟩
    · rw [guard_ok hs he (r := true) hgd]
      simp only [if_true]
      refine .inl (compI_ok hs he.op (wpOp_F (show Ar.wpOp true P gl e o n op _ from hq)) fun v cv g' w' o' n' a' hv hg hst hK => ?_)
      rw [← hdst]
      exact hn ((d, v) :: e) o' n' g' w' _ (hg.putE (hlt d hdst.symm) hv) hst hK
    · rw [guard_ok hs he (r := false) hgd]
      simp only [Bool.false_eq_true, if_false]
      rw [← hdst]
      exact hn ((d, .tup .nil) :: e) o n g w _ (h.putE (hlt d hdst.symm) (v := .tup .nil) (u := undef) ⟨#[], rfl, rfl⟩) (Stp.refl g w o) hq
  | ng j b op =>
    rcases wpE_ng hq with ⟨hgd, hq⟩ | ⟨hgd, hq⟩
    · rw [guard_ok hs he (r := true) hgd]
      simp only [if_true]
      refine .inl (compI_ok hs he.op (wpOp_F (show Ar.wpOp true P gl e o n op _ from hq)) fun v cv g' w' o' n' a' hv hg hst hK => ?_)
      rw [← hdst]
      exact hn e o' n' g' w' _ hg hst hK
    · rw [guard_ok hs he (r := false) hgd]
      simp only [Bool.false_eq_true, if_false]
      rw [← hdst]
      exact hn e o n g w _ h (Stp.refl g w o) hq

theorem wpE_fix {ops : Array Oper} {es : List Ent} {K : Post} {Q' : Exit → Act → World → Prop} {g0 : Gh} {w0 : World} {o0 : Objs} (hes : ∀ (j : Nat) oj, ops[j]? = some oj → ∃ ej, es[j]? = some ej ∧ EntOf P N ops.toList oj ej)
    (hQ : ∀ e o n g w a, Good P gl N g w (EnvF e) o n a → Stp g0 w0 o0 g w o → K e o n → Q' .normal a w) : ∀ (l : List Ent) (k : Nat) (e : Env) (o : Objs) (n : Nat) (g : Gh) (w : World) (a : Act), (∀ j, l[j]? = es[k + j]?) → k + l.length = ops.size →
    Good P gl N g w (EnvF e) o n a → Stp g0 w0 o0 g w o → wpE true P gl l K e o n → wpOps P ops Q' (List.range' k l.length) a w
  | [], k, e, o, n, g, w, a, _, _, h, hs, hq => hQ e o n g w a h hs hq
  | en :: r, k, e, o, n, g, w, a, hl, hk, h, hs, hq => by
    have h0 : es[k]? = some en := by simpa using (hl 0).symm
    have hlt : k < ops.size := by simp at hk; omega
    obtain ⟨en', he1, he2⟩ := hes k ops[k] (Array.getElem?_eq_getElem hlt)
    rw [h0] at he1
    injection he1 with he1
    subst he1
    rw [List.length_cons, List.range'_succ, wpOps_cons]
    exact ent_ok h (Array.getElem?_eq_getElem hlt) he2 (wpE_cons hq) (fun e' o' n' g' w' a' hg hst hK => wpE_fix hes hQ r (k + 1) e' o' n' g' w' a' (fun j => by have := hl (j + 1); simpa [Nat.add_assoc, Nat.add_comm 1 j] using this) (by simp at hk; omega) hg (hs.trans hst) hK)

theorem wpE_txt {K : Post} : ∀ (l : List Ent) {e : Env} {o : Objs} {n : Nat}, wpE false P gl l K e o n → wpTxt P gl (fun s => ∃ e', s.E = EnvF e' ∧ K e' s.o s.n) l ⟨EnvF e, o, n⟩
  | [], e, o, n, h => ⟨e, rfl, h⟩
  | .o d op :: r, e, o, n, h => by
    obtain ⟨v, o', n', h1, h2⟩ := wpF_ex (wpOp_F h)
    refine ⟨v, o', n', .inl ⟨rfl, h1⟩, ?_⟩
    have := wpE_txt r h2
    rw [← putF_cons] at this
    exact this
  | .n op :: r, e, o, n, h => by
    obtain ⟨v, o', n', h1, h2⟩ := wpF_ex (wpOp_F h)
    exact ⟨v, o', n', .inl ⟨rfl, h1⟩, wpE_txt r h2⟩
  | .og d j b op :: r, e, o, n, h => by
    rcases wpE_og h with ⟨hgd, h⟩ | ⟨hgd, h⟩
    · obtain ⟨v, o', n', h1, h2⟩ := wpF_ex (wpOp_F (show Ar.wpOp false P gl e o n op _ from h))
      refine ⟨v, o', n', .inl ⟨hgd, h1⟩, ?_⟩
      have := wpE_txt r h2
      rw [← putF_cons] at this
      exact this
    · refine ⟨.tup .nil, o, n, .inr ⟨hgd, rfl, rfl, rfl⟩, ?_⟩
      have := wpE_txt r (show wpE false P gl r K _ o n from h)
      rw [← putF_cons] at this
      exact this
  | .ng j b op :: r, e, o, n, h => by
    rcases wpE_ng h with ⟨hgd, h⟩ | ⟨hgd, h⟩
    · obtain ⟨v, o', n', h1, h2⟩ := wpF_ex (wpOp_F (show Ar.wpOp false P gl e o n op _ from h))
      exact ⟨v, o', n', .inl ⟨hgd, h1⟩, wpE_txt r h2⟩
    · exact ⟨.tup .nil, o, n, .inr ⟨hgd, rfl, rfl, rfl⟩, wpE_txt r (show wpE false P gl r K _ o n from h)⟩

theorem qE_txt {en : Ent} {K : Post} {e : Env} {o : Objs} {n : Nat} (h : wpE false P gl [en] K e o n) : qE P gl en (fun s => ∃ e', s.E = EnvF e' ∧ K e' s.o s.n) ⟨EnvF e, o, n⟩ := wpE_txt [en] h

theorem wpES_txt {K : Post} : ∀ (l : List (Ent × List Nat)) {e : Env} {o : Objs} {n : Nat}, wpES P gl l K e o n → wpTxtS P gl (fun s => ∃ e', s.E = EnvF e' ∧ K e' s.o s.n) l ⟨EnvF e, o, n⟩
  | [], e, o, n, h => ⟨e, rfl, h⟩
  | (en, js) :: r, e, o, n, h => by
    simp only [wpES, chk_iff] at h
    refine ⟨?_, ?_⟩
    · have : en.iop = en.op := by cases en <;> rfl
      rw [← this]; exact h.1
    · refine qE_mono ?_ (qE_txt h.2)
      rintro ⟨E, o', n'⟩ ⟨e', he, hk⟩
      obtain rfl : E = EnvF e' := he
      exact wpES_txt r hk

theorem wpER_txt {K : Post} : ∀ (l : List (Ent × List Nat)) {e : Env} {o : Objs} {n : Nat}, wpER P gl l K e o n → wpTxtR P gl (fun s => ∃ e', s.E = EnvF e' ∧ K e' s.o s.n) l ⟨EnvF e, o, n⟩
  | [], e, o, n, h => ⟨e, rfl, h⟩
  | (en, js) :: r, e, o, n, h => by
    simp only [wpER, chk_iff] at h
    refine ⟨h.1, ?_⟩
    refine qE_mono ?_ (qE_txt h.2)
    rintro ⟨E, o', n'⟩ ⟨e', he, hk⟩
    obtain rfl : E = EnvF e' := he
    exact wpER_txt r hk

theorem lookO_pre (k : Nat) : ∀ (m n : Nat) (o : Objs), lookO k (pre m n o) = if n ≤ k ∧ k < n + m then some .soon else lookO k o
  | 0, n, o => by rw [if_neg (by omega)]; rfl
  | m + 1, n, o => by
    simp only [pre, lookO_cons, lookO_pre k m (n + 1) o]
    by_cases h1 : n = k
    · rw [if_pos h1, if_pos (by omega)]
    · rw [if_neg h1]
      by_cases h2 : n + 1 ≤ k ∧ k < n + 1 + m
      · rw [if_pos h2, if_pos (by omega)]
      · rw [if_neg h2, if_neg (by omega)]

theorem good_pre {g : Gh} {w : World} {E : Nat → AV} {o : Objs} {n : Nat} {a : Act} (h : Good P gl N g w E o n a) (m : Nat) (hm : n + m ≤ LENT) : Good P gl N g w E (pre m n o) (n + m) a ∧ Stp g w o g w (pre m n o) := by
  have hlook : ∀ k x, lookO k (pre m n o) = some x → (n ≤ k ∧ k < n + m ∧ x = .soon) ∨ lookO k o = some x := fun k x hk => by
    rw [lookO_pre] at hk
    by_cases c : n ≤ k ∧ k < n + m
    · rw [if_pos c] at hk; injection hk with hk; exact .inl ⟨c.1, c.2, hk.symm⟩
    · rw [if_neg c] at hk; exact .inr hk
  refine ⟨⟨fun k x hk => ?_, fun k x k' x' b h1 h2 h3 h4 => ?_, fun k x hk => ?_, fun k b hk => (h.mlt k b hk).imp (fun h => by omega) id, fun k b hk => (h.rlt k b hk).imp (fun h => by omega) id, h.env, h.sz, h.def_, h.gz, h.gl⟩,
    ⟨Nat.le_refl _, fun _ _ _ => ⟨rfl, rfl⟩, fun b ⟨k, x, h1, h2⟩ => ?_, fun _ _ _ => rfl, fun _ => Nat.le_refl _, fun _ cs _ hb => ⟨cs, hb, rfl⟩, fun _ _ _ _ => rfl, fun b j ⟨k, x, h1, h2⟩ => ?_, fun _ _ => rfl, fun _ ob N _ h => ⟨ob, N, h, Nat.le_refl _, fun _ => rfl⟩, rfl, rfl⟩⟩
  · rcases hlook k x hk with ⟨c1, c2, rfl⟩ | h1
    · show g.m k = none
      cases hg : g.m k with
      | none => rfl
      | some b => have := h.mlt k b hg; omega
    · exact h.objs k x h1
  · rcases hlook k x h1 with ⟨_, _, rfl⟩ | h5
    · cases h3
    · rcases hlook k' x' h2 with ⟨_, _, rfl⟩ | h6
      · cases h4
      · exact h.inj k x k' x' b h5 h6 h3 h4
  · rcases hlook k x hk with ⟨c1, c2, rfl⟩ | h1
    · exact .inl c2
    · exact (h.blt k x h1).imp (fun h => by omega) id
  · rcases hlook k x h1 with ⟨_, _, rfl⟩ | h5
    · cases h2
    · exact .inl ⟨k, x, h5, h2⟩
  · rcases hlook k x h1 with ⟨_, _, rfl⟩ | h5
    · exact h2.elim
    · exact .inl ⟨k, x, h5, h2⟩

theorem entOf_remk1 {ops : List Oper} {oo : Oper} {en : Ent} (es : List Ent) (A : List Nat) (i : Nat) (h : EntOf P N ops oo en) (hc : compOp P oo.op = some en.op) : EntOf P N ops oo (remk1 es A i en) := by
  unfold remk1
  split
  · rename_i d z
    exact ⟨h.dst, h.lt, .inr (.inl ⟨_, z, hc, rfl⟩), h.gd⟩
  · rename_i sz d v
    split
    · exact ⟨h.dst, h.lt, .inr (.inr (.inl ⟨_, sz, _, v, hc, rfl⟩)), h.gd⟩
    · exact h
  · exact h

theorem SemC.weak {c : Code} {Q : AExit → Post} {e e' : Env} {o o' : Objs} {n n' : Nat} (hl : LeSt gl N e o n e' o' n') (h : SemC P gl N c Q e' o' n') : SemC P gl N c Q e o n := by
  intro g w a hg
  obtain ⟨g', hg', hs⟩ := hl P g w a hg
  refine wp_mono (h g' w a hg') ?_
  rintro ex a2 w2 ⟨x2, g2, e2, o2, n2, hr2, hg2, hs2, hq2⟩
  exact ⟨x2, g2, e2, o2, n2, hr2, hg2, hs.trans hs2, hq2⟩

theorem least {p : Nat → Prop} (h : ∃ k, p k) : ∃ k, p k ∧ ∀ j, p j → k ≤ j := by
  obtain ⟨k, hk⟩ := h
  induction k using Nat.strongRecOn with
  | _ k ih =>
    by_cases hj : ∃ j, j < k ∧ p j
    · obtain ⟨j, h1, h2⟩ := hj; exact ih j h1 h2
    · exact ⟨k, hk, fun j h => Nat.le_of_not_lt fun h' => hj ⟨j, h', h⟩⟩

theorem loop_sound {c : Code} {x : IC} (ih : ∀ (Q : AExit → Post) (e : Env) (o : Objs) (n : Nat), wp P gl N x Q e o n → SemC P gl N c Q e o n) {Q : AExit → Post} {e : Env} {o : Objs} {n : Nat} (h : LoopP gl N (wp P gl N x) Q e o n) : SemC P gl N (.loop c) Q e o n := by
  obtain ⟨α, st, ok, μ, y, h0, hle, round⟩ := h.h
  refine SemC.weak hle ?_
  intro g w a hg
  let J : Nat → Act → World → Prop := fun k a' w' => ∃ z g', ok z ∧ μ z = k ∧ Good P gl N g' w' (EnvF (st z).1) (st z).2.1 (st z).2.2 a' ∧ Stp g w (st y).2.1 g' w' (st z).2.1
  let m : Act → World → Nat := fun a' w' => @dite _ (∃ k, J k a' w') (Classical.propDecidable _) (fun h => (least h).choose) (fun _ => 0)
  refine wp_loop (fun a' w' => ∃ k, J k a' w') m ⟨_, y, g, h0, rfl, hg, Stp.refl g w _⟩ ?_
  intro a1 w1 hI
  have hmin : m a1 w1 = (least hI).choose := by
    show (@dite _ (∃ k, J k a1 w1) (Classical.propDecidable _) _ _) = _
    rw [dif_pos hI]
  obtain ⟨z, g1, hz, hk, hg1, hs1⟩ := (least hI).choose_spec.1
  refine wp_mono (ih _ _ _ _ (round z hz) g1 w1 a1 hg1) ?_
  rintro ex a2 w2 ⟨x2, g2, e2, o2, n2, hr2, hg2, hs2, hq2⟩
  cases x2 with
  | normal =>
    cases ex <;> simp only [ExR] at hr2
    obtain ⟨z2, hz2, hlt, hl2⟩ := hq2
    obtain ⟨g3, hg3, hs3⟩ := hl2 P g2 w2 a2 hg2
    have hJ : J (μ z2) a2 w2 := ⟨z2, g3, hz2, rfl, hg3, (hs1.trans hs2).trans hs3⟩
    refine ⟨⟨_, hJ⟩, ?_⟩
    have hm2 : m a2 w2 ≤ μ z2 := by
      show (@dite _ (∃ k, J k a2 w2) (Classical.propDecidable _) _ _) ≤ _
      rw [dif_pos ⟨_, hJ⟩]
      exact (least ⟨_, hJ⟩).choose_spec.2 _ hJ
    rw [hmin, ← hk]
    omega
  | ret => cases ex <;> simp only [ExR] at hr2; exact ⟨.ret, g2, e2, o2, n2, trivial, hg2, hs1.trans hs2, hq2⟩
  | exit i => cases ex <;> simp only [ExR] at hr2; exact ⟨.exit i, g2, e2, o2, n2, hr2, hg2, hs1.trans hs2, hq2⟩

theorem wp_sound (hm : P.follows .mixedOrders = true) : ∀ (c : Code) (x : IC), comp P N c = some x → ∀ (Q : AExit → Post) (e : Env) (o : Objs) (n : Nat), wp P gl N x Q e o n → SemC P gl N c Q e o n := by
  intro c
  induction c with
  | skip => intro x hx Q e o n h g w a hg; simp only [comp] at hx; injection hx with hx; subst hx; exact wp_skip ⟨.normal, g, e, o, n, trivial, hg, Stp.refl g w o, h⟩
  | region id ops draw =>
    intro x hx Q e o n h g w a hg
    simp only [comp] at hx
    split at hx
    · rename_i es hes
      obtain ⟨hl, hspec⟩ := compE_spec ops.toList es hes
      have hlen : es.length = ops.size := by rw [hl]; simp
      have hes' : ∀ (j : Nat) oj, ops[j]? = some oj → ∃ ej, es[j]? = some ej ∧ EntOf P N ops.toList oj ej := fun j oj hj => hspec j oj (by rw [Array.getElem?_toList]; exact hj)
      have hfin : ∀ (g1 : Gh) (w1 : World), Stp g w o g1 w1 o → ∀ (s : FS) g' w' a', Good P gl N g' w' s.E s.o s.n a' → Stp g1 w1 o g' w' s.o → (∃ e', s.E = EnvF e' ∧ Q .normal e' s.o s.n) → Up P gl N g w o Q .normal a' w' := by
        rintro g1 w1 h0 ⟨E, o', n'⟩ g' w' a' hg' hs' ⟨e', rfl, hq⟩
        exact ⟨.normal, g', e', o', n', trivial, hg', h0.trans hs', hq⟩
      split at hx
      · injection hx with hx
        subst hx
        refine wp_region ?_
        have := wpE_fix (P := P) (gl := gl) (N := N) (Q' := Up P gl N g w o Q) (g0 := g) (w0 := w) (o0 := o) hes' (fun e1 o1 n1 g1 w1 a1 hg1 hs1 hq1 => hfin g w (Stp.refl g w o) ⟨EnvF e1, o1, n1⟩ g1 w1 a1 hg1 hs1 ⟨e1, rfl, hq1⟩) es 0 e o n g w a (fun j => by simp) (by simpa using hlen) hg (Stp.refl g w o) h
        rw [hlen] at this
        rwa [List.range_eq_range']
      · split at hx
        · rename_i hd
          have hesx : ∀ (j : Nat) oj, ops[j]? = some oj → ∃ ej, (es.map Ent.xe)[j]? = some ej ∧ EntOf P N ops.toList oj ej := fun j oj hj => by
            obtain ⟨ej, h1, h2⟩ := hes' j oj hj
            refine ⟨ej.xe, by rw [List.getElem?_map, h1]; rfl, entOf_xe h2 ((compE_op ops.toList es hes).2 j oj ej (by rw [Array.getElem?_toList]; exact hj) h1)⟩
          injection hx with hx
          subst hx
          refine wp_region_any hm ?_
          have hd1 : Drawn w { w with drawn := w.drawn + 1 } := ⟨rfl, rfl, rfl⟩
          have hA := wpAnyA_lex (P := P) (gl := gl) (fun j oj hj => let ⟨ej, h1, _⟩ := hesx j oj hj; ⟨ej, h1⟩) (by rw [List.length_map]; exact hlen) (es.map Ent.xe) 0 (Array.replicate ops.size false) ⟨EnvF e, o, n⟩ (fun j oj hj hl => by
            simp only [Array.getD_eq_getD_getElem?, Array.getElem?_replicate] at hl
            split at hl <;> simp at hl) (fun k hk hL => by
            show lookO k o = none
            cases hl : lookO k o with
            | none => rfl
            | some x => have := hg.blt k x hl; have hk : n ≤ k := hk; omega) (fun j => by simp) hd (wpE_txt _ h)
          rw [List.length_map] at hA
          have := wpAnyA_ok (P := P) (gl := gl) (N := N) (Q' := Up P gl N g w o Q) hesx (hfin g _ (hd1.stp g o)) es.length _ _ g _ a (hg.drawn hd1) (Stp.refl g _ o) hA
          rwa [hlen] at this
        · split at hx
          · rename_i hd
            injection hx with hx
            subst hx
            refine wp_region_any hm ?_
            have hd1 : Drawn w { w with drawn := w.drawn + 1 } := ⟨rfl, rfl, rfl⟩
            have hA := wpAnyA_lex (P := P) (gl := gl) (fun j oj hj => let ⟨ej, h1, _⟩ := hes' j oj hj; ⟨ej, h1⟩) hlen es 0 (Array.replicate ops.size false) ⟨EnvF e, o, n⟩ (fun j oj hj hl => by
              simp only [Array.getD_eq_getD_getElem?, Array.getElem?_replicate] at hl
              split at hl <;> simp at hl) (fun k hk hL => by
              show lookO k o = none
              cases hl : lookO k o with
              | none => rfl
              | some x => have := hg.blt k x hl; have hk : n ≤ k := hk; omega) (fun j => by simp) hd (wpE_txt es h)
            have := wpAnyA_ok (P := P) (gl := gl) (N := N) (Q' := Up P gl N g w o Q) hes' (hfin g _ (hd1.stp g o)) es.length _ _ g _ a (hg.drawn hd1) (Stp.refl g _ o) hA
            rwa [hlen] at this
          · split at hx
            · rename_i hd
              injection hx with hx
              subst hx
              refine wp_region_any hm ?_
              have hd1 : Drawn w { w with drawn := w.drawn + 1 } := ⟨rfl, rfl, rfl⟩
              have hwl : (withS ops es).length = es.length := by simp [withS]
              have hm1 : (withS ops es).map (·.1) = es := by
                apply List.ext_getElem (by simp [withS])
                intro i h1 h2
                simp [withS, List.getD_eq_getElem?_getD, h2]
              have hA := wpAnyA_lexS (P := P) (gl := gl) (fun j oj hj => let ⟨ej, h1, _⟩ := hes' j oj hj; ⟨ej, h1⟩) hlen (withS ops es) 0 (Array.replicate ops.size false) ⟨EnvF e, o, n⟩ (fun j oj hj hl => by
                simp only [Array.getD_eq_getD_getElem?, Array.getElem?_replicate] at hl
                split at hl <;> simp at hl) (fun k hk hL => by
                show lookO k o = none
                cases hl : lookO k o with
                | none => rfl
                | some x => have := hg.blt k x hl; have hk : n ≤ k := hk; omega) (fun j => by rw [hm1]; simp) hd (wpES_txt (withS ops es) h)
              have := wpAnyA_ok (P := P) (gl := gl) (N := N) (Q' := Up P gl N g w o Q) hes' (hfin g _ (hd1.stp g o)) (withS ops es).length _ _ g _ a (hg.drawn hd1) (Stp.refl g _ o) hA
              rwa [hwl, hlen] at this
            · split at hx
              · rename_i hd
                injection hx with hx
                subst hx
                simp only [wp, chk_iff] at h
                obtain ⟨hL, h⟩ := h
                have hL : n + (allocIx es).length ≤ LENT := Nat.le_of_ble_eq_true hL
                simp only [drawOkR, Bool.and_eq_true] at hd
                obtain ⟨hk1, hk2, hk3⟩ := hd
                have hk2 := beq_eq hk2
                refine wp_region_any hm ?_
                have hd1 : Drawn w { w with drawn := w.drawn + 1 } := ⟨rfl, rfl, rfl⟩
                have hrl : ∀ (j : Nat) ej, es[j]? = some ej → (remk es)[j]? = some (remk1 es (allocIx es) j ej) := fun j ej hj => by
                  have hlt : j < es.length := (List.getElem?_eq_some_iff.1 hj).1
                  unfold remk
                  rw [List.getElem?_map, List.getElem?_range hlt]
                  simp [List.getD, hj]
                have hes2 : ∀ (j : Nat) oj, ops[j]? = some oj → ∃ ej, (remk es)[j]? = some ej ∧ EntOf P N ops.toList oj ej := fun j oj hj => by
                  obtain ⟨ej, h1, h2⟩ := hes' j oj hj
                  refine ⟨_, hrl j ej h1, entOf_remk1 es _ j h2 ?_⟩
                  have h3 := (compE_op ops.toList es hes).2 j oj ej (by rw [Array.getElem?_toList]; exact hj) h1
                  exact h3
                have hkeep : ∀ (j : Nat) ej, (remk es)[j]? = some ej → keepN ej.op = true := fun j ej hj => List.all_eq_true.1 hk1 ej (List.mem_of_getElem? hj)
                obtain ⟨hg2, hs2⟩ := good_pre hg (allocIx es).length hL
                have hA := wpAnyA_lexR (P := P) (gl := gl) (fun j oj hj => let ⟨ej, h1, _⟩ := hes2 j oj hj; ⟨ej, h1⟩) hkeep (ordR ops (remk es)) (Array.replicate ops.size false) ⟨EnvF e, pre (allocIx es).length n o, n + (allocIx es).length⟩ (fun j oj hj hl => by
                  simp only [Array.getD_eq_getD_getElem?, Array.getElem?_replicate] at hl
                  split at hl <;> simp at hl) (fun k hk hL => by
                  show lookO k (pre (allocIx es).length n o) = none
                  cases hl : lookO k (pre (allocIx es).length n o) with
                  | none => rfl
                  | some x => have := hg2.blt k x hl; have hk : n + (allocIx es).length ≤ k := hk; omega) hk3 (wpER_txt _ h)
                have hfin2 : ∀ (s : FS) g' w' a', Good P gl N g' w' s.E s.o s.n a' → Stp g { w with drawn := w.drawn + 1 } (pre (allocIx es).length n o) g' w' s.o → (∃ e', s.E = EnvF e' ∧ Q .normal e' s.o s.n) → Up P gl N g w o Q .normal a' w' := by
                  rintro ⟨E, o', n'⟩ g' w' a' hg' hs' ⟨e', rfl, hq⟩
                  exact ⟨.normal, g', e', o', n', trivial, hg', (hs2.trans (hd1.stp g _)).trans hs', hq⟩
                have := wpAnyA_ok (P := P) (gl := gl) (N := N) (Q' := Up P gl N g w o Q) hes2 hfin2 (ordR ops (remk es)).length _ _ g _ a (hg2.drawn hd1) (Stp.refl g _ _) hA
                rwa [hk2] at this
              · cases hx
    · cases hx
  | seq a b iha ihb =>
    intro x hx Q e o n h g w ac hg
    simp only [comp] at hx
    split at hx
    · rename_i x1 y1 h1 h2
      injection hx with hx
      subst hx
      refine wp_seq (wp_mono (iha x1 h1 _ e o n h g w ac hg) ?_)
      rintro ex a' w' ⟨x', g', e', o', n', hr, hg', hs', hq⟩
      cases x' with
      | normal =>
        cases ex <;> simp only [ExR] at hr
        refine wp_mono (ihb y1 h2 Q e' o' n' hq g' w' a' hg') ?_
        rintro ex a2 w2 ⟨x2, g2, e2, o2, n2, hr2, hg2, hs2, hq2⟩
        exact ⟨x2, g2, e2, o2, n2, hr2, hg2, hs'.trans hs2, hq2⟩
      | ret => cases ex <;> simp only [ExR] at hr; exact ⟨.ret, g', e', o', n', trivial, hg', hs', hq⟩
      | exit i => cases ex <;> simp only [ExR] at hr; exact ⟨.exit i, g', e', o', n', hr, hg', hs', hq⟩
    · cases hx
  | cond c a b iha ihb =>
    intro x hx Q e o n h g w ac hg
    simp only [comp] at hx
    split at hx
    · rename_i x1 y1 h1 h2
      injection hx with hx
      subst hx
      simp only [wp] at h
      split at h
      · rename_i t ht
        have hv := ev_ok hg c
        rw [show evF gl (EnvF e) (cx c) = ev gl e (cx c) from by rw [ev_eq]; rfl, ht] at hv
        have hv := val_v hv
        cases t with
        | true => exact wp_cond_true hv (iha x1 h1 Q e o n h g w ac hg)
        | false => exact wp_cond_false hv (ihb y1 h2 Q e o n h g w ac hg)
      · exact h.elim
    · cases hx
  | block id a iha =>
    intro x hx Q e o n h g w ac hg
    simp only [comp] at hx
    split at hx
    · rename_i x1 h1
      injection hx with hx
      subst hx
      refine wp_block (wp_mono (iha x1 h1 _ e o n h g w ac hg) ?_)
      rintro ex a' w' ⟨x', g', e', o', n', hr, hg', hs', hq⟩
      cases x' with
      | normal => cases ex <;> simp only [ExR] at hr; exact ⟨.normal, g', e', o', n', trivial, hg', hs', hq⟩
      | ret => cases ex <;> simp only [ExR] at hr; exact ⟨.ret, g', e', o', n', trivial, hg', hs', hq⟩
      | exit i =>
        cases ex <;> simp only [ExR] at hr
        subst hr
        simp only [Exit.inBlock]
        simp only [] at hq
        split at hq
        · rename_i hb
          rw [if_pos (beq_eq hb)]
          exact ⟨.normal, g', e', o', n', trivial, hg', hs', hq⟩
        · rename_i hb
          rw [if_neg (fun he => by rw [he, beq_self] at hb; cases hb)]
          exact ⟨.exit i, g', e', o', n', rfl, hg', hs', hq⟩
    · cases hx
  | loop a iha =>
    intro x hx Q e o n h
    simp only [comp] at hx
    split at hx
    · rename_i x1 h1
      injection hx with hx
      subst hx
      exact loop_sound (fun Q e o n hw => iha x1 h1 Q e o n hw) h
    · cases hx
  | exit id => intro x hx Q e o n h g w a hg; simp only [comp] at hx; injection hx with hx; subst hx; exact wp_exit ⟨.exit id, g, e, o, n, rfl, hg, Stp.refl g w o, h⟩
  | ret => intro x hx Q e o n h g w a hg; simp only [comp] at hx; injection hx with hx; subst hx; exact wp_ret ⟨.ret, g, e, o, n, trivial, hg, Stp.refl g w o, h⟩
  | scope a iha =>
    intro x hx Q e o n h g w ac hg
    refine wp_scope_straight (wp_mono (iha x hx Q e o n h g w ac hg) ?_)
    rintro ex a' w' ⟨x', g', e', o', n', hr, hg', hs', hq⟩
    cases x' with
    | normal => cases ex <;> simp only [ExR] at hr; exact ⟨.normal, g', e', o', n', trivial, hg', hs', hq⟩
    | ret => cases ex <;> simp only [ExR] at hr; exact ⟨.ret, g', e', o', n', trivial, hg', hs', hq⟩
    | exit i => cases ex <;> simp only [ExR] at hr; exact ⟨.exit i, g', e', o', n', hr, hg', hs', hq⟩
  | label l => intro x hx Q e o n h g w a hg; simp only [comp] at hx; injection hx with hx; subst hx; exact wp_label ⟨.normal, g, e, o, n, trivial, hg, Stp.refl g w o, h⟩
  | _ => intro x hx; simp only [comp] at hx; cases hx

/-! One outcome, out of what holds of all. -/
theorem wpOp_iff {e : Env} {o : Objs} {n : Nat} {p : IOp} {K : AV → Objs → Nat → Prop} : Ar.wpOp false P gl e o n p K ↔ wpF false P gl ⟨EnvF e, o, n⟩ p K := by
  refine ⟨wpOp_F, fun h => ?_⟩
  have e1 : ev gl e = evF gl (EnvF e) := ev_eq gl e
  cases p <;> simp only [Ar.wpOp, e1, force_iff, forceO_iff, forceL_iff, evL_eq]
  case calv x l =>
    simp only [wpF] at h
    split at h
    · rename_i f a c he
      (try rw [he])
      refine ⟨h.1, ?_⟩
      rcases h.2 with ⟨args', r, h1, h2, h3⟩ | ⟨t, m, e, ty, args', r, m', ht, h1, h2, h3⟩
      · exact call_pureV h2 h1 h3
      · exact call_t h2 ht rfl rfl h1 h3
    · exact h.elim
  all_goals first
    | exact h
    | (rcases h with ⟨args', r, h1, h2, h3⟩ | ⟨t, m, e, ty, args', r, m', ht, h1, h2, h3⟩
       · exact call_pureV h2 h1 h3
       · exact call_t h2 ht rfl rfl h1 h3)

theorem wpOp_ex {e : Env} {o : Objs} {n : Nat} {p : IOp} {K : AV → Objs → Nat → Prop} (h : Ar.wpOp false P gl e o n p K) :
    ∃ v o' n', K v o' n' ∧ ∀ K' : AV → Objs → Nat → Prop, K' v o' n' → Ar.wpOp false P gl e o n p K' := by
  obtain ⟨v, o', n', h1, h2⟩ := wpF_ex (wpOp_iff.1 h)
  exact ⟨v, o', n', h2, fun K' hk => wpOp_iff.2 (wpF_mono h1 hk)⟩

theorem callB_ex {f : FuncId} {args : List AV} {o : Objs} {n : Nat} {K : AV → Objs → Nat → Prop} (h : CallB true P gl f args o n K) :
    ∃ v o' n', K v o' n' ∧ ∀ K' : AV → Objs → Nat → Prop, K' v o' n' → CallB true P gl f args o n K' := by
  obtain ⟨v, o', n', hk, hx⟩ := h.x
  exact ⟨v, o', n', hk, fun K' hk' => ⟨⟨v, o', n', hk', hx⟩, fun hb => by cases hb⟩⟩

def isCl : IOp → Bool
  | .call _ _ => true
  | .calv _ _ => true
  | _ => false

theorem wpOp_tf {e : Env} {o : Objs} {n : Nat} {p : IOp} {K : AV → Objs → Nat → Prop} (hp : isCl p = false) : Ar.wpOp true P gl e o n p K = Ar.wpOp false P gl e o n p K := by
  cases p <;> first | rfl | cases hp

theorem wpOp_exT {e : Env} {o : Objs} {n : Nat} {p : IOp} {K : AV → Objs → Nat → Prop} (h : Ar.wpOp true P gl e o n p K) :
    ∃ v o' n', K v o' n' ∧ ∀ K' : AV → Objs → Nat → Prop, K' v o' n' → Ar.wpOp true P gl e o n p K' := by
  cases p
  case call f l =>
    simp only [Ar.wpOp, force_iff, forceL_iff] at h ⊢
    exact callB_ex h
  case calv x l =>
    simp only [Ar.wpOp, force_iff, forceL_iff] at h ⊢
    split at h
    · rename_i f a c he
      obtain ⟨v, o', n', h1, h2⟩ := callB_ex h.2
      refine ⟨v, o', n', h1, fun K' hk => ?_⟩
      try rw [he]
      exact ⟨h.1, h2 K' hk⟩
    · exact h.elim
  all_goals
    (rw [wpOp_tf rfl] at h
     obtain ⟨v, o', n', h1, h2⟩ := wpOp_ex h
     exact ⟨v, o', n', h1, fun K' hk => by rw [wpOp_tf rfl]; exact h2 K' hk⟩)

theorem wpOp_exB {b : Bool} {e : Env} {o : Objs} {n : Nat} {p : IOp} {K : AV → Objs → Nat → Prop} (h : Ar.wpOp b P gl e o n p K) :
    ∃ v o' n', K v o' n' ∧ ∀ K' : AV → Objs → Nat → Prop, K' v o' n' → Ar.wpOp b P gl e o n p K' := by
  cases b
  · exact wpOp_ex h
  · exact wpOp_exT h

theorem stepE_ex {b : Bool} {en : Ent} {K : Post} {e : Env} {o : Objs} {n : Nat} (h : stepE b P gl en K e o n) : ∃ e' o' n', K e' o' n' ∧ ∀ K' : Post, K' e' o' n' → stepE b P gl en K' e o n := by
  cases en with
  | o d op =>
    obtain ⟨v, o', n', h1, h2⟩ := wpOp_exB h
    exact ⟨_, o', n', h1, fun K' hk => h2 _ hk⟩
  | n op =>
    obtain ⟨v, o', n', h1, h2⟩ := wpOp_exB h
    exact ⟨_, o', n', h1, fun K' hk => h2 _ hk⟩
  | og d j q op =>
    simp only [stepE] at h ⊢
    split at h
    · rename_i t ht
      cases q <;> cases t
      · obtain ⟨v, o', n', h1, h2⟩ := wpOp_exB h; exact ⟨_, o', n', h1, fun K' hk => h2 _ hk⟩
      · exact ⟨_, _, _, h, fun K' hk => hk⟩
      · exact ⟨_, _, _, h, fun K' hk => hk⟩
      · obtain ⟨v, o', n', h1, h2⟩ := wpOp_exB h; exact ⟨_, o', n', h1, fun K' hk => h2 _ hk⟩
    · exact ⟨_, _, _, h, fun K' hk => hk⟩
    · exact h.elim
  | ng j q op =>
    simp only [stepE] at h ⊢
    split at h
    · rename_i t ht
      cases q <;> cases t
      · obtain ⟨v, o', n', h1, h2⟩ := wpOp_exB h; exact ⟨_, o', n', h1, fun K' hk => h2 _ hk⟩
      · exact ⟨_, _, _, h, fun K' hk => hk⟩
      · exact ⟨_, _, _, h, fun K' hk => hk⟩
      · obtain ⟨v, o', n', h1, h2⟩ := wpOp_exB h; exact ⟨_, o', n', h1, fun K' hk => h2 _ hk⟩
    · exact ⟨_, _, _, h, fun K' hk => hk⟩
    · exact h.elim

theorem wpE_ex {b : Bool} {K : Post} : ∀ (l : List Ent) {e : Env} {o : Objs} {n : Nat}, wpE b P gl l K e o n → ∃ e' o' n', K e' o' n' ∧ ∀ K' : Post, K' e' o' n' → wpE b P gl l K' e o n
  | [], e, o, n, h => ⟨e, o, n, h, fun _ hk => hk⟩
  | en :: r, e, o, n, h => by
    obtain ⟨e1, o1, n1, h1, h2⟩ := stepE_ex (show stepE b P gl en (wpE b P gl r K) e o n from h)
    obtain ⟨e2, o2, n2, h3, h4⟩ := wpE_ex r h1
    exact ⟨e2, o2, n2, h3, fun K' hk => h2 _ (h4 K' hk)⟩

theorem wpES_ex {K : Post} : ∀ (l : List (Ent × List Nat)) {e : Env} {o : Objs} {n : Nat}, wpES P gl l K e o n → ∃ e' o' n', K e' o' n' ∧ ∀ K' : Post, K' e' o' n' → wpES P gl l K' e o n
  | [], e, o, n, h => ⟨e, o, n, h, fun _ hk => hk⟩
  | (en, js) :: r, e, o, n, h => by
    simp only [wpES, chk_iff] at h
    obtain ⟨e1, o1, n1, h1, h2⟩ := stepE_ex h.2
    obtain ⟨e2, o2, n2, h3, h4⟩ := wpES_ex r h1
    exact ⟨e2, o2, n2, h3, fun K' hk => by simp only [wpES, chk_iff]; exact ⟨h.1, h2 _ (h4 K' hk)⟩⟩

theorem wpER_ex {K : Post} : ∀ (l : List (Ent × List Nat)) {e : Env} {o : Objs} {n : Nat}, wpER P gl l K e o n → ∃ e' o' n', K e' o' n' ∧ ∀ K' : Post, K' e' o' n' → wpER P gl l K' e o n
  | [], e, o, n, h => ⟨e, o, n, h, fun _ hk => hk⟩
  | (en, js) :: r, e, o, n, h => by
    simp only [wpER, chk_iff] at h
    obtain ⟨e1, o1, n1, h1, h2⟩ := stepE_ex h.2
    obtain ⟨e2, o2, n2, h3, h4⟩ := wpER_ex r h1
    exact ⟨e2, o2, n2, h3, fun K' hk => by simp only [wpER, chk_iff]; exact ⟨h.1, h2 _ (h4 K' hk)⟩⟩

/-- From this state of a loop the walk comes out so. -/
inductive Chain (gl : Nat → AV) (N : Nat) (W : (AExit → Post) → Post) {α : Type} (st : α → Env × Objs × Nat) (μ : α → Nat) (ex : AExit) (e : Env) (o : Objs) (n : Nat) : α → Prop
  | stop (y : α) (hne : ex ≠ .normal) (h : ∀ Q' : AExit → Post, Q' ex e o n → W Q' (st y).1 (st y).2.1 (st y).2.2) : Chain gl N W st μ ex e o n y
  | go (y z : α) (e1 : Env) (o1 : Objs) (n1 : Nat) (h : ∀ Q' : AExit → Post, Q' .normal e1 o1 n1 → W Q' (st y).1 (st y).2.1 (st y).2.2) (hlt : μ z < μ y) (hle : LeSt gl N e1 o1 n1 (st z).1 (st z).2.1 (st z).2.2)
      (hz : Chain gl N W st μ ex e o n z) : Chain gl N W st μ ex e o n y

theorem wp_ex : ∀ (x : IC) {Q : AExit → Post} {e : Env} {o : Objs} {n : Nat}, wp P gl N x Q e o n → ∃ ex e' o' n', Q ex e' o' n' ∧ ∀ Q' : AExit → Post, Q' ex e' o' n' → wp P gl N x Q' e o n := by
  intro x
  induction x with
  | skip => intro Q e o n h; exact ⟨.normal, e, o, n, h, fun _ hk => hk⟩
  | ops l => intro Q e o n h; obtain ⟨e', o', n', h1, h2⟩ := wpE_ex l h; exact ⟨.normal, e', o', n', h1, fun Q' hk => h2 _ hk⟩
  | dops l => intro Q e o n h; obtain ⟨e', o', n', h1, h2⟩ := wpE_ex l h; exact ⟨.normal, e', o', n', h1, fun Q' hk => h2 _ hk⟩
  | dopss l => intro Q e o n h; obtain ⟨e', o', n', h1, h2⟩ := wpES_ex l h; exact ⟨.normal, e', o', n', h1, fun Q' hk => h2 _ hk⟩
  | dopr m l =>
    intro Q e o n h
    simp only [wp, chk_iff] at h
    obtain ⟨e', o', n', h1, h2⟩ := wpER_ex l h.2
    exact ⟨.normal, e', o', n', h1, fun Q' hk => by simp only [wp, chk_iff]; exact ⟨h.1, h2 _ hk⟩⟩
  | seq a b iha ihb =>
    intro Q e o n h
    obtain ⟨ex, e1, o1, n1, h1, h2⟩ := iha h
    cases ex with
    | normal =>
      obtain ⟨ex, e2, o2, n2, h3, h4⟩ := ihb h1
      exact ⟨ex, e2, o2, n2, h3, fun Q' hk => h2 _ (h4 Q' hk)⟩
    | ret => exact ⟨.ret, e1, o1, n1, h1, fun Q' hk => h2 _ hk⟩
    | exit i => exact ⟨.exit i, e1, o1, n1, h1, fun Q' hk => h2 _ hk⟩
  | cond c a b iha ihb =>
    intro Q e o n h
    simp only [wp] at h
    split at h
    · rename_i t ht
      cases t with
      | true =>
        obtain ⟨ex, e1, o1, n1, h1, h2⟩ := iha h
        exact ⟨ex, e1, o1, n1, h1, fun Q' hk => by simp only [wp, ht]; exact h2 Q' hk⟩
      | false =>
        obtain ⟨ex, e1, o1, n1, h1, h2⟩ := ihb h
        exact ⟨ex, e1, o1, n1, h1, fun Q' hk => by simp only [wp, ht]; exact h2 Q' hk⟩
    · exact h.elim
  | block id a iha =>
    intro Q e o n h
    obtain ⟨ex, e1, o1, n1, h1, h2⟩ := iha h
    cases ex with
    | normal => exact ⟨.normal, e1, o1, n1, h1, fun Q' hk => h2 _ hk⟩
    | ret => exact ⟨.ret, e1, o1, n1, h1, fun Q' hk => h2 _ hk⟩
    | exit i =>
      simp only [] at h1
      split at h1
      · rename_i hb
        exact ⟨.normal, e1, o1, n1, h1, fun Q' hk => h2 _ (by simp only [hb]; exact hk)⟩
      · rename_i hb
        exact ⟨.exit i, e1, o1, n1, h1, fun Q' hk => h2 _ (by simp only [hb]; exact hk)⟩
  | loop a iha =>
    intro Q e o n h
    obtain ⟨α, st, ok, μ, y, h0, hle, round⟩ := (show LoopP gl N (wp P gl N a) Q e o n from h).h
    have key : ∀ (k : Nat) (y : α), μ y = k → ok y → ∃ ex e' o' n', Q ex e' o' n' ∧ Chain gl N (wp P gl N a) st μ ex e' o' n' y := by
      intro k
      induction k using Nat.strongRecOn with
      | _ k ih =>
        intro y hk hy
        obtain ⟨ex, e1, o1, n1, h1, h2⟩ := iha (round y hy)
        cases ex with
        | normal =>
          obtain ⟨z, hz, hlt, hl⟩ := h1
          obtain ⟨ex, e2, o2, n2, h3, h4⟩ := ih (μ z) (hk ▸ hlt) z rfl hz
          exact ⟨ex, e2, o2, n2, h3, .go y z e1 o1 n1 h2 hlt hl h4⟩
        | ret => exact ⟨.ret, e1, o1, n1, h1, .stop y (by simp) h2⟩
        | exit i => exact ⟨.exit i, e1, o1, n1, h1, .stop y (by simp) h2⟩
    obtain ⟨ex, e', o', n', h1, h2⟩ := key _ y rfl h0
    refine ⟨ex, e', o', n', h1, fun Q' hk => ⟨α, st, Chain gl N (wp P gl N a) st μ ex e' o' n', μ, y, h2, hle, fun y hy => ?_⟩⟩
    cases hy with
    | stop _ hne hs => exact hs _ (by cases ex <;> first | exact absurd rfl hne | exact hk)
    | go _ z e1 o1 n1 hs hlt hl hz => exact hs _ ⟨z, hz, hlt, hl⟩
  | exit id => intro Q e o n h; exact ⟨.exit id, e, o, n, h, fun _ hk => hk⟩
  | ret => intro Q e o n h; exact ⟨.ret, e, o, n, h, fun _ hk => hk⟩

end
end Ar
