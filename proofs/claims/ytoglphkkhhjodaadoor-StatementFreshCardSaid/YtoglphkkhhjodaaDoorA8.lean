/- The door: what comes in, as the walk reads it. No condition. -/
import Derived.Test.YtoglphkkhhjodaaDoorA6
import Derived.ProofKit
import Derived.Deep.Slices
import Derived.WideKeyArgs
import Derived.OpenShut
import Derived.Test.YtoglphkkhhjodaaDoorA7
import Derived.MakeChecks
import Derived.Lay
set_option linter.all false
namespace Ar
open Go Go.ChangeShapes Go.WideShapes
set_option linter.unusedVariables false
set_option autoImplicit false

/-- The form of what comes in. -/
inductive Ty where
  | int (k : IntKind)
  | bool
  | str
  | st (l : Ty)
  | cons (a b : Ty)
  | nil
  | arr (n e : Nat) (a : Ty)
  | sl (e : Nat) (a : Ty)

/-- At least so many bytes take its values. -/
def tby : Ty → Nat
  | .int _ => 8
  | .bool => 0
  | .str => 16
  | .st l => tby l
  | .cons a b => tby a + tby b
  | .nil => 0
  | .arr n _ a => n * tby a
  | .sl _ _ => 24

def tsize : Ty → Nat
  | .int _ | .bool | .str | .sl .. => 1
  | .st l => tsize l
  | .cons a b => tsize a + tsize b
  | .nil => 0
  | .arr n e _ => n * e

/-- The form is that of the type. -/
def conf (P : Program) : Ty → (TypeId → Bool) × (List Field → Nat → Bool)
  | .int k => (fun t => match P.underlying t with | some (.int k') => decide (k' = k) | _ => false, fun _ _ => false)
  | .bool => (fun t => match P.underlying t with | some .bool => true | _ => false, fun _ _ => false)
  | .str => (fun t => match P.underlying t with | some .string => true | _ => false, fun _ _ => false)
  | .st l => (fun t => match P.underlying t with | some (.struct fs) => (conf P l).2 fs.toList 0 && Nat.beq (P.cellsOf t) (tsize l) | _ => false, fun _ _ => false)
  | .cons a b => (fun _ => false, fun fs off => match fs with
    | [] => false
    | f :: r => Nat.beq f.offset off && Nat.beq (P.cellsOf f.type) (tsize a) && (conf P a).1 f.type && (conf P b).2 r (off + tsize a))
  | .nil => (fun _ => false, fun fs _ => match fs with | [] => true | _ => false)
  | .arr n e a => (fun t => match P.underlying t with | some (.array n' u) => Nat.beq n n' && Nat.beq (P.cellsOf u) e && Nat.beq (tsize a) e && Nat.beq (P.cellsOf t) (n * e) && (conf P a).1 u | _ => false, fun _ _ => false)
  | .sl e a => (fun t => match P.underlying t with | some (.slice u) => Nat.beq (P.cellsOf u) e && Nat.beq (tsize a) e && (conf P a).1 u && Nat.blt 0 e && Nat.ble (tby a) (P.bytesOf u) | _ => false, fun _ _ => false)

/-- A value of that form. -/
def Of : Ty → AV → Prop
  | .int k, a => ∃ n, a = .val (.int k n) ∧ k.min ≤ n ∧ n ≤ k.max
  | .bool, a => ∃ b, a = .val (.bool b)
  | .str, a => ∃ s : ByteArray, a = .val (.string s) ∧ s.size ≤ maxLen
  | .st l, a => ∃ b, a = .st b ∧ Of l b
  | .cons x y, a => ∃ b c, a = .cons b c ∧ Of x b ∧ Of y c
  | .nil, a => a = .nil
  | .arr n e x, a => ∃ f, a = .arr n e f ∧ ∀ i, i < n → Of x (f i)
  | .sl e x, a => ∃ n f, a = .lst none n e f ∧ (n ≤ maxLen ∧ n * tby x ≤ 140737488351232) ∧ ∀ i, i < n → Of x (f i)

def GW (w : World) (b : Nat) : Nat := match w.heap[b]? with
  | some (.cells c _ _) => c.size
  | _ => 0

def g0 (w : World) : Gh := ⟨fun _ => none, fun _ => none, GW w⟩

theorem cell?_lt {w : World} {a : Addr} {v : Value} (h : w.cell? a = some v) : a.spot = none ∧ a.off < GW w a.block := by
  unfold World.cell? at h
  unfold GW
  split at h
  · rename_i c _ _ hc
    rw [hc]
    split at h
    · cases h
    · rename_i hs
      refine ⟨by simpa using hs, ?_⟩
      exact (Array.getElem?_eq_some_iff.1 h).1
  · cases h

variable {H : Type} {enc : TypeId × Value → H} {P : Program} {w : World} {base : Nat} {spare : Nat → Bool} {held : Bool}

theorem beqE {a b : Nat} (h : Nat.beq a b = true) : a = b := Nat.eq_of_beq_eq_true h

abbrev wOk (l : List Nat) : Prop := l.all (· ≤ reachBytes) = true
theorem wOk_app {a b : List Nat} (h : wOk (a ++ b)) : wOk a ∧ wOk b := by
  unfold wOk at *; rw [List.all_append, Bool.and_eq_true] at h; exact h
theorem wEach_at : ∀ {ts : List TypeId} {ds : List (DataW H)}, wOk (DataW.weightsEach P ts ds) → ∀ (i : Nat) (t : TypeId) (d : DataW H), ts[i]? = some t → ds[i]? = some d → wOk (d.weights P t)
  | t :: ts, d :: ds, h, i, t', d', h1, h2 => by
    simp only [DataW.weightsEach] at h
    obtain ⟨h3, h4⟩ := wOk_app h
    cases i with
    | zero => injection h1 with h1; injection h2 with h2; subst h1 h2; exact h3
    | succ i => exact wEach_at h4 i t' d' (by simpa using h1) (by simpa using h2)
  | [], _, _, i, t', d', h1, _ => by simp at h1
  | _ :: _, [], _, i, t', d', _, h2 => by simp at h2
theorem wAll_at {e : TypeId} : ∀ {ds : List (DataW H)}, wOk (DataW.weightsAll P e ds) → ∀ (i : Nat) (d : DataW H), ds[i]? = some d → wOk (d.weights P e)
  | d :: ds, h, i, d', h2 => by
    simp only [DataW.weightsAll] at h
    obtain ⟨h3, h4⟩ := wOk_app h
    cases i with
    | zero => injection h2 with h2; subst h2; exact h3
    | succ i => exact wAll_at h4 i d' (by simpa using h2)
  | [], _, i, d', h2 => by simp at h2

theorem open_ty (ty : Ty) :
    (∀ (fuel : Nat) (t : TypeId) (cs : List Value) (x : DataW H × List MemPlace), (conf P ty).1 t = true → DataW.trod enc P w base spare held fuel t cs = some x → wOk (x.1.weights P t) →
      ∃ a, Of ty a ∧ size a = tsize ty ∧ cs.length = tsize ty ∧ (R (g0 w) w a).s (fun j => cs[j]?) 0) ∧
    (∀ (fuel : Nat) (fs : List Field) (off : Nat) (cs : List Value), (conf P ty).2 fs off = true → (∀ f ∈ fs, ∃ y, DataW.trod enc P w base spare held fuel f.type ((cs.drop f.offset).take (P.cellsOf f.type)) = some y ∧ wOk (y.1.weights P f.type)) →
      ∃ a, Of ty a ∧ size a = tsize ty ∧ (R (g0 w) w a).s (fun j => cs[j]?) off) := by
  induction ty with
  | int k =>
    refine ⟨fun fuel t cs x hc h hwt => ?_, fun _ _ _ _ hc => by simp [conf] at hc⟩
    simp only [conf] at hc
    split at hc
    · rename_i k' ht
      have hc := of_decide_eq_true hc
      subst hc
      obtain ⟨n, rfl, rfl, hw⟩ := DataW.trod_int ht h
      simp only [Lit.wf, Bool.and_eq_true, decide_eq_true_eq] at hw
      exact ⟨.val (.int k' n), ⟨n, rfl, hw⟩, rfl, rfl, ⟨_, rfl, rfl, hw⟩⟩
    · cases hc
  | bool =>
    refine ⟨fun fuel t cs x hc h hwt => ?_, fun _ _ _ _ hc => by simp [conf] at hc⟩
    simp only [conf] at hc
    split at hc
    · rename_i ht
      obtain ⟨b, rfl, rfl⟩ := DataW.trod_bool ht h
      exact ⟨.val (.bool b), ⟨b, rfl⟩, rfl, rfl, ⟨_, rfl, rfl, trivial⟩⟩
    · cases hc
  | str =>
    refine ⟨fun fuel t cs x hc h hwt => ?_, fun _ _ _ _ hc => by simp [conf] at hc⟩
    simp only [conf] at hc
    split at hc
    · rename_i ht
      obtain ⟨s, rfl, rfl, hs⟩ := DataW.trod_string ht h
      exact ⟨.val (.string s), ⟨s, rfl, hs⟩, rfl, rfl, ⟨_, rfl, rfl, (show s.size ≤ 9223372036854775807 by simp only [maxLen] at hs; omega)⟩⟩
    · cases hc
  | st l ih =>
    refine ⟨fun fuel t cs x hc h hwt => ?_, fun _ _ _ _ hc => by simp [conf] at hc⟩
    simp only [conf] at hc
    split at hc
    · rename_i fs ht
      simp only [Bool.and_eq_true] at hc
      obtain ⟨xs, n, hn, hx, hlen, hxl, hf⟩ := DataW.trod_struct ht h
      obtain ⟨a, ha, hs, hr⟩ := ih.2 n fs.toList 0 cs hc.1 (fun f hfm => by
        obtain ⟨i, hi, rfl⟩ := List.mem_iff_getElem.1 hfm
        simp only [Array.length_toList] at hi
        refine ⟨xs[i]'(by omega), ?_⟩
        have := hf i (fs[i]) (by simp [hi])
        simp only [Array.getElem_toList]
        refine ⟨by rw [this, List.getElem?_eq_getElem], ?_⟩
        subst hx
        simp only [DataW.weights, ht] at hwt
        exact wEach_at hwt i _ _ (by simp [hi]) (by simp [List.getElem?_eq_getElem (show i < xs.length by omega)]))
      exact ⟨.st a, ⟨a, rfl, ha⟩, hs, by rw [hlen, beqE hc.2]; rfl, hr⟩
    · cases hc
  | cons p q ihp ihq =>
    refine ⟨fun _ _ _ _ hc => by simp [conf] at hc, fun fuel fs off cs hc h => ?_⟩
    simp only [conf] at hc
    split at hc
    · cases hc
    · rename_i f r
      simp only [Bool.and_eq_true] at hc
      obtain ⟨⟨⟨h1, h2⟩, h3⟩, h4⟩ := hc
      obtain ⟨y, hy, hyw⟩ := h f (List.mem_cons_self ..)
      obtain ⟨a, ha, hs, hl, hr⟩ := ihp.1 _ _ _ _ h3 hy hyw
      obtain ⟨b, hb, hsb, hrb⟩ := ihq.2 fuel r (off + tsize p) cs h4 (fun f' hf' => h f' (List.mem_cons_of_mem _ hf'))
      rw [beqE h1, beqE h2] at hr hl
      refine ⟨.cons a b, ⟨a, b, rfl, ha, hb⟩, by simp [size, hs, hsb, tsize], R_look (fun j hj => ?_) hr, by rw [hs]; exact hrb⟩
      rw [hs] at hj
      simp [hj]
  | nil =>
    refine ⟨fun _ _ _ _ hc => by simp [conf] at hc, fun fuel fs off cs hc h => ?_⟩
    exact ⟨.nil, rfl, rfl, trivial⟩
  | arr n e p ih =>
    refine ⟨fun fuel t cs x hc h hwt => ?_, fun _ _ _ _ hc => by simp [conf] at hc⟩
    simp only [conf] at hc
    split at hc
    · rename_i n' u ht
      simp only [Bool.and_eq_true] at hc
      obtain ⟨⟨⟨⟨h1, h2⟩, h3⟩, h4⟩, h5⟩ := hc
      have h1 := beqE h1; have h2 := beqE h2; have h3 := beqE h3; have h4 := beqE h4
      subst h1
      obtain ⟨xs, m, hm, hx, hlen, hxl, hf⟩ := Go.DataW.trod_array ht h
      have hcell : ∀ i, ∃ a, i < n → Of p a ∧ size a = e ∧ (R (g0 w) w a).s (fun j => cs[j]?) (i * e) := by
        intro i
        by_cases hi : i < n
        · have := hf i hi
          rw [h2, List.getElem?_eq_getElem (by omega : i < xs.length)] at this
          obtain ⟨a, ha, hs, hl, hr⟩ := ih.1 _ _ _ _ h5 this (by
            subst hx
            simp only [DataW.weights, ht] at hwt
            exact wAll_at hwt i _ (by simp [List.getElem?_eq_getElem (show i < xs.length by omega)]))
          refine ⟨a, fun _ => ⟨ha, by rw [hs, h3], R_look (fun j hj => ?_) hr⟩⟩
          rw [hs, h3] at hj
          simp [hj]
        · exact ⟨.nil, fun h => absurd h hi⟩
      refine ⟨.arr n e fun i => (hcell i).choose, ⟨_, rfl, fun i hi => ((hcell i).choose_spec hi).1⟩, rfl, by rw [hlen, h4]; rfl, fun i hi => ?_⟩
      obtain ⟨a1, a2, a3⟩ := (hcell i).choose_spec hi
      exact ⟨a2, by rw [Nat.zero_add]; exact a3⟩
    · cases hc
  | sl e p ih =>
    refine ⟨fun fuel t cs x hc h hwt => ?_, fun _ _ _ _ hc => by simp [conf] at hc⟩
    simp only [conf] at hc
    split at hc
    · rename_i u ht
      simp only [Bool.and_eq_true] at hc
      obtain ⟨⟨⟨⟨h2, h3⟩, h5⟩, h6⟩, h7⟩ := hc
      have h2 := beqE h2; have h3 := beqE h3
      have hby : tby p ≤ P.bytesOf u := Nat.le_of_ble_eq_true h7
      have h6 : 0 < e := Nat.le_of_ble_eq_true h6
      rcases Deep.open_slice ht h with ⟨rfl, rfl⟩ | ⟨a, len, cap, m, n, D, Pl, rfl, hb, hl, hm, hmm, hx, hi⟩
      · exact ⟨.lst none 0 e fun _ => .nil, ⟨0, _, rfl, ⟨Nat.zero_le _, by omega⟩, fun i hi => absurd hi (Nat.not_lt_zero i)⟩, rfl, rfl, ⟨_, rfl, ⟨none, 0, rfl, Nat.le_refl _, trivial, rfl, rfl⟩, csl (by decide)⟩⟩
      · have hlm : len ≤ m := by rw [hmm]; split <;> omega
        subst hx
        simp only [DataW.weights, ht, List.length_map, List.length_range] at hwt
        have hwt : wOk ([(len + (m - len)) * P.bytesOf u] ++ (DataW.weightsAll P u (List.map D (List.range len)) ++ DataW.weightsAll P u (List.map (fun j => D (len + j)) (List.range (m - len))))) := hwt
        obtain ⟨hw1, hw2⟩ := wOk_app hwt
        obtain ⟨hw2, _⟩ := wOk_app hw2
        have hwl : len * tby p ≤ 140737488351232 := by
          have h1 : (len + (m - len)) * P.bytesOf u ≤ reachBytes := by simpa [wOk] using hw1
          exact Nat.le_trans (Nat.mul_le_mul (Nat.le_add_right len (m - len)) hby) h1
        rw [h2] at hi
        have hcell : ∀ i, ∃ b, i < len → Of p b ∧ size b = e ∧ (R (g0 w) w b).s (look w a.block) (a.off + i * e) ∧ a.spot = none ∧ a.off + (i * e + e) ≤ GW w a.block := by
          intro i
          by_cases hil : i < len
          · obtain ⟨cs', hc', ht'⟩ := hi i (by omega)
            obtain ⟨b, hb1, hb2, hb3, hb4⟩ := ih.1 _ _ _ _ h5 ht' (wAll_at hw2 i _ (by simp [hil]))
            obtain ⟨_, hcl, hat⟩ := World.cells?_some hc'
            rw [h3] at hb2 hb3
            have hat' : ∀ j, j < e → ∃ v, cs'[j]? = some v ∧ w.cell? ((a.add (i * e)).add j) = some v := by
              intro j hj
              exact ⟨cs'[j]'(by omega), List.getElem?_eq_getElem (by omega), by rw [hat j hj]; exact List.getElem?_eq_getElem (by omega)⟩
            have hsp : a.spot = none ∧ ∀ j, (a.add (i * e)).add j = ⟨a.block, a.off + i * e + j, none⟩ := by
              obtain ⟨v, _, hv⟩ := hat' 0 h6
              have h1 := (cell?_lt hv).1
              have hs : a.spot = none := by
                by_cases z : i * e = 0
                · rw [z] at h1; simpa [Addr.add] using h1
                · by_cases hi0 : 0 < len
                  · obtain ⟨cs0, hc0, _⟩ := hi 0 (by omega)
                    obtain ⟨_, hcl0, hat0⟩ := World.cells?_some hc0
                    have h7 := hat0 0 h6
                    rw [List.getElem?_eq_getElem (by omega)] at h7
                    have := (cell?_lt h7).1
                    simpa [Addr.add] using this
                  · omega
              refine ⟨hs, fun j => ?_⟩
              obtain ⟨ab, ao, as⟩ := a
              simp only at hs
              subst hs
              simp only [Addr.add]
              split <;> split <;> simp_all [Nat.add_assoc]
            refine ⟨b, fun _ => ⟨hb1, hb2, R_look (fun j hj => ?_) hb4, hsp.1, ?_⟩⟩
            · rw [hb2] at hj
              obtain ⟨v, hv1, hv2⟩ := hat' j hj
              rw [hsp.2] at hv2
              show look w a.block (a.off + i * e + j) = cs'[0 + j]?
              rw [Nat.zero_add, hv1]
              exact hv2
            · obtain ⟨v, _, hv⟩ := hat' (e - 1) (by omega)
              rw [hsp.2] at hv
              have := (cell?_lt hv).2
              simp only at this
              omega
          · exact ⟨.nil, fun h => absurd h hil⟩
        refine ⟨.lst none len e fun i => (hcell i).choose, ⟨len, _, rfl, ⟨by omega, hwl⟩, fun i hi => ((hcell i).choose_spec hi).1⟩, rfl, rfl, ⟨_, rfl, ⟨some a, cap, rfl, hl, trivial, ?_⟩, csl (by simp only [maxLen] at hm; omega)⟩⟩
        refine ⟨fun h0 => ((hcell 0).choose_spec h0).2.2.2.1, fun h0 => ?_, fun i hi => ⟨((hcell i).choose_spec hi).2.1, ((hcell i).choose_spec hi).2.2.1⟩⟩
        have hl0 : 0 < len := Nat.pos_of_ne_zero (by rintro rfl; simp at h0)
        have := ((hcell (len - 1)).choose_spec (by omega)).2.2.2.2
        have h8 : (len - 1) * e + e = len * e := by
          obtain ⟨k, rfl⟩ : ∃ k, len = k + 1 := ⟨len - 1, by omega⟩
          simp [Nat.add_mul]
        rw [h8] at this
        exact this
    · cases hc

theorem agg_cells {cs : Array Value} : (Value.agg cs).cells = cs := rfl

theorem open_top {ty : Ty} {b0 : Nat} {t : TypeId} {v : Value} {d : DataW H} {ps : List MemPlace} (hc : (conf P ty).1 t = true) (hval : Value.okWide P w .any b0 t v) (h : DataW.Trod enc P w base spare held t v d ps) (hwt : wOk (d.weights P t)) :
    ∃ a, Of ty a ∧ (R (g0 w) w a).v v := by
  obtain ⟨fuel, h⟩ := h
  obtain ⟨a, ha, hs, hl, hr⟩ := (open_ty ty).1 fuel t _ _ hc h hwt
  refine ⟨a, ha, ?_⟩
  have one1 : ∀ {p : Value → Prop}, v.cells = #[v] → (∃ u, v.cells.toList[0]? = some u ∧ p u ∧ cellV u) → p v ∧ cellV v := by
    intro p hv ⟨u, h1, h2, h3⟩
    rw [hv] at h1
    simp at h1
    subst h1
    exact ⟨h2, h3⟩
  cases ty with
  | int k =>
    simp only [conf] at hc
    split at hc
    · rename_i k' ht
      obtain ⟨n, rfl⟩ := okWide_int ht hval
      obtain ⟨m, rfl, _⟩ := ha
      exact one1 rfl hr
    · cases hc
  | bool =>
    simp only [conf] at hc
    split at hc
    · rename_i ht
      obtain ⟨n, rfl⟩ := okWide_bool ht hval
      obtain ⟨m, rfl⟩ := ha
      exact one1 rfl hr
    · cases hc
  | str =>
    simp only [conf] at hc
    split at hc
    · rename_i ht
      obtain ⟨n, rfl⟩ := okWide_string ht hval
      obtain ⟨m, rfl, _⟩ := ha
      exact one1 rfl hr
    · cases hc
  | st l =>
    simp only [conf] at hc
    split at hc
    · rename_i fs ht
      obtain ⟨cs, rfl, hsz⟩ := okWide_struct ht hval
      obtain ⟨b, rfl, hb⟩ := ha
      rw [agg_cells] at hl hr
      refine ⟨cs, rfl, ?_, R_look (fun j hj => ?_) hr⟩
      · rw [← Array.length_toList, hl]; exact hs.symm
      · simp
    · cases hc
  | arr n e p =>
    simp only [conf] at hc
    split at hc
    · rename_i n' u ht
      have hv : ∃ cs, v = .agg cs := by
        simp only [Value.okWide, ht] at hval
        obtain ⟨cs, h1, _⟩ := hval
        exact ⟨cs, h1⟩
      obtain ⟨cs, rfl⟩ := hv
      obtain ⟨f, rfl, hf⟩ := ha
      rw [agg_cells] at hl hr
      refine ⟨cs, rfl, by rw [← Array.length_toList, hl]; rfl, fun i hi => ⟨(hr i hi).1, R_look (fun j hj => ?_) (hr i hi).2⟩⟩
      simp
    · cases hc
  | sl e p =>
    simp only [conf] at hc
    split at hc
    · rename_i u ht
      obtain ⟨x, len, cap, rfl⟩ := okWide_slice ht hval
      obtain ⟨n, f, rfl, _⟩ := ha
      exact one1 rfl hr
    · cases hc
  | cons a b => simp [conf] at hc
  | nil => simp [conf] at hc

def OfL : List Ty → List AV → Prop
  | [], [] => True
  | t :: ts, a :: as => Of t a ∧ OfL ts as
  | _, _ => False

def confL (P : Program) : List Ty → List TypeId → Bool
  | [], [] => true
  | a :: as, t :: ts => (conf P a).1 t && confL P as ts
  | _, _ => false

theorem open_args {b0 : Nat} : ∀ {tys : List Ty} {ts : List TypeId} {vs : List Value} {ds : List (DataW H)} {ps : List MemPlace}, confL P tys ts = true → DataW.TrodAll enc P w base spare held ts vs ds ps →
    (∀ (j : Nat) t v, ts[j]? = some t → vs[j]? = some v → Value.okWide P w .any b0 t v) → wOk (DataW.weightsEach P ts ds) → ds.length = ts.length ∧ ∃ as, OfL tys as ∧ RL (g0 w) w as vs
  | [], [], vs, ds, ps, hc, h, hv, hwt => by
    obtain ⟨rfl, rfl, _⟩ := trodAll_nil h
    exact ⟨rfl, [], trivial, trivial⟩
  | a :: as, t :: ts, vs, ds, ps, hc, h, hv, hwt => by
    simp only [confL, Bool.and_eq_true] at hc
    obtain ⟨v, vs', d, ds', p, q, rfl, rfl, rfl, h1, h2⟩ := trodAll_cons h
    simp only [DataW.weightsEach] at hwt
    obtain ⟨hw1, hw2⟩ := wOk_app hwt
    obtain ⟨x, hx, hr⟩ := open_top hc.1 (hv 0 t v rfl rfl) h1 hw1
    obtain ⟨hl, xs, hxs, hrs⟩ := open_args hc.2 h2 (fun j t' v' h3 h4 => hv (j + 1) t' v' h3 h4) hw2
    exact ⟨by simp [hl], x :: xs, ⟨hx, hxs⟩, ⟨hr, hrs⟩⟩
  | [], _ :: _, _, _, _, hc, _, _, _ => by simp [confL] at hc
  | _ :: _, [], _, _, _, hc, _, _, _ => by simp [confL] at hc

theorem trodAll_stays (hl : laidOutB P = true) {W W' : World} {sp' : Nat → Bool} (hsame : ∀ k, k < W.heap.size → W'.heap[k]? = W.heap[k]?) : ∀ {ts : List TypeId} {vs : List Value} {ds : List (DataW H)} {ps : List MemPlace},
    (∀ t ∈ ts, P.readableRec t = true ∧ t < P.types.size) → DataW.TrodAll enc P W 0 (fun _ => true) true ts vs ds ps → (∀ p ∈ ps, p.block < W.heap.size) → (∀ p ∈ ps, sp' p.block = true) → DataW.TrodAll enc P W' 0 sp' true ts vs ds ps
  | [], [], [], ps, _, h, _, _ => h
  | t :: ts, v :: vs, d :: ds, ps, ht, ⟨p, q, h1, h2, e⟩, hb, hs => by
    subst e
    refine ⟨p, q, ?_, trodAll_stays hl hsame (fun t h => ht t (List.mem_cons_of_mem _ h)) h2 (fun x hx => hb x (List.mem_append_right _ hx)) (fun x hx => hs x (List.mem_append_right _ hx)), rfl⟩
    refine WideElems.Trod_stays hl (ht t (List.mem_cons_self ..)).1 (ht t (List.mem_cons_self ..)).2 h1 (fun x hx => ?_) (fun x hx => hs x (List.mem_append_left _ hx))
    have := hb x (List.mem_append_left _ hx)
    cases x with
    | cell b o => exact World.cell?_of_block (w := W) (hsame b this)
    | map b => exact hsame b this
  | [], _ :: _, _, _, _, h, _, _ => h.elim
  | [], [], _ :: _, _, _, h, _, _ => h.elim
  | _ :: _, [], _, _, _, h, _, _ => h.elim
  | _ :: _, _ :: _, [], _, _, h, _, _ => h.elim

theorem post_stays {f : Func} {s : ChangeSpec} {apart fresh handsOn again : Bool} {W W' : World} {args : Array Value} {v : Value} {ds gs : List (DataW H)} {before pa pv : List MemPlace}
    (hW : DataW.Whole enc P f.params.toList s.vars apart W args.toList ds gs before)
    (hres : ∀ (b : Nat) (sp : Nat → Bool) (hd : Bool), DataW.TrodAll enc P W' b sp hd f.resultTypes.toList (v.resultList f.resultTypes.size) (s.fn H (ds ++ gs)).results [])
    (hargs : ∀ sp : Nat → Bool, (∀ p ∈ before, sp p.block = true) → DataW.TrodAll enc P W' 0 sp true f.params.toList args.toList (s.fn H (ds ++ gs)).args pa)
    (hvars : ∀ sp : Nat → Bool, (∀ p ∈ before, sp p.block = true) → DataW.TrodVars enc P W' sp s.vars (s.fn H (ds ++ gs)).vars pv)
    (hps : before = pa ++ pv) (hk : W.keptBut W' (· ∈ before)) (hsame : ∀ k, k < W.heap.size → W'.heap[k]? = W.heap[k]?)
    (hok : ∀ (j : Nat) (t : TypeId) (r : Value), f.resultTypes[j]? = some t → (v.resultList f.resultTypes.size)[j]? = some r → Value.okWide P W' .any 0 t r) :
    s.post enc P f apart fresh handsOn again W args v W' := by
  have hold : ∀ p ∈ before, (fun b => decide (b < W.heap.size)) p.block = true := fun p hp => by simpa using hW.lt p hp
  have hlt := hW.lt
  refine ⟨ds, gs, before, [], pa, pv, hW, hres _ _ _, hargs _ hold, hvars _ hold, World.keptBut_mono (fun p hp => ⟨hp, ?_⟩) hk, fun _ => ?_⟩
  · rw [hps, List.mem_append] at hp
    exact Or.inr hp
  · obtain ⟨_, _, _, _, _, hz, hn⟩ := hW
    refine ⟨hok, _, _, ([] ++ pa) ++ pv, ⟨[] ++ pa, pv, trodAll_append (hargs _ (fun _ _ => rfl)) (hres _ _ _), hvars _ (fun _ _ => rfl), rfl, ?_, ?_⟩, ?_⟩
    · intro b off hp
      have hm : MemPlace.cell b off ∈ before := by rw [hps]; simpa using hp
      have := hz b off hm
      unfold World.frozen? at this ⊢
      simp only at this ⊢
      rw [hsame b (hlt _ hm)]
      exact this
    · intro ha
      have := hn ha
      rw [hps] at this
      simpa using this
    · intro p hp _
      rw [hps]
      simpa using hp

theorem kept_of_same {W W' : World} (hos : W'.os = W.os) (hout : W'.output = W.output) (hsame : ∀ k, k < W.heap.size → W'.heap[k]? = W.heap[k]?) (may : MemPlace → Prop) : W.keptBut W' may := by
  refine ⟨hos, hout, fun i hi => ?_⟩
  rw [hsame i hi]
  cases h : W.heap[i]? with
  | none => trivial
  | some o => cases o <;> simp

/-- From a law's contract to what its row asks. -/
theorem law_calls {f : FuncId} {fn : Func} {s : ChangeSpec} {apart fresh handsOn again : Bool} {tb : TypeId} {tys : List Ty}
    (hlaid : laidOutB P = true) (hts : (fn.params.toList.all fun t => P.readableRec t && Nat.blt t P.types.size) = true) (hres : fn.resultTypes = #[tb]) (htb : P.underlying tb = some .bool)
    (hc : confL P tys fn.params.toList = true) (hv : s.vars = [])
    (hsf : ∀ ds : List (DataW H), ds.length = fn.params.toList.length → s.fn H ds = { results := [.lit (.bool true)], args := ds })
    {gl : Nat → AV} (law : ∀ as, OfL tys as → ∃ args', LeL as args' ∧ Pure P gl f args' (.val (.bool true)))
    {W : World} (hgl : ∀ i, (R (g0 W) W (gl i)).v (.pointer (some ⟨i, 0, none⟩))) {b0 : Nat} {args : Array Value} {ds gs : List (DataW H)} {before : List MemPlace}
    (hval : ∀ (j : Nat) t v, fn.params[j]? = some t → args[j]? = some v → Value.okWide P W .any b0 t v)
    (hW : DataW.Whole enc P fn.params.toList s.vars apart W args.toList ds gs before) (hwt : wOk (DataW.weightsEach P (fn.params.toList ++ s.plain.varTypes P) (ds ++ gs))) :
    Calls P f args W fun e W' => ∃ v, e = .returned v ∧ s.post enc P fn apart fresh handsOn again W args v W' := by
  have hts : ∀ t ∈ fn.params.toList, P.readableRec t = true ∧ t < P.types.size := fun t ht => by
    have := List.all_eq_true.1 hts t ht
    rw [Bool.and_eq_true] at this
    exact ⟨this.1, Nat.le_of_ble_eq_true this.2⟩
  have hW' := hW
  have hlt := hW.lt
  obtain ⟨p, q, hA, hV, rfl, hfz, hnd⟩ := hW
  rw [hv] at hV
  obtain ⟨rfl, rfl⟩ := trodVars_none hV
  have hva : ∀ (j : Nat) t v, fn.params.toList[j]? = some t → args.toList[j]? = some v → Value.okWide P W .any b0 t v := fun j t v h1 h2 => hval j t v (by rw [← h1]; simp) (by rw [← h2]; simp)
  have hvt : s.plain.varTypes P = [] := by
    simp [DataSpec.varTypes, ChangeSpec.plain, hv]
  rw [hvt, List.append_nil, List.append_nil] at hwt
  obtain ⟨hlen, as, has, hr⟩ := open_args hc hA hva hwt
  obtain ⟨args', hle, _, _, _, hp⟩ := law as has
  have := hp (GW W) W args.toList (fun b hb => by unfold GW; rw [Array.getElem?_eq_none hb]) hgl (RL.le hle hr)
  refine this.mono fun x W' ⟨u, G', hx, hstp, _, hu⟩ => ?_
  have hu := val_v hu
  subst hu
  have hsame : ∀ k, k < W.heap.size → W'.heap[k]? = W.heap[k]? := fun k hk => (hstp.keep k hk (fun ⟨_, _, h, _⟩ => by cases h)).1
  simp only [List.append_nil] at hW' hlt
  have hsf' : s.fn H (ds ++ []) = { results := [.lit (.bool true)], args := ds } := by rw [List.append_nil]; exact hsf ds hlen
  have e0 : ∀ (d : List (DataW H)), (⟨[.lit (.bool true)], d, []⟩ : Left H).results = [.lit (.bool true)] := fun _ => rfl
  refine ⟨_, hx, post_stays (pa := p) (pv := []) hW' (fun b sp hd => ?_) (fun sp hsp => ?_) (fun sp _ => ?_) (List.append_nil p).symm (kept_of_same hstp.os hstp.out hsame _) hsame ?_⟩
  · rw [hsf', hres]
    exact trodAll_mk1 (RowKit.shut_bool htb true)
  · rw [hsf']
    exact trodAll_stays hlaid hsame hts hA hlt hsp
  · rw [hsf', hv]
    rfl
  · exact RowKit.ok_one hres rfl (RowKit.okWide_bool_mk htb true)

end Ar
namespace Ar
open Go
set_option linter.unusedVariables false
set_option autoImplicit false

theorem of_i64 {a : AV} (h : Of (.int .i64) a) : ∃ n, a = I n ∧ in64 n := by
  obtain ⟨n, rfl, h1, h2⟩ := h
  exact ⟨n, rfl, okI_i64.1 ⟨h1, h2⟩⟩

theorem maxLen_lt : maxLen < 9223372036854775808 := by decide

/-- A list that comes in is a list of things that come in. -/
theorem of_list {α : Type} [Inhabited α] {e : Nat} {t : Ty} {enc : α → AV} {ok : α → Prop} (hx : ∀ a, Of t a → ∃ m, LeA a (enc m) ∧ ok m) {a : AV} (h : Of (.sl e t) a) :
    ∃ xs : List α, LeA a (encL enc e xs) ∧ (∀ x ∈ xs, ok x) ∧ (xs.length ≤ maxLen ∧ xs.length * tby t ≤ 140737488351232) := by
  obtain ⟨n, f, rfl, hn, hf⟩ := h
  have hc : ∀ i, ∃ m, i < n → LeA (f i) (enc m) ∧ ok m := fun i => by
    by_cases hi : i < n
    · obtain ⟨m, h1, h2⟩ := hx _ (hf i hi)
      exact ⟨m, fun _ => ⟨h1, h2⟩⟩
    · exact ⟨default, fun h => absurd h hi⟩
  have hl : ((List.range n).map fun i => (hc i).choose).length = n := by simp
  refine ⟨(List.range n).map fun i => (hc i).choose, ?_, fun x hx => ?_, by rw [hl]; exact hn⟩
  · unfold encL encT
    rw [hl]
    refine LeA.lst (.inl rfl) fun i hi => ?_
    rw [at_lt (by rw [hl]; exact hi)]
    simpa using ((hc i).choose_spec hi).1
  · obtain ⟨i, hi, rfl⟩ := List.mem_map.1 hx
    exact ((hc i).choose_spec (by simpa using hi)).2

theorem rng_list {α : Type} [Inhabited α] {enc : α → AV} {e : Nat} {xs : List α} (h : ∀ x ∈ xs, size (enc x) = e ∧ rng (enc x)) (hl : xs.length ≤ maxLen) : rng (encL enc e xs) :=
  ⟨by have := maxLen_lt; omega, fun i hi => h _ (at_mem hi)⟩

theorem of_ints {a : AV} (h : Of (.sl 1 (.int .i64)) a) : ∃ xs : List Int, LeA a (encL I 1 xs) ∧ rng (encL I 1 xs) ∧ xs.length * 8 ≤ 140737488351232 := by
  obtain ⟨xs, h1, h2, h3, h4⟩ := of_list (enc := I) (ok := in64) (fun a h => by obtain ⟨n, rfl, hn⟩ := of_i64 h; exact ⟨n, LeA.refl _, hn⟩) h
  exact ⟨xs, h1, rng_list (fun x hx => ⟨rfl, okI_i64.2 (h2 x hx)⟩) h3, h4⟩

theorem ofL1 {t0 : Ty} {l : List AV} (h : OfL [t0] l) : ∃ a0, l = [a0] ∧ Of t0 a0 := by
  cases l with
  | nil => exact h.elim
  | cons a l =>
    cases l with
    | nil => exact ⟨a, rfl, h.1⟩
    | cons => exact h.2.elim

theorem ofL2 {t0 t1 : Ty} {l : List AV} (h : OfL [t0, t1] l) : ∃ a0 a1, l = [a0, a1] ∧ Of t0 a0 ∧ Of t1 a1 := by
  cases l with
  | nil => exact h.elim
  | cons a l =>
    obtain ⟨a1, rfl, hh⟩ := ofL1 h.2
    exact ⟨a, a1, rfl, h.1, hh⟩

theorem ofL3 {t0 t1 t2 : Ty} {l : List AV} (h : OfL [t0, t1, t2] l) : ∃ a0 a1 a2, l = [a0, a1, a2] ∧ Of t0 a0 ∧ Of t1 a1 ∧ Of t2 a2 := by
  cases l with
  | nil => exact h.elim
  | cons a l =>
    obtain ⟨a1, a2, rfl, hh⟩ := ofL2 h.2
    exact ⟨a, a1, a2, rfl, h.1, hh⟩

theorem ofL4 {t0 t1 t2 t3 : Ty} {l : List AV} (h : OfL [t0, t1, t2, t3] l) : ∃ a0 a1 a2 a3, l = [a0, a1, a2, a3] ∧ Of t0 a0 ∧ Of t1 a1 ∧ Of t2 a2 ∧ Of t3 a3 := by
  cases l with
  | nil => exact h.elim
  | cons a l =>
    obtain ⟨a1, a2, a3, rfl, hh⟩ := ofL3 h.2
    exact ⟨a, a1, a2, a3, rfl, h.1, hh⟩

theorem ofL5 {t0 t1 t2 t3 t4 : Ty} {l : List AV} (h : OfL [t0, t1, t2, t3, t4] l) : ∃ a0 a1 a2 a3 a4, l = [a0, a1, a2, a3, a4] ∧ Of t0 a0 ∧ Of t1 a1 ∧ Of t2 a2 ∧ Of t3 a3 ∧ Of t4 a4 := by
  cases l with
  | nil => exact h.elim
  | cons a l =>
    obtain ⟨a1, a2, a3, a4, rfl, hh⟩ := ofL4 h.2
    exact ⟨a, a1, a2, a3, a4, rfl, h.1, hh⟩

theorem ofL6 {t0 t1 t2 t3 t4 t5 : Ty} {l : List AV} (h : OfL [t0, t1, t2, t3, t4, t5] l) : ∃ a0 a1 a2 a3 a4 a5, l = [a0, a1, a2, a3, a4, a5] ∧ Of t0 a0 ∧ Of t1 a1 ∧ Of t2 a2 ∧ Of t3 a3 ∧ Of t4 a4 ∧ Of t5 a5 := by
  cases l with
  | nil => exact h.elim
  | cons a l =>
    obtain ⟨a1, a2, a3, a4, a5, rfl, hh⟩ := ofL5 h.2
    exact ⟨a, a1, a2, a3, a4, a5, rfl, h.1, hh⟩

theorem ofL7 {t0 t1 t2 t3 t4 t5 t6 : Ty} {l : List AV} (h : OfL [t0, t1, t2, t3, t4, t5, t6] l) : ∃ a0 a1 a2 a3 a4 a5 a6, l = [a0, a1, a2, a3, a4, a5, a6] ∧ Of t0 a0 ∧ Of t1 a1 ∧ Of t2 a2 ∧ Of t3 a3 ∧ Of t4 a4 ∧ Of t5 a5 ∧ Of t6 a6 := by
  cases l with
  | nil => exact h.elim
  | cons a l =>
    obtain ⟨a1, a2, a3, a4, a5, a6, rfl, hh⟩ := ofL6 h.2
    exact ⟨a, a1, a2, a3, a4, a5, a6, rfl, h.1, hh⟩

def tyPol : Ty := .st (.cons (.int .i64) (.cons (.int .i64) (.cons (.int .i64) (.cons (.int .i64) (.cons (.int .i64) (.cons (.int .i64) (.cons (.int .i64) (.cons (.int .i64) (.cons (.int .i64) (.cons (.int .i64) (.cons (.int .i64) (.cons (.int .i64) (.cons (.int .i64) (.cons (.int .i64) (.cons (.int .i64) (.cons (.int .i64) (.cons (.int .i64) (.cons (.sl 1 (.int .i64)) .nil))))))))))))))))))
theorem of_Pol {a : AV} (h : Of tyPol a) : ∃ p : Pol, LeA a (encPol p) ∧ rng (encPol p) ∧ p.holidays.length * 8 ≤ 140737488351232 := by
  obtain ⟨_, rfl, _, _, rfl, h0, _, _, rfl, h1, _, _, rfl, h2, _, _, rfl, h3, _, _, rfl, h4, _, _, rfl, h5, _, _, rfl, h6, _, _, rfl, h7, _, _, rfl, h8, _, _, rfl, h9, _, _, rfl, h10, _, _, rfl, h11, _, _, rfl, h12, _, _, rfl, h13, _, _, rfl, h14, _, _, rfl, h15, _, _, rfl, h16, _, _, rfl, h17, rfl⟩ := h
  obtain ⟨n0, rfl, r0⟩ := of_i64 h0
  obtain ⟨n1, rfl, r1⟩ := of_i64 h1
  obtain ⟨n2, rfl, r2⟩ := of_i64 h2
  obtain ⟨n3, rfl, r3⟩ := of_i64 h3
  obtain ⟨n4, rfl, r4⟩ := of_i64 h4
  obtain ⟨n5, rfl, r5⟩ := of_i64 h5
  obtain ⟨n6, rfl, r6⟩ := of_i64 h6
  obtain ⟨n7, rfl, r7⟩ := of_i64 h7
  obtain ⟨n8, rfl, r8⟩ := of_i64 h8
  obtain ⟨n9, rfl, r9⟩ := of_i64 h9
  obtain ⟨n10, rfl, r10⟩ := of_i64 h10
  obtain ⟨n11, rfl, r11⟩ := of_i64 h11
  obtain ⟨n12, rfl, r12⟩ := of_i64 h12
  obtain ⟨n13, rfl, r13⟩ := of_i64 h13
  obtain ⟨n14, rfl, r14⟩ := of_i64 h14
  obtain ⟨n15, rfl, r15⟩ := of_i64 h15
  obtain ⟨n16, rfl, r16⟩ := of_i64 h16
  obtain ⟨n17, l17, r17, w17⟩ := of_ints h17
  exact ⟨⟨n0, n1, n2, n3, n4, n5, n6, n7, n8, n9, n10, n11, n12, n13, n14, n15, n16, n17⟩, LeA.st (LeA.cons (LeA.refl _) (LeA.cons (LeA.refl _) (LeA.cons (LeA.refl _) (LeA.cons (LeA.refl _) (LeA.cons (LeA.refl _) (LeA.cons (LeA.refl _) (LeA.cons (LeA.refl _) (LeA.cons (LeA.refl _) (LeA.cons (LeA.refl _) (LeA.cons (LeA.refl _) (LeA.cons (LeA.refl _) (LeA.cons (LeA.refl _) (LeA.cons (LeA.refl _) (LeA.cons (LeA.refl _) (LeA.cons (LeA.refl _) (LeA.cons (LeA.refl _) (LeA.cons (LeA.refl _) (LeA.cons l17 (LeA.refl _))))))))))))))))))), ⟨okI_i64.2 r0, okI_i64.2 r1, okI_i64.2 r2, okI_i64.2 r3, okI_i64.2 r4, okI_i64.2 r5, okI_i64.2 r6, okI_i64.2 r7, okI_i64.2 r8, okI_i64.2 r9, okI_i64.2 r10, okI_i64.2 r11, okI_i64.2 r12, okI_i64.2 r13, okI_i64.2 r14, okI_i64.2 r15, okI_i64.2 r16, r17, trivial⟩, w17⟩

def tyOpn : Ty := .st (.cons (.int .i64) (.cons (.int .i64) (.cons (.int .i64) (.cons (.int .i64) (.cons (.int .i64) (.cons (.int .i64) (.cons .str .nil)))))))
theorem of_Opn {a : AV} (h : Of tyOpn a) : ∃ p : Opn, LeA a (encOpn p) ∧ rng (encOpn p) := by
  obtain ⟨_, rfl, _, _, rfl, h0, _, _, rfl, h1, _, _, rfl, h2, _, _, rfl, h3, _, _, rfl, h4, _, _, rfl, h5, _, _, rfl, h6, rfl⟩ := h
  obtain ⟨n0, rfl, r0⟩ := of_i64 h0
  obtain ⟨n1, rfl, r1⟩ := of_i64 h1
  obtain ⟨n2, rfl, r2⟩ := of_i64 h2
  obtain ⟨n3, rfl, r3⟩ := of_i64 h3
  obtain ⟨n4, rfl, r4⟩ := of_i64 h4
  obtain ⟨n5, rfl, r5⟩ := of_i64 h5
  obtain ⟨n6, rfl, r6⟩ := h6
  exact ⟨⟨n0, n1, n2, n3, n4, n5, n6⟩, LeA.st (LeA.cons (LeA.refl _) (LeA.cons (LeA.refl _) (LeA.cons (LeA.refl _) (LeA.cons (LeA.refl _) (LeA.cons (LeA.refl _) (LeA.cons (LeA.refl _) (LeA.cons (LeA.refl _) (LeA.refl _)))))))), ⟨okI_i64.2 r0, okI_i64.2 r1, okI_i64.2 r2, okI_i64.2 r3, okI_i64.2 r4, okI_i64.2 r5, (show n6.size ≤ 9223372036854775807 by have := maxLen_lt; omega), trivial⟩⟩

def tyNtc : Ty := .st (.cons (.int .i64) (.cons (.int .i64) (.cons (.int .i64) (.cons (.int .i64) (.cons (.int .i64) (.cons .bool .nil))))))
theorem of_Ntc {a : AV} (h : Of tyNtc a) : ∃ p : Ntc, LeA a (encNtc p) ∧ rng (encNtc p) := by
  obtain ⟨_, rfl, _, _, rfl, h0, _, _, rfl, h1, _, _, rfl, h2, _, _, rfl, h3, _, _, rfl, h4, _, _, rfl, h5, rfl⟩ := h
  obtain ⟨n0, rfl, r0⟩ := of_i64 h0
  obtain ⟨n1, rfl, r1⟩ := of_i64 h1
  obtain ⟨n2, rfl, r2⟩ := of_i64 h2
  obtain ⟨n3, rfl, r3⟩ := of_i64 h3
  obtain ⟨n4, rfl, r4⟩ := of_i64 h4
  obtain ⟨n5, rfl⟩ := h5
  exact ⟨⟨n0, n1, n2, n3, n4, n5⟩, LeA.st (LeA.cons (LeA.refl _) (LeA.cons (LeA.refl _) (LeA.cons (LeA.refl _) (LeA.cons (LeA.refl _) (LeA.cons (LeA.refl _) (LeA.cons (LeA.refl _) (LeA.refl _))))))), ⟨okI_i64.2 r0, okI_i64.2 r1, okI_i64.2 r2, okI_i64.2 r3, okI_i64.2 r4, trivial, trivial⟩⟩

theorem of_Opns {a : AV} (h : Of (.sl 7 tyOpn) a) : ∃ xs : List Opn, LeA a (encL encOpn 7 xs) ∧ rng (encL encOpn 7 xs) := by
  obtain ⟨xs, h1, h2, h3, h4⟩ := of_list (enc := encOpn) (ok := fun x => rng (encOpn x)) (fun a h => of_Opn h) h
  exact ⟨xs, h1, rng_list (fun x hx => ⟨rfl, h2 x hx⟩) h3⟩

end Ar
namespace Ar
open Go
set_option linter.unusedVariables false
set_option autoImplicit false

theorem ints_laid {P : Program} {W : World} {name : String} {g : Nat} {t e : TypeId} (L : List Int) (hg : P.globalNamed name = some g) (ht : (P.globals[g]?).map (·.type) = some t)
    (hu : P.underlying t = some (.array L.length e)) (he : P.underlying e = some (.int .i64)) (hc : P.cellsOf e = 1) (hct : P.cellsOf t = L.length)
    (h : laidMet P [(name, .agg (L.map fun n => .lit (.int .i64 n)))] W) :
    (R (g0 W) W (.elt 1 L.length (fun _ => .arr L.length 1 (fun i => I (at_ L i))) 0 [])).v (.pointer (some ⟨g, 0, none⟩)) := by
  obtain ⟨ps, ⟨g', t', cs, fuel, p, q, hg', ht', hvar, hd, _, _⟩, _⟩ := h
  obtain rfl := Option.some.inj (hg.symm.trans hg')
  obtain rfl := Option.some.inj (ht.symm.trans ht')
  obtain ⟨xs, m, hm, hx, hlen, hxl, hf⟩ := DataW.trod_array hu hd
  have hcell : ∀ i, i < L.length → W.cell? ⟨g, i, none⟩ = some (.int .i64 (at_ L i)) ∧ okI .i64 (at_ L i) := fun i hi => by
    have h1 := hf i hi
    rw [hc, List.getElem?_eq_getElem (by omega : i < xs.length)] at h1
    obtain ⟨n, h2, h3, hw⟩ := DataW.trod_int he h1
    have hx1 : (DataW.agg (L.map fun n => .lit (.int .i64 n)) : DataW Unit) = .agg (xs.map (·.1)) := congrArg Prod.fst hx
    injection hx1 with hx1
    have h4 : (L.map fun n => (.lit (.int .i64 n) : DataW Unit))[i]? = (xs.map (·.1))[i]? := by rw [hx1]
    rw [List.getElem?_map, List.getElem?_map, List.getElem?_eq_getElem hi, List.getElem?_eq_getElem (by omega : i < xs.length)] at h4
    simp only [Option.map_some, Option.some.injEq] at h4
    rw [h3] at h4
    injection h4 with h4
    injection h4 with _ h4
    have hn : at_ L i = n := by rw [at_lt hi, h4]
    have hcs : cs.toList[i]? = some (.int .i64 n) := by
      have h5 : (((cs.toList.drop (i * 1)).take 1))[0]? = some (Value.int .i64 n) := by rw [h2]; rfl
      simpa using h5
    refine ⟨?_, ?_⟩
    · rw [hn, ← hcs]
      have := World.var?_cell hg hvar i
      rw [this]
      simp
    · rw [hn]
      simp only [Lit.wf, Bool.and_eq_true, decide_eq_true_eq] at hw
      exact hw
  refine ⟨⟨trivial, by decide, ⟨g, 0, none⟩, ⟨fun _ => rfl, fun h0 => ?_, fun i hi => ⟨by simp [size], fun j hj => ⟨rfl, ?_⟩⟩⟩, by simp [offP]⟩, trivial⟩
  · have hl : 0 < L.length := by simpa using h0
    have := (cell?_lt (hcell (L.length - 1) (by omega)).1).2
    simp only at this
    show 0 + 1 * L.length ≤ GW W g
    omega
  · obtain ⟨h1, h2⟩ := hcell j hj
    have hi0 : i = 0 := by omega
    subst hi0
    refine ⟨_, ?_, rfl, h2⟩
    show W.cell? ⟨g, 0 + 0 * L.length + j * 1, none⟩ = _
    rw [← h1]
    simp

end Ar
namespace Ar
open Go
set_option linter.unusedVariables false
set_option autoImplicit false

theorem nums_laid {P : Program} {W : World} {name : String} {g : Nat} {t e : TypeId} {k : IntKind} {r : List (String × DataW Unit)} (L : List Int) (hg : P.globalNamed name = some g) (ht : (P.globals[g]?).map (·.type) = some t)
    (hu : P.underlying t = some (.array L.length e)) (he : P.underlying e = some (.int k)) (hc : P.cellsOf e = 1) (hct : P.cellsOf t = L.length)
    (h : laidMet P ((name, .agg (L.map fun n => .lit (.int k n))) :: r) W) :
    (R (g0 W) W (.elt 1 L.length (fun _ => .arr L.length 1 (fun i => .val (.int k (at_ L i)))) 0 [])).v (.pointer (some ⟨g, 0, none⟩)) := by
  obtain ⟨ps, ⟨g', t', cs, fuel, p, q, hg', ht', hvar, hd, _, _⟩, _⟩ := h
  obtain rfl := Option.some.inj (hg.symm.trans hg')
  obtain rfl := Option.some.inj (ht.symm.trans ht')
  obtain ⟨xs, m, hm, hx, hlen, hxl, hf⟩ := DataW.trod_array hu hd
  have hcell : ∀ i, i < L.length → W.cell? ⟨g, i, none⟩ = some (.int k (at_ L i)) ∧ okI k (at_ L i) := fun i hi => by
    have h1 := hf i hi
    rw [hc, List.getElem?_eq_getElem (by omega : i < xs.length)] at h1
    obtain ⟨n, h2, h3, hw⟩ := DataW.trod_int he h1
    have hx1 : (DataW.agg (L.map fun n => .lit (.int k n)) : DataW Unit) = .agg (xs.map (·.1)) := congrArg Prod.fst hx
    injection hx1 with hx1
    have h4 : (L.map fun n => (.lit (.int k n) : DataW Unit))[i]? = (xs.map (·.1))[i]? := by rw [hx1]
    rw [List.getElem?_map, List.getElem?_map, List.getElem?_eq_getElem hi, List.getElem?_eq_getElem (by omega : i < xs.length)] at h4
    simp only [Option.map_some, Option.some.injEq] at h4
    rw [h3] at h4
    injection h4 with h4
    injection h4 with _ h4
    have hn : at_ L i = n := by rw [at_lt hi, h4]
    have hcs : cs.toList[i]? = some (.int k n) := by
      have h5 : (((cs.toList.drop (i * 1)).take 1))[0]? = some (Value.int k n) := by rw [h2]; rfl
      simpa using h5
    refine ⟨?_, ?_⟩
    · rw [hn, ← hcs]
      have := World.var?_cell hg hvar i
      rw [this]
      simp
    · rw [hn]
      simp only [Lit.wf, Bool.and_eq_true, decide_eq_true_eq] at hw
      exact hw
  refine ⟨⟨trivial, by decide, ⟨g, 0, none⟩, ⟨fun _ => rfl, fun h0 => ?_, fun i hi => ⟨by simp [size], fun j hj => ⟨rfl, ?_⟩⟩⟩, by simp [offP]⟩, trivial⟩
  · have hl : 0 < L.length := by simpa using h0
    have := (cell?_lt (hcell (L.length - 1) (by omega)).1).2
    simp only at this
    show 0 + 1 * L.length ≤ GW W g
    omega
  · obtain ⟨h1, h2⟩ := hcell j hj
    have hi0 : i = 0 := by omega
    subst hi0
    refine ⟨_, ?_, rfl, h2⟩
    show W.cell? ⟨g, 0 + 0 * L.length + j * 1, none⟩ = _
    rw [← h1]
    simp

theorem texts_laid {P : Program} {W : World} {name : String} {g : Nat} {t e : TypeId} {r : List (String × DataW Unit)} (L : List ByteArray) (hg : P.globalNamed name = some g) (ht : (P.globals[g]?).map (·.type) = some t)
    (hu : P.underlying t = some (.array L.length e)) (he : P.underlying e = some .string) (hc : P.cellsOf e = 1) (hct : P.cellsOf t = L.length)
    (h : laidMet P ((name, .agg (L.map fun s => .lit (.string s.data.toList))) :: r) W) :
    (R (g0 W) W (.elt 1 L.length (fun _ => .arr L.length 1 (fun i => .val (.string (at_ L i)))) 0 [])).v (.pointer (some ⟨g, 0, none⟩)) := by
  obtain ⟨ps, ⟨g', t', cs, fuel, p, q, hg', ht', hvar, hd, _, _⟩, _⟩ := h
  obtain rfl := Option.some.inj (hg.symm.trans hg')
  obtain rfl := Option.some.inj (ht.symm.trans ht')
  obtain ⟨xs, m, hm, hx, hlen, hxl, hf⟩ := DataW.trod_array hu hd
  have hcell : ∀ i, i < L.length → W.cell? ⟨g, i, none⟩ = some (.string (at_ L i)) ∧ (at_ L i).size ≤ 9223372036854775807 := fun i hi => by
    have h1 := hf i hi
    rw [hc, List.getElem?_eq_getElem (by omega : i < xs.length)] at h1
    obtain ⟨n, h2, h3, hw⟩ := DataW.trod_string he h1
    have hx1 : (DataW.agg (L.map fun s => .lit (.string s.data.toList)) : DataW Unit) = .agg (xs.map (·.1)) := congrArg Prod.fst hx
    injection hx1 with hx1
    have h4 : (L.map fun s => (.lit (.string s.data.toList) : DataW Unit))[i]? = (xs.map (·.1))[i]? := by rw [hx1]
    rw [List.getElem?_map, List.getElem?_map, List.getElem?_eq_getElem hi, List.getElem?_eq_getElem (by omega : i < xs.length)] at h4
    simp only [Option.map_some, Option.some.injEq] at h4
    rw [h3] at h4
    injection h4 with h4
    injection h4 with h4
    have hn : at_ L i = n := by
      rw [at_lt hi]
      exact ByteArray.ext (Array.toList_inj.mp h4)
    have hcs : cs.toList[i]? = some (.string n) := by
      have h5 : (((cs.toList.drop (i * 1)).take 1))[0]? = some (Value.string n) := by rw [h2]; rfl
      simpa using h5
    refine ⟨?_, ?_⟩
    · rw [hn, ← hcs]
      have := World.var?_cell hg hvar i
      rw [this]
      simp
    · rw [hn]
      exact Nat.le_trans hw (by decide)
  refine ⟨⟨trivial, by decide, ⟨g, 0, none⟩, ⟨fun _ => rfl, fun h0 => ?_, fun i hi => ⟨by simp [size], fun j hj => ⟨rfl, ?_⟩⟩⟩, by simp [offP]⟩, trivial⟩
  · have hl : 0 < L.length := by simpa using h0
    have := (cell?_lt (hcell (L.length - 1) (by omega)).1).2
    simp only at this
    show 0 + 1 * L.length ≤ GW W g
    omega
  · obtain ⟨h1, h2⟩ := hcell j hj
    have hi0 : i = 0 := by omega
    subst hi0
    refine ⟨_, ?_, rfl, h2⟩
    show W.cell? ⟨g, 0 + 0 * L.length + j * 1, none⟩ = _
    rw [← h1]
    simp

theorem laid_tail {P : Program} {x : String × DataW Unit} {r : List (String × DataW Unit)} {W : World} (h : laidMet P (x :: r) W) : laidMet P r W := by
  obtain ⟨n, d⟩ := x
  obtain ⟨ps, ⟨g, t, cs, fuel, p, q, _, _, _, _, hq, rfl⟩, hn, hc⟩ := h
  exact ⟨q, hq, (List.nodup_append.1 hn).2.1, fun b off hm => hc b off (List.mem_append_right _ hm)⟩

end Ar
