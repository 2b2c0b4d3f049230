/- The door of the two laws of letters: the variables of the program, the bound on what is read, and one start that fits. No condition. -/
import Derived.Test.YtankpibkakfnhaaDoorK16
import Derived.Test.YtankpibkakfnhaaDoorK08
import Derived.Test.YtankpibkakfnhaaDoorCards
import Derived.Test.YtankpibkakfnhaaDoorTie
import Derived.WalkKit
import Derived.ProofKit
import Derived.Handy
import Derived.SevenTiedAt
import Derived.Stop.LaidErr
import Derived.Deep.DeepHandedRow
set_option linter.all false
namespace Go.Proofs.YtankpibkakfnhaaDoor
open Go Ar
set_option linter.unusedVariables false
set_option autoImplicit false
set_option maxRecDepth 100000
set_option maxHeartbeats 4000000

/-- A variable of one cell. -/
theorem gl_cell {W : World} {g : Nat} {u : Value} {a : AV} (hc : W.cell? ⟨g, 0, none⟩ = some u) (hs : size a = 1) (h : (R (g0 W) W a).s (fun off => W.cell? ⟨g, off, none⟩) 0) :
    (R (g0 W) W (.elt 1 1 (fun _ => a) 0 [])).v (.pointer (some ⟨g, 0, none⟩)) := by
  refine ⟨⟨trivial, by decide, ⟨g, 0, none⟩, ⟨fun _ => rfl, fun _ => ?_, fun i hi => ⟨hs, ?_⟩⟩, by simp [offP]⟩, trivial⟩
  · have := (cell?_lt hc).2
    show 0 + 1 * 1 ≤ GW W g
    simp only at this
    omega
  · obtain rfl : i = 0 := by omega
    exact h

abbrev laidL : List (String × DataW Unit) := [("math/bits.deBruijn32tab", Rows.laid_math_bits_deBruijn32tab), ("math/bits.deBruijn64tab", Rows.laid_math_bits_deBruijn64tab), ("internal/strconv.uint64pow10", Rows.laid_internal_strconv_uint64pow10), ("arrears/calendar.ahead", Rows.laid_arrears_calendar_ahead), ("strconv.ErrRange", Rows.laid_strconv_ErrRange), ("strconv.ErrSyntax", Rows.laid_strconv_ErrSyntax)]

theorem star : "*" ++ "errors.errorString" = "*errors.errorString" := by decide
theorem row104 (u : TypeId) (h : Tryd.prog.typeName? 3 u = some "*errors.errorString") : u = 104 :=
  typeName_ptr_named (nm := "errors.errorString") (by rw [star]; kernel_rfl) (by kernel_rfl) (by decide) u (by rw [star]; exact h)
theorem cells106 : Tryd.prog.cellsOf 106 = 1 := by kernel_rfl
theorem cells9 : Tryd.prog.cellsOf 9 = 1 := by kernel_rfl

theorem err_gl {W : World} {n : String} {text : List UInt8} {r : List (String × DataW Unit)} {g : Nat} (h : laidMet Tryd.prog ((n, .iface "*errors.errorString" (.ptr (.agg [.lit (.string text)]))) :: r) W)
    (hg : Tryd.prog.globalNamed n = some g) (ht : (Tryd.prog.globals[g]?).map (·.type) = some 56) : (R (g0 W) W (.elt 1 1 (fun _ => .ifc 104 .any) 0 [])).v (.pointer (some ⟨g, 0, none⟩)) := by
  obtain ⟨a, s, hv, -, -, -⟩ := laid_sentinel h hg ht Tryd.underlying56 row104 Tryd.underlying104 Tryd.underlying106 rfl rfl Tryd.underlying9 cells106 cells9
  have hc : W.cell? ⟨g, 0, none⟩ = some (.iface 104 (.pointer (some a))) := by
    have := World.var?_cell hg hv 0
    rw [this]
    rfl
  exact gl_cell hc rfl ⟨_, hc, ⟨_, rfl, trivial⟩, trivial⟩

theorem mlen {W : World} (h : W.ShapedOpen Tryd.prog) : ∃ n : Int, (R (g0 W) W (.elt 1 1 (fun _ => I n) 0 [])).v (.pointer (some ⟨1, 0, none⟩)) := by
  obtain ⟨cs, h1, h2, h3⟩ := h.1 1 #[.int .i64 0] 3 (Nat.le_of_ble_eq_true (by kernel_rfl)) (by kernel_rfl)
  obtain ⟨ts, h4, -, h5⟩ := h3 (by kernel_rfl)
  have e : ts = [3] := Option.some.inj (h4.symm.trans (by kernel_rfl))
  subst e
  match cs, h2 with
  | ⟨[v]⟩, _ =>
    obtain ⟨u, h6, h7⟩ := h5 0 v rfl
    obtain rfl : u = 3 := by simpa using h6.symm
    unfold Cell.ok at h7
    rw [Tryd.underlying3] at h7
    have hc : W.cell? ⟨1, 0, none⟩ = some v := by
      unfold World.cell?
      simp [h1]
    cases v with
    | int k n =>
      obtain ⟨rfl, h8⟩ := h7
      exact ⟨n, gl_cell hc rfl ⟨_, hc, rfl, h8⟩⟩
    | _ => exact h7.elim

theorem glob {W : World} (h : laidMetH Tryd.prog laidL W) (hs : W.ShapedOpen Tryd.prog) : ∃ ml : GV, ∀ i, (R (g0 W) W (gl0 ml i)).v (.pointer (some ⟨i, 0, none⟩)) := by
  rw [MakeChecks.laidMetH_plain _ _ _ (by kernel_rfl)] at h
  have h2 := laid_tail (laid_tail h)
  have h0 := laid_tail h2
  have h4 := laid_tail h0
  have h3 := laid_tail h4
  obtain ⟨n, h1⟩ := mlen hs
  refine ⟨⟨n, 104, 104⟩, fun i => ?_⟩
  match i with
  | 0 => exact nums_laid (t := 71) (e := 3) (k := .i64) aheadL (by kernel_rfl) (by kernel_rfl) (by kernel_rfl) (by kernel_rfl) (by kernel_rfl) (by kernel_rfl) h0
  | 1 => exact h1
  | 2 => exact nums_laid (t := 88) (e := 52) (k := .u64) p10L (by kernel_rfl) (by kernel_rfl) (by kernel_rfl) (by kernel_rfl) (by kernel_rfl) (by kernel_rfl) h2
  | 3 => exact err_gl h3 (by kernel_rfl) (by kernel_rfl)
  | 4 => exact err_gl h4 (by kernel_rfl) (by kernel_rfl)
  | _ + 5 => trivial

/-- The contract of a law of a notice and a text of that bulk at most. -/
theorem contract2 {f : FuncId} {fn : Func} {s : ChangeSpec} (hlaid : laidOutB Tryd.prog = true) (hps : fn.params.toList = [23, 9]) (hres : fn.resultTypes = #[4]) (hv : s.vars = [])
    (hsf : ∀ {H : Type} (ds : List (DataW H)), ds.length = fn.params.toList.length → s.fn H ds = { results := [.lit (.bool true)], args := ds })
    (law : ∀ (ml : GV) (n : Ntc) (t : ByteArray), rgN n → t.size ≤ 1048576 → Pure Tryd.prog (gl0 ml) f [encNtc n, .val (.string t)] (.val (.bool true)))
    {H : Type} {enc : TypeId × Value → H} {W : World} {base : Nat} {args : Array Value} {ds gs : List (DataW H)} {before : List MemPlace}
    (hval : ∀ (j : Nat) t v, fn.params[j]? = some t → args[j]? = some v → Value.okWide Tryd.prog W .any base t v)
    (hW : DataW.Whole enc Tryd.prog fn.params.toList s.vars false W args.toList ds gs before) (hk : Rows.uptoSmall H (ds ++ gs) = true)
    (hwt : wOk (DataW.weightsEach Tryd.prog (fn.params.toList ++ s.plain.varTypes Tryd.prog) (ds ++ gs))) (hl : laidMetH Tryd.prog laidL W) (hs : W.ShapedOpen Tryd.prog) :
    Calls Tryd.prog f args W fun e W' => ∃ v, e = .returned v ∧ s.post enc Tryd.prog fn false true false false W args v W' := by
  obtain ⟨ml, hgl⟩ := glob hl hs
  have hstr : ∀ t : ByteArray, args[1]? = some (.string t) → t.size ≤ 1048576 := fun t ht => by
    obtain ⟨p, q, hA, hV, -, -, -⟩ := hW
    rw [hv] at hV
    obtain ⟨rfl, rfl⟩ := ChangeShapes.trodVars_none hV
    rw [hps] at hA
    obtain ⟨v0, v1, d0, d1, p0, p1, rfl, rfl, rfl, h0, h1⟩ := ChangeShapes.trodAll_two hA
    obtain ⟨s', e1, rfl, -, -⟩ := ChangeMaps.open_string Tryd.underlying9 (hval 1 9 v1 (by rw [← Array.getElem?_toList, hps]; rfl) rfl) h1
    subst e1
    obtain rfl : s' = t := by simpa using ht
    have h := of_decide_eq_true hk
    simp only [List.cons_append, List.nil_append, Rows.uptoBulkAll, Rows.uptoBulk] at h
    have e : s'.data.toList.length = s'.size := by rw [Array.length_toList]; rfl
    omega
  have hval' := hval
  have hlaw : ∀ av, OfL [tyNtc, .str] av → RL (g0 W) W av args.toList → ∃ args', LeL av args' ∧ Pure Tryd.prog (gl0 ml) f args' (.val (.bool true)) := fun av h hr => by
    obtain ⟨a, b, rfl, h1, h2⟩ := ofL2 h
    obtain ⟨n, l1, hn⟩ := of_Ntc h1
    obtain ⟨t, rfl, -⟩ := h2
    have hb : args[1]? = some (.string t) := by
      rw [← Array.getElem?_toList]
      match args.toList, hr with
      | [x, y], ⟨_, hy, _⟩ => exact congrArg some hy.1
    exact ⟨[encNtc n, .val (.string t)], ⟨l1.le, Le.refl _, trivial⟩, law ml n t ⟨okI_i64.1 hn.1, okI_i64.1 hn.2.1, okI_i64.1 hn.2.2.2.2.1⟩ (hstr t hb)⟩
  have hW' := hW
  obtain ⟨p, q, hA, hV, rfl, hfz, hnd⟩ := hW
  rw [hv] at hV
  obtain ⟨rfl, rfl⟩ := ChangeShapes.trodVars_none hV
  have hva : ∀ (j : Nat) t v, fn.params.toList[j]? = some t → args.toList[j]? = some v → Value.okWide Tryd.prog W .any base t v := fun j t v h1 h2 => hval j t v (by rw [← h1]; simp) (by rw [← h2]; simp)
  have hvt : s.plain.varTypes Tryd.prog = [] := by
    simp [DataSpec.varTypes, ChangeSpec.plain, hv]
  rw [hvt, List.append_nil, List.append_nil] at hwt
  obtain ⟨hlen, av, has, hr⟩ := open_args (tys := [tyNtc, .str]) (by rw [hps]; kernel_rfl) hA hva hwt
  obtain ⟨args', hle, hp⟩ := hlaw av has hr
  obtain ⟨_, _, _, hp⟩ := hp
  have := hp (GW W) W args.toList (fun b hb => by unfold GW; rw [Array.getElem?_eq_none hb]) hgl (RL.le hle hr)
  refine this.mono fun x W' ⟨u, G', hx, hstp, _, hu⟩ => ?_
  have hu := val_v hu
  subst hu
  have hts : ∀ t ∈ fn.params.toList, Tryd.prog.readableRec t = true ∧ t < Tryd.prog.types.size := by
    rw [hps]
    intro t ht
    rcases List.mem_cons.1 ht with rfl | ht
    · exact ⟨by kernel_rfl, Nat.le_of_ble_eq_true (by kernel_rfl)⟩
    · rcases List.mem_cons.1 ht with rfl | ht
      · exact ⟨by kernel_rfl, Nat.le_of_ble_eq_true (by kernel_rfl)⟩
      · cases ht
  have hlt := hW'.lt
  have hsame : ∀ k, k < W.heap.size → W'.heap[k]? = W.heap[k]? := fun k hk => (hstp.keep k hk (fun ⟨_, _, h, _⟩ => by cases h)).1
  simp only [List.append_nil] at hW' hlt
  have hsf' : s.fn H (ds ++ []) = { results := [.lit (.bool true)], args := ds } := by rw [List.append_nil]; exact hsf ds hlen
  refine ⟨_, hx, post_stays (pa := p) (pv := []) hW' (fun b sp hd => ?_) (fun sp hsp => ?_) (fun sp _ => ?_) (List.append_nil p).symm (kept_of_same hstp.os hstp.out hsame _) hsame ?_⟩
  · rw [hsf', hres]
    exact ChangeShapes.trodAll_mk1 (RowKit.shut_bool Tryd.underlying4 true)
  · rw [hsf']
    exact trodAll_stays hlaid hsame hts hA hlt hsp
  · rw [hsf', hv]
    rfl
  · exact RowKit.ok_one hres rfl (RowKit.okWide_bool_mk Tryd.underlying4 true)

/-! ### One start that fits -/
abbrev wit : Array Value := #[.agg #[.int .i64 0, .int .i64 0, .int .i64 0, .int .i64 0, .int .i64 0, .bool false], .string .empty]
theorem fits (os : Os) : laidMet Tryd.prog laidL ((World.laidAll Tryd.prog os laidL).forCall (fun _ _ => 0) ⟨#[], wit, []⟩).memory :=
  laidMet_laidAll _ (by kernel_rfl) (by kernel_rfl)
theorem start {H : Type} {enc : TypeId × Value → H} {os : Os} {f : FuncId} {fn : Func} {s : OpenSpec} {conds : List PathCond} {apart : Bool} {laid : List (String × DataW Unit)} (w0 : World) (args : Array Value) (hos : w0.os = os)
    (hsh : (w0.forCall (fun _ _ => 0) ⟨#[], args, []⟩).Shaped Tryd.prog) (hok : Input.okWideB Tryd.prog (w0.forCall (fun _ _ => 0) ⟨#[], args, []⟩) f ⟨#[], args, []⟩ = true)
    (hrow : s.preRow enc Tryd.prog fn conds apart laid (w0.forCall (fun _ _ => 0) ⟨#[], args, []⟩).memory args) :
    ∃ (w : World) (tape : Tape) (i : Input), w.os = os ∧ (w.forCall tape i).Shaped Tryd.prog ∧ i.vars = [] ∧ Input.okWide Tryd.prog (w.forCall tape i) .any w.heap.size f i ∧
      s.preRow enc Tryd.prog fn conds apart laid (w.forCall tape i).memory i.args ∧ ({} : Assume).holds Tryd.prog (lone (Frame.enter Tryd.prog f i.args .normal) [] (w.forCall tape i)) :=
  ⟨w0, fun _ _ => 0, ⟨#[], args, []⟩, hos, hsh, (Input.okWide_of_okWideB (base := 0) hok).1, (Input.okWide_of_okWideB hok).2, hrow, by
    simp only [Assume.holds]
    exact ⟨by simp, by simp, fun _ => Modest.zero, by simp, by simp⟩⟩

end Go.Proofs.YtankpibkakfnhaaDoor
