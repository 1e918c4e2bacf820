/- For all rows of this list: the listed variables, the witness world: written by gen_laid.py. -/
import Derived.Test.YtdahdbnfknmmgaaGreatDoorW3
import Derived.Test.YtdahdbnfknmmgaaGreatDoorW4
import Derived.Test.YtdahdbnfknmmgaaGreatDoorCards
import Derived.Test.YtdahdbnfknmmgaaGreatDoorTie
import Derived.ProofKit
import Derived.OpenShut
section
set_option linter.unusedSimpArgs false
set_option linter.unusedVariables false
namespace Go.Proofs.YtdahdbnfknmmgaaGreatDoor
open Go V Go.ChangeShapes Go.WideShapes Go.ChangeAt Go.RowKit
set_option maxRecDepth 20000
theorem own : ownKnob Tryz.prog.godebug = none := by kernel_rfl
theorem kids : Kids Tryz.prog (· < Tryz.prog.types.size) := kids_rows (by kernel_rfl) (by kernel_rfl)
theorem slices_ok : ((List.range Tryz.prog.types.size).all fun t => match Tryz.prog.underlying t with | some (.slice e) => decide (0 < Tryz.prog.cellsOf e) | _ => true) = true := by kernel_rfl
theorem hsz {t e : TypeId} (ht : t < Tryz.prog.types.size) (h : Tryz.prog.underlying t = some (.slice e)) : 0 < Tryz.prog.cellsOf e := by
  have := List.all_eq_true.1 slices_ok t (List.mem_range.2 ht)
  rw [h] at this
  simpa using this
theorem c_u8 : Tryz.prog.cellsOf 5 = 1 := by kernel_rfl
theorem c_u64 : Tryz.prog.cellsOf 113 = 1 := by kernel_rfl
theorem g_pow : Tryz.prog.globalNamed "internal/strconv.uint64pow10" = some 9 := by kernel_rfl
theorem y_pow : (Tryz.prog.globals[9]?).map (·.type) = some 200 := by kernel_rfl
theorem c_pow : Tryz.prog.cellsOf 200 = 20 := by kernel_rfl
theorem pow_data : (Rows.laid_internal_strconv_uint64pow10 : DataW Unit) = Lib.tabData .u64 ((List.range 20).map fun i => ((10 ^ i : Nat) : Int)) := by kernel_rfl
theorem g_accept : Tryz.prog.globalNamed "unicode/utf8.acceptRanges" = some 1 := by kernel_rfl
theorem y_accept : (Tryz.prog.globals[1]?).map (·.type) = some 103 := by kernel_rfl
theorem c_ar : Tryz.prog.cellsOf 102 = 2 := by kernel_rfl
theorem accept_data : (Rows.laid_unicode_utf8_acceptRanges : DataW Unit) = Lib.acceptData := by kernel_rfl
theorem g_rng : Tryz.prog.globalNamed "strconv.ErrRange" = some 8 := by kernel_rfl
theorem y_rng : (Tryz.prog.globals[8]?).map (·.type) = some 76 := by kernel_rfl
theorem g_syn : Tryz.prog.globalNamed "strconv.ErrSyntax" = some 7 := by kernel_rfl
theorem y_syn : (Tryz.prog.globals[7]?).map (·.type) = some 76 := by kernel_rfl
theorem g_first : Tryz.prog.globalNamed "unicode/utf8.first" = some 0 := by kernel_rfl
theorem y_first : (Tryz.prog.globals[0]?).map (·.type) = some 100 := by kernel_rfl
theorem c_first : Tryz.prog.cellsOf 100 = 256 := by kernel_rfl
theorem first_data : (Rows.laid_unicode_utf8_first : DataW Unit) = Lib.tabData .u8 ((List.range 256).map fun c => (Lib.firstT c : Int)) := by kernel_rfl
theorem u_err : ∃ m, Tryz.prog.underlying 76 = some (.interface m) := ⟨_, Tryz.underlying76⟩
theorem trod_ifc {H : Type} {enc : TypeId × Value → H} {P : Program} {w : World} {base fuel : Nat} {sp : Nat → Bool} {t : TypeId} {m : Array (String × TypeId)} {cs : List Value} {n : String} {d : DataW H} {p : List MemPlace} (ht : P.underlying t = some (.interface m))
    (h : DataW.trod enc P w base sp false fuel t cs = some (.iface n d, p)) : ∃ u v, cs = [.iface u v] := by
  cases fuel with
  | zero => simp [DataW.trod] at h
  | succ fuel =>
    rcases cs with _ | ⟨c, _ | ⟨c', r⟩⟩
    · simp [DataW.trod, ht] at h
    · cases c <;> simp only [DataW.trod, ht] at h <;> try (simp at h; done)
      exact ⟨_, _, rfl⟩
    · simp [DataW.trod, ht] at h
theorem err_cell {W : World} {n : String} {gi : Nat} {s : List UInt8} (h : Lib.VarReads Tryz.prog W n (.iface "*errors.errorString" (.ptr (.agg [.lit (.string s)])))) (hg0 : Tryz.prog.globalNamed n = some gi) (hy0 : (Tryz.prog.globals[gi]?).map (·.type) = some 76) :
    ∃ t v, W.cell? ⟨gi, 0, none⟩ = some (.iface t v) := by
  obtain ⟨g, t, cs, fuel, p, hg, hty, hvar, hd⟩ := h
  obtain rfl := Option.some.inj (hg0.symm.trans hg)
  obtain rfl := Option.some.inj (hy0.symm.trans hty)
  obtain ⟨m, hm⟩ := u_err
  obtain ⟨u, v, hcs⟩ := trod_ifc hm hd
  refine ⟨u, v, ?_⟩
  rw [World.var?_cell hg hvar 0, ← Array.getElem?_toList, hcs]
  rfl
noncomputable def laidL : List (String × DataW Unit) := [("math/bits.deBruijn32tab", Rows.laid_math_bits_deBruijn32tab), ("math/bits.deBruijn64tab", Rows.laid_math_bits_deBruijn64tab), ("internal/strconv.uint64pow10", Rows.laid_internal_strconv_uint64pow10), ("unicode/utf8.acceptRanges", Rows.laid_unicode_utf8_acceptRanges), ("strconv.ErrRange", Rows.laid_strconv_ErrRange), ("strconv.ErrSyntax", Rows.laid_strconv_ErrSyntax), ("unicode/utf8.first", Rows.laid_unicode_utf8_first)]
/-- What the row's list gives: the tables' cells. -/
theorem tabs {W : World} (h : laidMet Tryz.prog laidL W) : TabsW W := by
  unfold laidL at h
  refine ⟨fun g j v e => ?_, fun g t e => ?_⟩
  · unfold gtab at e
    split at e
    · obtain ⟨g, t, cs, fuel, p, hg, hty, hvar, hd⟩ := Lib.laidMet.reads h (n := "unicode/utf8.first") (d := Rows.laid_unicode_utf8_first) (by simp)
      obtain rfl := Option.some.inj (g_first.symm.trans hg)
      obtain rfl := Option.some.inj (y_first.symm.trans hty)
      rw [first_data] at hd
      have hcs := Lib.cells_of_tab Tryz.underlying100 Tryz.underlying5 c_u8 c_first hd
      rw [World.var?_cell hg hvar j, ← Array.getElem?_toList, hcs, List.map_map]
      exact e
    · obtain ⟨g, t, cs, fuel, p, hg, hty, hvar, hd⟩ := Lib.laidMet.reads h (n := "unicode/utf8.acceptRanges") (d := Rows.laid_unicode_utf8_acceptRanges) (by simp)
      obtain rfl := Option.some.inj (g_accept.symm.trans hg)
      obtain rfl := Option.some.inj (y_accept.symm.trans hty)
      rw [accept_data] at hd
      rw [World.var?_cell hg hvar j, ← Array.getElem?_toList]
      have hj : j < 32 := (show tabAccept.length = 32 from rfl) ▸ (lt_of_get e : j < tabAccept.length)
      obtain ⟨fuel', d, q, hdi, he⟩ := Lib.array_elem Tryz.underlying103 hd (j / 2) (by omega)
      simp only [List.getElem?_map, List.getElem?_range (show j / 2 < 16 by omega), Option.map_some, Option.some.injEq] at hdi
      subst hdi
      rw [c_ar] at he
      have hcs := Lib.ints_of_struct Tryz.underlying102 (fun j f hj => by
        match j, hj with
        | 0, hj => simp at hj; subst hj; exact ⟨Tryz.underlying5, rfl, c_u8⟩
        | 1, hj => simp at hj; subst hj; exact ⟨Tryz.underlying5, rfl, c_u8⟩
        | j + 2, hj => simp at hj) (by rw [c_ar]; rfl) he
      have e0 := congrArg (·[j % 2]?) hcs
      simp only [List.getElem?_take, List.getElem?_drop, show j % 2 < 2 by omega, if_true, show j / 2 * 2 + j % 2 = j by omega] at e0
      rw [e0, ← e]
      have key : ∀ k, k < 32 → (List.map (fun z => Value.int .u8 z) [((Lib.accLo (k / 2) : Nat) : Int), ((Lib.accHi (k / 2) : Nat) : Int)])[k % 2]? = tabAccept[k]? := by
        intro k hk
        match k, hk with
        | 0, _ | 1, _ | 2, _ | 3, _ | 4, _ | 5, _ | 6, _ | 7, _ | 8, _ | 9, _ | 10, _ | 11, _ | 12, _ | 13, _ | 14, _ | 15, _ | 16, _ | 17, _ | 18, _ | 19, _ | 20, _ | 21, _ | 22, _ | 23, _ | 24, _ | 25, _ | 26, _ | 27, _ | 28, _ | 29, _ | 30, _ | 31, _ => rfl
        | _ + 32, h => omega
      exact key j hj
    · obtain ⟨g, t, cs, fuel, p, hg, hty, hvar, hd⟩ := Lib.laidMet.reads h (n := "internal/strconv.uint64pow10") (d := Rows.laid_internal_strconv_uint64pow10) (by simp)
      obtain rfl := Option.some.inj (g_pow.symm.trans hg)
      obtain rfl := Option.some.inj (y_pow.symm.trans hty)
      rw [pow_data] at hd
      have hcs := Lib.cells_of_tab Tryz.underlying200 Tryz.underlying113 c_u64 c_pow hd
      rw [World.var?_cell hg hvar j, ← Array.getElem?_toList, hcs, List.map_map]
      exact e
    · simp at e
  · unfold gifc at e
    split at e
    · cases e
      exact err_cell (Lib.laidMet.reads h (n := "strconv.ErrSyntax") (d := Rows.laid_strconv_ErrSyntax) (by simp)) g_syn y_syn
    · cases e
      exact err_cell (Lib.laidMet.reads h (n := "strconv.ErrRange") (d := Rows.laid_strconv_ErrRange) (by simp)) g_rng y_rng
    · cases e
/-- A world for the witness. -/
noncomputable def fillRow (cs : List Value) : Obj → Obj
  | .cells _ t frozen => .cells cs.toArray t frozen
  | o => o
def litCells : DataW Unit → List Value
  | .agg l => l.filterMap fun | .lit (.int k n) => some (.int k n) | _ => none
  | _ => []
noncomputable def baseHeap (os : Os) : Array Obj := (World.holding Tryz.prog os ⟨#[], #[], []⟩).heap
noncomputable def laidWorld (os : Os) : World :=
  { World.holding Tryz.prog os ⟨#[], #[], []⟩ with heap := (((((((((baseHeap os).modify 10 (fillRow (litCells Rows.laid_math_bits_deBruijn32tab))).modify 11 (fillRow (litCells Rows.laid_math_bits_deBruijn64tab))).modify 9 (fillRow tabPow10)).modify 1 (fillRow tabAccept)).modify 8 (fillRow [.iface 208 (.pointer (some ⟨(baseHeap os).size + 0, 0, none⟩))])).modify 7 (fillRow [.iface 208 (.pointer (some ⟨(baseHeap os).size + 1, 0, none⟩))])).modify 0 (fillRow tabFirst)).push (.cells #[.string ⟨#[118, 97, 108, 117, 101, 32, 111, 117, 116, 32, 111, 102, 32, 114, 97, 110, 103, 101]⟩] 210 (0, 0))).push (.cells #[.string ⟨#[105, 110, 118, 97, 108, 105, 100, 32, 115, 121, 110, 116, 97, 120]⟩] 210 (0, 0)) }
end Go.Proofs.YtdahdbnfknmmgaaGreatDoor
end

section
set_option linter.unusedSimpArgs false
set_option linter.unusedVariables false
namespace Go.Proofs.YtdahdbnfknmmgaaGreatDoor
open Go V Go.ChangeShapes Go.WideShapes Go.ChangeAt Go.RowKit
theorem agg_of {P : Program} {W : World} {base : Nat} {t : TypeId} {fs : Array Field} {v : Value} (hd : P.underlying t = some (.struct fs)) (k : Value.okWide P W .any base t v) : ∃ cs, v = .agg cs := by
  unfold Value.okWide at k
  rw [hd] at k
  obtain ⟨cs, h, _⟩ := k
  exact ⟨cs, h⟩
theorem rel_of_j {W : World} {v : JV} {cs : Array Value} (h : RelC W (jAV v) (Value.agg cs).cells.toList) : Rel (G₀ W) [] W (jAV v) (.agg cs) := by
  rw [jAV_eq] at *
  exact rel_of_agg h
theorem relC_get {W : World} {x : AV} {c : Value} (hx : x.flat = [x]) (h : RelC W x [c]) : Rel (G₀ W) [] W x c := h.2.2 0 x c (by rw [hx]; rfl) rfl
theorem c_int : Tryz.prog.cellsOf 3 = 1 := by kernel_rfl
theorem c_str : Tryz.prog.cellsOf 9 = 1 := by kernel_rfl
theorem c_strs : Tryz.prog.cellsOf 26 = 1 := by kernel_rfl
theorem c_jvs : Tryz.prog.cellsOf 27 = 1 := by kernel_rfl
theorem c_jv : Tryz.prog.cellsOf 29 = 5 := by kernel_rfl
section
variable {H : Type} {enc : TypeId × Value → H} {W : World}
theorem five {α : Type} {l : List α} (h : l.length = 5) : ∃ a b c d e, l = [a, b, c, d, e] := by
  match l, h with
  | [a, b, c, d, e], _ => exact ⟨a, b, c, d, e, rfl⟩
theorem opens_jv : ∀ n, Opens enc Tryz.prog W n 29 jAV (fun _ => True)
  | 0 => Opens.zero
  | n + 1 => fun m cs x hm hx => by
    obtain ⟨xs, n', rfl, rfl, hl, hxl, hf⟩ := DataW.trod_struct Tryz.underlying29 hx
    rw [c_jv] at hl
    have h0 : DataW.trod enc Tryz.prog W 0 (fun _ => true) true n' 3 ((cs.drop 0).take (Tryz.prog.cellsOf 3)) = xs[0]? := hf 0 _ rfl
    have h1 : DataW.trod enc Tryz.prog W 0 (fun _ => true) true n' 3 ((cs.drop 1).take (Tryz.prog.cellsOf 3)) = xs[1]? := hf 1 _ rfl
    have h2 : DataW.trod enc Tryz.prog W 0 (fun _ => true) true n' 9 ((cs.drop 2).take (Tryz.prog.cellsOf 9)) = xs[2]? := hf 2 _ rfl
    have h3 : DataW.trod enc Tryz.prog W 0 (fun _ => true) true n' 26 ((cs.drop 3).take (Tryz.prog.cellsOf 26)) = xs[3]? := hf 3 _ rfl
    have h4 : DataW.trod enc Tryz.prog W 0 (fun _ => true) true n' 27 ((cs.drop 4).take (Tryz.prog.cellsOf 27)) = xs[4]? := hf 4 _ rfl
    rw [c_int] at h0 h1
    rw [c_str] at h2
    rw [c_strs] at h3
    rw [c_jvs] at h4
    obtain ⟨k0, k1, k2, k3, k4, rfl⟩ := five hl
    obtain ⟨x0, x1, x2, x3, x4, rfl⟩ := five (hxl.trans (by rfl))
    obtain ⟨a, _, r0⟩ := opens_int (enc := enc) (w := W) (n' + 1) Tryz.underlying3 n' _ _ (Nat.le_succ _) h0
    obtain ⟨b, _, r1⟩ := opens_int (enc := enc) (w := W) (n' + 1) Tryz.underlying3 n' _ _ (Nat.le_succ _) h1
    obtain ⟨c, _, r2⟩ := opens_string (enc := enc) (w := W) (n' + 1) Tryz.underlying9 n' _ _ (Nat.le_succ _) h2
    obtain ⟨d, _, r3⟩ := opens_slice Tryz.underlying26 c_str (by decide) (opens_string (enc := enc) (w := W) n' Tryz.underlying9) n' _ _ (Nat.le_succ _) h3
    obtain ⟨f, _, r4⟩ := opens_slice Tryz.underlying27 c_jv (by decide) (opens_jv n) n' _ _ (by omega) h4
    refine ⟨.mk a b c d f, trivial, okv_j, by rw [flat_j]; rfl, fun j y u ey eu => ?_⟩
    rw [flat_j] at ey
    match j, ey, eu with
    | 0, ey, eu => cases ey; cases eu; exact relC_get rfl r0
    | 1, ey, eu => cases ey; cases eu; exact relC_get rfl r1
    | 2, ey, eu => cases ey; cases eu; exact relC_get rfl r2
    | 3, ey, eu => cases ey; cases eu; exact relC_get rfl r3
    | 4, ey, eu => cases ey; cases eu; exact relC_get rfl r4
end
theorem laid_plain {W : World} : laidMetH Tryz.prog laidL W = laidMet Tryz.prog laidL W := MakeChecks.laidMetH_plain _ _ _ (by kernel_rfl)
theorem tabsH {W : World} (h : laidMetH Tryz.prog laidL W) : TabsW W := tabs (laid_plain ▸ h)
end Go.Proofs.YtdahdbnfknmmgaaGreatDoor
end

section
set_option linter.unusedSimpArgs false
set_option linter.unusedVariables false
namespace Go.Proofs.YtdahdbnfknmmgaaGreatDoor
open Go Go.ChangeShapes Go.WideShapes Go.ChangeAt Go.RowKit
theorem pf_laidOut : laidOutB Tryz.prog = true := by kernel_rfl
theorem pf_maps : mapsRowed Tryz.prog = true := by kernel_rfl
theorem pf_stops : (Tryz.prog.stops == []) = true := by kernel_rfl
theorem pf_knobs : (Tryz.prog.stopKnobs == []) = true := by kernel_rfl
theorem pf_keys : (true == Tryz.prog.plainKeys) = true := by kernel_rfl
theorem pf_heard : Tryz.prog.stopsHeard = true := by kernel_rfl
theorem pf_enter : Tryz.prog.mayEnter = true := by kernel_rfl
theorem pf_lifts : (false == Tryz.prog.liftsFinal) = true := by kernel_rfl
theorem joined_of {P : Program} {f : FuncId} {fn : Func} {s : ChangeSpec} {c : OpenClaim} (h1 : c.wf (OpenSpec.ofChange s) = true) (h2 : laidOutB P = true) (h3 : mapsRowed P = true) (h4 : fn.params.all (P.readableRec ·) = true) (h5 : namedTie P c.named s.vars = true)
    (h6 : (c.stops == []) = true) (h7 : (P.stops == []) = true) (h8 : (c.knobs == []) = true) (h9 : (P.stopKnobs == []) = true) (h10 : (c.inPlace == P.inPlace f) = true) (h11 : (c.unfollowed == P.unfollowed f) = true) (h12 : (c.recurses == P.recurses f) = true) (h13 : (c.named == P.varsNamed f) = true)
    (h14 : ((c.maps == (fn.params.toList ++ s.plain.varTypes P).any (P.mapsRec ·)) && (c.ifaces == (fn.params.toList ++ s.plain.varTypes P).any (P.ifacesRec ·)) && (c.mapsOut == P.mapsAmong fn.resultTypes.toList)) = true)
    (h15 : ((c.loops == (fn.params.toList ++ s.plain.varTypes P).any (P.loopsFrom ·)) && (c.wideKeys == (fn.params.toList ++ s.plain.varTypes P ++ fn.resultTypes.toList).any (P.wideKeysFrom ·))) = true)
    (h16 : (s.vars.all (P.varReadable ·) && fn.resultTypes.all (fun t => P.readableRec t && decide (t < P.types.size)) && (c.ifacesOut == fn.resultTypes.toList.any (P.ifacesRec ·)) && (c.loopsOut == fn.resultTypes.toList.any (P.loopsFrom ·))) = true)
    (h17 : (c.plainKeys == P.plainKeys) = true) (h18 : c.shortTexts.isNone = true) (h19 : P.stopsHeard = true) (h20 : P.mayEnter = true) (h21 : (c.lifted == P.liftsFinal) = true) (h22 : (P.make == some c.make) = true)
    (h23 : (c.kinds == (if c.domain.isEmpty then [] else fn.params.toList.map fun t => match P.underlying t with | some (.int k) => some k | _ => none)) = true) (h24 : (c.pinned == c.pinnedBy) = true)
    (h25 : (c.veiled == (fn.params.toList ++ s.plain.varTypes P ++ fn.resultTypes.toList).any (P.veiledRec ·)) = true) (h26 : c.veiledFits P fn.params.toList (fn.params.toList ++ s.plain.varTypes P ++ fn.resultTypes.toList) = true) : joinedFacts P f fn s c = true := by
  simp only [Bool.and_eq_true] at h14 h15 h16
  obtain ⟨⟨a1, a2⟩, a3⟩ := h14
  obtain ⟨b1, b2⟩ := h15
  obtain ⟨⟨⟨c1, c2⟩, c3⟩, c4⟩ := h16
  simp only [joinedFacts, Bool.and_eq_true]
  exact ⟨⟨⟨⟨⟨⟨⟨⟨⟨⟨⟨⟨⟨⟨⟨⟨⟨⟨⟨⟨⟨⟨⟨⟨⟨⟨⟨⟨⟨⟨⟨h1, h2⟩, h3⟩, h4⟩, h5⟩, h6⟩, h7⟩, h8⟩, h9⟩, h10⟩, h11⟩, h12⟩, h13⟩, a1⟩, a2⟩, a3⟩, b1⟩, b2⟩, c1⟩, c2⟩, c3⟩, c4⟩, h17⟩, h18⟩, h19⟩, h20⟩, h21⟩, h22⟩, h23⟩, h24⟩, h25⟩, h26⟩
end Go.Proofs.YtdahdbnfknmmgaaGreatDoor
end
