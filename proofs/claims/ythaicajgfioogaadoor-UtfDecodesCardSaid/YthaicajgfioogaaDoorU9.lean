/- For all rows of this seat: the tables, the witness world. -/
import Derived.Test.YthaicajgfioogaaDoorVu
import Derived.Test.YthaicajgfioogaaDoorCards
import Derived.Test.YthaicajgfioogaaDoorTie
import Derived.ProofKit
import Derived.OpenShut
set_option linter.unusedSimpArgs false
set_option linter.unusedVariables false
namespace Go.Proofs.YthaicajgfioogaaDoor
open Go V Go.ChangeShapes Go.WideShapes Go.ChangeAt Go.RowKit
theorem own : ownKnob Tryd.prog.godebug = none := by kernel_rfl
theorem kids : Kids Tryd.prog (· < Tryd.prog.types.size) := kids_rows (by kernel_rfl) (by kernel_rfl)
theorem slices_ok : ((List.range Tryd.prog.types.size).all fun t => match Tryd.prog.underlying t with | some (.slice e) => decide (0 < Tryd.prog.cellsOf e) | _ => true) = true := by kernel_rfl
theorem hsz {t e : TypeId} (ht : t < Tryd.prog.types.size) (h : Tryd.prog.underlying t = some (.slice e)) : 0 < Tryd.prog.cellsOf e := by
  have := List.all_eq_true.1 slices_ok t (List.mem_range.2 ht)
  rw [h] at this
  simpa using this
theorem g_first : Tryd.prog.globalNamed "unicode/utf8.first" = some 0 := by kernel_rfl
theorem g_accept : Tryd.prog.globalNamed "unicode/utf8.acceptRanges" = some 1 := by kernel_rfl
theorem y_first : (Tryd.prog.globals[0]?).map (·.type) = some 51 := by kernel_rfl
theorem y_accept : (Tryd.prog.globals[1]?).map (·.type) = some 54 := by kernel_rfl
theorem c5 : Tryd.prog.cellsOf 5 = 1 := by kernel_rfl
theorem c21 : Tryd.prog.cellsOf 21 = 1 := by kernel_rfl
theorem c51 : Tryd.prog.cellsOf 51 = 256 := by kernel_rfl
theorem c53 : Tryd.prog.cellsOf 53 = 2 := by kernel_rfl
theorem first_data : Rows.laid_unicode_utf8_first = Lib.tabData .u8 ((List.range 256).map fun c => (Lib.firstT c : Int)) := by kernel_rfl
theorem accept_data : (Rows.laid_unicode_utf8_acceptRanges : DataW Unit) = Lib.acceptData := by kernel_rfl
/-- What the row's list gives: the tables' cells. -/
theorem tabs {W : World} (h : laidMet Tryd.prog [("unicode/utf8.acceptRanges", Rows.laid_unicode_utf8_acceptRanges), ("unicode/utf8.first", Rows.laid_unicode_utf8_first)] W) : ∀ g j v, (gtab g)[j]? = some v → W.cell? ⟨g, j, none⟩ = some v := by
  intro g j v e
  match g, e with
  | 0, e =>
    obtain ⟨g, t, cs, fuel, p, hg, hty, hvar, hd⟩ := Lib.laidMet.reads h (n := "unicode/utf8.first") (d := Rows.laid_unicode_utf8_first) (by simp)
    obtain rfl := Option.some.inj (g_first.symm.trans hg)
    obtain rfl := Option.some.inj (y_first.symm.trans hty)
    rw [first_data] at hd
    have hcs := Lib.cells_of_tab Tryd.underlying51 Tryd.underlying5 c5 c51 hd
    rw [World.var?_cell hg hvar j, ← Array.getElem?_toList, hcs, List.map_map]
    exact e
  | 1, e =>
    obtain ⟨g, t, cs, fuel, p, hg, hty, hvar, hd⟩ := Lib.laidMet.reads h (n := "unicode/utf8.acceptRanges") (d := Rows.laid_unicode_utf8_acceptRanges) (by simp)
    obtain rfl := Option.some.inj (g_accept.symm.trans hg)
    obtain rfl := Option.some.inj (y_accept.symm.trans hty)
    rw [accept_data] at hd
    rw [World.var?_cell hg hvar j, ← Array.getElem?_toList]
    have hj : j < 32 := (show tabAccept.length = 32 from rfl) ▸ (lt_of_get e : j < tabAccept.length)
    obtain ⟨fuel', d, q, hdi, he⟩ := Lib.array_elem Tryd.underlying54 hd (j / 2) (by omega)
    simp only [List.getElem?_map, List.getElem?_range (show j / 2 < 16 by omega), Option.map_some, Option.some.injEq] at hdi
    subst hdi
    rw [c53] at he
    have hcs := Lib.ints_of_struct Tryd.underlying53 (fun j f hj => by
      match j, hj with
      | 0, hj => simp at hj; subst hj; exact ⟨Tryd.underlying5, rfl, c5⟩
      | 1, hj => simp at hj; subst hj; exact ⟨Tryd.underlying5, rfl, c5⟩
      | j + 2, hj => simp at hj) (by rw [c53]; rfl) he
    have e0 := congrArg (·[j % 2]?) hcs
    simp only [List.getElem?_take, List.getElem?_drop, show j % 2 < 2 by omega, if_true, show j / 2 * 2 + j % 2 = j by omega] at e0
    rw [e0, ← e]
    have key : ∀ k, k < 32 → (List.map (fun z => Value.int .u8 z) [((Lib.accLo (k / 2) : Nat) : Int), ((Lib.accHi (k / 2) : Nat) : Int)])[k % 2]? = tabAccept[k]? := by
      intro k hk
      match k, hk with
      | 0, _ | 1, _ | 2, _ | 3, _ | 4, _ | 5, _ | 6, _ | 7, _ | 8, _ | 9, _ | 10, _ | 11, _ | 12, _ | 13, _ | 14, _ | 15, _ | 16, _ | 17, _ | 18, _ | 19, _ | 20, _ | 21, _ | 22, _ | 23, _ | 24, _ | 25, _ | 26, _ | 27, _ | 28, _ | 29, _ | 30, _ | 31, _ => rfl
      | _ + 32, h => omega
    exact key j hj
  | g + 2, e => simp [gtab] at e
/-- A world for the witness. -/
noncomputable def fillRow (cs : List Value) : Obj → Obj
  | .cells _ t frozen => .cells cs.toArray t frozen
  | o => o
noncomputable def laidWorld (os : Os) : World :=
  { World.holding Tryd.prog os ⟨#[], #[], []⟩ with heap := ((World.holding Tryd.prog os ⟨#[], #[], []⟩).heap.modify 0 (fillRow tabFirst)).modify 1 (fillRow tabAccept) }
end Go.Proofs.YthaicajgfioogaaDoor
