/- Names with trees, as abstract values. -/
import Derived.Test.YtplmbhjhihoneaaGreatDoorW5
import Derived.Test.YtplmbhjhihoneaaGreatDoorW8
section
set_option linter.unusedSimpArgs false
set_option linter.unusedVariables false
namespace Go.Proofs.YtplmbhjhihoneaaGreatDoor
open Go V
def pairAV (p : List UInt8 × JV) : AV := .agg (.str p.1 :: (jAV p.2).flat)
theorem flat_p {p : List UInt8 × JV} : (pairAV p).flat = [.str p.1, .lit (.int .i64 p.2.kind), .lit (.int .i64 p.2.num), .str p.2.text, .sl .sh 1 (p.2.names.map .str), .sl .sh 5 (p.2.items.map jAV)] := by unfold pairAV; rw [flat_j]; rfl
theorem fold_p {p : List UInt8 × JV} : AV.agg [.str p.1, .lit (.int .i64 p.2.kind), .lit (.int .i64 p.2.num), .str p.2.text, .sl .sh 1 (p.2.names.map .str), .sl .sh 5 (p.2.items.map jAV)] = pairAV p := by unfold pairAV; rw [flat_j]
theorem drop_1 {a : AV} {l : List AV} : (a :: l).drop 1 = l := rfl
theorem okv_p {p : List UInt8 × JV} : (pairAV p).okv = true := by unfold pairAV; rw [flat_j]; rfl
theorem getD_p {l : List (List UInt8 × JV)} {i : Nat} (h : i < l.length) : (l.map pairAV).getD i .any = pairAV (l.getD i ([], zeroJ)) := by
  rw [List.getD, List.getElem?_map, List.getElem?_eq_getElem h, List.getD, List.getElem?_eq_getElem h]; rfl
attribute [go_sem] flat_p okv_p getD_p fold_p drop_1
theorem low_p {m : Nat} (p : List UInt8 × JV) : ∀ z ∈ (pairAV p).flat, Low m z := fun z hz => by
  have := low_jAV (m := m) p.2
  rw [jAV_eq] at this
  cases this with
  | agg _ h =>
    rw [flat_p] at hz
    rcases List.mem_cons.1 hz with rfl | hz
    · exact .str _
    · exact h z hz
theorem low_psl {m s : Nat} {l : List (List UInt8 × JV)} : Low m (.sl .sh s (l.map pairAV)) := .sl _ _ _ (fun k e => by cases e) fun x hx => by
  unfold flats at hx
  obtain ⟨y, hy, hx⟩ := List.mem_flatMap.1 hx
  obtain ⟨p, hp, rfl⟩ := List.mem_map.1 hy
  exact low_p p x hx
end Go.Proofs.YtplmbhjhihoneaaGreatDoor
end

section
set_option linter.unusedSimpArgs false
set_option linter.unusedVariables false
namespace Go.Proofs.YtplmbhjhihoneaaGreatDoor
open Go V Go.ChangeShapes Go.WideShapes Go.ChangeAt Go.RowKit
set_option maxRecDepth 10000
theorem c_two : Tryz.prog.cellsOf 45 = 2 := by kernel_rfl
theorem c_pair : Tryz.prog.cellsOf 39 = 6 := by kernel_rfl
theorem two {α : Type} {l : List α} (h : l.length = 2) : ∃ a b, l = [a, b] := by
  match l, h with
  | [a, b], _ => exact ⟨a, b, rfl⟩
section
variable {H : Type} {enc : TypeId × Value → H} {W : World}
theorem opens_two (n : Nat) : Opens enc Tryz.prog W n 45 (fun p : bytes × bytes => .agg [.str p.1, .str p.2]) (fun _ => True) := fun m cs x hm hx => by
  obtain ⟨xs, n', rfl, rfl, hl, hxl, hf⟩ := DataW.trod_array Tryz.underlying45 hx
  have hl := hl.trans c_two
  have h0 : DataW.trod enc Tryz.prog W 0 (fun _ => true) true n' 9 ((cs.drop (0 * Tryz.prog.cellsOf 9)).take (Tryz.prog.cellsOf 9)) = xs[0]? := hf 0 (by decide)
  have h1 : DataW.trod enc Tryz.prog W 0 (fun _ => true) true n' 9 ((cs.drop (1 * Tryz.prog.cellsOf 9)).take (Tryz.prog.cellsOf 9)) = xs[1]? := hf 1 (by decide)
  clear hf hx
  rw [c_str] at h0 h1
  obtain ⟨k0, k1, rfl⟩ := two hl
  obtain ⟨x0, x1, rfl⟩ := two hxl
  obtain ⟨a, _, r0⟩ := opens_string (enc := enc) (w := W) (n' + 1) Tryz.underlying9 n' _ _ (Nat.le_succ _) h0
  obtain ⟨b, _, r1⟩ := opens_string (enc := enc) (w := W) (n' + 1) Tryz.underlying9 n' _ _ (Nat.le_succ _) h1
  refine ⟨(a, b), trivial, rfl, rfl, fun j y u ey eu => ?_⟩
  match j, ey, eu with
  | 0, ey, eu => cases ey; cases eu; exact relC_get rfl r0
  | 1, ey, eu => cases ey; cases eu; exact relC_get rfl r1
theorem opens_pair (n : Nat) : Opens enc Tryz.prog W n 39 pairAV (fun _ => True) := fun m cs x hm hx => by
  obtain ⟨xs, n', rfl, rfl, hl, hxl, hf⟩ := DataW.trod_struct Tryz.underlying39 hx
  rw [c_pair] at hl
  have h0 : DataW.trod enc Tryz.prog W 0 (fun _ => true) true n' 9 ((cs.drop 0).take (Tryz.prog.cellsOf 9)) = xs[0]? := hf 0 _ rfl
  have h1 : DataW.trod enc Tryz.prog W 0 (fun _ => true) true n' 27 ((cs.drop 1).take (Tryz.prog.cellsOf 27)) = xs[1]? := hf 1 _ rfl
  rw [c_str] at h0
  rw [c_jv] at h1
  obtain ⟨x0, x1, rfl⟩ := two (hxl.trans (by rfl))
  obtain ⟨a, _, r0⟩ := opens_string (enc := enc) (w := W) (n' + 1) Tryz.underlying9 n' _ _ (Nat.le_succ _) h0
  obtain ⟨b, _, r1⟩ := opens_jv (enc := enc) (W := W) n' n' _ _ (Nat.le_refl _) h1
  obtain ⟨r2, r3, r4⟩ := r1
  obtain ⟨k0, cs, rfl⟩ : ∃ c l, cs = c :: l := by
    cases cs with
    | nil => cases hl
    | cons c l => exact ⟨c, l, rfl⟩
  refine ⟨(a, b), trivial, ?_, ?_, fun j y u ey eu => ?_⟩
  · unfold pairAV
    rw [flat_j]
    rfl
  · unfold pairAV
    rw [flat_j]
    exact hl.symm
  · cases j with
    | zero =>
      cases eu
      cases ey
      exact relC_get rfl r0
    | succ j =>
      have ey : (jAV b).flat[j]? = some y := ey
      have eu : cs[j]? = some u := eu
      have hj := lt_of_get ey
      rw [flat_j] at hj
      refine r4 j y u ey ?_
      rw [List.drop_succ_cons, List.drop_zero, List.getElem?_take, if_pos (show j < 5 from hj)]
      exact eu
end
end Go.Proofs.YtplmbhjhihoneaaGreatDoor
end
