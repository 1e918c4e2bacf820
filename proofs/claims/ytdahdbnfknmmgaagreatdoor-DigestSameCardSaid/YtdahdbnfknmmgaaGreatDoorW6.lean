/- The document's Weigh, Deep, Get, Alike. -/
import Derived.Test.YtdahdbnfknmmgaaGreatDoorW4
import Derived.Test.YtdahdbnfknmmgaaGreatDoorW5
import Derived.Test.YtdahdbnfknmmgaaGreatDoorW3
import Derived.Lib.Walk
import Derived.Lib.RuneCount
import Derived.Laws.RangeString
import Derived.Laws.RangeAny
import Derived.LoopTactic
import Derived.Lib.ItoaNum
import Derived.Lib.ItoaWalk
import Derived.Lib.ItoaMem
import Derived.Test.YtdahdbnfknmmgaaGreatDoorW1
section
set_option linter.unusedSimpArgs false
set_option linter.unusedVariables false
namespace Go.Proofs.YtdahdbnfknmmgaaGreatDoor
open Go V
set_option maxRecDepth 10000
set_option maxHeartbeats 4000000
def wNames (most : Int) : List bytes → Int → Int
  | [], n => n
  | s :: r, n => if n ≤ most then wNames most r (n + 1 + min (s.length : Int) most) else n
mutual
def weigh : JV → Int → Int
  | .mk _ _ t ns is, most => wItems most is (wNames most ns (1 + min (t.length : Int) most))
def wItems (most : Int) : List JV → Int → Int
  | [], n => n
  | v :: r, n => if n ≤ most then wItems most r (n + weigh v (most - n)) else n
end
theorem weigh_eq (v : JV) (most : Int) : weigh v most = wItems most v.items (wNames most v.names (1 + min (v.text.length : Int) most)) := by cases v; rw [weigh]; rfl
theorem wItems_cons {most n : Int} {v : JV} {r : List JV} : wItems most (v :: r) n = if n ≤ most then wItems most r (n + weigh v (most - n)) else n := by rw [wItems]
theorem wItems_nil {most n : Int} : wItems most [] n = n := by rw [wItems]
theorem wNames_stop {most n : Int} {l : List bytes} (h : ¬ n ≤ most) : wNames most l n = n := by cases l <;> simp [wNames, h]
theorem wItems_stop {most n : Int} {l : List JV} (h : ¬ n ≤ most) : wItems most l n = n := by
  cases l with
  | nil => exact wItems_nil
  | cons => rw [wItems_cons, if_neg h]
theorem drop_cons {α : Type} {l : List α} {i : Nat} (d : α) (h : i < l.length) : l.drop i = l.getD i d :: l.drop (i + 1) := by
  rw [List.getD, List.getElem?_eq_getElem h, Option.getD_some, ← List.drop_eq_getElem_cons h]
theorem wNames_at {most n : Int} {l : List bytes} {i : Nat} (h : i < l.length) (hn : n ≤ most) : wNames most (l.drop i) n = wNames most (l.drop (i + 1)) (n + 1 + min ((l.getD i []).length : Int) most) := by
  rw [drop_cons [] h, wNames, if_pos hn]
theorem wItems_at {most n : Int} {l : List JV} {i : Nat} (h : i < l.length) (hn : n ≤ most) : wItems most (l.drop i) n = wItems most (l.drop (i + 1)) (n + weigh (l.getD i zeroJ) (most - n)) := by
  rw [drop_cons zeroJ h, wItems_cons, if_pos hn]
theorem wNames_le : ∀ (l : List bytes) (most n : Int), 0 ≤ most → 0 ≤ n → n ≤ 2 * most + 1 → n ≤ wNames most l n ∧ wNames most l n ≤ 2 * most + 1 ∧ (wNames most l n ≤ most → wNames most l n = n + (l.map nameW).sum) ∧ (n + (l.map nameW).sum ≤ most → wNames most l n = n + (l.map nameW).sum)
  | [], most, n, h0, hp, hn => by simp [wNames]; omega
  | s :: r, most, n, h0, hp, hn => by
    rw [wNames]
    by_cases h : n ≤ most
    · rw [if_pos h]
      have ih := wNames_le r most (n + 1 + min (s.length : Int) most) h0 (by omega) (by omega)
      rw [List.map_cons, List.sum_cons]
      have : nameW s = 1 + s.length := rfl
      rw [this]
      omega
    · rw [if_neg h, List.map_cons, List.sum_cons]
      omega
theorem weigh_le : ∀ (v : JV) (most : Int), 0 ≤ most → 1 ≤ weigh v most ∧ weigh v most ≤ 2 * most + 1 ∧ (weigh v most ≤ most → weigh v most = sizeJ v) ∧ ((sizeJ v : Int) ≤ most → weigh v most = sizeJ v) := by
  refine JV.induct fun k nu t ns is ih most h0 => ?_
  have hit : ∀ (l : List JV), (∀ x ∈ l, x ∈ is) → ∀ n : Int, 0 ≤ n → n ≤ 2 * most + 1 → n ≤ wItems most l n ∧ wItems most l n ≤ 2 * most + 1 ∧ (wItems most l n ≤ most → wItems most l n = n + (l.map sizeJ).sum) ∧ (n + (l.map sizeJ).sum ≤ most → wItems most l n = n + (l.map sizeJ).sum) := by
    intro l
    induction l with
    | nil => intro _ n hp hn; rw [wItems_nil]; simp; omega
    | cons v r ihl =>
      intro hm n hp hn
      rw [wItems_cons, List.map_cons, List.sum_cons]
      by_cases h : n ≤ most
      · rw [if_pos h]
        have h1 := ih v (hm v (List.mem_cons_self ..)) (most - n) (by omega)
        have h2 := ihl (fun x hx => hm x (List.mem_cons_of_mem _ hx)) (n + weigh v (most - n)) (by omega) (by omega)
        omega
      · rw [if_neg h]
        omega
  rw [weigh_eq, sizeJ_eq, sizesJ_eq]
  show 1 ≤ wItems most is (wNames most ns (1 + min (t.length : Int) most)) ∧ wItems most is (wNames most ns (1 + min (t.length : Int) most)) ≤ 2 * most + 1 ∧ (wItems most is (wNames most ns (1 + min (t.length : Int) most)) ≤ most → wItems most is (wNames most ns (1 + min (t.length : Int) most)) = ((1 + t.length + (ns.map nameW).sum + (is.map sizeJ).sum : Nat) : Int)) ∧ (((1 + t.length + (ns.map nameW).sum + (is.map sizeJ).sum : Nat) : Int) ≤ most → wItems most is (wNames most ns (1 + min (t.length : Int) most)) = ((1 + t.length + (ns.map nameW).sum + (is.map sizeJ).sum : Nat) : Int))
  have h1 := wNames_le ns most (1 + min (t.length : Int) most) h0 (by omega) (by omega)
  have h2 := hit is (fun _ h => h) (wNames most ns (1 + min (t.length : Int) most)) (by omega) h1.2.1
  omega
theorem Weigh_c : ∀ (v : JV) (most : Int) (H : List AObj), 0 ≤ most → most ≤ 10000 → ACalls Tryz.prog 31 [jAV v, .lit (.int .i64 most)] H (fun x H' => x = .int .i64 (weigh v most) ∧ H' = H) := by
  refine JV.induct fun k nu t ns is ih most H h0 hm => ?_
  rw [weigh_eq]
  generalize hv : JV.mk k nu t ns is = v
  have ih' : ∀ x ∈ v.items, ∀ (most : Int) (H : List AObj), 0 ≤ most → most ≤ 10000 → ACalls Tryz.prog 31 [jAV x, .lit (.int .i64 most)] H (fun x' H' => x' = .int .i64 (weigh x most) ∧ H' = H) := by subst hv; exact ih
  clear ih hv
  refine acalls_vc L_ok mixed [] (rs := [.tmp 4]) (n := 61) Tryz.func31 rfl rfl rfl rfl (Nat.le_of_ble_eq_true rfl) (by kernel_rfl) ?_
  repeat' (first | refine unhold ?_ | (simp -dsimp -implicitDefEqProofs (disch := (first | assumption | omega | (simp only [ll1, ll2, ll3, ll4, ll5, ll6, ll7, ll8]; omega))) only [go_sem]) | refine vcI (fun _ => ?_) (fun _ => ?_) | (refine vcA ?_ ?_; focus (repeat' (first | omega | assumption | refine vcA ?_ ?_); done)) | omega | refine imp_in (fun _ => ?_))
  generalize hN : wNames most v.names (1 + min (v.text.length : Int) most) = N
  refine vc_loopk L_ok mixed [] [1, 2, 4] (fun p : Nat × Int => p.1 ≤ v.names.length ∧ (p.1 : Int) < p.2 ∧ p.2 ≤ 2 * most + 1 ∧ wNames most (v.names.drop p.1) p.2 = N) (fun p => [(6, .int .i64 p.1), (5, .int .i64 p.2)]) (fun _ => H) (fun p => v.names.length - p.1) (by kernel_rfl) ?_ (0, 1 + min (v.text.length : Int) most) ⟨by simp, by simp; omega, by simp; omega, by simpa using hN⟩ env_ok rfl
  rintro ⟨i, n⟩ ⟨hi, hin, hn, hw⟩
  dsimp only at hi hin hn hw ⊢
  repeat' (first | refine unhold ?_ | (simp -dsimp -implicitDefEqProofs (disch := (first | assumption | omega | (simp only [ll1, ll2, ll3, ll4, ll5, ll6, ll7, ll8]; omega))) only [go_sem]) | refine vcI (fun _ => ?_) (fun _ => ?_) | (refine vcA ?_ ?_; focus (repeat' (first | omega | assumption | refine vcA ?_ ?_); done)) | omega | refine imp_in (fun _ => ?_))
  · rename_i h1 h2
    refine again ((i + 1, n + 1 + min ((v.names.getD i []).length : Int) most)) ?_ ?_ rfl env_ok
    · dsimp only; omega
    · dsimp only
      exact ⟨by omega, by omega, by omega, by rw [← wNames_at (by omega) h2]; exact hw⟩
  all_goals
    have hnN : n = N := by
      first
        | (rw [wNames_stop (by omega)] at hw; exact hw)
        | (rw [List.drop_eq_nil_of_le (by omega)] at hw; exact hw)
    subst hnN
    clear hw hin
    have hpos := (wNames_le v.names most (1 + min (v.text.length : Int) most) h0 (by omega) (by omega)).1
    rw [hN] at hpos
    refine vc_loopk L_ok mixed [] [1, 2, 4] (fun p : Nat × Int => p.1 ≤ v.items.length ∧ (p.1 : Int) < p.2 ∧ p.2 ≤ 2 * most + 1 ∧ wItems most (v.items.drop p.1) p.2 = wItems most v.items n) (fun p => [(7, .int .i64 p.1), (5, .int .i64 p.2)]) (fun _ => H) (fun p => v.items.length - p.1) (by kernel_rfl) ?_ (0, n) ⟨by simp, by simp; omega, hn, by simp⟩ env_ok rfl
    rintro ⟨j, m⟩ ⟨hj, hjm, hm2, hw⟩
    dsimp only at hj hjm hm2 hw ⊢
    have hwl := fun (h : m ≤ most) => weigh_le (v.items.getD j zeroJ) (most - m) (by omega)
    repeat' (first | refine unhold ?_ | (simp -dsimp -implicitDefEqProofs (disch := (first | assumption | omega | (simp only [ll1, ll2, ll3, ll4, ll5, ll6, ll7, ll8]; omega))) only [go_sem]) | refine acalls_same (ih' _ (mem_getD (by omega)) _ _ (by omega) (by omega)) ?_ | refine ⟨_, ih' _ (mem_getD (by omega)) _ _ (by omega) (by omega), ?_⟩ | refine ⟨_, _, ih' _ (mem_getD (by omega)) _ _ (by omega) (by omega), ?_⟩ | refine vcI (fun _ => ?_) (fun _ => ?_) | (refine vcA ?_ ?_; focus (repeat' (first | omega | assumption | refine vcA ?_ ?_); done)) | omega | refine imp_in (fun _ => ?_))
    · rename_i h1 h2
      have := hwl h2
      refine again ((j + 1, m + weigh (v.items.getD j zeroJ) (most - m))) ?_ ?_ rfl env_ok
      · dsimp only; omega
      · dsimp only
        exact ⟨by omega, by omega, by omega, by rw [← wItems_at (by omega) h2]; exact hw⟩
    · rename_i h1 h2
      refine done_same ⟨int_eq ?_, rfl⟩
      rw [← hw, wItems_stop (by omega)]
    · rename_i h1
      refine done_same ⟨int_eq ?_, rfl⟩
      rw [← hw, List.drop_eq_nil_of_le (by omega), wItems_nil]
open Classical in
theorem same_r : ∀ (v w : JV) (H : List AObj), sizeJ v ≤ 40000 → ACalls Tryz.prog 41 [jAV v, jAV w] H (fun x H' => x = .bool (decide (v = w)) ∧ H' = H) := by
  refine JV.induct fun k n t ns is ih w H hs => ?_
  generalize hv : JV.mk k n t ns is = v at hs
  have ih' : ∀ x ∈ v.items, ∀ (w : JV) (H : List AObj), sizeJ x ≤ 40000 → ACalls Tryz.prog 41 [jAV x, jAV w] H (fun y H' => y = .bool (decide (x = w)) ∧ H' = H) := by subst hv; exact ih
  clear ih hv
  have h1 := size_names v
  have h2 := size_items v
  have h3 : ∀ i, i < v.items.length → sizeJ (v.items.getD i zeroJ) ≤ 40000 := fun i hi => by have := size_item (v := v) (mem_getD (d := zeroJ) hi); omega
  have hvw : (v = w) = (v.kind = w.kind ∧ v.num = w.num ∧ v.text = w.text ∧ v.names = w.names ∧ v.items = w.items) := by cases v; cases w; simp [JV.kind, JV.num, JV.text, JV.names, JV.items]
  refine acalls_vc L_ok mixed [1000006, 1000011] (rs := [.tmp 4]) (n := 81) Tryz.func41 rfl rfl rfl rfl (Nat.le_of_ble_eq_true rfl) (by kernel_rfl) ?_
  repeat' (first | refine unhold ?_ | (simp -dsimp -implicitDefEqProofs (disch := (first | assumption | omega | (simp only [ll1, ll2, ll3, ll4, ll5, ll6, ll7, ll8]; omega))) only [go_sem]) | refine vcI (fun _ => ?_) (fun _ => ?_) | (refine vcA ?_ ?_; focus (repeat' (first | omega | assumption | refine vcA ?_ ?_); done)) | omega | refine imp_in (fun _ => ?_))
  all_goals first | exact done_same ⟨bool_eq (decide_eq_false fun e => by subst e; first | contradiction | omega).symm, rfl⟩ | skip
  rename_i e1 e2 e3 e4 e5
  refine vc_loopk L_ok mixed [1000006, 1000011] [2, 3] (fun i : Nat => i ≤ v.names.length ∧ ∀ j, j < i → v.names.getD j [] = w.names.getD j []) (fun i => [(5, .int .i64 i)]) (fun _ => H) (fun i => v.names.length - i) (by kernel_rfl) ?_ 0 ⟨by omega, fun j hj => by omega⟩ env_ok rfl
  rintro i ⟨hi, hp⟩
  repeat' (first | refine unhold ?_ | (simp -dsimp -implicitDefEqProofs (disch := (first | assumption | omega | (simp only [ll1, ll2, ll3, ll4, ll5, ll6, ll7, ll8]; omega))) only [go_sem]) | refine vcI (fun _ => ?_) (fun _ => ?_) | (refine vcA ?_ ?_; focus (repeat' (first | omega | assumption | refine vcA ?_ ?_); done)) | omega | refine imp_in (fun _ => ?_))
  · rename_i h4 h5
    exact done_same ⟨bool_eq (decide_eq_false fun e => by subst e; contradiction).symm, rfl⟩
  · rename_i h4 h5
    refine again (i + 1) ?_ ?_ rfl env_ok
    · omega
    · exact ⟨by omega, upto_succ hp h5⟩
  · have hn : v.names = w.names := upto_eq (d := []) (by omega) fun j hj => hp j (by omega)
    clear hp hi
    refine vc_loopk L_ok mixed [1000006, 1000011] [2, 3] (fun i : Nat => i ≤ v.items.length ∧ ∀ j, j < i → v.items.getD j zeroJ = w.items.getD j zeroJ) (fun i => [(6, .int .i64 i)]) (fun _ => H) (fun i => v.items.length - i) (by kernel_rfl) ?_ 0 ⟨by omega, fun j hj => by omega⟩ env_ok rfl
    rintro j ⟨hj, hq⟩
    repeat' (first | refine unhold ?_ | (simp -dsimp -implicitDefEqProofs (disch := (first | assumption | omega | (simp only [ll1, ll2, ll3, ll4, ll5, ll6, ll7, ll8]; omega))) only [go_sem]) | refine acalls_same (ih' _ (mem_getD (by omega)) _ _ (h3 _ (by omega))) ?_ | refine ⟨_, ih' _ (mem_getD (by omega)) _ _ (h3 _ (by omega)), ?_⟩ | refine ⟨_, _, ih' _ (mem_getD (by omega)) _ _ (h3 _ (by omega)), ?_⟩ | refine vcI (fun _ => ?_) (fun _ => ?_) | (refine vcA ?_ ?_; focus (repeat' (first | omega | assumption | refine vcA ?_ ?_); done)) | omega | refine imp_in (fun _ => ?_))
    · rename_i h4 h5
      exact done_same ⟨bool_eq (decide_eq_false fun e => by subst e; simp at h5).symm, rfl⟩
    · rename_i h4 h5
      refine again (j + 1) ?_ ?_ rfl env_ok
      · omega
      · exact ⟨by omega, upto_succ hq (by simpa using h5)⟩
    · have hm : v.items = w.items := upto_eq (d := zeroJ) (by omega) fun j hj => hq j (by omega)
      refine done_same ⟨bool_eq (decide_eq_true ?_).symm, rfl⟩
      rw [hvw]
      exact ⟨e1, e2, e3, hn, hm⟩
open Classical in
theorem Alike_c (v w : JV) (H : List AObj) (hs : sizeJ v ≤ 40000) : ACalls Tryz.prog 20 [jAV v, jAV w] H (fun x H' => x = .bool (decide (v = w)) ∧ H' = H) := by
  refine acalls_vc L_ok mixed [] (rs := [.tmp 4]) (n := 8) Tryz.func20 rfl rfl rfl rfl (Nat.le_of_ble_eq_true rfl) (by kernel_rfl) ?_
  repeat' (first | refine unhold ?_ | (simp -dsimp -implicitDefEqProofs (disch := (first | assumption | omega | (simp only [ll1, ll2, ll3, ll4, ll5, ll6, ll7, ll8]; omega))) only [go_sem]) | refine acalls_same (same_r v w _ hs) ?_ | refine ⟨_, same_r v w _ hs, ?_⟩ | refine ⟨_, _, same_r v w _ hs, ?_⟩ | refine vcI (fun _ => ?_) (fun _ => ?_) | (refine vcA ?_ ?_; focus (repeat' (first | omega | assumption | refine vcA ?_ ?_); done)) | omega | refine imp_in (fun _ => ?_))
  exact done_same ⟨rfl, rfl⟩
end Go.Proofs.YtdahdbnfknmmgaaGreatDoor
end

section
set_option linter.unusedSimpArgs false
set_option linter.unusedVariables false
namespace Go.Proofs.YtdahdbnfknmmgaaGreatDoor
open Go V
set_option maxRecDepth 10000
set_option maxHeartbeats 4000000
theorem srt_adj : ∀ {l : List bytes}, (∀ j, j + 1 < l.length → lessB (l.getD j []) (l.getD (j + 1) []) = true) → srt l = true
  | [], _ => rfl
  | [_], _ => rfl
  | a :: b :: r, h => by
    rw [srt, Bool.and_eq_true]
    exact ⟨h 0 (by simp), srt_adj fun j hj => h (j + 1) (by simpa using hj)⟩
theorem srt_at {l : List bytes} (h : srt l = true) {j : Nat} (hj : j + 1 < l.length) : lessB (l.getD j []) (l.getD (j + 1) []) = true := by
  refine srt_lt h (Nat.lt_succ_self j) (List.getElem?_eq_getElem (by omega) |>.trans ?_) (List.getElem?_eq_getElem hj |>.trans ?_)
  · rw [List.getD, List.getElem?_eq_getElem (by omega)]; rfl
  · rw [List.getD, List.getElem?_eq_getElem hj]; rfl
theorem all_at {l : List bytes} {p : bytes → Bool} (h : l.all p = true) {j : Nat} (hj : j < l.length) : p (l.getD j []) = true := List.all_eq_true.1 h _ (mem_getD hj)
theorem all_of {l : List bytes} {p : bytes → Bool} (h : ∀ j, j < l.length → p (l.getD j []) = true) : l.all p = true := by
  rw [List.all_eq_true]
  intro x hx
  obtain ⟨j, hj, rfl⟩ := List.mem_iff_getElem.1 hx
  have := h j hj
  rwa [List.getD, List.getElem?_eq_getElem hj] at this
theorem namedJ_len {v : JV} (h : ¬ v.names.length = v.items.length) : namedJ v = false := by simp [namedJ, h]
theorem namedJ_valid {v : JV} {j : Nat} (hj : j < v.names.length) (h : Lib.validD (v.names.getD j []) = false) : namedJ v = false := by
  cases e : namedJ v with
  | false => rfl
  | true =>
    simp only [namedJ, Bool.and_eq_true] at e
    have := all_at e.1.2 hj
    rw [h] at this
    cases this
theorem namedJ_less {v : JV} {j : Nat} (hj : j < v.names.length) (h0 : 0 < j) (h : lessB (v.names.getD (j - 1) []) (v.names.getD j []) = false) : namedJ v = false := by
  cases e : namedJ v with
  | false => rfl
  | true =>
    simp only [namedJ, Bool.and_eq_true] at e
    have := srt_at e.2 (j := j - 1) (by omega)
    rw [show j - 1 + 1 = j by omega, h] at this
    cases this
theorem namedJ_ok {v : JV} (hl : v.names.length = v.items.length) (h : ∀ j, j < v.names.length → Lib.validD (v.names.getD j []) = true ∧ (0 < j → lessB (v.names.getD (j - 1) []) (v.names.getD j []) = true)) : namedJ v = true := by
  simp only [namedJ, Bool.and_eq_true, decide_eq_true_eq]
  exact ⟨⟨hl, all_of fun j hj => (h j hj).1⟩, srt_adj fun j hj => (h (j + 1) hj).2 (by omega)⟩
theorem named_c (v : JV) (H : List AObj) (hs : sizeJ v ≤ 40000) : ACalls Tryz.prog 92 [jAV v] H (fun x H' => x = .bool (namedJ v) ∧ H' = H) := by
  have h1 := size_names v
  have h2 := size_items v
  have h3 : ∀ i, i < v.names.length → (v.names.getD i []).length ≤ 100000 := fun i hi => by have := size_name (v := v) (mem_getD (d := []) hi); omega
  refine acalls_vc L_ok mixed [] (rs := [.tmp 2]) (n := 39) Tryz.func92 rfl rfl rfl rfl (Nat.le_of_ble_eq_true rfl) (by kernel_rfl) ?_
  repeat' (first | refine unhold ?_ | (simp -dsimp -implicitDefEqProofs (disch := (first | assumption | omega | (simp only [ll1, ll2, ll3, ll4, ll5, ll6, ll7, ll8]; omega))) only [go_sem]) | refine vcI (fun _ => ?_) (fun _ => ?_) | (refine vcA ?_ ?_; focus (repeat' (first | omega | assumption | refine vcA ?_ ?_); done)) | omega | refine imp_in (fun _ => ?_))
  · rename_i h
    exact done_same ⟨bool_eq (namedJ_len (by omega)).symm, rfl⟩
  · rename_i h
    refine vc_loopk L_ok mixed [] [1, 13, 14] (fun i : Nat => i ≤ v.names.length ∧ ∀ j, j < i → Lib.validD (v.names.getD j []) = true ∧ (0 < j → lessB (v.names.getD (j - 1) []) (v.names.getD j []) = true)) (fun i => [(15, .int .i64 i)]) (fun _ => H) (fun i => v.names.length - i) (by kernel_rfl) ?_ 0 ⟨by omega, fun j hj => by omega⟩ env_ok rfl
    rintro i ⟨hi, hp⟩
    have h4 := h3 i
    repeat' (first | refine unhold ?_ | (simp -dsimp -implicitDefEqProofs (disch := (first | assumption | omega | (simp only [ll1, ll2, ll3, ll4, ll5, ll6, ll7, ll8]; omega))) only [go_sem]) | refine acalls_same (Right_c _ _ (h4 (by omega))) ?_ | refine ⟨_, Right_c _ _ (h4 (by omega)), ?_⟩ | refine ⟨_, _, Right_c _ _ (h4 (by omega)), ?_⟩ | refine vcI (fun _ => ?_) (fun _ => ?_) | (refine vcA ?_ ?_; focus (repeat' (first | omega | assumption | refine vcA ?_ ?_); done)) | omega | refine imp_in (fun _ => ?_))
    · rename_i h5 h6
      exact done_same ⟨bool_eq (namedJ_valid (by omega) h6).symm, rfl⟩
    · rename_i h5 h6 h7 h8
      rw [show ((i : Int) - 1).toNat = i - 1 by omega] at h8
      exact done_same ⟨bool_eq (namedJ_less (by omega) (by omega) h8).symm, rfl⟩
    · rename_i h5 h6 h7 h8
      rw [show ((i : Int) - 1).toNat = i - 1 by omega] at h8
      refine again (i + 1) ?_ ?_ rfl env_ok
      · omega
      · exact ⟨by omega, upto_succ hp ⟨h6, fun _ => h8⟩⟩
    · rename_i h5 h6 h7
      refine again (i + 1) ?_ ?_ rfl env_ok
      · omega
      · exact ⟨by omega, upto_succ hp ⟨h6, fun h8 => by omega⟩⟩
    · obtain rfl : i = v.names.length := by omega
      exact done_same ⟨bool_eq (namedJ_ok (by omega) hp).symm, rfl⟩
theorem rightJ_eq (d : Nat) (v : JV) : rightJ d v = (oneJ v || (manyJ v && (decide (0 < d) && v.items.all (rightJ (d - 1))))) := by cases d <;> simp [rightJ]
theorem not_any {l : List JV} {p : JV → Bool} : (!(l.any fun x => !p x)) = l.all p := by
  induction l with
  | nil => rfl
  | cons a l ih => simp only [List.any_cons, List.all_cons, Bool.not_or, Bool.not_not, ih]
theorem right_step (d : Nat) (v : JV) (w : Int) (H : List AObj) (hw : w = 12 - (d : Int)) (hd : d ≤ 12) (hs : sizeJ v ≤ 40000)
    (hq : 0 < d → ∀ x ∈ v.items, ∀ H, ACalls Tryz.prog 94 (jAV x :: [.ip (.lit (.int .i64 w))]) H (fun y H' => y = .bool (!rightJ (d - 1) x) ∧ H' = H)) :
    ACalls Tryz.prog 63 [jAV v, .lit (.int .i64 w)] H (fun x H' => x = .bool (rightJ d v) ∧ H' = H) := by
  have h1 := size_names v
  have h2 := size_items v
  have h3 := size_text v
  refine acalls_vc L_ok mixed [] (rs := [.tmp 4]) (n := 95) Tryz.func63 rfl rfl rfl rfl (Nat.le_of_ble_eq_true rfl) (by kernel_rfl) ?_
  repeat' (first | refine unhold ?_ | (simp -dsimp -implicitDefEqProofs (disch := (first | assumption | omega | (simp only [ll1, ll2, ll3, ll4, ll5, ll6, ll7, ll8]; omega))) only [go_sem]) | refine acalls_same (Right_c _ _ (by omega)) ?_ | refine ⟨_, Right_c _ _ (by omega), ?_⟩ | refine ⟨_, _, Right_c _ _ (by omega), ?_⟩ | refine acalls_same (named_c v _ hs) ?_ | refine ⟨_, named_c v _ hs, ?_⟩ | refine ⟨_, _, named_c v _ hs, ?_⟩ | refine acalls_same (ContainsFunc_c _ _ (fun x => !rightJ (d - 1) x) _ _ (by omega) (fun x hx => hq (by omega) x hx _)) ?_ | refine ⟨_, ContainsFunc_c _ _ (fun x => !rightJ (d - 1) x) _ _ (by omega) (fun x hx => hq (by omega) x hx _), ?_⟩ | refine ⟨_, _, ContainsFunc_c _ _ (fun x => !rightJ (d - 1) x) _ _ (by omega) (fun x hx => hq (by omega) x hx _), ?_⟩ | refine vcI (fun _ => ?_) (fun _ => ?_) | (refine vcA ?_ ?_; focus (repeat' (first | omega | assumption | refine vcA ?_ ?_); done)) | omega | refine imp_in (fun _ => ?_))
  all_goals
    refine done_same ⟨bool_eq ?_, rfl⟩
    rw [rightJ_eq]
    first
      | (have hd0 : 0 < d := by omega
         clear hq hw hd hs h1 h2 h3
         simp_all [oneJ, manyJ, bareJ, leafJ, not_any, hd0]; done)
      | (have hd0 : d = 0 := by omega
         clear hq hw hd hs h1 h2 h3
         simp_all [oneJ, manyJ, bareJ, leafJ, not_any, hd0]; done)
      | (clear hq hw hd hs h1 h2 h3
         simp_all [oneJ, manyJ, bareJ, leafJ, not_any]; done)
      | (clear hq hw hd hs h1 h2 h3
         simp_all [oneJ, manyJ, bareJ, leafJ, not_any]; omega)
theorem right_c : ∀ (d : Nat) (v : JV) (w : Int) (H : List AObj), w = 12 - (d : Int) → d ≤ 12 → sizeJ v ≤ 40000 → ACalls Tryz.prog 63 [jAV v, .lit (.int .i64 w)] H (fun x H' => x = .bool (rightJ d v) ∧ H' = H)
  | 0, v, w, H, hw, hd, hs => right_step 0 v w H hw hd hs fun h => by omega
  | d + 1, v, w, H, hw, hd, hs => right_step (d + 1) v w H hw hd hs fun _ x hx H => by
    have h4 := size_item hx
    refine acalls_vc L_ok mixed [] (rs := [.tmp 3]) (n := 9) Tryz.func94 rfl rfl rfl rfl (Nat.le_of_ble_eq_true rfl) (by kernel_rfl) ?_
    repeat' (first | refine unhold ?_ | (simp -dsimp -implicitDefEqProofs (disch := (first | assumption | omega | (simp only [ll1, ll2, ll3, ll4, ll5, ll6, ll7, ll8]; omega))) only [go_sem]) | refine acalls_same (right_c d x _ _ (by omega) (by omega) (by omega)) ?_ | refine ⟨_, right_c d x _ _ (by omega) (by omega) (by omega), ?_⟩ | refine ⟨_, _, right_c d x _ _ (by omega) (by omega) (by omega), ?_⟩ | refine vcI (fun _ => ?_) (fun _ => ?_) | (refine vcA ?_ ?_; focus (repeat' (first | omega | assumption | refine vcA ?_ ?_); done)) | omega | refine imp_in (fun _ => ?_))
    exact done_same ⟨rfl, rfl⟩
theorem Right_j (v : JV) (H : List AObj) (hs : sizeJ v ≤ 40000) : ACalls Tryz.prog 44 [jAV v] H (fun x H' => x = .bool (rightJ 12 v) ∧ H' = H) := by
  refine acalls_vc L_ok mixed [] (rs := [.tmp 2]) (n := 5) Tryz.func44 rfl rfl rfl rfl (Nat.le_of_ble_eq_true rfl) (by kernel_rfl) ?_
  repeat' (first | refine unhold ?_ | (simp -dsimp -implicitDefEqProofs (disch := (first | assumption | omega | (simp only [ll1, ll2, ll3, ll4, ll5, ll6, ll7, ll8]; omega))) only [go_sem]) | refine acalls_same (right_c 12 v _ _ (by omega) (by omega) hs) ?_ | refine ⟨_, right_c 12 v _ _ (by omega) (by omega) hs, ?_⟩ | refine ⟨_, _, right_c 12 v _ _ (by omega) (by omega) hs, ?_⟩ | refine vcI (fun _ => ?_) (fun _ => ?_) | (refine vcA ?_ ?_; focus (repeat' (first | omega | assumption | refine vcA ?_ ?_); done)) | omega | refine imp_in (fun _ => ?_))
  exact done_same ⟨rfl, rfl⟩
end Go.Proofs.YtdahdbnfknmmgaaGreatDoor
end

section
set_option linter.unusedSimpArgs false
set_option linter.unusedVariables false
namespace Go.Proofs.YtdahdbnfknmmgaaGreatDoor
open Go
end Go.Proofs.YtdahdbnfknmmgaaGreatDoor
end

section
set_option linter.unusedSimpArgs false
set_option linter.unusedVariables false
namespace Go.Proofs.YtdahdbnfknmmgaaGreatDoor
open Go V
set_option maxRecDepth 10000
set_option maxHeartbeats 4000000
end Go.Proofs.YtdahdbnfknmmgaaGreatDoor
end

section
set_option linter.unusedSimpArgs false
set_option linter.unusedVariables false
namespace Go.Proofs.YtdahdbnfknmmgaaGreatDoor
open Go V Go.RowKit
end Go.Proofs.YtdahdbnfknmmgaaGreatDoor
end

section
set_option linter.unusedSimpArgs false
set_option linter.unusedVariables false
namespace Go.Proofs.YtdahdbnfknmmgaaGreatDoor
open Go V
set_option maxRecDepth 10000
set_option maxHeartbeats 4000000
end Go.Proofs.YtdahdbnfknmmgaaGreatDoor
end

section
set_option linter.unusedSimpArgs false
set_option linter.unusedVariables false
namespace Go.Proofs.YtdahdbnfknmmgaaGreatDoor
open Go V
set_option maxRecDepth 10000
set_option maxHeartbeats 4000000
end Go.Proofs.YtdahdbnfknmmgaaGreatDoor
end

section
set_option linter.unusedSimpArgs false
set_option linter.unusedVariables false
namespace Go.Proofs.YtdahdbnfknmmgaaGreatDoor
open Go V
set_option maxRecDepth 10000
set_option maxHeartbeats 4000000
end Go.Proofs.YtdahdbnfknmmgaaGreatDoor
end

section
set_option linter.unusedSimpArgs false
set_option linter.unusedVariables false
namespace Go.Proofs.YtdahdbnfknmmgaaGreatDoor
open Go V
set_option maxRecDepth 10000
set_option maxHeartbeats 4000000
open Classical in
theorem Same_j (v w : JV) (H : List AObj) (hs : sizeJ v ≤ 40000) (hs2 : sizeJ w ≤ 40000) : ACalls Tryz.prog 58 [jAV v, jAV w] H (fun x H' => x = .bool (rightJ 12 v && rightJ 12 w && decide (v = w)) ∧ H' = H) := by
  refine acalls_vc L_ok mixed [] (rs := [.tmp 4]) (n := 16) Tryz.func58 rfl rfl rfl rfl (Nat.le_of_ble_eq_true rfl) (by kernel_rfl) ?_
  repeat' (first | refine unhold ?_ | (simp -dsimp -implicitDefEqProofs (disch := (first | assumption | omega | (simp only [ll1, ll2, ll3, ll4, ll5, ll6, ll7, ll8]; omega))) only [go_sem]) | refine acalls_same (Right_j v _ hs) ?_ | refine ⟨_, Right_j v _ hs, ?_⟩ | refine ⟨_, _, Right_j v _ hs, ?_⟩ | refine acalls_same (Right_j w _ hs2) ?_ | refine ⟨_, Right_j w _ hs2, ?_⟩ | refine ⟨_, _, Right_j w _ hs2, ?_⟩ | refine acalls_same (equal_c v w _ hs) ?_ | refine ⟨_, equal_c v w _ hs, ?_⟩ | refine ⟨_, _, equal_c v w _ hs, ?_⟩ | refine vcI (fun _ => ?_) (fun _ => ?_) | (refine vcA ?_ ?_; focus (repeat' (first | omega | assumption | refine vcA ?_ ?_); done)) | omega | refine imp_in (fun _ => ?_))
  all_goals
    refine done_same ⟨bool_eq ?_, rfl⟩
    simp_all
end Go.Proofs.YtdahdbnfknmmgaaGreatDoor
end

section
set_option linter.unusedSimpArgs false
set_option linter.unusedVariables false
namespace Go.Proofs.YtdahdbnfknmmgaaGreatDoor
open Go V
set_option maxRecDepth 10000
set_option maxHeartbeats 4000000
theorem size_get {v : JV} {s : bytes} : sizeJ ((jget v s).getD zeroJ) ≤ sizeJ v := by
  have h0 := sizeJ_pos v
  have hz : sizeJ zeroJ = 1 := rfl
  cases h : jget v s with
  | none => rw [Option.getD_none, hz]; omega
  | some x =>
    rw [Option.getD_some]
    unfold jget at h
    split at h
    · split at h
      · exact Nat.le_of_lt (size_item (List.mem_of_getElem? h))
      · cases h
    · cases h
end Go.Proofs.YtdahdbnfknmmgaaGreatDoor
end

section
set_option linter.unusedSimpArgs false
set_option linter.unusedVariables false
namespace Go.Proofs.YtdahdbnfknmmgaaGreatDoor
open Go V
set_option maxRecDepth 10000
abbrev Prs := List (bytes × JV)
def insP (s : bytes) (x : JV) : Prs → Prs
  | [] => [(s, x)]
  | p :: r => if lessB p.1 s = true then p :: insP s x r else if p.1 = s then (s, x) :: r else (s, x) :: p :: r
def getP (s : bytes) : Prs → Option JV
  | [] => none
  | p :: r => if p.1 = s then some p.2 else getP s r
def ofP (v : JV) (l : Prs) : JV := .mk v.kind v.num v.text (l.map (·.1)) (l.map (·.2))
def prs (v : JV) : Prs := v.names.zip v.items
theorem ofP_prs {v : JV} (h : v.names.length = v.items.length) : ofP v (prs v) = v := by
  obtain ⟨k, n, t, ns, is⟩ := v
  simp only [JV.names, JV.items] at h
  simp only [ofP, prs, JV.kind, JV.num, JV.text, JV.names, JV.items]
  rw [List.map_fst_zip (by omega), List.map_snd_zip (by omega)]
theorem zip_map : ∀ l : Prs, (l.map (·.1)).zip (l.map (·.2)) = l
  | [] => rfl
  | p :: r => by rw [List.map_cons, List.map_cons, List.zip_cons_cons, zip_map r]
theorem prs_ofP (v : JV) (l : Prs) : prs (ofP v l) = l := zip_map l
theorem insP_map (s : bytes) (x : JV) : ∀ l : Prs, (if (l.map (·.1))[pos (l.map (·.1)) s]? = some s then (l.map (·.1), (l.map (·.2)).set (pos (l.map (·.1)) s) x) else ((l.map (·.1)).insertIdx (pos (l.map (·.1)) s) s, (l.map (·.2)).insertIdx (pos (l.map (·.1)) s) x)) = ((insP s x l).map (·.1), (insP s x l).map (·.2))
  | [] => by simp [insP, pos]
  | p :: r => by
    have ih := insP_map s x r
    rw [List.map_cons, List.map_cons, pos_cons, insP]
    by_cases h : lessB p.1 s = true
    · rw [if_pos h, if_pos h, List.getElem?_cons_succ, List.map_cons, List.map_cons, List.set_cons_succ, List.insertIdx_succ_cons, List.insertIdx_succ_cons]
      by_cases h2 : (r.map (·.1))[pos (r.map (·.1)) s]? = some s
      · rw [if_pos h2] at ih ⊢
        simp only [Prod.mk.injEq] at ih
        rw [← ih.1, ← ih.2]
      · rw [if_neg h2] at ih ⊢
        simp only [Prod.mk.injEq] at ih
        rw [← ih.1, ← ih.2]
    · rw [if_neg h, if_neg h, List.getElem?_cons_zero]
      by_cases h2 : p.1 = s
      · rw [if_pos (congrArg some h2), if_pos h2, List.map_cons, List.map_cons, List.set_cons_zero, h2]
      · rw [if_neg (fun e => h2 (Option.some.inj e)), if_neg h2, List.insertIdx_zero, List.insertIdx_zero]
        rfl
theorem jput_ofP (v : JV) (l : Prs) (s : bytes) (x : JV) : jput (ofP v l) s x = ofP v (insP s x l) := by
  have h := insP_map s x l
  by_cases h2 : (l.map (·.1))[pos (l.map (·.1)) s]? = some s
  · rw [if_pos h2] at h
    simp only [Prod.mk.injEq] at h
    rw [jput_old (v := ofP v l) h2]
    have : ofP v (insP s x l) = .mk v.kind v.num v.text ((insP s x l).map (·.1)) ((insP s x l).map (·.2)) := rfl
    rw [this, ← h.1, ← h.2]
    rfl
  · rw [if_neg h2] at h
    simp only [Prod.mk.injEq] at h
    rw [jput_new (v := ofP v l) h2]
    have : ofP v (insP s x l) = .mk v.kind v.num v.text ((insP s x l).map (·.1)) ((insP s x l).map (·.2)) := rfl
    rw [this, ← h.1, ← h.2]
    rfl
theorem jput_prs {v : JV} (h : v.names.length = v.items.length) (s : bytes) (x : JV) : jput v s x = ofP v (insP s x (prs v)) := by
  rw [← jput_ofP, ofP_prs h]
theorem find_getP (s : bytes) : ∀ l : Prs, (match (l.map (·.1)).findIdx? (fun n => n == s) with | some i => (l.map (·.2))[i]? | none => none) = getP s l
  | [] => rfl
  | p :: r => by
    have ih := find_getP s r
    rw [List.map_cons, List.map_cons, List.findIdx?_cons, getP]
    by_cases h : p.1 = s
    · rw [if_pos h, if_pos (by simpa using h)]
      rfl
    · rw [if_neg h, if_neg (by simpa using h), ← ih]
      cases (r.map (·.1)).findIdx? (fun n => n == s) with
      | none => rfl
      | some i => rfl
theorem jget_ofP {v : JV} (hk : v.kind = 6) (l : Prs) (s : bytes) : jget (ofP v l) s = getP s l := by
  rw [← find_getP, jget]
  exact if_pos hk
theorem less_ne {a b : bytes} (h : lessB a b = true) : ¬ a = b := lessB_ne h
theorem getP_ins (s : bytes) (x : JV) : ∀ l : Prs, getP s (insP s x l) = some x
  | [] => by simp [insP, getP]
  | p :: r => by
    rw [insP]
    split
    · rename_i h
      rw [getP, if_neg (less_ne h), getP_ins s x r]
    · split
      · rw [getP, if_pos rfl]
      · rw [getP, if_pos rfl]
theorem getP_ins_ne {s t : bytes} (h : t ≠ s) (x : JV) : ∀ l : Prs, getP t (insP s x l) = getP t l
  | [] => by simp [insP, getP, h.symm]
  | p :: r => by
    rw [insP]
    split
    · rw [getP, getP, getP_ins_ne h x r]
    · split
      · rename_i h2
        rw [getP, getP, if_neg h.symm, if_neg (by rw [h2]; exact h.symm)]
      · rw [getP, if_neg h.symm]
theorem mem_ins {s : bytes} {x : JV} : ∀ {l : Prs} {t : bytes}, t ∈ (insP s x l).map (·.1) ↔ t = s ∨ t ∈ l.map (·.1)
  | [], t => by simp [insP]
  | p :: r, t => by
    rw [insP]
    split
    · rw [List.map_cons, List.mem_cons, mem_ins (l := r), List.map_cons, List.mem_cons]
      constructor
      · rintro (h | h | h)
        · exact .inr (.inl h)
        · exact .inl h
        · exact .inr (.inr h)
      · rintro (h | h | h)
        · exact .inr (.inl h)
        · exact .inl h
        · exact .inr (.inr h)
    · split
      · rename_i h
        rw [List.map_cons, List.mem_cons, List.map_cons, List.mem_cons, h]
        constructor
        · rintro (h | h)
          · exact .inl h
          · exact .inr (.inr h)
        · rintro (h | h | h)
          · exact .inl h
          · exact .inl h
          · exact .inr h
      · rw [List.map_cons, List.mem_cons]
theorem mem_ins2 {s : bytes} {x : JV} : ∀ {l : Prs} {y : JV}, y ∈ (insP s x l).map (·.2) → y = x ∨ y ∈ l.map (·.2)
  | [], y, h => by simp [insP] at h; exact .inl h
  | p :: r, y, h => by
    rw [insP] at h
    split at h
    · rw [List.map_cons, List.mem_cons] at h
      rcases h with h | h
      · exact .inr (by rw [List.map_cons, List.mem_cons]; exact .inl h)
      · rcases mem_ins2 h with h | h
        · exact .inl h
        · exact .inr (by rw [List.map_cons, List.mem_cons]; exact .inr h)
    · split at h
      · rw [List.map_cons, List.mem_cons] at h
        rcases h with h | h
        · exact .inl h
        · exact .inr (by rw [List.map_cons, List.mem_cons]; exact .inr h)
      · rw [List.map_cons, List.mem_cons] at h
        exact h
theorem srt_ins {s : bytes} {x : JV} : ∀ {l : Prs}, srt (l.map (·.1)) = true → srt ((insP s x l).map (·.1)) = true
  | [], _ => rfl
  | p :: r, h => by
    have h0 := h
    rw [List.map_cons] at h
    rw [insP]
    split
    · rename_i hl
      rw [List.map_cons]
      refine srt_cons (fun b hb => ?_) (srt_ins (srt_tail h))
      rcases mem_ins.1 hb with rfl | hb
      · exact hl
      · exact srt_head h b hb
    · rename_i hl
      split
      · rename_i he
        rw [List.map_cons]
        simp only
        rw [← he]
        exact h
      · rename_i he
        have h1 : lessB s p.1 = true := by
          cases e : lessB s p.1 with
          | true => rfl
          | false => exact absurd (lessB_tri (by simpa using hl) e) he
        rw [List.map_cons]
        refine srt_cons (fun b hb => ?_) h0
        rw [List.map_cons] at hb
        rcases List.mem_cons.1 hb with rfl | hb
        · exact h1
        · exact lessB_trans h1 (srt_head h b hb)
/-! Objects of pairs -/
def allP : Prs → Prs → Option Prs
  | a, [] => some a
  | a, p :: r => if (getP p.1 a).isSome then none else allP (insP p.1 p.2 a) r
/-! How deep right trees are -/
theorem right_of {n : Nat} {v : JV} (h : rightJ n v = true) : oneJ v = true ∨ (0 < n ∧ manyJ v = true ∧ v.items.all (rightJ (n - 1)) = true) := by
  cases n with
  | zero => exact .inl h
  | succ n =>
    rw [rightJ, Bool.or_eq_true, Bool.and_eq_true] at h
    rcases h with h | h
    · exact .inl h
    · exact .inr ⟨Nat.succ_pos _, h.1, h.2⟩
theorem right_one {n : Nat} {v : JV} (h : oneJ v = true) : rightJ n v = true := by
  cases n with
  | zero => exact h
  | succ n => rw [rightJ, h]; rfl
theorem right_many {n : Nat} {v : JV} (h : manyJ v = true) (k : v.items.all (rightJ n) = true) : rightJ (n + 1) v = true := by
  rw [rightJ, h, k, Bool.and_self, Bool.or_true]
theorem many_kind {v : JV} (h : manyJ v = true) : v.kind = 5 ∨ v.kind = 6 := by
  unfold manyJ at h
  split at h
  · exact .inl (by assumption)
  · split at h
    · exact .inr (by assumption)
    · cases h
theorem one_kind {v : JV} (h : oneJ v = true) : ¬ (v.kind = 5 ∨ v.kind = 6) := by
  unfold oneJ at h
  intro hk
  split at h
  · omega
  · split at h
    · omega
    · split at h
      · omega
      · cases h
theorem right_up {n m : Nat} (hnm : n ≤ m) : ∀ v : JV, rightJ n v = true → rightJ m v = true := by
  induction n generalizing m with
  | zero => exact fun v h => right_one h
  | succ n ih =>
    intro v h
    rcases right_of h with h | ⟨_, h1, h2⟩
    · exact right_one h
    · obtain ⟨m, rfl⟩ : ∃ k, m = k + 1 := ⟨m - 1, by omega⟩
      refine right_many h1 (List.all_eq_true.2 fun x hx => ih (by omega) x (List.all_eq_true.1 h2 x hx))
theorem foldl_max_ge {m : Nat} : ∀ (l : List Nat) (a : Nat), m ≤ a ∨ m ∈ l → m ≤ l.foldl max a
  | [], a, h => by rcases h with h | h; exact h; cases h
  | b :: l, a, h => by
    refine foldl_max_ge l (max a b) ?_
    rcases h with h | h
    · exact .inl (by omega)
    · rcases List.mem_cons.1 h with rfl | h
      · exact .inl (by omega)
      · exact .inr h
theorem deep_item {m : Nat} {v x : JV} (hk : v.kind = 5 ∨ v.kind = 6) (hx : x ∈ v.items) : deepJ m x + 1 ≤ deepJ (m + 1) v := by
  rw [deepJ, if_pos hk]
  have := foldl_max_ge (m := deepJ m x) (v.items.map (deepJ m)) 0 (.inr (List.mem_map.2 ⟨x, hx, rfl⟩))
  omega
theorem deep_least {m k : Nat} {v : JV} (h : ∀ x ∈ v.items, deepJ m x ≤ k) : deepJ (m + 1) v ≤ k + 1 := by
  rw [deepJ]
  split
  · have := foldl_max_le (m := k) (v.items.map (deepJ m)) 0 (by omega) fun y hy => by
      obtain ⟨x, hx, rfl⟩ := List.mem_map.1 hy
      exact h x hx
    omega
  · omega
/-- A right tree that isn't deeper is right within more. -/
theorem right_deep : ∀ (m k : Nat) (n : Nat) (v : JV), rightJ n v = true → deepJ m v ≤ k → k < m → rightJ k v = true
  | 0, k, n, v, _, _, h3 => by omega
  | m + 1, k, n, v, h1, h2, h3 => by
    rcases right_of h1 with h | ⟨_, h4, h5⟩
    · exact right_one h
    · have hk := many_kind h4
      have hd : 1 ≤ deepJ (m + 1) v := by rw [deepJ, if_pos hk]; omega
      obtain ⟨k, rfl⟩ : ∃ j, k = j + 1 := ⟨k - 1, by omega⟩
      refine right_many h4 (List.all_eq_true.2 fun x hx => ?_)
      have := deep_item (m := m) hk hx
      exact right_deep m k (n - 1) x (List.all_eq_true.1 h5 x hx) (by omega) (by omega)
theorem deep_right : ∀ (k m : Nat) (v : JV), rightJ k v = true → deepJ m v ≤ k
  | k, 0, v, _ => Nat.zero_le _
  | k, m + 1, v, h => by
    rcases right_of h with h | ⟨h3, h4, h5⟩
    · rw [deepJ, if_neg (one_kind h)]; exact Nat.zero_le _
    · obtain ⟨k, rfl⟩ : ∃ j, k = j + 1 := ⟨k - 1, by omega⟩
      exact deep_least fun x hx => deep_right k m x (List.all_eq_true.1 h5 x hx)
/-! Right objects -/
theorem right_obj {n : Nat} {v : JV} (h : rightJ n v = true) (hk : v.kind = 6) : 0 < n ∧ v.num = 0 ∧ v.text = [] ∧ v.names.length = v.items.length ∧ v.names.all Lib.validD = true ∧ srt v.names = true ∧ v.items.all (rightJ (n - 1)) = true := by
  rcases right_of h with h | ⟨h3, h4, h5⟩
  · exact absurd (.inr hk) (one_kind h)
  · unfold manyJ at h4
    rw [if_neg (by omega), if_pos hk] at h4
    simp only [bareJ, namedJ, Bool.and_eq_true, decide_eq_true_eq] at h4
    exact ⟨h3, h4.1.1, h4.1.2, h4.2.1.1, h4.2.1.2, h4.2.2, h5⟩
theorem obj_right {n : Nat} {l : Prs} (h1 : ∀ s ∈ l.map (·.1), Lib.validD s = true) (h2 : srt (l.map (·.1)) = true) (h3 : ∀ x ∈ l.map (·.2), rightJ n x = true) : rightJ (n + 1) (ofP objJ l) = true := by
  refine right_many ?_ (List.all_eq_true.2 h3)
  unfold manyJ
  rw [if_neg (by show ¬ ((6 : Int) = 5); decide), if_pos (by rfl)]
  simp only [bareJ, namedJ, Bool.and_eq_true, decide_eq_true_eq]
  exact ⟨⟨rfl, rfl⟩, ⟨by simp [ofP, JV.names, JV.items], List.all_eq_true.2 h1⟩, h2⟩
theorem obj_is {n : Nat} {v : JV} (h : rightJ n v = true) (hk : v.kind = 6) : v = ofP objJ (prs v) := by
  obtain ⟨_, h1, h2, h3, _⟩ := right_obj h hk
  have := ofP_prs h3
  rw [ofP, hk, h1, h2] at this
  exact this.symm
theorem prs_names {v : JV} (h : v.names.length = v.items.length) : (prs v).map (·.1) = v.names := by
  unfold prs; rw [List.map_fst_zip (by omega)]
theorem prs_items {v : JV} (h : v.names.length = v.items.length) : (prs v).map (·.2) = v.items := by
  unfold prs; rw [List.map_snd_zip (by omega)]
/-! Objects without items -/
def cutP (p : bytes → Bool) (l : Prs) : Prs := l.filter (fun q => !p q.1)
def jcut (p : bytes → Bool) (v : JV) : JV := if v.kind = 6 ∧ rightJ 12 v = true then ofP objJ (cutP p (prs v)) else v
theorem srt_filter {l : Prs} {p : bytes × JV → Bool} (h : srt (l.map (·.1)) = true) : srt ((l.filter p).map (·.1)) = true :=
  srt_of_pair ((srt_pair h).sublist (List.Sublist.map _ List.filter_sublist))
/-! Sizes -/
def sumP (l : Prs) : Nat := (l.map fun p => nameW p.1 + sizeJ p.2).sum
theorem size_ofP (v : JV) (l : Prs) : sizeJ (ofP v l) = 1 + v.text.length + sumP l := by
  rw [sizeJ_eq, sizesJ_eq]
  show 1 + v.text.length + ((l.map (·.1)).map nameW).sum + ((l.map (·.2)).map sizeJ).sum = _
  have : ((l.map (·.1)).map nameW).sum + ((l.map (·.2)).map sizeJ).sum = sumP l := by
    unfold sumP
    induction l with
    | nil => rfl
    | cons p r ih => simp only [List.map_cons, List.sum_cons]; omega
  omega
theorem sumP_cons (p : bytes × JV) (r : Prs) : sumP (p :: r) = nameW p.1 + sizeJ p.2 + sumP r := by unfold sumP; rw [List.map_cons, List.sum_cons]
theorem sumP_ins (s : bytes) (x : JV) : ∀ l : Prs, sumP (insP s x l) ≤ nameW s + sizeJ x + sumP l
  | [] => by rw [insP, sumP_cons]; exact Nat.le_refl _
  | p :: r => by
    rw [insP]
    have := sumP_ins s x r
    split
    · rw [sumP_cons, sumP_cons]; omega
    · split
      · rw [sumP_cons, sumP_cons]; simp only; omega
      · rw [sumP_cons]; exact Nat.le_refl _
theorem sumP_filter (p : bytes × JV → Bool) : ∀ l : Prs, sumP (l.filter p) ≤ sumP l
  | [] => Nat.le_refl _
  | q :: r => by
    have := sumP_filter p r
    rw [List.filter_cons]
    split
    · rw [sumP_cons, sumP_cons]; omega
    · rw [sumP_cons]; omega
theorem size_prs {v : JV} (h : v.names.length = v.items.length) : sizeJ v = 1 + v.text.length + sumP (prs v) := by
  rw [← size_ofP, ofP_prs h]
theorem size_put {v : JV} (h : v.names.length = v.items.length) (s : bytes) (x : JV) : sizeJ (jput v s x) ≤ sizeJ v + nameW s + sizeJ x := by
  rw [jput_prs h, size_ofP, size_prs h]
  have := sumP_ins s x (prs v)
  omega
theorem size_cut (p : bytes → Bool) (v : JV) : sizeJ (jcut p v) ≤ sizeJ v := by
  unfold jcut
  split
  · rename_i hc
    obtain ⟨_, h1, h2, h3, _⟩ := right_obj hc.2 hc.1
    rw [size_ofP, size_prs h3]
    have := sumP_filter (fun q => !p q.1) (prs v)
    unfold cutP
    show 1 + 0 + _ ≤ _
    omega
  · exact Nat.le_refl _
end Go.Proofs.YtdahdbnfknmmgaaGreatDoor
end

section
set_option linter.unusedSimpArgs false
set_option linter.unusedVariables false
namespace Go.Proofs.YtdahdbnfknmmgaaGreatDoor.V
open Go
/-- A slice in an object gets a token of its own: a step of the proof alone. -/
theorem mintC {G : Gh} {H : List AObj} {w : World} (hi : HInv G H w) {k i s z : Nat} {sh : Shape} {cs : List AV} (hk : H[k]? = some (.cells sh cs)) (hci : cs[i]? = some (.sl .full z [])) (hs : 0 < s) :
    ∃ G', HInv G' (H.set k (.cells sh (cs.set i (.sl (.tok H.length) s []))) ++ [.grow s 0 none]) w ∧ Step G H w G' (H.set k (.cells sh (cs.set i (.sl (.tok H.length) s []))) ++ [.grow s 0 none]) w := by
  have hkl := lt_of_get hk
  obtain ⟨arr, T, fr, hb, hsz, hr, hf1, hf2, hsh⟩ := hi.cells k sh cs hk
  have hil := lt_of_get hci
  obtain ⟨v, hv⟩ : ∃ v, arr[i]? = some v := ⟨_, Array.getElem?_eq_getElem (by omega)⟩
  have r := hr i _ v hci hv
  have r0 := r
  cases r with
  | sl _ _ _ ad len cap val hl hcap hs' hc hr' hf ha ho =>
    obtain ⟨hi1, st1, r1⟩ := mint none hi r0 hs (fun h => absurd rfl h) (fun h => absurd rfl h)
    have hk1 : (H ++ [AObj.grow s ([] : List AV).length none])[k]? = some (.cells sh cs) := by rw [List.getElem?_append_left hkl]; exact hk
    have hrel : RelLe (setOwn G H.length ad cap) (H ++ [AObj.grow s ([] : List AV).length none]) w (cs.set i (.sl (.tok H.length) s [])) arr := by
      refine ⟨by rw [List.length_set]; exact hsz, fun j x u e1 e2 => ?_⟩
      rcases get_set e1 with ⟨_, e1'⟩ | ⟨rfl, e1', _⟩
      · exact (hr j x u e1' e2).mono st1
      · subst e1'
        rw [hv] at e2
        cases e2
        exact r1
    have hown : (setOwn G H.length ad cap).own k = G.own k := by simp [setOwn]; intro e; omega
    obtain ⟨hi2, st2⟩ := reshape hi1 hk1 (sh' := sh) (cs' := cs.set i (.sl (.tok H.length) s [])) hb hrel (by rw [List.length_set]; exact shapeOk_own hown hsh)
    have hset : (H ++ [AObj.grow s ([] : List AV).length none]).set k (.cells sh (cs.set i (.sl (.tok H.length) s []))) = H.set k (.cells sh (cs.set i (.sl (.tok H.length) s []))) ++ [.grow s 0 none] := List.set_append_left _ _ hkl
    rw [hset] at hi2 st2
    exact ⟨_, hi2, st1.trans st2⟩
theorem aw_mintC {P : Program} {n : Nat} {c : Code} {Q : Exit → Env → List AObj → Prop} {env : Env} {H : List AObj} (k i s : Nat) {z : Nat} {sh : Shape} {cs : List AV} (hk : H[k]? = some (.cells sh cs)) (hci : cs[i]? = some (.sl .full z [])) (hs : 0 < s)
    (h : AW P n c Q env (H.set k (.cells sh (cs.set i (.sl (.tok H.length) s []))) ++ [.grow s 0 none])) : AW P n c Q env H := by
  intro ro N ds G a w sat
  obtain ⟨G', hi, st⟩ := mintC sat.inv hk hci hs
  exact wpIn_mono (h ro N ds G' a w ⟨sat.size, sat.defers, fun u => (sat.env u).mono st, hi⟩) fun _ _ _ p => p.trans st
theorem leAll_at {xs ys : List AV} (h : LeAll xs ys) {j : Nat} {y : AV} (e : ys[j]? = some y) : ∃ x, xs[j]? = some x ∧ Le x y := h.get.2 j y e
/-- An object's cells, told weaker. -/
theorem leC {G : Gh} {H : List AObj} {w : World} (hi : HInv G H w) {k : Nat} {sh : Shape} {cs cs' : List AV} (hk : H[k]? = some (.cells sh cs)) (hle : LeAll cs cs') : HInv G (H.set k (.cells sh cs')) w ∧ Step G H w G (H.set k (.cells sh cs')) w := by
  obtain ⟨arr, T, fr, hb, hsz, hr, hf1, hf2, hsh⟩ := hi.cells k sh cs hk
  have hl := hle.get.1
  have hrel : RelLe G H w cs' arr := ⟨by omega, fun j x u e1 e2 => by
    obtain ⟨z, hz, hzx⟩ := leAll_at hle e1
    exact hzx _ _ _ _ (hr j z u hz e2)⟩
  exact reshape hi hk (sh' := sh) (cs' := cs') hb hrel (by rw [← hl]; exact hsh)
theorem aw_leC {P : Program} {n : Nat} {c : Code} {Q : Exit → Env → List AObj → Prop} {env : Env} {H : List AObj} (k : Nat) {sh : Shape} {cs cs' : List AV} (hk : H[k]? = some (.cells sh cs)) (hle : LeAll cs cs')
    (h : AW P n c Q env (H.set k (.cells sh cs'))) : AW P n c Q env H := by
  intro ro N ds G a w sat
  obtain ⟨hi, st⟩ := leC sat.inv hk hle
  exact wpIn_mono (h ro N ds G a w ⟨sat.size, sat.defers, fun u => (sat.env u).mono st, hi⟩) fun _ _ _ p => p.trans st
/-- A loop's end, new objects dropped. -/
theorem shift_cut2 {H₀ H' M : List AObj} {env env' : Env} (h : EnvLe env env') (hlen : H₀.length ≤ H'.length) (hl : EnvLow H'.length env') (hobj : ∀ (k : Nat) (sh : Shape) (cs : List AV), H'[k]? = some (.cells sh cs) → H₀[k]? = some (.cells sh cs) ∨ ∀ y ∈ cs, Low H'.length y) : Shift H₀ env (H' ++ M) env' H' := fun G₀ w₀ G w vs h0 hi hs r => by
  have htk : (H' ++ M).take H'.length = H' := List.take_left
  have hc := hi.cut H'.length fun k sh cs hk e y hy => by
    rw [List.getElem?_append_left hk] at e
    rcases hobj k sh cs e with e | e
    · obtain ⟨arr, T, fr, hb', hsz, hr', _⟩ := h0.cells k sh cs e
      obtain ⟨j, hj⟩ := List.mem_iff_getElem?.1 hy
      have hja : j < arr.size := Nat.lt_of_lt_of_le (lt_of_get hj) hsz
      exact ((hr' j y _ hj (Array.getElem?_eq_getElem hja)).low).mono hlen
    · exact e y hy
  have hs' := hs.cut (m := H'.length) hlen
  rw [htk] at hc hs'
  refine ⟨G, hc, hs', fun t => ?_⟩
  have := (h t _ _ _ _ (r t)).cut H'.length (hl t)
  rwa [htk] at this
theorem again_drop {α : Type} {I : α → Prop} {E : α → Env} {Hf : α → List AObj} {m : α → Nat} {x : α} {env : Env} {H : List AObj} (mm : Nat) (M : List AObj) (y : α) (hm : m y < m x) (hI : I y) (hH : H = Hf y ++ M) (h1 : (Hf y).length = mm) (h2 : (Hf x).length ≤ mm) (hL : EnvLow mm (E y))
    (hobj : ∀ (k : Nat) (sh : Shape) (cs : List AV), (Hf y)[k]? = some (.cells sh cs) → (Hf x)[k]? = some (.cells sh cs) ∨ ∀ z ∈ cs, Low mm z) (hE : EnvLe env (E y)) : Again I E Hf m x env H := by
  subst hH
  subst h1
  exact again_shift y hm hI (shift_cut2 hE h2 hL hobj)
theorem obj_app {H L L' : List AObj} {m : Nat} (h : ∀ o ∈ L', ∀ (sh : Shape) (cs : List AV), o = .cells sh cs → ∀ z ∈ cs, Low m z) : ∀ (k : Nat) (sh : Shape) (cs : List AV), (H ++ L')[k]? = some (.cells sh cs) → (H ++ L)[k]? = some (.cells sh cs) ∨ ∀ z ∈ cs, Low m z := fun k sh cs e => by
  by_cases hk : k < H.length
  · rw [List.getElem?_append_left hk] at e
    exact .inl (by rw [List.getElem?_append_left hk]; exact e)
  · rw [List.getElem?_append_right (by omega)] at e
    exact .inr (h _ (List.mem_of_getElem? e) sh cs rfl)
end Go.Proofs.YtdahdbnfknmmgaaGreatDoor.V
end

section
set_option linter.unusedSimpArgs false
set_option linter.unusedVariables false
namespace Go.Proofs.YtdahdbnfknmmgaaGreatDoor
open Go V
set_option maxRecDepth 10000
set_option maxHeartbeats 4000000
theorem prs_len {v : JV} (h : v.names.length = v.items.length) : (prs v).length = v.names.length := by
  unfold prs; rw [List.length_zip]; omega
theorem prs_get {v : JV} (h : v.names.length = v.items.length) {i : Nat} (hi : i < v.names.length) : (prs v)[i]? = some (v.names.getD i [], v.items.getD i zeroJ) := by
  unfold prs
  rw [List.getElem?_zip_eq_some]
  exact ⟨get_getD [] hi, get_getD zeroJ (by omega)⟩
theorem take_put {α : Type} {l : List α} {i : Nat} {a : α} (h : l[i]? = some a) : l.take (i + 1) = l.take i ++ [a] := by
  rw [List.take_add_one, h]
  rfl
theorem drop_put {α : Type} {l : List α} {i : Nat} {a : α} (h : l[i]? = some a) : l.drop i = a :: l.drop (i + 1) := by
  have hi := lt_of_get h
  rw [List.drop_eq_getElem_cons hi]
  rw [List.getElem?_eq_getElem hi] at h
  cases h
  rfl
/-- The state of put's loop: the place, whether it is put, what is made. -/
structure PS where
  i : Nat
  d : Bool
  o : Prs
abbrev oCells (m m2 : Nat) (o : Prs) : List AV := [.lit (.int .i64 6), .lit (.int .i64 0), .str [], .sl (.tok m) 1 ((o.map (·.1)).map .str), .sl (.tok m2) 5 ((o.map (·.2)).map jAV)]
def oObjs (H : List AObj) (o : Prs) : List AObj := H ++ [.cells (.one 29) zCells, .cells (.one 29) (oCells (H.length + 2) (H.length + 3) o), .grow 1 o.length none, .grow 5 o.length none]
end Go.Proofs.YtdahdbnfknmmgaaGreatDoor
end

section
set_option linter.unusedSimpArgs false
set_option linter.unusedVariables false
namespace Go.Proofs.YtdahdbnfknmmgaaGreatDoor
open Go V
set_option maxRecDepth 10000
set_option maxHeartbeats 4000000
def withP (v : JV) (s : bytes) (x : JV) : JV × Int :=
  if v.kind = 6 ∧ rightJ 12 v = true ∧ rightJ 12 x = true ∧ Lib.validD s = true then (if 12 ≤ deepJ 13 x then (zeroJ, 4) else (jput v s x, 0)) else (zeroJ, 1)
theorem withP_no {v x : JV} {s : bytes} (h : ¬ (v.kind = 6 ∧ rightJ 12 v = true ∧ rightJ 12 x = true ∧ Lib.validD s = true)) : withP v s x = (zeroJ, 1) := if_neg h
theorem obj_ok {n : Nat} {v : JV} (h : rightJ n v = true) (hk : v.kind = 6) (hs : sizeJ v ≤ 40000) : objOk v := by
  obtain ⟨_, _, _, h3, _, h5, _⟩ := right_obj h hk
  have := size_both v
  exact ⟨h3, h5, by omega⟩
theorem err_done {H M : List AObj} {p : JV × Int} {e : Int} (h : p = (zeroJ, e)) : Done H (fun x H' => x = parseAV p ∧ H' = H) (.tup [.agg zCells, .lit (.int .i64 e)]) (H ++ M) := by
  subst h
  exact done_weak (le_pair le_zero) (done_cut (parseAV (zeroJ, e)) (Le.refl _) low_parse ⟨rfl, rfl⟩)
theorem With_j (v x : JV) (s : bytes) (H : List AObj) (hv : sizeJ v ≤ 40000) (hx : sizeJ x ≤ 40000) (hs : s.length ≤ 10000) : ACalls Tryz.prog 22 [jAV v, .str s, jAV x] H (fun y H' => y = parseAV (withP v s x) ∧ H' = H) := by
  have cv := fun H => Right_j v H hv
  have cx := fun H => Right_j x H hx
  have cs := fun H => Right_c (o := .sh) s H (Nat.le_trans hs (by decide))
  have cd := fun H => Deep_c x H hx
  by_cases hk : v.kind = 6
  · have hkt := eq_true hk
    by_cases h1 : rightJ 12 v = true
    · by_cases h2 : rightJ 12 x = true
      · by_cases h3 : Lib.validD s = true
        · have hw : withP v s x = if 12 ≤ deepJ 13 x then (zeroJ, 4) else (jput v s x, 0) := if_pos ⟨hk, h1, h2, h3⟩
          rw [hw]
          by_cases h4 : 12 ≤ deepJ 13 x
          · rw [if_pos h4]
            have h4t : (12 ≤ ((deepJ 13 x : Nat) : Int)) = True := eq_true (by omega)
            refine acalls_vc L_ok mixed [] (rs := [.cell 6 29, .tmp 7]) (n := 38) Tryz.func22 rfl rfl rfl rfl (Nat.le_of_ble_eq_true rfl) (by kernel_rfl) ?_
            repeat' (first | refine unhold ?_ | (simp -dsimp -implicitDefEqProofs (disch := (first | assumption | omega | (simp only [ll1, ll2, ll3, ll4, ll5, ll6, ll7, ll8]; omega))) only [go_sem, hkt, h1, h2, h3, h4t]) | refine acalls_same (cv _) ?_ | refine ⟨_, cv _, ?_⟩ | refine ⟨_, _, cv _, ?_⟩ | refine acalls_same (cx _) ?_ | refine ⟨_, cx _, ?_⟩ | refine ⟨_, _, cx _, ?_⟩ | refine acalls_same (Right_c s _ (Nat.le_trans hs (by decide))) ?_ | refine ⟨_, Right_c s _ (Nat.le_trans hs (by decide)), ?_⟩ | refine ⟨_, _, Right_c s _ (Nat.le_trans hs (by decide)), ?_⟩ | refine acalls_same (cd _) ?_ | refine ⟨_, cd _, ?_⟩ | refine ⟨_, _, cd _, ?_⟩ | refine vcI (fun _ => ?_) (fun _ => ?_) | (refine vcA ?_ ?_; focus (repeat' (first | omega | assumption | refine vcA ?_ ?_); done)) | omega | refine imp_in (fun _ => ?_))
            exact err_done rfl
          · rw [if_neg h4]
            have h4f : (12 ≤ ((deepJ 13 x : Nat) : Int)) = False := eq_false (by omega)
            have cp := fun H => put_c v s x H (obj_ok h1 hk hv)
            refine acalls_vc L_ok mixed [] (rs := [.cell 6 29, .tmp 7]) (n := 38) Tryz.func22 rfl rfl rfl rfl (Nat.le_of_ble_eq_true rfl) (by kernel_rfl) ?_
            repeat' (first | refine unhold ?_ | (simp -dsimp -implicitDefEqProofs (disch := (first | assumption | omega | (simp only [ll1, ll2, ll3, ll4, ll5, ll6, ll7, ll8]; omega))) only [go_sem, hkt, h1, h2, h3, h4f]) | refine acalls_same (cv _) ?_ | refine ⟨_, cv _, ?_⟩ | refine ⟨_, _, cv _, ?_⟩ | refine acalls_same (cx _) ?_ | refine ⟨_, cx _, ?_⟩ | refine ⟨_, _, cx _, ?_⟩ | refine acalls_same (Right_c s _ (Nat.le_trans hs (by decide))) ?_ | refine ⟨_, Right_c s _ (Nat.le_trans hs (by decide)), ?_⟩ | refine ⟨_, _, Right_c s _ (Nat.le_trans hs (by decide)), ?_⟩ | refine acalls_same (cd _) ?_ | refine ⟨_, cd _, ?_⟩ | refine ⟨_, _, cd _, ?_⟩ | refine acalls_same (cp _) ?_ | refine ⟨_, cp _, ?_⟩ | refine ⟨_, _, cp _, ?_⟩ | refine vcI (fun _ => ?_) (fun _ => ?_) | (refine vcA ?_ ?_; focus (repeat' (first | omega | assumption | refine vcA ?_ ?_); done)) | omega | refine imp_in (fun _ => ?_))
            exact done_cut (parseAV (jput v s x, 0)) (Le.refl _) low_parse ⟨rfl, rfl⟩
        · rw [withP_no (fun h => h3 h.2.2.2)]
          have h3f : Lib.validD s = false := by simpa using h3
          refine acalls_vc L_ok mixed [] (rs := [.cell 6 29, .tmp 7]) (n := 38) Tryz.func22 rfl rfl rfl rfl (Nat.le_of_ble_eq_true rfl) (by kernel_rfl) ?_
          repeat' (first | refine unhold ?_ | (simp -dsimp -implicitDefEqProofs (disch := (first | assumption | omega | (simp only [ll1, ll2, ll3, ll4, ll5, ll6, ll7, ll8]; omega))) only [go_sem, hkt, h1, h2, h3f]) | refine acalls_same (cv _) ?_ | refine ⟨_, cv _, ?_⟩ | refine ⟨_, _, cv _, ?_⟩ | refine acalls_same (cx _) ?_ | refine ⟨_, cx _, ?_⟩ | refine ⟨_, _, cx _, ?_⟩ | refine acalls_same (Right_c s _ (Nat.le_trans hs (by decide))) ?_ | refine ⟨_, Right_c s _ (Nat.le_trans hs (by decide)), ?_⟩ | refine ⟨_, _, Right_c s _ (Nat.le_trans hs (by decide)), ?_⟩ | refine vcI (fun _ => ?_) (fun _ => ?_) | (refine vcA ?_ ?_; focus (repeat' (first | omega | assumption | refine vcA ?_ ?_); done)) | omega | refine imp_in (fun _ => ?_))
          exact err_done rfl
      · rw [withP_no (fun h => h2 h.2.2.1)]
        have h2f : rightJ 12 x = false := by simpa using h2
        refine acalls_vc L_ok mixed [] (rs := [.cell 6 29, .tmp 7]) (n := 38) Tryz.func22 rfl rfl rfl rfl (Nat.le_of_ble_eq_true rfl) (by kernel_rfl) ?_
        repeat' (first | refine unhold ?_ | (simp -dsimp -implicitDefEqProofs (disch := (first | assumption | omega | (simp only [ll1, ll2, ll3, ll4, ll5, ll6, ll7, ll8]; omega))) only [go_sem, hkt, h1, h2f]) | refine acalls_same (cv _) ?_ | refine ⟨_, cv _, ?_⟩ | refine ⟨_, _, cv _, ?_⟩ | refine acalls_same (cx _) ?_ | refine ⟨_, cx _, ?_⟩ | refine ⟨_, _, cx _, ?_⟩ | refine vcI (fun _ => ?_) (fun _ => ?_) | (refine vcA ?_ ?_; focus (repeat' (first | omega | assumption | refine vcA ?_ ?_); done)) | omega | refine imp_in (fun _ => ?_))
        exact err_done rfl
    · rw [withP_no (fun h => h1 h.2.1)]
      have h1f : rightJ 12 v = false := by simpa using h1
      refine acalls_vc L_ok mixed [] (rs := [.cell 6 29, .tmp 7]) (n := 38) Tryz.func22 rfl rfl rfl rfl (Nat.le_of_ble_eq_true rfl) (by kernel_rfl) ?_
      repeat' (first | refine unhold ?_ | (simp -dsimp -implicitDefEqProofs (disch := (first | assumption | omega | (simp only [ll1, ll2, ll3, ll4, ll5, ll6, ll7, ll8]; omega))) only [go_sem, hkt, h1f]) | refine acalls_same (cv _) ?_ | refine ⟨_, cv _, ?_⟩ | refine ⟨_, _, cv _, ?_⟩ | refine vcI (fun _ => ?_) (fun _ => ?_) | (refine vcA ?_ ?_; focus (repeat' (first | omega | assumption | refine vcA ?_ ?_); done)) | omega | refine imp_in (fun _ => ?_))
      exact err_done rfl
  · rw [withP_no (fun h => hk h.1)]
    have hkf := eq_false hk
    refine acalls_vc L_ok mixed [] (rs := [.cell 6 29, .tmp 7]) (n := 38) Tryz.func22 rfl rfl rfl rfl (Nat.le_of_ble_eq_true rfl) (by kernel_rfl) ?_
    repeat' (first | refine unhold ?_ | (simp -dsimp -implicitDefEqProofs (disch := (first | assumption | omega | (simp only [ll1, ll2, ll3, ll4, ll5, ll6, ll7, ll8]; omega))) only [go_sem, hkf]) | refine vcI (fun _ => ?_) (fun _ => ?_) | (refine vcA ?_ ?_; focus (repeat' (first | omega | assumption | refine vcA ?_ ?_); done)) | omega | refine imp_in (fun _ => ?_))
    exact err_done rfl
def hasB (ns : List bytes) (s : bytes) : Bool := ns.any (fun n => n == s)
theorem idxS_has (ns : List bytes) (s : bytes) : decide (0 ≤ idxS ns s) = hasB ns s := by
  unfold idxS hasB
  cases h : ns.findIdx? (fun n => n == s) with
  | none =>
    rw [List.findIdx?_eq_none_iff] at h
    rw [decide_eq_false (by simp only; omega)]
    symm
    rw [List.any_eq_false]
    exact fun x hx => by simpa using h x hx
  | some i =>
    obtain ⟨h1, h2, _⟩ := List.findIdx?_eq_some_iff_getElem.1 h
    rw [decide_eq_true (by simp only; omega)]
    symm
    rw [List.any_eq_true]
    exact ⟨_, List.getElem_mem h1, h2⟩
theorem cutP_put {p : bytes → Bool} {l : Prs} {i : Nat} {a : bytes × JV} (h : l[i]? = some a) : cutP p (l.take (i + 1)) = cutP p (l.take i) ++ (if p a.1 = true then [] else [a]) := by
  rw [take_put h]
  unfold cutP
  rw [List.filter_append, List.filter_cons, List.filter_nil]
  cases p a.1 <;> rfl
theorem cutP_len (p : bytes → Bool) (l : Prs) (i : Nat) : (cutP p (l.take i)).length ≤ i := by
  have := List.length_filter_le (fun q => !p q.1) (l.take i)
  rw [List.length_take] at this
  unfold cutP
  omega
theorem Without_j {o : Own} (v : JV) (ns : List bytes) (H : List AObj) (hv : sizeJ v ≤ 40000) (hn : ns.length ≤ 100000) : ACalls Tryz.prog 23 [jAV v, .sl o 1 (ns.map .str)] H (fun y H' => y = jAV (jcut (hasB ns) v) ∧ H' = H) := by
  have cv := fun H => Right_j v H hv
  by_cases hk : v.kind = 6
  · have hkt := eq_true hk
    by_cases h1 : rightJ 12 v = true
    · have hj : jcut (hasB ns) v = ofP objJ (cutP (hasB ns) (prs v)) := if_pos ⟨hk, h1⟩
      rw [hj]
      have hok := obj_ok h1 hk hv
      have hpl := prs_len hok.1
      have hn1 := hok.1
      have hn2 := hok.2.2
      have hpg := fun i hi => prs_get (v := v) (i := i) hok.1 hi
      have mS : ∀ (a : List bytes) (b : bytes), a.map AV.str ++ [.str b] = (a ++ [b]).map AV.str := fun a b => by simp
      have mJ : ∀ (a : List JV) (b : JV), a.map jAV ++ [jAV b] = (a ++ [b]).map jAV := fun a b => by simp
      refine acalls_vc L_ok mixed [1000009] (rs := [.cell 4 29]) (n := 48) Tryz.func23 rfl rfl rfl rfl (Nat.le_of_ble_eq_true rfl) (by kernel_rfl) ?_
      repeat' (first | refine unhold ?_ | (simp -dsimp -implicitDefEqProofs (disch := (first | assumption | omega | (simp only [ll1, ll2, ll3, ll4, ll5, ll6, ll7, ll8]; omega))) only [go_sem, hkt, h1]) | refine acalls_same (cv _) ?_ | refine ⟨_, cv _, ?_⟩ | refine ⟨_, _, cv _, ?_⟩ | refine vcI (fun _ => ?_) (fun _ => ?_) | (refine vcA ?_ ?_; focus (repeat' (first | omega | assumption | refine vcA ?_ ?_); done)) | omega | refine imp_in (fun _ => ?_))
      refine aw_mintC (H.length + 1) 3 1 (by simp; exact ⟨rfl, rfl⟩) rfl (by decide) ?_
      refine aw_mintC (H.length + 1) 4 5 (by simp; exact ⟨rfl, rfl⟩) rfl (by decide) ?_
      refine vc_loopk L_ok mixed [1000009] [1, 2, 4, 5, 19, 20] (fun i : Nat => i ≤ v.names.length) (fun i => [(21, .int .i64 i)]) (fun i => oObjs H (cutP (hasB ns) ((prs v).take i))) (fun i => v.names.length - i) (by kernel_rfl) ?_ 0 (by omega) env_ok (by simp [oObjs, cutP])
      intro i hi
      have hol := cutP_len (hasB ns) (prs v) i
      unfold oObjs
      dsimp only [oCells, zCells]
      by_cases hil : i < v.names.length
      · have t1 := cutP_put (p := hasB ns) (hpg i hil)
        have cc := fun H => Contains_c (o := o) ns (v.names.getD i []) H (by omega)
        rw [idxS_has] at cc
        cases hp : hasB ns (v.names.getD i []) with
        | true =>
          rw [if_pos hp, List.append_nil] at t1
          repeat' (first | refine unhold ?_ | (simp -dsimp -implicitDefEqProofs (disch := (first | assumption | omega | (simp only [ll1, ll2, ll3, ll4, ll5, ll6, ll7, ll8]; omega))) only [go_sem, hp]) | refine acalls_same (cc _) ?_ | refine ⟨_, cc _, ?_⟩ | refine ⟨_, _, cc _, ?_⟩ | refine vcI (fun _ => ?_) (fun _ => ?_) | (refine vcA ?_ ?_; focus (repeat' (first | omega | assumption | refine vcA ?_ ?_); done)) | omega | refine imp_in (fun _ => ?_))
          refine again (i + 1) ?_ ?_ ?_ env_ok
          · omega
          · omega
          · rw [t1]
        | false =>
          rw [if_neg (by rw [hp]; decide)] at t1
          generalize cutP (hasB ns) ((prs v).take i) = q at *
          repeat' (first | refine unhold ?_ | (simp -dsimp -implicitDefEqProofs (disch := (first | assumption | omega | (simp only [ll1, ll2, ll3, ll4, ll5, ll6, ll7, ll8]; omega))) only [go_sem, hp, mS, mJ]) | refine acalls_same (cc _) ?_ | refine ⟨_, cc _, ?_⟩ | refine ⟨_, _, cc _, ?_⟩ | refine vcI (fun _ => ?_) (fun _ => ?_) | (refine vcA ?_ ?_; focus (repeat' (first | omega | assumption | refine vcA ?_ ?_); done)) | omega | refine imp_in (fun _ => ?_))
          refine again (i + 1) ?_ ?_ ?_ env_ok
          · omega
          · omega
          · rw [t1]; simp
      · obtain rfl : i = v.names.length := by omega
        rw [← hpl, List.take_length]
        repeat' (first | refine unhold ?_ | (simp -dsimp -implicitDefEqProofs (disch := (first | assumption | omega | (simp only [ll1, ll2, ll3, ll4, ll5, ll6, ll7, ll8]; omega))) only [go_sem]) | refine vcI (fun _ => ?_) (fun _ => ?_) | (refine vcA ?_ ?_; focus (repeat' (first | omega | assumption | refine vcA ?_ ?_); done)) | omega | refine imp_in (fun _ => ?_))
        exact done_weak (le_j le_sh le_sh) (done_cut (jAV (ofP objJ (cutP (hasB ns) (prs v)))) (Le.refl _) (low_jAV _) ⟨rfl, rfl⟩)
    · have hj : jcut (hasB ns) v = v := if_neg (fun h => h1 h.2)
      rw [hj]
      have h1f : rightJ 12 v = false := by simpa using h1
      refine acalls_vc L_ok mixed [1000009] (rs := [.cell 4 29]) (n := 48) Tryz.func23 rfl rfl rfl rfl (Nat.le_of_ble_eq_true rfl) (by kernel_rfl) ?_
      repeat' (first | refine unhold ?_ | (simp -dsimp -implicitDefEqProofs (disch := (first | assumption | omega | (simp only [ll1, ll2, ll3, ll4, ll5, ll6, ll7, ll8]; omega))) only [go_sem, hkt, h1f]) | refine acalls_same (cv _) ?_ | refine ⟨_, cv _, ?_⟩ | refine ⟨_, _, cv _, ?_⟩ | refine vcI (fun _ => ?_) (fun _ => ?_) | (refine vcA ?_ ?_; focus (repeat' (first | omega | assumption | refine vcA ?_ ?_); done)) | omega | refine imp_in (fun _ => ?_))
      exact done_cut (jAV v) (Le.refl _) (low_jAV _) ⟨rfl, rfl⟩
  · have hj : jcut (hasB ns) v = v := if_neg (fun h => hk h.1)
    rw [hj]
    have hkf := eq_false hk
    refine acalls_vc L_ok mixed [1000009] (rs := [.cell 4 29]) (n := 48) Tryz.func23 rfl rfl rfl rfl (Nat.le_of_ble_eq_true rfl) (by kernel_rfl) ?_
    repeat' (first | refine unhold ?_ | (simp -dsimp -implicitDefEqProofs (disch := (first | assumption | omega | (simp only [ll1, ll2, ll3, ll4, ll5, ll6, ll7, ll8]; omega))) only [go_sem, hkf]) | refine vcI (fun _ => ?_) (fun _ => ?_) | (refine vcA ?_ ?_; focus (repeat' (first | omega | assumption | refine vcA ?_ ?_); done)) | omega | refine imp_in (fun _ => ?_))
    exact done_cut (jAV v) (Le.refl _) (low_jAV _) ⟨rfl, rfl⟩
end Go.Proofs.YtdahdbnfknmmgaaGreatDoor
end

section
set_option linter.unusedSimpArgs false
set_option linter.unusedVariables false
namespace Go.Proofs.YtdahdbnfknmmgaaGreatDoor
open Go V
set_option maxRecDepth 10000
set_option maxHeartbeats 4000000
theorem with_ok {v x : JV} {s : bytes} (h : (withP v s x).2 = 0) : v.kind = 6 ∧ rightJ 12 v = true ∧ rightJ 11 x = true ∧ Lib.validD s = true ∧ (withP v s x).1 = jput v s x := by
  unfold withP at h ⊢
  split at h
  · rename_i hc
    rw [if_pos hc]
    split at h
    · cases h
    · rename_i hd
      rw [if_neg hd]
      exact ⟨hc.1, hc.2.1, right_deep 13 11 12 x hc.2.2.1 (by omega) (by omega), hc.2.2.2, rfl⟩
  · cases h
theorem with_bad {v x : JV} {s : bytes} (h : (withP v s x).2 ≠ 0) : (withP v s x).1 = zeroJ := by
  unfold withP at h ⊢
  split at h
  · rename_i hc
    rw [if_pos hc]
    split at h
    · rename_i hd; rw [if_pos hd]
    · exact absurd rfl h
  · rename_i hc; rw [if_neg hc]
theorem size_with {v x : JV} {s : bytes} : sizeJ (withP v s x).1 ≤ sizeJ v + nameW s + sizeJ x := by
  have h1 := sizeJ_pos v
  by_cases h : (withP v s x).2 = 0
  · obtain ⟨hk, hr, _, _, e⟩ := with_ok h
    rw [e]
    exact size_put (right_obj hr hk).2.2.2.1 s x
  · rw [with_bad h]
    have : sizeJ zeroJ = 1 := rfl
    omega
end Go.Proofs.YtdahdbnfknmmgaaGreatDoor
end

section
set_option linter.unusedSimpArgs false
set_option linter.unusedVariables false
namespace Go.Proofs.YtdahdbnfknmmgaaGreatDoor
open Go V
def pairAV (p : List UInt8 × JV) : AV := .agg (.str p.1 :: (jAV p.2).flat)
theorem flat_p {p : List UInt8 × JV} : (pairAV p).flat = [.str p.1, .lit (.int .i64 p.2.kind), .lit (.int .i64 p.2.num), .str p.2.text, .sl .sh 1 (p.2.names.map .str), .sl .sh 5 (p.2.items.map jAV)] := by unfold pairAV; rw [flat_j]; rfl
theorem fold_p {p : List UInt8 × JV} : AV.agg [.str p.1, .lit (.int .i64 p.2.kind), .lit (.int .i64 p.2.num), .str p.2.text, .sl .sh 1 (p.2.names.map .str), .sl .sh 5 (p.2.items.map jAV)] = pairAV p := by unfold pairAV; rw [flat_j]
theorem drop_1 {a : AV} {l : List AV} : (a :: l).drop 1 = l := rfl
theorem okv_p {p : List UInt8 × JV} : (pairAV p).okv = true := by unfold pairAV; rw [flat_j]; rfl
theorem getD_p {l : List (List UInt8 × JV)} {i : Nat} (h : i < l.length) : (l.map pairAV).getD i .any = pairAV (l.getD i ([], zeroJ)) := by
  rw [List.getD, List.getElem?_map, List.getElem?_eq_getElem h, List.getD, List.getElem?_eq_getElem h]; rfl
attribute [go_sem] flat_p okv_p getD_p fold_p drop_1
theorem low_p {m : Nat} (p : List UInt8 × JV) : ∀ z ∈ (pairAV p).flat, Low m z := fun z hz => by
  have := low_jAV (m := m) p.2
  rw [jAV_eq] at this
  cases this with
  | agg _ h =>
    rw [flat_p] at hz
    rcases List.mem_cons.1 hz with rfl | hz
    · exact .str _
    · exact h z hz
theorem low_psl {m s : Nat} {l : List (List UInt8 × JV)} : Low m (.sl .sh s (l.map pairAV)) := .sl _ _ _ (fun k e => by cases e) fun x hx => by
  unfold flats at hx
  obtain ⟨y, hy, hx⟩ := List.mem_flatMap.1 hx
  obtain ⟨p, hp, rfl⟩ := List.mem_map.1 hy
  exact low_p p x hx
end Go.Proofs.YtdahdbnfknmmgaaGreatDoor
end

section
set_option linter.unusedSimpArgs false
set_option linter.unusedVariables false
namespace Go.Proofs.YtdahdbnfknmmgaaGreatDoor
open Go V
set_option maxRecDepth 10000
set_option maxHeartbeats 4000000
def goodP (p : bytes × JV) : Bool := rightJ 12 p.2 && Lib.validD p.1
def tallP (p : bytes × JV) : Bool := decide (12 ≤ deepJ 13 p.2)
def makeP (l : Prs) : JV × Int :=
  if l.all goodP = true then (match allP [] l with | none => (zeroJ, 6) | some a => if l.any tallP = true then (zeroJ, 4) else (ofP objJ a, 0)) else (zeroJ, 1)
theorem makeP_bad {l : Prs} {i : Nat} {p : bytes × JV} (h : l[i]? = some p) (k : goodP p = false) : makeP l = (zeroJ, 1) := by
  refine if_neg fun e => ?_
  rw [List.all_eq_true.1 e p (List.mem_of_getElem? h)] at k
  cases k
theorem makeP_all {l : Prs} (h : ∀ j, j < l.length → goodP (l.getD j ([], zeroJ)) = true) : makeP l = (match allP [] l with | none => (zeroJ, 6) | some a => if l.any tallP = true then (zeroJ, 4) else (ofP objJ a, 0)) := by
  refine if_pos (List.all_eq_true.2 fun p hp => ?_)
  obtain ⟨j, hj, rfl⟩ := List.mem_iff_getElem.1 hp
  have := h j hj
  rwa [List.getD, List.getElem?_eq_getElem hj] at this
theorem allP_drop {l acc : Prs} {i : Nat} {p : bytes × JV} (h : l[i]? = some p) : allP acc (l.drop i) = if (getP p.1 acc).isSome then none else allP (insP p.1 p.2 acc) (l.drop (i + 1)) := by
  rw [drop_put h, allP]
theorem ins_len (s : bytes) (x : JV) : ∀ l : Prs, (insP s x l).length ≤ l.length + 1
  | [] => by simp [insP]
  | p :: r => by
    have := ins_len s x r
    rw [insP]
    split
    · simp; omega
    · split <;> simp
theorem acc_ok {acc : Prs} (h : srt (acc.map (·.1)) = true) (hl : acc.length ≤ 20000) : objOk (ofP objJ acc) := ⟨by simp [ofP, JV.names, JV.items], h, by simpa [ofP, JV.names] using hl⟩
theorem getP_j (acc : Prs) (s : bytes) : jget (ofP objJ acc) s = getP s acc := jget_ofP rfl acc s
def mObjs (H : List AObj) (v : JV) : List AObj := H ++ [.cells (.one 29) zCells, .cells (.one 29) (jCells v)]
theorem low_zc {m : Nat} : ∀ z ∈ zCells, Low m z := fun z hz => by
  simp only [zCells, List.mem_cons, List.not_mem_nil, or_false] at hz
  rcases hz with rfl | rfl | rfl | rfl | rfl
  · exact .lit _
  · exact .lit _
  · exact .str _
  · exact low_nilsl (fun k e => by cases e)
  · exact low_nilsl (fun k e => by cases e)
theorem low_jcc {m : Nat} (v : JV) : ∀ z ∈ jCells v, Low m z := fun z hz => by
  have := low_jAV (m := m) v
  rw [jAV_eq] at this
  cases this with
  | agg _ h => exact h z hz
theorem mObjs_low (H : List AObj) (v v' : JV) : ∀ (k : Nat) (sh : Shape) (cs : List AV), (mObjs H v')[k]? = some (.cells sh cs) → (mObjs H v)[k]? = some (.cells sh cs) ∨ ∀ z ∈ cs, Low (H.length + 2) z :=
  obj_app fun o ho sh cs e => by
    simp only [List.mem_cons, List.not_mem_nil, or_false] at ho
    subst e
    rcases ho with h | h
    · cases h; exact low_zc
    · cases h; exact low_jcc v'
structure MS where
  i : Nat
  a : Prs
  t : Bool
theorem tall_take {l : Prs} {i : Nat} {p : bytes × JV} (h : l[i]? = some p) : (l.take (i + 1)).any tallP = ((l.take i).any tallP || tallP p) := by
  rw [take_put h, List.any_append]
  simp
theorem tall_int (p : bytes × JV) : tallP p = decide (12 ≤ ((deepJ 13 p.2 : Nat) : Int)) := decide_eq_decide.2 (by omega)
abbrev pCells (p : bytes × JV) : List AV := [.str p.1, .lit (.int .i64 p.2.kind), .lit (.int .i64 p.2.num), .str p.2.text, .sl .sh 1 (p.2.names.map .str), .sl .sh 5 (p.2.items.map jAV)]
theorem zObj_low (H : List AObj) : ∀ (k : Nat) (sh : Shape) (cs : List AV), (H ++ [AObj.cells (.one 29) zCells])[k]? = some (.cells sh cs) → (H ++ [AObj.cells (.one 29) zCells])[k]? = some (.cells sh cs) ∨ ∀ z ∈ cs, Low (H.length + 1) z := fun _ _ _ e => .inl e
theorem goodP_eq (p : bytes × JV) : goodP p = (rightJ 12 p.2 && Lib.validD p.1) := rfl
theorem Make_j (l : Prs) (H : List AObj) (hl : l.length ≤ 1000) (hsz : ∀ p ∈ l, sizeJ p.2 ≤ 10000 ∧ p.1.length ≤ 10000) : ACalls Tryz.prog 35 [.sl .sh 6 (l.map pairAV)] H (fun y H' => y = parseAV (makeP l) ∧ H' = H) := by
  have hsz' : ∀ i, i < l.length → sizeJ (l.getD i ([], zeroJ)).2 ≤ 10000 ∧ (l.getD i ([], zeroJ)).1.length ≤ 10000 := fun i hi => hsz _ (mem_getD hi)
  refine acalls_vc L_ok mixed [] (rs := [.cell 2 29, .tmp 3]) (n := 64) Tryz.func35 rfl rfl rfl rfl (Nat.le_of_ble_eq_true rfl) (by kernel_rfl) ?_
  repeat' (first | refine unhold ?_ | (simp -dsimp -implicitDefEqProofs (disch := (first | assumption | omega | (simp only [ll1, ll2, ll3, ll4, ll5, ll6, ll7, ll8]; omega))) only [go_sem]) | refine vcI (fun _ => ?_) (fun _ => ?_) | (refine vcA ?_ ?_; focus (repeat' (first | omega | assumption | refine vcA ?_ ?_); done)) | omega | refine imp_in (fun _ => ?_))
  refine vc_loopk L_ok mixed [] [0, 2, 12, 13] (fun i : Nat => i ≤ l.length ∧ ∀ j, j < i → goodP (l.getD j ([], zeroJ)) = true) (fun i => [(14, .int .i64 i)]) (fun _ => H ++ [.cells (.one 29) zCells]) (fun i => l.length - i) (by kernel_rfl) ?_ 0 ⟨by omega, fun j hj => by omega⟩ env_ok rfl
  rintro i ⟨hi, hp⟩
  dsimp only [zCells]
  by_cases hil : i < l.length
  · have hg := get_getD ([], zeroJ) hil
    obtain ⟨z1, z2⟩ := hsz' i hil
    have cR := fun H => Right_j (l.getD i ([], zeroJ)).2 H (Nat.le_trans z1 (by decide))
    have filt : ((i : Int) < ((l.length : Nat) : Int)) = True := eq_true (by omega)
    cases g1 : rightJ 12 (l.getD i ([], zeroJ)).2 with
    | false =>
      rw [makeP_bad hg (by rw [goodP_eq, g1]; rfl)]
      repeat' (first | refine unhold ?_ | (simp -dsimp -implicitDefEqProofs (disch := (first | assumption | omega | (simp only [ll1, ll2, ll3, ll4, ll5, ll6, ll7, ll8]; omega))) only [go_sem, filt, g1]) | refine acalls_same (cR _) ?_ | refine ⟨_, cR _, ?_⟩ | refine ⟨_, _, cR _, ?_⟩ | refine vcI (fun _ => ?_) (fun _ => ?_) | (refine vcA ?_ ?_; focus (repeat' (first | omega | assumption | refine vcA ?_ ?_); done)) | omega | refine imp_in (fun _ => ?_))
      exact err_done rfl
    | true =>
      cases g2 : Lib.validD (l.getD i ([], zeroJ)).1 with
      | false =>
        rw [makeP_bad hg (by rw [goodP_eq, g1, g2]; rfl)]
        repeat' (first | refine unhold ?_ | (simp -dsimp -implicitDefEqProofs (disch := (first | assumption | omega | (simp only [ll1, ll2, ll3, ll4, ll5, ll6, ll7, ll8]; omega))) only [go_sem, filt, g1, g2]) | refine acalls_same (cR _) ?_ | refine ⟨_, cR _, ?_⟩ | refine ⟨_, _, cR _, ?_⟩ | refine acalls_same (Right_c _ _ (Nat.le_trans z2 (by decide))) ?_ | refine ⟨_, Right_c _ _ (Nat.le_trans z2 (by decide)), ?_⟩ | refine ⟨_, _, Right_c _ _ (Nat.le_trans z2 (by decide)), ?_⟩ | refine vcI (fun _ => ?_) (fun _ => ?_) | (refine vcA ?_ ?_; focus (repeat' (first | omega | assumption | refine vcA ?_ ?_); done)) | omega | refine imp_in (fun _ => ?_))
        exact err_done rfl
      | true =>
        repeat' (first | refine unhold ?_ | (simp -dsimp -implicitDefEqProofs (disch := (first | assumption | omega | (simp only [ll1, ll2, ll3, ll4, ll5, ll6, ll7, ll8]; omega))) only [go_sem, filt, g1, g2]) | refine acalls_same (cR _) ?_ | refine ⟨_, cR _, ?_⟩ | refine ⟨_, _, cR _, ?_⟩ | refine acalls_same (Right_c _ _ (Nat.le_trans z2 (by decide))) ?_ | refine ⟨_, Right_c _ _ (Nat.le_trans z2 (by decide)), ?_⟩ | refine ⟨_, _, Right_c _ _ (Nat.le_trans z2 (by decide)), ?_⟩ | refine vcI (fun _ => ?_) (fun _ => ?_) | (refine vcA ?_ ?_; focus (repeat' (first | omega | assumption | refine vcA ?_ ?_); done)) | omega | refine imp_in (fun _ => ?_))
        refine again_drop (H.length + 1) [.cells (.one 65) (pCells (l.getD i ([], zeroJ)))] (i + 1) ?_ ?_ ?_ ?_ ?_ (by repeat (first | exact envLow_nil | (refine envLow_cons ?_ ?_; focus (first | exact low_psl | exact .lit _ | exact .str _ | exact .mp _ _ (by omega))))) ?_ env_ok
        · omega
        · exact ⟨by omega, upto_succ hp (by rw [goodP_eq, g1, g2]; rfl)⟩
        · simp
        · simp
        · simp
        · exact zObj_low H
  · obtain rfl : i = l.length := by omega
    rw [makeP_all hp]
    clear hp
    generalize hQ : (match allP [] l with | none => ((zeroJ, 6) : JV × Int) | some a => if l.any tallP = true then (zeroJ, 4) else (ofP objJ a, 0)) = Q
    repeat' (first | refine unhold ?_ | (simp -dsimp -implicitDefEqProofs (disch := (first | assumption | omega | (simp only [ll1, ll2, ll3, ll4, ll5, ll6, ll7, ll8]; omega))) only [go_sem]) | refine vcI (fun _ => ?_) (fun _ => ?_) | (refine vcA ?_ ?_; focus (repeat' (first | omega | assumption | refine vcA ?_ ?_); done)) | omega | refine imp_in (fun _ => ?_))
    refine aw_leC (H.length + 1) (sh := .one 29) (cs := [.lit (.int .i64 6), .lit (.int .i64 0), .str [], .sl .full 0 [], .sl .full 0 []]) (cs' := jCells objJ) (by simp) (.cons (Le.refl _) (.cons (Le.refl _) (.cons (Le.refl _) (.cons (le_nil) (.cons (le_nil) .nil))))) ?_
    refine vc_loopk L_ok mixed [] [2, 6, 32, 33] (fun y : MS => y.i ≤ l.length ∧ y.a.length ≤ y.i ∧ srt (y.a.map (·.1)) = true ∧ y.t = (l.take y.i).any tallP ∧ allP y.a (l.drop y.i) = allP [] l) (fun y => [(34, .int .i64 y.i), (7, .bool y.t)]) (fun y => mObjs H (ofP objJ y.a)) (fun y => l.length - y.i) (by kernel_rfl) ?_ ⟨0, [], false⟩ ⟨by simp, by simp, rfl, rfl, rfl⟩ env_ok (by rw [show ofP objJ [] = objJ from rfl]; simp [mObjs])
    rintro ⟨i, a, t⟩ ⟨hi, hal, hsrt, htl, hall⟩
    dsimp only at hi hal hsrt htl hall ⊢
    by_cases hil : i < l.length
    · have hg := get_getD ([], zeroJ) hil
      obtain ⟨z1, z2⟩ := hsz' i hil
      have filt : ((i : Int) < ((l.length : Nat) : Int)) = True := eq_true (by omega)
      have hok := acc_ok hsrt (by omega)
      rw [allP_drop hg] at hall
      have tt := tall_take hg
      rw [← htl] at tt
      have ti := tall_int (l.getD i ([], zeroJ))
      have cG := fun H => Get_c (ofP objJ a) (l.getD i ([], zeroJ)).1 H (by have := hok.2.2; omega) (by have := hok.2.2; have := hok.1; omega)
      rw [getAV, getP_j] at cG
      have cP := fun H => put_c (ofP objJ a) (l.getD i ([], zeroJ)).1 (l.getD i ([], zeroJ)).2 H hok
      rw [jput_ofP] at cP
      have cD := fun H => Deep_c (l.getD i ([], zeroJ)).2 H (Nat.le_trans z1 (by decide))
      have hln := ins_len (l.getD i ([], zeroJ)).1 (l.getD i ([], zeroJ)).2 a
      have hsr2 := srt_ins (s := (l.getD i ([], zeroJ)).1) (x := (l.getD i ([], zeroJ)).2) hsrt
      generalize hv0 : ofP objJ a = v0 at *
      generalize hv1 : ofP objJ (insP (l.getD i ([], zeroJ)).1 (l.getD i ([], zeroJ)).2 a) = v1 at *
      unfold mObjs
      dsimp only [jCells, zCells]
      cases hj : (getP (l.getD i ([], zeroJ)).1 a).isSome with
      | true =>
        rw [if_pos hj] at hall
        rw [← hall] at hQ
        subst hQ
        repeat' (first | refine unhold ?_ | (simp -dsimp -implicitDefEqProofs (disch := (first | assumption | omega | (simp only [ll1, ll2, ll3, ll4, ll5, ll6, ll7, ll8]; omega))) only [go_sem, filt, hj]) | refine acalls_same (cG _) ?_ | refine ⟨_, cG _, ?_⟩ | refine ⟨_, _, cG _, ?_⟩ | refine vcI (fun _ => ?_) (fun _ => ?_) | (refine vcA ?_ ?_; focus (repeat' (first | omega | assumption | refine vcA ?_ ?_); done)) | omega | refine imp_in (fun _ => ?_))
        exact err_done rfl
      | false =>
        have hz : (getP (l.getD i ([], zeroJ)).1 a).getD zeroJ = zeroJ := by
          cases e : getP (l.getD i ([], zeroJ)).1 a with
          | none => rfl
          | some x => rw [e] at hj; cases hj
        rw [if_neg (by rw [hj]; decide)] at hall
        cases t with
        | true =>
          repeat' (first | refine unhold ?_ | (simp -dsimp -implicitDefEqProofs (disch := (first | assumption | omega | (simp only [ll1, ll2, ll3, ll4, ll5, ll6, ll7, ll8]; omega))) only [go_sem, filt, hj, hz]) | refine acalls_same (cG _) ?_ | refine ⟨_, cG _, ?_⟩ | refine ⟨_, _, cG _, ?_⟩ | refine acalls_same (cP _) ?_ | refine ⟨_, cP _, ?_⟩ | refine ⟨_, _, cP _, ?_⟩ | refine acalls_same (cD _) ?_ | refine ⟨_, cD _, ?_⟩ | refine ⟨_, _, cD _, ?_⟩ | refine vcI (fun _ => ?_) (fun _ => ?_) | (refine vcA ?_ ?_; focus (repeat' (first | omega | assumption | refine vcA ?_ ?_); done)) | omega | refine imp_in (fun _ => ?_))
          refine again_drop (H.length + 2) [.cells (.one 65) (pCells (l.getD i ([], zeroJ))), .cells (.one 29) (jCells zeroJ)] ⟨i + 1, insP (l.getD i ([], zeroJ)).1 (l.getD i ([], zeroJ)).2 a, true⟩ ?_ ?_ ?_ ?_ ?_ (by repeat (first | exact envLow_nil | (refine envLow_cons ?_ ?_; focus (first | exact low_psl | exact .lit _ | exact .str _ | exact .mp _ _ (by omega))))) ?_ env_ok
          · dsimp only; omega
          · exact ⟨by dsimp only; omega, by dsimp only; omega, hsr2, by rw [tt]; rfl, hall⟩
          · dsimp only
            rw [hv1]
            simp
          · simp
          · simp
          · exact mObjs_low H _ _
        | false =>
          cases hd : tallP (l.getD i ([], zeroJ)) with
          | true =>
            rw [hd] at ti
            have hdi : (12 ≤ ((deepJ 13 (l.getD i ([], zeroJ)).2 : Nat) : Int)) = True := eq_true (of_decide_eq_true ti.symm)
            repeat' (first | refine unhold ?_ | (simp -dsimp -implicitDefEqProofs (disch := (first | assumption | omega | (simp only [ll1, ll2, ll3, ll4, ll5, ll6, ll7, ll8]; omega))) only [go_sem, filt, hj, hz, hdi]) | refine acalls_same (cG _) ?_ | refine ⟨_, cG _, ?_⟩ | refine ⟨_, _, cG _, ?_⟩ | refine acalls_same (cP _) ?_ | refine ⟨_, cP _, ?_⟩ | refine ⟨_, _, cP _, ?_⟩ | refine acalls_same (cD _) ?_ | refine ⟨_, cD _, ?_⟩ | refine ⟨_, _, cD _, ?_⟩ | refine vcI (fun _ => ?_) (fun _ => ?_) | (refine vcA ?_ ?_; focus (repeat' (first | omega | assumption | refine vcA ?_ ?_); done)) | omega | refine imp_in (fun _ => ?_))
            refine again_drop (H.length + 2) [.cells (.one 65) (pCells (l.getD i ([], zeroJ))), .cells (.one 29) (jCells zeroJ)] ⟨i + 1, insP (l.getD i ([], zeroJ)).1 (l.getD i ([], zeroJ)).2 a, true⟩ ?_ ?_ ?_ ?_ ?_ (by repeat (first | exact envLow_nil | (refine envLow_cons ?_ ?_; focus (first | exact low_psl | exact .lit _ | exact .str _ | exact .mp _ _ (by omega))))) ?_ env_ok
            · dsimp only; omega
            · exact ⟨by dsimp only; omega, by dsimp only; omega, hsr2, by rw [tt, hd]; rfl, hall⟩
            · dsimp only
              rw [hv1]
              simp
            · simp
            · simp
            · exact mObjs_low H _ _
          | false =>
            rw [hd] at ti
            have hdi : (12 ≤ ((deepJ 13 (l.getD i ([], zeroJ)).2 : Nat) : Int)) = False := eq_false (of_decide_eq_false ti.symm)
            repeat' (first | refine unhold ?_ | (simp -dsimp -implicitDefEqProofs (disch := (first | assumption | omega | (simp only [ll1, ll2, ll3, ll4, ll5, ll6, ll7, ll8]; omega))) only [go_sem, filt, hj, hz, hdi]) | refine acalls_same (cG _) ?_ | refine ⟨_, cG _, ?_⟩ | refine ⟨_, _, cG _, ?_⟩ | refine acalls_same (cP _) ?_ | refine ⟨_, cP _, ?_⟩ | refine ⟨_, _, cP _, ?_⟩ | refine acalls_same (cD _) ?_ | refine ⟨_, cD _, ?_⟩ | refine ⟨_, _, cD _, ?_⟩ | refine vcI (fun _ => ?_) (fun _ => ?_) | (refine vcA ?_ ?_; focus (repeat' (first | omega | assumption | refine vcA ?_ ?_); done)) | omega | refine imp_in (fun _ => ?_))
            refine again_drop (H.length + 2) [.cells (.one 65) (pCells (l.getD i ([], zeroJ))), .cells (.one 29) (jCells zeroJ)] ⟨i + 1, insP (l.getD i ([], zeroJ)).1 (l.getD i ([], zeroJ)).2 a, false⟩ ?_ ?_ ?_ ?_ ?_ (by repeat (first | exact envLow_nil | (refine envLow_cons ?_ ?_; focus (first | exact low_psl | exact .lit _ | exact .str _ | exact .mp _ _ (by omega))))) ?_ env_ok
            · dsimp only; omega
            · exact ⟨by dsimp only; omega, by dsimp only; omega, hsr2, by rw [tt, hd]; rfl, hall⟩
            · dsimp only
              rw [hv1]
              simp
            · simp
            · simp
            · exact mObjs_low H _ _
    · obtain rfl : i = l.length := by omega
      rw [List.drop_length, allP] at hall
      rw [List.take_length] at htl
      rw [← hall] at hQ
      dsimp only at hQ
      unfold mObjs
      dsimp only [jCells, zCells]
      cases t with
      | true =>
        rw [if_pos htl.symm] at hQ
        subst hQ
        repeat' (first | refine unhold ?_ | (simp -dsimp -implicitDefEqProofs (disch := (first | assumption | omega | (simp only [ll1, ll2, ll3, ll4, ll5, ll6, ll7, ll8]; omega))) only [go_sem]) | refine vcI (fun _ => ?_) (fun _ => ?_) | (refine vcA ?_ ?_; focus (repeat' (first | omega | assumption | refine vcA ?_ ?_); done)) | omega | refine imp_in (fun _ => ?_))
        exact err_done rfl
      | false =>
        rw [if_neg (by rw [← htl]; decide)] at hQ
        subst hQ
        repeat' (first | refine unhold ?_ | (simp -dsimp -implicitDefEqProofs (disch := (first | assumption | omega | (simp only [ll1, ll2, ll3, ll4, ll5, ll6, ll7, ll8]; omega))) only [go_sem]) | refine vcI (fun _ => ?_) (fun _ => ?_) | (refine vcA ?_ ?_; focus (repeat' (first | omega | assumption | refine vcA ?_ ?_); done)) | omega | refine imp_in (fun _ => ?_))
        exact done_cut (parseAV (ofP objJ a, 0)) (Le.refl _) low_parse ⟨rfl, rfl⟩
end Go.Proofs.YtdahdbnfknmmgaaGreatDoor
end

section
set_option linter.unusedSimpArgs false
set_option linter.unusedVariables false
namespace Go.Proofs.YtdahdbnfknmmgaaGreatDoor
open Go V
set_option maxRecDepth 10000
set_option maxHeartbeats 4000000
theorem valid_wd {w r : bytes} (hw : ∀ b ∈ w, b.toNat < 128) : Lib.validD (w ++ r) = Lib.validD r := by
  have := Lib.validD_ascii w.length (w ++ r) (by rw [List.take_left]; exact hw)
  rwa [List.drop_left] at this
end Go.Proofs.YtdahdbnfknmmgaaGreatDoor
end

section
set_option linter.unusedSimpArgs false
set_option linter.unusedVariables false
namespace Go.Proofs.YtdahdbnfknmmgaaGreatDoor
open Go V
set_option maxRecDepth 10000
set_option maxHeartbeats 4000000
def isSign (c : UInt8) : Bool := c == 91 || c == 93 || c == 123 || c == 125 || c == 44 || c == 58
def nextW (w t : Bool) (c : UInt8) : Bool := if t then w else if w && c == 92 then w else if c == 34 then !w else w
def nextT (w t : Bool) (c : UInt8) : Bool := if t then false else w && c == 92
/-- A text, and the same one with blanks around its signs. -/
inductive Wide : Bool → Bool → bytes → bytes → Prop
  | nil (w t : Bool) : Wide w t [] []
  | cons (w t : Bool) (c : UInt8) (p q r m : bytes) (hp : ∀ b ∈ p, isBlank b = true) (hq : ∀ b ∈ q, isBlank b = true) (hs : (w = false ∧ isSign c = true) ∨ (p = [] ∧ q = [])) (h : Wide (nextW w t c) (nextT w t c) r m) : Wide w t (c :: r) (p ++ c :: (q ++ m))
inductive Tight : bytes → bytes → Prop
  | nil : Tight [] []
  | cons (c : UInt8) (q r m : bytes) (hc : isBlank c = false) (hq : ∀ b ∈ q, isBlank b = true) (hs : isSign c = true ∨ q = []) (h : Wide (nextW false false c) (nextT false false c) r m) : Tight (c :: r) (c :: (q ++ m))
end Go.Proofs.YtdahdbnfknmmgaaGreatDoor
end

section
set_option linter.unusedSimpArgs false
set_option linter.unusedVariables false
namespace Go.Proofs.YtdahdbnfknmmgaaGreatDoor
open Go V
set_option maxRecDepth 10000
set_option maxHeartbeats 4000000
def hexS (n : Nat) : UInt8 := [48, 49, 50, 51, 52, 53, 54, 55, 56, 57, 97, 98, 99, 100, 101, 102].getD n 0
def escB (c : UInt8) : bytes :=
  if c = 34 then [92, 34] else if c = 92 then [92, 92] else if c = 8 then [92, 98] else if c = 9 then [92, 116] else if c = 10 then [92, 110] else if c = 12 then [92, 102] else if c = 13 then [92, 114]
  else if c.toNat < 32 then [92, 117, 48, 48, UInt8.ofNat (48 + c.toNat / 16), hexS (c.toNat % 16)] else [c]
def quoteP (s : bytes) : bytes := 34 :: (s.flatMap escB ++ [34])
def headP (first obj : Bool) (n : bytes) : bytes := (if first then [] else [44]) ++ (if obj then quoteP n ++ [58] else [])
mutual
def printP : JV → bytes
  | .mk k n t ns is =>
    if k = 1 then wTrue else if k = 2 then wFalse else if k = 3 then Lib.itoa n else if k = 4 then quoteP t
    else if k = 5 then 91 :: (itemsP false is true ns ++ [93])
    else if k = 6 then 123 :: (itemsP true is true ns ++ [125])
    else wNull
def itemsP (obj : Bool) : List JV → Bool → List bytes → bytes
  | [], _, _ => []
  | v :: r, first, ns => headP first obj (ns.headD []) ++ (printP v ++ itemsP obj r false ns.tail)
end
theorem printP_eq (v : JV) : printP v = if v.kind = 1 then wTrue else if v.kind = 2 then wFalse else if v.kind = 3 then Lib.itoa v.num else if v.kind = 4 then quoteP v.text
    else if v.kind = 5 then 91 :: (itemsP false v.items true v.names ++ [93]) else if v.kind = 6 then 123 :: (itemsP true v.items true v.names ++ [125]) else wNull := by
  cases v; rw [printP]; rfl
theorem itemsP_nil (obj first : Bool) (ns : List bytes) : itemsP obj [] first ns = [] := by rw [itemsP]
theorem itemsP_cons (obj first : Bool) (ns : List bytes) (v : JV) (r : List JV) : itemsP obj (v :: r) first ns = headP first obj (ns.headD []) ++ (printP v ++ itemsP obj r false ns.tail) := by rw [itemsP]

/-! Texts -/
theorem escB_len (c : UInt8) : (escB c).length ≤ 6 ∧ 1 ≤ (escB c).length := by
  unfold escB
  repeat' split
  all_goals simp
theorem flat_len (s : bytes) : (s.flatMap escB).length ≤ 6 * s.length := by
  induction s with
  | nil => simp
  | cons c s ih =>
    have := (escB_len c).1
    rw [List.flatMap_cons, List.length_append, List.length_cons]
    omega
theorem quoteP_len (s : bytes) : (quoteP s).length ≤ 6 * s.length + 2 := by
  have := flat_len s
  unfold quoteP
  simp only [List.length_cons, List.length_append, List.length_nil]
  omega
/-! Numbers -/
theorem digit_byte {d : Nat} (h : d < 10) : (UInt8.ofNat (48 + d)).toNat = 48 + d := by
  rw [UInt8.toNat_ofNat_of_lt' (by show 48 + d < 256; omega)]
theorem digit_is {d : Nat} (h : d < 10) : isDigit (UInt8.ofNat (48 + d)) = true := by
  unfold isDigit
  rw [digit_byte h]
  exact decide_eq_true (by omega)
theorem digs_all (u : Nat) : ∀ b ∈ Lib.decDigits u, isDigit b = true := by
  induction u using Nat.strongRecOn with
  | ind u ih =>
    intro b hb
    rw [Lib.decDigits] at hb
    split at hb
    · rename_i h
      simp only [List.mem_cons, List.not_mem_nil, or_false] at hb
      subst hb
      exact digit_is h
    · rename_i h
      rcases List.mem_append.1 hb with hb | hb
      · exact ih (u / 10) (by omega) b hb
      · simp only [List.mem_cons, List.not_mem_nil, or_false] at hb
        subst hb
        exact digit_is (by omega)
theorem digs_ne (u : Nat) : Lib.decDigits u ≠ [] := by
  rw [Lib.decDigits]
  split <;> simp
theorem digs_first (u : Nat) : isDigit (peek (Lib.decDigits u)) = true := by
  have h2 := digs_ne u
  have h3 := digs_all u
  cases hd : Lib.decDigits u with
  | nil => exact absurd hd h2
  | cons a b => rw [hd] at h3; exact h3 a (List.mem_cons_self ..)
end Go.Proofs.YtdahdbnfknmmgaaGreatDoor
end

section
set_option linter.unusedSimpArgs false
set_option linter.unusedVariables false
namespace Go.Proofs.YtdahdbnfknmmgaaGreatDoor
open Go V
set_option maxRecDepth 10000
set_option maxHeartbeats 4000000
/-- A byte that a value may begin with. -/
def startB (c : UInt8) : Bool := c == 110 || c == 116 || c == 102 || c == 34 || c == 45 || c == 91 || c == 123 || isDigit c
theorem itoa_first (n : Int) : ∃ c l, Lib.itoa n = c :: l ∧ (c = 45 ∨ isDigit c = true) := by
  unfold Lib.itoa
  split
  · exact ⟨_, _, rfl, .inl rfl⟩
  · have h2 := digs_ne n.toNat
    have h3 := digs_first n.toNat
    cases hd : Lib.decDigits n.toNat with
    | nil => exact absurd hd h2
    | cons a b => rw [hd] at h3; exact ⟨a, b, rfl, .inr h3⟩
theorem print_first (v : JV) : ∃ c l, printP v = c :: l ∧ startB c = true := by
  rw [printP_eq]
  split
  · exact ⟨_, _, rfl, rfl⟩
  split
  · exact ⟨_, _, rfl, rfl⟩
  split
  · obtain ⟨c, l, h1, h2⟩ := itoa_first v.num
    refine ⟨c, l, h1, ?_⟩
    unfold startB
    rcases h2 with rfl | h2
    · rfl
    · rw [h2, Bool.or_true]
  split
  · exact ⟨_, _, rfl, rfl⟩
  split
  · exact ⟨_, _, rfl, rfl⟩
  split
  · exact ⟨_, _, rfl, rfl⟩
  · exact ⟨_, _, rfl, rfl⟩
theorem kind_mk {k n : Int} {t : bytes} {ns : List bytes} {is : List JV} : (JV.mk k n t ns is).kind = k := rfl
theorem right_list {n : Nat} {v : JV} (h : rightJ n v = true) (hk : v.kind = 5) : ∃ k, n = k + 1 ∧ v = .mk 5 0 [] [] v.items ∧ v.items.all (rightJ k) = true := by
  rcases right_of h with h | ⟨h0, h1, h2⟩
  · exact absurd (.inl hk) (one_kind h)
  · unfold manyJ bareJ at h1
    rw [if_pos hk] at h1
    simp only [Bool.and_eq_true, decide_eq_true_eq] at h1
    refine ⟨n - 1, by omega, ?_, h2⟩
    obtain ⟨k, nu, t, ns, is⟩ := v
    simp only [JV.kind, JV.num, JV.text, JV.names, JV.items] at hk h1 ⊢
    obtain ⟨⟨rfl, rfl⟩, rfl⟩ := h1
    rw [hk]
theorem jv_eta (v : JV) : v = .mk v.kind v.num v.text v.names v.items := by cases v; rfl
theorem right_leaf {n : Nat} {v : JV} (h : rightJ n v = true) (hk : v.kind ≠ 5 ∧ v.kind ≠ 6) : v = .mk v.kind v.num v.text [] [] ∧ ((v.kind = 0 ∨ v.kind = 1 ∨ v.kind = 2) ∧ v.num = 0 ∧ v.text = [] ∨ v.kind = 3 ∧ v.text = [] ∧ -9007199254740991 ≤ v.num ∧ v.num ≤ 9007199254740991 ∨ v.kind = 4 ∧ v.num = 0 ∧ Lib.validD v.text = true) := by
  have he := jv_eta v
  rcases right_of h with h | ⟨_, h, _⟩
  · unfold oneJ bareJ leafJ at h
    by_cases h2 : v.kind = 0 ∨ v.kind = 1 ∨ v.kind = 2
    · rw [if_pos h2] at h
      simp only [Bool.and_eq_true, decide_eq_true_eq] at h
      obtain ⟨⟨e1, e2⟩, e3, e4⟩ := h
      rw [e3, e4] at he
      exact ⟨he, .inl ⟨h2, e1, e2⟩⟩
    rw [if_neg h2] at h
    by_cases h3 : v.kind = 3
    · rw [if_pos h3] at h
      simp only [Bool.and_eq_true, decide_eq_true_eq] at h
      obtain ⟨⟨⟨e3, e4⟩, e2⟩, h4⟩ := h
      rw [e3, e4] at he
      exact ⟨he, .inr (.inl ⟨h3, e2, h4⟩)⟩
    rw [if_neg h3] at h
    by_cases h4 : v.kind = 4
    · rw [if_pos h4] at h
      simp only [Bool.and_eq_true, decide_eq_true_eq] at h
      obtain ⟨⟨⟨e3, e4⟩, e1⟩, h5⟩ := h
      rw [e3, e4] at he
      exact ⟨he, .inr (.inr ⟨h4, e1, h5⟩)⟩
    rw [if_neg h4] at h
    cases h
  · unfold manyJ at h
    rw [if_neg hk.1, if_neg hk.2] at h
    cases h
/-! Lengths -/
theorem itoa_len {n : Int} (h1 : -9007199254740991 ≤ n) (h2 : n ≤ 9007199254740991) : (Lib.itoa n).length ≤ 17 := by
  have hd : ∀ (k u : Nat), u < 10 ^ k → (Lib.decDigits u).length ≤ max k 1 := by
    intro k
    induction k with
    | zero =>
      intro u h
      have : u < 1 := h
      obtain rfl : u = 0 := by omega
      rw [Lib.decDigits_one (by omega)]
      simp
    | succ k ih =>
      intro u h
      rw [Lib.decDigits]
      split
      · simp
        try omega
      · rename_i h3
        have := ih (u / 10) (by rw [Nat.pow_succ] at h; omega)
        rw [List.length_append, List.length_cons, List.length_nil]
        cases k with
        | zero => have : u < 10 := h; omega
        | succ k => omega
  have h16 : (10 : Nat) ^ 16 = 10000000000000000 := by decide
  unfold Lib.itoa
  split
  · have := hd 16 n.natAbs (by omega)
    rw [List.length_cons]
    omega
  · have := hd 16 n.toNat (by omega)
    omega
theorem items_size (obj : Bool) : ∀ (l : List JV) (b : Bool) (ns : List bytes), (∀ x ∈ l, (printP x).length + 1 ≤ 24 * sizeJ x) → (obj = true → ns.length = l.length) → (itemsP obj l b ns).length ≤ 24 * (l.map sizeJ).sum + 24 * (ns.map nameW).sum
  | [], b, ns, _, _ => by rw [itemsP_nil]; simp
  | x :: l, b, ns, h, hn => by
    have h1 := h x (List.mem_cons_self ..)
    have h2 := items_size obj l false ns.tail (fun y hy => h y (List.mem_cons_of_mem _ hy)) (fun e => by have := hn e; simp only [List.length_cons] at this; rw [List.length_tail]; omega)
    have h3 : (headP b obj (ns.headD [])).length + 24 * (ns.tail.map nameW).sum ≤ 1 + 24 * (ns.map nameW).sum := by
      unfold headP
      have hb : (if b = true then ([] : bytes) else [44]).length ≤ 1 := by cases b <;> simp
      rw [List.length_append]
      cases obj with
      | false =>
        cases ns with
        | nil => simp; cases b <;> simp
        | cons s ns => simp; cases b <;> simp <;> omega
      | true =>
        cases ns with
        | nil => simp at hn
        | cons s ns =>
          have := quoteP_len s
          have hw : nameW s = 1 + s.length := rfl
          simp only [if_true, List.headD_cons, List.tail_cons, List.map_cons, List.sum_cons, List.length_append, List.length_cons, List.length_nil, hw]
          omega
    rw [itemsP_cons, List.map_cons, List.sum_cons]
    simp only [List.length_append]
    omega
theorem print_size : ∀ (n : Nat) (v : JV), rightJ n v = true → (printP v).length + 1 ≤ 24 * sizeJ v := by
  intro n
  induction n with
  | zero =>
    intro v h
    have h0 := sizeJ_pos v
    have ht := size_text v
    have hq := quoteP_len v.text
    by_cases hk : v.kind ≠ 5 ∧ v.kind ≠ 6
    · obtain ⟨h1, h2⟩ := right_leaf h hk
      rw [printP_eq]
      repeat' split
      all_goals first | omega | (simp [wTrue, wFalse, wNull]; omega) | skip
      have := itoa_len (n := v.num) (by omega) (by omega)
      omega
    · rcases right_of h with h | ⟨h, _⟩
      · exact absurd (by omega) (one_kind h)
      · omega
  | succ n ih =>
    intro v h
    have h0 := sizeJ_pos v
    have ht := size_text v
    have hq := quoteP_len v.text
    by_cases hk : v.kind ≠ 5 ∧ v.kind ≠ 6
    · obtain ⟨h1, h2⟩ := right_leaf h hk
      rw [printP_eq]
      repeat' split
      all_goals first | omega | (simp [wTrue, wFalse, wNull]; omega) | skip
      have := itoa_len (n := v.num) (by omega) (by omega)
      omega
    · have hsz : sizeJ v = 1 + v.text.length + (v.names.map nameW).sum + (v.items.map sizeJ).sum := by rw [sizeJ_eq, sizesJ_eq]
      by_cases h5 : v.kind = 5
      · obtain ⟨k, e, h1, h2⟩ := right_list h h5
        obtain rfl : n = k := by omega
        have := items_size false v.items true v.names (fun x hx => ih x (List.all_eq_true.1 h2 x hx)) (fun e => by cases e)
        rw [printP_eq, if_neg (by omega), if_neg (by omega), if_neg (by omega), if_neg (by omega), if_pos h5]
        simp only [List.length_cons, List.length_append, List.length_nil]
        omega
      · obtain ⟨_, h1, h2, h3, h4, h6, h7⟩ := right_obj h (by omega)
        have := items_size true v.items true v.names (fun x hx => ih x (List.all_eq_true.1 h7 x hx)) (fun _ => h3)
        rw [printP_eq, if_neg (by omega), if_neg (by omega), if_neg (by omega), if_neg (by omega), if_neg h5, if_pos (by omega)]
        simp only [List.length_cons, List.length_append, List.length_nil]
        omega
end Go.Proofs.YtdahdbnfknmmgaaGreatDoor
end

section
set_option linter.unusedSimpArgs false
set_option linter.unusedVariables false
namespace Go.Proofs.YtdahdbnfknmmgaaGreatDoor
open Go V
set_option maxRecDepth 10000
set_option maxHeartbeats 1000000
theorem flat_take {s : bytes} {i : Nat} (h : i < s.length) : (s.take (i + 1)).flatMap escB = (s.take i).flatMap escB ++ escB (s.getD i 0) := by
  rw [List.take_add_one, List.getElem?_eq_getElem h, List.getD, List.getElem?_eq_getElem h, List.flatMap_append]
  simp
end Go.Proofs.YtdahdbnfknmmgaaGreatDoor
end

section
set_option linter.unusedSimpArgs false
set_option linter.unusedVariables false
namespace Go.Proofs.YtdahdbnfknmmgaaGreatDoor
open Go V
set_option maxRecDepth 10000
set_option maxHeartbeats 4000000
theorem Len64_c (x : Nat) (H : List AObj) (hx : x < 18446744073709551616) : ACalls Tryz.prog 156 [.lit (.int .u64 x)] H (fun y H' => y = .lit (.int .i64 ((Lib.bitLen x : Nat) : Int)) ∧ H' = H) := by
  refine acalls_vc L_ok mixed [] (rs := [.tmp 2]) (n := 25) Tryz.func156 rfl rfl rfl rfl (Nat.le_of_ble_eq_true rfl) (by kernel_rfl) ?_
  go_name_bytes B hB
  have hT : ∀ i : Fin 256, (B.data.toList.getD i.val 0).toNat = Lib.bitLen i.val := by rw [← hB]; decide +kernel
  have hl : B.data.toList.length = 256 := by rw [← hB]; decide +kernel
  clear hB
  have hT' : ∀ v, v < 256 → (B.data.toList.getD v 0).toNat = Lib.bitLen v := fun v h => hT ⟨v, h⟩
  have hb : ∀ v, v < 256 → Lib.bitLen v ≤ 8 := fun v h => Lib.bitLen_le8 ⟨v, h⟩
  clear hT
  repeat' (first | refine unhold ?_ | (simp -dsimp -implicitDefEqProofs (disch := (first | assumption | omega | (simp only [ll1, ll2, ll3, ll4, ll5, ll6, ll7, ll8]; omega))) only [go_sem, hl]) | refine vcI (fun _ => ?_) (fun _ => ?_) | (refine vcA ?_ ?_; focus (repeat' (first | omega | assumption | refine vcA ?_ ?_); done)) | omega | refine imp_in (fun _ => ?_))
  · have e1 := hT' (((x / 4294967296) / 65536) / 256) (by omega)
    have e2 := hb (((x / 4294967296) / 65536) / 256) (by omega)
    rw [e1, IntWalk.i64_in _ (by omega)]
    refine done_same ⟨int_eq ?_, rfl⟩
    rw [Lib.bitLen_shift32 x (by omega) hx, Lib.bitLen_shift16 (x / 4294967296) (by omega) (by omega), Lib.bitLen_shift8 ((x / 4294967296) / 65536) (by omega) (by omega)]
    omega
  · have e1 := hT' ((x / 4294967296) / 65536) (by omega)
    have e2 := hb ((x / 4294967296) / 65536) (by omega)
    rw [e1, IntWalk.i64_in _ (by omega)]
    refine done_same ⟨int_eq ?_, rfl⟩
    rw [Lib.bitLen_shift32 x (by omega) hx, Lib.bitLen_shift16 (x / 4294967296) (by omega) (by omega)]
    omega
  · have e1 := hT' ((x / 4294967296) / 256) (by omega)
    have e2 := hb ((x / 4294967296) / 256) (by omega)
    rw [e1, IntWalk.i64_in _ (by omega)]
    refine done_same ⟨int_eq ?_, rfl⟩
    rw [Lib.bitLen_shift32 x (by omega) hx, Lib.bitLen_shift8 (x / 4294967296) (by omega) (by omega)]
    omega
  · have e1 := hT' (x / 4294967296) (by omega)
    have e2 := hb (x / 4294967296) (by omega)
    rw [e1, IntWalk.i64_in _ (by omega)]
    refine done_same ⟨int_eq ?_, rfl⟩
    rw [Lib.bitLen_shift32 x (by omega) hx]
    omega
  · have e1 := hT' ((x / 65536) / 256) (by omega)
    have e2 := hb ((x / 65536) / 256) (by omega)
    rw [e1, IntWalk.i64_in _ (by omega)]
    refine done_same ⟨int_eq ?_, rfl⟩
    rw [Lib.bitLen_shift16 x (by omega) (by omega), Lib.bitLen_shift8 (x / 65536) (by omega) (by omega)]
    omega
  · have e1 := hT' (x / 65536) (by omega)
    have e2 := hb (x / 65536) (by omega)
    rw [e1, IntWalk.i64_in _ (by omega)]
    refine done_same ⟨int_eq ?_, rfl⟩
    rw [Lib.bitLen_shift16 x (by omega) (by omega)]
    omega
  · have e1 := hT' (x / 256) (by omega)
    have e2 := hb (x / 256) (by omega)
    rw [e1, IntWalk.i64_in _ (by omega)]
    refine done_same ⟨int_eq ?_, rfl⟩
    rw [Lib.bitLen_shift8 x (by omega) (by omega)]
    omega
  · have e1 := hT' x (by omega)
    have e2 := hb x (by omega)
    rw [e1, IntWalk.i64_in _ (by omega)]
    refine done_same ⟨int_eq ?_, rfl⟩
    omega
theorem log10Pow2_c (x : Nat) (H : List AObj) (hx : x ≤ 64) : ACalls Tryz.prog 155 [.lit (.int .i64 x)] H (fun y H' => y = .lit (.int .i64 ((Lib.l10 x : Nat) : Int)) ∧ H' = H) := by
  refine acalls_vc L_ok mixed [] (rs := [.tmp 2]) (n := 6) Tryz.func155 rfl rfl rfl rfl (Nat.le_of_ble_eq_true rfl) (by kernel_rfl) ?_
  repeat' (first | refine unhold ?_ | (simp -dsimp -implicitDefEqProofs (disch := (first | assumption | omega | (simp only [ll1, ll2, ll3, ll4, ll5, ll6, ll7, ll8]; omega))) only [go_sem]) | refine vcI (fun _ => ?_) (fun _ => ?_) | (refine vcA ?_ ?_; focus (repeat' (first | omega | assumption | refine vcA ?_ ?_); done)) | omega | refine imp_in (fun _ => ?_))
  refine done_same ⟨int_eq ?_, rfl⟩
  unfold Lib.l10
  omega
theorem bool2_c (b : Bool) (H : List AObj) : ACalls Tryz.prog 157 [.lit (.bool b)] H (fun y H' => y = .lit (.int .i64 (if b then 1 else 0)) ∧ H' = H) := by
  cases b
  all_goals
    refine acalls_vc L_ok mixed [] (rs := [.tmp 2]) (n := 4) Tryz.func157 rfl rfl rfl rfl (Nat.le_of_ble_eq_true rfl) (by kernel_rfl) ?_
    repeat' (first | refine unhold ?_ | (simp -dsimp -implicitDefEqProofs (disch := (first | assumption | omega | (simp only [ll1, ll2, ll3, ll4, ll5, ll6, ll7, ll8]; omega))) only [go_sem]) | refine vcI (fun _ => ?_) (fun _ => ?_) | (refine vcA ?_ ?_; focus (repeat' (first | omega | assumption | refine vcA ?_ ?_); done)) | omega | refine imp_in (fun _ => ?_))
    exact done_same ⟨rfl, rfl⟩
theorem small_c (i : Nat) (H : List AObj) (hi : i < 100) : ACalls Tryz.prog 139 [.lit (.int .i64 i)] H (fun y H' => y = .str (Lib.decDigits i) ∧ H' = H) := by
  by_cases h : i < 10
  · have ht : ((i : Int) < 10) = True := eq_true (by omega)
    refine acalls_vc L_ok mixed [] (rs := [.tmp 2]) (n := 15) Tryz.func139 rfl rfl rfl rfl (Nat.le_of_ble_eq_true rfl) (by kernel_rfl) ?_
    go_name_bytes B hB
    have hBs : B = Lib.digits36 := by rw [← hB]; decide +kernel
    have hl : B.data.toList.length = 36 := by rw [hBs]; exact Lib.digits36_size
    clear hB
    repeat' (first | refine unhold ?_ | (simp -dsimp -implicitDefEqProofs (disch := (first | assumption | omega | (simp only [ll1, ll2, ll3, ll4, ll5, ll6, ll7, ll8]; omega))) only [go_sem, ht, hl]) | refine vcI (fun _ => ?_) (fun _ => ?_) | (refine vcA ?_ ?_; focus (repeat' (first | omega | assumption | refine vcA ?_ ?_); done)) | omega | refine imp_in (fun _ => ?_))
    have := Lib.digits36_piece h
    rw [← hBs] at this
    rw [show ((i : Int) + 1).toNat = i + 1 by omega, this]
    exact done_same ⟨rfl, rfl⟩
  · have ht : ((i : Int) < 10) = False := eq_false (by omega)
    refine acalls_vc L_ok mixed [] (rs := [.tmp 2]) (n := 15) Tryz.func139 rfl rfl rfl rfl (Nat.le_of_ble_eq_true rfl) (by kernel_rfl) ?_
    go_name_bytes B hB
    go_name_bytes C hC
    have hCs : C = Lib.smalls := by rw [← hC]; decide +kernel
    have hl : C.data.toList.length = 200 := by rw [hCs]; exact Lib.smalls_size
    clear hB hC
    repeat' (first | refine unhold ?_ | (simp -dsimp -implicitDefEqProofs (disch := (first | assumption | omega | (simp only [ll1, ll2, ll3, ll4, ll5, ll6, ll7, ll8]; omega))) only [go_sem, ht, hl]) | refine vcI (fun _ => ?_) (fun _ => ?_) | (refine vcA ?_ ?_; focus (repeat' (first | omega | assumption | refine vcA ?_ ?_); done)) | omega | refine imp_in (fun _ => ?_))
    have := Lib.smalls_piece h hi
    rw [← hCs] at this
    rw [show ((i : Int) * 2 + 2).toNat = i * 2 + 2 by omega, show ((i : Int) * 2).toNat = i * 2 by omega, this]
    exact done_same ⟨rfl, rfl⟩
theorem numDigits_c (u : Nat) (H : List AObj) (h1 : 1 ≤ u) (h2 : u < 18446744073709551616) : ACalls Tryz.prog 140 [.lit (.int .u64 u)] H (fun y H' => y = .lit (.int .i64 ((Lib.nDigits u : Nat) : Int)) ∧ H' = H) := by
  obtain ⟨e1, e2⟩ := Lib.numDigits_eq u h1 h2
  have e3 := Lib.bitLen_le u 64 (Nat.le_refl _) h2
  have cL := fun H => Len64_c u H h2
  have cP := fun H => log10Pow2_c (Lib.bitLen u) H e3
  generalize Lib.l10 (Lib.bitLen u) = q at *
  have hg : globAV 9 = .ip (.agg pow10AV) := glob_pow10 rfl rfl
  have hp := pow10_at (i := q) (by omega)
  refine acalls_vc L_ok mixed [] (rs := [.tmp 2]) (n := 15) Tryz.func140 rfl rfl rfl rfl (Nat.le_of_ble_eq_true rfl) (by kernel_rfl) ?_
  repeat' (first | refine unhold ?_ | (simp -dsimp -implicitDefEqProofs (disch := (first | assumption | omega | (simp only [ll1, ll2, ll3, ll4, ll5, ll6, ll7, ll8]; omega))) only [go_sem, hg, hp, pow10AV_len]) | refine acalls_same (cL _) ?_ | refine ⟨_, cL _, ?_⟩ | refine ⟨_, _, cL _, ?_⟩ | refine acalls_same (cP _) ?_ | refine ⟨_, cP _, ?_⟩ | refine ⟨_, _, cP _, ?_⟩ | refine acalls_same (bool2_c _ _) ?_ | refine ⟨_, bool2_c _ _, ?_⟩ | refine ⟨_, _, bool2_c _ _, ?_⟩ | refine vcI (fun _ => ?_) (fun _ => ?_) | (refine vcA ?_ ?_; focus (repeat' (first | omega | assumption | refine vcA ?_ ?_); done)) | omega | refine imp_in (fun _ => ?_))
  refine done_same ⟨int_eq ?_, rfl⟩
  rw [← e1]
  by_cases h : 10 ^ q ≤ u
  · have hc : ((10 ^ q : Nat) : Int) ≤ (u : Int) := Int.ofNat_le.mpr h
    simp only [if_pos h, if_pos hc]
    omega
  · have hc : ¬ ((10 ^ q : Nat) : Int) ≤ (u : Int) := fun h' => h (Int.ofNat_le.mp h')
    simp only [if_neg h, if_neg hc]
    omega
end Go.Proofs.YtdahdbnfknmmgaaGreatDoor
end

section
set_option linter.unusedSimpArgs false
set_option linter.unusedVariables false
namespace Go.Proofs.YtdahdbnfknmmgaaGreatDoor
open Go V
set_option maxRecDepth 10000
set_option maxHeartbeats 600000
/-- An object of 24 bytes: a zero, the row, zeros. -/
def c24 (d : Array UInt8) : List AV := byteAV 0 :: (d.toList.map byteAV ++ List.replicate (23 - d.size) (AV.lit (.int .u8 0)))
theorem c24_len {d : Array UInt8} (h : d.size ≤ 23) : (c24 d).length = 24 := by
  unfold c24
  simp
  omega
theorem c24_set {d : Array UInt8} {i j : Nat} {v : Int} (x : UInt8) (h : i < d.size) (hj : j = 1 + i) (hv : v = (x.toNat : Int)) : (c24 d).set j (AV.lit (.int .u8 v)) = c24 (d.setIfInBounds i x) := by
  subst hj hv
  unfold c24
  rw [show 1 + i = i + 1 by omega, List.set_cons_succ, List.set_append_left _ _ (by simp; exact h)]
  rw [Array.toList_setIfInBounds, Array.size_setIfInBounds, List.map_set]
  rfl
/-- A pair of digits laid. -/
def twoD (d : Array UInt8) (k w : Nat) : Array UInt8 := (d.setIfInBounds (k + 1) (Lib.sm (w * 2 + 1))).setIfInBounds k (Lib.sm (w * 2))
theorem twoD_size (d : Array UInt8) (k w : Nat) : (twoD d k w).size = d.size := by simp [twoD]
theorem two_inv {nd0 u k v : Nat} {d : Array UInt8} (h : Lib.FmtInv nd0 u (k + 2) v d) : Lib.FmtInv nd0 u k (v / 100) (twoD d k (v % 100)) := h.step2'
theorem c24_two {B : ByteArray} {d : Array UInt8} {i1 i0 a1 a0 : Nat} (k w : Nat) (hB : B = Lib.smalls) (hk : k + 1 < d.size) (h1 : i1 = w * 2 + 1) (h0 : i0 = w * 2) (ha1 : a1 = 1 + (k + 1)) (ha0 : a0 = 1 + k) :
    ((c24 d).set a1 (AV.lit (.int .u8 (((B.data.toList.getD i1 0).toNat : Nat) : Int)))).set a0 (AV.lit (.int .u8 (((B.data.toList.getD i0 0).toNat : Nat) : Int))) = c24 (twoD d k w) := by
  subst hB h1 h0
  show ((c24 d).set a1 (AV.lit (.int .u8 (((Lib.sm (w * 2 + 1)).toNat : Nat) : Int)))).set a0 (AV.lit (.int .u8 (((Lib.sm (w * 2)).toNat : Nat) : Int))) = _
  rw [c24_set (i := k + 1) (Lib.sm (w * 2 + 1)) hk ha1 rfl, c24_set (i := k) (Lib.sm (w * 2)) (by simp; omega) ha0 rfl]
  rfl
theorem c24_one {d : Array UInt8} {z : Int} (w : Nat) (h : 0 < d.size) (hw : w < 10) (hz : z = 48 + (w : Int)) : (c24 d).set 1 (AV.lit (.int .u8 z)) = c24 (d.setIfInBounds 0 (UInt8.ofNat (48 + w))) :=
  c24_set (UInt8.ofNat (48 + w)) h rfl (by
    rw [hz, UInt8.toNat_ofNat_of_lt' (by show 48 + w < 256; omega)]
    omega)
theorem format_c (u : Nat) (d0 : Array UInt8) (H : List AObj) (hd : d0.size = Lib.nDigits u) (h2 : u < 18446744073709551616) (h3 : d0.size ≤ 20) :
    ACalls Tryz.prog 141 [.msl H.length 1 d0.size 23, .lit (.int .u64 u)] (H ++ [.cells (.one 180) (c24 d0)]) (fun y H' => ∃ dk v', Lib.FmtInv d0.size u 0 v' dk ∧ y = .tup [] ∧ H' = H ++ [.cells (.one 180) (c24 dk)]) := by
  have hst : Lib.FmtInv d0.size u d0.size u d0 := Lib.FmtInv.start d0 u (by rw [hd]; exact Lib.lt_pow_nDigits u)
  refine acalls_vc L_ok mixed [1000007, 1000008, 1000009, 1000010, 1000017, 1000018, 1000023] (rs := []) (n := 167) Tryz.func141 rfl rfl rfl rfl (Nat.le_of_ble_eq_true rfl) (by kernel_rfl) ?_
  go_name_bytes B hB
  have hBs : B = Lib.smalls := by rw [← hB]; decide +kernel
  have hl : B.data.toList.length = 200 := by rw [hBs]; exact Lib.smalls_size
  clear hB
  repeat' (first | refine unhold ?_ | (simp -dsimp -implicitDefEqProofs (disch := (first | assumption | omega | (simp only [ll1, ll2, ll3, ll4, ll5, ll6, ll7, ll8]; omega))) only [go_sem]) | refine vcI (fun _ => ?_) (fun _ => ?_) | (refine vcA ?_ ?_; focus (repeat' (first | omega | assumption | refine vcA ?_ ?_); done)) | omega | refine imp_in (fun _ => ?_))
  refine vc_loopk L_ok mixed [1000007, 1000008, 1000009, 1000010, 1000017, 1000018, 1000023] [0] (fun (x : Nat × Nat × Array UInt8) => Lib.FmtInv d0.size u x.1 x.2.1 x.2.2) (fun x => [(4, .int .i64 x.1), (1, .int .u64 x.2.1)]) (fun x => H ++ [.cells (.one 180) (c24 x.2.2)]) (fun x => x.1) (by kernel_rfl) ?_ (d0.size, u, d0) hst env_ok rfl
  rintro ⟨nd, v, d⟩ hI
  dsimp only at *
  by_cases h8 : 8 ≤ nd
  · have hc : ((nd : Int) ≥ 8) = True := eq_true (by omega)
    have hle := hI.le
    have hcl := c24_len (d := d) (by rw [hI.size]; omega)
    obtain ⟨k, rfl⟩ : ∃ k, nd = k + 8 := ⟨nd - 8, by omega⟩
    have hvb : v < 18446744073709551616 := by
      rw [hI.rest]
      exact Nat.lt_of_le_of_lt (Nat.div_le_self _ _) h2
    have j1 := two_inv (k := k + 6) hI
    have j2 := two_inv (k := k + 4) j1
    have j3 := two_inv (k := k + 2) j2
    have j4 := two_inv (k := k) j3
    have hs := hI.size
    generalize hv4 : v / 100 / 100 / 100 / 100 = v4 at j4
    generalize hd4 : twoD (twoD (twoD (twoD d (k + 6) (v % 100)) (k + 4) (v / 100 % 100)) (k + 2) (v / 100 / 100 % 100)) k (v / 100 / 100 / 100 % 100) = d4 at j4
    clear j1 j2 j3
    repeat' (first | refine unhold ?_ | (simp -dsimp -implicitDefEqProofs (disch := (first | assumption | omega | (simp only [ll1, ll2, ll3, ll4, ll5, ll6, ll7, ll8]; omega))) only [go_sem, hc, hl, hcl]) | refine vcI (fun _ => ?_) (fun _ => ?_) | (refine vcA ?_ ?_; focus (repeat' (first | omega | assumption | refine vcA ?_ ?_); done)) | omega | refine imp_in (fun _ => ?_))
    refine again ((k, v4, d4)) ?_ ?_ ?_ env_ok
    · show k < k + 8
      omega
    · exact j4
    · rw [c24_two (d := d) (k + 6) (v % 100) hBs (by omega) (by omega) (by omega) (by omega) (by omega),
        c24_two (k + 4) (v / 100 % 100) hBs (by rw [twoD_size]; omega) (by omega) (by omega) (by omega) (by omega),
        c24_two (k + 2) (v / 100 / 100 % 100) hBs (by rw [twoD_size, twoD_size]; omega) (by omega) (by omega) (by omega) (by omega),
        c24_two k (v / 100 / 100 / 100 % 100) hBs (by rw [twoD_size, twoD_size, twoD_size]; omega) (by omega) (by omega) (by omega) (by omega), hd4]
  · have hc : ((nd : Int) ≥ 8) = False := eq_false (by omega)
    have hv7 := hI.lt7 (by omega)
    have hcl := c24_len (d := d) (by rw [hI.size]; omega)
    have hle := hI.le
    have hs := hI.size
    repeat' (first | refine unhold ?_ | (simp -dsimp -implicitDefEqProofs (disch := (first | assumption | omega | (simp only [ll1, ll2, ll3, ll4, ll5, ll6, ll7, ll8]; omega))) only [go_sem, hc, hl, hcl]) | refine vcI (fun _ => ?_) (fun _ => ?_) | (refine vcA ?_ ?_; focus (repeat' (first | omega | assumption | refine vcA ?_ ?_); done)) | omega | refine imp_in (fun _ => ?_))
    · obtain rfl : nd = 7 := by omega
      have j1 := two_inv (k := 5) hI
      have j2 := two_inv (k := 3) j1
      have j3 := two_inv (k := 1) j2
      have e1 : v / 100 / 100 / 100 < 10 := by simpa using j3.small
      refine done_keep _ (Le.refl _) (by simp) ⟨_, _, j3.step1, rfl, ?_⟩
      rw [c24_two (d := _) 5 (v % 100) hBs (by (try simp only [twoD_size]); omega) (by omega) (by omega) (by omega) (by omega), c24_two (d := _) 3 (v / 100 % 100) hBs (by (try simp only [twoD_size]); omega) (by omega) (by omega) (by omega) (by omega), c24_two (d := _) 1 (v / 100 / 100 % 100) hBs (by (try simp only [twoD_size]); omega) (by omega) (by omega) (by omega) (by omega), c24_one (v / 100 / 100 / 100) (by (try simp only [twoD_size]); omega) e1 (by omega)]
    · obtain rfl : nd = 6 := by omega
      have j1 := two_inv (k := 4) hI
      have j2 := two_inv (k := 2) j1
      have j3 := two_inv (k := 0) j2
      refine done_keep _ (Le.refl _) (by simp) ⟨_, _, j3, rfl, ?_⟩
      rw [c24_two (d := _) 4 (v % 100) hBs (by (try simp only [twoD_size]); omega) (by omega) (by omega) (by omega) (by omega), c24_two (d := _) 2 (v / 100 % 100) hBs (by (try simp only [twoD_size]); omega) (by omega) (by omega) (by omega) (by omega), c24_two (d := _) 0 (v / 100 / 100 % 100) hBs (by (try simp only [twoD_size]); omega) (by omega) (by omega) (by omega) (by omega)]
    · obtain rfl : nd = 5 := by omega
      have j1 := two_inv (k := 3) hI
      have j2 := two_inv (k := 1) j1
      have e1 : v / 100 / 100 < 10 := by simpa using j2.small
      refine done_keep _ (Le.refl _) (by simp) ⟨_, _, j2.step1, rfl, ?_⟩
      rw [IntWalk.u8_in (48 + (v : Int) / 10000) (by omega)]
      rw [c24_two (d := _) 3 (v % 100) hBs (by (try simp only [twoD_size]); omega) (by omega) (by omega) (by omega) (by omega), c24_two (d := _) 1 (v / 100 % 100) hBs (by (try simp only [twoD_size]); omega) (by omega) (by omega) (by omega) (by omega), c24_one (v / 100 / 100) (by (try simp only [twoD_size]); omega) e1 (by omega)]
    · obtain rfl : nd = 4 := by omega
      have j1 := two_inv (k := 2) hI
      have j2 := two_inv (k := 0) j1
      refine done_keep _ (Le.refl _) (by simp) ⟨_, _, j2, rfl, ?_⟩
      rw [c24_two (d := _) 2 (v % 100) hBs (by (try simp only [twoD_size]); omega) (by omega) (by omega) (by omega) (by omega), c24_two (d := _) 0 (v / 100 % 100) hBs (by (try simp only [twoD_size]); omega) (by omega) (by omega) (by omega) (by omega)]
    · obtain rfl : nd = 3 := by omega
      have j1 := two_inv (k := 1) hI
      have e1 : v / 100 < 10 := by simpa using j1.small
      refine done_keep _ (Le.refl _) (by simp) ⟨_, _, j1.step1, rfl, ?_⟩
      rw [IntWalk.u8_in (48 + (v : Int) / 100) (by omega)]
      rw [c24_two (d := _) 1 (v % 100) hBs (by (try simp only [twoD_size]); omega) (by omega) (by omega) (by omega) (by omega), c24_one (v / 100) (by (try simp only [twoD_size]); omega) e1 (by omega)]
    · obtain rfl : nd = 2 := by omega
      have j1 := two_inv (k := 0) hI
      refine done_keep _ (Le.refl _) (by simp) ⟨_, _, j1, rfl, ?_⟩
      rw [c24_two (d := _) 0 (v % 100) hBs (by (try simp only [twoD_size]); omega) (by omega) (by omega) (by omega) (by omega)]
    · obtain rfl : nd = 1 := by omega
      have e1 : v < 10 := by simpa using hI.small
      refine done_keep _ (Le.refl _) (by simp) ⟨_, _, hI.step1, rfl, ?_⟩
      rw [IntWalk.u8_in (48 + (v : Int)) (by omega)]
      rw [c24_one (v) (by (try simp only [twoD_size]); omega) e1 (by omega)]
    · obtain rfl : nd = 0 := by omega
      refine done_keep _ (Le.refl _) (by simp) ⟨_, _, hI, rfl, ?_⟩
      rfl
end Go.Proofs.YtdahdbnfknmmgaaGreatDoor
end

section
set_option linter.unusedSimpArgs false
set_option linter.unusedVariables false
namespace Go.Proofs.YtdahdbnfknmmgaaGreatDoor
open Go V
set_option maxRecDepth 10000
set_option maxHeartbeats 1000000
def l24 (l : List UInt8) : List AV := byteAV 0 :: (l.map byteAV ++ List.replicate (23 - l.length) (AV.lit (.int .u8 0)))
theorem c24_zero {n : Nat} (h : n ≤ 23) : c24 (Array.replicate n 0) = List.replicate 24 (AV.lit (.int .u8 0)) := by
  unfold c24
  have e : byteAV 0 = AV.lit (.int .u8 0) := rfl
  rw [Array.toList_replicate, List.map_replicate, Array.size_replicate, e, List.replicate_append_replicate, show n + (23 - n) = 23 by omega]
  rfl
theorem c24_done {u v' : Nat} {dk : Array UInt8} (h : Lib.FmtInv (Lib.nDigits u) u 0 v' dk) : c24 dk = l24 (Lib.decDigits u) := by
  have e : dk.toList = Lib.decDigits u := by
    refine List.ext_getElem (by rw [Array.length_toList, h.size, Lib.decDigits_length]) fun j h1 h2 => ?_
    rw [Lib.row_is_numeral h j h2, Array.getElem_toList]
    exact (getElem!_pos dk j (by simpa using h1)).symm
  unfold c24 l24
  rw [e, h.size, Lib.decDigits_length]
theorem l24_len {l : List UInt8} (h : l.length ≤ 23) : (l24 l).length = 24 := by
  unfold l24
  simp
  omega
theorem l24_neg {l : List UInt8} {n : Nat} (h : l.length = n) : ((l24 l).set 0 (AV.lit (.int .u8 45))).take (n + 1) = (45 :: l).map byteAV := by
  subst h
  unfold l24
  rw [List.set_cons_zero, List.take_succ_cons, List.take_left' (by simp)]
  rfl
theorem l24_pos {l : List UInt8} {n : Nat} (h : l.length = n) : ((l24 l).drop 1).take n = l.map byteAV := by
  subst h
  unfold l24
  rw [List.drop_succ_cons, List.drop_zero, List.take_left' (by simp)]
theorem nDigits_20 {u : Nat} (h : u < 18446744073709551616) : Lib.nDigits u ≤ 20 := by
  rcases Nat.eq_zero_or_pos u with e | e
  · subst e
    rw [Lib.nDigits_small (by omega)]
    omega
  · have := Lib.numDigits_eq u e h
    split at this <;> omega
theorem format_f (u : Nat) (H : List AObj) (h2 : u < 18446744073709551616) :
    ACalls Tryz.prog 141 [.msl H.length 1 (Lib.nDigits u) 23, .lit (.int .u64 u)] (H ++ [.cells (.one 180) (List.replicate 24 (AV.lit (.int .u8 0)))]) (fun y H' => y = .tup [] ∧ H' = H ++ [.cells (.one 180) (l24 (Lib.decDigits u))]) := by
  have hn := nDigits_20 h2
  have := format_c u (Array.replicate (Lib.nDigits u) 0) H (by simp) h2 (by simpa using hn)
  rw [c24_zero (by omega), Array.size_replicate] at this
  refine this.mono fun _ H' ⟨dk, v', hI, ey, e⟩ => ⟨ey, ?_⟩
  rw [e, c24_done hI]
theorem FormatInt_c (i : Int) (H : List AObj) (h1 : -9223372036854775808 < i) (h2 : i < 9223372036854775808) : ACalls Tryz.prog 123 [.lit (.int .i64 i), .lit (.int .i64 10)] H (fun y H' => y = .str (Lib.itoa i) ∧ H' = H) := by
  by_cases hs : 0 ≤ i ∧ i < 100
  · obtain ⟨n, rfl⟩ := Int.eq_ofNat_of_zero_le hs.1
    have hc1 : ((0 : Int) ≤ (n : Int)) = True := eq_true (by omega)
    have hc2 : ((n : Int) < 100) = True := eq_true (by omega)
    rw [Lib.itoa_nonneg]
    refine acalls_vc L_ok mixed [5] (rs := [.tmp 4]) (n := 54) Tryz.func123 rfl rfl rfl rfl (Nat.le_of_ble_eq_true rfl) (by kernel_rfl) ?_
    repeat' (first | refine unhold ?_ | (simp -dsimp -implicitDefEqProofs (disch := (first | assumption | omega | (simp only [ll1, ll2, ll3, ll4, ll5, ll6, ll7, ll8]; omega))) only [go_sem, hc1, hc2]) | refine acalls_same (small_c _ _ (by omega)) ?_ | refine ⟨_, small_c _ _ (by omega), ?_⟩ | refine ⟨_, _, small_c _ _ (by omega), ?_⟩ | refine vcI (fun _ => ?_) (fun _ => ?_) | (refine vcA ?_ ?_; focus (repeat' (first | omega | assumption | refine vcA ?_ ?_); done)) | omega | refine imp_in (fun _ => ?_))
    exact done_same ⟨rfl, rfl⟩
  · by_cases hn : i < 0
    · obtain ⟨u, rfl⟩ : ∃ u : Nat, i = -(u : Int) := ⟨i.natAbs, by omega⟩
      have hc1 : ((0 : Int) ≤ -(u : Int)) = False := eq_false (by omega)
      have hc2 : (-(u : Int) < 0) = True := eq_true (by omega)
      have hd := nDigits_20 (u := u) (by omega)
      have hz : (1 + ((Lib.nDigits u : Nat) : Int)).toNat - 1 = Lib.nDigits u := by omega
      have hl := Lib.decDigits_length u
      have hu1 : IntKind.u64.wrap (-(u : Int)) = 18446744073709551616 - (u : Int) := by
        show (-(u : Int)) % 18446744073709551616 = _
        omega
      have hu2 : IntKind.u64.wrap (0 - (18446744073709551616 - (u : Int))) = (u : Int) := by
        show (0 - (18446744073709551616 - (u : Int))) % 18446744073709551616 = _
        omega
      rw [Lib.itoa_neg u (by omega)]
      refine acalls_vc L_ok mixed [5] (rs := [.tmp 4]) (n := 54) Tryz.func123 rfl rfl rfl rfl (Nat.le_of_ble_eq_true rfl) (by kernel_rfl) ?_
      have hl24 := l24_len (l := Lib.decDigits u) (by omega)
      have hn1 := l24_neg hl
      have hz2 : (1 + ((Lib.nDigits u : Nat) : Int)).toNat - 0 = Lib.nDigits u + 1 := by omega
      repeat' (first | refine unhold ?_ | (simp -dsimp -implicitDefEqProofs (disch := (first | assumption | omega | (simp only [ll1, ll2, ll3, ll4, ll5, ll6, ll7, ll8]; omega))) only [go_sem, hc1, hc2, hu1, hu2, hz, hz2, hl24, hn1]) | refine acalls_same (numDigits_c _ _ ?_ ?_) ?_ | refine ⟨_, numDigits_c _ _ ?_ ?_, ?_⟩ | refine ⟨_, _, numDigits_c _ _ ?_ ?_, ?_⟩ | refine acalls_same (format_f _ _ ?_) ?_ | refine ⟨_, format_f _ _ ?_, ?_⟩ | refine ⟨_, _, format_f _ _ ?_, ?_⟩ | refine vcI (fun _ => ?_) (fun _ => ?_) | (refine vcA ?_ ?_; focus (repeat' (first | omega | assumption | refine vcA ?_ ?_); done)) | omega | refine imp_in (fun _ => ?_))
      · exact isBytes_map (45 :: Lib.decDigits u)
      · rw [show unbytes (byteAV 45 :: (Lib.decDigits u).map byteAV) = 45 :: Lib.decDigits u from unbytes_map (45 :: Lib.decDigits u)]
        exact done_cut _ (Le.refl _) (.str _) ⟨rfl, rfl⟩
    · obtain ⟨u, rfl⟩ := Int.eq_ofNat_of_zero_le (show 0 ≤ i by omega)
      have hc1 : ((0 : Int) ≤ (u : Int)) = True := eq_true (by omega)
      have hc2 : ((u : Int) < 0) = False := eq_false (by omega)
      have hc3 : ((u : Int) < 100) = False := eq_false (by omega)
      have hd := nDigits_20 (u := u) (by omega)
      have hz : (1 + ((Lib.nDigits u : Nat) : Int)).toNat - 1 = Lib.nDigits u := by omega
      have hl := Lib.decDigits_length u
      rw [Lib.itoa_nonneg]
      refine acalls_vc L_ok mixed [5] (rs := [.tmp 4]) (n := 54) Tryz.func123 rfl rfl rfl rfl (Nat.le_of_ble_eq_true rfl) (by kernel_rfl) ?_
      have hl24 := l24_len (l := Lib.decDigits u) (by omega)
      have hp1 := l24_pos hl
      repeat' (first | refine unhold ?_ | (simp -dsimp -implicitDefEqProofs (disch := (first | assumption | omega | (simp only [ll1, ll2, ll3, ll4, ll5, ll6, ll7, ll8]; omega))) only [go_sem, hc1, hc2, hc3, hz, hl24, hp1]) | refine acalls_same (numDigits_c _ _ ?_ ?_) ?_ | refine ⟨_, numDigits_c _ _ ?_ ?_, ?_⟩ | refine ⟨_, _, numDigits_c _ _ ?_ ?_, ?_⟩ | refine acalls_same (format_f _ _ ?_) ?_ | refine ⟨_, format_f _ _ ?_, ?_⟩ | refine ⟨_, _, format_f _ _ ?_, ?_⟩ | refine vcI (fun _ => ?_) (fun _ => ?_) | (refine vcA ?_ ?_; focus (repeat' (first | omega | assumption | refine vcA ?_ ?_); done)) | omega | refine imp_in (fun _ => ?_))
      exact done_cut _ (Le.refl _) (.str _) ⟨rfl, rfl⟩
theorem Itoa_i (i : Int) (H : List AObj) (h1 : -9223372036854775808 < i) (h2 : i < 9223372036854775808) : ACalls Tryz.prog 101 [.lit (.int .i64 i)] H (fun y H' => y = .str (Lib.itoa i) ∧ H' = H) := by
  have c := fun H => FormatInt_c i H h1 h2
  refine acalls_vc L_ok mixed [] (rs := [.tmp 2]) (n := 5) Tryz.func101 rfl rfl rfl rfl (Nat.le_of_ble_eq_true rfl) (by kernel_rfl) ?_
  repeat' (first | refine unhold ?_ | (simp -dsimp -implicitDefEqProofs (disch := (first | assumption | omega | (simp only [ll1, ll2, ll3, ll4, ll5, ll6, ll7, ll8]; omega))) only [go_sem]) | refine acalls_same (c _) ?_ | refine ⟨_, c _, ?_⟩ | refine ⟨_, _, c _, ?_⟩ | refine vcI (fun _ => ?_) (fun _ => ?_) | (refine vcA ?_ ?_; focus (repeat' (first | omega | assumption | refine vcA ?_ ?_); done)) | omega | refine imp_in (fun _ => ?_))
  exact done_same ⟨rfl, rfl⟩
theorem Itoa_c (i : Int) (H : List AObj) (h1 : -9223372036854775808 < i) (h2 : i < 9223372036854775808) : ACalls Tryz.prog 69 [.lit (.int .i64 i)] H (fun y H' => y = .str (Lib.itoa i) ∧ H' = H) := by
  have c := fun H => Itoa_i i H h1 h2
  refine acalls_vc L_ok mixed [] (rs := [.tmp 2]) (n := 5) Tryz.func69 rfl rfl rfl rfl (Nat.le_of_ble_eq_true rfl) (by kernel_rfl) ?_
  repeat' (first | refine unhold ?_ | (simp -dsimp -implicitDefEqProofs (disch := (first | assumption | omega | (simp only [ll1, ll2, ll3, ll4, ll5, ll6, ll7, ll8]; omega))) only [go_sem]) | refine acalls_same (c _) ?_ | refine ⟨_, c _, ?_⟩ | refine ⟨_, _, c _, ?_⟩ | refine vcI (fun _ => ?_) (fun _ => ?_) | (refine vcA ?_ ?_; focus (repeat' (first | omega | assumption | refine vcA ?_ ?_); done)) | omega | refine imp_in (fun _ => ?_))
  exact done_same ⟨rfl, rfl⟩
end Go.Proofs.YtdahdbnfknmmgaaGreatDoor
end

section
set_option linter.unusedSimpArgs false
set_option linter.unusedVariables false
namespace Go.Proofs.YtdahdbnfknmmgaaGreatDoor
open Go V
set_option maxRecDepth 10000
mutual
def trT : JV → bytes → bytes
  | .mk k n t ns is, o =>
    if 8192 < o.length then o
    else if k = 5 then itT false is true ns (o ++ [91]) ++ [93]
    else if k = 6 then itT true is true ns (o ++ [123]) ++ [125]
    else o ++ printP (.mk k n t ns is)
def itT (obj : Bool) : List JV → Bool → List bytes → bytes → bytes
  | [], _, _, o => o
  | v :: r, first, ns, o => itT obj r false ns.tail (trT v (o ++ headP first obj (ns.headD [])))
end
theorem trT_eq (v : JV) (o : bytes) : trT v o = if 8192 < o.length then o else if v.kind = 5 then itT false v.items true v.names (o ++ [91]) ++ [93] else if v.kind = 6 then itT true v.items true v.names (o ++ [123]) ++ [125] else o ++ printP v := by
  cases v; rw [trT]; rfl
theorem itT_nil (obj first : Bool) (ns : List bytes) (o : bytes) : itT obj [] first ns o = o := by rw [itT]
theorem itT_cons (obj first : Bool) (ns : List bytes) (v : JV) (r : List JV) (o : bytes) : itT obj (v :: r) first ns o = itT obj r false ns.tail (trT v (o ++ headP first obj (ns.headD []))) := by rw [itT]
/-- What is laid instead of p behind o. -/
def Cut (o p x : bytes) : Prop := o.length ≤ x.length ∧ x.length ≤ o.length + p.length ∧ (x = o ++ p ∨ (8192 < x.length ∧ 8192 < o.length + p.length))
theorem cut_self (o p : bytes) : Cut o p (o ++ p) := ⟨by simp, by simp, .inl rfl⟩
theorem cut_trans {o p q x y : bytes} (h : Cut o p x) (k : Cut x q y) : Cut o (p ++ q) y := by
  obtain ⟨h1, h2, h3⟩ := h
  obtain ⟨k1, k2, k3⟩ := k
  refine ⟨by omega, by rw [List.length_append]; omega, ?_⟩
  rw [List.length_append]
  rcases h3 with rfl | h3
  · rcases k3 with rfl | k3
    · left; rw [List.append_assoc]
    · right; rw [List.length_append] at k3; omega
  · right; omega
theorem cut_add {o p x : bytes} (h : Cut o p x) (q : bytes) : Cut o (p ++ q) (x ++ q) := cut_trans h (cut_self x q)
theorem it_cut {obj : Bool} : ∀ (l : List JV) (first : Bool) (ns : List bytes) (o : bytes), (∀ x ∈ l, ∀ o, Cut o (printP x) (trT x o)) → Cut o (itemsP obj l first ns) (itT obj l first ns o)
  | [], first, ns, o, _ => by
    rw [itT_nil, itemsP_nil]
    have := cut_self o []
    rw [List.append_nil] at this
    exact this
  | v :: r, first, ns, o, h => by
    rw [itT_cons, itemsP_cons, ← List.append_assoc]
    exact cut_trans (cut_trans (cut_self o _) (h v (List.mem_cons_self ..) _)) (it_cut r false ns.tail _ fun x hx => h x (List.mem_cons_of_mem _ hx))
theorem tr_cut : ∀ (v : JV) (o : bytes), Cut o (printP v) (trT v o) := by
  refine JV.induct fun k n t ns is ih o => ?_
  rw [trT_eq]
  by_cases h : 8192 < o.length
  · rw [if_pos h]
    exact ⟨Nat.le_refl _, by omega, .inr ⟨h, by omega⟩⟩
  rw [if_neg h]
  by_cases h5 : k = 5
  · subst h5
    rw [printP_eq, kind_mk, if_pos rfl, if_neg (by decide), if_neg (by decide), if_neg (by decide), if_neg (by decide), if_pos rfl]
    exact cut_add (cut_trans (p := [91]) (cut_self o [91]) (it_cut is true ns _ ih)) [93]
  by_cases h6 : k = 6
  · subst h6
    rw [printP_eq, kind_mk, if_neg (by decide), if_pos rfl, if_neg (by decide), if_neg (by decide), if_neg (by decide), if_neg (by decide), if_neg (by decide), if_pos rfl]
    exact cut_add (cut_trans (p := [123]) (cut_self o [123]) (it_cut is true ns _ ih)) [125]
  rw [kind_mk, if_neg h5, if_neg h6]
  exact cut_self _ _
theorem tr_all (v : JV) : (8192 < (trT v []).length ↔ 8192 < (printP v).length) ∧ ((printP v).length ≤ 8192 → trT v [] = printP v) := by
  obtain ⟨h1, h2, h3⟩ := tr_cut v []
  simp only [List.length_nil, Nat.zero_add, List.nil_append] at h2 h3
  rcases h3 with h | h
  · rw [h]; exact ⟨Iff.rfl, fun _ => rfl⟩
  · exact ⟨⟨fun _ => h.2, fun _ => h.1⟩, fun k => by omega⟩
/-! The loop over the items: what is left behind the place i. -/
theorem headD_drop {α : Type} (l : List α) (i : Nat) (d : α) : (l.drop i).headD d = l.getD i d := by
  rw [List.headD_eq_head?_getD, List.head?_drop, List.getD]
theorem itT_at {obj : Bool} {v : JV} {i : Nat} (h : i < v.items.length) (o : bytes) : itT obj (v.items.drop i) (i == 0) (v.names.drop i) o = itT obj (v.items.drop (i + 1)) (i + 1 == 0) (v.names.drop (i + 1)) (trT (v.items.getD i zeroJ) (o ++ headP (i == 0) obj (v.names.getD i []))) := by
  rw [drop_cons zeroJ h, itT_cons, headD_drop, List.tail_drop]
  rfl
theorem itemsP_at {obj : Bool} {v : JV} {i : Nat} (h : i < v.items.length) : itemsP obj (v.items.drop i) (i == 0) (v.names.drop i) = headP (i == 0) obj (v.names.getD i []) ++ (printP (v.items.getD i zeroJ) ++ itemsP obj (v.items.drop (i + 1)) (i + 1 == 0) (v.names.drop (i + 1))) := by
  rw [drop_cons zeroJ h, itemsP_cons, headD_drop, List.tail_drop]
  rfl
end Go.Proofs.YtdahdbnfknmmgaaGreatDoor
end

section
set_option linter.unusedSimpArgs false
set_option linter.unusedVariables false
namespace Go.Proofs.YtdahdbnfknmmgaaGreatDoor
open Go V
set_option maxRecDepth 10000
set_option maxHeartbeats 1000000
/-- The printer, at k, and its buffer's token, at m. -/
def pA (a : AV) (H : List AObj) (k m : Nat) (o : bytes) : List AObj := (H.set k (bObj 52 m a o)).set m (gObj o.length)
theorem pA_set {a b : AV} {H : List AObj} {k m : Nat} {o p : bytes} (h : k ≠ m) : ((pA a H k m o).set k (bObj 52 m b p)).set m (gObj p.length) = pA b H k m p := by
  unfold pA
  rw [List.set_comm _ _ (Ne.symm h), List.set_set, List.set_set]
theorem pA_len {a : AV} {H : List AObj} {k m : Nat} {o : bytes} : (pA a H k m o).length = H.length := by simp [pA]
structure PAt (H : List AObj) (k m : Nat) : Prop where
  kl : k < H.length
  ml : m < H.length
  ne : k ≠ m
theorem pA_k {a : AV} {H : List AObj} {k m : Nat} {o : bytes} (h : PAt H k m) : (pA a H k m o)[k]? = some (bObj 52 m a o) := by
  unfold pA
  rw [List.getElem?_set_ne h.ne.symm, List.getElem?_set_self h.kl]
theorem pA_m {a : AV} {H : List AObj} {k m : Nat} {o : bytes} (h : PAt H k m) : (pA a H k m o)[m]? = some (gObj o.length) := by
  unfold pA
  rw [List.getElem?_set_self (by rw [List.length_set]; exact h.ml)]
theorem bT_p : bT 52 := by unfold bT; kernel_rfl
theorem pByte {a : AV} {H : List AObj} {k m : Nat} {o : bytes} {z : Int} (c : UInt8) (hz : z = (c.toNat : Int)) (h : PAt H k m) (ha : bAddr k a) (hl : o.length ≤ 100000000) :
    ACalls Tryz.prog 50 [.mp k 0, .lit (.int .u8 z)] (pA a H k m o) (fun x H' => x = .lit .nilIface ∧ H' = pA (.mp k 0) H k m (o ++ [c])) := by
  subst hz
  have := WriteByte_c (c := c) bT_p (pA_k h) ha (pA_m h) hl
  rw [pA_set h.ne] at this
  exact this
theorem pString {a : AV} {H : List AObj} {k m : Nat} {o l : bytes} (h : PAt H k m) (ha : bAddr k a) (hl : o.length ≤ 100000000) (hl2 : l.length ≤ 100000000) :
    ACalls Tryz.prog 52 [.mp k 0, .str l] (pA a H k m o) (fun x H' => x = .tup [.int .i64 l.length, .lit .nilIface] ∧ H' = pA (.mp k 0) H k m (o ++ l)) := by
  have := WriteString_c (l := l) bT_p (pA_k h) ha (pA_m h) hl hl2
  rw [pA_set h.ne] at this
  exact this
theorem esc_cases (c : UInt8) : (∃ j, j < 7 ∧ idxB [34, 92, 8, 9, 10, 12, 13] c = ((j : Nat) : Int) ∧ escB c = [92, ([34, 92, 98, 116, 110, 102, 114] : bytes).getD j 0]) ∨ (idxB [34, 92, 8, 9, 10, 12, 13] c = -1 ∧ c.toNat < 32 ∧ escB c = [92, 117, 48, 48, hexS (c.toNat / 16), hexS (c.toNat % 16)]) ∨ (idxB [34, 92, 8, 9, 10, 12, 13] c = -1 ∧ ¬ c.toNat < 32 ∧ escB c = [c]) := by
  have : ∀ n : Fin 256, (∃ j, j < 7 ∧ idxB [34, 92, 8, 9, 10, 12, 13] (UInt8.ofNat n.val) = ((j : Nat) : Int) ∧ escB (UInt8.ofNat n.val) = [92, ([34, 92, 98, 116, 110, 102, 114] : bytes).getD j 0]) ∨ (idxB [34, 92, 8, 9, 10, 12, 13] (UInt8.ofNat n.val) = -1 ∧ (UInt8.ofNat n.val).toNat < 32 ∧ escB (UInt8.ofNat n.val) = [92, 117, 48, 48, hexS ((UInt8.ofNat n.val).toNat / 16), hexS ((UInt8.ofNat n.val).toNat % 16)]) ∨ (idxB [34, 92, 8, 9, 10, 12, 13] (UInt8.ofNat n.val) = -1 ∧ ¬ (UInt8.ofNat n.val).toNat < 32 ∧ escB (UInt8.ofNat n.val) = [UInt8.ofNat n.val]) := by decide +kernel
  have := this ⟨c.toNat, c.toNat_lt⟩
  simp only [UInt8.ofNat_toNat] at this
  exact this
theorem pquote_c {a : AV} {H : List AObj} {k m : Nat} {o : bytes} (s : bytes) (h : PAt H k m) (ha : bAddr k a) (hl : o.length ≤ 10000000) (hs : s.length ≤ 100000) :
    ACalls Tryz.prog 26 [.mp k 0, .str s] (pA a H k m o) (fun x H' => x = .tup [] ∧ H' = pA (.mp k 0) H k m (o ++ quoteP s)) := by
  refine acalls_vc L_ok mixed [1000009, 1000012, 1000013] (rs := []) (n := 65) Tryz.func26 rfl rfl rfl rfl (Nat.le_of_ble_eq_true rfl) (by kernel_rfl) ?_
  repeat' (first | refine unhold ?_ | (simp -dsimp -implicitDefEqProofs (disch := (first | assumption | omega | (simp only [ll1, ll2, ll3, ll4, ll5, ll6, ll7, ll8]; omega))) only [go_sem]) | refine acalls_same (pByte 34 rfl h ha (by omega)) ?_ | refine ⟨_, pByte 34 rfl h ha (by omega), ?_⟩ | refine ⟨_, _, pByte 34 rfl h ha (by omega), ?_⟩ | refine vcI (fun _ => ?_) (fun _ => ?_) | (refine vcA ?_ ?_; focus (repeat' (first | omega | assumption | refine vcA ?_ ?_); done)) | omega | refine imp_in (fun _ => ?_))
  refine vc_loopk L_ok mixed [1000009, 1000012, 1000013] [0, 1, 12] (fun i : Nat => i ≤ s.length) (fun i => [(13, .int .i64 i)]) (fun i => pA (.mp k 0) H k m (o ++ 34 :: (s.take i).flatMap escB)) (fun i => s.length - i) (by kernel_rfl) ?_ 0 (by omega) env_ok rfl
  intro i hi
  have hfl := flat_len (s.take i)
  have htl : (s.take i).length ≤ 100000 := by rw [List.length_take]; omega
  have hlo : (o ++ 34 :: (s.take i).flatMap escB).length ≤ 20000000 := by simp only [List.length_append, List.length_cons]; omega
  by_cases hil : i < s.length
  · have ht := flat_take hil
    generalize hc : s.getD i 0 = c at ht
    generalize hf : (s.take i).flatMap escB = f at *
    have hcl := c.toNat_lt
    rcases esc_cases c with ⟨j, hj, hi1, hi2⟩ | ⟨hi1, hi3, hi2⟩ | ⟨hi1, hi3, hi2⟩
    · have hI := fun H => IndexByte_c [34, 92, 8, 9, 10, 12, 13] c H
      rw [hi1] at hI
      rw [hi2] at ht
      repeat' (first | refine unhold ?_ | (simp -dsimp -implicitDefEqProofs (disch := (first | assumption | omega | (simp only [ll1, ll2, ll3, ll4, ll5, ll6, ll7, ll8]; omega))) only [go_sem, hc, List.length_append, List.length_cons, List.length_nil]) | refine acalls_same (hI _) ?_ | refine ⟨_, hI _, ?_⟩ | refine ⟨_, _, hI _, ?_⟩ | refine acalls_same (pByte 92 rfl h bAddr_k ?_) ?_ | refine ⟨_, pByte 92 rfl h bAddr_k ?_, ?_⟩ | refine ⟨_, _, pByte 92 rfl h bAddr_k ?_, ?_⟩ | refine acalls_same (pByte _ rfl h bAddr_k ?_) ?_ | refine ⟨_, pByte _ rfl h bAddr_k ?_, ?_⟩ | refine ⟨_, _, pByte _ rfl h bAddr_k ?_, ?_⟩ | refine vcI (fun _ => ?_) (fun _ => ?_) | (refine vcA ?_ ?_; focus (repeat' (first | omega | assumption | refine vcA ?_ ?_); done)) | omega | refine imp_in (fun _ => ?_))
      rw [← ht]
      refine again (i + 1) ?_ ?_ rfl env_ok
      · omega
      · omega
    · have hI := fun H => IndexByte_c [34, 92, 8, 9, 10, 12, 13] c H
      rw [hi1] at hI
      rw [hi2] at ht
      have hct : ((c.toNat : Int) < 32) = True := eq_true (by omega)
      repeat' (first | refine unhold ?_ | (simp -dsimp -implicitDefEqProofs (disch := (first | assumption | omega | (simp only [ll1, ll2, ll3, ll4, ll5, ll6, ll7, ll8]; omega))) only [go_sem, hc, hct, List.length_append, List.length_cons, List.length_nil]) | refine acalls_same (hI _) ?_ | refine ⟨_, hI _, ?_⟩ | refine ⟨_, _, hI _, ?_⟩ | refine acalls_same (pString h bAddr_k ?_ ?_) ?_ | refine ⟨_, pString h bAddr_k ?_ ?_, ?_⟩ | refine ⟨_, _, pString h bAddr_k ?_ ?_, ?_⟩ | refine acalls_same (pByte _ rfl h bAddr_k ?_) ?_ | refine ⟨_, pByte _ rfl h bAddr_k ?_, ?_⟩ | refine ⟨_, _, pByte _ rfl h bAddr_k ?_, ?_⟩ | refine vcI (fun _ => ?_) (fun _ => ?_) | (refine vcA ?_ ?_; focus (repeat' (first | omega | assumption | refine vcA ?_ ?_); done)) | omega | refine imp_in (fun _ => ?_))
      have ht2 : (s.take (i + 1)).flatMap escB = f ++ [92, 117, 48, 48, ([48, 49, 50, 51, 52, 53, 54, 55, 56, 57, 97, 98, 99, 100, 101, 102] : bytes).getD (c.toNat / 16) 0, ([48, 49, 50, 51, 52, 53, 54, 55, 56, 57, 97, 98, 99, 100, 101, 102] : bytes).getD (c.toNat % 16) 0] := ht
      rw [show ((c.toNat : Int) % 16).toNat = c.toNat % 16 by omega, ← ht2]
      refine again (i + 1) ?_ ?_ rfl env_ok
      · omega
      · omega
    · have hI := fun H => IndexByte_c [34, 92, 8, 9, 10, 12, 13] c H
      rw [hi1] at hI
      rw [hi2] at ht
      have hct : ((c.toNat : Int) < 32) = False := eq_false (by omega)
      repeat' (first | refine unhold ?_ | (simp -dsimp -implicitDefEqProofs (disch := (first | assumption | omega | (simp only [ll1, ll2, ll3, ll4, ll5, ll6, ll7, ll8]; omega))) only [go_sem, hc, hct, List.length_append, List.length_cons, List.length_nil]) | refine acalls_same (hI _) ?_ | refine ⟨_, hI _, ?_⟩ | refine ⟨_, _, hI _, ?_⟩ | refine acalls_same (pByte c rfl h bAddr_k ?_) ?_ | refine ⟨_, pByte c rfl h bAddr_k ?_, ?_⟩ | refine ⟨_, _, pByte c rfl h bAddr_k ?_, ?_⟩ | refine vcI (fun _ => ?_) (fun _ => ?_) | (refine vcA ?_ ?_; focus (repeat' (first | omega | assumption | refine vcA ?_ ?_); done)) | omega | refine imp_in (fun _ => ?_))
      rw [← ht]
      refine again (i + 1) ?_ ?_ rfl env_ok
      · omega
      · omega
  · obtain rfl : i = s.length := by omega
    rw [List.take_length] at *
    repeat' (first | refine unhold ?_ | (simp -dsimp -implicitDefEqProofs (disch := (first | assumption | omega | (simp only [ll1, ll2, ll3, ll4, ll5, ll6, ll7, ll8]; omega))) only [go_sem, List.length_append, List.length_cons, List.length_nil]) | refine acalls_same (pByte 34 rfl h bAddr_k ?_) ?_ | refine ⟨_, pByte 34 rfl h bAddr_k ?_, ?_⟩ | refine ⟨_, _, pByte 34 rfl h bAddr_k ?_, ?_⟩ | refine vcI (fun _ => ?_) (fun _ => ?_) | (refine vcA ?_ ?_; focus (repeat' (first | omega | assumption | refine vcA ?_ ?_); done)) | omega | refine imp_in (fun _ => ?_))
    exact done_keep _ (Le.refl _) (by rw [pA_len, pA_len]; exact Nat.le_refl _) ⟨rfl, rfl⟩
end Go.Proofs.YtdahdbnfknmmgaaGreatDoor
end

section
set_option linter.unusedSimpArgs false
set_option linter.unusedVariables false
namespace Go.Proofs.YtdahdbnfknmmgaaGreatDoor
open Go V
set_option maxRecDepth 10000
set_option maxHeartbeats 1000000
theorem PAt.app {H : List AObj} {k m : Nat} (h : PAt H k m) (M : List AObj) : PAt (H ++ M) k m := ⟨by have := h.kl; rw [List.length_append]; omega, by have := h.ml; rw [List.length_append]; omega, h.ne⟩
theorem pA_app {a : AV} {H : List AObj} {k m : Nat} {o : bytes} {M : List AObj} (h : PAt H k m) : pA a H k m o ++ M = pA a (H ++ M) k m o := by
  unfold pA
  rw [List.set_append_left _ _ h.kl, List.set_append_left _ _ (by rw [List.length_set]; exact h.ml)]
theorem pA_ext {a : AV} {H : List AObj} {k m : Nat} {o : bytes} {M : List AObj} (h : PAt H k m) : (pA a (H ++ M) k m o)[H.length]? = M[0]? := by
  rw [← pA_app h, List.getElem?_append_right (by rw [pA_len]; exact Nat.le_refl _), pA_len, Nat.sub_self]
theorem pA_setx {a : AV} {H : List AObj} {k m : Nat} {o : bytes} {M : List AObj} {x : AObj} (h : PAt H k m) : (pA a (H ++ M) k m o).set H.length x = pA a (H ++ M.set 0 x) k m o := by
  rw [← pA_app h, ← pA_app h, List.set_append_right _ _ (by rw [pA_len]; exact Nat.le_refl _), pA_len, Nat.sub_self]
theorem low_ptr {m k : Nat} {a : AV} (h : bAddr k a) (hk : k < m) : Low m a := by
  rcases h with rfl | rfl
  · exact .lit _
  · exact .mp _ _ hk
theorem pA_obj {a b : AV} {H : List AObj} {k m mm : Nat} {o p : bytes} (h : PAt H k m) (hb : bAddr k b) (hmm : H.length ≤ mm) : ∀ (j : Nat) (sh : Shape) (cs : List AV), (pA b H k m p)[j]? = some (.cells sh cs) → (pA a H k m o)[j]? = some (.cells sh cs) ∨ ∀ z ∈ cs, Low mm z := fun j sh cs e => by
  have h1 := h.kl
  have h2 := h.ml
  by_cases hj : j = m
  · subst hj
    rw [pA_m h] at e
    cases e
  · by_cases hk : j = k
    · subst hk
      rw [pA_k h] at e
      cases e
      right
      intro z hz
      simp only [List.mem_cons, List.not_mem_nil, or_false] at hz
      rcases hz with rfl | rfl
      · exact low_ptr hb (by omega)
      · exact low_scalars (fun x hx => by
          obtain ⟨c, _, rfl⟩ := List.mem_map.1 hx
          exact ⟨_, rfl⟩) (fun k e => by cases e; omega)
    · left
      unfold pA at e ⊢
      rw [List.getElem?_set_ne (Ne.symm hj), List.getElem?_set_ne (Ne.symm hk)] at e ⊢
      exact e
theorem low_ipJ {m : Nat} (v : JV) : Low m (jAV v).ip := by
  rw [jAV_eq]
  refine .ip _ fun y hy => ?_
  simp [AV.flat, flats] at hy
  rcases hy with rfl | rfl | rfl | rfl | rfl
  · exact .lit _
  · exact .lit _
  · exact .str _
  · exact low_ssl
  · exact low_jsl
theorem pitems_c {a : AV} {H : List AObj} {k m : Nat} {o : bytes} {d : Nat} (v : JV) (f l : UInt8) (h : PAt H k m) (ha : bAddr k a) (hr : rightJ (d + 1) v = true) (hk : v.kind = 5 ∨ v.kind = 6) (hs : o.length + (printP v).length ≤ 1000000) (hsz : sizeJ v ≤ 40000)
    (ih : ∀ x ∈ v.items, ∀ (H : List AObj) (o : bytes), PAt H k m → o.length + (printP x).length ≤ 1000000 → ACalls Tryz.prog 47 [.mp k 0, jAV x] (pA (.mp k 0) H k m o) (fun x' H' => x' = .tup [] ∧ H' = pA (.mp k 0) H k m (trT x o))) :
    ACalls Tryz.prog 70 [.mp k 0, jAV v, .lit (.int .u8 f.toNat), .lit (.int .u8 l.toNat)] (pA a H k m o) (fun x H' => x = .tup [] ∧ H' = pA (.mp k 0) H k m (itT (decide (v.kind = 6)) v.items true v.names (o ++ [f]) ++ [l])) := by
  have hpe : (printP v).length = (itemsP (decide (v.kind = 6)) v.items true v.names).length + 2 := by
    rw [printP_eq, if_neg (by omega), if_neg (by omega), if_neg (by omega), if_neg (by omega)]
    rcases hk with e | e
    · rw [if_pos e, decide_eq_false (by omega)]; simp
    · rw [if_neg (by omega), if_pos e, decide_eq_true e]; simp
  have hn : v.kind = 6 → v.names.length = v.items.length := fun e => (right_obj hr e).2.2.2.1
  have hszi := size_items v
  have hszn := fun i (hi : i < v.names.length) => size_name (v := v) (mem_getD (d := []) hi)
  have hkl := h.kl
  generalize hF : itT (decide (v.kind = 6)) v.items true v.names (o ++ [f]) = F
  refine acalls_vc L_ok mixed [] (rs := []) (n := 52) Tryz.func70 rfl rfl rfl rfl (Nat.le_of_ble_eq_true rfl) (by kernel_rfl) ?_
  repeat' (first | refine unhold ?_ | (simp -dsimp -implicitDefEqProofs (disch := (first | assumption | omega | (simp only [ll1, ll2, ll3, ll4, ll5, ll6, ll7, ll8]; omega))) only [go_sem]) | refine acalls_same (pByte f rfl h ha (by omega)) ?_ | refine ⟨_, pByte f rfl h ha (by omega), ?_⟩ | refine ⟨_, _, pByte f rfl h ha (by omega), ?_⟩ | refine vcI (fun _ => ?_) (fun _ => ?_) | (refine vcA ?_ ?_; focus (repeat' (first | omega | assumption | refine vcA ?_ ?_); done)) | omega | refine imp_in (fun _ => ?_))
  refine vc_loopk L_ok mixed [] [0, 3, 5, 16, 17] (fun p : Nat × bytes => p.1 ≤ v.items.length ∧ itT (decide (v.kind = 6)) (v.items.drop p.1) (p.1 == 0) (v.names.drop p.1) p.2 = F ∧ p.2.length + (itemsP (decide (v.kind = 6)) (v.items.drop p.1) (p.1 == 0) (v.names.drop p.1)).length + 1 ≤ 1000000) (fun p => [(18, .int .i64 p.1)]) (fun p => pA (.mp k 0) H k m p.2) (fun p => v.items.length - p.1) (by kernel_rfl) ?_ (0, o ++ [f]) ⟨by simp, hF, by simp only [List.drop_zero, List.length_append, List.length_cons, List.length_nil]; rw [show ((0 : Nat) == 0) = true from rfl]; omega⟩ env_ok rfl
  rintro ⟨i, x⟩ ⟨hi, hx, hxl⟩
  dsimp only at hi hx hxl ⊢
  by_cases hil : i < v.items.length
  · rw [itT_at hil] at hx
    rw [itemsP_at hil] at hxl
    have hcut := tr_cut (v.items.getD i zeroJ) (x ++ headP (i == 0) (decide (v.kind = 6)) (v.names.getD i []))
    have hih := ih _ (mem_getD (d := zeroJ) hil)
    have hnm : v.kind = 6 → i < v.names.length := fun e => by have := hn e; omega
    simp only [List.length_append] at hxl
    have h44 : headP (i == 0) (decide (v.kind = 6)) (v.names.getD i []) = (if i = 0 then [] else [44]) ++ (if v.kind = 6 then quoteP (v.names.getD i []) ++ [58] else []) := by
      unfold headP
      by_cases e : i = 0
      · subst e; simp
      · rw [show (i == 0) = false from beq_eq_false_iff_ne.2 e]; simp [e]
    rw [h44] at hx hxl hcut
    have hq := quoteP_len (v.names.getD i [])
    have hqs : v.kind = 6 → (v.names.getD i []).length ≤ 100000 := fun e => by have := hszn i (hnm e); omega
    generalize hsn : v.names.getD i [] = s at *
    generalize hy : v.items.getD i zeroJ = y at *
    have hp1 := print_first y
    obtain ⟨c1, c2, c3⟩ := hcut
    simp only [List.length_append] at c2
    have hlen1 : ∀ z : bytes, (trT y z).length ≤ 10000000 → (trT y z).length ≤ 100000000 := fun z h => by omega
    by_cases h0 : i = 0
    · have hc0 : ((0 : Int) < (i : Int)) = False := eq_false (by omega)
      rw [if_pos h0] at hx hxl c1 c2 c3
      by_cases h6 : v.kind = 6
      · have hc6 : (v.kind = 6) = True := eq_true h6
        have hn6 := hnm h6
        have hq6 := hqs h6
        rw [if_pos h6] at hx hxl c1 c2 c3
        simp only [List.length_append, List.length_cons, List.length_nil] at hxl c2
        repeat' (first | refine unhold ?_ | (simp -dsimp -implicitDefEqProofs (disch := (first | assumption | omega | (simp only [ll1, ll2, ll3, ll4, ll5, ll6, ll7, ll8]; omega))) only [go_sem, hc0, hc6, hy, hsn, pA_app h, pA_len, pA_ext h, pA_setx h, List.length_append, List.length_cons, List.length_nil]) | refine acalls_same (pquote_c _ (h.app _) bAddr_k ?_ ?_) ?_ | refine ⟨_, pquote_c _ (h.app _) bAddr_k ?_ ?_, ?_⟩ | refine ⟨_, _, pquote_c _ (h.app _) bAddr_k ?_ ?_, ?_⟩ | refine acalls_same (pByte 58 rfl (h.app _) bAddr_k ?_) ?_ | refine ⟨_, pByte 58 rfl (h.app _) bAddr_k ?_, ?_⟩ | refine ⟨_, _, pByte 58 rfl (h.app _) bAddr_k ?_, ?_⟩ | refine acalls_same (hih _ _ (h.app _) ?_) ?_ | refine ⟨_, hih _ _ (h.app _) ?_, ?_⟩ | refine ⟨_, _, hih _ _ (h.app _) ?_, ?_⟩ | refine vcI (fun _ => ?_) (fun _ => ?_) | (refine vcA ?_ ?_; focus (repeat' (first | omega | assumption | refine vcA ?_ ?_); done)) | omega | refine imp_in (fun _ => ?_))
        refine again_drop (H.length) ([.cells (.one 29) (jCells y)]) ((i + 1, trT y (x ++ ([] ++ (quoteP s ++ [58]))))) ?_ ?_ ?_ ?_ ?_ (by repeat (first | exact envLow_nil | (refine envLow_cons ?_ ?_; focus (first | (first | exact .lit _ | exact .str _ | exact .any | exact low_bytes | exact low_runes | exact .mp _ _ (by omega) | exact .msl _ _ _ _ (by omega) | exact low_nilsl (fun k e => by cases e) | exact low_jAV _ | exact low_jsl | exact low_ssl | exact low_fn0 | exact low_ipJ _) | (refine low_tup ?_; repeat (first | exact lowAll_nil | (refine lowAll_cons ?_ ?_; focus (first | exact .lit _ | exact .str _ | exact .any | exact low_bytes | exact low_runes | exact .mp _ _ (by omega) | exact .msl _ _ _ _ (by omega) | exact low_nilsl (fun k e => by cases e) | exact low_jAV _ | exact low_jsl | exact low_ssl | exact low_fn0 | exact low_ipJ _)))) | (refine low_agg ?_; repeat (first | exact lowAll_nil | (refine lowAll_cons ?_ ?_; focus (first | exact .lit _ | exact .str _ | exact .any | exact low_bytes | exact low_runes | exact .mp _ _ (by omega) | exact .msl _ _ _ _ (by omega) | exact low_nilsl (fun k e => by cases e) | exact low_jAV _ | exact low_jsl | exact low_ssl | exact low_fn0 | exact low_ipJ _)))))))) ?_ env_ok
        · dsimp only; omega
        · refine ⟨by dsimp only; omega, hx, ?_⟩
          dsimp only
          omega
        · dsimp only
          rw [pA_app h]
          simp [jCells]
        · exact pA_len
        · exact Nat.le_of_eq pA_len
        · exact pA_obj h bAddr_k (Nat.le_refl _)
      · have hc6 : (v.kind = 6) = False := eq_false h6
        rw [if_neg h6] at hx hxl c1 c2 c3
        simp only [List.length_append, List.length_cons, List.length_nil] at hxl c2
        repeat' (first | refine unhold ?_ | (simp -dsimp -implicitDefEqProofs (disch := (first | assumption | omega | (simp only [ll1, ll2, ll3, ll4, ll5, ll6, ll7, ll8]; omega))) only [go_sem, hc0, hc6, hy, hsn, pA_app h, pA_len, pA_ext h, pA_setx h, List.length_append, List.length_cons, List.length_nil]) | refine acalls_same (pquote_c _ (h.app _) bAddr_k ?_ ?_) ?_ | refine ⟨_, pquote_c _ (h.app _) bAddr_k ?_ ?_, ?_⟩ | refine ⟨_, _, pquote_c _ (h.app _) bAddr_k ?_ ?_, ?_⟩ | refine acalls_same (pByte 58 rfl (h.app _) bAddr_k ?_) ?_ | refine ⟨_, pByte 58 rfl (h.app _) bAddr_k ?_, ?_⟩ | refine ⟨_, _, pByte 58 rfl (h.app _) bAddr_k ?_, ?_⟩ | refine acalls_same (hih _ _ (h.app _) ?_) ?_ | refine ⟨_, hih _ _ (h.app _) ?_, ?_⟩ | refine ⟨_, _, hih _ _ (h.app _) ?_, ?_⟩ | refine vcI (fun _ => ?_) (fun _ => ?_) | (refine vcA ?_ ?_; focus (repeat' (first | omega | assumption | refine vcA ?_ ?_); done)) | omega | refine imp_in (fun _ => ?_))
        refine again_drop (H.length) ([.cells (.one 29) (jCells y)]) ((i + 1, trT y (x ++ ([] ++ [])))) ?_ ?_ ?_ ?_ ?_ (by repeat (first | exact envLow_nil | (refine envLow_cons ?_ ?_; focus (first | (first | exact .lit _ | exact .str _ | exact .any | exact low_bytes | exact low_runes | exact .mp _ _ (by omega) | exact .msl _ _ _ _ (by omega) | exact low_nilsl (fun k e => by cases e) | exact low_jAV _ | exact low_jsl | exact low_ssl | exact low_fn0 | exact low_ipJ _) | (refine low_tup ?_; repeat (first | exact lowAll_nil | (refine lowAll_cons ?_ ?_; focus (first | exact .lit _ | exact .str _ | exact .any | exact low_bytes | exact low_runes | exact .mp _ _ (by omega) | exact .msl _ _ _ _ (by omega) | exact low_nilsl (fun k e => by cases e) | exact low_jAV _ | exact low_jsl | exact low_ssl | exact low_fn0 | exact low_ipJ _)))) | (refine low_agg ?_; repeat (first | exact lowAll_nil | (refine lowAll_cons ?_ ?_; focus (first | exact .lit _ | exact .str _ | exact .any | exact low_bytes | exact low_runes | exact .mp _ _ (by omega) | exact .msl _ _ _ _ (by omega) | exact low_nilsl (fun k e => by cases e) | exact low_jAV _ | exact low_jsl | exact low_ssl | exact low_fn0 | exact low_ipJ _)))))))) ?_ env_ok
        · dsimp only; omega
        · refine ⟨by dsimp only; omega, hx, ?_⟩
          dsimp only
          omega
        · dsimp only
          rw [pA_app h]
          simp [jCells]
        · exact pA_len
        · exact Nat.le_of_eq pA_len
        · exact pA_obj h bAddr_k (Nat.le_refl _)
    · have hc0 : ((0 : Int) < (i : Int)) = True := eq_true (by omega)
      rw [if_neg h0] at hx hxl c1 c2 c3
      by_cases h6 : v.kind = 6
      · have hc6 : (v.kind = 6) = True := eq_true h6
        have hn6 := hnm h6
        have hq6 := hqs h6
        rw [if_pos h6] at hx hxl c1 c2 c3
        simp only [List.length_append, List.length_cons, List.length_nil] at hxl c2
        repeat' (first | refine unhold ?_ | (simp -dsimp -implicitDefEqProofs (disch := (first | assumption | omega | (simp only [ll1, ll2, ll3, ll4, ll5, ll6, ll7, ll8]; omega))) only [go_sem, hc0, hc6, hy, hsn, pA_app h, pA_len, pA_ext h, pA_setx h, List.length_append, List.length_cons, List.length_nil]) | refine acalls_same (pByte 44 rfl (h.app _) bAddr_k ?_) ?_ | refine ⟨_, pByte 44 rfl (h.app _) bAddr_k ?_, ?_⟩ | refine ⟨_, _, pByte 44 rfl (h.app _) bAddr_k ?_, ?_⟩ | refine acalls_same (pquote_c _ (h.app _) bAddr_k ?_ ?_) ?_ | refine ⟨_, pquote_c _ (h.app _) bAddr_k ?_ ?_, ?_⟩ | refine ⟨_, _, pquote_c _ (h.app _) bAddr_k ?_ ?_, ?_⟩ | refine acalls_same (pByte 58 rfl (h.app _) bAddr_k ?_) ?_ | refine ⟨_, pByte 58 rfl (h.app _) bAddr_k ?_, ?_⟩ | refine ⟨_, _, pByte 58 rfl (h.app _) bAddr_k ?_, ?_⟩ | refine acalls_same (hih _ _ (h.app _) ?_) ?_ | refine ⟨_, hih _ _ (h.app _) ?_, ?_⟩ | refine ⟨_, _, hih _ _ (h.app _) ?_, ?_⟩ | refine vcI (fun _ => ?_) (fun _ => ?_) | (refine vcA ?_ ?_; focus (repeat' (first | omega | assumption | refine vcA ?_ ?_); done)) | omega | refine imp_in (fun _ => ?_))
        refine again_drop (H.length) ([.cells (.one 29) (jCells y)]) ((i + 1, trT y (x ++ ([44] ++ (quoteP s ++ [58]))))) ?_ ?_ ?_ ?_ ?_ (by repeat (first | exact envLow_nil | (refine envLow_cons ?_ ?_; focus (first | (first | exact .lit _ | exact .str _ | exact .any | exact low_bytes | exact low_runes | exact .mp _ _ (by omega) | exact .msl _ _ _ _ (by omega) | exact low_nilsl (fun k e => by cases e) | exact low_jAV _ | exact low_jsl | exact low_ssl | exact low_fn0 | exact low_ipJ _) | (refine low_tup ?_; repeat (first | exact lowAll_nil | (refine lowAll_cons ?_ ?_; focus (first | exact .lit _ | exact .str _ | exact .any | exact low_bytes | exact low_runes | exact .mp _ _ (by omega) | exact .msl _ _ _ _ (by omega) | exact low_nilsl (fun k e => by cases e) | exact low_jAV _ | exact low_jsl | exact low_ssl | exact low_fn0 | exact low_ipJ _)))) | (refine low_agg ?_; repeat (first | exact lowAll_nil | (refine lowAll_cons ?_ ?_; focus (first | exact .lit _ | exact .str _ | exact .any | exact low_bytes | exact low_runes | exact .mp _ _ (by omega) | exact .msl _ _ _ _ (by omega) | exact low_nilsl (fun k e => by cases e) | exact low_jAV _ | exact low_jsl | exact low_ssl | exact low_fn0 | exact low_ipJ _)))))))) ?_ env_ok
        · dsimp only; omega
        · refine ⟨by dsimp only; omega, hx, ?_⟩
          dsimp only
          omega
        · dsimp only
          rw [pA_app h]
          simp [jCells]
        · exact pA_len
        · exact Nat.le_of_eq pA_len
        · exact pA_obj h bAddr_k (Nat.le_refl _)
      · have hc6 : (v.kind = 6) = False := eq_false h6
        rw [if_neg h6] at hx hxl c1 c2 c3
        simp only [List.length_append, List.length_cons, List.length_nil] at hxl c2
        repeat' (first | refine unhold ?_ | (simp -dsimp -implicitDefEqProofs (disch := (first | assumption | omega | (simp only [ll1, ll2, ll3, ll4, ll5, ll6, ll7, ll8]; omega))) only [go_sem, hc0, hc6, hy, hsn, pA_app h, pA_len, pA_ext h, pA_setx h, List.length_append, List.length_cons, List.length_nil]) | refine acalls_same (pByte 44 rfl (h.app _) bAddr_k ?_) ?_ | refine ⟨_, pByte 44 rfl (h.app _) bAddr_k ?_, ?_⟩ | refine ⟨_, _, pByte 44 rfl (h.app _) bAddr_k ?_, ?_⟩ | refine acalls_same (pquote_c _ (h.app _) bAddr_k ?_ ?_) ?_ | refine ⟨_, pquote_c _ (h.app _) bAddr_k ?_ ?_, ?_⟩ | refine ⟨_, _, pquote_c _ (h.app _) bAddr_k ?_ ?_, ?_⟩ | refine acalls_same (pByte 58 rfl (h.app _) bAddr_k ?_) ?_ | refine ⟨_, pByte 58 rfl (h.app _) bAddr_k ?_, ?_⟩ | refine ⟨_, _, pByte 58 rfl (h.app _) bAddr_k ?_, ?_⟩ | refine acalls_same (hih _ _ (h.app _) ?_) ?_ | refine ⟨_, hih _ _ (h.app _) ?_, ?_⟩ | refine ⟨_, _, hih _ _ (h.app _) ?_, ?_⟩ | refine vcI (fun _ => ?_) (fun _ => ?_) | (refine vcA ?_ ?_; focus (repeat' (first | omega | assumption | refine vcA ?_ ?_); done)) | omega | refine imp_in (fun _ => ?_))
        refine again_drop (H.length) ([.cells (.one 29) (jCells y)]) ((i + 1, trT y (x ++ ([44] ++ [])))) ?_ ?_ ?_ ?_ ?_ (by repeat (first | exact envLow_nil | (refine envLow_cons ?_ ?_; focus (first | (first | exact .lit _ | exact .str _ | exact .any | exact low_bytes | exact low_runes | exact .mp _ _ (by omega) | exact .msl _ _ _ _ (by omega) | exact low_nilsl (fun k e => by cases e) | exact low_jAV _ | exact low_jsl | exact low_ssl | exact low_fn0 | exact low_ipJ _) | (refine low_tup ?_; repeat (first | exact lowAll_nil | (refine lowAll_cons ?_ ?_; focus (first | exact .lit _ | exact .str _ | exact .any | exact low_bytes | exact low_runes | exact .mp _ _ (by omega) | exact .msl _ _ _ _ (by omega) | exact low_nilsl (fun k e => by cases e) | exact low_jAV _ | exact low_jsl | exact low_ssl | exact low_fn0 | exact low_ipJ _)))) | (refine low_agg ?_; repeat (first | exact lowAll_nil | (refine lowAll_cons ?_ ?_; focus (first | exact .lit _ | exact .str _ | exact .any | exact low_bytes | exact low_runes | exact .mp _ _ (by omega) | exact .msl _ _ _ _ (by omega) | exact low_nilsl (fun k e => by cases e) | exact low_jAV _ | exact low_jsl | exact low_ssl | exact low_fn0 | exact low_ipJ _)))))))) ?_ env_ok
        · dsimp only; omega
        · refine ⟨by dsimp only; omega, hx, ?_⟩
          dsimp only
          omega
        · dsimp only
          rw [pA_app h]
          simp [jCells]
        · exact pA_len
        · exact Nat.le_of_eq pA_len
        · exact pA_obj h bAddr_k (Nat.le_refl _)
  · obtain rfl : i = v.items.length := by omega
    repeat' (first | refine unhold ?_ | (simp -dsimp -implicitDefEqProofs (disch := (first | assumption | omega | (simp only [ll1, ll2, ll3, ll4, ll5, ll6, ll7, ll8]; omega))) only [go_sem]) | refine acalls_same (pByte l rfl h bAddr_k ?_) ?_ | refine ⟨_, pByte l rfl h bAddr_k ?_, ?_⟩ | refine ⟨_, _, pByte l rfl h bAddr_k ?_, ?_⟩ | refine vcI (fun _ => ?_) (fun _ => ?_) | (refine vcA ?_ ?_; focus (repeat' (first | omega | assumption | refine vcA ?_ ?_); done)) | omega | refine imp_in (fun _ => ?_))
    rw [List.drop_length, itT_nil] at hx
    rw [hx]
    exact done_keep _ (Le.refl _) (by rw [pA_len, pA_len]; exact Nat.le_refl _) ⟨rfl, rfl⟩
theorem tr_stop {v : JV} {o : bytes} (h : 8192 < o.length) : trT v o = o := by rw [trT_eq, if_pos h]
theorem tr_leaf {v : JV} {o : bytes} (h : ¬ 8192 < o.length) (hk : v.kind ≠ 5 ∧ v.kind ≠ 6) : trT v o = o ++ printP v := by rw [trT_eq, if_neg h, if_neg hk.1, if_neg hk.2]
theorem ptree_leaf {a : AV} {H : List AObj} {k m : Nat} {o : bytes} {d : Nat} (v : JV) (h : PAt H k m) (ha : bAddr k a) (ha2 : 8192 < o.length → a = .mp k 0) (hr : rightJ d v = true) (hk : v.kind ≠ 5 ∧ v.kind ≠ 6) (hs : o.length + (printP v).length ≤ 1000000) (hsz : sizeJ v ≤ 40000) :
    ACalls Tryz.prog 47 [.mp k 0, jAV v] (pA a H k m o) (fun x H' => x = .tup [] ∧ H' = pA (.mp k 0) H k m (trT v o)) := by
  have hkl := h.kl
  have hL := Len_c (T := 52) (pA_k (a := a) (o := o) h)
  by_cases hol : 8192 < o.length
  · have hc : (8192 < ((o.length : Nat) : Int)) = True := eq_true (by omega)
    have e := ha2 hol
    subst e
    rw [tr_stop hol]
    refine acalls_vc L_ok mixed [1000010] (rs := []) (n := 54) Tryz.func47 rfl rfl rfl rfl (Nat.le_of_ble_eq_true rfl) (by kernel_rfl) ?_
    repeat' (first | refine unhold ?_ | (simp -dsimp -implicitDefEqProofs (disch := (first | assumption | omega | (simp only [ll1, ll2, ll3, ll4, ll5, ll6, ll7, ll8]; omega))) only [go_sem, hc]) | refine acalls_same (hL) ?_ | refine ⟨_, hL, ?_⟩ | refine ⟨_, _, hL, ?_⟩ | refine vcI (fun _ => ?_) (fun _ => ?_) | (refine vcA ?_ ?_; focus (repeat' (first | omega | assumption | refine vcA ?_ ?_); done)) | omega | refine imp_in (fun _ => ?_))
    exact done_keep _ (Le.refl _) (by exact Nat.le_refl _) ⟨rfl, rfl⟩
  · have hc : (8192 < ((o.length : Nat) : Int)) = False := eq_false (by omega)
    rw [tr_leaf hol hk]
    obtain ⟨h1, h2⟩ := right_leaf hr hk
    have hpe := printP_eq v
    have htx := size_text v
    rcases h2 with ⟨h2, _⟩ | ⟨h2, _, h3, h4⟩ | ⟨h2, _⟩
    · rcases h2 with e | e | e
      · rw [e, if_neg (by decide), if_neg (by decide), if_neg (by decide), if_neg (by decide), if_neg (by decide), if_neg (by decide)] at hpe
        rw [hpe]
        refine acalls_vc L_ok mixed [1000010] (rs := []) (n := 54) Tryz.func47 rfl rfl rfl rfl (Nat.le_of_ble_eq_true rfl) (by kernel_rfl) ?_
        repeat' (first | refine unhold ?_ | (simp -dsimp -implicitDefEqProofs (disch := (first | assumption | omega | (simp only [ll1, ll2, ll3, ll4, ll5, ll6, ll7, ll8]; omega))) only [go_sem, hc, e]) | refine acalls_same (hL) ?_ | refine ⟨_, hL, ?_⟩ | refine ⟨_, _, hL, ?_⟩ | refine acalls_same (pString h ha (by omega) (by decide)) ?_ | refine ⟨_, pString h ha (by omega) (by decide), ?_⟩ | refine ⟨_, _, pString h ha (by omega) (by decide), ?_⟩ | refine vcI (fun _ => ?_) (fun _ => ?_) | (refine vcA ?_ ?_; focus (repeat' (first | omega | assumption | refine vcA ?_ ?_); done)) | omega | refine imp_in (fun _ => ?_))
        exact done_keep _ (Le.refl _) (by rw [pA_len, pA_len]; exact Nat.le_refl _) ⟨rfl, rfl⟩
      · rw [e, if_pos rfl] at hpe
        rw [hpe]
        refine acalls_vc L_ok mixed [1000010] (rs := []) (n := 54) Tryz.func47 rfl rfl rfl rfl (Nat.le_of_ble_eq_true rfl) (by kernel_rfl) ?_
        repeat' (first | refine unhold ?_ | (simp -dsimp -implicitDefEqProofs (disch := (first | assumption | omega | (simp only [ll1, ll2, ll3, ll4, ll5, ll6, ll7, ll8]; omega))) only [go_sem, hc, e]) | refine acalls_same (hL) ?_ | refine ⟨_, hL, ?_⟩ | refine ⟨_, _, hL, ?_⟩ | refine acalls_same (pString h ha (by omega) (by decide)) ?_ | refine ⟨_, pString h ha (by omega) (by decide), ?_⟩ | refine ⟨_, _, pString h ha (by omega) (by decide), ?_⟩ | refine vcI (fun _ => ?_) (fun _ => ?_) | (refine vcA ?_ ?_; focus (repeat' (first | omega | assumption | refine vcA ?_ ?_); done)) | omega | refine imp_in (fun _ => ?_))
        exact done_keep _ (Le.refl _) (by rw [pA_len, pA_len]; exact Nat.le_refl _) ⟨rfl, rfl⟩
      · rw [e, if_neg (by decide), if_pos rfl] at hpe
        rw [hpe]
        refine acalls_vc L_ok mixed [1000010] (rs := []) (n := 54) Tryz.func47 rfl rfl rfl rfl (Nat.le_of_ble_eq_true rfl) (by kernel_rfl) ?_
        repeat' (first | refine unhold ?_ | (simp -dsimp -implicitDefEqProofs (disch := (first | assumption | omega | (simp only [ll1, ll2, ll3, ll4, ll5, ll6, ll7, ll8]; omega))) only [go_sem, hc, e]) | refine acalls_same (hL) ?_ | refine ⟨_, hL, ?_⟩ | refine ⟨_, _, hL, ?_⟩ | refine acalls_same (pString h ha (by omega) (by decide)) ?_ | refine ⟨_, pString h ha (by omega) (by decide), ?_⟩ | refine ⟨_, _, pString h ha (by omega) (by decide), ?_⟩ | refine vcI (fun _ => ?_) (fun _ => ?_) | (refine vcA ?_ ?_; focus (repeat' (first | omega | assumption | refine vcA ?_ ?_); done)) | omega | refine imp_in (fun _ => ?_))
        exact done_keep _ (Le.refl _) (by rw [pA_len, pA_len]; exact Nat.le_refl _) ⟨rfl, rfl⟩
    · rw [h2, if_neg (by decide), if_neg (by decide), if_pos rfl] at hpe
      rw [hpe] at hs ⊢
      refine acalls_vc L_ok mixed [1000010] (rs := []) (n := 54) Tryz.func47 rfl rfl rfl rfl (Nat.le_of_ble_eq_true rfl) (by kernel_rfl) ?_
      repeat' (first | refine unhold ?_ | (simp -dsimp -implicitDefEqProofs (disch := (first | assumption | omega | (simp only [ll1, ll2, ll3, ll4, ll5, ll6, ll7, ll8]; omega))) only [go_sem, hc, h2]) | refine acalls_same (hL) ?_ | refine ⟨_, hL, ?_⟩ | refine ⟨_, _, hL, ?_⟩ | refine acalls_same (Itoa_c _ _ ?_ ?_) ?_ | refine ⟨_, Itoa_c _ _ ?_ ?_, ?_⟩ | refine ⟨_, _, Itoa_c _ _ ?_ ?_, ?_⟩ | refine acalls_same (pString h ha ?_ ?_) ?_ | refine ⟨_, pString h ha ?_ ?_, ?_⟩ | refine ⟨_, _, pString h ha ?_ ?_, ?_⟩ | refine vcI (fun _ => ?_) (fun _ => ?_) | (refine vcA ?_ ?_; focus (repeat' (first | omega | assumption | refine vcA ?_ ?_); done)) | omega | refine imp_in (fun _ => ?_))
      exact done_keep _ (Le.refl _) (by rw [pA_len, pA_len]; exact Nat.le_refl _) ⟨rfl, rfl⟩
    · rw [h2, if_neg (by decide), if_neg (by decide), if_neg (by decide), if_pos rfl] at hpe
      rw [hpe]
      refine acalls_vc L_ok mixed [1000010] (rs := []) (n := 54) Tryz.func47 rfl rfl rfl rfl (Nat.le_of_ble_eq_true rfl) (by kernel_rfl) ?_
      repeat' (first | refine unhold ?_ | (simp -dsimp -implicitDefEqProofs (disch := (first | assumption | omega | (simp only [ll1, ll2, ll3, ll4, ll5, ll6, ll7, ll8]; omega))) only [go_sem, hc, h2]) | refine acalls_same (hL) ?_ | refine ⟨_, hL, ?_⟩ | refine ⟨_, _, hL, ?_⟩ | refine acalls_same (pquote_c _ h ha ?_ ?_) ?_ | refine ⟨_, pquote_c _ h ha ?_ ?_, ?_⟩ | refine ⟨_, _, pquote_c _ h ha ?_ ?_, ?_⟩ | refine vcI (fun _ => ?_) (fun _ => ?_) | (refine vcA ?_ ?_; focus (repeat' (first | omega | assumption | refine vcA ?_ ?_); done)) | omega | refine imp_in (fun _ => ?_))
      exact done_keep _ (Le.refl _) (by rw [pA_len, pA_len]; exact Nat.le_refl _) ⟨rfl, rfl⟩
theorem ptree_c : ∀ (d : Nat) (v : JV) (a : AV) (H : List AObj) (k m : Nat) (o : bytes), PAt H k m → bAddr k a → (8192 < o.length → a = .mp k 0) → rightJ d v = true → o.length + (printP v).length ≤ 1000000 → sizeJ v ≤ 40000 →
    ACalls Tryz.prog 47 [.mp k 0, jAV v] (pA a H k m o) (fun x H' => x = .tup [] ∧ H' = pA (.mp k 0) H k m (trT v o)) := by
  intro d
  induction d with
  | zero =>
    intro v a H k m o h ha ha2 hr hs hsz
    by_cases hk : v.kind ≠ 5 ∧ v.kind ≠ 6
    · exact ptree_leaf v h ha ha2 hr hk hs hsz
    · rcases right_of hr with h | ⟨h, _⟩
      · exact absurd (by omega) (one_kind h)
      · omega
  | succ d ih =>
    intro v a H k m o h ha ha2 hr hs hsz
    by_cases hk : v.kind ≠ 5 ∧ v.kind ≠ 6
    · exact ptree_leaf v h ha ha2 hr hk hs hsz
    have hk56 : v.kind = 5 ∨ v.kind = 6 := by omega
    have hkl := h.kl
    have hL := Len_c (T := 52) (pA_k (a := a) (o := o) h)
    by_cases hol : 8192 < o.length
    · have hc : (8192 < ((o.length : Nat) : Int)) = True := eq_true (by omega)
      have e := ha2 hol
      subst e
      rw [tr_stop hol]
      refine acalls_vc L_ok mixed [1000010] (rs := []) (n := 54) Tryz.func47 rfl rfl rfl rfl (Nat.le_of_ble_eq_true rfl) (by kernel_rfl) ?_
      repeat' (first | refine unhold ?_ | (simp -dsimp -implicitDefEqProofs (disch := (first | assumption | omega | (simp only [ll1, ll2, ll3, ll4, ll5, ll6, ll7, ll8]; omega))) only [go_sem, hc]) | refine acalls_same (hL) ?_ | refine ⟨_, hL, ?_⟩ | refine ⟨_, _, hL, ?_⟩ | refine vcI (fun _ => ?_) (fun _ => ?_) | (refine vcA ?_ ?_; focus (repeat' (first | omega | assumption | refine vcA ?_ ?_); done)) | omega | refine imp_in (fun _ => ?_))
      exact done_keep _ (Le.refl _) (by exact Nat.le_refl _) ⟨rfl, rfl⟩
    · have hc : (8192 < ((o.length : Nat) : Int)) = False := eq_false (by omega)
      have hall : v.items.all (rightJ d) = true := by
        rcases right_of hr with h | ⟨_, _, h⟩
        · exact absurd hk56 (one_kind h)
        · exact h
      have hit := fun (f l : UInt8) => pitems_c (a := a) (H := H) (k := k) (m := m) (o := o) (d := d) v f l h ha hr hk56 hs hsz fun x hx H o h ho => ih x (.mp k 0) H k m o h bAddr_k (fun _ => rfl) (List.all_eq_true.1 hall x hx) ho (by have := size_item hx; omega)
      have htr := trT_eq v o
      rw [if_neg hol] at htr
      rcases hk56 with e | e
      · have hi := hit 91 93
        rw [e, if_pos rfl] at htr
        rw [e, decide_eq_false (by decide)] at hi
        rw [htr]
        refine acalls_vc L_ok mixed [1000010] (rs := []) (n := 54) Tryz.func47 rfl rfl rfl rfl (Nat.le_of_ble_eq_true rfl) (by kernel_rfl) ?_
        repeat' (first | refine unhold ?_ | (simp -dsimp -implicitDefEqProofs (disch := (first | assumption | omega | (simp only [ll1, ll2, ll3, ll4, ll5, ll6, ll7, ll8]; omega))) only [go_sem, hc, e]) | refine acalls_same (hL) ?_ | refine ⟨_, hL, ?_⟩ | refine ⟨_, _, hL, ?_⟩ | refine acalls_same (hi) ?_ | refine ⟨_, hi, ?_⟩ | refine ⟨_, _, hi, ?_⟩ | refine vcI (fun _ => ?_) (fun _ => ?_) | (refine vcA ?_ ?_; focus (repeat' (first | omega | assumption | refine vcA ?_ ?_); done)) | omega | refine imp_in (fun _ => ?_))
        · rw [jAV_eq, e]
        · exact done_keep _ (Le.refl _) (by rw [pA_len, pA_len]; exact Nat.le_refl _) ⟨rfl, rfl⟩
      · have hi := hit 123 125
        rw [e, if_neg (by decide), if_pos rfl] at htr
        rw [e, decide_eq_true rfl] at hi
        rw [htr]
        refine acalls_vc L_ok mixed [1000010] (rs := []) (n := 54) Tryz.func47 rfl rfl rfl rfl (Nat.le_of_ble_eq_true rfl) (by kernel_rfl) ?_
        repeat' (first | refine unhold ?_ | (simp -dsimp -implicitDefEqProofs (disch := (first | assumption | omega | (simp only [ll1, ll2, ll3, ll4, ll5, ll6, ll7, ll8]; omega))) only [go_sem, hc, e]) | refine acalls_same (hL) ?_ | refine ⟨_, hL, ?_⟩ | refine ⟨_, _, hL, ?_⟩ | refine acalls_same (hi) ?_ | refine ⟨_, hi, ?_⟩ | refine ⟨_, _, hi, ?_⟩ | refine vcI (fun _ => ?_) (fun _ => ?_) | (refine vcA ?_ ?_; focus (repeat' (first | omega | assumption | refine vcA ?_ ?_); done)) | omega | refine imp_in (fun _ => ?_))
        · rw [jAV_eq, e]
        · exact done_keep _ (Le.refl _) (by rw [pA_len, pA_len]; exact Nat.le_refl _) ⟨rfl, rfl⟩
/-- A new printer, and what it holds. -/
def nObjs (H : List AObj) (a : AV) (o : bytes) : List AObj := H ++ [bObj 52 (H.length + 1) a o, gObj o.length]
theorem nObjs_at (H : List AObj) (a : AV) (o : bytes) : PAt (nObjs H a o) H.length (H.length + 1) := ⟨by simp [nObjs], by simp [nObjs], by omega⟩
theorem nObjs_pA (H : List AObj) (a b : AV) (o p : bytes) : pA b (nObjs H a o) H.length (H.length + 1) p = nObjs H b p := by
  unfold pA nObjs
  rw [List.set_append_right _ _ (Nat.le_refl _), Nat.sub_self, List.set_append_right _ _ (by omega), Nat.add_sub_cancel_left]
  rfl
theorem nObjs_k (H : List AObj) (a : AV) (o : bytes) : (nObjs H a o)[H.length]? = some (bObj 52 (H.length + 1) a o) := by
  unfold nObjs
  rw [List.getElem?_append_right (Nat.le_refl _), Nat.sub_self]
  rfl
theorem nObjs_m (H : List AObj) (a : AV) (o : bytes) : (nObjs H a o)[H.length + 1]? = some (gObj o.length) := by
  unfold nObjs
  rw [List.getElem?_append_right (by omega), Nat.add_sub_cancel_left]
  rfl
def printE (v : JV) : bytes × Int := if rightJ 12 v = true then (if 8192 < (printP v).length then ([], 3) else (printP v, 0)) else ([], 1)
def printAV (p : bytes × Int) : AV := .tup [.str p.1, .lit (.int .i64 p.2)]
theorem Print_c (v : JV) (H : List AObj) (hs : sizeJ v ≤ 40000) : ACalls Tryz.prog 24 [jAV v] H (fun x H' => x = printAV (printE v) ∧ H' = H) := by
  have hR := fun H => Right_j v H hs
  cases hr : rightJ 12 v with
  | false =>
    rw [hr] at hR
    refine acalls_vc L_ok mixed [3000004005] (rs := [.tmp 2, .tmp 3]) (n := 15) Tryz.func24 rfl rfl rfl rfl (Nat.le_of_ble_eq_true rfl) (by kernel_rfl) ?_
    repeat' (first | refine unhold ?_ | (simp -dsimp -implicitDefEqProofs (disch := (first | assumption | omega | (simp only [ll1, ll2, ll3, ll4, ll5, ll6, ll7, ll8]; omega))) only [go_sem]) | refine acalls_same (hR _) ?_ | refine ⟨_, hR _, ?_⟩ | refine ⟨_, _, hR _, ?_⟩ | refine vcI (fun _ => ?_) (fun _ => ?_) | (refine vcA ?_ ?_; focus (repeat' (first | omega | assumption | refine vcA ?_ ?_); done)) | omega | refine imp_in (fun _ => ?_))
    exact done_same ⟨by rw [printE, hr]; rfl, rfl⟩
  | true =>
    rw [hr] at hR
    have hps := print_size 12 v hr
    have ht := ptree_c 12 v (.lit (.pointer none)) (nObjs H (.lit (.pointer none)) []) H.length (H.length + 1) [] (nObjs_at _ _ _) bAddr_n (fun h => absurd h (by decide)) hr (by rw [List.length_nil]; omega) hs
    rw [nObjs_pA, nObjs_pA] at ht
    obtain ⟨t1, t2⟩ := tr_all v
    have hcut := (tr_cut v []).2.1
    generalize trT v [] = y at *
    have hL := Len_c (T := 52) (nObjs_k H (.mp H.length 0) y)
    have hS := String_c (T := 52) (nObjs_k H (.mp H.length 0) y) (nObjs_m H (.mp H.length 0) y) (by rw [List.length_nil] at hcut; omega)
    have hre : printE v = if 8192 < (printP v).length then ([], 3) else (printP v, 0) := by rw [printE, hr, if_pos rfl]
    rw [hre]
    unfold nObjs at ht
    by_cases hl : 8192 < (printP v).length
    · have hy := t1.2 hl
      have hc : (8192 < ((y.length : Nat) : Int)) = True := eq_true (by omega)
      rw [if_pos hl]
      refine acalls_vc L_ok mixed [3000004005] (rs := [.tmp 2, .tmp 3]) (n := 15) Tryz.func24 rfl rfl rfl rfl (Nat.le_of_ble_eq_true rfl) (by kernel_rfl) ?_
      repeat' (first | refine unhold ?_ | (simp -dsimp -implicitDefEqProofs (disch := (first | assumption | omega | (simp only [ll1, ll2, ll3, ll4, ll5, ll6, ll7, ll8]; omega))) only [go_sem, hc]) | refine acalls_same (hR _) ?_ | refine ⟨_, hR _, ?_⟩ | refine ⟨_, _, hR _, ?_⟩ | refine acalls_same (ht) ?_ | refine ⟨_, ht, ?_⟩ | refine ⟨_, _, ht, ?_⟩ | refine acalls_same (hL) ?_ | refine ⟨_, hL, ?_⟩ | refine ⟨_, _, hL, ?_⟩ | refine acalls_same (hS) ?_ | refine ⟨_, hS, ?_⟩ | refine ⟨_, _, hS, ?_⟩ | refine vcI (fun _ => ?_) (fun _ => ?_) | (refine vcA ?_ ?_; focus (repeat' (first | omega | assumption | refine vcA ?_ ?_); done)) | omega | refine imp_in (fun _ => ?_))
      exact done_cut _ (Le.refl _) (low_tup (lowAll_cons (.str _) (lowAll_cons (.lit _) lowAll_nil))) ⟨rfl, rfl⟩
    · have hy := t2 (by omega)
      have hc : (8192 < ((y.length : Nat) : Int)) = False := eq_false (by have := t1.1; omega)
      rw [if_neg hl, ← hy]
      refine acalls_vc L_ok mixed [3000004005] (rs := [.tmp 2, .tmp 3]) (n := 15) Tryz.func24 rfl rfl rfl rfl (Nat.le_of_ble_eq_true rfl) (by kernel_rfl) ?_
      repeat' (first | refine unhold ?_ | (simp -dsimp -implicitDefEqProofs (disch := (first | assumption | omega | (simp only [ll1, ll2, ll3, ll4, ll5, ll6, ll7, ll8]; omega))) only [go_sem, hc]) | refine acalls_same (hR _) ?_ | refine ⟨_, hR _, ?_⟩ | refine ⟨_, _, hR _, ?_⟩ | refine acalls_same (ht) ?_ | refine ⟨_, ht, ?_⟩ | refine ⟨_, _, ht, ?_⟩ | refine acalls_same (hL) ?_ | refine ⟨_, hL, ?_⟩ | refine ⟨_, _, hL, ?_⟩ | refine acalls_same (hS) ?_ | refine ⟨_, hS, ?_⟩ | refine ⟨_, _, hS, ?_⟩ | refine vcI (fun _ => ?_) (fun _ => ?_) | (refine vcA ?_ ?_; focus (repeat' (first | omega | assumption | refine vcA ?_ ?_); done)) | omega | refine imp_in (fun _ => ?_))
      exact done_cut _ (Le.refl _) (low_tup (lowAll_cons (.str _) (lowAll_cons (.lit _) lowAll_nil))) ⟨rfl, rfl⟩
end Go.Proofs.YtdahdbnfknmmgaaGreatDoor
end

section
set_option linter.unusedSimpArgs false
set_option linter.unusedVariables false
namespace Go.Proofs.YtdahdbnfknmmgaaGreatDoor
open Go V
set_option maxRecDepth 10000
set_option maxHeartbeats 1000000
end Go.Proofs.YtdahdbnfknmmgaaGreatDoor
end

section
set_option linter.unusedSimpArgs false
set_option linter.unusedVariables false
namespace Go.Proofs.YtdahdbnfknmmgaaGreatDoor
open V
/-- What a width brings with it: how many rounds, the constants, the turns. -/
structure Sha (w : Nat) where
  count : Nat
  k : Nat → BitVec w
  b0 : Nat × Nat × Nat
  b1 : Nat × Nat × Nat
  s0 : Nat × Nat × Nat
  s1 : Nat × Nat × Nat
def bigT {w : Nat} (x : BitVec w) (l : Nat × Nat × Nat) : BitVec w := x.rotateRight l.1 ^^^ x.rotateRight l.2.1 ^^^ x.rotateRight l.2.2
def smallT {w : Nat} (x : BitVec w) (l : Nat × Nat × Nat) : BitVec w := x.rotateRight l.1 ^^^ x.rotateRight l.2.1 ^^^ (x >>> l.2.2)
namespace Sha
variable {w : Nat} (S : Sha w)
/-- One word more of the schedule. -/
def next (m : List (BitVec w)) : BitVec w := m.getD (m.length - 16) 0 + smallT (m.getD (m.length - 15) 0) S.s0 + m.getD (m.length - 7) 0 + smallT (m.getD (m.length - 2) 0) S.s1
def sched (block : List (BitVec w)) : Nat → List (BitVec w)
  | 0 => block
  | n + 1 => let m := sched block n; m ++ [S.next m]
structure St (w : Nat) where
  a : BitVec w
  b : BitVec w
  c : BitVec w
  d : BitVec w
  e : BitVec w
  f : BitVec w
  g : BitVec w
  h : BitVec w
def St.list (s : St w) : List (BitVec w) := [s.a, s.b, s.c, s.d, s.e, s.f, s.g, s.h]
def chT (e f g : BitVec w) : BitVec w := (e &&& f) ^^^ (~~~ e &&& g)
def majT (a b c : BitVec w) : BitVec w := (a &&& b) ^^^ (a &&& c) ^^^ (b &&& c)
def t1 (i : Nat) (x : BitVec w) (s : St w) : BitVec w := s.h + bigT s.e S.b1 + chT s.e s.f s.g + S.k i + x
def t2 (s : St w) : BitVec w := bigT s.a S.b0 + majT s.a s.b s.c
def step (i : Nat) (x : BitVec w) (s : St w) : St w := ⟨S.t1 i x s + S.t2 s, s.a, s.b, s.c, s.d + S.t1 i x s, s.e, s.f, s.g⟩
def steps (m : List (BitVec w)) (s : St w) : Nat → St w
  | 0 => s
  | n + 1 => S.step n (m.getD n 0) (steps m s n)
def add (s t : St w) : St w := ⟨s.a + t.a, s.b + t.b, s.c + t.c, s.d + t.d, s.e + t.e, s.f + t.f, s.g + t.g, s.h + t.h⟩
def take (s : St w) (block : List (BitVec w)) : St w := add s (S.steps (S.sched block (S.count - 16)) s S.count)
theorem sched_len (block : List (BitVec w)) (n : Nat) : (S.sched block n).length = block.length + n := by
  induction n with
  | zero => rfl
  | succ n ih => simp only [sched, List.length_append, ih, List.length_cons, List.length_nil]; omega
end Sha
/-- A word of bytes, the highest first. -/
def wordOf (w : Nat) (l : List UInt8) : BitVec w := l.foldl (fun x b => x <<< 8 ||| BitVec.ofNat w b.toNat) 0
theorem wordOf_snoc (w : Nat) (l : List UInt8) (b : UInt8) : wordOf w (l ++ [b]) = (wordOf w l <<< 8 ||| BitVec.ofNat w b.toNat) := by
  simp [wordOf]
/-- Sixteen words of bytes, of which there may be fewer. -/
def wordsOf (w : Nat) (l : List UInt8) : List (BitVec w) := (List.range 16).map fun j => wordOf w ((l.drop (j * (w / 8))).take (w / 8))
theorem wordsOf_len (w : Nat) (l : List UInt8) : (wordsOf w l).length = 16 := by simp [wordsOf]
theorem wordsOf_nil (w : Nat) : wordsOf w [] = List.replicate 16 0 := by
  simp [wordsOf, wordOf]
  rfl
theorem wordsOf_getD {w : Nat} {l : List UInt8} {j : Nat} (h : j < 16) : (wordsOf w l).getD j 0 = wordOf w ((l.drop (j * (w / 8))).take (w / 8)) := by
  simp [wordsOf, List.getD, List.getElem?_map, List.getElem?_range h]
theorem wordsOf_snoc {w : Nat} {l : List UInt8} {b : UInt8} (hw : 0 < w / 8) (h : l.length < 16 * (w / 8)) :
    wordsOf w (l ++ [b]) = (wordsOf w l).set (l.length / (w / 8)) ((wordsOf w l).getD (l.length / (w / 8)) 0 <<< 8 ||| BitVec.ofNat w b.toNat) := by
  have hlt : l.length / (w / 8) < 16 := (Nat.div_lt_iff_lt_mul hw).2 h
  rw [wordsOf_getD hlt]
  apply List.ext_getElem?
  intro j
  have hg : ∀ m : List UInt8, (wordsOf w m)[j]? = if j < 16 then some (wordOf w ((m.drop (j * (w / 8))).take (w / 8))) else none := fun m => by
    unfold wordsOf
    rw [List.getElem?_map]
    by_cases h1 : j < 16
    · rw [List.getElem?_range h1, if_pos h1]
      rfl
    · rw [List.getElem?_eq_none (by simp; omega), if_neg h1]
      rfl
  rw [List.getElem?_set, hg, hg, wordsOf_len]
  by_cases h1 : j < 16
  · rw [if_pos h1, if_pos h1]
    have hm := Nat.div_add_mod l.length (w / 8)
    have hml := Nat.mod_lt l.length hw
    rw [Nat.mul_comm] at hm
    generalize w / 8 = z at *
    generalize hq : l.length / z = q at *
    generalize l.length % z = r at *
    split
    · rename_i e
      subst e
      rw [← wordOf_snoc]
      congr 2
      rw [List.drop_append_of_le_length (by omega)]
      rw [List.take_of_length_le (by rw [List.length_append, List.length_drop]; simp only [List.length_cons, List.length_nil]; omega), List.take_of_length_le (by rw [List.length_drop]; omega)]
    · rename_i e
      congr 2
      rcases Nat.lt_or_ge j q with hjq | hjq
      · have h3 : j * z + z ≤ q * z := by
          have := Nat.mul_le_mul_right z (show j + 1 ≤ q by omega)
          rw [Nat.add_mul, Nat.one_mul] at this
          exact this
        rw [List.drop_append_of_le_length (by omega), List.take_append_of_le_length (by rw [List.length_drop]; omega)]
      · have h3 : q * z + z ≤ j * z := by
          have := Nat.mul_le_mul_right z (show q + 1 ≤ j by omega)
          rw [Nat.add_mul, Nat.one_mul] at this
          exact this
        rw [List.drop_eq_nil_of_le (by rw [List.length_append]; simp only [List.length_cons, List.length_nil]; omega), List.drop_eq_nil_of_le (by omega)]
  · rw [if_neg h1, if_neg h1, if_neg (by omega)]
/-- A number's bytes, the highest first. -/
def bytesOf (size : Nat) (x : Nat) : List UInt8 := (List.range size).map fun i => UInt8.ofNat (x / 256 ^ (size - 1 - i))
theorem bytesOf_len (size x : Nat) : (bytesOf size x).length = size := by simp [bytesOf]
/-- How many bytes there are with what is padded. -/
def padLen (w n : Nat) : Nat := (n + 1 + w / 4 + 2 * w - 1) / (2 * w) * (2 * w)
def padded (w : Nat) (b : List UInt8) : List UInt8 := b ++ 128 :: (List.replicate (padLen w b.length - 8 - (b.length + 1)) 0 ++ bytesOf 8 (8 * b.length))
def chunks (n : Nat) (l : List UInt8) : List (List UInt8) := (List.range (l.length / n)).map fun i => (l.drop (i * n)).take n
def sumOf {w : Nat} (S : Sha w) (h : Sha.St w) (b : List UInt8) : List UInt8 :=
  (((chunks (2 * w) (padded w b)).foldl (fun s c => S.take s (wordsOf w c)) h).list).flatMap fun x => bytesOf (w / 8) x.toNat
theorem sumOf_len {w : Nat} (S : Sha w) (h : Sha.St w) (b : List UInt8) : (sumOf S h b).length = 8 * (w / 8) := by
  unfold sumOf Sha.St.list
  simp [bytesOf_len]
  omega
def kOf (w i : Nat) : BitVec w := BitVec.ofNat w (rootsN.getD i 0 / 2 ^ (64 - w))
def hOf (w i : Nat) : BitVec w := BitVec.ofNat w (beginsN.getD i 0 / 2 ^ (64 - w))
def beginOf (w : Nat) : Sha.St w := ⟨hOf w 0, hOf w 1, hOf w 2, hOf w 3, hOf w 4, hOf w 5, hOf w 6, hOf w 7⟩
def sha32 : Sha 32 := ⟨64, kOf 32, (2, 13, 22), (6, 11, 25), (7, 18, 3), (17, 19, 10)⟩
def sum256 (b : List UInt8) : List UInt8 := sumOf sha32 (beginOf 32) b
theorem sum256_len (b : List UInt8) : (sum256 b).length = 32 := sumOf_len _ _ _
end Go.Proofs.YtdahdbnfknmmgaaGreatDoor
end

section
set_option linter.unusedSimpArgs false
set_option linter.unusedVariables false
namespace Go.Proofs.YtdahdbnfknmmgaaGreatDoor
/-- The k-th bit of bytes, the highest of the first byte first; 0 behind their end. -/
def bitB (b : List UInt8) (k : Nat) : Nat := (b.getD (k / 8) 0).toNat / 2 ^ (7 - k % 8) % 2
/-- The number of t bits from the k-th on. -/
def partB (b : List UInt8) (k : Nat) : Nat → Nat
  | 0 => 0
  | t + 1 => 2 * partB b k t + bitB b (k + t)
def sextB (b : List UInt8) (j : Nat) : Nat := partB b (6 * j) 6
def encB (letters b : List UInt8) : List UInt8 := (List.range ((8 * b.length + 5) / 6)).map fun j => letters.getD (sextB b j) 0
theorem encB_len (letters b : List UInt8) : (encB letters b).length = (8 * b.length + 5) / 6 := by simp [encB]
theorem bit_at (b : List UInt8) {k q r : Nat} (h : k = 8 * q + r) (hr : r < 8) : bitB b k = (b.getD q 0).toNat / 2 ^ (7 - r) % 2 := by
  unfold bitB
  rw [show k / 8 = q by omega, show k % 8 = r by omega]
/-- The four letters' numbers of three bytes. -/
theorem sext_0 (b : List UInt8) (q : Nat) : sextB b (4 * q) = (b.getD (3 * q) 0).toNat / 4 := by
  simp only [sextB, partB]
  rw [bit_at b (q := 3 * q) (r := 0) (by omega) (by omega), bit_at b (q := 3 * q) (r := 1) (by omega) (by omega), bit_at b (q := 3 * q) (r := 2) (by omega) (by omega), bit_at b (q := 3 * q) (r := 3) (by omega) (by omega), bit_at b (q := 3 * q) (r := 4) (by omega) (by omega), bit_at b (q := 3 * q) (r := 5) (by omega) (by omega)]
  have := (b.getD (3 * q) 0).toNat_lt
  generalize (b.getD (3 * q) 0).toNat = x at *
  simp only [Nat.reduceSub, Nat.reducePow]
  omega
theorem sext_1 (b : List UInt8) (q : Nat) : sextB b (4 * q + 1) = (b.getD (3 * q) 0).toNat % 4 * 16 + (b.getD (3 * q + 1) 0).toNat / 16 := by
  simp only [sextB, partB]
  rw [bit_at b (q := 3 * q) (r := 6) (by omega) (by omega), bit_at b (q := 3 * q) (r := 7) (by omega) (by omega), bit_at b (q := 3 * q + 1) (r := 0) (by omega) (by omega), bit_at b (q := 3 * q + 1) (r := 1) (by omega) (by omega), bit_at b (q := 3 * q + 1) (r := 2) (by omega) (by omega), bit_at b (q := 3 * q + 1) (r := 3) (by omega) (by omega)]
  have := (b.getD (3 * q) 0).toNat_lt
  have := (b.getD (3 * q + 1) 0).toNat_lt
  generalize (b.getD (3 * q) 0).toNat = x at *
  generalize (b.getD (3 * q + 1) 0).toNat = y at *
  simp only [Nat.reduceSub, Nat.reducePow]
  omega
theorem sext_2 (b : List UInt8) (q : Nat) : sextB b (4 * q + 2) = (b.getD (3 * q + 1) 0).toNat % 16 * 4 + (b.getD (3 * q + 2) 0).toNat / 64 := by
  simp only [sextB, partB]
  rw [bit_at b (q := 3 * q + 1) (r := 4) (by omega) (by omega), bit_at b (q := 3 * q + 1) (r := 5) (by omega) (by omega), bit_at b (q := 3 * q + 1) (r := 6) (by omega) (by omega), bit_at b (q := 3 * q + 1) (r := 7) (by omega) (by omega), bit_at b (q := 3 * q + 2) (r := 0) (by omega) (by omega), bit_at b (q := 3 * q + 2) (r := 1) (by omega) (by omega)]
  have := (b.getD (3 * q + 1) 0).toNat_lt
  have := (b.getD (3 * q + 2) 0).toNat_lt
  generalize (b.getD (3 * q + 1) 0).toNat = x at *
  generalize (b.getD (3 * q + 2) 0).toNat = y at *
  simp only [Nat.reduceSub, Nat.reducePow]
  omega
theorem sext_3 (b : List UInt8) (q : Nat) : sextB b (4 * q + 3) = (b.getD (3 * q + 2) 0).toNat % 64 := by
  simp only [sextB, partB]
  rw [bit_at b (q := 3 * q + 2) (r := 2) (by omega) (by omega), bit_at b (q := 3 * q + 2) (r := 3) (by omega) (by omega), bit_at b (q := 3 * q + 2) (r := 4) (by omega) (by omega), bit_at b (q := 3 * q + 2) (r := 5) (by omega) (by omega), bit_at b (q := 3 * q + 2) (r := 6) (by omega) (by omega), bit_at b (q := 3 * q + 2) (r := 7) (by omega) (by omega)]
  have := (b.getD (3 * q + 2) 0).toNat_lt
  generalize (b.getD (3 * q + 2) 0).toNat = x at *
  simp only [Nat.reduceSub, Nat.reducePow]
  omega
/-- The i-th letter's number of three bytes in one number. -/
theorem sext_group (b : List UInt8) (q i : Nat) (hi : i < 4) : sextB b (4 * q + i) = ((b.getD (3 * q) 0).toNat * 65536 + (b.getD (3 * q + 1) 0).toNat * 256 + (b.getD (3 * q + 2) 0).toNat) / 2 ^ (18 - 6 * i) % 64 := by
  have h0 := sext_0 b q
  have h1 := sext_1 b q
  have h2 := sext_2 b q
  have h3 := sext_3 b q
  have := (b.getD (3 * q) 0).toNat_lt
  have := (b.getD (3 * q + 1) 0).toNat_lt
  have := (b.getD (3 * q + 2) 0).toNat_lt
  generalize (b.getD (3 * q) 0).toNat = x at *
  generalize (b.getD (3 * q + 1) 0).toNat = y at *
  generalize (b.getD (3 * q + 2) 0).toNat = z at *
  match i, hi with
  | 0, _ => rw [Nat.add_zero, h0]; simp only [Nat.reduceSub, Nat.reducePow, Nat.reduceMul]; omega
  | 1, _ => rw [h1]; simp only [Nat.reduceSub, Nat.reducePow, Nat.reduceMul]; omega
  | 2, _ => rw [h2]; simp only [Nat.reduceSub, Nat.reducePow, Nat.reduceMul]; omega
  | 3, _ => rw [h3]; simp only [Nat.reduceSub, Nat.reducePow, Nat.reduceMul]; omega
end Go.Proofs.YtdahdbnfknmmgaaGreatDoor
end
