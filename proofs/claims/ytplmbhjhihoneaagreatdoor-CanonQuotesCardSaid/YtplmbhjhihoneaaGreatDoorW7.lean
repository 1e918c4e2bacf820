/- The document's Weigh, Deep, Get, Alike. -/
import Derived.Test.YtplmbhjhihoneaaGreatDoorW5
import Derived.Test.YtplmbhjhihoneaaGreatDoorW4
import Derived.Test.YtplmbhjhihoneaaGreatDoorW6
section
set_option linter.unusedSimpArgs false
set_option linter.unusedVariables false
namespace Go.Proofs.YtplmbhjhihoneaaGreatDoor
open Go V
set_option maxRecDepth 10000
set_option maxHeartbeats 4000000
def wNames (most : Int) : List bytes → Int → Int
  | [], n => n
  | s :: r, n => if n ≤ most then wNames most r (n + 1 + min (s.length : Int) most) else n
mutual
def weigh : JV → Int → Int
  | .mk _ _ t ns is, most => wItems most is (wNames most ns (1 + min (t.length : Int) most))
def wItems (most : Int) : List JV → Int → Int
  | [], n => n
  | v :: r, n => if n ≤ most then wItems most r (n + weigh v (most - n)) else n
end
theorem weigh_eq (v : JV) (most : Int) : weigh v most = wItems most v.items (wNames most v.names (1 + min (v.text.length : Int) most)) := by cases v; rw [weigh]; rfl
theorem wItems_cons {most n : Int} {v : JV} {r : List JV} : wItems most (v :: r) n = if n ≤ most then wItems most r (n + weigh v (most - n)) else n := by rw [wItems]
theorem wItems_nil {most n : Int} : wItems most [] n = n := by rw [wItems]
theorem wNames_stop {most n : Int} {l : List bytes} (h : ¬ n ≤ most) : wNames most l n = n := by cases l <;> simp [wNames, h]
theorem wItems_stop {most n : Int} {l : List JV} (h : ¬ n ≤ most) : wItems most l n = n := by
  cases l with
  | nil => exact wItems_nil
  | cons => rw [wItems_cons, if_neg h]
theorem drop_cons {α : Type} {l : List α} {i : Nat} (d : α) (h : i < l.length) : l.drop i = l.getD i d :: l.drop (i + 1) := by
  rw [List.getD, List.getElem?_eq_getElem h, Option.getD_some, ← List.drop_eq_getElem_cons h]
theorem wNames_at {most n : Int} {l : List bytes} {i : Nat} (h : i < l.length) (hn : n ≤ most) : wNames most (l.drop i) n = wNames most (l.drop (i + 1)) (n + 1 + min ((l.getD i []).length : Int) most) := by
  rw [drop_cons [] h, wNames, if_pos hn]
theorem wItems_at {most n : Int} {l : List JV} {i : Nat} (h : i < l.length) (hn : n ≤ most) : wItems most (l.drop i) n = wItems most (l.drop (i + 1)) (n + weigh (l.getD i zeroJ) (most - n)) := by
  rw [drop_cons zeroJ h, wItems_cons, if_pos hn]
theorem wNames_le : ∀ (l : List bytes) (most n : Int), 0 ≤ most → 0 ≤ n → n ≤ 2 * most + 1 → n ≤ wNames most l n ∧ wNames most l n ≤ 2 * most + 1 ∧ (wNames most l n ≤ most → wNames most l n = n + (l.map nameW).sum) ∧ (n + (l.map nameW).sum ≤ most → wNames most l n = n + (l.map nameW).sum)
  | [], most, n, h0, hp, hn => by simp [wNames]; omega
  | s :: r, most, n, h0, hp, hn => by
    rw [wNames]
    by_cases h : n ≤ most
    · rw [if_pos h]
      have ih := wNames_le r most (n + 1 + min (s.length : Int) most) h0 (by omega) (by omega)
      rw [List.map_cons, List.sum_cons]
      have : nameW s = 1 + s.length := rfl
      rw [this]
      omega
    · rw [if_neg h, List.map_cons, List.sum_cons]
      omega
theorem weigh_le : ∀ (v : JV) (most : Int), 0 ≤ most → 1 ≤ weigh v most ∧ weigh v most ≤ 2 * most + 1 ∧ (weigh v most ≤ most → weigh v most = sizeJ v) ∧ ((sizeJ v : Int) ≤ most → weigh v most = sizeJ v) := by
  refine JV.induct fun k nu t ns is ih most h0 => ?_
  have hit : ∀ (l : List JV), (∀ x ∈ l, x ∈ is) → ∀ n : Int, 0 ≤ n → n ≤ 2 * most + 1 → n ≤ wItems most l n ∧ wItems most l n ≤ 2 * most + 1 ∧ (wItems most l n ≤ most → wItems most l n = n + (l.map sizeJ).sum) ∧ (n + (l.map sizeJ).sum ≤ most → wItems most l n = n + (l.map sizeJ).sum) := by
    intro l
    induction l with
    | nil => intro _ n hp hn; rw [wItems_nil]; simp; omega
    | cons v r ihl =>
      intro hm n hp hn
      rw [wItems_cons, List.map_cons, List.sum_cons]
      by_cases h : n ≤ most
      · rw [if_pos h]
        have h1 := ih v (hm v (List.mem_cons_self ..)) (most - n) (by omega)
        have h2 := ihl (fun x hx => hm x (List.mem_cons_of_mem _ hx)) (n + weigh v (most - n)) (by omega) (by omega)
        omega
      · rw [if_neg h]
        omega
  rw [weigh_eq, sizeJ_eq, sizesJ_eq]
  show 1 ≤ wItems most is (wNames most ns (1 + min (t.length : Int) most)) ∧ wItems most is (wNames most ns (1 + min (t.length : Int) most)) ≤ 2 * most + 1 ∧ (wItems most is (wNames most ns (1 + min (t.length : Int) most)) ≤ most → wItems most is (wNames most ns (1 + min (t.length : Int) most)) = ((1 + t.length + (ns.map nameW).sum + (is.map sizeJ).sum : Nat) : Int)) ∧ (((1 + t.length + (ns.map nameW).sum + (is.map sizeJ).sum : Nat) : Int) ≤ most → wItems most is (wNames most ns (1 + min (t.length : Int) most)) = ((1 + t.length + (ns.map nameW).sum + (is.map sizeJ).sum : Nat) : Int))
  have h1 := wNames_le ns most (1 + min (t.length : Int) most) h0 (by omega) (by omega)
  have h2 := hit is (fun _ h => h) (wNames most ns (1 + min (t.length : Int) most)) (by omega) h1.2.1
  omega
theorem Weigh_c : ∀ (v : JV) (most : Int) (H : List AObj), 0 ≤ most → most ≤ 10000 → ACalls Tryz.prog 25 [jAV v, .lit (.int .i64 most)] H (fun x H' => x = .int .i64 (weigh v most) ∧ H' = H) := by
  refine JV.induct fun k nu t ns is ih most H h0 hm => ?_
  rw [weigh_eq]
  generalize hv : JV.mk k nu t ns is = v
  have ih' : ∀ x ∈ v.items, ∀ (most : Int) (H : List AObj), 0 ≤ most → most ≤ 10000 → ACalls Tryz.prog 25 [jAV x, .lit (.int .i64 most)] H (fun x' H' => x' = .int .i64 (weigh x most) ∧ H' = H) := by subst hv; exact ih
  clear ih hv
  refine acalls_vc L_ok mixed [] (rs := [.tmp 4]) (n := 61) Tryz.func25 rfl rfl rfl rfl (Nat.le_of_ble_eq_true rfl) (by kernel_rfl) ?_
  repeat' (first | refine unhold ?_ | (simp -dsimp -implicitDefEqProofs (disch := (first | assumption | omega | (simp only [ll1, ll2, ll3, ll4, ll5, ll6, ll7, ll8]; omega))) only [go_sem]) | refine vcI (fun _ => ?_) (fun _ => ?_) | (refine vcA ?_ ?_; focus (repeat' (first | omega | assumption | refine vcA ?_ ?_); done)) | omega | refine imp_in (fun _ => ?_))
  generalize hN : wNames most v.names (1 + min (v.text.length : Int) most) = N
  refine vc_loopk L_ok mixed [] [1, 2, 4] (fun p : Nat × Int => p.1 ≤ v.names.length ∧ (p.1 : Int) < p.2 ∧ p.2 ≤ 2 * most + 1 ∧ wNames most (v.names.drop p.1) p.2 = N) (fun p => [(6, .int .i64 p.1), (5, .int .i64 p.2)]) (fun _ => H) (fun p => v.names.length - p.1) (by kernel_rfl) ?_ (0, 1 + min (v.text.length : Int) most) ⟨by simp, by simp; omega, by simp; omega, by simpa using hN⟩ env_ok rfl
  rintro ⟨i, n⟩ ⟨hi, hin, hn, hw⟩
  dsimp only at hi hin hn hw ⊢
  repeat' (first | refine unhold ?_ | (simp -dsimp -implicitDefEqProofs (disch := (first | assumption | omega | (simp only [ll1, ll2, ll3, ll4, ll5, ll6, ll7, ll8]; omega))) only [go_sem]) | refine vcI (fun _ => ?_) (fun _ => ?_) | (refine vcA ?_ ?_; focus (repeat' (first | omega | assumption | refine vcA ?_ ?_); done)) | omega | refine imp_in (fun _ => ?_))
  · rename_i h1 h2
    refine again ((i + 1, n + 1 + min ((v.names.getD i []).length : Int) most)) ?_ ?_ rfl env_ok
    · dsimp only; omega
    · dsimp only
      exact ⟨by omega, by omega, by omega, by rw [← wNames_at (by omega) h2]; exact hw⟩
  all_goals
    have hnN : n = N := by
      first
        | (rw [wNames_stop (by omega)] at hw; exact hw)
        | (rw [List.drop_eq_nil_of_le (by omega)] at hw; exact hw)
    subst hnN
    clear hw hin
    have hpos := (wNames_le v.names most (1 + min (v.text.length : Int) most) h0 (by omega) (by omega)).1
    rw [hN] at hpos
    refine vc_loopk L_ok mixed [] [1, 2, 4] (fun p : Nat × Int => p.1 ≤ v.items.length ∧ (p.1 : Int) < p.2 ∧ p.2 ≤ 2 * most + 1 ∧ wItems most (v.items.drop p.1) p.2 = wItems most v.items n) (fun p => [(7, .int .i64 p.1), (5, .int .i64 p.2)]) (fun _ => H) (fun p => v.items.length - p.1) (by kernel_rfl) ?_ (0, n) ⟨by simp, by simp; omega, hn, by simp⟩ env_ok rfl
    rintro ⟨j, m⟩ ⟨hj, hjm, hm2, hw⟩
    dsimp only at hj hjm hm2 hw ⊢
    have hwl := fun (h : m ≤ most) => weigh_le (v.items.getD j zeroJ) (most - m) (by omega)
    repeat' (first | refine unhold ?_ | (simp -dsimp -implicitDefEqProofs (disch := (first | assumption | omega | (simp only [ll1, ll2, ll3, ll4, ll5, ll6, ll7, ll8]; omega))) only [go_sem]) | refine acalls_same (ih' _ (mem_getD (by omega)) _ _ (by omega) (by omega)) ?_ | refine ⟨_, ih' _ (mem_getD (by omega)) _ _ (by omega) (by omega), ?_⟩ | refine ⟨_, _, ih' _ (mem_getD (by omega)) _ _ (by omega) (by omega), ?_⟩ | refine vcI (fun _ => ?_) (fun _ => ?_) | (refine vcA ?_ ?_; focus (repeat' (first | omega | assumption | refine vcA ?_ ?_); done)) | omega | refine imp_in (fun _ => ?_))
    · rename_i h1 h2
      have := hwl h2
      refine again ((j + 1, m + weigh (v.items.getD j zeroJ) (most - m))) ?_ ?_ rfl env_ok
      · dsimp only; omega
      · dsimp only
        exact ⟨by omega, by omega, by omega, by rw [← wItems_at (by omega) h2]; exact hw⟩
    · rename_i h1 h2
      refine done_same ⟨int_eq ?_, rfl⟩
      rw [← hw, wItems_stop (by omega)]
    · rename_i h1
      refine done_same ⟨int_eq ?_, rfl⟩
      rw [← hw, List.drop_eq_nil_of_le (by omega), wItems_nil]
theorem jget_none {v : JV} {s : bytes} {i : Nat} (hp : ∀ j, j < i → (v.names.getD j [] == s) = false) (hi : v.kind = 6 → v.names.length ≤ i ∨ v.items.length ≤ i) : jget v s = none := by
  unfold jget
  split
  · rename_i hk
    cases h : v.names.findIdx? (fun n => n == s) with
    | none => rfl
    | some j =>
      simp only
      obtain ⟨h1, h2, _⟩ := List.findIdx?_eq_some_iff_getElem.1 h
      have h3 : ¬ j < i := fun hj => by
        have := hp j hj
        rw [List.getD, List.getElem?_eq_getElem h1] at this
        rw [Option.getD_some] at this
        rw [this] at h2
        cases h2
      have := hi hk
      exact List.getElem?_eq_none (by omega)
  · rfl
theorem jget_at {v : JV} {s : bytes} {i : Nat} (hk : v.kind = 6) (hp : ∀ j, j < i → (v.names.getD j [] == s) = false) (hi : i < v.names.length) (hi2 : i < v.items.length) (h : v.names.getD i [] = s) : jget v s = some (v.items.getD i zeroJ) := by
  unfold jget
  rw [if_pos hk, find_at (d := []) hi hp (by rw [h]; simp)]
  simp only
  rw [List.getD, List.getElem?_eq_getElem hi2]
  rfl
theorem Get_r (v : JV) (s : bytes) (H : List AObj) (h1 : v.names.length ≤ 100000) (h2 : v.items.length ≤ 100000) : ACalls Tryz.prog 33 [jAV v, .str s] H (fun x H' => x = getAV v s ∧ H' = H) := by
  refine acalls_vc L_ok mixed [] (rs := [.cell 4 27, .tmp 5]) (n := 39) Tryz.func33 rfl rfl rfl rfl (Nat.le_of_ble_eq_true rfl) (by kernel_rfl) ?_
  repeat' (first | refine unhold ?_ | (simp -dsimp -implicitDefEqProofs (disch := (first | assumption | omega | (simp only [ll1, ll2, ll3, ll4, ll5, ll6, ll7, ll8]; omega))) only [go_sem]) | refine vcI (fun _ => ?_) (fun _ => ?_) | (refine vcA ?_ ?_; focus (repeat' (first | omega | assumption | refine vcA ?_ ?_); done)) | omega | refine imp_in (fun _ => ?_))
  refine vc_loopk L_ok mixed [] [1, 2, 4] (fun i : Nat => i ≤ v.names.length ∧ ∀ j, j < i → (v.names.getD j [] == s) = false) (fun i => [(6, .int .i64 i)]) (fun _ => H ++ [.cells (.one 27) [.lit (.int .i64 0), .lit (.int .i64 0), .str [], .sl .full 0 [], .sl .full 0 []]]) (fun i => v.names.length - i) (by kernel_rfl) ?_ 0 ⟨by omega, fun j hj => by omega⟩ env_ok rfl
  rintro i ⟨hi, hp⟩
  repeat' (first | refine unhold ?_ | (simp -dsimp -implicitDefEqProofs (disch := (first | assumption | omega | (simp only [ll1, ll2, ll3, ll4, ll5, ll6, ll7, ll8]; omega))) only [go_sem]) | refine vcI (fun _ => ?_) (fun _ => ?_) | (refine vcA ?_ ?_; focus (repeat' (first | omega | assumption | refine vcA ?_ ?_); done)) | omega | refine imp_in (fun _ => ?_))
  · rename_i h3 h4 h5 h6
    refine done_cut _ (Le.refl _) (low_tup (lowAll_cons (low_jAV _) (lowAll_cons (.lit _) lowAll_nil))) ⟨?_, rfl⟩
    rw [getAV, jget_at h5 hp (by omega) (by omega) h6]; rfl
  · rename_i h3 h4 h5 h6
    refine again (i + 1) ?_ ?_ rfl env_ok
    · omega
    · exact ⟨by omega, upto_succ hp (beq_eq_false_iff_ne.2 h6)⟩
  all_goals
    refine done_cut (.tup [jAV zeroJ, .bool false]) (le_tup (.cons le_j0 (.cons (Le.refl _) .nil))) (low_tup (lowAll_cons (low_jAV _) (lowAll_cons (.lit _) lowAll_nil))) ⟨?_, rfl⟩
    rw [getAV, jget_none hp (fun hk => by omega)]; rfl
open Classical in
theorem same_r : ∀ (v w : JV) (H : List AObj), sizeJ v ≤ 10000 → ACalls Tryz.prog 52 [jAV v, jAV w] H (fun x H' => x = .bool (decide (v = w)) ∧ H' = H) := by
  refine JV.induct fun k n t ns is ih w H hs => ?_
  generalize hv : JV.mk k n t ns is = v at hs
  have ih' : ∀ x ∈ v.items, ∀ (w : JV) (H : List AObj), sizeJ x ≤ 10000 → ACalls Tryz.prog 52 [jAV x, jAV w] H (fun y H' => y = .bool (decide (x = w)) ∧ H' = H) := by subst hv; exact ih
  clear ih hv
  have h1 := size_names v
  have h2 := size_items v
  have h3 : ∀ i, i < v.items.length → sizeJ (v.items.getD i zeroJ) ≤ 10000 := fun i hi => by have := size_item (v := v) (mem_getD (d := zeroJ) hi); omega
  have hvw : (v = w) = (v.kind = w.kind ∧ v.num = w.num ∧ v.text = w.text ∧ v.names = w.names ∧ v.items = w.items) := by cases v; cases w; simp [JV.kind, JV.num, JV.text, JV.names, JV.items]
  refine acalls_vc L_ok mixed [1000006, 1000011] (rs := [.tmp 4]) (n := 81) Tryz.func52 rfl rfl rfl rfl (Nat.le_of_ble_eq_true rfl) (by kernel_rfl) ?_
  repeat' (first | refine unhold ?_ | (simp -dsimp -implicitDefEqProofs (disch := (first | assumption | omega | (simp only [ll1, ll2, ll3, ll4, ll5, ll6, ll7, ll8]; omega))) only [go_sem]) | refine vcI (fun _ => ?_) (fun _ => ?_) | (refine vcA ?_ ?_; focus (repeat' (first | omega | assumption | refine vcA ?_ ?_); done)) | omega | refine imp_in (fun _ => ?_))
  all_goals first | exact done_same ⟨bool_eq (decide_eq_false fun e => by subst e; first | contradiction | omega).symm, rfl⟩ | skip
  rename_i e1 e2 e3 e4 e5
  refine vc_loopk L_ok mixed [1000006, 1000011] [2, 3] (fun i : Nat => i ≤ v.names.length ∧ ∀ j, j < i → v.names.getD j [] = w.names.getD j []) (fun i => [(5, .int .i64 i)]) (fun _ => H) (fun i => v.names.length - i) (by kernel_rfl) ?_ 0 ⟨by omega, fun j hj => by omega⟩ env_ok rfl
  rintro i ⟨hi, hp⟩
  repeat' (first | refine unhold ?_ | (simp -dsimp -implicitDefEqProofs (disch := (first | assumption | omega | (simp only [ll1, ll2, ll3, ll4, ll5, ll6, ll7, ll8]; omega))) only [go_sem]) | refine vcI (fun _ => ?_) (fun _ => ?_) | (refine vcA ?_ ?_; focus (repeat' (first | omega | assumption | refine vcA ?_ ?_); done)) | omega | refine imp_in (fun _ => ?_))
  · rename_i h4 h5
    exact done_same ⟨bool_eq (decide_eq_false fun e => by subst e; contradiction).symm, rfl⟩
  · rename_i h4 h5
    refine again (i + 1) ?_ ?_ rfl env_ok
    · omega
    · exact ⟨by omega, upto_succ hp h5⟩
  · have hn : v.names = w.names := upto_eq (d := []) (by omega) fun j hj => hp j (by omega)
    clear hp hi
    refine vc_loopk L_ok mixed [1000006, 1000011] [2, 3] (fun i : Nat => i ≤ v.items.length ∧ ∀ j, j < i → v.items.getD j zeroJ = w.items.getD j zeroJ) (fun i => [(6, .int .i64 i)]) (fun _ => H) (fun i => v.items.length - i) (by kernel_rfl) ?_ 0 ⟨by omega, fun j hj => by omega⟩ env_ok rfl
    rintro j ⟨hj, hq⟩
    repeat' (first | refine unhold ?_ | (simp -dsimp -implicitDefEqProofs (disch := (first | assumption | omega | (simp only [ll1, ll2, ll3, ll4, ll5, ll6, ll7, ll8]; omega))) only [go_sem]) | refine acalls_same (ih' _ (mem_getD (by omega)) _ _ (h3 _ (by omega))) ?_ | refine ⟨_, ih' _ (mem_getD (by omega)) _ _ (h3 _ (by omega)), ?_⟩ | refine ⟨_, _, ih' _ (mem_getD (by omega)) _ _ (h3 _ (by omega)), ?_⟩ | refine vcI (fun _ => ?_) (fun _ => ?_) | (refine vcA ?_ ?_; focus (repeat' (first | omega | assumption | refine vcA ?_ ?_); done)) | omega | refine imp_in (fun _ => ?_))
    · rename_i h4 h5
      exact done_same ⟨bool_eq (decide_eq_false fun e => by subst e; simp at h5).symm, rfl⟩
    · rename_i h4 h5
      refine again (j + 1) ?_ ?_ rfl env_ok
      · omega
      · exact ⟨by omega, upto_succ hq (by simpa using h5)⟩
    · have hm : v.items = w.items := upto_eq (d := zeroJ) (by omega) fun j hj => hq j (by omega)
      refine done_same ⟨bool_eq (decide_eq_true ?_).symm, rfl⟩
      rw [hvw]
      exact ⟨e1, e2, e3, hn, hm⟩
open Classical in
theorem Alike_c (v w : JV) (H : List AObj) (hs : sizeJ v ≤ 10000) : ACalls Tryz.prog 20 [jAV v, jAV w] H (fun x H' => x = .bool (decide (v = w)) ∧ H' = H) := by
  refine acalls_vc L_ok mixed [] (rs := [.tmp 4]) (n := 8) Tryz.func20 rfl rfl rfl rfl (Nat.le_of_ble_eq_true rfl) (by kernel_rfl) ?_
  repeat' (first | refine unhold ?_ | (simp -dsimp -implicitDefEqProofs (disch := (first | assumption | omega | (simp only [ll1, ll2, ll3, ll4, ll5, ll6, ll7, ll8]; omega))) only [go_sem]) | refine acalls_same (same_r v w _ hs) ?_ | refine ⟨_, same_r v w _ hs, ?_⟩ | refine ⟨_, _, same_r v w _ hs, ?_⟩ | refine vcI (fun _ => ?_) (fun _ => ?_) | (refine vcA ?_ ?_; focus (repeat' (first | omega | assumption | refine vcA ?_ ?_); done)) | omega | refine imp_in (fun _ => ?_))
  exact done_same ⟨rfl, rfl⟩
end Go.Proofs.YtplmbhjhihoneaaGreatDoor
end

section
set_option linter.unusedSimpArgs false
set_option linter.unusedVariables false
namespace Go.Proofs.YtplmbhjhihoneaaGreatDoor
open Go V
set_option maxRecDepth 10000
set_option maxHeartbeats 4000000
theorem srt_adj : ∀ {l : List bytes}, (∀ j, j + 1 < l.length → lessB (l.getD j []) (l.getD (j + 1) []) = true) → srt l = true
  | [], _ => rfl
  | [_], _ => rfl
  | a :: b :: r, h => by
    rw [srt, Bool.and_eq_true]
    exact ⟨h 0 (by simp), srt_adj fun j hj => h (j + 1) (by simpa using hj)⟩
theorem srt_at {l : List bytes} (h : srt l = true) {j : Nat} (hj : j + 1 < l.length) : lessB (l.getD j []) (l.getD (j + 1) []) = true := by
  refine srt_lt h (Nat.lt_succ_self j) (List.getElem?_eq_getElem (by omega) |>.trans ?_) (List.getElem?_eq_getElem hj |>.trans ?_)
  · rw [List.getD, List.getElem?_eq_getElem (by omega)]; rfl
  · rw [List.getD, List.getElem?_eq_getElem hj]; rfl
theorem all_at {l : List bytes} {p : bytes → Bool} (h : l.all p = true) {j : Nat} (hj : j < l.length) : p (l.getD j []) = true := List.all_eq_true.1 h _ (mem_getD hj)
theorem all_of {l : List bytes} {p : bytes → Bool} (h : ∀ j, j < l.length → p (l.getD j []) = true) : l.all p = true := by
  rw [List.all_eq_true]
  intro x hx
  obtain ⟨j, hj, rfl⟩ := List.mem_iff_getElem.1 hx
  have := h j hj
  rwa [List.getD, List.getElem?_eq_getElem hj] at this
theorem namedJ_len {v : JV} (h : ¬ v.names.length = v.items.length) : namedJ v = false := by simp [namedJ, h]
theorem namedJ_valid {v : JV} {j : Nat} (hj : j < v.names.length) (h : Lib.validD (v.names.getD j []) = false) : namedJ v = false := by
  cases e : namedJ v with
  | false => rfl
  | true =>
    simp only [namedJ, Bool.and_eq_true] at e
    have := all_at e.1.2 hj
    rw [h] at this
    cases this
theorem namedJ_less {v : JV} {j : Nat} (hj : j < v.names.length) (h0 : 0 < j) (h : lessB (v.names.getD (j - 1) []) (v.names.getD j []) = false) : namedJ v = false := by
  cases e : namedJ v with
  | false => rfl
  | true =>
    simp only [namedJ, Bool.and_eq_true] at e
    have := srt_at e.2 (j := j - 1) (by omega)
    rw [show j - 1 + 1 = j by omega, h] at this
    cases this
theorem namedJ_ok {v : JV} (hl : v.names.length = v.items.length) (h : ∀ j, j < v.names.length → Lib.validD (v.names.getD j []) = true ∧ (0 < j → lessB (v.names.getD (j - 1) []) (v.names.getD j []) = true)) : namedJ v = true := by
  simp only [namedJ, Bool.and_eq_true, decide_eq_true_eq]
  exact ⟨⟨hl, all_of fun j hj => (h j hj).1⟩, srt_adj fun j hj => (h (j + 1) hj).2 (by omega)⟩
theorem named_c (v : JV) (H : List AObj) (hs : sizeJ v ≤ 10000) : ACalls Tryz.prog 82 [jAV v] H (fun x H' => x = .bool (namedJ v) ∧ H' = H) := by
  have h1 := size_names v
  have h2 := size_items v
  have h3 : ∀ i, i < v.names.length → (v.names.getD i []).length ≤ 10000 := fun i hi => by have := size_name (v := v) (mem_getD (d := []) hi); omega
  refine acalls_vc L_ok mixed [] (rs := [.tmp 2]) (n := 39) Tryz.func82 rfl rfl rfl rfl (Nat.le_of_ble_eq_true rfl) (by kernel_rfl) ?_
  repeat' (first | refine unhold ?_ | (simp -dsimp -implicitDefEqProofs (disch := (first | assumption | omega | (simp only [ll1, ll2, ll3, ll4, ll5, ll6, ll7, ll8]; omega))) only [go_sem]) | refine vcI (fun _ => ?_) (fun _ => ?_) | (refine vcA ?_ ?_; focus (repeat' (first | omega | assumption | refine vcA ?_ ?_); done)) | omega | refine imp_in (fun _ => ?_))
  · rename_i h
    exact done_same ⟨bool_eq (namedJ_len (by omega)).symm, rfl⟩
  · rename_i h
    refine vc_loopk L_ok mixed [] [1, 13, 14] (fun i : Nat => i ≤ v.names.length ∧ ∀ j, j < i → Lib.validD (v.names.getD j []) = true ∧ (0 < j → lessB (v.names.getD (j - 1) []) (v.names.getD j []) = true)) (fun i => [(15, .int .i64 i)]) (fun _ => H) (fun i => v.names.length - i) (by kernel_rfl) ?_ 0 ⟨by omega, fun j hj => by omega⟩ env_ok rfl
    rintro i ⟨hi, hp⟩
    have h4 := h3 i
    repeat' (first | refine unhold ?_ | (simp -dsimp -implicitDefEqProofs (disch := (first | assumption | omega | (simp only [ll1, ll2, ll3, ll4, ll5, ll6, ll7, ll8]; omega))) only [go_sem]) | refine acalls_same (Right_c _ _ (h4 (by omega))) ?_ | refine ⟨_, Right_c _ _ (h4 (by omega)), ?_⟩ | refine ⟨_, _, Right_c _ _ (h4 (by omega)), ?_⟩ | refine vcI (fun _ => ?_) (fun _ => ?_) | (refine vcA ?_ ?_; focus (repeat' (first | omega | assumption | refine vcA ?_ ?_); done)) | omega | refine imp_in (fun _ => ?_))
    · rename_i h5 h6
      exact done_same ⟨bool_eq (namedJ_valid (by omega) h6).symm, rfl⟩
    · rename_i h5 h6 h7 h8
      rw [show ((i : Int) - 1).toNat = i - 1 by omega] at h8
      exact done_same ⟨bool_eq (namedJ_less (by omega) (by omega) h8).symm, rfl⟩
    · rename_i h5 h6 h7 h8
      rw [show ((i : Int) - 1).toNat = i - 1 by omega] at h8
      refine again (i + 1) ?_ ?_ rfl env_ok
      · omega
      · exact ⟨by omega, upto_succ hp ⟨h6, fun _ => h8⟩⟩
    · rename_i h5 h6 h7
      refine again (i + 1) ?_ ?_ rfl env_ok
      · omega
      · exact ⟨by omega, upto_succ hp ⟨h6, fun h8 => by omega⟩⟩
    · obtain rfl : i = v.names.length := by omega
      exact done_same ⟨bool_eq (namedJ_ok (by omega) hp).symm, rfl⟩
theorem rightJ_eq (d : Nat) (v : JV) : rightJ d v = (oneJ v || (manyJ v && (decide (0 < d) && v.items.all (rightJ (d - 1))))) := by cases d <;> simp [rightJ]
theorem not_any {l : List JV} {p : JV → Bool} : (!(l.any fun x => !p x)) = l.all p := by
  induction l with
  | nil => rfl
  | cons a l ih => simp only [List.any_cons, List.all_cons, Bool.not_or, Bool.not_not, ih]
theorem right_step (d : Nat) (v : JV) (w : Int) (H : List AObj) (hw : w = 12 - (d : Int)) (hd : d ≤ 12) (hs : sizeJ v ≤ 10000)
    (hq : 0 < d → ∀ x ∈ v.items, ∀ H, ACalls Tryz.prog 84 (jAV x :: [.ip (.lit (.int .i64 w))]) H (fun y H' => y = .bool (!rightJ (d - 1) x) ∧ H' = H)) :
    ACalls Tryz.prog 56 [jAV v, .lit (.int .i64 w)] H (fun x H' => x = .bool (rightJ d v) ∧ H' = H) := by
  have h1 := size_names v
  have h2 := size_items v
  have h3 := size_text v
  refine acalls_vc L_ok mixed [] (rs := [.tmp 4]) (n := 95) Tryz.func56 rfl rfl rfl rfl (Nat.le_of_ble_eq_true rfl) (by kernel_rfl) ?_
  repeat' (first | refine unhold ?_ | (simp -dsimp -implicitDefEqProofs (disch := (first | assumption | omega | (simp only [ll1, ll2, ll3, ll4, ll5, ll6, ll7, ll8]; omega))) only [go_sem]) | refine acalls_same (Right_c _ _ (by omega)) ?_ | refine ⟨_, Right_c _ _ (by omega), ?_⟩ | refine ⟨_, _, Right_c _ _ (by omega), ?_⟩ | refine acalls_same (named_c v _ hs) ?_ | refine ⟨_, named_c v _ hs, ?_⟩ | refine ⟨_, _, named_c v _ hs, ?_⟩ | refine acalls_same (ContainsFunc_c _ _ (fun x => !rightJ (d - 1) x) _ _ (by omega) (fun x hx => hq (by omega) x hx _)) ?_ | refine ⟨_, ContainsFunc_c _ _ (fun x => !rightJ (d - 1) x) _ _ (by omega) (fun x hx => hq (by omega) x hx _), ?_⟩ | refine ⟨_, _, ContainsFunc_c _ _ (fun x => !rightJ (d - 1) x) _ _ (by omega) (fun x hx => hq (by omega) x hx _), ?_⟩ | refine vcI (fun _ => ?_) (fun _ => ?_) | (refine vcA ?_ ?_; focus (repeat' (first | omega | assumption | refine vcA ?_ ?_); done)) | omega | refine imp_in (fun _ => ?_))
  all_goals
    refine done_same ⟨bool_eq ?_, rfl⟩
    rw [rightJ_eq]
    first
      | (have hd0 : 0 < d := by omega
         clear hq hw hd hs h1 h2 h3
         simp_all [oneJ, manyJ, bareJ, leafJ, not_any, hd0]; done)
      | (have hd0 : d = 0 := by omega
         clear hq hw hd hs h1 h2 h3
         simp_all [oneJ, manyJ, bareJ, leafJ, not_any, hd0]; done)
      | (clear hq hw hd hs h1 h2 h3
         simp_all [oneJ, manyJ, bareJ, leafJ, not_any]; done)
      | (clear hq hw hd hs h1 h2 h3
         simp_all [oneJ, manyJ, bareJ, leafJ, not_any]; omega)
theorem right_c : ∀ (d : Nat) (v : JV) (w : Int) (H : List AObj), w = 12 - (d : Int) → d ≤ 12 → sizeJ v ≤ 10000 → ACalls Tryz.prog 56 [jAV v, .lit (.int .i64 w)] H (fun x H' => x = .bool (rightJ d v) ∧ H' = H)
  | 0, v, w, H, hw, hd, hs => right_step 0 v w H hw hd hs fun h => by omega
  | d + 1, v, w, H, hw, hd, hs => right_step (d + 1) v w H hw hd hs fun _ x hx H => by
    have h4 := size_item hx
    refine acalls_vc L_ok mixed [] (rs := [.tmp 3]) (n := 9) Tryz.func84 rfl rfl rfl rfl (Nat.le_of_ble_eq_true rfl) (by kernel_rfl) ?_
    repeat' (first | refine unhold ?_ | (simp -dsimp -implicitDefEqProofs (disch := (first | assumption | omega | (simp only [ll1, ll2, ll3, ll4, ll5, ll6, ll7, ll8]; omega))) only [go_sem]) | refine acalls_same (right_c d x _ _ (by omega) (by omega) (by omega)) ?_ | refine ⟨_, right_c d x _ _ (by omega) (by omega) (by omega), ?_⟩ | refine ⟨_, _, right_c d x _ _ (by omega) (by omega) (by omega), ?_⟩ | refine vcI (fun _ => ?_) (fun _ => ?_) | (refine vcA ?_ ?_; focus (repeat' (first | omega | assumption | refine vcA ?_ ?_); done)) | omega | refine imp_in (fun _ => ?_))
    exact done_same ⟨rfl, rfl⟩
theorem Right_j (v : JV) (H : List AObj) (hs : sizeJ v ≤ 10000) : ACalls Tryz.prog 22 [jAV v] H (fun x H' => x = .bool (rightJ 12 v) ∧ H' = H) := by
  refine acalls_vc L_ok mixed [] (rs := [.tmp 2]) (n := 5) Tryz.func22 rfl rfl rfl rfl (Nat.le_of_ble_eq_true rfl) (by kernel_rfl) ?_
  repeat' (first | refine unhold ?_ | (simp -dsimp -implicitDefEqProofs (disch := (first | assumption | omega | (simp only [ll1, ll2, ll3, ll4, ll5, ll6, ll7, ll8]; omega))) only [go_sem]) | refine acalls_same (right_c 12 v _ _ (by omega) (by omega) hs) ?_ | refine ⟨_, right_c 12 v _ _ (by omega) (by omega) hs, ?_⟩ | refine ⟨_, _, right_c 12 v _ _ (by omega) (by omega) hs, ?_⟩ | refine vcI (fun _ => ?_) (fun _ => ?_) | (refine vcA ?_ ?_; focus (repeat' (first | omega | assumption | refine vcA ?_ ?_); done)) | omega | refine imp_in (fun _ => ?_))
  exact done_same ⟨rfl, rfl⟩
end Go.Proofs.YtplmbhjhihoneaaGreatDoor
end

section
set_option linter.unusedSimpArgs false
set_option linter.unusedVariables false
namespace Go.Proofs.YtplmbhjhihoneaaGreatDoor
open Go V
set_option maxRecDepth 10000
set_option maxHeartbeats 4000000
theorem Right_r {o : Own} (l : bytes) (H : List AObj) (hl : l.length ≤ 10000) : ACalls Tryz.prog 53 [.sl o 1 (l.map byteAV)] H (fun x H' => x = .bool (Lib.validD l) ∧ H' = H) := by
  refine acalls_vc L_ok mixed [] (rs := [.tmp 2]) (n := 12) Tryz.func53 rfl rfl rfl rfl (Nat.le_of_ble_eq_true rfl) (by kernel_rfl) ?_
  repeat' (first | refine unhold ?_ | (simp -dsimp -implicitDefEqProofs (disch := (first | assumption | omega | (simp only [ll1, ll2, ll3, ll4, ll5, ll6, ll7, ll8]; omega))) only [go_sem]) | refine acalls_same (Decode_r _ _ hl) ?_ | refine ⟨_, Decode_r _ _ hl, ?_⟩ | refine ⟨_, _, Decode_r _ _ hl, ?_⟩ | refine vcI (fun _ => ?_) (fun _ => ?_) | (refine vcA ?_ ?_; focus (repeat' (first | omega | assumption | refine vcA ?_ ?_); done)) | omega | refine imp_in (fun _ => ?_))
  exact done_same ⟨bool_eq (valid_decE l).symm, rfl⟩
def plainJ (v : JV) (n t ns is : Bool) : Bool := (n || decide (v.num = 0)) && (t || decide (v.text = [])) && (ns || decide (v.names = [])) && (is || decide (v.items = []))
theorem plain_r (v : JV) (n t ns is : Bool) (H : List AObj) : ACalls Tryz.prog 90 [jAV v, .lit (.bool n), .lit (.bool t), .lit (.bool ns), .lit (.bool is)] H (fun x H' => x = .bool (plainJ v n t ns is) ∧ H' = H) := by
  cases n <;> cases t <;> cases ns <;> cases is
  all_goals
    refine acalls_vc L_ok mixed [] (rs := [.tmp 10]) (n := 43) Tryz.func90 rfl rfl rfl rfl (Nat.le_of_ble_eq_true rfl) (by kernel_rfl) ?_
    repeat' (first | refine unhold ?_ | (simp -dsimp -implicitDefEqProofs (disch := (first | assumption | omega | (simp only [ll1, ll2, ll3, ll4, ll5, ll6, ll7, ll8]; omega))) only [go_sem]) | refine vcI (fun _ => ?_) (fun _ => ?_) | (refine vcA ?_ ?_; focus (repeat' (first | omega | assumption | refine vcA ?_ ?_); done)) | omega | refine imp_in (fun _ => ?_))
    all_goals
      refine done_same ⟨bool_eq ?_, rfl⟩
      simp_all [plainJ]
theorem all_items_no {l : List JV} {p : JV → Bool} {j : Nat} (hj : j < l.length) (h : p (l.getD j zeroJ) = false) : l.all p = false := by
  cases e : l.all p with
  | false => rfl
  | true => rw [List.all_eq_true.1 e _ (mem_getD hj)] at h; cases h
theorem all_items {l : List JV} {p : JV → Bool} (h : ∀ j, j < l.length → p (l.getD j zeroJ) = true) : l.all p = true := by
  rw [List.all_eq_true]
  intro x hx
  obtain ⟨j, hj, rfl⟩ := List.mem_iff_getElem.1 hx
  have := h j hj
  rwa [List.getD, List.getElem?_eq_getElem hj] at this
theorem right_is {d : Nat} {v : JV} (h : v.kind = 5 ∨ v.kind = 6) : rightJ d v = (manyJ v && (decide (0 < d) && v.items.all (rightJ (d - 1)))) := by
  rw [rightJ_eq]
  have : oneJ v = false := by
    unfold oneJ
    rw [if_neg (by omega), if_neg (by omega), if_neg (by omega)]
  rw [this, Bool.false_or]
theorem right_r_step (d : Nat) (v : JV) (w : Int) (H : List AObj) (hw : w = 12 - (d : Int)) (hd : d ≤ 12) (hs : sizeJ v ≤ 10000)
    (hq : 0 < d → ∀ x ∈ v.items, ∀ (u : Int) H, u = 12 - ((d - 1 : Nat) : Int) → ACalls Tryz.prog 62 [jAV x, .lit (.int .i64 u)] H (fun y H' => y = .bool (rightJ (d - 1) x) ∧ H' = H)) :
    ACalls Tryz.prog 62 [jAV v, .lit (.int .i64 w)] H (fun x H' => x = .bool (rightJ d v) ∧ H' = H) := by
  have h1 := size_names v
  have h2 := size_items v
  have h3 := size_text v
  have h4 : ∀ i, i < v.names.length → (v.names.getD i []).length ≤ 10000 := fun i hi => by have := size_name (v := v) (mem_getD (d := []) hi); omega
  refine acalls_vc L_ok mixed [1000020] (rs := [.tmp 4]) (n := 109) Tryz.func62 rfl rfl rfl rfl (Nat.le_of_ble_eq_true rfl) (by kernel_rfl) ?_
  repeat' (first | refine unhold ?_ | (simp -dsimp -implicitDefEqProofs (disch := (first | assumption | omega | (simp only [ll1, ll2, ll3, ll4, ll5, ll6, ll7, ll8]; omega))) only [go_sem]) | refine acalls_same (plain_r _ _ _ _ _ _) ?_ | refine ⟨_, plain_r _ _ _ _ _ _, ?_⟩ | refine ⟨_, _, plain_r _ _ _ _ _ _, ?_⟩ | refine acalls_same (Right_r _ _ (by omega)) ?_ | refine ⟨_, Right_r _ _ (by omega), ?_⟩ | refine ⟨_, _, Right_r _ _ (by omega), ?_⟩ | refine vcI (fun _ => ?_) (fun _ => ?_) | (refine vcA ?_ ?_; focus (repeat' (first | omega | assumption | refine vcA ?_ ?_); done)) | omega | refine imp_in (fun _ => ?_))
  all_goals
    first
      | (refine done_same ⟨bool_eq ?_, rfl⟩
         rw [rightJ_eq]
         clear hq h4
         first
           | (simp_all [oneJ, manyJ, bareJ, leafJ, plainJ]; done)
           | (have hn : namedJ v = false := namedJ_len (by omega)
              simp_all [oneJ, manyJ, bareJ, leafJ, plainJ]; done)
           | (have hn : d = 0 := by omega
              simp_all [oneJ, manyJ, bareJ, leafJ, plainJ]; done)
           | (simp_all [oneJ, manyJ, bareJ, leafJ, plainJ]; omega)
           | (by_cases a1 : v.num = 0 <;> by_cases a2 : v.text = [] <;> by_cases a3 : v.names = [] <;> by_cases a4 : v.items = [] <;> simp_all [oneJ, manyJ, bareJ, leafJ, plainJ]; done))
      | skip
  · rename_i k5 hpl hw12
    have hm : manyJ v = true := by simp_all [manyJ, bareJ, plainJ]
    have hd0 : 0 < d := by omega
    have hr : rightJ d v = v.items.all (rightJ (d - 1)) := by rw [right_is (.inl k5), hm, decide_eq_true hd0, Bool.true_and, Bool.true_and]
    refine vc_loopk L_ok mixed [1000020] [1, 2] (fun i : Nat => i ≤ v.items.length ∧ ∀ j, j < i → rightJ (d - 1) (v.items.getD j zeroJ) = true) (fun i => [(6, .int .i64 i)]) (fun _ => H) (fun i => v.items.length - i) (by kernel_rfl) ?_ 0 ⟨by omega, fun j hj => by omega⟩ env_ok rfl
    rintro i ⟨hi, hp⟩
    repeat' (first | refine unhold ?_ | (simp -dsimp -implicitDefEqProofs (disch := (first | assumption | omega | (simp only [ll1, ll2, ll3, ll4, ll5, ll6, ll7, ll8]; omega))) only [go_sem]) | refine acalls_same (hq hd0 _ (mem_getD (by omega)) _ _ (by omega)) ?_ | refine ⟨_, hq hd0 _ (mem_getD (by omega)) _ _ (by omega), ?_⟩ | refine ⟨_, _, hq hd0 _ (mem_getD (by omega)) _ _ (by omega), ?_⟩ | refine vcI (fun _ => ?_) (fun _ => ?_) | (refine vcA ?_ ?_; focus (repeat' (first | omega | assumption | refine vcA ?_ ?_); done)) | omega | refine imp_in (fun _ => ?_))
    · rename_i e1 e2
      exact done_same ⟨bool_eq (by rw [hr, all_items_no (by omega) e2]), rfl⟩
    · rename_i e1 e2
      refine again (i + 1) ?_ ?_ rfl env_ok
      · omega
      · exact ⟨by omega, upto_succ hp e2⟩
    · obtain rfl : i = v.items.length := by omega
      exact done_same ⟨bool_eq (by rw [hr, all_items hp]), rfl⟩
  · rename_i k5 k6 hpl hll
    refine vc_loopk L_ok mixed [1000020] [1, 2] (fun i : Nat => i ≤ v.names.length ∧ ∀ j, j < i → Lib.validD (v.names.getD j []) = true ∧ (0 < j → lessB (v.names.getD (j - 1) []) (v.names.getD j []) = true)) (fun i => [(5, .int .i64 i)]) (fun _ => H) (fun i => v.names.length - i) (by kernel_rfl) ?_ 0 ⟨by omega, fun j hj => by omega⟩ env_ok rfl
    rintro i ⟨hi, hp⟩
    have h5 := h4 i
    repeat' (first | refine unhold ?_ | (simp -dsimp -implicitDefEqProofs (disch := (first | assumption | omega | (simp only [ll1, ll2, ll3, ll4, ll5, ll6, ll7, ll8]; omega))) only [go_sem]) | refine acalls_same (Right_r _ _ (h5 (by omega))) ?_ | refine ⟨_, Right_r _ _ (h5 (by omega)), ?_⟩ | refine ⟨_, _, Right_r _ _ (h5 (by omega)), ?_⟩ | refine vcI (fun _ => ?_) (fun _ => ?_) | (refine vcA ?_ ?_; focus (repeat' (first | omega | assumption | refine vcA ?_ ?_); done)) | omega | refine imp_in (fun _ => ?_))
    · rename_i e1 e2
      refine done_same ⟨bool_eq ?_, rfl⟩
      rw [right_is (.inr k6), manyJ, if_neg k5, if_pos k6, namedJ_valid (by omega) e2, Bool.and_false, Bool.false_and]
    · rename_i e1 e2 e3 e4
      rw [show ((i : Int) - 1).toNat = i - 1 by omega] at e4
      refine done_same ⟨bool_eq ?_, rfl⟩
      rw [right_is (.inr k6), manyJ, if_neg k5, if_pos k6, namedJ_less (by omega) (by omega) e4, Bool.and_false, Bool.false_and]
    · rename_i e1 e2 e3 e4
      rw [show ((i : Int) - 1).toNat = i - 1 by omega] at e4
      refine again (i + 1) ?_ ?_ rfl env_ok
      · omega
      · exact ⟨by omega, upto_succ hp ⟨e2, fun _ => e4⟩⟩
    · rename_i e1 e2 e3
      refine again (i + 1) ?_ ?_ rfl env_ok
      · omega
      · exact ⟨by omega, upto_succ hp ⟨e2, fun h8 => by omega⟩⟩
    all_goals
      obtain rfl : i = v.names.length := by omega
      have hn := namedJ_ok (by omega) hp
      have hm : manyJ v = true := by simp_all [manyJ, bareJ, plainJ]
    · refine done_same ⟨bool_eq ?_, rfl⟩
      have hd0 : ¬ 0 < d := by omega
      rw [right_is (.inr k6), decide_eq_false hd0, Bool.false_and, Bool.and_false]
    · have hd0 : 0 < d := by omega
      have hr : rightJ d v = v.items.all (rightJ (d - 1)) := by rw [right_is (.inr k6), hm, decide_eq_true hd0, Bool.true_and, Bool.true_and]
      clear hp hi
      refine vc_loopk L_ok mixed [1000020] [1, 2] (fun i : Nat => i ≤ v.items.length ∧ ∀ j, j < i → rightJ (d - 1) (v.items.getD j zeroJ) = true) (fun i => [(6, .int .i64 i)]) (fun _ => H) (fun i => v.items.length - i) (by kernel_rfl) ?_ 0 ⟨by omega, fun j hj => by omega⟩ env_ok rfl
      rintro i ⟨hi, hp⟩
      repeat' (first | refine unhold ?_ | (simp -dsimp -implicitDefEqProofs (disch := (first | assumption | omega | (simp only [ll1, ll2, ll3, ll4, ll5, ll6, ll7, ll8]; omega))) only [go_sem]) | refine acalls_same (hq hd0 _ (mem_getD (by omega)) _ _ (by omega)) ?_ | refine ⟨_, hq hd0 _ (mem_getD (by omega)) _ _ (by omega), ?_⟩ | refine ⟨_, _, hq hd0 _ (mem_getD (by omega)) _ _ (by omega), ?_⟩ | refine vcI (fun _ => ?_) (fun _ => ?_) | (refine vcA ?_ ?_; focus (repeat' (first | omega | assumption | refine vcA ?_ ?_); done)) | omega | refine imp_in (fun _ => ?_))
      · rename_i e1 e2
        exact done_same ⟨bool_eq (by rw [hr, all_items_no (by omega) e2]), rfl⟩
      · rename_i e1 e2
        refine again (i + 1) ?_ ?_ rfl env_ok
        · omega
        · exact ⟨by omega, upto_succ hp e2⟩
      · obtain rfl : i = v.items.length := by omega
        exact done_same ⟨bool_eq (by rw [hr, all_items hp]), rfl⟩
theorem right_r : ∀ (d : Nat) (v : JV) (w : Int) (H : List AObj), w = 12 - (d : Int) → d ≤ 12 → sizeJ v ≤ 10000 → ACalls Tryz.prog 62 [jAV v, .lit (.int .i64 w)] H (fun x H' => x = .bool (rightJ d v) ∧ H' = H)
  | 0, v, w, H, hw, hd, hs => right_r_step 0 v w H hw hd hs fun h => by omega
  | d + 1, v, w, H, hw, hd, hs => right_r_step (d + 1) v w H hw hd hs fun _ x hx u H hu => by
    have h4 := size_item hx
    exact right_r d x u H (by omega) (by omega) (by omega)
theorem Right_jr (v : JV) (H : List AObj) (hs : sizeJ v ≤ 10000) : ACalls Tryz.prog 34 [jAV v] H (fun x H' => x = .bool (rightJ 12 v) ∧ H' = H) := by
  refine acalls_vc L_ok mixed [] (rs := [.tmp 2]) (n := 5) Tryz.func34 rfl rfl rfl rfl (Nat.le_of_ble_eq_true rfl) (by kernel_rfl) ?_
  repeat' (first | refine unhold ?_ | (simp -dsimp -implicitDefEqProofs (disch := (first | assumption | omega | (simp only [ll1, ll2, ll3, ll4, ll5, ll6, ll7, ll8]; omega))) only [go_sem]) | refine acalls_same (right_r 12 v _ _ (by omega) (by omega) hs) ?_ | refine ⟨_, right_r 12 v _ _ (by omega) (by omega) hs, ?_⟩ | refine ⟨_, _, right_r 12 v _ _ (by omega) (by omega) hs, ?_⟩ | refine vcI (fun _ => ?_) (fun _ => ?_) | (refine vcA ?_ ?_; focus (repeat' (first | omega | assumption | refine vcA ?_ ?_); done)) | omega | refine imp_in (fun _ => ?_))
  exact done_same ⟨rfl, rfl⟩
end Go.Proofs.YtplmbhjhihoneaaGreatDoor
end

section
set_option linter.unusedSimpArgs false
set_option linter.unusedVariables false
namespace Go.Proofs.YtplmbhjhihoneaaGreatDoor
open Go V
set_option maxRecDepth 10000
set_option maxHeartbeats 4000000
theorem take5 {a b c d e : AV} {l : List AV} : (a :: b :: c :: d :: e :: l).take 5 = [a, b, c, d, e] := rfl
theorem drop5 {a b c d e : AV} {l : List AV} : (a :: b :: c :: d :: e :: l).drop 5 = l := rfl
end Go.Proofs.YtplmbhjhihoneaaGreatDoor
end
