/- JsonWrap's law. -/
import Derived.Test.YtplmbhjhihoneaaGreatDoorW7
import Derived.Test.YtplmbhjhihoneaaGreatDoorWPa
section
set_option linter.unusedSimpArgs false
set_option linter.unusedVariables false
namespace Go.Proofs.YtplmbhjhihoneaaGreatDoor
open Go V
set_option maxRecDepth 10000
set_option maxHeartbeats 4000000
def wrapJ (v : JV) : JV := .mk 5 0 [] [] [v]
theorem size_wrap (v : JV) : sizeJ (wrapJ v) = 1 + sizeJ v := by
  rw [sizeJ_eq, sizesJ_eq]
  simp [wrapJ, JV.text, JV.names, JV.items]
theorem right_wrap (n : Nat) (v : JV) : rightJ (n + 1) (wrapJ v) = rightJ n v := by
  have h1 : oneJ (wrapJ v) = false := rfl
  have h2 : manyJ (wrapJ v) = true := rfl
  rw [rightJ, h1, h2]
  simp [wrapJ, JV.items]
theorem deep_wrap (n : Nat) (v : JV) : deepJ (n + 1) (wrapJ v) = deepJ n v + 1 := by
  rw [deepJ, if_pos (.inl rfl)]
  simp [wrapJ, JV.items]
theorem wrap_right (v : JV) : rightJ 12 (wrapJ v) = (rightJ 12 v && decide (((deepJ 13 v : Nat) : Int) < 12)) := by
  rw [right_wrap]
  cases h : rightJ 12 v with
  | false =>
    rw [Bool.false_and]
    cases e : rightJ 11 v with
    | false => rfl
    | true => rw [right_up (by omega) v e] at h; cases h
  | true =>
    rw [Bool.true_and]
    by_cases hd : deepJ 13 v < 12
    · rw [decide_eq_true (by omega), right_deep 13 11 12 v h (by omega) (by omega)]
    · rw [decide_eq_false (by omega)]
      cases e : rightJ 11 v with
      | false => rfl
      | true => have := deep_right 11 13 v e; omega
theorem wrap_deep {v : JV} (h : rightJ 12 v = true) (hd : deepJ 13 v < 12) : deepJ 13 (wrapJ v) = deepJ 13 v + 1 := by
  rw [deep_wrap, deep_same 11 12 13 v (right_deep 13 11 12 v h (by omega) (by omega)) (by omega) (by omega)]
theorem great1 {v : JV} (h : ¬ 1000 < greatJ [v]) : sizeJ v ≤ 1000 := by
  have h1 := weigh_le v 1000 (by decide)
  have h3 : greatJ [v] = weigh v 1000 := by simp [greatJ]
  rw [h3] at h
  have h4 := h1.2.2.1 (by omega)
  omega
abbrev wrapAV (v : JV) : AV := .agg [.lit (.int .i64 5), .lit (.int .i64 0), .str [], .sl .full 0 [], .sl .full 5 [jAV v]]
theorem le_wrap (v : JV) : Le (wrapAV v) (jAV (wrapJ v)) := le_j (ns := []) (is := [v]) le_nil le_sh
theorem weak1 {P : Program} {f : FuncId} {H : List AObj} {x y : AV} {R : AV → List AObj → Prop} (h : Le x y) (k : ACalls P f [y] H R) : ACalls P f [x] H R :=
  k.weak rfl fun j a b e1 e2 => by
    match j, e1, e2 with
    | 0, e1, e2 => cases e1; cases e2; exact h
theorem JsonWrap_c (v : JV) (H : List AObj) : ACalls Tryz.prog 5 [jAV v] H (fun x H' => x = .bool true ∧ H' = H) := by
  have hg := fun (H : List AObj) => great_c (o := .full) [v] H (by simp)
  by_cases hgr : 1000 < greatJ [v]
  · rw [decide_eq_true hgr] at hg
    refine acalls_vc L_ok mixed [1000007, 1000007010009] (rs := [.tmp 2]) (n := 36) Tryz.func5 rfl rfl rfl rfl (Nat.le_of_ble_eq_true rfl) (by kernel_rfl) ?_
    repeat' (first | refine unhold ?_ | (simp -dsimp -implicitDefEqProofs (disch := (first | assumption | omega | (simp only [List.length_map, List.length_append, List.length_cons, List.length_nil, List.length_replicate, List.length_drop, List.length_take, List.length_set]; omega))) only [go_sem, reduceCtorEq, Nat.reducePow, Int.reducePow, Nat.reduceDiv, Nat.reduceBEq, Nat.reduceEqDiff, Nat.reduceLT, Nat.reduceLeDiff, Nat.reduceAdd, Nat.reduceSub, Nat.reduceMul, Nat.reduceMod, Int.reduceToNat, Int.reduceNeg, Int.reduceAdd, Int.reduceSub, Int.reduceMul, Int.reduceDiv, Int.reduceMod, Int.reduceLT, Int.reduceLE, Int.reduceEq, ↓reduceIte, take5, drop5]) | (refine acalls_same (alive_c _) ?_) | (refine ⟨_, alive_c _, ?_⟩) | (refine ⟨_, _, alive_c _, ?_⟩) | (refine acalls_same (hg _) ?_) | (refine ⟨_, hg _, ?_⟩) | (refine ⟨_, _, hg _, ?_⟩) | (refine And.intro (fun _ => unhold ?_) (fun _ => unhold ?_)) | (refine And.intro ?_ ?_; focus (first | omega | assumption | (repeat' (first | assumption | omega | refine And.intro ?_ ?_); done))) | omega | (refine imp_in (fun _ => ?_)))
    exact done_same ⟨rfl, rfl⟩
  · rw [decide_eq_false hgr] at hg
    have hs := great1 hgr
    have hs2 := size_wrap v
    have cR := fun H => weak1 (le_wrap v) (Right_j (wrapJ v) H (by omega))
    have cD := fun H => weak1 (le_wrap v) (Deep_c (wrapJ v) H (by omega))
    rw [wrap_right] at cR
    cases h1 : rightJ 12 v with
    | false =>
      rw [h1, Bool.false_and] at cR
      refine acalls_vc L_ok mixed [1000007, 1000007010009] (rs := [.tmp 2]) (n := 36) Tryz.func5 rfl rfl rfl rfl (Nat.le_of_ble_eq_true rfl) (by kernel_rfl) ?_
      repeat' (first | refine unhold ?_ | (simp -dsimp -implicitDefEqProofs (disch := (first | assumption | omega | (simp only [List.length_map, List.length_append, List.length_cons, List.length_nil, List.length_replicate, List.length_drop, List.length_take, List.length_set]; omega))) only [go_sem, reduceCtorEq, Nat.reducePow, Int.reducePow, Nat.reduceDiv, Nat.reduceBEq, Nat.reduceEqDiff, Nat.reduceLT, Nat.reduceLeDiff, Nat.reduceAdd, Nat.reduceSub, Nat.reduceMul, Nat.reduceMod, Int.reduceToNat, Int.reduceNeg, Int.reduceAdd, Int.reduceSub, Int.reduceMul, Int.reduceDiv, Int.reduceMod, Int.reduceLT, Int.reduceLE, Int.reduceEq, ↓reduceIte, h1]) | (refine acalls_same (alive_c _) ?_) | (refine ⟨_, alive_c _, ?_⟩) | (refine ⟨_, _, alive_c _, ?_⟩) | (refine acalls_same (hg _) ?_) | (refine ⟨_, hg _, ?_⟩) | (refine ⟨_, _, hg _, ?_⟩) | (refine acalls_same (cR _) ?_) | (refine ⟨_, cR _, ?_⟩) | (refine ⟨_, _, cR _, ?_⟩) | (refine acalls_same (Right_j v _ (by omega)) ?_) | (refine ⟨_, Right_j v _ (by omega), ?_⟩) | (refine ⟨_, _, Right_j v _ (by omega), ?_⟩) | (refine And.intro (fun _ => unhold ?_) (fun _ => unhold ?_)) | (refine And.intro ?_ ?_; focus (first | omega | assumption | (repeat' (first | assumption | omega | refine And.intro ?_ ?_); done))) | omega | (refine imp_in (fun _ => ?_)))
      exact done_lit ⟨rfl, rfl⟩
    | true =>
      rw [h1, Bool.true_and] at cR
      by_cases h2 : deepJ 13 v < 12
      · rw [decide_eq_true (by omega)] at cR
        rw [wrap_deep h1 h2] at cD
        have h3 : (((deepJ 13 v : Nat) : Int) < 12) = True := eq_true (by omega)
        refine acalls_vc L_ok mixed [1000007, 1000007010009] (rs := [.tmp 2]) (n := 36) Tryz.func5 rfl rfl rfl rfl (Nat.le_of_ble_eq_true rfl) (by kernel_rfl) ?_
        repeat' (first | refine unhold ?_ | (simp -dsimp -implicitDefEqProofs (disch := (first | assumption | omega | (simp only [List.length_map, List.length_append, List.length_cons, List.length_nil, List.length_replicate, List.length_drop, List.length_take, List.length_set]; omega))) only [go_sem, reduceCtorEq, Nat.reducePow, Int.reducePow, Nat.reduceDiv, Nat.reduceBEq, Nat.reduceEqDiff, Nat.reduceLT, Nat.reduceLeDiff, Nat.reduceAdd, Nat.reduceSub, Nat.reduceMul, Nat.reduceMod, Int.reduceToNat, Int.reduceNeg, Int.reduceAdd, Int.reduceSub, Int.reduceMul, Int.reduceDiv, Int.reduceMod, Int.reduceLT, Int.reduceLE, Int.reduceEq, ↓reduceIte, h1, h3]) | (refine acalls_same (alive_c _) ?_) | (refine ⟨_, alive_c _, ?_⟩) | (refine ⟨_, _, alive_c _, ?_⟩) | (refine acalls_same (hg _) ?_) | (refine ⟨_, hg _, ?_⟩) | (refine ⟨_, _, hg _, ?_⟩) | (refine acalls_same (cR _) ?_) | (refine ⟨_, cR _, ?_⟩) | (refine ⟨_, _, cR _, ?_⟩) | (refine acalls_same (cD _) ?_) | (refine ⟨_, cD _, ?_⟩) | (refine ⟨_, _, cD _, ?_⟩) | (refine acalls_same (Right_j v _ (by omega)) ?_) | (refine ⟨_, Right_j v _ (by omega), ?_⟩) | (refine ⟨_, _, Right_j v _ (by omega), ?_⟩) | (refine acalls_same (Deep_c v _ (by omega)) ?_) | (refine ⟨_, Deep_c v _ (by omega), ?_⟩) | (refine ⟨_, _, Deep_c v _ (by omega), ?_⟩) | (refine And.intro (fun _ => unhold ?_) (fun _ => unhold ?_)) | (refine And.intro ?_ ?_; focus (first | omega | assumption | (repeat' (first | assumption | omega | refine And.intro ?_ ?_); done))) | omega | (refine imp_in (fun _ => ?_)))
        exact done_lit ⟨bool_eq (decide_eq_true (by omega)), rfl⟩
      · rw [decide_eq_false (by omega)] at cR
        have h3 : (((deepJ 13 v : Nat) : Int) < 12) = False := eq_false (by omega)
        refine acalls_vc L_ok mixed [1000007, 1000007010009] (rs := [.tmp 2]) (n := 36) Tryz.func5 rfl rfl rfl rfl (Nat.le_of_ble_eq_true rfl) (by kernel_rfl) ?_
        repeat' (first | refine unhold ?_ | (simp -dsimp -implicitDefEqProofs (disch := (first | assumption | omega | (simp only [List.length_map, List.length_append, List.length_cons, List.length_nil, List.length_replicate, List.length_drop, List.length_take, List.length_set]; omega))) only [go_sem, reduceCtorEq, Nat.reducePow, Int.reducePow, Nat.reduceDiv, Nat.reduceBEq, Nat.reduceEqDiff, Nat.reduceLT, Nat.reduceLeDiff, Nat.reduceAdd, Nat.reduceSub, Nat.reduceMul, Nat.reduceMod, Int.reduceToNat, Int.reduceNeg, Int.reduceAdd, Int.reduceSub, Int.reduceMul, Int.reduceDiv, Int.reduceMod, Int.reduceLT, Int.reduceLE, Int.reduceEq, ↓reduceIte, h1, h3]) | (refine acalls_same (alive_c _) ?_) | (refine ⟨_, alive_c _, ?_⟩) | (refine ⟨_, _, alive_c _, ?_⟩) | (refine acalls_same (hg _) ?_) | (refine ⟨_, hg _, ?_⟩) | (refine ⟨_, _, hg _, ?_⟩) | (refine acalls_same (cR _) ?_) | (refine ⟨_, cR _, ?_⟩) | (refine ⟨_, _, cR _, ?_⟩) | (refine acalls_same (cD _) ?_) | (refine ⟨_, cD _, ?_⟩) | (refine ⟨_, _, cD _, ?_⟩) | (refine acalls_same (Right_j v _ (by omega)) ?_) | (refine ⟨_, Right_j v _ (by omega), ?_⟩) | (refine ⟨_, _, Right_j v _ (by omega), ?_⟩) | (refine acalls_same (Deep_c v _ (by omega)) ?_) | (refine ⟨_, Deep_c v _ (by omega), ?_⟩) | (refine ⟨_, _, Deep_c v _ (by omega), ?_⟩) | (refine And.intro (fun _ => unhold ?_) (fun _ => unhold ?_)) | (refine And.intro ?_ ?_; focus (first | omega | assumption | (repeat' (first | assumption | omega | refine And.intro ?_ ?_); done))) | omega | (refine imp_in (fun _ => ?_)))
        exact done_lit ⟨rfl, rfl⟩
end Go.Proofs.YtplmbhjhihoneaaGreatDoor
end
