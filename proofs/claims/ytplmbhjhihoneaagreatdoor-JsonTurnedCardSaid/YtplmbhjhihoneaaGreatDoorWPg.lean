/- With, Without: the program's and the document's. -/
import Derived.Test.YtplmbhjhihoneaaGreatDoorWPc
import Derived.Test.YtplmbhjhihoneaaGreatDoorW6
import Derived.Test.YtplmbhjhihoneaaGreatDoorW7
section
set_option linter.unusedSimpArgs false
set_option linter.unusedVariables false
namespace Go.Proofs.YtplmbhjhihoneaaGreatDoor
open Go V
set_option maxRecDepth 10000
set_option maxHeartbeats 4000000
theorem put_obj2 {v : JV} (h : v.names.length = v.items.length) (hk : v.kind = 6 ∧ v.num = 0 ∧ v.text = []) (s : bytes) (x : JV) : jput v s x = ofP objJ (insP s x (prs v)) := by
  rw [jput_prs h, ofP, hk.1, hk.2.1, hk.2.2]
  rfl
def withP (v : JV) (s : bytes) (x : JV) : JV × Int :=
  if v.kind = 6 ∧ rightJ 12 v = true ∧ rightJ 12 x = true ∧ Lib.validD s = true then (if 12 ≤ deepJ 13 x then (zeroJ, 4) else (jput v s x, 0)) else (zeroJ, 1)
theorem withP_no {v x : JV} {s : bytes} (h : ¬ (v.kind = 6 ∧ rightJ 12 v = true ∧ rightJ 12 x = true ∧ Lib.validD s = true)) : withP v s x = (zeroJ, 1) := if_neg h
theorem obj_ok {n : Nat} {v : JV} (h : rightJ n v = true) (hk : v.kind = 6) (hs : sizeJ v ≤ 10000) : objOk v := by
  obtain ⟨_, _, _, h3, _, h5, _⟩ := right_obj h hk
  have := size_names v
  exact ⟨h3, h5, by omega⟩
theorem err_done {H M : List AObj} {p : JV × Int} {e : Int} (h : p = (zeroJ, e)) : Done H (fun x H' => x = parseAV p ∧ H' = H) (.tup [.agg zCells, .lit (.int .i64 e)]) (H ++ M) := by
  subst h
  exact done_weak (le_pair le_zero) (done_cut (parseAV (zeroJ, e)) (Le.refl _) low_parse ⟨rfl, rfl⟩)
theorem With_j (v x : JV) (s : bytes) (H : List AObj) (hv : sizeJ v ≤ 10000) (hx : sizeJ x ≤ 10000) (hs : s.length ≤ 10000) : ACalls Tryz.prog 28 [jAV v, .str s, jAV x] H (fun y H' => y = parseAV (withP v s x) ∧ H' = H) := by
  have cv := fun H => Right_j v H hv
  have cx := fun H => Right_j x H hx
  have cs := fun H => Right_c (o := .sh) s H hs
  have cd := fun H => Deep_c x H hx
  by_cases hk : v.kind = 6
  · have hkt := eq_true hk
    by_cases h1 : rightJ 12 v = true
    · by_cases h2 : rightJ 12 x = true
      · by_cases h3 : Lib.validD s = true
        · have hw : withP v s x = if 12 ≤ deepJ 13 x then (zeroJ, 4) else (jput v s x, 0) := if_pos ⟨hk, h1, h2, h3⟩
          rw [hw]
          by_cases h4 : 12 ≤ deepJ 13 x
          · rw [if_pos h4]
            have h4t : (12 ≤ ((deepJ 13 x : Nat) : Int)) = True := eq_true (by omega)
            refine acalls_vc L_ok mixed [] (rs := [.cell 6 27, .tmp 7]) (n := 38) Tryz.func28 rfl rfl rfl rfl (Nat.le_of_ble_eq_true rfl) (by kernel_rfl) ?_
            repeat' (first | refine unhold ?_ | (simp -dsimp -implicitDefEqProofs (disch := (first | assumption | omega | (simp only [ll1, ll2, ll3, ll4, ll5, ll6, ll7, ll8]; omega))) only [go_sem, reduceCtorEq, Nat.reducePow, Int.reducePow, Nat.reduceDiv, Nat.reduceBEq, Nat.reduceEqDiff, Nat.reduceLT, Nat.reduceLeDiff, Nat.reduceAdd, Nat.reduceSub, Nat.reduceMul, Nat.reduceMod, Int.reduceToNat, Int.reduceNeg, Int.reduceAdd, Int.reduceSub, Int.reduceMul, Int.reduceDiv, Int.reduceMod, Int.reduceLT, Int.reduceLE, Int.reduceEq, ↓reduceIte, hkt, h1, h2, h3, h4t]) | refine acalls_same (cv _) ?_ | refine ⟨_, cv _, ?_⟩ | refine ⟨_, _, cv _, ?_⟩ | refine acalls_same (cx _) ?_ | refine ⟨_, cx _, ?_⟩ | refine ⟨_, _, cx _, ?_⟩ | refine acalls_same (Right_c s _ hs) ?_ | refine ⟨_, Right_c s _ hs, ?_⟩ | refine ⟨_, _, Right_c s _ hs, ?_⟩ | refine acalls_same (cd _) ?_ | refine ⟨_, cd _, ?_⟩ | refine ⟨_, _, cd _, ?_⟩ | refine vcI (fun _ => ?_) (fun _ => ?_) | (refine vcA ?_ ?_; focus (repeat' (first | omega | assumption | refine vcA ?_ ?_); done)) | omega | refine imp_in (fun _ => ?_))
            exact err_done rfl
          · rw [if_neg h4]
            have h4f : (12 ≤ ((deepJ 13 x : Nat) : Int)) = False := eq_false (by omega)
            have cp := fun H => put_c v s x H (obj_ok h1 hk hv)
            refine acalls_vc L_ok mixed [] (rs := [.cell 6 27, .tmp 7]) (n := 38) Tryz.func28 rfl rfl rfl rfl (Nat.le_of_ble_eq_true rfl) (by kernel_rfl) ?_
            repeat' (first | refine unhold ?_ | (simp -dsimp -implicitDefEqProofs (disch := (first | assumption | omega | (simp only [ll1, ll2, ll3, ll4, ll5, ll6, ll7, ll8]; omega))) only [go_sem, reduceCtorEq, Nat.reducePow, Int.reducePow, Nat.reduceDiv, Nat.reduceBEq, Nat.reduceEqDiff, Nat.reduceLT, Nat.reduceLeDiff, Nat.reduceAdd, Nat.reduceSub, Nat.reduceMul, Nat.reduceMod, Int.reduceToNat, Int.reduceNeg, Int.reduceAdd, Int.reduceSub, Int.reduceMul, Int.reduceDiv, Int.reduceMod, Int.reduceLT, Int.reduceLE, Int.reduceEq, ↓reduceIte, hkt, h1, h2, h3, h4f]) | refine acalls_same (cv _) ?_ | refine ⟨_, cv _, ?_⟩ | refine ⟨_, _, cv _, ?_⟩ | refine acalls_same (cx _) ?_ | refine ⟨_, cx _, ?_⟩ | refine ⟨_, _, cx _, ?_⟩ | refine acalls_same (Right_c s _ hs) ?_ | refine ⟨_, Right_c s _ hs, ?_⟩ | refine ⟨_, _, Right_c s _ hs, ?_⟩ | refine acalls_same (cd _) ?_ | refine ⟨_, cd _, ?_⟩ | refine ⟨_, _, cd _, ?_⟩ | refine acalls_same (cp _) ?_ | refine ⟨_, cp _, ?_⟩ | refine ⟨_, _, cp _, ?_⟩ | refine vcI (fun _ => ?_) (fun _ => ?_) | (refine vcA ?_ ?_; focus (repeat' (first | omega | assumption | refine vcA ?_ ?_); done)) | omega | refine imp_in (fun _ => ?_))
            exact done_cut (parseAV (jput v s x, 0)) (Le.refl _) low_parse ⟨rfl, rfl⟩
        · rw [withP_no (fun h => h3 h.2.2.2)]
          have h3f : Lib.validD s = false := by simpa using h3
          refine acalls_vc L_ok mixed [] (rs := [.cell 6 27, .tmp 7]) (n := 38) Tryz.func28 rfl rfl rfl rfl (Nat.le_of_ble_eq_true rfl) (by kernel_rfl) ?_
          repeat' (first | refine unhold ?_ | (simp -dsimp -implicitDefEqProofs (disch := (first | assumption | omega | (simp only [ll1, ll2, ll3, ll4, ll5, ll6, ll7, ll8]; omega))) only [go_sem, reduceCtorEq, Nat.reducePow, Int.reducePow, Nat.reduceDiv, Nat.reduceBEq, Nat.reduceEqDiff, Nat.reduceLT, Nat.reduceLeDiff, Nat.reduceAdd, Nat.reduceSub, Nat.reduceMul, Nat.reduceMod, Int.reduceToNat, Int.reduceNeg, Int.reduceAdd, Int.reduceSub, Int.reduceMul, Int.reduceDiv, Int.reduceMod, Int.reduceLT, Int.reduceLE, Int.reduceEq, ↓reduceIte, hkt, h1, h2, h3f]) | refine acalls_same (cv _) ?_ | refine ⟨_, cv _, ?_⟩ | refine ⟨_, _, cv _, ?_⟩ | refine acalls_same (cx _) ?_ | refine ⟨_, cx _, ?_⟩ | refine ⟨_, _, cx _, ?_⟩ | refine acalls_same (Right_c s _ hs) ?_ | refine ⟨_, Right_c s _ hs, ?_⟩ | refine ⟨_, _, Right_c s _ hs, ?_⟩ | refine vcI (fun _ => ?_) (fun _ => ?_) | (refine vcA ?_ ?_; focus (repeat' (first | omega | assumption | refine vcA ?_ ?_); done)) | omega | refine imp_in (fun _ => ?_))
          exact err_done rfl
      · rw [withP_no (fun h => h2 h.2.2.1)]
        have h2f : rightJ 12 x = false := by simpa using h2
        refine acalls_vc L_ok mixed [] (rs := [.cell 6 27, .tmp 7]) (n := 38) Tryz.func28 rfl rfl rfl rfl (Nat.le_of_ble_eq_true rfl) (by kernel_rfl) ?_
        repeat' (first | refine unhold ?_ | (simp -dsimp -implicitDefEqProofs (disch := (first | assumption | omega | (simp only [ll1, ll2, ll3, ll4, ll5, ll6, ll7, ll8]; omega))) only [go_sem, reduceCtorEq, Nat.reducePow, Int.reducePow, Nat.reduceDiv, Nat.reduceBEq, Nat.reduceEqDiff, Nat.reduceLT, Nat.reduceLeDiff, Nat.reduceAdd, Nat.reduceSub, Nat.reduceMul, Nat.reduceMod, Int.reduceToNat, Int.reduceNeg, Int.reduceAdd, Int.reduceSub, Int.reduceMul, Int.reduceDiv, Int.reduceMod, Int.reduceLT, Int.reduceLE, Int.reduceEq, ↓reduceIte, hkt, h1, h2f]) | refine acalls_same (cv _) ?_ | refine ⟨_, cv _, ?_⟩ | refine ⟨_, _, cv _, ?_⟩ | refine acalls_same (cx _) ?_ | refine ⟨_, cx _, ?_⟩ | refine ⟨_, _, cx _, ?_⟩ | refine vcI (fun _ => ?_) (fun _ => ?_) | (refine vcA ?_ ?_; focus (repeat' (first | omega | assumption | refine vcA ?_ ?_); done)) | omega | refine imp_in (fun _ => ?_))
        exact err_done rfl
    · rw [withP_no (fun h => h1 h.2.1)]
      have h1f : rightJ 12 v = false := by simpa using h1
      refine acalls_vc L_ok mixed [] (rs := [.cell 6 27, .tmp 7]) (n := 38) Tryz.func28 rfl rfl rfl rfl (Nat.le_of_ble_eq_true rfl) (by kernel_rfl) ?_
      repeat' (first | refine unhold ?_ | (simp -dsimp -implicitDefEqProofs (disch := (first | assumption | omega | (simp only [ll1, ll2, ll3, ll4, ll5, ll6, ll7, ll8]; omega))) only [go_sem, reduceCtorEq, Nat.reducePow, Int.reducePow, Nat.reduceDiv, Nat.reduceBEq, Nat.reduceEqDiff, Nat.reduceLT, Nat.reduceLeDiff, Nat.reduceAdd, Nat.reduceSub, Nat.reduceMul, Nat.reduceMod, Int.reduceToNat, Int.reduceNeg, Int.reduceAdd, Int.reduceSub, Int.reduceMul, Int.reduceDiv, Int.reduceMod, Int.reduceLT, Int.reduceLE, Int.reduceEq, ↓reduceIte, hkt, h1f]) | refine acalls_same (cv _) ?_ | refine ⟨_, cv _, ?_⟩ | refine ⟨_, _, cv _, ?_⟩ | refine vcI (fun _ => ?_) (fun _ => ?_) | (refine vcA ?_ ?_; focus (repeat' (first | omega | assumption | refine vcA ?_ ?_); done)) | omega | refine imp_in (fun _ => ?_))
      exact err_done rfl
  · rw [withP_no (fun h => hk h.1)]
    have hkf := eq_false hk
    refine acalls_vc L_ok mixed [] (rs := [.cell 6 27, .tmp 7]) (n := 38) Tryz.func28 rfl rfl rfl rfl (Nat.le_of_ble_eq_true rfl) (by kernel_rfl) ?_
    repeat' (first | refine unhold ?_ | (simp -dsimp -implicitDefEqProofs (disch := (first | assumption | omega | (simp only [ll1, ll2, ll3, ll4, ll5, ll6, ll7, ll8]; omega))) only [go_sem, reduceCtorEq, Nat.reducePow, Int.reducePow, Nat.reduceDiv, Nat.reduceBEq, Nat.reduceEqDiff, Nat.reduceLT, Nat.reduceLeDiff, Nat.reduceAdd, Nat.reduceSub, Nat.reduceMul, Nat.reduceMod, Int.reduceToNat, Int.reduceNeg, Int.reduceAdd, Int.reduceSub, Int.reduceMul, Int.reduceDiv, Int.reduceMod, Int.reduceLT, Int.reduceLE, Int.reduceEq, ↓reduceIte, hkf]) | refine vcI (fun _ => ?_) (fun _ => ?_) | (refine vcA ?_ ?_; focus (repeat' (first | omega | assumption | refine vcA ?_ ?_); done)) | omega | refine imp_in (fun _ => ?_))
    exact err_done rfl
theorem With_r (v x : JV) (s : bytes) (H : List AObj) (hv : sizeJ v ≤ 10000) (hx : sizeJ x ≤ 10000) (hs : s.length ≤ 10000) : ACalls Tryz.prog 29 [jAV v, .str s, jAV x] H (fun y H' => y = parseAV (withP v s x) ∧ H' = H) := by
  have cv := fun H => Right_jr v H hv
  have cx := fun H => Right_jr x H hx
  have cd := fun H => Deep_r x H hx
  by_cases h1 : rightJ 12 v = true
  · by_cases hk : v.kind = 6
    · have hkt := eq_true hk
      by_cases h2 : rightJ 12 x = true
      · by_cases h3 : Lib.validD s = true
        · have hw : withP v s x = if 12 ≤ deepJ 13 x then (zeroJ, 4) else (jput v s x, 0) := if_pos ⟨hk, h1, h2, h3⟩
          rw [hw]
          by_cases h4 : 12 ≤ deepJ 13 x
          · rw [if_pos h4]
            have h4t : (12 ≤ ((deepJ 13 x : Nat) : Int)) = True := eq_true (by omega)
            refine acalls_vc L_ok mixed [] (rs := [.cell 6 27, .tmp 7]) (n := 36) Tryz.func29 rfl rfl rfl rfl (Nat.le_of_ble_eq_true rfl) (by kernel_rfl) ?_
            repeat' (first | refine unhold ?_ | (simp -dsimp -implicitDefEqProofs (disch := (first | assumption | omega | (simp only [ll1, ll2, ll3, ll4, ll5, ll6, ll7, ll8]; omega))) only [go_sem, reduceCtorEq, Nat.reducePow, Int.reducePow, Nat.reduceDiv, Nat.reduceBEq, Nat.reduceEqDiff, Nat.reduceLT, Nat.reduceLeDiff, Nat.reduceAdd, Nat.reduceSub, Nat.reduceMul, Nat.reduceMod, Int.reduceToNat, Int.reduceNeg, Int.reduceAdd, Int.reduceSub, Int.reduceMul, Int.reduceDiv, Int.reduceMod, Int.reduceLT, Int.reduceLE, Int.reduceEq, ↓reduceIte, hkt, h1, h2, h3, h4t]) | refine acalls_same (cv _) ?_ | refine ⟨_, cv _, ?_⟩ | refine ⟨_, _, cv _, ?_⟩ | refine acalls_same (cx _) ?_ | refine ⟨_, cx _, ?_⟩ | refine ⟨_, _, cx _, ?_⟩ | refine acalls_same (Right_r s _ hs) ?_ | refine ⟨_, Right_r s _ hs, ?_⟩ | refine ⟨_, _, Right_r s _ hs, ?_⟩ | refine acalls_same (cd _) ?_ | refine ⟨_, cd _, ?_⟩ | refine ⟨_, _, cd _, ?_⟩ | refine vcI (fun _ => ?_) (fun _ => ?_) | (refine vcA ?_ ?_; focus (repeat' (first | omega | assumption | refine vcA ?_ ?_); done)) | omega | refine imp_in (fun _ => ?_))
            exact err_done rfl
          · rw [if_neg h4]
            have h4f : (12 ≤ ((deepJ 13 x : Nat) : Int)) = False := eq_false (by omega)
            have hok := obj_ok h1 hk hv
            have cp := fun H => put_r v s x H hok
            obtain ⟨_, r1, r2, _⟩ := right_obj h1 hk
            rw [put_obj2 hok.1 ⟨hk, r1, r2⟩]
            refine acalls_vc L_ok mixed [] (rs := [.cell 6 27, .tmp 7]) (n := 36) Tryz.func29 rfl rfl rfl rfl (Nat.le_of_ble_eq_true rfl) (by kernel_rfl) ?_
            repeat' (first | refine unhold ?_ | (simp -dsimp -implicitDefEqProofs (disch := (first | assumption | omega | (simp only [ll1, ll2, ll3, ll4, ll5, ll6, ll7, ll8]; omega))) only [go_sem, reduceCtorEq, Nat.reducePow, Int.reducePow, Nat.reduceDiv, Nat.reduceBEq, Nat.reduceEqDiff, Nat.reduceLT, Nat.reduceLeDiff, Nat.reduceAdd, Nat.reduceSub, Nat.reduceMul, Nat.reduceMod, Int.reduceToNat, Int.reduceNeg, Int.reduceAdd, Int.reduceSub, Int.reduceMul, Int.reduceDiv, Int.reduceMod, Int.reduceLT, Int.reduceLE, Int.reduceEq, ↓reduceIte, hkt, h1, h2, h3, h4f]) | refine acalls_same (cv _) ?_ | refine ⟨_, cv _, ?_⟩ | refine ⟨_, _, cv _, ?_⟩ | refine acalls_same (cx _) ?_ | refine ⟨_, cx _, ?_⟩ | refine ⟨_, _, cx _, ?_⟩ | refine acalls_same (Right_r s _ hs) ?_ | refine ⟨_, Right_r s _ hs, ?_⟩ | refine ⟨_, _, Right_r s _ hs, ?_⟩ | refine acalls_same (cd _) ?_ | refine ⟨_, cd _, ?_⟩ | refine ⟨_, _, cd _, ?_⟩ | refine acalls_same (cp _) ?_ | refine ⟨_, cp _, ?_⟩ | refine ⟨_, _, cp _, ?_⟩ | refine vcI (fun _ => ?_) (fun _ => ?_) | (refine vcA ?_ ?_; focus (repeat' (first | omega | assumption | refine vcA ?_ ?_); done)) | omega | refine imp_in (fun _ => ?_))
            exact done_cut (parseAV (ofP objJ (insP s x (prs v)), 0)) (Le.refl _) low_parse ⟨rfl, rfl⟩
        · rw [withP_no (fun h => h3 h.2.2.2)]
          have h3f : Lib.validD s = false := by simpa using h3
          refine acalls_vc L_ok mixed [] (rs := [.cell 6 27, .tmp 7]) (n := 36) Tryz.func29 rfl rfl rfl rfl (Nat.le_of_ble_eq_true rfl) (by kernel_rfl) ?_
          repeat' (first | refine unhold ?_ | (simp -dsimp -implicitDefEqProofs (disch := (first | assumption | omega | (simp only [ll1, ll2, ll3, ll4, ll5, ll6, ll7, ll8]; omega))) only [go_sem, reduceCtorEq, Nat.reducePow, Int.reducePow, Nat.reduceDiv, Nat.reduceBEq, Nat.reduceEqDiff, Nat.reduceLT, Nat.reduceLeDiff, Nat.reduceAdd, Nat.reduceSub, Nat.reduceMul, Nat.reduceMod, Int.reduceToNat, Int.reduceNeg, Int.reduceAdd, Int.reduceSub, Int.reduceMul, Int.reduceDiv, Int.reduceMod, Int.reduceLT, Int.reduceLE, Int.reduceEq, ↓reduceIte, hkt, h1, h2, h3f]) | refine acalls_same (cv _) ?_ | refine ⟨_, cv _, ?_⟩ | refine ⟨_, _, cv _, ?_⟩ | refine acalls_same (cx _) ?_ | refine ⟨_, cx _, ?_⟩ | refine ⟨_, _, cx _, ?_⟩ | refine acalls_same (Right_r s _ hs) ?_ | refine ⟨_, Right_r s _ hs, ?_⟩ | refine ⟨_, _, Right_r s _ hs, ?_⟩ | refine vcI (fun _ => ?_) (fun _ => ?_) | (refine vcA ?_ ?_; focus (repeat' (first | omega | assumption | refine vcA ?_ ?_); done)) | omega | refine imp_in (fun _ => ?_))
          exact err_done rfl
      · rw [withP_no (fun h => h2 h.2.2.1)]
        have h2f : rightJ 12 x = false := by simpa using h2
        refine acalls_vc L_ok mixed [] (rs := [.cell 6 27, .tmp 7]) (n := 36) Tryz.func29 rfl rfl rfl rfl (Nat.le_of_ble_eq_true rfl) (by kernel_rfl) ?_
        repeat' (first | refine unhold ?_ | (simp -dsimp -implicitDefEqProofs (disch := (first | assumption | omega | (simp only [ll1, ll2, ll3, ll4, ll5, ll6, ll7, ll8]; omega))) only [go_sem, reduceCtorEq, Nat.reducePow, Int.reducePow, Nat.reduceDiv, Nat.reduceBEq, Nat.reduceEqDiff, Nat.reduceLT, Nat.reduceLeDiff, Nat.reduceAdd, Nat.reduceSub, Nat.reduceMul, Nat.reduceMod, Int.reduceToNat, Int.reduceNeg, Int.reduceAdd, Int.reduceSub, Int.reduceMul, Int.reduceDiv, Int.reduceMod, Int.reduceLT, Int.reduceLE, Int.reduceEq, ↓reduceIte, hkt, h1, h2f]) | refine acalls_same (cv _) ?_ | refine ⟨_, cv _, ?_⟩ | refine ⟨_, _, cv _, ?_⟩ | refine acalls_same (cx _) ?_ | refine ⟨_, cx _, ?_⟩ | refine ⟨_, _, cx _, ?_⟩ | refine vcI (fun _ => ?_) (fun _ => ?_) | (refine vcA ?_ ?_; focus (repeat' (first | omega | assumption | refine vcA ?_ ?_); done)) | omega | refine imp_in (fun _ => ?_))
        exact err_done rfl
    · rw [withP_no (fun h => hk h.1)]
      have hkf := eq_false hk
      refine acalls_vc L_ok mixed [] (rs := [.cell 6 27, .tmp 7]) (n := 36) Tryz.func29 rfl rfl rfl rfl (Nat.le_of_ble_eq_true rfl) (by kernel_rfl) ?_
      repeat' (first | refine unhold ?_ | (simp -dsimp -implicitDefEqProofs (disch := (first | assumption | omega | (simp only [ll1, ll2, ll3, ll4, ll5, ll6, ll7, ll8]; omega))) only [go_sem, reduceCtorEq, Nat.reducePow, Int.reducePow, Nat.reduceDiv, Nat.reduceBEq, Nat.reduceEqDiff, Nat.reduceLT, Nat.reduceLeDiff, Nat.reduceAdd, Nat.reduceSub, Nat.reduceMul, Nat.reduceMod, Int.reduceToNat, Int.reduceNeg, Int.reduceAdd, Int.reduceSub, Int.reduceMul, Int.reduceDiv, Int.reduceMod, Int.reduceLT, Int.reduceLE, Int.reduceEq, ↓reduceIte, hkf, h1]) | refine acalls_same (cv _) ?_ | refine ⟨_, cv _, ?_⟩ | refine ⟨_, _, cv _, ?_⟩ | refine vcI (fun _ => ?_) (fun _ => ?_) | (refine vcA ?_ ?_; focus (repeat' (first | omega | assumption | refine vcA ?_ ?_); done)) | omega | refine imp_in (fun _ => ?_))
      exact err_done rfl
  · rw [withP_no (fun h => h1 h.2.1)]
    have h1f : rightJ 12 v = false := by simpa using h1
    refine acalls_vc L_ok mixed [] (rs := [.cell 6 27, .tmp 7]) (n := 36) Tryz.func29 rfl rfl rfl rfl (Nat.le_of_ble_eq_true rfl) (by kernel_rfl) ?_
    repeat' (first | refine unhold ?_ | (simp -dsimp -implicitDefEqProofs (disch := (first | assumption | omega | (simp only [ll1, ll2, ll3, ll4, ll5, ll6, ll7, ll8]; omega))) only [go_sem, reduceCtorEq, Nat.reducePow, Int.reducePow, Nat.reduceDiv, Nat.reduceBEq, Nat.reduceEqDiff, Nat.reduceLT, Nat.reduceLeDiff, Nat.reduceAdd, Nat.reduceSub, Nat.reduceMul, Nat.reduceMod, Int.reduceToNat, Int.reduceNeg, Int.reduceAdd, Int.reduceSub, Int.reduceMul, Int.reduceDiv, Int.reduceMod, Int.reduceLT, Int.reduceLE, Int.reduceEq, ↓reduceIte, h1f]) | refine acalls_same (cv _) ?_ | refine ⟨_, cv _, ?_⟩ | refine ⟨_, _, cv _, ?_⟩ | refine vcI (fun _ => ?_) (fun _ => ?_) | (refine vcA ?_ ?_; focus (repeat' (first | omega | assumption | refine vcA ?_ ?_); done)) | omega | refine imp_in (fun _ => ?_))
    exact err_done rfl
def hasB (ns : List bytes) (s : bytes) : Bool := ns.any (fun n => n == s)
theorem idxS_has (ns : List bytes) (s : bytes) : decide (0 ≤ idxS ns s) = hasB ns s := by
  unfold idxS hasB
  cases h : ns.findIdx? (fun n => n == s) with
  | none =>
    rw [List.findIdx?_eq_none_iff] at h
    rw [decide_eq_false (by simp only; omega)]
    symm
    rw [List.any_eq_false]
    exact fun x hx => by simpa using h x hx
  | some i =>
    obtain ⟨h1, h2, _⟩ := List.findIdx?_eq_some_iff_getElem.1 h
    rw [decide_eq_true (by simp only; omega)]
    symm
    rw [List.any_eq_true]
    exact ⟨_, List.getElem_mem h1, h2⟩
theorem cutP_put {p : bytes → Bool} {l : Prs} {i : Nat} {a : bytes × JV} (h : l[i]? = some a) : cutP p (l.take (i + 1)) = cutP p (l.take i) ++ (if p a.1 = true then [] else [a]) := by
  rw [take_put h]
  unfold cutP
  rw [List.filter_append, List.filter_cons, List.filter_nil]
  cases p a.1 <;> rfl
theorem cutP_len (p : bytes → Bool) (l : Prs) (i : Nat) : (cutP p (l.take i)).length ≤ i := by
  have := List.length_filter_le (fun q => !p q.1) (l.take i)
  rw [List.length_take] at this
  unfold cutP
  omega
theorem Without_j {o : Own} (v : JV) (ns : List bytes) (H : List AObj) (hv : sizeJ v ≤ 10000) (hn : ns.length ≤ 10000) : ACalls Tryz.prog 30 [jAV v, .sl o 1 (ns.map .str)] H (fun y H' => y = jAV (jcut (hasB ns) v) ∧ H' = H) := by
  have cv := fun H => Right_j v H hv
  by_cases hk : v.kind = 6
  · have hkt := eq_true hk
    by_cases h1 : rightJ 12 v = true
    · have hj : jcut (hasB ns) v = ofP objJ (cutP (hasB ns) (prs v)) := if_pos ⟨hk, h1⟩
      rw [hj]
      have hok := obj_ok h1 hk hv
      have hpl := prs_len hok.1
      have hn1 := hok.1
      have hn2 := hok.2.2
      have hpg := fun i hi => prs_get (v := v) (i := i) hok.1 hi
      have mS : ∀ (a : List bytes) (b : bytes), a.map AV.str ++ [.str b] = (a ++ [b]).map AV.str := fun a b => by simp
      have mJ : ∀ (a : List JV) (b : JV), a.map jAV ++ [jAV b] = (a ++ [b]).map jAV := fun a b => by simp
      refine acalls_vc L_ok mixed [1000009] (rs := [.cell 4 27]) (n := 48) Tryz.func30 rfl rfl rfl rfl (Nat.le_of_ble_eq_true rfl) (by kernel_rfl) ?_
      repeat' (first | refine unhold ?_ | (simp -dsimp -implicitDefEqProofs (disch := (first | assumption | omega | (simp only [ll1, ll2, ll3, ll4, ll5, ll6, ll7, ll8]; omega))) only [go_sem, reduceCtorEq, Nat.reducePow, Int.reducePow, Nat.reduceDiv, Nat.reduceBEq, Nat.reduceEqDiff, Nat.reduceLT, Nat.reduceLeDiff, Nat.reduceAdd, Nat.reduceSub, Nat.reduceMul, Nat.reduceMod, Int.reduceToNat, Int.reduceNeg, Int.reduceAdd, Int.reduceSub, Int.reduceMul, Int.reduceDiv, Int.reduceMod, Int.reduceLT, Int.reduceLE, Int.reduceEq, ↓reduceIte, hkt, h1]) | refine acalls_same (cv _) ?_ | refine ⟨_, cv _, ?_⟩ | refine ⟨_, _, cv _, ?_⟩ | refine vcI (fun _ => ?_) (fun _ => ?_) | (refine vcA ?_ ?_; focus (repeat' (first | omega | assumption | refine vcA ?_ ?_); done)) | omega | refine imp_in (fun _ => ?_))
      refine aw_mintC (H.length + 1) 3 1 (by simp; exact ⟨rfl, rfl⟩) rfl (by decide) ?_
      refine aw_mintC (H.length + 1) 4 5 (by simp; exact ⟨rfl, rfl⟩) rfl (by decide) ?_
      refine vc_loopk L_ok mixed [1000009] [1, 2, 4, 5, 19, 20] (fun i : Nat => i ≤ v.names.length) (fun i => [(21, .int .i64 i)]) (fun i => oObjs H (cutP (hasB ns) ((prs v).take i))) (fun i => v.names.length - i) (by kernel_rfl) ?_ 0 (by omega) env_ok (by simp [oObjs, cutP])
      intro i hi
      have hol := cutP_len (hasB ns) (prs v) i
      unfold oObjs
      dsimp only [oCells, zCells]
      by_cases hil : i < v.names.length
      · have t1 := cutP_put (p := hasB ns) (hpg i hil)
        have cc := fun H => Contains_c (o := o) ns (v.names.getD i []) H (by omega)
        rw [idxS_has] at cc
        cases hp : hasB ns (v.names.getD i []) with
        | true =>
          rw [if_pos hp, List.append_nil] at t1
          repeat' (first | refine unhold ?_ | (simp -dsimp -implicitDefEqProofs (disch := (first | assumption | omega | (simp only [ll1, ll2, ll3, ll4, ll5, ll6, ll7, ll8]; omega))) only [go_sem, reduceCtorEq, Nat.reducePow, Int.reducePow, Nat.reduceDiv, Nat.reduceBEq, Nat.reduceEqDiff, Nat.reduceLT, Nat.reduceLeDiff, Nat.reduceAdd, Nat.reduceSub, Nat.reduceMul, Nat.reduceMod, Int.reduceToNat, Int.reduceNeg, Int.reduceAdd, Int.reduceSub, Int.reduceMul, Int.reduceDiv, Int.reduceMod, Int.reduceLT, Int.reduceLE, Int.reduceEq, ↓reduceIte, hp]) | refine acalls_same (cc _) ?_ | refine ⟨_, cc _, ?_⟩ | refine ⟨_, _, cc _, ?_⟩ | refine vcI (fun _ => ?_) (fun _ => ?_) | (refine vcA ?_ ?_; focus (repeat' (first | omega | assumption | refine vcA ?_ ?_); done)) | omega | refine imp_in (fun _ => ?_))
          refine again (i + 1) ?_ ?_ ?_ env_ok
          · omega
          · omega
          · rw [t1]
        | false =>
          rw [if_neg (by rw [hp]; decide)] at t1
          generalize cutP (hasB ns) ((prs v).take i) = q at *
          repeat' (first | refine unhold ?_ | (simp -dsimp -implicitDefEqProofs (disch := (first | assumption | omega | (simp only [ll1, ll2, ll3, ll4, ll5, ll6, ll7, ll8]; omega))) only [go_sem, reduceCtorEq, Nat.reducePow, Int.reducePow, Nat.reduceDiv, Nat.reduceBEq, Nat.reduceEqDiff, Nat.reduceLT, Nat.reduceLeDiff, Nat.reduceAdd, Nat.reduceSub, Nat.reduceMul, Nat.reduceMod, Int.reduceToNat, Int.reduceNeg, Int.reduceAdd, Int.reduceSub, Int.reduceMul, Int.reduceDiv, Int.reduceMod, Int.reduceLT, Int.reduceLE, Int.reduceEq, ↓reduceIte, hp, mS, mJ]) | refine acalls_same (cc _) ?_ | refine ⟨_, cc _, ?_⟩ | refine ⟨_, _, cc _, ?_⟩ | refine vcI (fun _ => ?_) (fun _ => ?_) | (refine vcA ?_ ?_; focus (repeat' (first | omega | assumption | refine vcA ?_ ?_); done)) | omega | refine imp_in (fun _ => ?_))
          refine again (i + 1) ?_ ?_ ?_ env_ok
          · omega
          · omega
          · rw [t1]; simp
      · obtain rfl : i = v.names.length := by omega
        rw [← hpl, List.take_length]
        repeat' (first | refine unhold ?_ | (simp -dsimp -implicitDefEqProofs (disch := (first | assumption | omega | (simp only [ll1, ll2, ll3, ll4, ll5, ll6, ll7, ll8]; omega))) only [go_sem, reduceCtorEq, Nat.reducePow, Int.reducePow, Nat.reduceDiv, Nat.reduceBEq, Nat.reduceEqDiff, Nat.reduceLT, Nat.reduceLeDiff, Nat.reduceAdd, Nat.reduceSub, Nat.reduceMul, Nat.reduceMod, Int.reduceToNat, Int.reduceNeg, Int.reduceAdd, Int.reduceSub, Int.reduceMul, Int.reduceDiv, Int.reduceMod, Int.reduceLT, Int.reduceLE, Int.reduceEq, ↓reduceIte]) | refine vcI (fun _ => ?_) (fun _ => ?_) | (refine vcA ?_ ?_; focus (repeat' (first | omega | assumption | refine vcA ?_ ?_); done)) | omega | refine imp_in (fun _ => ?_))
        exact done_weak (le_j le_sh le_sh) (done_cut (jAV (ofP objJ (cutP (hasB ns) (prs v)))) (Le.refl _) (low_jAV _) ⟨rfl, rfl⟩)
    · have hj : jcut (hasB ns) v = v := if_neg (fun h => h1 h.2)
      rw [hj]
      have h1f : rightJ 12 v = false := by simpa using h1
      refine acalls_vc L_ok mixed [1000009] (rs := [.cell 4 27]) (n := 48) Tryz.func30 rfl rfl rfl rfl (Nat.le_of_ble_eq_true rfl) (by kernel_rfl) ?_
      repeat' (first | refine unhold ?_ | (simp -dsimp -implicitDefEqProofs (disch := (first | assumption | omega | (simp only [ll1, ll2, ll3, ll4, ll5, ll6, ll7, ll8]; omega))) only [go_sem, reduceCtorEq, Nat.reducePow, Int.reducePow, Nat.reduceDiv, Nat.reduceBEq, Nat.reduceEqDiff, Nat.reduceLT, Nat.reduceLeDiff, Nat.reduceAdd, Nat.reduceSub, Nat.reduceMul, Nat.reduceMod, Int.reduceToNat, Int.reduceNeg, Int.reduceAdd, Int.reduceSub, Int.reduceMul, Int.reduceDiv, Int.reduceMod, Int.reduceLT, Int.reduceLE, Int.reduceEq, ↓reduceIte, hkt, h1f]) | refine acalls_same (cv _) ?_ | refine ⟨_, cv _, ?_⟩ | refine ⟨_, _, cv _, ?_⟩ | refine vcI (fun _ => ?_) (fun _ => ?_) | (refine vcA ?_ ?_; focus (repeat' (first | omega | assumption | refine vcA ?_ ?_); done)) | omega | refine imp_in (fun _ => ?_))
      exact done_cut (jAV v) (Le.refl _) (low_jAV _) ⟨rfl, rfl⟩
  · have hj : jcut (hasB ns) v = v := if_neg (fun h => hk h.1)
    rw [hj]
    have hkf := eq_false hk
    refine acalls_vc L_ok mixed [1000009] (rs := [.cell 4 27]) (n := 48) Tryz.func30 rfl rfl rfl rfl (Nat.le_of_ble_eq_true rfl) (by kernel_rfl) ?_
    repeat' (first | refine unhold ?_ | (simp -dsimp -implicitDefEqProofs (disch := (first | assumption | omega | (simp only [ll1, ll2, ll3, ll4, ll5, ll6, ll7, ll8]; omega))) only [go_sem, reduceCtorEq, Nat.reducePow, Int.reducePow, Nat.reduceDiv, Nat.reduceBEq, Nat.reduceEqDiff, Nat.reduceLT, Nat.reduceLeDiff, Nat.reduceAdd, Nat.reduceSub, Nat.reduceMul, Nat.reduceMod, Int.reduceToNat, Int.reduceNeg, Int.reduceAdd, Int.reduceSub, Int.reduceMul, Int.reduceDiv, Int.reduceMod, Int.reduceLT, Int.reduceLE, Int.reduceEq, ↓reduceIte, hkf]) | refine vcI (fun _ => ?_) (fun _ => ?_) | (refine vcA ?_ ?_; focus (repeat' (first | omega | assumption | refine vcA ?_ ?_); done)) | omega | refine imp_in (fun _ => ?_))
    exact done_cut (jAV v) (Le.refl _) (low_jAV _) ⟨rfl, rfl⟩
theorem hasB_put {ns : List bytes} {k : Nat} {s : bytes} (h : k < ns.length) : hasB (ns.take (k + 1)) s = (hasB (ns.take k) s || (ns.getD k [] == s)) := by
  rw [take_put (get_getD [] h)]
  unfold hasB
  rw [List.any_append]
  simp
theorem Without_r {o : Own} (v : JV) (ns : List bytes) (H : List AObj) (hv : sizeJ v ≤ 10000) (hn : ns.length ≤ 10000) : ACalls Tryz.prog 31 [jAV v, .sl o 1 (ns.map .str)] H (fun y H' => y = jAV (jcut (hasB ns) v) ∧ H' = H) := by
  have cv := fun H => Right_jr v H hv
  by_cases h1 : rightJ 12 v = true
  · by_cases hk : v.kind = 6
    · have hkt := eq_true hk
      have hj : jcut (hasB ns) v = ofP objJ (cutP (hasB ns) (prs v)) := if_pos ⟨hk, h1⟩
      rw [hj]
      have hok := obj_ok h1 hk hv
      have hpl := prs_len hok.1
      have hn1 := hok.1
      have hn2 := hok.2.2
      have hpg := fun i hi => prs_get (v := v) (i := i) hok.1 hi
      have mS : ∀ (a : List bytes) (b : bytes), a.map AV.str ++ [.str b] = (a ++ [b]).map AV.str := fun a b => by simp
      have mJ : ∀ (a : List JV) (b : JV), a.map jAV ++ [jAV b] = (a ++ [b]).map jAV := fun a b => by simp
      refine acalls_vc L_ok mixed [1000011, 1000013, 1000014] (rs := [.cell 4 27]) (n := 68) Tryz.func31 rfl rfl rfl rfl (Nat.le_of_ble_eq_true rfl) (by kernel_rfl) ?_
      repeat' (first | refine unhold ?_ | (simp -dsimp -implicitDefEqProofs (disch := (first | assumption | omega | (simp only [ll1, ll2, ll3, ll4, ll5, ll6, ll7, ll8]; omega))) only [go_sem, reduceCtorEq, Nat.reducePow, Int.reducePow, Nat.reduceDiv, Nat.reduceBEq, Nat.reduceEqDiff, Nat.reduceLT, Nat.reduceLeDiff, Nat.reduceAdd, Nat.reduceSub, Nat.reduceMul, Nat.reduceMod, Int.reduceToNat, Int.reduceNeg, Int.reduceAdd, Int.reduceSub, Int.reduceMul, Int.reduceDiv, Int.reduceMod, Int.reduceLT, Int.reduceLE, Int.reduceEq, ↓reduceIte, hkt, h1]) | refine acalls_same (cv _) ?_ | refine ⟨_, cv _, ?_⟩ | refine ⟨_, _, cv _, ?_⟩ | refine vcI (fun _ => ?_) (fun _ => ?_) | (refine vcA ?_ ?_; focus (repeat' (first | omega | assumption | refine vcA ?_ ?_); done)) | omega | refine imp_in (fun _ => ?_))
      refine aw_mintC (H.length + 1) 3 1 (by simp; exact ⟨rfl, rfl⟩) rfl (by decide) ?_
      refine aw_mintC (H.length + 1) 4 5 (by simp; exact ⟨rfl, rfl⟩) rfl (by decide) ?_
      refine vc_loopk L_ok mixed [1000011, 1000013, 1000014] [1, 2, 4, 5] (fun i : Nat => i ≤ v.names.length) (fun i => [(6, .int .i64 i)]) (fun i => oObjs H (cutP (hasB ns) ((prs v).take i))) (fun i => v.names.length - i) (by kernel_rfl) ?_ 0 (by omega) env_ok (by simp [oObjs, cutP])
      intro i hi
      have hol := cutP_len (hasB ns) (prs v) i
      by_cases hil : i < v.names.length
      · have t1 := cutP_put (p := hasB ns) (hpg i hil)
        have filt : ((i : Int) < ((v.names.length : Nat) : Int)) = True := eq_true (by omega)
        generalize hO : cutP (hasB ns) ((prs v).take i) = q at *
        repeat' (first | refine unhold ?_ | (simp -dsimp -implicitDefEqProofs (disch := (first | assumption | omega | (simp only [ll1, ll2, ll3, ll4, ll5, ll6, ll7, ll8]; omega))) only [go_sem, reduceCtorEq, Nat.reducePow, Int.reducePow, Nat.reduceDiv, Nat.reduceBEq, Nat.reduceEqDiff, Nat.reduceLT, Nat.reduceLeDiff, Nat.reduceAdd, Nat.reduceSub, Nat.reduceMul, Nat.reduceMod, Int.reduceToNat, Int.reduceNeg, Int.reduceAdd, Int.reduceSub, Int.reduceMul, Int.reduceDiv, Int.reduceMod, Int.reduceLT, Int.reduceLE, Int.reduceEq, ↓reduceIte, filt]) | refine vcI (fun _ => ?_) (fun _ => ?_) | (refine vcA ?_ ?_; focus (repeat' (first | omega | assumption | refine vcA ?_ ?_); done)) | omega | refine imp_in (fun _ => ?_))
        refine vc_loopk L_ok mixed [1000011, 1000013, 1000014] [1, 2, 4, 5, 6, 19, 20, 21, 22, 23] (fun y : Nat × Bool => y.1 ≤ ns.length ∧ y.2 = hasB (ns.take y.1) (v.names.getD i [])) (fun y => [(8, .int .i64 y.1), (7, .bool y.2)]) (fun _ => oObjs H q) (fun y => ns.length - y.1) (by kernel_rfl) ?_ (0, false) ⟨by simp, rfl⟩ env_ok rfl
        rintro ⟨k, g⟩ ⟨hk2, hg⟩
        dsimp only at hk2 hg ⊢
        unfold oObjs
        dsimp only [oCells, zCells]
        by_cases hkl : k < ns.length
        · have hb := hasB_put (s := v.names.getD i []) hkl
          rw [← hg] at hb
          cases g with
          | true =>
            rw [Bool.true_or] at hb
            repeat' (first | refine unhold ?_ | (simp -dsimp -implicitDefEqProofs (disch := (first | assumption | omega | (simp only [ll1, ll2, ll3, ll4, ll5, ll6, ll7, ll8]; omega))) only [go_sem, reduceCtorEq, Nat.reducePow, Int.reducePow, Nat.reduceDiv, Nat.reduceBEq, Nat.reduceEqDiff, Nat.reduceLT, Nat.reduceLeDiff, Nat.reduceAdd, Nat.reduceSub, Nat.reduceMul, Nat.reduceMod, Int.reduceToNat, Int.reduceNeg, Int.reduceAdd, Int.reduceSub, Int.reduceMul, Int.reduceDiv, Int.reduceMod, Int.reduceLT, Int.reduceLE, Int.reduceEq, ↓reduceIte, filt]) | refine vcI (fun _ => ?_) (fun _ => ?_) | (refine vcA ?_ ?_; focus (repeat' (first | omega | assumption | refine vcA ?_ ?_); done)) | omega | refine imp_in (fun _ => ?_))
            refine again ((k + 1, true)) ?_ ?_ rfl env_ok
            · dsimp only; omega
            · exact ⟨by dsimp only; omega, hb.symm⟩
          | false =>
            rw [Bool.false_or] at hb
            by_cases he : ns.getD k [] = v.names.getD i []
            · have hbt : hasB (ns.take (k + 1)) (v.names.getD i []) = true := by rw [hb, he]; simp
              repeat' (first | refine unhold ?_ | (simp -dsimp -implicitDefEqProofs (disch := (first | assumption | omega | (simp only [ll1, ll2, ll3, ll4, ll5, ll6, ll7, ll8]; omega))) only [go_sem, reduceCtorEq, Nat.reducePow, Int.reducePow, Nat.reduceDiv, Nat.reduceBEq, Nat.reduceEqDiff, Nat.reduceLT, Nat.reduceLeDiff, Nat.reduceAdd, Nat.reduceSub, Nat.reduceMul, Nat.reduceMod, Int.reduceToNat, Int.reduceNeg, Int.reduceAdd, Int.reduceSub, Int.reduceMul, Int.reduceDiv, Int.reduceMod, Int.reduceLT, Int.reduceLE, Int.reduceEq, ↓reduceIte, he, filt]) | refine vcI (fun _ => ?_) (fun _ => ?_) | (refine vcA ?_ ?_; focus (repeat' (first | omega | assumption | refine vcA ?_ ?_); done)) | omega | refine imp_in (fun _ => ?_))
              refine again ((k + 1, true)) ?_ ?_ rfl env_ok
              · dsimp only; omega
              · exact ⟨by dsimp only; omega, hbt.symm⟩
            · have hbt : hasB (ns.take (k + 1)) (v.names.getD i []) = false := by rw [hb]; simpa using he
              repeat' (first | refine unhold ?_ | (simp -dsimp -implicitDefEqProofs (disch := (first | assumption | omega | (simp only [ll1, ll2, ll3, ll4, ll5, ll6, ll7, ll8]; omega))) only [go_sem, reduceCtorEq, Nat.reducePow, Int.reducePow, Nat.reduceDiv, Nat.reduceBEq, Nat.reduceEqDiff, Nat.reduceLT, Nat.reduceLeDiff, Nat.reduceAdd, Nat.reduceSub, Nat.reduceMul, Nat.reduceMod, Int.reduceToNat, Int.reduceNeg, Int.reduceAdd, Int.reduceSub, Int.reduceMul, Int.reduceDiv, Int.reduceMod, Int.reduceLT, Int.reduceLE, Int.reduceEq, ↓reduceIte, he, filt]) | refine vcI (fun _ => ?_) (fun _ => ?_) | (refine vcA ?_ ?_; focus (repeat' (first | omega | assumption | refine vcA ?_ ?_); done)) | omega | refine imp_in (fun _ => ?_))
              refine again ((k + 1, false)) ?_ ?_ rfl env_ok
              · dsimp only; omega
              · exact ⟨by dsimp only; omega, hbt.symm⟩
        · obtain rfl : k = ns.length := by omega
          rw [List.take_length] at hg
          subst hg
          cases hp : hasB ns (v.names.getD i []) with
          | true =>
            rw [if_pos hp, List.append_nil] at t1
            repeat' (first | refine unhold ?_ | (simp -dsimp -implicitDefEqProofs (disch := (first | assumption | omega | (simp only [ll1, ll2, ll3, ll4, ll5, ll6, ll7, ll8]; omega))) only [go_sem, reduceCtorEq, Nat.reducePow, Int.reducePow, Nat.reduceDiv, Nat.reduceBEq, Nat.reduceEqDiff, Nat.reduceLT, Nat.reduceLeDiff, Nat.reduceAdd, Nat.reduceSub, Nat.reduceMul, Nat.reduceMod, Int.reduceToNat, Int.reduceNeg, Int.reduceAdd, Int.reduceSub, Int.reduceMul, Int.reduceDiv, Int.reduceMod, Int.reduceLT, Int.reduceLE, Int.reduceEq, ↓reduceIte, hp, filt]) | refine vcI (fun _ => ?_) (fun _ => ?_) | (refine vcA ?_ ?_; focus (repeat' (first | omega | assumption | refine vcA ?_ ?_); done)) | omega | refine imp_in (fun _ => ?_))
            refine again (i + 1) ?_ ?_ ?_ env_ok
            · omega
            · omega
            · rw [t1]
          | false =>
            rw [if_neg (by rw [hp]; decide)] at t1
            repeat' (first | refine unhold ?_ | (simp -dsimp -implicitDefEqProofs (disch := (first | assumption | omega | (simp only [ll1, ll2, ll3, ll4, ll5, ll6, ll7, ll8]; omega))) only [go_sem, reduceCtorEq, Nat.reducePow, Int.reducePow, Nat.reduceDiv, Nat.reduceBEq, Nat.reduceEqDiff, Nat.reduceLT, Nat.reduceLeDiff, Nat.reduceAdd, Nat.reduceSub, Nat.reduceMul, Nat.reduceMod, Int.reduceToNat, Int.reduceNeg, Int.reduceAdd, Int.reduceSub, Int.reduceMul, Int.reduceDiv, Int.reduceMod, Int.reduceLT, Int.reduceLE, Int.reduceEq, ↓reduceIte, hp, mS, mJ, filt]) | refine vcI (fun _ => ?_) (fun _ => ?_) | (refine vcA ?_ ?_; focus (repeat' (first | omega | assumption | refine vcA ?_ ?_); done)) | omega | refine imp_in (fun _ => ?_))
            refine again (i + 1) ?_ ?_ ?_ env_ok
            · omega
            · omega
            · rw [t1]; simp [oObjs]
      · obtain rfl : i = v.names.length := by omega
        unfold oObjs
        dsimp only [oCells, zCells]
        rw [← hpl, List.take_length]
        repeat' (first | refine unhold ?_ | (simp -dsimp -implicitDefEqProofs (disch := (first | assumption | omega | (simp only [ll1, ll2, ll3, ll4, ll5, ll6, ll7, ll8]; omega))) only [go_sem, reduceCtorEq, Nat.reducePow, Int.reducePow, Nat.reduceDiv, Nat.reduceBEq, Nat.reduceEqDiff, Nat.reduceLT, Nat.reduceLeDiff, Nat.reduceAdd, Nat.reduceSub, Nat.reduceMul, Nat.reduceMod, Int.reduceToNat, Int.reduceNeg, Int.reduceAdd, Int.reduceSub, Int.reduceMul, Int.reduceDiv, Int.reduceMod, Int.reduceLT, Int.reduceLE, Int.reduceEq, ↓reduceIte]) | refine vcI (fun _ => ?_) (fun _ => ?_) | (refine vcA ?_ ?_; focus (repeat' (first | omega | assumption | refine vcA ?_ ?_); done)) | omega | refine imp_in (fun _ => ?_))
        exact done_weak (le_j le_sh le_sh) (done_cut (jAV (ofP objJ (cutP (hasB ns) (prs v)))) (Le.refl _) (low_jAV _) ⟨rfl, rfl⟩)
    · have hj : jcut (hasB ns) v = v := if_neg (fun h => hk h.1)
      rw [hj]
      have hkf := eq_false hk
      refine acalls_vc L_ok mixed [1000011, 1000013, 1000014] (rs := [.cell 4 27]) (n := 68) Tryz.func31 rfl rfl rfl rfl (Nat.le_of_ble_eq_true rfl) (by kernel_rfl) ?_
      repeat' (first | refine unhold ?_ | (simp -dsimp -implicitDefEqProofs (disch := (first | assumption | omega | (simp only [ll1, ll2, ll3, ll4, ll5, ll6, ll7, ll8]; omega))) only [go_sem, reduceCtorEq, Nat.reducePow, Int.reducePow, Nat.reduceDiv, Nat.reduceBEq, Nat.reduceEqDiff, Nat.reduceLT, Nat.reduceLeDiff, Nat.reduceAdd, Nat.reduceSub, Nat.reduceMul, Nat.reduceMod, Int.reduceToNat, Int.reduceNeg, Int.reduceAdd, Int.reduceSub, Int.reduceMul, Int.reduceDiv, Int.reduceMod, Int.reduceLT, Int.reduceLE, Int.reduceEq, ↓reduceIte, hkf, h1]) | refine acalls_same (cv _) ?_ | refine ⟨_, cv _, ?_⟩ | refine ⟨_, _, cv _, ?_⟩ | refine vcI (fun _ => ?_) (fun _ => ?_) | (refine vcA ?_ ?_; focus (repeat' (first | omega | assumption | refine vcA ?_ ?_); done)) | omega | refine imp_in (fun _ => ?_))
      exact done_cut (jAV v) (Le.refl _) (low_jAV _) ⟨rfl, rfl⟩
  · have hj : jcut (hasB ns) v = v := if_neg (fun h => h1 h.2)
    rw [hj]
    have h1f : rightJ 12 v = false := by simpa using h1
    refine acalls_vc L_ok mixed [1000011, 1000013, 1000014] (rs := [.cell 4 27]) (n := 68) Tryz.func31 rfl rfl rfl rfl (Nat.le_of_ble_eq_true rfl) (by kernel_rfl) ?_
    repeat' (first | refine unhold ?_ | (simp -dsimp -implicitDefEqProofs (disch := (first | assumption | omega | (simp only [ll1, ll2, ll3, ll4, ll5, ll6, ll7, ll8]; omega))) only [go_sem, reduceCtorEq, Nat.reducePow, Int.reducePow, Nat.reduceDiv, Nat.reduceBEq, Nat.reduceEqDiff, Nat.reduceLT, Nat.reduceLeDiff, Nat.reduceAdd, Nat.reduceSub, Nat.reduceMul, Nat.reduceMod, Int.reduceToNat, Int.reduceNeg, Int.reduceAdd, Int.reduceSub, Int.reduceMul, Int.reduceDiv, Int.reduceMod, Int.reduceLT, Int.reduceLE, Int.reduceEq, ↓reduceIte, h1f]) | refine acalls_same (cv _) ?_ | refine ⟨_, cv _, ?_⟩ | refine ⟨_, _, cv _, ?_⟩ | refine vcI (fun _ => ?_) (fun _ => ?_) | (refine vcA ?_ ?_; focus (repeat' (first | omega | assumption | refine vcA ?_ ?_); done)) | omega | refine imp_in (fun _ => ?_))
    exact done_cut (jAV v) (Le.refl _) (low_jAV _) ⟨rfl, rfl⟩
end Go.Proofs.YtplmbhjhihoneaaGreatDoor
end
