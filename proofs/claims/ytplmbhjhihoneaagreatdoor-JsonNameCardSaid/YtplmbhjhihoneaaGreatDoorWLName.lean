/- JsonWith's law, JsonName's law. -/
import Derived.Test.YtplmbhjhihoneaaGreatDoorW7
import Derived.Test.YtplmbhjhihoneaaGreatDoorWPg
section
set_option linter.unusedSimpArgs false
set_option linter.unusedVariables false
namespace Go.Proofs.YtplmbhjhihoneaaGreatDoor
open Go V
set_option maxRecDepth 10000
set_option maxHeartbeats 4000000
theorem with_ok {v x : JV} {s : bytes} (h : (withP v s x).2 = 0) : v.kind = 6 ∧ rightJ 12 v = true ∧ rightJ 11 x = true ∧ Lib.validD s = true ∧ (withP v s x).1 = jput v s x := by
  unfold withP at h ⊢
  split at h
  · rename_i hc
    rw [if_pos hc]
    split at h
    · cases h
    · rename_i hd
      rw [if_neg hd]
      exact ⟨hc.1, hc.2.1, right_deep 13 11 12 x hc.2.2.1 (by omega) (by omega), hc.2.2.2, rfl⟩
  · cases h
theorem with_bad {v x : JV} {s : bytes} (h : (withP v s x).2 ≠ 0) : (withP v s x).1 = zeroJ := by
  unfold withP at h ⊢
  split at h
  · rename_i hc
    rw [if_pos hc]
    split at h
    · rename_i hd; rw [if_pos hd]
    · exact absurd rfl h
  · rename_i hc; rw [if_neg hc]
theorem size_with {v x : JV} {s : bytes} : sizeJ (withP v s x).1 ≤ sizeJ v + nameW s + sizeJ x := by
  have h1 := sizeJ_pos v
  by_cases h : (withP v s x).2 = 0
  · obtain ⟨hk, hr, _, _, e⟩ := with_ok h
    rw [e]
    exact size_put (right_obj hr hk).2.2.2.1 s x
  · rw [with_bad h]
    have : sizeJ zeroJ = 1 := rfl
    omega
theorem JsonWith_c (v x : JV) (s : bytes) (H : List AObj) : ACalls Tryz.prog 8 [jAV v, jAV x, .str s] H (fun x H' => x = .bool true ∧ H' = H) := by
  have hg := fun (H : List AObj) => great_c (o := .full) [v, x] H (by simp)
  by_cases hgr : 1000 < greatJ [v, x]
  · rw [decide_eq_true hgr] at hg
    refine acalls_vc L_ok mixed [] (rs := [.tmp 6]) (n := 59) Tryz.func8 rfl rfl rfl rfl (Nat.le_of_ble_eq_true rfl) (by kernel_rfl) ?_
    repeat' (first | refine unhold ?_ | (simp -dsimp -implicitDefEqProofs (disch := (first | assumption | omega | (simp only [ll1, ll2, ll3, ll4, ll5, ll6, ll7, ll8]; omega))) only [go_sem, reduceCtorEq, Nat.reducePow, Int.reducePow, Nat.reduceDiv, Nat.reduceBEq, Nat.reduceEqDiff, Nat.reduceLT, Nat.reduceLeDiff, Nat.reduceAdd, Nat.reduceSub, Nat.reduceMul, Nat.reduceMod, Int.reduceToNat, Int.reduceNeg, Int.reduceAdd, Int.reduceSub, Int.reduceMul, Int.reduceDiv, Int.reduceMod, Int.reduceLT, Int.reduceLE, Int.reduceEq, ↓reduceIte, take5, drop5]) | refine acalls_same (alive_c _) ?_ | refine ⟨_, alive_c _, ?_⟩ | refine ⟨_, _, alive_c _, ?_⟩ | refine acalls_same (hg _) ?_ | refine ⟨_, hg _, ?_⟩ | refine ⟨_, _, hg _, ?_⟩ | refine vcI (fun _ => ?_) (fun _ => ?_) | (refine vcA ?_ ?_; focus (repeat' (first | omega | assumption | refine vcA ?_ ?_); done)) | omega | refine imp_in (fun _ => ?_))
    exact done_same ⟨rfl, rfl⟩
  · rw [decide_eq_false hgr] at hg
    obtain ⟨h1, h2⟩ := great2 hgr
    by_cases hs : 1000 < s.length
    · have hst : (1000 < ((s.length : Nat) : Int)) = True := eq_true (by omega)
      refine acalls_vc L_ok mixed [] (rs := [.tmp 6]) (n := 59) Tryz.func8 rfl rfl rfl rfl (Nat.le_of_ble_eq_true rfl) (by kernel_rfl) ?_
      repeat' (first | refine unhold ?_ | (simp -dsimp -implicitDefEqProofs (disch := (first | assumption | omega | (simp only [ll1, ll2, ll3, ll4, ll5, ll6, ll7, ll8]; omega))) only [go_sem, reduceCtorEq, Nat.reducePow, Int.reducePow, Nat.reduceDiv, Nat.reduceBEq, Nat.reduceEqDiff, Nat.reduceLT, Nat.reduceLeDiff, Nat.reduceAdd, Nat.reduceSub, Nat.reduceMul, Nat.reduceMod, Int.reduceToNat, Int.reduceNeg, Int.reduceAdd, Int.reduceSub, Int.reduceMul, Int.reduceDiv, Int.reduceMod, Int.reduceLT, Int.reduceLE, Int.reduceEq, ↓reduceIte, take5, drop5, hst]) | refine acalls_same (alive_c _) ?_ | refine ⟨_, alive_c _, ?_⟩ | refine ⟨_, _, alive_c _, ?_⟩ | refine acalls_same (hg _) ?_ | refine ⟨_, hg _, ?_⟩ | refine ⟨_, _, hg _, ?_⟩ | refine vcI (fun _ => ?_) (fun _ => ?_) | (refine vcA ?_ ?_; focus (repeat' (first | omega | assumption | refine vcA ?_ ?_); done)) | omega | refine imp_in (fun _ => ?_))
      exact done_same ⟨rfl, rfl⟩
    · have hsf : (1000 < ((s.length : Nat) : Int)) = False := eq_false (by omega)
      have hz := size_with (v := v) (x := x) (s := s)
      have hz2 := size_cut (hasB [s, [98]]) v
      unfold nameW at hz
      have cw := fun H => With_j v x s H (by omega) (by omega) (by omega)
      have cr := fun H => With_r v x s H (by omega) (by omega) (by omega)
      have co := fun H => Without_j (o := .full) v [s, [98]] H (by omega) (by simp)
      have cp := fun H => Without_r (o := .full) v [s, [98]] H (by omega) (by simp)
      generalize withP v s x = p at *
      generalize jcut (hasB [s, [98]]) v = q at *
      unfold parseAV at cw cr
      have cA := fun H => Alike_c p.1 p.1 H (by omega)
      have cB := fun H => Alike_c q q H (by omega)
      refine acalls_vc L_ok mixed [] (rs := [.tmp 6]) (n := 59) Tryz.func8 rfl rfl rfl rfl (Nat.le_of_ble_eq_true rfl) (by kernel_rfl) ?_
      repeat' (first | refine unhold ?_ | (simp -dsimp -implicitDefEqProofs (disch := (first | assumption | omega | (simp only [ll1, ll2, ll3, ll4, ll5, ll6, ll7, ll8]; omega))) only [go_sem, reduceCtorEq, Nat.reducePow, Int.reducePow, Nat.reduceDiv, Nat.reduceBEq, Nat.reduceEqDiff, Nat.reduceLT, Nat.reduceLeDiff, Nat.reduceAdd, Nat.reduceSub, Nat.reduceMul, Nat.reduceMod, Int.reduceToNat, Int.reduceNeg, Int.reduceAdd, Int.reduceSub, Int.reduceMul, Int.reduceDiv, Int.reduceMod, Int.reduceLT, Int.reduceLE, Int.reduceEq, ↓reduceIte, take5, drop5, hsf]) | refine acalls_same (alive_c _) ?_ | refine ⟨_, alive_c _, ?_⟩ | refine ⟨_, _, alive_c _, ?_⟩ | refine acalls_same (hg _) ?_ | refine ⟨_, hg _, ?_⟩ | refine ⟨_, _, hg _, ?_⟩ | refine acalls_same (cw _) ?_ | refine ⟨_, cw _, ?_⟩ | refine ⟨_, _, cw _, ?_⟩ | refine acalls_same (cr _) ?_ | refine ⟨_, cr _, ?_⟩ | refine ⟨_, _, cr _, ?_⟩ | refine acalls_same (co _) ?_ | refine ⟨_, co _, ?_⟩ | refine ⟨_, _, co _, ?_⟩ | refine acalls_same (cp _) ?_ | refine ⟨_, cp _, ?_⟩ | refine ⟨_, _, cp _, ?_⟩ | refine acalls_same (cA _) ?_ | refine ⟨_, cA _, ?_⟩ | refine ⟨_, _, cA _, ?_⟩ | refine acalls_same (cB _) ?_ | refine ⟨_, cB _, ?_⟩ | refine ⟨_, _, cB _, ?_⟩ | refine vcI (fun _ => ?_) (fun _ => ?_) | (refine vcA ?_ ?_; focus (repeat' (first | omega | assumption | refine vcA ?_ ?_); done)) | omega | refine imp_in (fun _ => ?_))
      exact done_lit ⟨rfl, rfl⟩
theorem JsonName_c (v x : JV) (a b : bytes) (H : List AObj) : ACalls Tryz.prog 9 [jAV v, jAV x, .agg [.str a, .str b]] H (fun x H' => x = .bool true ∧ H' = H) := by
  have hg := fun (H : List AObj) => great_c (o := .full) [v, x] H (by simp)
  by_cases hgr : 1000 < greatJ [v, x]
  · rw [decide_eq_true hgr] at hg
    refine acalls_vc L_ok mixed [] (rs := [.tmp 6]) (n := 121) Tryz.func9 rfl rfl rfl rfl (Nat.le_of_ble_eq_true rfl) (by kernel_rfl) ?_
    repeat' (first | refine unhold ?_ | (simp -dsimp -implicitDefEqProofs (disch := (first | assumption | omega | (simp only [ll1, ll2, ll3, ll4, ll5, ll6, ll7, ll8]; omega))) only [go_sem, reduceCtorEq, Nat.reducePow, Int.reducePow, Nat.reduceDiv, Nat.reduceBEq, Nat.reduceEqDiff, Nat.reduceLT, Nat.reduceLeDiff, Nat.reduceAdd, Nat.reduceSub, Nat.reduceMul, Nat.reduceMod, Int.reduceToNat, Int.reduceNeg, Int.reduceAdd, Int.reduceSub, Int.reduceMul, Int.reduceDiv, Int.reduceMod, Int.reduceLT, Int.reduceLE, Int.reduceEq, ↓reduceIte, take5, drop5]) | refine acalls_same (alive_c _) ?_ | refine ⟨_, alive_c _, ?_⟩ | refine ⟨_, _, alive_c _, ?_⟩ | refine acalls_same (hg _) ?_ | refine ⟨_, hg _, ?_⟩ | refine ⟨_, _, hg _, ?_⟩ | refine vcI (fun _ => ?_) (fun _ => ?_) | (refine vcA ?_ ?_; focus (repeat' (first | omega | assumption | refine vcA ?_ ?_); done)) | omega | refine imp_in (fun _ => ?_))
    exact done_same ⟨rfl, rfl⟩
  · rw [decide_eq_false hgr] at hg
    obtain ⟨h1, h2⟩ := great2 hgr
    by_cases hs : 1000 < a.length
    · have hst : (1000 < ((a.length : Nat) : Int)) = True := eq_true (by omega)
      refine acalls_vc L_ok mixed [] (rs := [.tmp 6]) (n := 121) Tryz.func9 rfl rfl rfl rfl (Nat.le_of_ble_eq_true rfl) (by kernel_rfl) ?_
      repeat' (first | refine unhold ?_ | (simp -dsimp -implicitDefEqProofs (disch := (first | assumption | omega | (simp only [ll1, ll2, ll3, ll4, ll5, ll6, ll7, ll8]; omega))) only [go_sem, reduceCtorEq, Nat.reducePow, Int.reducePow, Nat.reduceDiv, Nat.reduceBEq, Nat.reduceEqDiff, Nat.reduceLT, Nat.reduceLeDiff, Nat.reduceAdd, Nat.reduceSub, Nat.reduceMul, Nat.reduceMod, Int.reduceToNat, Int.reduceNeg, Int.reduceAdd, Int.reduceSub, Int.reduceMul, Int.reduceDiv, Int.reduceMod, Int.reduceLT, Int.reduceLE, Int.reduceEq, ↓reduceIte, take5, drop5, hst]) | refine acalls_same (alive_c _) ?_ | refine ⟨_, alive_c _, ?_⟩ | refine ⟨_, _, alive_c _, ?_⟩ | refine acalls_same (hg _) ?_ | refine ⟨_, hg _, ?_⟩ | refine ⟨_, _, hg _, ?_⟩ | refine vcI (fun _ => ?_) (fun _ => ?_) | (refine vcA ?_ ?_; focus (repeat' (first | omega | assumption | refine vcA ?_ ?_); done)) | omega | refine imp_in (fun _ => ?_))
      exact done_same ⟨rfl, rfl⟩
    by_cases hs2 : 1000 < b.length
    · have hsf : (1000 < ((a.length : Nat) : Int)) = False := eq_false (by omega)
      have hst : (1000 < ((b.length : Nat) : Int)) = True := eq_true (by omega)
      refine acalls_vc L_ok mixed [] (rs := [.tmp 6]) (n := 121) Tryz.func9 rfl rfl rfl rfl (Nat.le_of_ble_eq_true rfl) (by kernel_rfl) ?_
      repeat' (first | refine unhold ?_ | (simp -dsimp -implicitDefEqProofs (disch := (first | assumption | omega | (simp only [ll1, ll2, ll3, ll4, ll5, ll6, ll7, ll8]; omega))) only [go_sem, reduceCtorEq, Nat.reducePow, Int.reducePow, Nat.reduceDiv, Nat.reduceBEq, Nat.reduceEqDiff, Nat.reduceLT, Nat.reduceLeDiff, Nat.reduceAdd, Nat.reduceSub, Nat.reduceMul, Nat.reduceMod, Int.reduceToNat, Int.reduceNeg, Int.reduceAdd, Int.reduceSub, Int.reduceMul, Int.reduceDiv, Int.reduceMod, Int.reduceLT, Int.reduceLE, Int.reduceEq, ↓reduceIte, take5, drop5, hst, hsf]) | refine acalls_same (alive_c _) ?_ | refine ⟨_, alive_c _, ?_⟩ | refine ⟨_, _, alive_c _, ?_⟩ | refine acalls_same (hg _) ?_ | refine ⟨_, hg _, ?_⟩ | refine ⟨_, _, hg _, ?_⟩ | refine vcI (fun _ => ?_) (fun _ => ?_) | (refine vcA ?_ ?_; focus (repeat' (first | omega | assumption | refine vcA ?_ ?_); done)) | omega | refine imp_in (fun _ => ?_))
      exact done_same ⟨rfl, rfl⟩
    have hsa : (1000 < ((a.length : Nat) : Int)) = False := eq_false (by omega)
    have hsb : (1000 < ((b.length : Nat) : Int)) = False := eq_false (by omega)
    have hz := size_with (v := v) (x := x) (s := a)
    unfold nameW at hz
    have cw := fun H => With_j v x a H (by omega) (by omega) (by omega)
    unfold parseAV at cw
    by_cases he : (withP v a x).2 = 0
    · obtain ⟨hk, hr, hx, ha, hp⟩ := with_ok he
      have hwr := right_put hr hk hx ha
      have hwk : (jput v a x).kind = 6 := by rw [jput]; split <;> exact hk
      have hg1 := put_get (x := x) (s := a) hr hk
      rw [he] at cw
      rw [hp] at hz cw
      have hg3 := cut_get (p := hasB [a]) (s := a) (by simp [hasB]) hwr hwk
      have hur := right_cut (p := hasB [a]) hwr
      have hz2 := size_cut (hasB [a]) (jput v a x)
      have hg2 := fun h : b ≠ a => put_get_ne (x := x) hr hk h
      generalize jput v a x = w at *
      have n1 := size_names w
      have n2 := size_items w
      have n3 := size_names v
      have n4 := size_items v
      have n5 := size_names (jcut (hasB [a]) w)
      have n6 := size_items (jcut (hasB [a]) w)
      have cG := fun H => Get_c w a H (by omega) (by omega)
      have cA := fun H => Alike_c x x H (by omega)
      have cR := fun H => Right_j w H (by omega)
      have co := fun H => Without_j (o := .full) w [a] H (by omega) (by simp)
      have cG3 := fun H => Get_c (jcut (hasB [a]) w) a H (by omega) (by omega)
      have cR2 := fun H => Right_j (jcut (hasB [a]) w) H (by omega)
      rw [getAV, hg1, Option.getD_some, Option.isSome_some] at cG
      rw [getAV, hg3, Option.isSome_none] at cG3
      rw [hwr] at cR
      rw [hur] at cR2
      generalize jcut (hasB [a]) w = u at *
      by_cases hab : a = b
      · subst hab
        refine acalls_vc L_ok mixed [] (rs := [.tmp 6]) (n := 121) Tryz.func9 rfl rfl rfl rfl (Nat.le_of_ble_eq_true rfl) (by kernel_rfl) ?_
        repeat' (first | refine unhold ?_ | (simp -dsimp -implicitDefEqProofs (disch := (first | assumption | omega | (simp only [ll1, ll2, ll3, ll4, ll5, ll6, ll7, ll8]; omega))) only [go_sem, reduceCtorEq, Nat.reducePow, Int.reducePow, Nat.reduceDiv, Nat.reduceBEq, Nat.reduceEqDiff, Nat.reduceLT, Nat.reduceLeDiff, Nat.reduceAdd, Nat.reduceSub, Nat.reduceMul, Nat.reduceMod, Int.reduceToNat, Int.reduceNeg, Int.reduceAdd, Int.reduceSub, Int.reduceMul, Int.reduceDiv, Int.reduceMod, Int.reduceLT, Int.reduceLE, Int.reduceEq, ↓reduceIte, take5, drop5, hsa]) | refine acalls_same (alive_c _) ?_ | refine ⟨_, alive_c _, ?_⟩ | refine ⟨_, _, alive_c _, ?_⟩ | refine acalls_same (hg _) ?_ | refine ⟨_, hg _, ?_⟩ | refine ⟨_, _, hg _, ?_⟩ | refine acalls_same (cw _) ?_ | refine ⟨_, cw _, ?_⟩ | refine ⟨_, _, cw _, ?_⟩ | refine acalls_same (cG _) ?_ | refine ⟨_, cG _, ?_⟩ | refine ⟨_, _, cG _, ?_⟩ | refine acalls_same (cA _) ?_ | refine ⟨_, cA _, ?_⟩ | refine ⟨_, _, cA _, ?_⟩ | refine acalls_same (cR _) ?_ | refine ⟨_, cR _, ?_⟩ | refine ⟨_, _, cR _, ?_⟩ | refine acalls_same (co _) ?_ | refine ⟨_, co _, ?_⟩ | refine ⟨_, _, co _, ?_⟩ | refine acalls_same (cG3 _) ?_ | refine ⟨_, cG3 _, ?_⟩ | refine ⟨_, _, cG3 _, ?_⟩ | refine acalls_same (cR2 _) ?_ | refine ⟨_, cR2 _, ?_⟩ | refine ⟨_, _, cR2 _, ?_⟩ | refine vcI (fun _ => ?_) (fun _ => ?_) | (refine vcA ?_ ?_; focus (repeat' (first | omega | assumption | refine vcA ?_ ?_); done)) | omega | refine imp_in (fun _ => ?_))
        exact done_lit ⟨rfl, rfl⟩
      · have e2 := hg2 (fun e => hab e.symm)
        have hz3 := size_get (v := v) (s := b)
        have cG4 := fun H => Get_c v b H (by omega) (by omega)
        have cG5 := fun H => Get_c w b H (by omega) (by omega)
        rw [getAV] at cG4 cG5
        rw [e2] at cG5
        have cB := fun H => Alike_c ((jget v b).getD zeroJ) ((jget v b).getD zeroJ) H (by omega)
        have habf := eq_false hab
        generalize (jget v b).getD zeroJ = y at *
        generalize (jget v b).isSome = g at *
        cases g with
        | true =>
          refine acalls_vc L_ok mixed [] (rs := [.tmp 6]) (n := 121) Tryz.func9 rfl rfl rfl rfl (Nat.le_of_ble_eq_true rfl) (by kernel_rfl) ?_
          repeat' (first | refine unhold ?_ | (simp -dsimp -implicitDefEqProofs (disch := (first | assumption | omega | (simp only [ll1, ll2, ll3, ll4, ll5, ll6, ll7, ll8]; omega))) only [go_sem, reduceCtorEq, Nat.reducePow, Int.reducePow, Nat.reduceDiv, Nat.reduceBEq, Nat.reduceEqDiff, Nat.reduceLT, Nat.reduceLeDiff, Nat.reduceAdd, Nat.reduceSub, Nat.reduceMul, Nat.reduceMod, Int.reduceToNat, Int.reduceNeg, Int.reduceAdd, Int.reduceSub, Int.reduceMul, Int.reduceDiv, Int.reduceMod, Int.reduceLT, Int.reduceLE, Int.reduceEq, ↓reduceIte, take5, drop5, hsa, hsb, habf]) | refine acalls_same (alive_c _) ?_ | refine ⟨_, alive_c _, ?_⟩ | refine ⟨_, _, alive_c _, ?_⟩ | refine acalls_same (hg _) ?_ | refine ⟨_, hg _, ?_⟩ | refine ⟨_, _, hg _, ?_⟩ | refine acalls_same (cw _) ?_ | refine ⟨_, cw _, ?_⟩ | refine ⟨_, _, cw _, ?_⟩ | refine acalls_same (cG _) ?_ | refine ⟨_, cG _, ?_⟩ | refine ⟨_, _, cG _, ?_⟩ | refine acalls_same (cA _) ?_ | refine ⟨_, cA _, ?_⟩ | refine ⟨_, _, cA _, ?_⟩ | refine acalls_same (cR _) ?_ | refine ⟨_, cR _, ?_⟩ | refine ⟨_, _, cR _, ?_⟩ | refine acalls_same (cG4 _) ?_ | refine ⟨_, cG4 _, ?_⟩ | refine ⟨_, _, cG4 _, ?_⟩ | refine acalls_same (cG5 _) ?_ | refine ⟨_, cG5 _, ?_⟩ | refine ⟨_, _, cG5 _, ?_⟩ | refine acalls_same (cB _) ?_ | refine ⟨_, cB _, ?_⟩ | refine ⟨_, _, cB _, ?_⟩ | refine acalls_same (co _) ?_ | refine ⟨_, co _, ?_⟩ | refine ⟨_, _, co _, ?_⟩ | refine acalls_same (cG3 _) ?_ | refine ⟨_, cG3 _, ?_⟩ | refine ⟨_, _, cG3 _, ?_⟩ | refine acalls_same (cR2 _) ?_ | refine ⟨_, cR2 _, ?_⟩ | refine ⟨_, _, cR2 _, ?_⟩ | refine vcI (fun _ => ?_) (fun _ => ?_) | (refine vcA ?_ ?_; focus (repeat' (first | omega | assumption | refine vcA ?_ ?_); done)) | omega | refine imp_in (fun _ => ?_))
          exact done_lit ⟨rfl, rfl⟩
        | false =>
          refine acalls_vc L_ok mixed [] (rs := [.tmp 6]) (n := 121) Tryz.func9 rfl rfl rfl rfl (Nat.le_of_ble_eq_true rfl) (by kernel_rfl) ?_
          repeat' (first | refine unhold ?_ | (simp -dsimp -implicitDefEqProofs (disch := (first | assumption | omega | (simp only [ll1, ll2, ll3, ll4, ll5, ll6, ll7, ll8]; omega))) only [go_sem, reduceCtorEq, Nat.reducePow, Int.reducePow, Nat.reduceDiv, Nat.reduceBEq, Nat.reduceEqDiff, Nat.reduceLT, Nat.reduceLeDiff, Nat.reduceAdd, Nat.reduceSub, Nat.reduceMul, Nat.reduceMod, Int.reduceToNat, Int.reduceNeg, Int.reduceAdd, Int.reduceSub, Int.reduceMul, Int.reduceDiv, Int.reduceMod, Int.reduceLT, Int.reduceLE, Int.reduceEq, ↓reduceIte, take5, drop5, hsa, hsb, habf]) | refine acalls_same (alive_c _) ?_ | refine ⟨_, alive_c _, ?_⟩ | refine ⟨_, _, alive_c _, ?_⟩ | refine acalls_same (hg _) ?_ | refine ⟨_, hg _, ?_⟩ | refine ⟨_, _, hg _, ?_⟩ | refine acalls_same (cw _) ?_ | refine ⟨_, cw _, ?_⟩ | refine ⟨_, _, cw _, ?_⟩ | refine acalls_same (cG _) ?_ | refine ⟨_, cG _, ?_⟩ | refine ⟨_, _, cG _, ?_⟩ | refine acalls_same (cA _) ?_ | refine ⟨_, cA _, ?_⟩ | refine ⟨_, _, cA _, ?_⟩ | refine acalls_same (cR _) ?_ | refine ⟨_, cR _, ?_⟩ | refine ⟨_, _, cR _, ?_⟩ | refine acalls_same (cG4 _) ?_ | refine ⟨_, cG4 _, ?_⟩ | refine ⟨_, _, cG4 _, ?_⟩ | refine acalls_same (cG5 _) ?_ | refine ⟨_, cG5 _, ?_⟩ | refine ⟨_, _, cG5 _, ?_⟩ | refine acalls_same (cB _) ?_ | refine ⟨_, cB _, ?_⟩ | refine ⟨_, _, cB _, ?_⟩ | refine acalls_same (co _) ?_ | refine ⟨_, co _, ?_⟩ | refine ⟨_, _, co _, ?_⟩ | refine acalls_same (cG3 _) ?_ | refine ⟨_, cG3 _, ?_⟩ | refine ⟨_, _, cG3 _, ?_⟩ | refine acalls_same (cR2 _) ?_ | refine ⟨_, cR2 _, ?_⟩ | refine ⟨_, _, cR2 _, ?_⟩ | refine vcI (fun _ => ?_) (fun _ => ?_) | (refine vcA ?_ ?_; focus (repeat' (first | omega | assumption | refine vcA ?_ ?_); done)) | omega | refine imp_in (fun _ => ?_))
          exact done_lit ⟨rfl, rfl⟩
    · rw [with_bad he] at cw
      have hef : ((withP v a x).2 = 0) = False := eq_false he
      have z1 : zeroJ.kind = 0 := rfl
      have z2 : zeroJ.items = [] := rfl
      refine acalls_vc L_ok mixed [] (rs := [.tmp 6]) (n := 121) Tryz.func9 rfl rfl rfl rfl (Nat.le_of_ble_eq_true rfl) (by kernel_rfl) ?_
      repeat' (first | refine unhold ?_ | (simp -dsimp -implicitDefEqProofs (disch := (first | assumption | omega | (simp only [ll1, ll2, ll3, ll4, ll5, ll6, ll7, ll8]; omega))) only [go_sem, reduceCtorEq, Nat.reducePow, Int.reducePow, Nat.reduceDiv, Nat.reduceBEq, Nat.reduceEqDiff, Nat.reduceLT, Nat.reduceLeDiff, Nat.reduceAdd, Nat.reduceSub, Nat.reduceMul, Nat.reduceMod, Int.reduceToNat, Int.reduceNeg, Int.reduceAdd, Int.reduceSub, Int.reduceMul, Int.reduceDiv, Int.reduceMod, Int.reduceLT, Int.reduceLE, Int.reduceEq, ↓reduceIte, take5, drop5, hsa, hsb, hef, z1, z2]) | refine acalls_same (alive_c _) ?_ | refine ⟨_, alive_c _, ?_⟩ | refine ⟨_, _, alive_c _, ?_⟩ | refine acalls_same (hg _) ?_ | refine ⟨_, hg _, ?_⟩ | refine ⟨_, _, hg _, ?_⟩ | refine acalls_same (cw _) ?_ | refine ⟨_, cw _, ?_⟩ | refine ⟨_, _, cw _, ?_⟩ | refine vcI (fun _ => ?_) (fun _ => ?_) | (refine vcA ?_ ?_; focus (repeat' (first | omega | assumption | refine vcA ?_ ?_); done)) | omega | refine imp_in (fun _ => ?_))
      exact done_lit ⟨rfl, rfl⟩
end Go.Proofs.YtplmbhjhihoneaaGreatDoor
end
