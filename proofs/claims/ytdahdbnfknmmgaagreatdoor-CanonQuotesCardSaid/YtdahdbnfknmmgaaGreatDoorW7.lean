/- The laws of canon: what is printed; back; one text; quotes; lengths. -/
import Derived.Test.YtdahdbnfknmmgaaGreatDoorW6
section
set_option linter.unusedSimpArgs false
set_option linter.unusedVariables false
namespace Go.Proofs.YtdahdbnfknmmgaaGreatDoor
open Go V
set_option maxRecDepth 10000
set_option maxHeartbeats 1000000
theorem Parse_long_c (s : bytes) (H : List AObj) (hl : 8192 < s.length) : ACalls Tryz.prog 9 [.str s] H (fun x H' => x = parseAV (zeroJ, 3) ∧ H' = H) := by
  have hc : (8192 < ((s.length : Nat) : Int)) = True := eq_true (by omega)
  refine acalls_vc L_ok mixed [3, 1000011, 1000011004005] (rs := [.cell 2 29, .tmp 3]) (n := 48) Tryz.func9 rfl rfl rfl rfl (Nat.le_of_ble_eq_true rfl) (by kernel_rfl) ?_
  repeat' (first | refine unhold ?_ | (simp -dsimp -implicitDefEqProofs (disch := (first | assumption | omega | (simp only [ll1, ll2, ll3, ll4, ll5, ll6, ll7, ll8]; omega))) only [go_sem, hc]) | refine vcI (fun _ => ?_) (fun _ => ?_) | (refine vcA ?_ ?_; focus (repeat' (first | omega | assumption | refine vcA ?_ ?_); done)) | omega | refine imp_in (fun _ => ?_))
  exact done_weak (le_pair le_zero) (done_cut (parseAV (zeroJ, 3)) (Le.refl _) low_parse ⟨rfl, rfl⟩)
theorem CanonQuotes_c (s : bytes) (H : List AObj) : ACalls Tryz.prog 3 [.str s] H (fun x H' => x = .bool true ∧ H' = H) := by
  by_cases hl : 3000 < s.length
  · have hc : (3000 < ((s.length : Nat) : Int)) = True := eq_true (by omega)
    refine acalls_vc L_ok mixed [] (rs := [.tmp 2]) (n := 48) Tryz.func3 rfl rfl rfl rfl (Nat.le_of_ble_eq_true rfl) (by kernel_rfl) ?_
    repeat' (first | refine unhold ?_ | (simp -dsimp -implicitDefEqProofs (disch := (first | assumption | omega | (simp only [ll1, ll2, ll3, ll4, ll5, ll6, ll7, ll8]; omega))) only [go_sem, hc]) | refine acalls_same (alive3_c _) ?_ | refine ⟨_, alive3_c _, ?_⟩ | refine ⟨_, _, alive3_c _, ?_⟩ | refine vcI (fun _ => ?_) (fun _ => ?_) | (refine vcA ?_ ?_; focus (repeat' (first | omega | assumption | refine vcA ?_ ?_); done)) | omega | refine imp_in (fun _ => ?_))
    exact done_same ⟨rfl, rfl⟩
  · have hc : (3000 < ((s.length : Nat) : Int)) = False := eq_false (by omega)
    have c1 := fun H => Quote_c s H (by omega)
    unfold printAV at c1
    cases hv : Lib.validD s with
    | false =>
      have hq : quoteE s = ([], 1) := by rw [quoteE, hv]; rfl
      rw [hq] at c1
      dsimp only at c1
      refine acalls_vc L_ok mixed [] (rs := [.tmp 2]) (n := 48) Tryz.func3 rfl rfl rfl rfl (Nat.le_of_ble_eq_true rfl) (by kernel_rfl) ?_
      repeat' (first | refine unhold ?_ | (simp -dsimp -implicitDefEqProofs (disch := (first | assumption | omega | (simp only [ll1, ll2, ll3, ll4, ll5, ll6, ll7, ll8]; omega))) only [go_sem, hc]) | refine acalls_same (alive3_c _) ?_ | refine ⟨_, alive3_c _, ?_⟩ | refine ⟨_, _, alive3_c _, ?_⟩ | refine acalls_same (c1 _) ?_ | refine ⟨_, c1 _, ?_⟩ | refine ⟨_, _, c1 _, ?_⟩ | refine vcI (fun _ => ?_) (fun _ => ?_) | (refine vcA ?_ ?_; focus (repeat' (first | omega | assumption | refine vcA ?_ ?_); done)) | omega | refine imp_in (fun _ => ?_))
      exact done_same ⟨rfl, rfl⟩
    | true =>
      have hq : quoteE s = (quoteP s, 0) := by rw [quoteE, hv, if_pos rfl]
      rw [hq] at c1
      dsimp only at c1
      have hpt : printP (.mk 4 0 s [] []) = quoteP s := by rw [printP]; rfl
      have hrt : rightJ 12 (.mk 4 0 s [] []) = true := right_one (by
        show (decide (([] : List bytes) = []) && decide (([] : List JV) = []) && decide ((0 : Int) = 0) && Lib.validD s) = true
        rw [hv]
        simp)
      by_cases hql : 8192 < (quoteP s).length
      · have c2 := fun H => Parse_long_c (quoteP s) H hql
        have hcl : (8192 < (((quoteP s).length : Nat) : Int)) = True := eq_true (by omega)
        unfold parseAV at c2
        dsimp only at c2
        generalize quoteP s = y at *
        refine acalls_vc L_ok mixed [] (rs := [.tmp 2]) (n := 48) Tryz.func3 rfl rfl rfl rfl (Nat.le_of_ble_eq_true rfl) (by kernel_rfl) ?_
        repeat' (first | refine unhold ?_ | (simp -dsimp -implicitDefEqProofs (disch := (first | assumption | omega | (simp only [ll1, ll2, ll3, ll4, ll5, ll6, ll7, ll8]; omega))) only [go_sem, hc, hcl]) | refine acalls_same (alive3_c _) ?_ | refine ⟨_, alive3_c _, ?_⟩ | refine ⟨_, _, alive3_c _, ?_⟩ | refine acalls_same (c1 _) ?_ | refine ⟨_, c1 _, ?_⟩ | refine ⟨_, _, c1 _, ?_⟩ | refine acalls_same (c2 _) ?_ | refine ⟨_, c2 _, ?_⟩ | refine ⟨_, _, c2 _, ?_⟩ | refine vcI (fun _ => ?_) (fun _ => ?_) | (refine vcA ?_ ?_; focus (repeat' (first | omega | assumption | refine vcA ?_ ?_); done)) | omega | refine imp_in (fun _ => ?_))
        exact done_lit ⟨rfl, rfl⟩
      · have hcl : (8192 < (((quoteP s).length : Nat) : Int)) = False := eq_false (by omega)
        have c2 := fun H => Parse_c (quoteP s) H (by omega)
        have c3 := fun H => Canonical_c (quoteP s) H (by omega)
        have hpp := parse_print hrt (by rw [hpt]; omega)
        have hE : printE (.mk 4 0 s [] []) = (printP (.mk 4 0 s [] []), 0) := by rw [printE, hrt, if_pos rfl, hpt, if_neg hql]
        have hcy := canon_yes hE hrt (by rw [hpt]; omega)
        rw [hpt] at hpp hcy
        rw [hpp] at c2
        rw [hcy] at c3
        unfold parseAV at c2
        dsimp only at c2
        generalize quoteP s = y at *
        clear hpt hE hcy hpp
        have hk4 : ((JV.mk 4 0 s [] []).kind = 4) = True := eq_true rfl
        have ht4 : ((JV.mk 4 0 s [] []).text = s) = True := eq_true rfl
        refine acalls_vc L_ok mixed [] (rs := [.tmp 2]) (n := 48) Tryz.func3 rfl rfl rfl rfl (Nat.le_of_ble_eq_true rfl) (by kernel_rfl) ?_
        repeat' (first | refine unhold ?_ | (simp -dsimp -implicitDefEqProofs (disch := (first | assumption | omega | (simp only [ll1, ll2, ll3, ll4, ll5, ll6, ll7, ll8]; omega))) only [go_sem, hc, hcl, hk4, ht4]) | refine acalls_same (alive3_c _) ?_ | refine ⟨_, alive3_c _, ?_⟩ | refine ⟨_, _, alive3_c _, ?_⟩ | refine acalls_same (c1 _) ?_ | refine ⟨_, c1 _, ?_⟩ | refine ⟨_, _, c1 _, ?_⟩ | refine acalls_same (c2 _) ?_ | refine ⟨_, c2 _, ?_⟩ | refine ⟨_, _, c2 _, ?_⟩ | refine acalls_same (c3 _) ?_ | refine ⟨_, c3 _, ?_⟩ | refine ⟨_, _, c3 _, ?_⟩ | refine vcI (fun _ => ?_) (fun _ => ?_) | (refine vcA ?_ ?_; focus (repeat' (first | omega | assumption | refine vcA ?_ ?_); done)) | omega | refine imp_in (fun _ => ?_))
        exact done_lit ⟨rfl, rfl⟩
end Go.Proofs.YtdahdbnfknmmgaaGreatDoor
end
