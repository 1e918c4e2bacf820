/- The laws of canon: what is printed; back; one text; quotes; lengths. -/
import Derived.Test.YtplmbhjhihoneaaGreatDoorWPo
section
set_option linter.unusedSimpArgs false
set_option linter.unusedVariables false
namespace Go.Proofs.YtplmbhjhihoneaaGreatDoor
open Go V
set_option maxRecDepth 10000
set_option maxHeartbeats 1000000
theorem print_inj {v w : JV} (hv : rightJ 12 v = true) (hw : rightJ 12 w = true) (lv : (printP v).length ≤ 8192) (lw : (printP w).length ≤ 8192) : (printP v = printP w) = (v = w) := propext ⟨fun e => by
  have h1 := parse_print hv lv
  have h2 := parse_print hw lw
  rw [e, h2] at h1
  exact (Prod.mk.inj h1).1.symm, fun e => by rw [e]⟩
open Classical in
theorem CanonOne_c (v w : JV) (H : List AObj) : ACalls Tryz.prog 13 [jAV v, jAV w] H (fun x H' => x = .bool true ∧ H' = H) := by
  have hg := fun (H : List AObj) => great3_c (o := .full) [v, w] H (by simp)
  by_cases hgr : 9000 < greatK [v, w]
  · rw [decide_eq_true hgr] at hg
    refine acalls_vc L_ok mixed [] (rs := [.tmp 4]) (n := 44) Tryz.func13 rfl rfl rfl rfl (Nat.le_of_ble_eq_true rfl) (by kernel_rfl) ?_
    repeat' (first | refine unhold ?_ | (simp -dsimp -implicitDefEqProofs (disch := (first | assumption | omega | (simp only [ll1, ll2, ll3, ll4, ll5, ll6, ll7, ll8]; omega))) only [go_sem, take5, drop5]) | refine acalls_same (alive3_c _) ?_ | refine ⟨_, alive3_c _, ?_⟩ | refine ⟨_, _, alive3_c _, ?_⟩ | refine acalls_same (hg _) ?_ | refine ⟨_, hg _, ?_⟩ | refine ⟨_, _, hg _, ?_⟩ | refine vcI (fun _ => ?_) (fun _ => ?_) | (refine vcA ?_ ?_; focus (repeat' (first | omega | assumption | refine vcA ?_ ?_); done)) | omega | refine imp_in (fun _ => ?_))
    exact done_same ⟨rfl, rfl⟩
  · rw [decide_eq_false hgr] at hg
    obtain ⟨hs, hs2⟩ := greatK2 hgr
    have c1 := fun H => Print_c v H (by omega)
    have c2 := fun H => Print_c w H (by omega)
    have c3 := fun H => Alike_c v w H (by omega)
    unfold printAV at c1 c2
    rcases printE_cases v with ⟨h, _⟩ | ⟨h, _⟩ | ⟨h, hr, hl⟩
    · rw [h] at c1
      dsimp only at c1
      generalize printE w = q at *
      refine acalls_vc L_ok mixed [] (rs := [.tmp 4]) (n := 44) Tryz.func13 rfl rfl rfl rfl (Nat.le_of_ble_eq_true rfl) (by kernel_rfl) ?_
      repeat' (first | refine unhold ?_ | (simp -dsimp -implicitDefEqProofs (disch := (first | assumption | omega | (simp only [ll1, ll2, ll3, ll4, ll5, ll6, ll7, ll8]; omega))) only [go_sem, take5, drop5]) | refine acalls_same (alive3_c _) ?_ | refine ⟨_, alive3_c _, ?_⟩ | refine ⟨_, _, alive3_c _, ?_⟩ | refine acalls_same (hg _) ?_ | refine ⟨_, hg _, ?_⟩ | refine ⟨_, _, hg _, ?_⟩ | refine acalls_same (c1 _) ?_ | refine ⟨_, c1 _, ?_⟩ | refine ⟨_, _, c1 _, ?_⟩ | refine acalls_same (c2 _) ?_ | refine ⟨_, c2 _, ?_⟩ | refine ⟨_, _, c2 _, ?_⟩ | refine acalls_same (c3 _) ?_ | refine ⟨_, c3 _, ?_⟩ | refine ⟨_, _, c3 _, ?_⟩ | refine vcI (fun _ => ?_) (fun _ => ?_) | (refine vcA ?_ ?_; focus (repeat' (first | omega | assumption | refine vcA ?_ ?_); done)) | omega | refine imp_in (fun _ => ?_))
      all_goals exact done_same ⟨by simp, rfl⟩
    · rw [h] at c1
      dsimp only at c1
      generalize printE w = q at *
      refine acalls_vc L_ok mixed [] (rs := [.tmp 4]) (n := 44) Tryz.func13 rfl rfl rfl rfl (Nat.le_of_ble_eq_true rfl) (by kernel_rfl) ?_
      repeat' (first | refine unhold ?_ | (simp -dsimp -implicitDefEqProofs (disch := (first | assumption | omega | (simp only [ll1, ll2, ll3, ll4, ll5, ll6, ll7, ll8]; omega))) only [go_sem, take5, drop5]) | refine acalls_same (alive3_c _) ?_ | refine ⟨_, alive3_c _, ?_⟩ | refine ⟨_, _, alive3_c _, ?_⟩ | refine acalls_same (hg _) ?_ | refine ⟨_, hg _, ?_⟩ | refine ⟨_, _, hg _, ?_⟩ | refine acalls_same (c1 _) ?_ | refine ⟨_, c1 _, ?_⟩ | refine ⟨_, _, c1 _, ?_⟩ | refine acalls_same (c2 _) ?_ | refine ⟨_, c2 _, ?_⟩ | refine ⟨_, _, c2 _, ?_⟩ | refine acalls_same (c3 _) ?_ | refine ⟨_, c3 _, ?_⟩ | refine ⟨_, _, c3 _, ?_⟩ | refine vcI (fun _ => ?_) (fun _ => ?_) | (refine vcA ?_ ?_; focus (repeat' (first | omega | assumption | refine vcA ?_ ?_); done)) | omega | refine imp_in (fun _ => ?_))
      all_goals exact done_same ⟨by simp, rfl⟩
    · rw [h] at c1
      dsimp only at c1
      rcases printE_cases w with ⟨k, _⟩ | ⟨k, _⟩ | ⟨k, kr, kl⟩
      · rw [k] at c2
        dsimp only at c2
        generalize printP v = y at *
        refine acalls_vc L_ok mixed [] (rs := [.tmp 4]) (n := 44) Tryz.func13 rfl rfl rfl rfl (Nat.le_of_ble_eq_true rfl) (by kernel_rfl) ?_
        repeat' (first | refine unhold ?_ | (simp -dsimp -implicitDefEqProofs (disch := (first | assumption | omega | (simp only [ll1, ll2, ll3, ll4, ll5, ll6, ll7, ll8]; omega))) only [go_sem, take5, drop5]) | refine acalls_same (alive3_c _) ?_ | refine ⟨_, alive3_c _, ?_⟩ | refine ⟨_, _, alive3_c _, ?_⟩ | refine acalls_same (hg _) ?_ | refine ⟨_, hg _, ?_⟩ | refine ⟨_, _, hg _, ?_⟩ | refine acalls_same (c1 _) ?_ | refine ⟨_, c1 _, ?_⟩ | refine ⟨_, _, c1 _, ?_⟩ | refine acalls_same (c2 _) ?_ | refine ⟨_, c2 _, ?_⟩ | refine ⟨_, _, c2 _, ?_⟩ | refine acalls_same (c3 _) ?_ | refine ⟨_, c3 _, ?_⟩ | refine ⟨_, _, c3 _, ?_⟩ | refine vcI (fun _ => ?_) (fun _ => ?_) | (refine vcA ?_ ?_; focus (repeat' (first | omega | assumption | refine vcA ?_ ?_); done)) | omega | refine imp_in (fun _ => ?_))
        all_goals exact done_same ⟨by simp, rfl⟩
      · rw [k] at c2
        dsimp only at c2
        generalize printP v = y at *
        refine acalls_vc L_ok mixed [] (rs := [.tmp 4]) (n := 44) Tryz.func13 rfl rfl rfl rfl (Nat.le_of_ble_eq_true rfl) (by kernel_rfl) ?_
        repeat' (first | refine unhold ?_ | (simp -dsimp -implicitDefEqProofs (disch := (first | assumption | omega | (simp only [ll1, ll2, ll3, ll4, ll5, ll6, ll7, ll8]; omega))) only [go_sem, take5, drop5]) | refine acalls_same (alive3_c _) ?_ | refine ⟨_, alive3_c _, ?_⟩ | refine ⟨_, _, alive3_c _, ?_⟩ | refine acalls_same (hg _) ?_ | refine ⟨_, hg _, ?_⟩ | refine ⟨_, _, hg _, ?_⟩ | refine acalls_same (c1 _) ?_ | refine ⟨_, c1 _, ?_⟩ | refine ⟨_, _, c1 _, ?_⟩ | refine acalls_same (c2 _) ?_ | refine ⟨_, c2 _, ?_⟩ | refine ⟨_, _, c2 _, ?_⟩ | refine acalls_same (c3 _) ?_ | refine ⟨_, c3 _, ?_⟩ | refine ⟨_, _, c3 _, ?_⟩ | refine vcI (fun _ => ?_) (fun _ => ?_) | (refine vcA ?_ ?_; focus (repeat' (first | omega | assumption | refine vcA ?_ ?_); done)) | omega | refine imp_in (fun _ => ?_))
        all_goals exact done_same ⟨by simp, rfl⟩
      · rw [k] at c2
        dsimp only at c2
        have hi := print_inj hr kr hl kl
        have hd : decide (printP v = printP w) = decide (v = w) := by
          rw [decide_eq_decide, hi]
        generalize printP v = y at *
        generalize printP w = z at *
        clear hi
        refine acalls_vc L_ok mixed [] (rs := [.tmp 4]) (n := 44) Tryz.func13 rfl rfl rfl rfl (Nat.le_of_ble_eq_true rfl) (by kernel_rfl) ?_
        repeat' (first | refine unhold ?_ | (simp -dsimp -implicitDefEqProofs (disch := (first | assumption | omega | (simp only [ll1, ll2, ll3, ll4, ll5, ll6, ll7, ll8]; omega))) only [go_sem, take5, drop5]) | refine acalls_same (alive3_c _) ?_ | refine ⟨_, alive3_c _, ?_⟩ | refine ⟨_, _, alive3_c _, ?_⟩ | refine acalls_same (hg _) ?_ | refine ⟨_, hg _, ?_⟩ | refine ⟨_, _, hg _, ?_⟩ | refine acalls_same (c1 _) ?_ | refine ⟨_, c1 _, ?_⟩ | refine ⟨_, _, c1 _, ?_⟩ | refine acalls_same (c2 _) ?_ | refine ⟨_, c2 _, ?_⟩ | refine ⟨_, _, c2 _, ?_⟩ | refine acalls_same (c3 _) ?_ | refine ⟨_, c3 _, ?_⟩ | refine ⟨_, _, c3 _, ?_⟩ | refine vcI (fun _ => ?_) (fun _ => ?_) | (refine vcA ?_ ?_; focus (repeat' (first | omega | assumption | refine vcA ?_ ?_); done)) | omega | refine imp_in (fun _ => ?_))
        exact done_same ⟨bool_eq (decide_eq_true (by rw [hd])), rfl⟩
end Go.Proofs.YtplmbhjhihoneaaGreatDoor
end
