/- The laws of canon: what is printed; back; one text; quotes; lengths. -/
import Derived.Test.YtplmbhjhihoneaaGreatDoorWPo
section
set_option linter.unusedSimpArgs false
set_option linter.unusedVariables false
namespace Go.Proofs.YtplmbhjhihoneaaGreatDoor
open Go V
set_option maxRecDepth 10000
set_option maxHeartbeats 1000000
theorem CanonPrints_c (v : JV) (s : bytes) (H : List AObj) : ACalls Tryz.prog 15 [jAV v, .str s] H (fun x H' => x = .bool true ∧ H' = H) := by
  have hg := fun (H : List AObj) => great3_c (o := .full) [v] H (by simp)
  by_cases hgr : 9000 < greatK [v]
  · rw [decide_eq_true hgr] at hg
    refine acalls_vc L_ok mixed [1000009, 1000009021020] (rs := [.tmp 4]) (n := 68) Tryz.func15 rfl rfl rfl rfl (Nat.le_of_ble_eq_true rfl) (by kernel_rfl) ?_
    repeat' (first | refine unhold ?_ | (simp -dsimp -implicitDefEqProofs (disch := (first | assumption | omega | (simp only [ll1, ll2, ll3, ll4, ll5, ll6, ll7, ll8]; omega))) only [go_sem, take5, drop5]) | refine acalls_same (alive3_c _) ?_ | refine ⟨_, alive3_c _, ?_⟩ | refine ⟨_, _, alive3_c _, ?_⟩ | refine acalls_same (hg _) ?_ | refine ⟨_, hg _, ?_⟩ | refine ⟨_, _, hg _, ?_⟩ | refine vcI (fun _ => ?_) (fun _ => ?_) | (refine vcA ?_ ?_; focus (repeat' (first | omega | assumption | refine vcA ?_ ?_); done)) | omega | refine imp_in (fun _ => ?_))
    exact done_same ⟨rfl, rfl⟩
  · rw [decide_eq_false hgr] at hg
    have hs := greatK1 hgr
    by_cases hl : 3000 < s.length
    · have hc : (3000 < ((s.length : Nat) : Int)) = True := eq_true (by omega)
      refine acalls_vc L_ok mixed [1000009, 1000009021020] (rs := [.tmp 4]) (n := 68) Tryz.func15 rfl rfl rfl rfl (Nat.le_of_ble_eq_true rfl) (by kernel_rfl) ?_
      repeat' (first | refine unhold ?_ | (simp -dsimp -implicitDefEqProofs (disch := (first | assumption | omega | (simp only [ll1, ll2, ll3, ll4, ll5, ll6, ll7, ll8]; omega))) only [go_sem, hc, take5, drop5]) | refine acalls_same (alive3_c _) ?_ | refine ⟨_, alive3_c _, ?_⟩ | refine ⟨_, _, alive3_c _, ?_⟩ | refine acalls_same (hg _) ?_ | refine ⟨_, hg _, ?_⟩ | refine ⟨_, _, hg _, ?_⟩ | refine vcI (fun _ => ?_) (fun _ => ?_) | (refine vcA ?_ ?_; focus (repeat' (first | omega | assumption | refine vcA ?_ ?_); done)) | omega | refine imp_in (fun _ => ?_))
      exact done_same ⟨rfl, rfl⟩
    · have hc : (3000 < ((s.length : Nat) : Int)) = False := eq_false (by omega)
      have c1 := fun H => Print_c v H (by omega)
      have c2 := fun H => Print_r v H (by omega)
      have c3 := fun H => Quote_c s H (by omega)
      have c4 := fun H => Quote_r s H (by omega)
      have c5 := fun H => Length_c v H (by omega)
      have c6 := fun H => Length_r v H (by omega)
      unfold printAV at c1 c2 c3 c4
      generalize printE v = p at *
      generalize quoteE s = q at *
      generalize lengthE v = n at *
      refine acalls_vc L_ok mixed [1000009, 1000009021020] (rs := [.tmp 4]) (n := 68) Tryz.func15 rfl rfl rfl rfl (Nat.le_of_ble_eq_true rfl) (by kernel_rfl) ?_
      repeat' (first | refine unhold ?_ | (simp -dsimp -implicitDefEqProofs (disch := (first | assumption | omega | (simp only [ll1, ll2, ll3, ll4, ll5, ll6, ll7, ll8]; omega))) only [go_sem, hc, take5, drop5]) | refine acalls_same (alive3_c _) ?_ | refine ⟨_, alive3_c _, ?_⟩ | refine ⟨_, _, alive3_c _, ?_⟩ | refine acalls_same (hg _) ?_ | refine ⟨_, hg _, ?_⟩ | refine ⟨_, _, hg _, ?_⟩ | refine acalls_same (c1 _) ?_ | refine ⟨_, c1 _, ?_⟩ | refine ⟨_, _, c1 _, ?_⟩ | refine acalls_same (c2 _) ?_ | refine ⟨_, c2 _, ?_⟩ | refine ⟨_, _, c2 _, ?_⟩ | refine acalls_same (c3 _) ?_ | refine ⟨_, c3 _, ?_⟩ | refine ⟨_, _, c3 _, ?_⟩ | refine acalls_same (c4 _) ?_ | refine ⟨_, c4 _, ?_⟩ | refine ⟨_, _, c4 _, ?_⟩ | refine acalls_same (c5 _) ?_ | refine ⟨_, c5 _, ?_⟩ | refine ⟨_, _, c5 _, ?_⟩ | refine acalls_same (c6 _) ?_ | refine ⟨_, c6 _, ?_⟩ | refine ⟨_, _, c6 _, ?_⟩ | refine vcI (fun _ => ?_) (fun _ => ?_) | (refine vcA ?_ ?_; focus (repeat' (first | omega | assumption | refine vcA ?_ ?_); done)) | omega | refine imp_in (fun _ => ?_))
      exact done_same ⟨rfl, rfl⟩
end Go.Proofs.YtplmbhjhihoneaaGreatDoor
end
