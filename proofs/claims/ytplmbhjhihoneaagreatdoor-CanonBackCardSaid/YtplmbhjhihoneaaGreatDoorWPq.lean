/- The laws of canon: what is printed; back; one text; quotes; lengths. -/
import Derived.Test.YtplmbhjhihoneaaGreatDoorWPo
section
set_option linter.unusedSimpArgs false
set_option linter.unusedVariables false
namespace Go.Proofs.YtplmbhjhihoneaaGreatDoor
open Go V
set_option maxRecDepth 10000
set_option maxHeartbeats 1000000
theorem canon_no {t : bytes} (h : (parseP t).2 ≠ 0) : canonE t = false := by unfold canonE; rw [decide_eq_false h]; rfl
theorem canon_long {t : bytes} (h : (printE (parseP t).1).2 ≠ 0) : canonE t = false := by unfold canonE; rw [decide_eq_false h]; simp
theorem canon_eq {t : bytes} (h : (parseP t).2 = 0) (k : (printE (parseP t).1).2 = 0) : canonE t = decide ((printE (parseP t).1).1 = t) := by unfold canonE; rw [decide_eq_true h, decide_eq_true k]; simp
open Classical in
theorem CanonBack_c (v : JV) (t : bytes) (H : List AObj) : ACalls Tryz.prog 12 [jAV v, .str t] H (fun x H' => x = .bool true ∧ H' = H) := by
  have hg := fun (H : List AObj) => great3_c (o := .full) [v] H (by simp)
  by_cases hgr : 9000 < greatK [v]
  · rw [decide_eq_true hgr] at hg
    refine acalls_vc L_ok mixed [] (rs := [.tmp 4]) (n := 78) Tryz.func12 rfl rfl rfl rfl (Nat.le_of_ble_eq_true rfl) (by kernel_rfl) ?_
    repeat' (first | refine unhold ?_ | (simp -dsimp -implicitDefEqProofs (disch := (first | assumption | omega | (simp only [ll1, ll2, ll3, ll4, ll5, ll6, ll7, ll8]; omega))) only [go_sem, take5, drop5]) | refine acalls_same (alive3_c _) ?_ | refine ⟨_, alive3_c _, ?_⟩ | refine ⟨_, _, alive3_c _, ?_⟩ | refine acalls_same (hg _) ?_ | refine ⟨_, hg _, ?_⟩ | refine ⟨_, _, hg _, ?_⟩ | refine vcI (fun _ => ?_) (fun _ => ?_) | (refine vcA ?_ ?_; focus (repeat' (first | omega | assumption | refine vcA ?_ ?_); done)) | omega | refine imp_in (fun _ => ?_))
    exact done_same ⟨rfl, rfl⟩
  · rw [decide_eq_false hgr] at hg
    have hs := greatK1 hgr
    by_cases hl : 9000 < t.length
    · have hc : (9000 < ((t.length : Nat) : Int)) = True := eq_true (by omega)
      refine acalls_vc L_ok mixed [] (rs := [.tmp 4]) (n := 78) Tryz.func12 rfl rfl rfl rfl (Nat.le_of_ble_eq_true rfl) (by kernel_rfl) ?_
      repeat' (first | refine unhold ?_ | (simp -dsimp -implicitDefEqProofs (disch := (first | assumption | omega | (simp only [ll1, ll2, ll3, ll4, ll5, ll6, ll7, ll8]; omega))) only [go_sem, hc, take5, drop5]) | refine acalls_same (alive3_c _) ?_ | refine ⟨_, alive3_c _, ?_⟩ | refine ⟨_, _, alive3_c _, ?_⟩ | refine acalls_same (hg _) ?_ | refine ⟨_, hg _, ?_⟩ | refine ⟨_, _, hg _, ?_⟩ | refine vcI (fun _ => ?_) (fun _ => ?_) | (refine vcA ?_ ?_; focus (repeat' (first | omega | assumption | refine vcA ?_ ?_); done)) | omega | refine imp_in (fun _ => ?_))
      exact done_same ⟨rfl, rfl⟩
    · have hc : (9000 < ((t.length : Nat) : Int)) = False := eq_false (by omega)
      have c1 := fun H => Print_c v H (by omega)
      have c2 := fun H => Parse_c t H (by omega)
      have c3 := fun H => Canonical_c t H (by omega)
      obtain ⟨g1, g2⟩ := parse_good t
      have c4 := fun H => Print_c (parseP t).1 H g1
      have e1 := @canon_no t
      have e2 := @canon_long t
      have e3 := @canon_eq t
      have e4 := printE_cases (parseP t).1
      unfold printAV at c1 c4
      unfold parseAV at c2
      -- the first half's calls
      have hA : printE v = ([], 1) ∨ printE v = ([], 3) ∨ (∃ y : bytes, printE v = (y, 0) ∧ y.length ≤ 8192 ∧ parseP y = (v, 0) ∧ canonE y = true) := by
        rcases printE_cases v with ⟨h, _⟩ | ⟨h, _⟩ | ⟨h, hr, hl⟩
        · exact .inl h
        · exact .inr (.inl h)
        · exact .inr (.inr ⟨_, h, hl, parse_print hr hl, canon_yes h hr hl⟩)
      -- the second half's
      have hB : ((parseP t).2 ≠ 0 ∧ canonE t = false) ∨ ((parseP t).2 = 0 ∧ ((printE (parseP t).1 = ([], 3) ∧ canonE t = false) ∨ ∃ y : bytes, printE (parseP t).1 = (y, 0) ∧ canonE t = decide (y = t))) := by
        by_cases h : (parseP t).2 = 0
        · right
          refine ⟨h, ?_⟩
          rcases e4 with ⟨h1, h2⟩ | ⟨h1, _⟩ | ⟨h1, _⟩
          · rw [g2 h] at h2; cases h2
          · exact .inl ⟨h1, e2 (by rw [h1]; decide)⟩
          · refine .inr ⟨_, h1, ?_⟩
            rw [e3 h (by rw [h1]), h1]
        · exact .inl ⟨h, e1 h⟩
      clear e1 e2 e3 e4 g2
      generalize printE (parseP t).1 = q at *
      generalize parseP t = p at *
      generalize canonE t = ct at *
      have hct : ∀ y : bytes, (decide (decide (y = t) = decide (y = t))) = true := fun y => by simp
      rcases hA with h | h | ⟨y, h, hyl, hyp, hyc⟩
      · rw [h] at c1
        dsimp only at c1
        rcases hB with ⟨h1, rfl⟩ | ⟨h1, ⟨rfl, rfl⟩ | ⟨z, rfl, rfl⟩⟩
        · have hc1 : (p.2 = 0) = False := eq_false h1
          refine acalls_vc L_ok mixed [] (rs := [.tmp 4]) (n := 78) Tryz.func12 rfl rfl rfl rfl (Nat.le_of_ble_eq_true rfl) (by kernel_rfl) ?_
          repeat' (first | refine unhold ?_ | (simp -dsimp -implicitDefEqProofs (disch := (first | assumption | omega | (simp only [ll1, ll2, ll3, ll4, ll5, ll6, ll7, ll8]; omega))) only [go_sem, hc, hc1, take5, drop5]) | refine acalls_same (alive3_c _) ?_ | refine ⟨_, alive3_c _, ?_⟩ | refine ⟨_, _, alive3_c _, ?_⟩ | refine acalls_same (hg _) ?_ | refine ⟨_, hg _, ?_⟩ | refine ⟨_, _, hg _, ?_⟩ | refine acalls_same (c1 _) ?_ | refine ⟨_, c1 _, ?_⟩ | refine ⟨_, _, c1 _, ?_⟩ | refine acalls_same (c2 _) ?_ | refine ⟨_, c2 _, ?_⟩ | refine ⟨_, _, c2 _, ?_⟩ | refine acalls_same (c3 _) ?_ | refine ⟨_, c3 _, ?_⟩ | refine ⟨_, _, c3 _, ?_⟩ | refine acalls_same (c4 _) ?_ | refine ⟨_, c4 _, ?_⟩ | refine ⟨_, _, c4 _, ?_⟩ | refine vcI (fun _ => ?_) (fun _ => ?_) | (refine vcA ?_ ?_; focus (repeat' (first | omega | assumption | refine vcA ?_ ?_); done)) | omega | refine imp_in (fun _ => ?_))
          all_goals exact done_lit ⟨by simp, rfl⟩
        · dsimp only at c4
          refine acalls_vc L_ok mixed [] (rs := [.tmp 4]) (n := 78) Tryz.func12 rfl rfl rfl rfl (Nat.le_of_ble_eq_true rfl) (by kernel_rfl) ?_
          repeat' (first | refine unhold ?_ | (simp -dsimp -implicitDefEqProofs (disch := (first | assumption | omega | (simp only [ll1, ll2, ll3, ll4, ll5, ll6, ll7, ll8]; omega))) only [go_sem, hc, h1, take5, drop5]) | refine acalls_same (alive3_c _) ?_ | refine ⟨_, alive3_c _, ?_⟩ | refine ⟨_, _, alive3_c _, ?_⟩ | refine acalls_same (hg _) ?_ | refine ⟨_, hg _, ?_⟩ | refine ⟨_, _, hg _, ?_⟩ | refine acalls_same (c1 _) ?_ | refine ⟨_, c1 _, ?_⟩ | refine ⟨_, _, c1 _, ?_⟩ | refine acalls_same (c2 _) ?_ | refine ⟨_, c2 _, ?_⟩ | refine ⟨_, _, c2 _, ?_⟩ | refine acalls_same (c3 _) ?_ | refine ⟨_, c3 _, ?_⟩ | refine ⟨_, _, c3 _, ?_⟩ | refine acalls_same (c4 _) ?_ | refine ⟨_, c4 _, ?_⟩ | refine ⟨_, _, c4 _, ?_⟩ | refine vcI (fun _ => ?_) (fun _ => ?_) | (refine vcA ?_ ?_; focus (repeat' (first | omega | assumption | refine vcA ?_ ?_); done)) | omega | refine imp_in (fun _ => ?_))
          all_goals exact done_lit ⟨by simp, rfl⟩
        · dsimp only at c4
          refine acalls_vc L_ok mixed [] (rs := [.tmp 4]) (n := 78) Tryz.func12 rfl rfl rfl rfl (Nat.le_of_ble_eq_true rfl) (by kernel_rfl) ?_
          repeat' (first | refine unhold ?_ | (simp -dsimp -implicitDefEqProofs (disch := (first | assumption | omega | (simp only [ll1, ll2, ll3, ll4, ll5, ll6, ll7, ll8]; omega))) only [go_sem, hc, h1, take5, drop5]) | refine acalls_same (alive3_c _) ?_ | refine ⟨_, alive3_c _, ?_⟩ | refine ⟨_, _, alive3_c _, ?_⟩ | refine acalls_same (hg _) ?_ | refine ⟨_, hg _, ?_⟩ | refine ⟨_, _, hg _, ?_⟩ | refine acalls_same (c1 _) ?_ | refine ⟨_, c1 _, ?_⟩ | refine ⟨_, _, c1 _, ?_⟩ | refine acalls_same (c2 _) ?_ | refine ⟨_, c2 _, ?_⟩ | refine ⟨_, _, c2 _, ?_⟩ | refine acalls_same (c3 _) ?_ | refine ⟨_, c3 _, ?_⟩ | refine ⟨_, _, c3 _, ?_⟩ | refine acalls_same (c4 _) ?_ | refine ⟨_, c4 _, ?_⟩ | refine ⟨_, _, c4 _, ?_⟩ | refine vcI (fun _ => ?_) (fun _ => ?_) | (refine vcA ?_ ?_; focus (repeat' (first | omega | assumption | refine vcA ?_ ?_); done)) | omega | refine imp_in (fun _ => ?_))
          all_goals exact done_lit ⟨by simp, rfl⟩
      · rw [h] at c1
        dsimp only at c1
        rcases hB with ⟨h1, rfl⟩ | ⟨h1, ⟨rfl, rfl⟩ | ⟨z, rfl, rfl⟩⟩
        · have hc1 : (p.2 = 0) = False := eq_false h1
          refine acalls_vc L_ok mixed [] (rs := [.tmp 4]) (n := 78) Tryz.func12 rfl rfl rfl rfl (Nat.le_of_ble_eq_true rfl) (by kernel_rfl) ?_
          repeat' (first | refine unhold ?_ | (simp -dsimp -implicitDefEqProofs (disch := (first | assumption | omega | (simp only [ll1, ll2, ll3, ll4, ll5, ll6, ll7, ll8]; omega))) only [go_sem, hc, hc1, take5, drop5]) | refine acalls_same (alive3_c _) ?_ | refine ⟨_, alive3_c _, ?_⟩ | refine ⟨_, _, alive3_c _, ?_⟩ | refine acalls_same (hg _) ?_ | refine ⟨_, hg _, ?_⟩ | refine ⟨_, _, hg _, ?_⟩ | refine acalls_same (c1 _) ?_ | refine ⟨_, c1 _, ?_⟩ | refine ⟨_, _, c1 _, ?_⟩ | refine acalls_same (c2 _) ?_ | refine ⟨_, c2 _, ?_⟩ | refine ⟨_, _, c2 _, ?_⟩ | refine acalls_same (c3 _) ?_ | refine ⟨_, c3 _, ?_⟩ | refine ⟨_, _, c3 _, ?_⟩ | refine acalls_same (c4 _) ?_ | refine ⟨_, c4 _, ?_⟩ | refine ⟨_, _, c4 _, ?_⟩ | refine vcI (fun _ => ?_) (fun _ => ?_) | (refine vcA ?_ ?_; focus (repeat' (first | omega | assumption | refine vcA ?_ ?_); done)) | omega | refine imp_in (fun _ => ?_))
          all_goals exact done_lit ⟨by simp, rfl⟩
        · dsimp only at c4
          refine acalls_vc L_ok mixed [] (rs := [.tmp 4]) (n := 78) Tryz.func12 rfl rfl rfl rfl (Nat.le_of_ble_eq_true rfl) (by kernel_rfl) ?_
          repeat' (first | refine unhold ?_ | (simp -dsimp -implicitDefEqProofs (disch := (first | assumption | omega | (simp only [ll1, ll2, ll3, ll4, ll5, ll6, ll7, ll8]; omega))) only [go_sem, hc, h1, take5, drop5]) | refine acalls_same (alive3_c _) ?_ | refine ⟨_, alive3_c _, ?_⟩ | refine ⟨_, _, alive3_c _, ?_⟩ | refine acalls_same (hg _) ?_ | refine ⟨_, hg _, ?_⟩ | refine ⟨_, _, hg _, ?_⟩ | refine acalls_same (c1 _) ?_ | refine ⟨_, c1 _, ?_⟩ | refine ⟨_, _, c1 _, ?_⟩ | refine acalls_same (c2 _) ?_ | refine ⟨_, c2 _, ?_⟩ | refine ⟨_, _, c2 _, ?_⟩ | refine acalls_same (c3 _) ?_ | refine ⟨_, c3 _, ?_⟩ | refine ⟨_, _, c3 _, ?_⟩ | refine acalls_same (c4 _) ?_ | refine ⟨_, c4 _, ?_⟩ | refine ⟨_, _, c4 _, ?_⟩ | refine vcI (fun _ => ?_) (fun _ => ?_) | (refine vcA ?_ ?_; focus (repeat' (first | omega | assumption | refine vcA ?_ ?_); done)) | omega | refine imp_in (fun _ => ?_))
          all_goals exact done_lit ⟨by simp, rfl⟩
        · dsimp only at c4
          refine acalls_vc L_ok mixed [] (rs := [.tmp 4]) (n := 78) Tryz.func12 rfl rfl rfl rfl (Nat.le_of_ble_eq_true rfl) (by kernel_rfl) ?_
          repeat' (first | refine unhold ?_ | (simp -dsimp -implicitDefEqProofs (disch := (first | assumption | omega | (simp only [ll1, ll2, ll3, ll4, ll5, ll6, ll7, ll8]; omega))) only [go_sem, hc, h1, take5, drop5]) | refine acalls_same (alive3_c _) ?_ | refine ⟨_, alive3_c _, ?_⟩ | refine ⟨_, _, alive3_c _, ?_⟩ | refine acalls_same (hg _) ?_ | refine ⟨_, hg _, ?_⟩ | refine ⟨_, _, hg _, ?_⟩ | refine acalls_same (c1 _) ?_ | refine ⟨_, c1 _, ?_⟩ | refine ⟨_, _, c1 _, ?_⟩ | refine acalls_same (c2 _) ?_ | refine ⟨_, c2 _, ?_⟩ | refine ⟨_, _, c2 _, ?_⟩ | refine acalls_same (c3 _) ?_ | refine ⟨_, c3 _, ?_⟩ | refine ⟨_, _, c3 _, ?_⟩ | refine acalls_same (c4 _) ?_ | refine ⟨_, c4 _, ?_⟩ | refine ⟨_, _, c4 _, ?_⟩ | refine vcI (fun _ => ?_) (fun _ => ?_) | (refine vcA ?_ ?_; focus (repeat' (first | omega | assumption | refine vcA ?_ ?_); done)) | omega | refine imp_in (fun _ => ?_))
          all_goals exact done_lit ⟨by simp, rfl⟩
      · rw [h] at c1
        dsimp only at c1
        have c5 := fun H => Parse_c y H (by omega)
        have c6 := fun H => Canonical_c y H (by omega)
        have c7 := fun H => Alike_c v v H (by omega)
        rw [hyp] at c5
        rw [hyc] at c6
        rw [decide_eq_true rfl] at c7
        unfold parseAV at c5
        dsimp only at c5
        rcases hB with ⟨h1, rfl⟩ | ⟨h1, ⟨rfl, rfl⟩ | ⟨z, rfl, rfl⟩⟩
        · have hc1 : (p.2 = 0) = False := eq_false h1
          refine acalls_vc L_ok mixed [] (rs := [.tmp 4]) (n := 78) Tryz.func12 rfl rfl rfl rfl (Nat.le_of_ble_eq_true rfl) (by kernel_rfl) ?_
          repeat' (first | refine unhold ?_ | (simp -dsimp -implicitDefEqProofs (disch := (first | assumption | omega | (simp only [ll1, ll2, ll3, ll4, ll5, ll6, ll7, ll8]; omega))) only [go_sem, hc, hc1, take5, drop5]) | refine acalls_same (alive3_c _) ?_ | refine ⟨_, alive3_c _, ?_⟩ | refine ⟨_, _, alive3_c _, ?_⟩ | refine acalls_same (hg _) ?_ | refine ⟨_, hg _, ?_⟩ | refine ⟨_, _, hg _, ?_⟩ | refine acalls_same (c1 _) ?_ | refine ⟨_, c1 _, ?_⟩ | refine ⟨_, _, c1 _, ?_⟩ | refine acalls_same (c5 _) ?_ | refine ⟨_, c5 _, ?_⟩ | refine ⟨_, _, c5 _, ?_⟩ | refine acalls_same (c6 _) ?_ | refine ⟨_, c6 _, ?_⟩ | refine ⟨_, _, c6 _, ?_⟩ | refine acalls_same (c7 _) ?_ | refine ⟨_, c7 _, ?_⟩ | refine ⟨_, _, c7 _, ?_⟩ | refine acalls_same (c2 _) ?_ | refine ⟨_, c2 _, ?_⟩ | refine ⟨_, _, c2 _, ?_⟩ | refine acalls_same (c3 _) ?_ | refine ⟨_, c3 _, ?_⟩ | refine ⟨_, _, c3 _, ?_⟩ | refine acalls_same (c4 _) ?_ | refine ⟨_, c4 _, ?_⟩ | refine ⟨_, _, c4 _, ?_⟩ | refine vcI (fun _ => ?_) (fun _ => ?_) | (refine vcA ?_ ?_; focus (repeat' (first | omega | assumption | refine vcA ?_ ?_); done)) | omega | refine imp_in (fun _ => ?_))
          all_goals exact done_lit ⟨by simp, rfl⟩
        · dsimp only at c4
          refine acalls_vc L_ok mixed [] (rs := [.tmp 4]) (n := 78) Tryz.func12 rfl rfl rfl rfl (Nat.le_of_ble_eq_true rfl) (by kernel_rfl) ?_
          repeat' (first | refine unhold ?_ | (simp -dsimp -implicitDefEqProofs (disch := (first | assumption | omega | (simp only [ll1, ll2, ll3, ll4, ll5, ll6, ll7, ll8]; omega))) only [go_sem, hc, h1, take5, drop5]) | refine acalls_same (alive3_c _) ?_ | refine ⟨_, alive3_c _, ?_⟩ | refine ⟨_, _, alive3_c _, ?_⟩ | refine acalls_same (hg _) ?_ | refine ⟨_, hg _, ?_⟩ | refine ⟨_, _, hg _, ?_⟩ | refine acalls_same (c1 _) ?_ | refine ⟨_, c1 _, ?_⟩ | refine ⟨_, _, c1 _, ?_⟩ | refine acalls_same (c5 _) ?_ | refine ⟨_, c5 _, ?_⟩ | refine ⟨_, _, c5 _, ?_⟩ | refine acalls_same (c6 _) ?_ | refine ⟨_, c6 _, ?_⟩ | refine ⟨_, _, c6 _, ?_⟩ | refine acalls_same (c7 _) ?_ | refine ⟨_, c7 _, ?_⟩ | refine ⟨_, _, c7 _, ?_⟩ | refine acalls_same (c2 _) ?_ | refine ⟨_, c2 _, ?_⟩ | refine ⟨_, _, c2 _, ?_⟩ | refine acalls_same (c3 _) ?_ | refine ⟨_, c3 _, ?_⟩ | refine ⟨_, _, c3 _, ?_⟩ | refine acalls_same (c4 _) ?_ | refine ⟨_, c4 _, ?_⟩ | refine ⟨_, _, c4 _, ?_⟩ | refine vcI (fun _ => ?_) (fun _ => ?_) | (refine vcA ?_ ?_; focus (repeat' (first | omega | assumption | refine vcA ?_ ?_); done)) | omega | refine imp_in (fun _ => ?_))
          all_goals exact done_lit ⟨by simp, rfl⟩
        · dsimp only at c4
          refine acalls_vc L_ok mixed [] (rs := [.tmp 4]) (n := 78) Tryz.func12 rfl rfl rfl rfl (Nat.le_of_ble_eq_true rfl) (by kernel_rfl) ?_
          repeat' (first | refine unhold ?_ | (simp -dsimp -implicitDefEqProofs (disch := (first | assumption | omega | (simp only [ll1, ll2, ll3, ll4, ll5, ll6, ll7, ll8]; omega))) only [go_sem, hc, h1, take5, drop5]) | refine acalls_same (alive3_c _) ?_ | refine ⟨_, alive3_c _, ?_⟩ | refine ⟨_, _, alive3_c _, ?_⟩ | refine acalls_same (hg _) ?_ | refine ⟨_, hg _, ?_⟩ | refine ⟨_, _, hg _, ?_⟩ | refine acalls_same (c1 _) ?_ | refine ⟨_, c1 _, ?_⟩ | refine ⟨_, _, c1 _, ?_⟩ | refine acalls_same (c5 _) ?_ | refine ⟨_, c5 _, ?_⟩ | refine ⟨_, _, c5 _, ?_⟩ | refine acalls_same (c6 _) ?_ | refine ⟨_, c6 _, ?_⟩ | refine ⟨_, _, c6 _, ?_⟩ | refine acalls_same (c7 _) ?_ | refine ⟨_, c7 _, ?_⟩ | refine ⟨_, _, c7 _, ?_⟩ | refine acalls_same (c2 _) ?_ | refine ⟨_, c2 _, ?_⟩ | refine ⟨_, _, c2 _, ?_⟩ | refine acalls_same (c3 _) ?_ | refine ⟨_, c3 _, ?_⟩ | refine ⟨_, _, c3 _, ?_⟩ | refine acalls_same (c4 _) ?_ | refine ⟨_, c4 _, ?_⟩ | refine ⟨_, _, c4 _, ?_⟩ | refine vcI (fun _ => ?_) (fun _ => ?_) | (refine vcA ?_ ?_; focus (repeat' (first | omega | assumption | refine vcA ?_ ?_); done)) | omega | refine imp_in (fun _ => ?_))
          all_goals exact done_lit ⟨by simp, rfl⟩
end Go.Proofs.YtplmbhjhihoneaaGreatDoor
end
