/- The laws of canon: what is printed; back; one text; quotes; lengths. -/
import Derived.Test.YtdahdbnfknmmgaaGreatDoorW6
section
set_option linter.unusedSimpArgs false
set_option linter.unusedVariables false
namespace Go.Proofs.YtdahdbnfknmmgaaGreatDoor
open Go V
set_option maxRecDepth 10000
set_option maxHeartbeats 1000000
theorem lengthE_cases (v : JV) : lengthE v = 0 ∧ rightJ 12 v = false ∨ lengthE v = 8193 ∧ rightJ 12 v = true ∧ 8192 < (printP v).length ∨ lengthE v = (printP v).length ∧ rightJ 12 v = true ∧ (printP v).length ≤ 8192 := by
  unfold lengthE
  rcases printE_cases v with ⟨h, k⟩ | ⟨h, k⟩ | ⟨h, k⟩
  · rw [h]; exact .inl ⟨rfl, k⟩
  · rw [h]; exact .inr (.inl ⟨rfl, k⟩)
  · rw [h]; exact .inr (.inr ⟨rfl, k⟩)
theorem print_wrap (v : JV) : (printP (wrapJ v)).length = (printP v).length + 2 := by
  have : printP (wrapJ v) = 91 :: ((headP true false [] ++ (printP v ++ [])) ++ [93]) := by
    unfold wrapJ
    rw [printP_eq]
    show 91 :: (itemsP false [v] true [] ++ [93]) = _
    rw [itemsP_cons, itemsP_nil]
    rfl
  rw [this]
  simp [headP]
theorem CanonLong_c (v : JV) (H : List AObj) : ACalls Tryz.prog 4 [jAV v] H (fun x H' => x = .bool true ∧ H' = H) := by
  have hg := fun (H : List AObj) => great3_c (o := .full) [v] H (by simp)
  by_cases hgr : 9000 < greatK [v]
  · rw [decide_eq_true hgr] at hg
    refine acalls_vc L_ok mixed [] (rs := [.tmp 2]) (n := 30) Tryz.func4 rfl rfl rfl rfl (Nat.le_of_ble_eq_true rfl) (by kernel_rfl) ?_
    repeat' (first | refine unhold ?_ | (simp -dsimp -implicitDefEqProofs (disch := (first | assumption | omega | (simp only [ll1, ll2, ll3, ll4, ll5, ll6, ll7, ll8]; omega))) only [go_sem, take5, drop5]) | refine acalls_same (alive3_c _) ?_ | refine ⟨_, alive3_c _, ?_⟩ | refine ⟨_, _, alive3_c _, ?_⟩ | refine acalls_same (hg _) ?_ | refine ⟨_, hg _, ?_⟩ | refine ⟨_, _, hg _, ?_⟩ | refine vcI (fun _ => ?_) (fun _ => ?_) | (refine vcA ?_ ?_; focus (repeat' (first | omega | assumption | refine vcA ?_ ?_); done)) | omega | refine imp_in (fun _ => ?_))
    exact done_same ⟨rfl, rfl⟩
  · rw [decide_eq_false hgr] at hg
    have hs := greatK1 hgr
    have hsw := size_wrap v
    have c1 := fun H => Length_c v H (by omega)
    have c2 := fun H => weak1 (le_wrap v) (Length_c (wrapJ v) H (by omega))
    have c3 := fun H => Deep_c v H (by omega)
    have hw := wrap_right v
    have hpw := print_wrap v
    obtain ⟨b, l, hb, _⟩ := print_first v
    have hpos : 1 ≤ (printP v).length := by rw [hb]; simp
    have hwc := lengthE_cases (wrapJ v)
    rcases lengthE_cases v with ⟨h, k⟩ | ⟨h, hk, hl⟩ | ⟨h, hk, hl⟩
    · rw [k, Bool.false_and] at hw
      have hm : lengthE (wrapJ v) = 0 := by
        rcases hwc with ⟨h, _⟩ | ⟨_, h, _⟩ | ⟨_, h, _⟩
        · exact h
        · exact absurd (hw.symm.trans h) (by decide)
        · exact absurd (hw.symm.trans h) (by decide)
      rw [h] at c1
      rw [hm] at c2
      refine acalls_vc L_ok mixed [] (rs := [.tmp 2]) (n := 30) Tryz.func4 rfl rfl rfl rfl (Nat.le_of_ble_eq_true rfl) (by kernel_rfl) ?_
      repeat' (first | refine unhold ?_ | (simp -dsimp -implicitDefEqProofs (disch := (first | assumption | omega | (simp only [ll1, ll2, ll3, ll4, ll5, ll6, ll7, ll8]; omega))) only [go_sem, take5, drop5]) | refine acalls_same (alive3_c _) ?_ | refine ⟨_, alive3_c _, ?_⟩ | refine ⟨_, _, alive3_c _, ?_⟩ | refine acalls_same (hg _) ?_ | refine ⟨_, hg _, ?_⟩ | refine ⟨_, _, hg _, ?_⟩ | refine acalls_same (c1 _) ?_ | refine ⟨_, c1 _, ?_⟩ | refine ⟨_, _, c1 _, ?_⟩ | refine acalls_same (c2 _) ?_ | refine ⟨_, c2 _, ?_⟩ | refine ⟨_, _, c2 _, ?_⟩ | refine acalls_same (c3 _) ?_ | refine ⟨_, c3 _, ?_⟩ | refine ⟨_, _, c3 _, ?_⟩ | refine vcI (fun _ => ?_) (fun _ => ?_) | (refine vcA ?_ ?_; focus (repeat' (first | omega | assumption | refine vcA ?_ ?_); done)) | omega | refine imp_in (fun _ => ?_))
      exact done_same ⟨rfl, rfl⟩
    all_goals
      rw [hk, Bool.true_and] at hw
      have hn0 : (lengthE v = 0) = False := eq_false (by omega)
      by_cases hd : deepJ 13 v < 12
      · rw [decide_eq_true (by omega)] at hw
        have hm : lengthE (wrapJ v) = min (lengthE v + 2) 8193 := by
          rcases hwc with ⟨_, h⟩ | ⟨h, _, h2⟩ | ⟨h, _, h2⟩
          · exact absurd (hw.symm.trans h) (by decide)
          · omega
          · omega
        have hdc : ((12 : Int) ≤ ((deepJ 13 v : Nat) : Int)) = False := eq_false (by omega)
        have hdc2 : (((deepJ 13 v : Nat) : Int) < 12) = True := eq_true (by omega)
        rw [hm] at c2
        have hb1 : -100 ≤ lengthE v ∧ lengthE v ≤ 1000000 := by omega
        generalize lengthE v = n at *
        clear hm hwc
        refine acalls_vc L_ok mixed [] (rs := [.tmp 2]) (n := 30) Tryz.func4 rfl rfl rfl rfl (Nat.le_of_ble_eq_true rfl) (by kernel_rfl) ?_
        repeat' (first | refine unhold ?_ | (simp -dsimp -implicitDefEqProofs (disch := (first | assumption | omega | (simp only [ll1, ll2, ll3, ll4, ll5, ll6, ll7, ll8]; omega))) only [go_sem, hn0, hdc, hdc2, take5, drop5]) | refine acalls_same (alive3_c _) ?_ | refine ⟨_, alive3_c _, ?_⟩ | refine ⟨_, _, alive3_c _, ?_⟩ | refine acalls_same (hg _) ?_ | refine ⟨_, hg _, ?_⟩ | refine ⟨_, _, hg _, ?_⟩ | refine acalls_same (c1 _) ?_ | refine ⟨_, c1 _, ?_⟩ | refine ⟨_, _, c1 _, ?_⟩ | refine acalls_same (c2 _) ?_ | refine ⟨_, c2 _, ?_⟩ | refine ⟨_, _, c2 _, ?_⟩ | refine acalls_same (c3 _) ?_ | refine ⟨_, c3 _, ?_⟩ | refine ⟨_, _, c3 _, ?_⟩ | refine vcI (fun _ => ?_) (fun _ => ?_) | (refine vcA ?_ ?_; focus (repeat' (first | omega | assumption | refine vcA ?_ ?_); done)) | omega | refine imp_in (fun _ => ?_))
        exact done_same ⟨rfl, rfl⟩
      · rw [decide_eq_false (by omega)] at hw
        have hm : lengthE (wrapJ v) = 0 := by
          rcases hwc with ⟨h, _⟩ | ⟨_, h, _⟩ | ⟨_, h, _⟩
          · exact h
          · exact absurd (hw.symm.trans h) (by decide)
          · exact absurd (hw.symm.trans h) (by decide)
        have hdc : ((12 : Int) ≤ ((deepJ 13 v : Nat) : Int)) = True := eq_true (by omega)
        have hdc2 : (((deepJ 13 v : Nat) : Int) < 12) = False := eq_false (by omega)
        rw [hm] at c2
        generalize lengthE v = n at *
        clear hm hwc
        refine acalls_vc L_ok mixed [] (rs := [.tmp 2]) (n := 30) Tryz.func4 rfl rfl rfl rfl (Nat.le_of_ble_eq_true rfl) (by kernel_rfl) ?_
        repeat' (first | refine unhold ?_ | (simp -dsimp -implicitDefEqProofs (disch := (first | assumption | omega | (simp only [ll1, ll2, ll3, ll4, ll5, ll6, ll7, ll8]; omega))) only [go_sem, hn0, hdc, hdc2, take5, drop5]) | refine acalls_same (alive3_c _) ?_ | refine ⟨_, alive3_c _, ?_⟩ | refine ⟨_, _, alive3_c _, ?_⟩ | refine acalls_same (hg _) ?_ | refine ⟨_, hg _, ?_⟩ | refine ⟨_, _, hg _, ?_⟩ | refine acalls_same (c1 _) ?_ | refine ⟨_, c1 _, ?_⟩ | refine ⟨_, _, c1 _, ?_⟩ | refine acalls_same (c2 _) ?_ | refine ⟨_, c2 _, ?_⟩ | refine ⟨_, _, c2 _, ?_⟩ | refine acalls_same (c3 _) ?_ | refine ⟨_, c3 _, ?_⟩ | refine ⟨_, _, c3 _, ?_⟩ | refine vcI (fun _ => ?_) (fun _ => ?_) | (refine vcA ?_ ?_; focus (repeat' (first | omega | assumption | refine vcA ?_ ?_); done)) | omega | refine imp_in (fun _ => ?_))
        exact done_same ⟨rfl, rfl⟩
end Go.Proofs.YtdahdbnfknmmgaaGreatDoor
end
