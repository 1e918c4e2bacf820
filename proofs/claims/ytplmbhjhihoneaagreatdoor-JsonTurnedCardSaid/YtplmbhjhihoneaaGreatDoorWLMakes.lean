/- JsonMakes' law, JsonTurned's law. -/
import Derived.Test.YtplmbhjhihoneaaGreatDoorW7
import Derived.Test.YtplmbhjhihoneaaGreatDoorWPh
section
set_option linter.unusedSimpArgs false
set_option linter.unusedVariables false
namespace Go.Proofs.YtplmbhjhihoneaaGreatDoor
open Go V
set_option maxRecDepth 10000
set_option maxHeartbeats 4000000
theorem sum_allP : ∀ {l a b : Prs}, allP a l = some b → sumP b ≤ sumP a + sumP l
  | [], a, b, h => by cases h; simp
  | p :: r, a, b, h => by
    rw [allP] at h
    split at h
    · cases h
    · have h1 := sum_allP h
      have h2 := sumP_ins p.1 p.2 a
      rw [sumP_cons]
      omega
theorem size_make (l : Prs) : sizeJ (makeP l).1 ≤ 1 + sumP l := by
  have hz : sizeJ zeroJ = 1 := rfl
  unfold makeP
  split
  · cases h : allP [] l with
    | none => simp only; omega
    | some a =>
      have h1 := sum_allP h
      have h2 : sumP [] = 0 := rfl
      simp only
      split
      · simp only; omega
      · simp only
        rw [size_ofP]
        show 1 + 0 + sumP a ≤ _
        omega
  · simp only; omega
theorem sum_each {l : Prs} {p : bytes × JV} (h : p ∈ l) : nameW p.1 + sizeJ p.2 ≤ sumP l := by
  have := sum_mem (f := fun p : bytes × JV => nameW p.1 + sizeJ p.2) h
  exact this
def nInv (l : Prs) (i : Nat) (n : Int) : Prop := i ≤ l.length ∧ 0 ≤ n ∧ n ≤ 4001 * i ∧ (n ≤ 1000 → (sumP (l.take i) : Int) ≤ n + i)
theorem nInv_0 (l : Prs) : nInv l 0 0 := ⟨Nat.zero_le _, Int.le_refl _, Int.le_refl _, fun _ => by simp [sumP]⟩
theorem nInv_s {l : Prs} {i : Nat} {n : Int} (h : nInv l i n) (hi : i < l.length) : nInv l (i + 1) (n + (weigh (l.getD i ([], zeroJ)).2 1000 + min ((l.getD i ([], zeroJ)).1.length : Int) 2000)) := by
  obtain ⟨h1, h2, h3, h4⟩ := h
  have hw := weigh_le (l.getD i ([], zeroJ)).2 1000 (by decide)
  have ht := sumP_take (get_getD ([], zeroJ) hi)
  unfold nameW at ht
  refine ⟨by omega, by omega, by omega, fun h5 => ?_⟩
  have h6 := hw.2.2.1 (by omega)
  have h7 := h4 (by omega)
  omega
theorem JsonMakes_c (l : Prs) (H : List AObj) : ACalls Tryz.prog 6 [.sl .sh 6 (l.map pairAV)] H (fun x H' => x = .bool true ∧ H' = H) := by
  by_cases c1 : 100 < l.length
  · have ct : (100 < ((l.length : Nat) : Int)) = True := eq_true (by omega)
    refine acalls_vc L_ok mixed [1000009, 1000009011006] (rs := [.tmp 2]) (n := 60) Tryz.func6 rfl rfl rfl rfl (Nat.le_of_ble_eq_true rfl) (by kernel_rfl) ?_
    repeat' (first | refine unhold ?_ | (simp -dsimp -implicitDefEqProofs (disch := (first | assumption | omega | (simp only [ll1, ll2, ll3, ll4, ll5, ll6, ll7, ll8]; omega))) only [go_sem, reduceCtorEq, Nat.reducePow, Int.reducePow, Nat.reduceDiv, Nat.reduceBEq, Nat.reduceEqDiff, Nat.reduceLT, Nat.reduceLeDiff, Nat.reduceAdd, Nat.reduceSub, Nat.reduceMul, Nat.reduceMod, Int.reduceToNat, Int.reduceNeg, Int.reduceAdd, Int.reduceSub, Int.reduceMul, Int.reduceDiv, Int.reduceMod, Int.reduceLT, Int.reduceLE, Int.reduceEq, ↓reduceIte, ct]) | refine acalls_same (alive_c _) ?_ | refine ⟨_, alive_c _, ?_⟩ | refine ⟨_, _, alive_c _, ?_⟩ | refine vcI (fun _ => ?_) (fun _ => ?_) | (refine vcA ?_ ?_; focus (repeat' (first | omega | assumption | refine vcA ?_ ?_); done)) | omega | refine imp_in (fun _ => ?_))
    exact done_same ⟨rfl, rfl⟩
  have cf : (100 < ((l.length : Nat) : Int)) = False := eq_false (by omega)
  refine acalls_vc L_ok mixed [1000009, 1000009011006] (rs := [.tmp 2]) (n := 60) Tryz.func6 rfl rfl rfl rfl (Nat.le_of_ble_eq_true rfl) (by kernel_rfl) ?_
  repeat' (first | refine unhold ?_ | (simp -dsimp -implicitDefEqProofs (disch := (first | assumption | omega | (simp only [ll1, ll2, ll3, ll4, ll5, ll6, ll7, ll8]; omega))) only [go_sem, reduceCtorEq, Nat.reducePow, Int.reducePow, Nat.reduceDiv, Nat.reduceBEq, Nat.reduceEqDiff, Nat.reduceLT, Nat.reduceLeDiff, Nat.reduceAdd, Nat.reduceSub, Nat.reduceMul, Nat.reduceMod, Int.reduceToNat, Int.reduceNeg, Int.reduceAdd, Int.reduceSub, Int.reduceMul, Int.reduceDiv, Int.reduceMod, Int.reduceLT, Int.reduceLE, Int.reduceEq, ↓reduceIte, cf]) | refine acalls_same (alive_c _) ?_ | refine ⟨_, alive_c _, ?_⟩ | refine ⟨_, _, alive_c _, ?_⟩ | refine vcI (fun _ => ?_) (fun _ => ?_) | (refine vcA ?_ ?_; focus (repeat' (first | omega | assumption | refine vcA ?_ ?_); done)) | omega | refine imp_in (fun _ => ?_))
  refine vc_loopk L_ok mixed [1000009, 1000009011006] [0, 2] (fun y : Nat × Int => nInv l y.1 y.2) (fun y => [(4, .int .i64 y.1), (3, .int .i64 y.2)]) (fun _ => H) (fun y => l.length - y.1) (by kernel_rfl) ?_ (0, 0) (nInv_0 l) env_ok rfl
  rintro ⟨i, n⟩ hI
  dsimp only at hI ⊢
  have hI' := hI
  obtain ⟨h1, h2, h3, h4⟩ := hI
  by_cases hil : i < l.length
  · have filt : ((i : Int) < ((l.length : Nat) : Int)) = True := eq_true (by omega)
    by_cases hn : n ≤ 1000
    · have hnt := eq_true hn
      have hs := nInv_s hI' hil
      have cW := fun H => Weigh_c (l.getD i ([], zeroJ)).2 1000 H (by decide) (by decide)
      have hw := weigh_le (l.getD i ([], zeroJ)).2 1000 (by decide)
      repeat' (first | refine unhold ?_ | (simp -dsimp -implicitDefEqProofs (disch := (first | assumption | omega | (simp only [ll1, ll2, ll3, ll4, ll5, ll6, ll7, ll8]; omega))) only [go_sem, reduceCtorEq, Nat.reducePow, Int.reducePow, Nat.reduceDiv, Nat.reduceBEq, Nat.reduceEqDiff, Nat.reduceLT, Nat.reduceLeDiff, Nat.reduceAdd, Nat.reduceSub, Nat.reduceMul, Nat.reduceMod, Int.reduceToNat, Int.reduceNeg, Int.reduceAdd, Int.reduceSub, Int.reduceMul, Int.reduceDiv, Int.reduceMod, Int.reduceLT, Int.reduceLE, Int.reduceEq, ↓reduceIte, filt, hnt]) | refine acalls_same (cW _) ?_ | refine ⟨_, cW _, ?_⟩ | refine ⟨_, _, cW _, ?_⟩ | refine vcI (fun _ => ?_) (fun _ => ?_) | (refine vcA ?_ ?_; focus (repeat' (first | omega | assumption | refine vcA ?_ ?_); done)) | omega | refine imp_in (fun _ => ?_))
      refine again ((i + 1, n + (weigh (l.getD i ([], zeroJ)).2 1000 + min ((l.getD i ([], zeroJ)).1.length : Int) 2000))) ?_ ?_ rfl env_ok
      · dsimp only; omega
      · exact hs
    · have hnf := eq_false hn
      have hn1 : (1000 < n) = True := eq_true (by omega)
      repeat' (first | refine unhold ?_ | (simp -dsimp -implicitDefEqProofs (disch := (first | assumption | omega | (simp only [ll1, ll2, ll3, ll4, ll5, ll6, ll7, ll8]; omega))) only [go_sem, reduceCtorEq, Nat.reducePow, Int.reducePow, Nat.reduceDiv, Nat.reduceBEq, Nat.reduceEqDiff, Nat.reduceLT, Nat.reduceLeDiff, Nat.reduceAdd, Nat.reduceSub, Nat.reduceMul, Nat.reduceMod, Int.reduceToNat, Int.reduceNeg, Int.reduceAdd, Int.reduceSub, Int.reduceMul, Int.reduceDiv, Int.reduceMod, Int.reduceLT, Int.reduceLE, Int.reduceEq, ↓reduceIte, filt, hnf, hn1]) | refine vcI (fun _ => ?_) (fun _ => ?_) | (refine vcA ?_ ?_; focus (repeat' (first | omega | assumption | refine vcA ?_ ?_); done)) | omega | refine imp_in (fun _ => ?_))
      exact done_same ⟨rfl, rfl⟩
  · obtain rfl : i = l.length := by omega
    by_cases hn : 1000 < n
    · have hnt := eq_true hn
      repeat' (first | refine unhold ?_ | (simp -dsimp -implicitDefEqProofs (disch := (first | assumption | omega | (simp only [ll1, ll2, ll3, ll4, ll5, ll6, ll7, ll8]; omega))) only [go_sem, reduceCtorEq, Nat.reducePow, Int.reducePow, Nat.reduceDiv, Nat.reduceBEq, Nat.reduceEqDiff, Nat.reduceLT, Nat.reduceLeDiff, Nat.reduceAdd, Nat.reduceSub, Nat.reduceMul, Nat.reduceMod, Int.reduceToNat, Int.reduceNeg, Int.reduceAdd, Int.reduceSub, Int.reduceMul, Int.reduceDiv, Int.reduceMod, Int.reduceLT, Int.reduceLE, Int.reduceEq, ↓reduceIte, hnt]) | refine vcI (fun _ => ?_) (fun _ => ?_) | (refine vcA ?_ ?_; focus (repeat' (first | omega | assumption | refine vcA ?_ ?_); done)) | omega | refine imp_in (fun _ => ?_))
      exact done_same ⟨rfl, rfl⟩
    · have hnf := eq_false hn
      have h5 := h4 (by omega)
      rw [List.take_length] at h5
      have hsz : ∀ p ∈ l, sizeJ p.2 ≤ 10000 ∧ p.1.length ≤ 10000 := fun p hp => by
        have := sum_each hp
        unfold nameW at this
        omega
      have hm := size_make l
      have cJ := fun H => Make_j l H (by omega) hsz
      have cR := fun H => Make_r l H (by omega) hsz
      generalize makeP l = q at *
      unfold parseAV at cJ cR
      have cA := fun H => Alike_c q.1 q.1 H (by omega)
      repeat' (first | refine unhold ?_ | (simp -dsimp -implicitDefEqProofs (disch := (first | assumption | omega | (simp only [ll1, ll2, ll3, ll4, ll5, ll6, ll7, ll8]; omega))) only [go_sem, reduceCtorEq, Nat.reducePow, Int.reducePow, Nat.reduceDiv, Nat.reduceBEq, Nat.reduceEqDiff, Nat.reduceLT, Nat.reduceLeDiff, Nat.reduceAdd, Nat.reduceSub, Nat.reduceMul, Nat.reduceMod, Int.reduceToNat, Int.reduceNeg, Int.reduceAdd, Int.reduceSub, Int.reduceMul, Int.reduceDiv, Int.reduceMod, Int.reduceLT, Int.reduceLE, Int.reduceEq, ↓reduceIte, hnf]) | refine acalls_same (cJ _) ?_ | refine ⟨_, cJ _, ?_⟩ | refine ⟨_, _, cJ _, ?_⟩ | refine acalls_same (cR _) ?_ | refine ⟨_, cR _, ?_⟩ | refine ⟨_, _, cR _, ?_⟩ | refine acalls_same (cA _) ?_ | refine ⟨_, cA _, ?_⟩ | refine ⟨_, _, cA _, ?_⟩ | refine vcI (fun _ => ?_) (fun _ => ?_) | (refine vcA ?_ ?_; focus (repeat' (first | omega | assumption | refine vcA ?_ ?_); done)) | omega | refine imp_in (fun _ => ?_))
      exact done_lit ⟨rfl, rfl⟩
theorem make_rev (l : Prs) : makeP l.reverse = makeP l := by
  unfold makeP
  have h1 : l.reverse.all goodP = l.all goodP := by
    rw [Bool.eq_iff_iff, List.all_eq_true, List.all_eq_true]
    simp only [List.mem_reverse]
  have h2 : l.reverse.any tallP = l.any tallP := by
    rw [Bool.eq_iff_iff, List.any_eq_true, List.any_eq_true]
    simp only [List.mem_reverse]
  rw [h1, h2, allP_rev]
theorem take_rev {l : Prs} {i : Nat} (h : i < l.length) : (l.take (i + 1)).reverse = l.getD i ([], zeroJ) :: (l.take i).reverse := by
  rw [take_put (get_getD ([], zeroJ) h), List.reverse_append]
  rfl
theorem JsonTurned_c (l : Prs) (H : List AObj) : ACalls Tryz.prog 7 [.sl .sh 6 (l.map pairAV)] H (fun x H' => x = .bool true ∧ H' = H) := by
  by_cases c1 : 100 < l.length
  · have ct : (100 < ((l.length : Nat) : Int)) = True := eq_true (by omega)
    refine acalls_vc L_ok mixed [1000010, 1000010011006] (rs := [.tmp 2]) (n := 68) Tryz.func7 rfl rfl rfl rfl (Nat.le_of_ble_eq_true rfl) (by kernel_rfl) ?_
    repeat' (first | refine unhold ?_ | (simp -dsimp -implicitDefEqProofs (disch := (first | assumption | omega | (simp only [ll1, ll2, ll3, ll4, ll5, ll6, ll7, ll8]; omega))) only [go_sem, reduceCtorEq, Nat.reducePow, Int.reducePow, Nat.reduceDiv, Nat.reduceBEq, Nat.reduceEqDiff, Nat.reduceLT, Nat.reduceLeDiff, Nat.reduceAdd, Nat.reduceSub, Nat.reduceMul, Nat.reduceMod, Int.reduceToNat, Int.reduceNeg, Int.reduceAdd, Int.reduceSub, Int.reduceMul, Int.reduceDiv, Int.reduceMod, Int.reduceLT, Int.reduceLE, Int.reduceEq, ↓reduceIte, ct]) | refine acalls_same (alive_c _) ?_ | refine ⟨_, alive_c _, ?_⟩ | refine ⟨_, _, alive_c _, ?_⟩ | refine vcI (fun _ => ?_) (fun _ => ?_) | (refine vcA ?_ ?_; focus (repeat' (first | omega | assumption | refine vcA ?_ ?_); done)) | omega | refine imp_in (fun _ => ?_))
    exact done_same ⟨rfl, rfl⟩
  have cf : (100 < ((l.length : Nat) : Int)) = False := eq_false (by omega)
  refine acalls_vc L_ok mixed [1000010, 1000010011006] (rs := [.tmp 2]) (n := 68) Tryz.func7 rfl rfl rfl rfl (Nat.le_of_ble_eq_true rfl) (by kernel_rfl) ?_
  repeat' (first | refine unhold ?_ | (simp -dsimp -implicitDefEqProofs (disch := (first | assumption | omega | (simp only [ll1, ll2, ll3, ll4, ll5, ll6, ll7, ll8]; omega))) only [go_sem, reduceCtorEq, Nat.reducePow, Int.reducePow, Nat.reduceDiv, Nat.reduceBEq, Nat.reduceEqDiff, Nat.reduceLT, Nat.reduceLeDiff, Nat.reduceAdd, Nat.reduceSub, Nat.reduceMul, Nat.reduceMod, Int.reduceToNat, Int.reduceNeg, Int.reduceAdd, Int.reduceSub, Int.reduceMul, Int.reduceDiv, Int.reduceMod, Int.reduceLT, Int.reduceLE, Int.reduceEq, ↓reduceIte, cf]) | refine acalls_same (alive_c _) ?_ | refine ⟨_, alive_c _, ?_⟩ | refine ⟨_, _, alive_c _, ?_⟩ | refine vcI (fun _ => ?_) (fun _ => ?_) | (refine vcA ?_ ?_; focus (repeat' (first | omega | assumption | refine vcA ?_ ?_); done)) | omega | refine imp_in (fun _ => ?_))
  refine vc_loopk L_ok mixed [1000010, 1000010011006] [0, 2] (fun y : Nat × Int => nInv l y.1 y.2) (fun y => [(5, .int .i64 y.1), (3, .int .i64 y.2), (4, .sl .sh 6 ((l.take y.1).reverse.map pairAV))]) (fun _ => H) (fun y => l.length - y.1) (by kernel_rfl) ?_ (0, 0) (nInv_0 l) env_ok rfl
  rintro ⟨i, n⟩ hI
  dsimp only at hI ⊢
  have hI' := hI
  obtain ⟨h1, h2, h3, h4⟩ := hI
  by_cases hil : i < l.length
  · have filt : ((i : Int) < ((l.length : Nat) : Int)) = True := eq_true (by omega)
    by_cases hn : n ≤ 1000
    · have hnt := eq_true hn
      have hs := nInv_s hI' hil
      have cW := fun H => Weigh_c (l.getD i ([], zeroJ)).2 1000 H (by decide) (by decide)
      have hw := weigh_le (l.getD i ([], zeroJ)).2 1000 (by decide)
      have hr := take_rev hil
      have hrl : ((l.take i).reverse).length = i := by rw [List.length_reverse, List.length_take]; omega
      have hcons : pairAV (l.getD i ([], zeroJ)) :: (l.take i).reverse.map pairAV = (l.take (i + 1)).reverse.map pairAV := by rw [hr]; rfl
      repeat' (first | refine unhold ?_ | (simp -dsimp -implicitDefEqProofs (disch := (first | assumption | omega | (simp only [ll1, ll2, ll3, ll4, ll5, ll6, ll7, ll8]; omega))) only [go_sem, reduceCtorEq, Nat.reducePow, Int.reducePow, Nat.reduceDiv, Nat.reduceBEq, Nat.reduceEqDiff, Nat.reduceLT, Nat.reduceLeDiff, Nat.reduceAdd, Nat.reduceSub, Nat.reduceMul, Nat.reduceMod, Int.reduceToNat, Int.reduceNeg, Int.reduceAdd, Int.reduceSub, Int.reduceMul, Int.reduceDiv, Int.reduceMod, Int.reduceLT, Int.reduceLE, Int.reduceEq, ↓reduceIte, filt, hnt, hcons, hrl]) | refine acalls_same (cW _) ?_ | refine ⟨_, cW _, ?_⟩ | refine ⟨_, _, cW _, ?_⟩ | refine vcI (fun _ => ?_) (fun _ => ?_) | (refine vcA ?_ ?_; focus (repeat' (first | omega | assumption | refine vcA ?_ ?_); done)) | omega | refine imp_in (fun _ => ?_))
      refine again_cut (i + 1, n + (weigh (l.getD i ([], zeroJ)).2 1000 + min ((l.getD i ([], zeroJ)).1.length : Int) 2000)) ?_ ?_ (by repeat (first | exact envLow_nil | (refine envLow_cons ?_ ?_; focus (first | exact low_psl | exact .lit _)))) env_ok
      · dsimp only; omega
      · exact hs
    · have hnf := eq_false hn
      have hn1 : (1000 < n) = True := eq_true (by omega)
      repeat' (first | refine unhold ?_ | (simp -dsimp -implicitDefEqProofs (disch := (first | assumption | omega | (simp only [ll1, ll2, ll3, ll4, ll5, ll6, ll7, ll8]; omega))) only [go_sem, reduceCtorEq, Nat.reducePow, Int.reducePow, Nat.reduceDiv, Nat.reduceBEq, Nat.reduceEqDiff, Nat.reduceLT, Nat.reduceLeDiff, Nat.reduceAdd, Nat.reduceSub, Nat.reduceMul, Nat.reduceMod, Int.reduceToNat, Int.reduceNeg, Int.reduceAdd, Int.reduceSub, Int.reduceMul, Int.reduceDiv, Int.reduceMod, Int.reduceLT, Int.reduceLE, Int.reduceEq, ↓reduceIte, filt, hnf, hn1]) | refine vcI (fun _ => ?_) (fun _ => ?_) | (refine vcA ?_ ?_; focus (repeat' (first | omega | assumption | refine vcA ?_ ?_); done)) | omega | refine imp_in (fun _ => ?_))
      exact done_same ⟨rfl, rfl⟩
  · obtain rfl : i = l.length := by omega
    by_cases hn : 1000 < n
    · have hnt := eq_true hn
      repeat' (first | refine unhold ?_ | (simp -dsimp -implicitDefEqProofs (disch := (first | assumption | omega | (simp only [ll1, ll2, ll3, ll4, ll5, ll6, ll7, ll8]; omega))) only [go_sem, reduceCtorEq, Nat.reducePow, Int.reducePow, Nat.reduceDiv, Nat.reduceBEq, Nat.reduceEqDiff, Nat.reduceLT, Nat.reduceLeDiff, Nat.reduceAdd, Nat.reduceSub, Nat.reduceMul, Nat.reduceMod, Int.reduceToNat, Int.reduceNeg, Int.reduceAdd, Int.reduceSub, Int.reduceMul, Int.reduceDiv, Int.reduceMod, Int.reduceLT, Int.reduceLE, Int.reduceEq, ↓reduceIte, hnt]) | refine vcI (fun _ => ?_) (fun _ => ?_) | (refine vcA ?_ ?_; focus (repeat' (first | omega | assumption | refine vcA ?_ ?_); done)) | omega | refine imp_in (fun _ => ?_))
      exact done_same ⟨rfl, rfl⟩
    · have hnf := eq_false hn
      have h5 := h4 (by omega)
      rw [List.take_length] at h5 ⊢
      have hsz : ∀ p ∈ l, sizeJ p.2 ≤ 10000 ∧ p.1.length ≤ 10000 := fun p hp => by
        have := sum_each hp
        unfold nameW at this
        omega
      have hm := size_make l
      have cJ := fun H => Make_j l H (by omega) hsz
      have cR := fun H => Make_j l.reverse H (by rw [List.length_reverse]; omega) (fun p hp => hsz p (List.mem_reverse.1 hp))
      rw [make_rev] at cR
      generalize makeP l = q at *
      unfold parseAV at cJ cR
      have cA := fun H => Alike_c q.1 q.1 H (by omega)
      repeat' (first | refine unhold ?_ | (simp -dsimp -implicitDefEqProofs (disch := (first | assumption | omega | (simp only [ll1, ll2, ll3, ll4, ll5, ll6, ll7, ll8]; omega))) only [go_sem, reduceCtorEq, Nat.reducePow, Int.reducePow, Nat.reduceDiv, Nat.reduceBEq, Nat.reduceEqDiff, Nat.reduceLT, Nat.reduceLeDiff, Nat.reduceAdd, Nat.reduceSub, Nat.reduceMul, Nat.reduceMod, Int.reduceToNat, Int.reduceNeg, Int.reduceAdd, Int.reduceSub, Int.reduceMul, Int.reduceDiv, Int.reduceMod, Int.reduceLT, Int.reduceLE, Int.reduceEq, ↓reduceIte, hnf]) | refine acalls_same (cJ _) ?_ | refine ⟨_, cJ _, ?_⟩ | refine ⟨_, _, cJ _, ?_⟩ | refine acalls_same (cR _) ?_ | refine ⟨_, cR _, ?_⟩ | refine ⟨_, _, cR _, ?_⟩ | refine acalls_same (cA _) ?_ | refine ⟨_, cA _, ?_⟩ | refine ⟨_, _, cA _, ?_⟩ | refine vcI (fun _ => ?_) (fun _ => ?_) | (refine vcA ?_ ?_; focus (repeat' (first | omega | assumption | refine vcA ?_ ?_); done)) | omega | refine imp_in (fun _ => ?_))
      exact done_lit ⟨rfl, rfl⟩
end Go.Proofs.YtplmbhjhihoneaaGreatDoor
end
