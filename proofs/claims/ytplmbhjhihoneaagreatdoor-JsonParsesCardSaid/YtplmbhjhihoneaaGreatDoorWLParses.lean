/- The document's Parse; JsonParses' law. -/
import Derived.Test.YtplmbhjhihoneaaGreatDoorWPe
import Derived.Test.YtplmbhjhihoneaaGreatDoorWPb
import Derived.Test.YtplmbhjhihoneaaGreatDoorW7
section
set_option linter.unusedSimpArgs false
set_option linter.unusedVariables false
namespace Go.Proofs.YtplmbhjhihoneaaGreatDoor
open Go V
set_option maxRecDepth 10000
set_option maxHeartbeats 4000000
theorem rvalue_deep {t : bytes} (hl : t.length ≤ 10000) {r : bytes} {a w : Int} {H : List AObj} (hw : 12 ≤ w) (ha : a = ((t.length - r.length : Nat) : Int)) (hs : r <:+ t) (hb91 : peek (blanks r) = 91 ∨ peek (blanks r) = 123) :
    ACalls Tryz.prog 54 [.str t, .lit (.int .i64 a), .lit (.int .i64 w)] H (fun y H' => y = valAV t (zeroJ, blanks r, 4) ∧ H' = H) := by
  subst ha
  have hs1 := suf_blanks hs
  have h1 := suf_len hs1
  have hb := fun H => blank_r (H := H) hs hl
  have hp := peek_any hs1
  have c0 := fun H => begins_r (H := H) (w := [110, 117, 108, 108]) hs1 hl (by decide)
  have c1 := fun H => begins_r (H := H) (w := [116, 114, 117, 101]) hs1 hl (by decide)
  have c2 := fun H => begins_r (H := H) (w := [102, 97, 108, 115, 101]) hs1 hl (by decide)
  have c3 := fun H => begins_r (H := H) (w := [34]) hs1 hl (by decide)
  have c4 := fun H => begins_r (H := H) (w := [91]) hs1 hl (by decide)
  have c5 := fun H => begins_r (H := H) (w := [123]) hs1 hl (by decide)
  rw [skip_peek (by decide)] at c3 c4 c5
  generalize blanks r = b at *
  have hpos := peek_pos (r := b) (by rcases hb91 with h | h <;> rw [h] <;> decide)
  have flt : (((t.length - b.length : Nat) : Int) < ((t.length : Nat) : Int)) = True := eq_true (by omega)
  have hw12 : (12 ≤ w) = True := eq_true hw
  rcases hb91 with h | h
  · rw [word_no (by decide) (by rw [h]; decide)] at c0 c1 c2
    rw [if_neg (by rw [h]; decide)] at c3 c5
    rw [if_pos h] at c4
    have pk : ((peek b).toNat : Int) = 91 := by rw [h]; rfl
    refine acalls_vc L_ok mixed [] (rs := [.cell 6 27, .tmp 7, .tmp 8]) (n := 226) Tryz.func54 rfl rfl rfl rfl (Nat.le_of_ble_eq_true rfl) (by kernel_rfl) ?_
    repeat' (first | refine unhold ?_ | (simp -dsimp -implicitDefEqProofs (disch := (first | assumption | omega | (simp only [ll1, ll2, ll3, ll4, ll5, ll6, ll7, ll8]; omega))) only [go_sem, reduceCtorEq, Nat.reducePow, Int.reducePow, Nat.reduceDiv, Nat.reduceBEq, Nat.reduceEqDiff, Nat.reduceLT, Nat.reduceLeDiff, Nat.reduceAdd, Nat.reduceSub, Nat.reduceMul, Nat.reduceMod, Int.reduceToNat, Int.reduceNeg, Int.reduceAdd, Int.reduceSub, Int.reduceMul, Int.reduceDiv, Int.reduceMod, Int.reduceLT, Int.reduceLE, Int.reduceEq, ↓reduceIte, hp, pk, flt, hw12]) | refine acalls_same (hb _) ?_ | refine ⟨_, hb _, ?_⟩ | refine ⟨_, _, hb _, ?_⟩ | refine acalls_same (c0 _) ?_ | refine ⟨_, c0 _, ?_⟩ | refine ⟨_, _, c0 _, ?_⟩ | refine acalls_same (c1 _) ?_ | refine ⟨_, c1 _, ?_⟩ | refine ⟨_, _, c1 _, ?_⟩ | refine acalls_same (c2 _) ?_ | refine ⟨_, c2 _, ?_⟩ | refine ⟨_, _, c2 _, ?_⟩ | refine acalls_same (c3 _) ?_ | refine ⟨_, c3 _, ?_⟩ | refine ⟨_, _, c3 _, ?_⟩ | refine acalls_same (c4 _) ?_ | refine ⟨_, c4 _, ?_⟩ | refine ⟨_, _, c4 _, ?_⟩ | refine vcI (fun _ => ?_) (fun _ => ?_) | (refine vcA ?_ ?_; focus (repeat' (first | omega | assumption | refine vcA ?_ ?_); done)) | omega | refine imp_in (fun _ => ?_))
    exact done_weak le_val0 (done_cut (valAV t (zeroJ, b, 4)) (Le.refl _) low_val ⟨rfl, rfl⟩)
  · rw [word_no (by decide) (by rw [h]; decide)] at c0 c1 c2
    rw [if_neg (by rw [h]; decide)] at c3 c4
    rw [if_pos h] at c5
    have pk : ((peek b).toNat : Int) = 123 := by rw [h]; rfl
    refine acalls_vc L_ok mixed [] (rs := [.cell 6 27, .tmp 7, .tmp 8]) (n := 226) Tryz.func54 rfl rfl rfl rfl (Nat.le_of_ble_eq_true rfl) (by kernel_rfl) ?_
    repeat' (first | refine unhold ?_ | (simp -dsimp -implicitDefEqProofs (disch := (first | assumption | omega | (simp only [ll1, ll2, ll3, ll4, ll5, ll6, ll7, ll8]; omega))) only [go_sem, reduceCtorEq, Nat.reducePow, Int.reducePow, Nat.reduceDiv, Nat.reduceBEq, Nat.reduceEqDiff, Nat.reduceLT, Nat.reduceLeDiff, Nat.reduceAdd, Nat.reduceSub, Nat.reduceMul, Nat.reduceMod, Int.reduceToNat, Int.reduceNeg, Int.reduceAdd, Int.reduceSub, Int.reduceMul, Int.reduceDiv, Int.reduceMod, Int.reduceLT, Int.reduceLE, Int.reduceEq, ↓reduceIte, hp, pk, flt, hw12]) | refine acalls_same (hb _) ?_ | refine ⟨_, hb _, ?_⟩ | refine ⟨_, _, hb _, ?_⟩ | refine acalls_same (c0 _) ?_ | refine ⟨_, c0 _, ?_⟩ | refine ⟨_, _, c0 _, ?_⟩ | refine acalls_same (c1 _) ?_ | refine ⟨_, c1 _, ?_⟩ | refine ⟨_, _, c1 _, ?_⟩ | refine acalls_same (c2 _) ?_ | refine ⟨_, c2 _, ?_⟩ | refine ⟨_, _, c2 _, ?_⟩ | refine acalls_same (c3 _) ?_ | refine ⟨_, c3 _, ?_⟩ | refine ⟨_, _, c3 _, ?_⟩ | refine acalls_same (c4 _) ?_ | refine ⟨_, c4 _, ?_⟩ | refine ⟨_, _, c4 _, ?_⟩ | refine acalls_same (c5 _) ?_ | refine ⟨_, c5 _, ?_⟩ | refine ⟨_, _, c5 _, ?_⟩ | refine vcI (fun _ => ?_) (fun _ => ?_) | (refine vcA ?_ ?_; focus (repeat' (first | omega | assumption | refine vcA ?_ ?_); done)) | omega | refine imp_in (fun _ => ?_))
    exact done_weak le_val0 (done_cut (valAV t (zeroJ, b, 4)) (Le.refl _) low_val ⟨rfl, rfl⟩)
theorem value_r {t : bytes} (hl : t.length ≤ 10000) : ∀ (n : Nat) (w : Int), n ≤ 12 → w = 12 - (n : Int) → RefC (valueP n) t w
  | 0, w, hn, hw => fun r a H ha hs => by
    rw [show valueP 0 r = (leafP (blanks r)).getD (zeroJ, blanks r, 4) by rw [valueP]]
    cases e : leafP (blanks r) with
    | some x => exact rvalue_leaf hl ha hs e
    | none => exact rvalue_deep hl (by omega) ha hs (leaf_none e)
  | n + 1, w, hn, hw => fun r a H ha hs => by
    rw [show valueP (n + 1) r = (leafP (blanks r)).getD (if peek (blanks r) = 91 then treeP (valueP n) 93 listJ ((blanks r).drop 1) else treeP (valueP n) 125 objJ ((blanks r).drop 1)) by rw [valueP]]
    have ih := value_r hl n (w + 1) (by omega) (by omega)
    cases e : leafP (blanks r) with
    | some x => exact rvalue_leaf hl ha hs e
    | none =>
      rw [Option.getD_none]
      rcases leaf_none e with h | h
      · rw [if_pos h]
        exact value_list hl (by omega) (suf_value n) ih ha hs e h
      · rw [if_neg (by rw [h]; decide)]
        exact value_obj hl (by omega) (suf_value n) ih ha hs e h
theorem Parse_r (s : bytes) (H : List AObj) (hl : s.length ≤ 10000) : ACalls Tryz.prog 21 [.str s] H (fun x H' => x = parseAV (parseP s) ∧ H' = H) := by
  unfold parseP
  by_cases c1 : 8192 < s.length
  · rw [if_pos c1]
    refine acalls_vc L_ok mixed [] (rs := [.cell 2 27, .tmp 3]) (n := 34) Tryz.func21 rfl rfl rfl rfl (Nat.le_of_ble_eq_true rfl) (by kernel_rfl) ?_
    repeat' (first | refine unhold ?_ | (simp -dsimp -implicitDefEqProofs (disch := (first | assumption | omega | (simp only [ll1, ll2, ll3, ll4, ll5, ll6, ll7, ll8]; omega))) only [go_sem, reduceCtorEq, Nat.reducePow, Int.reducePow, Nat.reduceDiv, Nat.reduceBEq, Nat.reduceEqDiff, Nat.reduceLT, Nat.reduceLeDiff, Nat.reduceAdd, Nat.reduceSub, Nat.reduceMul, Nat.reduceMod, Int.reduceToNat, Int.reduceNeg, Int.reduceAdd, Int.reduceSub, Int.reduceMul, Int.reduceDiv, Int.reduceMod, Int.reduceLT, Int.reduceLE, Int.reduceEq, ↓reduceIte]) | refine vcI (fun _ => ?_) (fun _ => ?_) | (refine vcA ?_ ?_; focus (repeat' (first | omega | assumption | refine vcA ?_ ?_); done)) | omega | refine imp_in (fun _ => ?_))
    exact done_weak (le_pair le_zero) (done_cut (parseAV (zeroJ, 3)) (Le.refl _) low_parse ⟨rfl, rfl⟩)
  · rw [if_neg c1]
    cases c2 : Lib.validD s with
    | false =>
      rw [if_pos rfl]
      refine acalls_vc L_ok mixed [] (rs := [.cell 2 27, .tmp 3]) (n := 34) Tryz.func21 rfl rfl rfl rfl (Nat.le_of_ble_eq_true rfl) (by kernel_rfl) ?_
      repeat' (first | refine unhold ?_ | (simp -dsimp -implicitDefEqProofs (disch := (first | assumption | omega | (simp only [ll1, ll2, ll3, ll4, ll5, ll6, ll7, ll8]; omega))) only [go_sem, reduceCtorEq, Nat.reducePow, Int.reducePow, Nat.reduceDiv, Nat.reduceBEq, Nat.reduceEqDiff, Nat.reduceLT, Nat.reduceLeDiff, Nat.reduceAdd, Nat.reduceSub, Nat.reduceMul, Nat.reduceMod, Int.reduceToNat, Int.reduceNeg, Int.reduceAdd, Int.reduceSub, Int.reduceMul, Int.reduceDiv, Int.reduceMod, Int.reduceLT, Int.reduceLE, Int.reduceEq, ↓reduceIte, c2]) | refine acalls_same (Right_r s _ hl) ?_ | refine ⟨_, Right_r s _ hl, ?_⟩ | refine ⟨_, _, Right_r s _ hl, ?_⟩ | refine vcI (fun _ => ?_) (fun _ => ?_) | (refine vcA ?_ ?_; focus (repeat' (first | omega | assumption | refine vcA ?_ ?_); done)) | omega | refine imp_in (fun _ => ?_))
      exact done_weak (le_pair le_zero) (done_cut (parseAV (zeroJ, 2)) (Le.refl _) low_parse ⟨rfl, rfl⟩)
    | true =>
      rw [if_neg (by simp)]
      have hv := fun H => value_r hl 12 0 (by omega) (by omega) s 0 H (by omega) (List.suffix_refl s)
      have hs1 := suf_value 12 s
      generalize valueP 12 s = q at *
      by_cases he : q.2.2 = 0
      · rw [valAV, if_pos he] at hv
        rw [if_neg (by simpa using he)]
        have hb := fun H => blank_r (H := H) hs1 hl
        have hs2 := suf_blanks hs1
        have h2 := suf_len hs2
        generalize blanks q.2.1 = b at *
        by_cases hbn : b = []
        · subst hbn
          rw [if_neg (by simp)]
          refine acalls_vc L_ok mixed [] (rs := [.cell 2 27, .tmp 3]) (n := 34) Tryz.func21 rfl rfl rfl rfl (Nat.le_of_ble_eq_true rfl) (by kernel_rfl) ?_
          repeat' (first | refine unhold ?_ | (simp -dsimp -implicitDefEqProofs (disch := (first | assumption | omega | (simp only [ll1, ll2, ll3, ll4, ll5, ll6, ll7, ll8]; omega))) only [go_sem, reduceCtorEq, Nat.reducePow, Int.reducePow, Nat.reduceDiv, Nat.reduceBEq, Nat.reduceEqDiff, Nat.reduceLT, Nat.reduceLeDiff, Nat.reduceAdd, Nat.reduceSub, Nat.reduceMul, Nat.reduceMod, Int.reduceToNat, Int.reduceNeg, Int.reduceAdd, Int.reduceSub, Int.reduceMul, Int.reduceDiv, Int.reduceMod, Int.reduceLT, Int.reduceLE, Int.reduceEq, ↓reduceIte, c2]) | refine acalls_same (Right_r s _ hl) ?_ | refine ⟨_, Right_r s _ hl, ?_⟩ | refine ⟨_, _, Right_r s _ hl, ?_⟩ | refine acalls_same (hv _) ?_ | refine ⟨_, hv _, ?_⟩ | refine ⟨_, _, hv _, ?_⟩ | refine acalls_same (hb _) ?_ | refine ⟨_, hb _, ?_⟩ | refine ⟨_, _, hb _, ?_⟩ | refine vcI (fun _ => ?_) (fun _ => ?_) | (refine vcA ?_ ?_; focus (repeat' (first | omega | assumption | refine vcA ?_ ?_); done)) | omega | refine imp_in (fun _ => ?_))
          exact done_cut (parseAV (q.1, 0)) (Le.refl _) low_parse ⟨rfl, rfl⟩
        · rw [if_pos (by simpa using hbn)]
          have hpos := List.length_pos_iff.2 hbn
          have hne : (((s.length - b.length : Nat) : Int) = ((s.length : Nat) : Int)) = False := eq_false (by omega)
          refine acalls_vc L_ok mixed [] (rs := [.cell 2 27, .tmp 3]) (n := 34) Tryz.func21 rfl rfl rfl rfl (Nat.le_of_ble_eq_true rfl) (by kernel_rfl) ?_
          repeat' (first | refine unhold ?_ | (simp -dsimp -implicitDefEqProofs (disch := (first | assumption | omega | (simp only [ll1, ll2, ll3, ll4, ll5, ll6, ll7, ll8]; omega))) only [go_sem, reduceCtorEq, Nat.reducePow, Int.reducePow, Nat.reduceDiv, Nat.reduceBEq, Nat.reduceEqDiff, Nat.reduceLT, Nat.reduceLeDiff, Nat.reduceAdd, Nat.reduceSub, Nat.reduceMul, Nat.reduceMod, Int.reduceToNat, Int.reduceNeg, Int.reduceAdd, Int.reduceSub, Int.reduceMul, Int.reduceDiv, Int.reduceMod, Int.reduceLT, Int.reduceLE, Int.reduceEq, ↓reduceIte, c2, hne]) | refine acalls_same (Right_r s _ hl) ?_ | refine ⟨_, Right_r s _ hl, ?_⟩ | refine ⟨_, _, Right_r s _ hl, ?_⟩ | refine acalls_same (hv _) ?_ | refine ⟨_, hv _, ?_⟩ | refine ⟨_, _, hv _, ?_⟩ | refine acalls_same (hb _) ?_ | refine ⟨_, hb _, ?_⟩ | refine ⟨_, _, hb _, ?_⟩ | refine vcI (fun _ => ?_) (fun _ => ?_) | (refine vcA ?_ ?_; focus (repeat' (first | omega | assumption | refine vcA ?_ ?_); done)) | omega | refine imp_in (fun _ => ?_))
          exact done_weak (le_pair le_zero) (done_cut (parseAV (zeroJ, 2)) (Le.refl _) low_parse ⟨rfl, rfl⟩)
      · rw [valAV, if_neg he] at hv
        rw [if_pos (by simpa using he)]
        have hef : (q.2.2 = 0) = False := eq_false he
        refine acalls_vc L_ok mixed [] (rs := [.cell 2 27, .tmp 3]) (n := 34) Tryz.func21 rfl rfl rfl rfl (Nat.le_of_ble_eq_true rfl) (by kernel_rfl) ?_
        repeat' (first | refine unhold ?_ | (simp -dsimp -implicitDefEqProofs (disch := (first | assumption | omega | (simp only [ll1, ll2, ll3, ll4, ll5, ll6, ll7, ll8]; omega))) only [go_sem, reduceCtorEq, Nat.reducePow, Int.reducePow, Nat.reduceDiv, Nat.reduceBEq, Nat.reduceEqDiff, Nat.reduceLT, Nat.reduceLeDiff, Nat.reduceAdd, Nat.reduceSub, Nat.reduceMul, Nat.reduceMod, Int.reduceToNat, Int.reduceNeg, Int.reduceAdd, Int.reduceSub, Int.reduceMul, Int.reduceDiv, Int.reduceMod, Int.reduceLT, Int.reduceLE, Int.reduceEq, ↓reduceIte, c2, hef]) | refine acalls_same (Right_r s _ hl) ?_ | refine ⟨_, Right_r s _ hl, ?_⟩ | refine ⟨_, _, Right_r s _ hl, ?_⟩ | refine acalls_same (hv _) ?_ | refine ⟨_, hv _, ?_⟩ | refine ⟨_, _, hv _, ?_⟩ | refine vcI (fun _ => ?_) (fun _ => ?_) | (refine vcA ?_ ?_; focus (repeat' (first | omega | assumption | refine vcA ?_ ?_); done)) | omega | refine imp_in (fun _ => ?_))
        exact done_weak (le_pair le_zero) (done_cut (parseAV (zeroJ, q.2.2)) (Le.refl _) low_parse ⟨rfl, rfl⟩)
theorem JsonParses_c (s : bytes) (H : List AObj) : ACalls Tryz.prog 4 [.str s] H (fun x H' => x = .bool true ∧ H' = H) := by
  by_cases c1 : 9000 < s.length
  · refine acalls_vc L_ok mixed [] (rs := [.tmp 2]) (n := 38) Tryz.func4 rfl rfl rfl rfl (Nat.le_of_ble_eq_true rfl) (by kernel_rfl) ?_
    repeat' (first | refine unhold ?_ | (simp -dsimp -implicitDefEqProofs (disch := (first | assumption | omega | (simp only [ll1, ll2, ll3, ll4, ll5, ll6, ll7, ll8]; omega))) only [go_sem, reduceCtorEq, Nat.reducePow, Int.reducePow, Nat.reduceDiv, Nat.reduceBEq, Nat.reduceEqDiff, Nat.reduceLT, Nat.reduceLeDiff, Nat.reduceAdd, Nat.reduceSub, Nat.reduceMul, Nat.reduceMod, Int.reduceToNat, Int.reduceNeg, Int.reduceAdd, Int.reduceSub, Int.reduceMul, Int.reduceDiv, Int.reduceMod, Int.reduceLT, Int.reduceLE, Int.reduceEq, ↓reduceIte]) | refine acalls_same (alive_c _) ?_ | refine ⟨_, alive_c _, ?_⟩ | refine ⟨_, _, alive_c _, ?_⟩ | refine vcI (fun _ => ?_) (fun _ => ?_) | (refine vcA ?_ ?_; focus (repeat' (first | omega | assumption | refine vcA ?_ ?_); done)) | omega | refine imp_in (fun _ => ?_))
    exact done_same ⟨rfl, rfl⟩
  · have h1 := fun H => Parse_c s H (by omega)
    have h2 := fun H => Parse_r s H (by omega)
    obtain ⟨g1, g2⟩ := parse_good s
    generalize parseP s = p at *
    unfold parseAV at h1 h2
    have cA := fun H => Alike_c p.1 p.1 H g1
    have cR := fun H => Right_j p.1 H g1
    by_cases he : p.2 = 0
    · rw [g2 he] at cR
      refine acalls_vc L_ok mixed [] (rs := [.tmp 2]) (n := 38) Tryz.func4 rfl rfl rfl rfl (Nat.le_of_ble_eq_true rfl) (by kernel_rfl) ?_
      repeat' (first | refine unhold ?_ | (simp -dsimp -implicitDefEqProofs (disch := (first | assumption | omega | (simp only [ll1, ll2, ll3, ll4, ll5, ll6, ll7, ll8]; omega))) only [go_sem, reduceCtorEq, Nat.reducePow, Int.reducePow, Nat.reduceDiv, Nat.reduceBEq, Nat.reduceEqDiff, Nat.reduceLT, Nat.reduceLeDiff, Nat.reduceAdd, Nat.reduceSub, Nat.reduceMul, Nat.reduceMod, Int.reduceToNat, Int.reduceNeg, Int.reduceAdd, Int.reduceSub, Int.reduceMul, Int.reduceDiv, Int.reduceMod, Int.reduceLT, Int.reduceLE, Int.reduceEq, ↓reduceIte, he]) | refine acalls_same (alive_c _) ?_ | refine ⟨_, alive_c _, ?_⟩ | refine ⟨_, _, alive_c _, ?_⟩ | refine acalls_same (h1 _) ?_ | refine ⟨_, h1 _, ?_⟩ | refine ⟨_, _, h1 _, ?_⟩ | refine acalls_same (h2 _) ?_ | refine ⟨_, h2 _, ?_⟩ | refine ⟨_, _, h2 _, ?_⟩ | refine acalls_same (cA _) ?_ | refine ⟨_, cA _, ?_⟩ | refine ⟨_, _, cA _, ?_⟩ | refine acalls_same (cR _) ?_ | refine ⟨_, cR _, ?_⟩ | refine ⟨_, _, cR _, ?_⟩ | refine vcI (fun _ => ?_) (fun _ => ?_) | (refine vcA ?_ ?_; focus (repeat' (first | omega | assumption | refine vcA ?_ ?_); done)) | omega | refine imp_in (fun _ => ?_))
      exact done_lit ⟨rfl, rfl⟩
    · have hef : (p.2 = 0) = False := eq_false he
      refine acalls_vc L_ok mixed [] (rs := [.tmp 2]) (n := 38) Tryz.func4 rfl rfl rfl rfl (Nat.le_of_ble_eq_true rfl) (by kernel_rfl) ?_
      repeat' (first | refine unhold ?_ | (simp -dsimp -implicitDefEqProofs (disch := (first | assumption | omega | (simp only [ll1, ll2, ll3, ll4, ll5, ll6, ll7, ll8]; omega))) only [go_sem, reduceCtorEq, Nat.reducePow, Int.reducePow, Nat.reduceDiv, Nat.reduceBEq, Nat.reduceEqDiff, Nat.reduceLT, Nat.reduceLeDiff, Nat.reduceAdd, Nat.reduceSub, Nat.reduceMul, Nat.reduceMod, Int.reduceToNat, Int.reduceNeg, Int.reduceAdd, Int.reduceSub, Int.reduceMul, Int.reduceDiv, Int.reduceMod, Int.reduceLT, Int.reduceLE, Int.reduceEq, ↓reduceIte, hef]) | refine acalls_same (alive_c _) ?_ | refine ⟨_, alive_c _, ?_⟩ | refine ⟨_, _, alive_c _, ?_⟩ | refine acalls_same (h1 _) ?_ | refine ⟨_, h1 _, ?_⟩ | refine ⟨_, _, h1 _, ?_⟩ | refine acalls_same (h2 _) ?_ | refine ⟨_, h2 _, ?_⟩ | refine ⟨_, _, h2 _, ?_⟩ | refine acalls_same (cA _) ?_ | refine ⟨_, cA _, ?_⟩ | refine ⟨_, _, cA _, ?_⟩ | refine vcI (fun _ => ?_) (fun _ => ?_) | (refine vcA ?_ ?_; focus (repeat' (first | omega | assumption | refine vcA ?_ ?_); done)) | omega | refine imp_in (fun _ => ?_))
      exact done_lit ⟨rfl, rfl⟩
end Go.Proofs.YtplmbhjhihoneaaGreatDoor
end
