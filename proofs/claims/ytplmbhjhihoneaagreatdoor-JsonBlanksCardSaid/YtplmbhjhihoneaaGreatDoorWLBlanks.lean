/- JsonBlanks' law. -/
import Derived.Test.YtplmbhjhihoneaaGreatDoorW7
import Derived.Test.YtplmbhjhihoneaaGreatDoorWPi
section
set_option linter.unusedSimpArgs false
set_option linter.unusedVariables false
namespace Go.Proofs.YtplmbhjhihoneaaGreatDoor
open Go V
set_option maxRecDepth 10000
set_option maxHeartbeats 4000000
/-- The state of the law's loop: the place, whether within a text, whether behind its sign that turns, what is made. -/
structure BS where
  i : Nat
  w : Bool
  t : Bool
  o : bytes
theorem wideL_cons (g i : Nat) (w t : Bool) (c : UInt8) (r : bytes) : wideL g i w t (c :: r) = (if (!w && isSign c) && (g + i) % 2 == 0 then [32, 9] else []) ++ c :: ((if (!w && isSign c) && (g + i) % 3 == 0 then [10, 13, 32] else []) ++ wideL g (i + 1) (nextW w t c) (nextT w t c) r) := by rw [wideL]
theorem sign_int (c : UInt8) : isSign c = decide ((c.toNat : Int) = 91 ∨ (c.toNat : Int) = 93 ∨ (c.toNat : Int) = 123 ∨ (c.toNat : Int) = 125 ∨ (c.toNat : Int) = 44 ∨ (c.toNat : Int) = 58) := by
  have h : ∀ (d : UInt8) (n : Int), (d.toNat : Int) = n → (c == d) = decide ((c.toNat : Int) = n) := fun d n e => by
    rw [Bool.eq_iff_iff, beq_iff_eq, decide_eq_true_eq]
    exact ⟨fun k => by rw [k, e], fun k => UInt8.toNat_inj.1 (by omega)⟩
  unfold isSign
  rw [h 91 91 rfl, h 93 93 rfl, h 123 123 rfl, h 125 125 rfl, h 44 44 rfl, h 58 58 rfl]
  rw [Bool.eq_iff_iff]
  simp only [Bool.or_eq_true, decide_eq_true_eq]
  omega
theorem JsonBlanks_c (s : bytes) (g : Int) (hg0 : 0 ≤ g ∧ g ≤ 255) (H : List AObj) : ACalls Tryz.prog 3 [.str s, .lit (.int .u8 g)] H (fun x H' => x = .bool true ∧ H' = H) := by
  by_cases c1 : 1500 < s.length
  · have ht : (1500 < ((s.length : Nat) : Int)) = True := eq_true (by omega)
    refine acalls_vc L_ok mixed [] (rs := [.tmp 4]) (n := 123) Tryz.func3 rfl rfl rfl rfl (Nat.le_of_ble_eq_true rfl) (by kernel_rfl) ?_
    repeat' (first | refine unhold ?_ | (simp -dsimp -implicitDefEqProofs (disch := (first | assumption | omega | (simp only [ll1, ll2, ll3, ll4, ll5, ll6, ll7, ll8]; omega))) only [go_sem, reduceCtorEq, Nat.reducePow, Int.reducePow, Nat.reduceDiv, Nat.reduceBEq, Nat.reduceEqDiff, Nat.reduceLT, Nat.reduceLeDiff, Nat.reduceAdd, Nat.reduceSub, Nat.reduceMul, Nat.reduceMod, Int.reduceToNat, Int.reduceNeg, Int.reduceAdd, Int.reduceSub, Int.reduceMul, Int.reduceDiv, Int.reduceMod, Int.reduceLT, Int.reduceLE, Int.reduceEq, ↓reduceIte, ht]) | refine acalls_same (alive_c _) ?_ | refine ⟨_, alive_c _, ?_⟩ | refine ⟨_, _, alive_c _, ?_⟩ | refine vcI (fun _ => ?_) (fun _ => ?_) | (refine vcA ?_ ?_; focus (repeat' (first | omega | assumption | refine vcA ?_ ?_); done)) | omega | refine imp_in (fun _ => ?_))
    exact done_same ⟨rfl, rfl⟩
  have hf : (1500 < ((s.length : Nat) : Int)) = False := eq_false (by omega)
  have cP := fun H => Printable_ref s H (by omega)
  cases hpl : isPlain s with
  | false =>
    rw [hpl] at cP
    refine acalls_vc L_ok mixed [] (rs := [.tmp 4]) (n := 123) Tryz.func3 rfl rfl rfl rfl (Nat.le_of_ble_eq_true rfl) (by kernel_rfl) ?_
    repeat' (first | refine unhold ?_ | (simp -dsimp -implicitDefEqProofs (disch := (first | assumption | omega | (simp only [ll1, ll2, ll3, ll4, ll5, ll6, ll7, ll8]; omega))) only [go_sem, reduceCtorEq, Nat.reducePow, Int.reducePow, Nat.reduceDiv, Nat.reduceBEq, Nat.reduceEqDiff, Nat.reduceLT, Nat.reduceLeDiff, Nat.reduceAdd, Nat.reduceSub, Nat.reduceMul, Nat.reduceMod, Int.reduceToNat, Int.reduceNeg, Int.reduceAdd, Int.reduceSub, Int.reduceMul, Int.reduceDiv, Int.reduceMod, Int.reduceLT, Int.reduceLE, Int.reduceEq, ↓reduceIte, hf]) | refine acalls_same (alive_c _) ?_ | refine ⟨_, alive_c _, ?_⟩ | refine ⟨_, _, alive_c _, ?_⟩ | refine acalls_same (cP _) ?_ | refine ⟨_, cP _, ?_⟩ | refine ⟨_, _, cP _, ?_⟩ | refine vcI (fun _ => ?_) (fun _ => ?_) | (refine vcA ?_ ?_; focus (repeat' (first | omega | assumption | refine vcA ?_ ?_); done)) | omega | refine imp_in (fun _ => ?_))
    exact done_same ⟨rfl, rfl⟩
  | true =>
    rw [hpl] at cP
    have cS := fun H => Parse_c s H (by omega)
    obtain ⟨gd, _⟩ := parse_good s
    unfold parseAV at cS
    generalize hps : parseP s = p at *
    generalize hW : wideL g.toNat 0 false false s = W
    refine acalls_vc L_ok mixed [] (rs := [.tmp 4]) (n := 123) Tryz.func3 rfl rfl rfl rfl (Nat.le_of_ble_eq_true rfl) (by kernel_rfl) ?_
    repeat' (first | refine unhold ?_ | (simp -dsimp -implicitDefEqProofs (disch := (first | assumption | omega | (simp only [ll1, ll2, ll3, ll4, ll5, ll6, ll7, ll8]; omega))) only [go_sem, reduceCtorEq, Nat.reducePow, Int.reducePow, Nat.reduceDiv, Nat.reduceBEq, Nat.reduceEqDiff, Nat.reduceLT, Nat.reduceLeDiff, Nat.reduceAdd, Nat.reduceSub, Nat.reduceMul, Nat.reduceMod, Int.reduceToNat, Int.reduceNeg, Int.reduceAdd, Int.reduceSub, Int.reduceMul, Int.reduceDiv, Int.reduceMod, Int.reduceLT, Int.reduceLE, Int.reduceEq, ↓reduceIte, hf]) | refine acalls_same (alive_c _) ?_ | refine ⟨_, alive_c _, ?_⟩ | refine ⟨_, _, alive_c _, ?_⟩ | refine acalls_same (cP _) ?_ | refine ⟨_, cP _, ?_⟩ | refine ⟨_, _, cP _, ?_⟩ | refine acalls_same (cS _) ?_ | refine ⟨_, cS _, ?_⟩ | refine ⟨_, _, cS _, ?_⟩ | refine vcI (fun _ => ?_) (fun _ => ?_) | (refine vcA ?_ ?_; focus (repeat' (first | omega | assumption | refine vcA ?_ ?_); done)) | omega | refine imp_in (fun _ => ?_))
    refine vc_loopk L_ok mixed [] [0, 1, 4, 5, 6] (fun y : BS => y.i ≤ s.length ∧ y.o.length ≤ 6 * y.i ∧ (y.t = true → y.w = true) ∧ y.o ++ wideL g.toNat y.i y.w y.t (s.drop y.i) = W) (fun y => [(10, .int .i64 y.i), (8, .bool y.w), (9, .bool y.t), (7, .str y.o)]) (fun _ => H ++ [.cells (.one 27) (jCells p.1)]) (fun y => s.length - y.i) (by kernel_rfl) ?_ ⟨0, false, false, []⟩ ⟨by simp, by simp, fun h => h, by simpa using hW⟩ env_ok rfl
    rintro ⟨i, w, t, o⟩ ⟨hi, hol, htw, ho⟩
    dsimp only at hi hol htw ho ⊢
    dsimp only [jCells]
    by_cases hil : i < s.length
    · have filt : ((i : Int) < ((s.length : Nat) : Int)) = True := eq_true (by omega)
      have hd := drop_cons (l := s) (i := i) (0 : UInt8) hil
      rw [hd, wideL_cons] at ho
      have hsl : (((i : Int) + 1).toNat - i) = 1 := by omega
      have htk : (s.drop i).take 1 = [s.getD i 0] := by rw [hd]; rfl
      have hsg := sign_int (s.getD i 0)
      have n34 : ((s.getD i 0 == 34) = true) = (((s.getD i 0).toNat : Int) = 34) := by
        rw [beq_iff_eq]; exact propext ⟨fun e => by rw [e]; rfl, fun e => UInt8.toNat_inj.1 (by show _ = 34; omega)⟩
      have n92 : ((s.getD i 0 == 92) = true) = (((s.getD i 0).toNat : Int) = 92) := by
        rw [beq_iff_eq]; exact propext ⟨fun e => by rw [e]; rfl, fun e => UInt8.toNat_inj.1 (by show _ = 92; omega)⟩
      obtain ⟨c, hc⟩ : ∃ c, s.getD i 0 = c := ⟨_, rfl⟩
      rw [hc] at hd ho htk hsg n34 n92
      cases w with
      | true =>
        have ho : o ++ c :: wideL g.toNat (i + 1) (nextW true t c) (nextT true t c) (s.drop (i + 1)) = W := ho
        have ho2 : (o ++ [c]) ++ wideL g.toNat (i + 1) (nextW true t c) (nextT true t c) (s.drop (i + 1)) = W := by rw [List.append_assoc]; exact ho
        cases t with
        | true =>
          repeat' (first | refine unhold ?_ | (simp -dsimp -implicitDefEqProofs (disch := (first | assumption | omega | (simp only [ll1, ll2, ll3, ll4, ll5, ll6, ll7, ll8]; omega))) only [go_sem, reduceCtorEq, Nat.reducePow, Int.reducePow, Nat.reduceDiv, Nat.reduceBEq, Nat.reduceEqDiff, Nat.reduceLT, Nat.reduceLeDiff, Nat.reduceAdd, Nat.reduceSub, Nat.reduceMul, Nat.reduceMod, Int.reduceToNat, Int.reduceNeg, Int.reduceAdd, Int.reduceSub, Int.reduceMul, Int.reduceDiv, Int.reduceMod, Int.reduceLT, Int.reduceLE, Int.reduceEq, ↓reduceIte, filt, hc, hsl, htk]) | refine vcI (fun _ => ?_) (fun _ => ?_) | (refine vcA ?_ ?_; focus (repeat' (first | omega | assumption | refine vcA ?_ ?_); done)) | omega | refine imp_in (fun _ => ?_))
          refine again (⟨i + 1, true, false, o ++ [c]⟩) ?_ ?_ rfl env_ok
          · dsimp only; omega
          · exact ⟨by dsimp only; omega, by simp; omega, fun h => (by cases h), ho2⟩
        | false =>
          by_cases k92 : ((c.toNat : Nat) : Int) = 92
          · have f92 : (c == 92) = true := Eq.mpr n92 k92
            have e1 : nextW true false c = true := by unfold nextW; rw [f92]; rfl
            have e2 : nextT true false c = true := by unfold nextT; rw [f92]; rfl
            rw [e1, e2] at ho2
            repeat' (first | refine unhold ?_ | (simp -dsimp -implicitDefEqProofs (disch := (first | assumption | omega | (simp only [ll1, ll2, ll3, ll4, ll5, ll6, ll7, ll8]; omega))) only [go_sem, reduceCtorEq, Nat.reducePow, Int.reducePow, Nat.reduceDiv, Nat.reduceBEq, Nat.reduceEqDiff, Nat.reduceLT, Nat.reduceLeDiff, Nat.reduceAdd, Nat.reduceSub, Nat.reduceMul, Nat.reduceMod, Int.reduceToNat, Int.reduceNeg, Int.reduceAdd, Int.reduceSub, Int.reduceMul, Int.reduceDiv, Int.reduceMod, Int.reduceLT, Int.reduceLE, Int.reduceEq, ↓reduceIte, filt, hc, hsl, htk, k92]) | refine vcI (fun _ => ?_) (fun _ => ?_) | (refine vcA ?_ ?_; focus (repeat' (first | omega | assumption | refine vcA ?_ ?_); done)) | omega | refine imp_in (fun _ => ?_))
            refine again (⟨i + 1, true, true, o ++ [c]⟩) ?_ ?_ rfl env_ok
            · dsimp only; omega
            · exact ⟨by dsimp only; omega, by simp; omega, fun _ => rfl, ho2⟩
          · have f92 : (c == 92) = false := by rw [Bool.eq_false_iff]; rw [Ne, n92]; exact k92
            by_cases k34 : ((c.toNat : Nat) : Int) = 34
            · have f34 : (c == 34) = true := Eq.mpr n34 k34
              have e1 : nextW true false c = false := by unfold nextW; rw [f92, f34]; rfl
              have e2 : nextT true false c = false := by unfold nextT; rw [f92]; rfl
              rw [e1, e2] at ho2
              repeat' (first | refine unhold ?_ | (simp -dsimp -implicitDefEqProofs (disch := (first | assumption | omega | (simp only [ll1, ll2, ll3, ll4, ll5, ll6, ll7, ll8]; omega))) only [go_sem, reduceCtorEq, Nat.reducePow, Int.reducePow, Nat.reduceDiv, Nat.reduceBEq, Nat.reduceEqDiff, Nat.reduceLT, Nat.reduceLeDiff, Nat.reduceAdd, Nat.reduceSub, Nat.reduceMul, Nat.reduceMod, Int.reduceToNat, Int.reduceNeg, Int.reduceAdd, Int.reduceSub, Int.reduceMul, Int.reduceDiv, Int.reduceMod, Int.reduceLT, Int.reduceLE, Int.reduceEq, ↓reduceIte, filt, hc, hsl, htk, k92, k34]) | refine vcI (fun _ => ?_) (fun _ => ?_) | (refine vcA ?_ ?_; focus (repeat' (first | omega | assumption | refine vcA ?_ ?_); done)) | omega | refine imp_in (fun _ => ?_))
              refine again (⟨i + 1, false, false, o ++ [c]⟩) ?_ ?_ rfl env_ok
              · dsimp only; omega
              · exact ⟨by dsimp only; omega, by simp; omega, fun h => (by cases h), ho2⟩
            · have f34 : (c == 34) = false := by rw [Bool.eq_false_iff]; rw [Ne, n34]; exact k34
              have e1 : nextW true false c = true := by unfold nextW; rw [f92, f34]; rfl
              have e2 : nextT true false c = false := by unfold nextT; rw [f92]; rfl
              rw [e1, e2] at ho2
              repeat' (first | refine unhold ?_ | (simp -dsimp -implicitDefEqProofs (disch := (first | assumption | omega | (simp only [ll1, ll2, ll3, ll4, ll5, ll6, ll7, ll8]; omega))) only [go_sem, reduceCtorEq, Nat.reducePow, Int.reducePow, Nat.reduceDiv, Nat.reduceBEq, Nat.reduceEqDiff, Nat.reduceLT, Nat.reduceLeDiff, Nat.reduceAdd, Nat.reduceSub, Nat.reduceMul, Nat.reduceMod, Int.reduceToNat, Int.reduceNeg, Int.reduceAdd, Int.reduceSub, Int.reduceMul, Int.reduceDiv, Int.reduceMod, Int.reduceLT, Int.reduceLE, Int.reduceEq, ↓reduceIte, filt, hc, hsl, htk, k92, k34]) | refine vcI (fun _ => ?_) (fun _ => ?_) | (refine vcA ?_ ?_; focus (repeat' (first | omega | assumption | refine vcA ?_ ?_); done)) | omega | refine imp_in (fun _ => ?_))
              refine again (⟨i + 1, true, false, o ++ [c]⟩) ?_ ?_ rfl env_ok
              · dsimp only; omega
              · exact ⟨by dsimp only; omega, by simp; omega, fun h => (by cases h), ho2⟩
      | false =>
        obtain rfl : t = false := by cases t; rfl; exact absurd (htw rfl) (by simp)
        cases hs : isSign c with
        | false =>
          rw [hs] at hsg
          have hno := of_decide_eq_false hsg.symm
          have s1 : (((c.toNat : Nat) : Int) = 91) = False := eq_false (by omega)
          have s2 : (((c.toNat : Nat) : Int) = 93) = False := eq_false (by omega)
          have s3 : (((c.toNat : Nat) : Int) = 123) = False := eq_false (by omega)
          have s4 : (((c.toNat : Nat) : Int) = 125) = False := eq_false (by omega)
          have s5 : (((c.toNat : Nat) : Int) = 44) = False := eq_false (by omega)
          have s6 : (((c.toNat : Nat) : Int) = 58) = False := eq_false (by omega)
          have ho2 : (o ++ [c]) ++ wideL g.toNat (i + 1) (nextW false false c) (nextT false false c) (s.drop (i + 1)) = W := by
            rw [List.append_assoc, ← ho, hs]
            rfl
          clear hno hsg
          by_cases k34 : ((c.toNat : Nat) : Int) = 34
          · have f34 : (c == 34) = true := Eq.mpr n34 k34
            have e1 : nextW false false c = true := by unfold nextW; rw [f34]; rfl
            have e2 : nextT false false c = false := rfl
            rw [e1, e2] at ho2
            repeat' (first | refine unhold ?_ | (simp -dsimp -implicitDefEqProofs (disch := (first | assumption | omega | (simp only [ll1, ll2, ll3, ll4, ll5, ll6, ll7, ll8]; omega))) only [go_sem, reduceCtorEq, Nat.reducePow, Int.reducePow, Nat.reduceDiv, Nat.reduceBEq, Nat.reduceEqDiff, Nat.reduceLT, Nat.reduceLeDiff, Nat.reduceAdd, Nat.reduceSub, Nat.reduceMul, Nat.reduceMod, Int.reduceToNat, Int.reduceNeg, Int.reduceAdd, Int.reduceSub, Int.reduceMul, Int.reduceDiv, Int.reduceMod, Int.reduceLT, Int.reduceLE, Int.reduceEq, ↓reduceIte, filt, hc, hsl, htk, k34]) | refine vcI (fun _ => ?_) (fun _ => ?_) | (refine vcA ?_ ?_; focus (repeat' (first | omega | assumption | refine vcA ?_ ?_); done)) | omega | refine imp_in (fun _ => ?_))
            refine again (⟨i + 1, true, false, o ++ [c]⟩) ?_ ?_ rfl env_ok
            · dsimp only; omega
            · exact ⟨by dsimp only; omega, by simp; omega, fun h => (by cases h), ho2⟩
          · have f34 : (c == 34) = false := by rw [Bool.eq_false_iff]; rw [Ne, n34]; exact k34
            have e1 : nextW false false c = false := by unfold nextW; rw [f34]; rfl
            have e2 : nextT false false c = false := rfl
            rw [e1, e2] at ho2
            repeat' (first | refine unhold ?_ | (simp -dsimp -implicitDefEqProofs (disch := (first | assumption | omega | (simp only [ll1, ll2, ll3, ll4, ll5, ll6, ll7, ll8]; omega))) only [go_sem, reduceCtorEq, Nat.reducePow, Int.reducePow, Nat.reduceDiv, Nat.reduceBEq, Nat.reduceEqDiff, Nat.reduceLT, Nat.reduceLeDiff, Nat.reduceAdd, Nat.reduceSub, Nat.reduceMul, Nat.reduceMod, Int.reduceToNat, Int.reduceNeg, Int.reduceAdd, Int.reduceSub, Int.reduceMul, Int.reduceDiv, Int.reduceMod, Int.reduceLT, Int.reduceLE, Int.reduceEq, ↓reduceIte, filt, hc, hsl, htk, k34, s1, s2, s3, s4, s5, s6]) | refine vcI (fun _ => ?_) (fun _ => ?_) | (refine vcA ?_ ?_; focus (repeat' (first | omega | assumption | refine vcA ?_ ?_); done)) | omega | refine imp_in (fun _ => ?_))
            refine again (⟨i + 1, false, false, o ++ [c]⟩) ?_ ?_ rfl env_ok
            · dsimp only; omega
            · exact ⟨by dsimp only; omega, by simp; omega, fun h => (by cases h), ho2⟩
        | true =>
          rw [hs] at hsg
          have hyes := of_decide_eq_true hsg.symm
          have k34 : (((c.toNat : Nat) : Int) = 34) = False := eq_false (by omega)
          have f34 : (c == 34) = false := by rw [Bool.eq_false_iff]; rw [Ne, n34, k34]; exact id
          have e1 : nextW false false c = false := by unfold nextW; rw [f34]; rfl
          have e2 : nextT false false c = false := rfl
          rw [e1, e2, hs] at ho
          have q2 : ∀ (_ : Unit), ((g.toNat + i) % 2 == 0) = decide ((g + (i : Int)) % 2 = 0) := fun _ => by
            rw [Bool.eq_iff_iff, beq_iff_eq, decide_eq_true_eq]; omega
          have q3 : ∀ (_ : Unit), ((g.toNat + i) % 3 == 0) = decide ((g + (i : Int)) % 3 = 0) := fun _ => by
            rw [Bool.eq_iff_iff, beq_iff_eq, decide_eq_true_eq]; omega
          rw [q2 (), q3 ()] at ho
          clear hsg
          by_cases m2 : (g + (i : Int)) % 2 = 0
          · rw [decide_eq_true m2] at ho
            by_cases m3 : (g + (i : Int)) % 3 = 0
            · rw [decide_eq_true m3] at ho
              have ho2 : (o ++ [32, 9, c, 10, 13, 32]) ++ wideL g.toNat (i + 1) false false (s.drop (i + 1)) = W := by rw [← ho]; simp
              repeat' (first | refine unhold ?_ | (simp -dsimp -implicitDefEqProofs (disch := (first | assumption | omega | (simp only [ll1, ll2, ll3, ll4, ll5, ll6, ll7, ll8]; omega))) only [go_sem, reduceCtorEq, Nat.reducePow, Int.reducePow, Nat.reduceDiv, Nat.reduceBEq, Nat.reduceEqDiff, Nat.reduceLT, Nat.reduceLeDiff, Nat.reduceAdd, Nat.reduceSub, Nat.reduceMul, Nat.reduceMod, Int.reduceToNat, Int.reduceNeg, Int.reduceAdd, Int.reduceSub, Int.reduceMul, Int.reduceDiv, Int.reduceMod, Int.reduceLT, Int.reduceLE, Int.reduceEq, ↓reduceIte, filt, hc, hsl, htk, k34, m2, m3]) | refine vcI (fun _ => ?_) (fun _ => ?_) | (refine vcA ?_ ?_; focus (repeat' (first | omega | assumption | refine vcA ?_ ?_); done)) | omega | refine imp_in (fun _ => ?_))
              all_goals first
                | (refine again (⟨i + 1, false, false, o ++ [32, 9, c, 10, 13, 32]⟩) ?_ ?_ rfl env_ok
                   · dsimp only; omega
                   · exact ⟨by dsimp only; omega, by simp; omega, fun h => (by cases h), ho2⟩)
                | (exfalso; omega)
            · rw [decide_eq_false m3] at ho
              have m3 := eq_false m3
              have ho2 : (o ++ [32, 9, c]) ++ wideL g.toNat (i + 1) false false (s.drop (i + 1)) = W := by rw [← ho]; simp
              repeat' (first | refine unhold ?_ | (simp -dsimp -implicitDefEqProofs (disch := (first | assumption | omega | (simp only [ll1, ll2, ll3, ll4, ll5, ll6, ll7, ll8]; omega))) only [go_sem, reduceCtorEq, Nat.reducePow, Int.reducePow, Nat.reduceDiv, Nat.reduceBEq, Nat.reduceEqDiff, Nat.reduceLT, Nat.reduceLeDiff, Nat.reduceAdd, Nat.reduceSub, Nat.reduceMul, Nat.reduceMod, Int.reduceToNat, Int.reduceNeg, Int.reduceAdd, Int.reduceSub, Int.reduceMul, Int.reduceDiv, Int.reduceMod, Int.reduceLT, Int.reduceLE, Int.reduceEq, ↓reduceIte, filt, hc, hsl, htk, k34, m2, m3]) | refine vcI (fun _ => ?_) (fun _ => ?_) | (refine vcA ?_ ?_; focus (repeat' (first | omega | assumption | refine vcA ?_ ?_); done)) | omega | refine imp_in (fun _ => ?_))
              all_goals first
                | (refine again (⟨i + 1, false, false, o ++ [32, 9, c]⟩) ?_ ?_ rfl env_ok
                   · dsimp only; omega
                   · exact ⟨by dsimp only; omega, by simp; omega, fun h => (by cases h), ho2⟩)
                | (exfalso; omega)
          · rw [decide_eq_false m2] at ho
            have m2 := eq_false m2
            by_cases m3 : (g + (i : Int)) % 3 = 0
            · rw [decide_eq_true m3] at ho
              have ho2 : (o ++ [c, 10, 13, 32]) ++ wideL g.toNat (i + 1) false false (s.drop (i + 1)) = W := by rw [← ho]; simp
              repeat' (first | refine unhold ?_ | (simp -dsimp -implicitDefEqProofs (disch := (first | assumption | omega | (simp only [ll1, ll2, ll3, ll4, ll5, ll6, ll7, ll8]; omega))) only [go_sem, reduceCtorEq, Nat.reducePow, Int.reducePow, Nat.reduceDiv, Nat.reduceBEq, Nat.reduceEqDiff, Nat.reduceLT, Nat.reduceLeDiff, Nat.reduceAdd, Nat.reduceSub, Nat.reduceMul, Nat.reduceMod, Int.reduceToNat, Int.reduceNeg, Int.reduceAdd, Int.reduceSub, Int.reduceMul, Int.reduceDiv, Int.reduceMod, Int.reduceLT, Int.reduceLE, Int.reduceEq, ↓reduceIte, filt, hc, hsl, htk, k34, m2, m3]) | refine vcI (fun _ => ?_) (fun _ => ?_) | (refine vcA ?_ ?_; focus (repeat' (first | omega | assumption | refine vcA ?_ ?_); done)) | omega | refine imp_in (fun _ => ?_))
              all_goals first
                | (refine again (⟨i + 1, false, false, o ++ [c, 10, 13, 32]⟩) ?_ ?_ rfl env_ok
                   · dsimp only; omega
                   · exact ⟨by dsimp only; omega, by simp; omega, fun h => (by cases h), ho2⟩)
                | (exfalso; omega)
            · rw [decide_eq_false m3] at ho
              have m3 := eq_false m3
              have ho2 : (o ++ [c]) ++ wideL g.toNat (i + 1) false false (s.drop (i + 1)) = W := by rw [← ho]; simp
              repeat' (first | refine unhold ?_ | (simp -dsimp -implicitDefEqProofs (disch := (first | assumption | omega | (simp only [ll1, ll2, ll3, ll4, ll5, ll6, ll7, ll8]; omega))) only [go_sem, reduceCtorEq, Nat.reducePow, Int.reducePow, Nat.reduceDiv, Nat.reduceBEq, Nat.reduceEqDiff, Nat.reduceLT, Nat.reduceLeDiff, Nat.reduceAdd, Nat.reduceSub, Nat.reduceMul, Nat.reduceMod, Int.reduceToNat, Int.reduceNeg, Int.reduceAdd, Int.reduceSub, Int.reduceMul, Int.reduceDiv, Int.reduceMod, Int.reduceLT, Int.reduceLE, Int.reduceEq, ↓reduceIte, filt, hc, hsl, htk, k34, m2, m3]) | refine vcI (fun _ => ?_) (fun _ => ?_) | (refine vcA ?_ ?_; focus (repeat' (first | omega | assumption | refine vcA ?_ ?_); done)) | omega | refine imp_in (fun _ => ?_))
              all_goals first
                | (refine again (⟨i + 1, false, false, o ++ [c]⟩) ?_ ?_ rfl env_ok
                   · dsimp only; omega
                   · exact ⟨by dsimp only; omega, by simp; omega, fun h => (by cases h), ho2⟩)
                | (exfalso; omega)
    · obtain rfl : i = s.length := by omega
      rw [List.drop_length, wideL, List.append_nil] at ho
      subst ho
      by_cases c8 : 8192 < o.length
      · have ct : (8192 < ((o.length : Nat) : Int)) = True := eq_true (by omega)
        repeat' (first | refine unhold ?_ | (simp -dsimp -implicitDefEqProofs (disch := (first | assumption | omega | (simp only [ll1, ll2, ll3, ll4, ll5, ll6, ll7, ll8]; omega))) only [go_sem, reduceCtorEq, Nat.reducePow, Int.reducePow, Nat.reduceDiv, Nat.reduceBEq, Nat.reduceEqDiff, Nat.reduceLT, Nat.reduceLeDiff, Nat.reduceAdd, Nat.reduceSub, Nat.reduceMul, Nat.reduceMod, Int.reduceToNat, Int.reduceNeg, Int.reduceAdd, Int.reduceSub, Int.reduceMul, Int.reduceDiv, Int.reduceMod, Int.reduceLT, Int.reduceLE, Int.reduceEq, ↓reduceIte, ct]) | refine vcI (fun _ => ?_) (fun _ => ?_) | (refine vcA ?_ ?_; focus (repeat' (first | omega | assumption | refine vcA ?_ ?_); done)) | omega | refine imp_in (fun _ => ?_))
        exact done_cut (.lit (.bool true)) (Le.refl _) (.lit _) ⟨rfl, rfl⟩
      · have cf : (8192 < ((o.length : Nat) : Int)) = False := eq_false (by omega)
        have hasc : ∀ b ∈ s, b.toNat < 128 := fun b hb => by
          have := List.all_eq_true.1 hpl b hb
          have := of_decide_eq_true this
          omega
        have hsim := parse_sim (hW ▸ wideL_wide g.toNat s 0 false false) (by omega) (by omega) (asc_valid hasc) (asc_valid (hW ▸ wideL_asc g.toNat s 0 false false hasc))
        rw [hps] at hsim
        have cT := fun H => Parse_c o H (by omega)
        rw [hsim] at cT
        unfold parseAV at cT
        have cA := fun H => Alike_c p.1 p.1 H gd
        repeat' (first | refine unhold ?_ | (simp -dsimp -implicitDefEqProofs (disch := (first | assumption | omega | (simp only [ll1, ll2, ll3, ll4, ll5, ll6, ll7, ll8]; omega))) only [go_sem, reduceCtorEq, Nat.reducePow, Int.reducePow, Nat.reduceDiv, Nat.reduceBEq, Nat.reduceEqDiff, Nat.reduceLT, Nat.reduceLeDiff, Nat.reduceAdd, Nat.reduceSub, Nat.reduceMul, Nat.reduceMod, Int.reduceToNat, Int.reduceNeg, Int.reduceAdd, Int.reduceSub, Int.reduceMul, Int.reduceDiv, Int.reduceMod, Int.reduceLT, Int.reduceLE, Int.reduceEq, ↓reduceIte, cf]) | refine acalls_same (cT _) ?_ | refine ⟨_, cT _, ?_⟩ | refine ⟨_, _, cT _, ?_⟩ | refine acalls_same (cA _) ?_ | refine ⟨_, cA _, ?_⟩ | refine ⟨_, _, cA _, ?_⟩ | refine vcI (fun _ => ?_) (fun _ => ?_) | (refine vcA ?_ ?_; focus (repeat' (first | omega | assumption | refine vcA ?_ ?_); done)) | omega | refine imp_in (fun _ => ?_))
        exact done_cut (.lit (.bool true)) (Le.refl _) (.lit _) ⟨rfl, rfl⟩
end Go.Proofs.YtplmbhjhihoneaaGreatDoor
end
