/- Make: the program's and the document's. -/
import Derived.Test.YtplmbhjhihoneaaGreatDoorWPg
import Derived.Test.YtplmbhjhihoneaaGreatDoorWPf
section
set_option linter.unusedSimpArgs false
set_option linter.unusedVariables false
namespace Go.Proofs.YtplmbhjhihoneaaGreatDoor
open Go V
set_option maxRecDepth 10000
set_option maxHeartbeats 4000000
def goodP (p : bytes × JV) : Bool := rightJ 12 p.2 && Lib.validD p.1
def tallP (p : bytes × JV) : Bool := decide (12 ≤ deepJ 13 p.2)
def makeP (l : Prs) : JV × Int :=
  if l.all goodP = true then (match allP [] l with | none => (zeroJ, 6) | some a => if l.any tallP = true then (zeroJ, 4) else (ofP objJ a, 0)) else (zeroJ, 1)
theorem makeP_bad {l : Prs} {i : Nat} {p : bytes × JV} (h : l[i]? = some p) (k : goodP p = false) : makeP l = (zeroJ, 1) := by
  refine if_neg fun e => ?_
  rw [List.all_eq_true.1 e p (List.mem_of_getElem? h)] at k
  cases k
theorem makeP_all {l : Prs} (h : ∀ j, j < l.length → goodP (l.getD j ([], zeroJ)) = true) : makeP l = (match allP [] l with | none => (zeroJ, 6) | some a => if l.any tallP = true then (zeroJ, 4) else (ofP objJ a, 0)) := by
  refine if_pos (List.all_eq_true.2 fun p hp => ?_)
  obtain ⟨j, hj, rfl⟩ := List.mem_iff_getElem.1 hp
  have := h j hj
  rwa [List.getD, List.getElem?_eq_getElem hj] at this
theorem allP_drop {l acc : Prs} {i : Nat} {p : bytes × JV} (h : l[i]? = some p) : allP acc (l.drop i) = if (getP p.1 acc).isSome then none else allP (insP p.1 p.2 acc) (l.drop (i + 1)) := by
  rw [drop_put h, allP]
theorem ins_len (s : bytes) (x : JV) : ∀ l : Prs, (insP s x l).length ≤ l.length + 1
  | [] => by simp [insP]
  | p :: r => by
    have := ins_len s x r
    rw [insP]
    split
    · simp; omega
    · split <;> simp
theorem sumP_take {l : Prs} {i : Nat} {p : bytes × JV} (h : l[i]? = some p) : sumP (l.take (i + 1)) = sumP (l.take i) + (nameW p.1 + sizeJ p.2) := by
  rw [take_put h]
  unfold sumP
  rw [List.map_append, List.sum_append]
  simp
theorem acc_ok {acc : Prs} (h : srt (acc.map (·.1)) = true) (hl : acc.length ≤ 20000) : objOk (ofP objJ acc) := ⟨by simp [ofP, JV.names, JV.items], h, by simpa [ofP, JV.names] using hl⟩
theorem getP_j (acc : Prs) (s : bytes) : jget (ofP objJ acc) s = getP s acc := jget_ofP rfl acc s
def mObjs (H : List AObj) (v : JV) : List AObj := H ++ [.cells (.one 27) zCells, .cells (.one 27) (jCells v)]
theorem mObjs_len (H : List AObj) (v : JV) : (mObjs H v).length = H.length + 2 := by simp [mObjs]
theorem low_zc {m : Nat} : ∀ z ∈ zCells, Low m z := fun z hz => by
  simp only [zCells, List.mem_cons, List.not_mem_nil, or_false] at hz
  rcases hz with rfl | rfl | rfl | rfl | rfl
  · exact .lit _
  · exact .lit _
  · exact .str _
  · exact low_nilsl (fun k e => by cases e)
  · exact low_nilsl (fun k e => by cases e)
theorem low_jcc {m : Nat} (v : JV) : ∀ z ∈ jCells v, Low m z := fun z hz => by
  have := low_jAV (m := m) v
  rw [jAV_eq] at this
  cases this with
  | agg _ h => exact h z hz
theorem mObjs_low (H : List AObj) (v v' : JV) : ∀ (k : Nat) (sh : Shape) (cs : List AV), (mObjs H v')[k]? = some (.cells sh cs) → (mObjs H v)[k]? = some (.cells sh cs) ∨ ∀ z ∈ cs, Low (H.length + 2) z :=
  obj_app fun o ho sh cs e => by
    simp only [List.mem_cons, List.not_mem_nil, or_false] at ho
    subst e
    rcases ho with h | h
    · cases h; exact low_zc
    · cases h; exact low_jcc v'
structure MS where
  i : Nat
  a : Prs
  t : Bool
theorem tall_take {l : Prs} {i : Nat} {p : bytes × JV} (h : l[i]? = some p) : (l.take (i + 1)).any tallP = ((l.take i).any tallP || tallP p) := by
  rw [take_put h, List.any_append]
  simp
theorem tall_int (p : bytes × JV) : tallP p = decide (12 ≤ ((deepJ 13 p.2 : Nat) : Int)) := decide_eq_decide.2 (by omega)
abbrev pCells (p : bytes × JV) : List AV := [.str p.1, .lit (.int .i64 p.2.kind), .lit (.int .i64 p.2.num), .str p.2.text, .sl .sh 1 (p.2.names.map .str), .sl .sh 5 (p.2.items.map jAV)]
theorem zObj_low (H : List AObj) : ∀ (k : Nat) (sh : Shape) (cs : List AV), (H ++ [AObj.cells (.one 27) zCells])[k]? = some (.cells sh cs) → (H ++ [AObj.cells (.one 27) zCells])[k]? = some (.cells sh cs) ∨ ∀ z ∈ cs, Low (H.length + 1) z := fun _ _ _ e => .inl e
theorem goodP_eq (p : bytes × JV) : goodP p = (rightJ 12 p.2 && Lib.validD p.1) := rfl
theorem Make_j (l : Prs) (H : List AObj) (hl : l.length ≤ 1000) (hsz : ∀ p ∈ l, sizeJ p.2 ≤ 10000 ∧ p.1.length ≤ 10000) : ACalls Tryz.prog 26 [.sl .sh 6 (l.map pairAV)] H (fun y H' => y = parseAV (makeP l) ∧ H' = H) := by
  have hsz' : ∀ i, i < l.length → sizeJ (l.getD i ([], zeroJ)).2 ≤ 10000 ∧ (l.getD i ([], zeroJ)).1.length ≤ 10000 := fun i hi => hsz _ (mem_getD hi)
  refine acalls_vc L_ok mixed [] (rs := [.cell 2 27, .tmp 3]) (n := 64) Tryz.func26 rfl rfl rfl rfl (Nat.le_of_ble_eq_true rfl) (by kernel_rfl) ?_
  repeat' (first | refine unhold ?_ | (simp -dsimp -implicitDefEqProofs (disch := (first | assumption | omega | (simp only [ll1, ll2, ll3, ll4, ll5, ll6, ll7, ll8]; omega))) only [go_sem, reduceCtorEq, Nat.reducePow, Int.reducePow, Nat.reduceDiv, Nat.reduceBEq, Nat.reduceEqDiff, Nat.reduceLT, Nat.reduceLeDiff, Nat.reduceAdd, Nat.reduceSub, Nat.reduceMul, Nat.reduceMod, Int.reduceToNat, Int.reduceNeg, Int.reduceAdd, Int.reduceSub, Int.reduceMul, Int.reduceDiv, Int.reduceMod, Int.reduceLT, Int.reduceLE, Int.reduceEq, ↓reduceIte]) | refine vcI (fun _ => ?_) (fun _ => ?_) | (refine vcA ?_ ?_; focus (repeat' (first | omega | assumption | refine vcA ?_ ?_); done)) | omega | refine imp_in (fun _ => ?_))
  refine vc_loopk L_ok mixed [] [0, 2, 12, 13] (fun i : Nat => i ≤ l.length ∧ ∀ j, j < i → goodP (l.getD j ([], zeroJ)) = true) (fun i => [(14, .int .i64 i)]) (fun _ => H ++ [.cells (.one 27) zCells]) (fun i => l.length - i) (by kernel_rfl) ?_ 0 ⟨by omega, fun j hj => by omega⟩ env_ok rfl
  rintro i ⟨hi, hp⟩
  dsimp only [zCells]
  by_cases hil : i < l.length
  · have hg := get_getD ([], zeroJ) hil
    obtain ⟨z1, z2⟩ := hsz' i hil
    have cR := fun H => Right_j (l.getD i ([], zeroJ)).2 H z1
    have filt : ((i : Int) < ((l.length : Nat) : Int)) = True := eq_true (by omega)
    cases g1 : rightJ 12 (l.getD i ([], zeroJ)).2 with
    | false =>
      rw [makeP_bad hg (by rw [goodP_eq, g1]; rfl)]
      repeat' (first | refine unhold ?_ | (simp -dsimp -implicitDefEqProofs (disch := (first | assumption | omega | (simp only [ll1, ll2, ll3, ll4, ll5, ll6, ll7, ll8]; omega))) only [go_sem, reduceCtorEq, Nat.reducePow, Int.reducePow, Nat.reduceDiv, Nat.reduceBEq, Nat.reduceEqDiff, Nat.reduceLT, Nat.reduceLeDiff, Nat.reduceAdd, Nat.reduceSub, Nat.reduceMul, Nat.reduceMod, Int.reduceToNat, Int.reduceNeg, Int.reduceAdd, Int.reduceSub, Int.reduceMul, Int.reduceDiv, Int.reduceMod, Int.reduceLT, Int.reduceLE, Int.reduceEq, ↓reduceIte, filt, g1]) | refine acalls_same (cR _) ?_ | refine ⟨_, cR _, ?_⟩ | refine ⟨_, _, cR _, ?_⟩ | refine vcI (fun _ => ?_) (fun _ => ?_) | (refine vcA ?_ ?_; focus (repeat' (first | omega | assumption | refine vcA ?_ ?_); done)) | omega | refine imp_in (fun _ => ?_))
      exact err_done rfl
    | true =>
      cases g2 : Lib.validD (l.getD i ([], zeroJ)).1 with
      | false =>
        rw [makeP_bad hg (by rw [goodP_eq, g1, g2]; rfl)]
        repeat' (first | refine unhold ?_ | (simp -dsimp -implicitDefEqProofs (disch := (first | assumption | omega | (simp only [ll1, ll2, ll3, ll4, ll5, ll6, ll7, ll8]; omega))) only [go_sem, reduceCtorEq, Nat.reducePow, Int.reducePow, Nat.reduceDiv, Nat.reduceBEq, Nat.reduceEqDiff, Nat.reduceLT, Nat.reduceLeDiff, Nat.reduceAdd, Nat.reduceSub, Nat.reduceMul, Nat.reduceMod, Int.reduceToNat, Int.reduceNeg, Int.reduceAdd, Int.reduceSub, Int.reduceMul, Int.reduceDiv, Int.reduceMod, Int.reduceLT, Int.reduceLE, Int.reduceEq, ↓reduceIte, filt, g1, g2]) | refine acalls_same (cR _) ?_ | refine ⟨_, cR _, ?_⟩ | refine ⟨_, _, cR _, ?_⟩ | refine acalls_same (Right_c _ _ z2) ?_ | refine ⟨_, Right_c _ _ z2, ?_⟩ | refine ⟨_, _, Right_c _ _ z2, ?_⟩ | refine vcI (fun _ => ?_) (fun _ => ?_) | (refine vcA ?_ ?_; focus (repeat' (first | omega | assumption | refine vcA ?_ ?_); done)) | omega | refine imp_in (fun _ => ?_))
        exact err_done rfl
      | true =>
        repeat' (first | refine unhold ?_ | (simp -dsimp -implicitDefEqProofs (disch := (first | assumption | omega | (simp only [ll1, ll2, ll3, ll4, ll5, ll6, ll7, ll8]; omega))) only [go_sem, reduceCtorEq, Nat.reducePow, Int.reducePow, Nat.reduceDiv, Nat.reduceBEq, Nat.reduceEqDiff, Nat.reduceLT, Nat.reduceLeDiff, Nat.reduceAdd, Nat.reduceSub, Nat.reduceMul, Nat.reduceMod, Int.reduceToNat, Int.reduceNeg, Int.reduceAdd, Int.reduceSub, Int.reduceMul, Int.reduceDiv, Int.reduceMod, Int.reduceLT, Int.reduceLE, Int.reduceEq, ↓reduceIte, filt, g1, g2]) | refine acalls_same (cR _) ?_ | refine ⟨_, cR _, ?_⟩ | refine ⟨_, _, cR _, ?_⟩ | refine acalls_same (Right_c _ _ z2) ?_ | refine ⟨_, Right_c _ _ z2, ?_⟩ | refine ⟨_, _, Right_c _ _ z2, ?_⟩ | refine vcI (fun _ => ?_) (fun _ => ?_) | (refine vcA ?_ ?_; focus (repeat' (first | omega | assumption | refine vcA ?_ ?_); done)) | omega | refine imp_in (fun _ => ?_))
        refine again_drop (H.length + 1) [.cells (.one 39) (pCells (l.getD i ([], zeroJ)))] (i + 1) ?_ ?_ ?_ ?_ ?_ (by repeat (first | exact envLow_nil | (refine envLow_cons ?_ ?_; focus (first | exact low_psl | exact .lit _ | exact .str _ | exact .mp _ _ (by omega))))) ?_ env_ok
        · omega
        · exact ⟨by omega, upto_succ hp (by rw [goodP_eq, g1, g2]; rfl)⟩
        · simp
        · simp
        · simp
        · exact zObj_low H
  · obtain rfl : i = l.length := by omega
    rw [makeP_all hp]
    clear hp
    generalize hQ : (match allP [] l with | none => ((zeroJ, 6) : JV × Int) | some a => if l.any tallP = true then (zeroJ, 4) else (ofP objJ a, 0)) = Q
    repeat' (first | refine unhold ?_ | (simp -dsimp -implicitDefEqProofs (disch := (first | assumption | omega | (simp only [ll1, ll2, ll3, ll4, ll5, ll6, ll7, ll8]; omega))) only [go_sem, reduceCtorEq, Nat.reducePow, Int.reducePow, Nat.reduceDiv, Nat.reduceBEq, Nat.reduceEqDiff, Nat.reduceLT, Nat.reduceLeDiff, Nat.reduceAdd, Nat.reduceSub, Nat.reduceMul, Nat.reduceMod, Int.reduceToNat, Int.reduceNeg, Int.reduceAdd, Int.reduceSub, Int.reduceMul, Int.reduceDiv, Int.reduceMod, Int.reduceLT, Int.reduceLE, Int.reduceEq, ↓reduceIte]) | refine vcI (fun _ => ?_) (fun _ => ?_) | (refine vcA ?_ ?_; focus (repeat' (first | omega | assumption | refine vcA ?_ ?_); done)) | omega | refine imp_in (fun _ => ?_))
    refine aw_leC (H.length + 1) (sh := .one 27) (cs := [.lit (.int .i64 6), .lit (.int .i64 0), .str [], .sl .full 0 [], .sl .full 0 []]) (cs' := jCells objJ) (by simp) (.cons (Le.refl _) (.cons (Le.refl _) (.cons (Le.refl _) (.cons (le_nil) (.cons (le_nil) .nil))))) ?_
    refine vc_loopk L_ok mixed [] [2, 6, 32, 33] (fun y : MS => y.i ≤ l.length ∧ y.a.length ≤ y.i ∧ srt (y.a.map (·.1)) = true ∧ y.t = (l.take y.i).any tallP ∧ allP y.a (l.drop y.i) = allP [] l) (fun y => [(34, .int .i64 y.i), (7, .bool y.t)]) (fun y => mObjs H (ofP objJ y.a)) (fun y => l.length - y.i) (by kernel_rfl) ?_ ⟨0, [], false⟩ ⟨by simp, by simp, rfl, rfl, rfl⟩ env_ok (by rw [show ofP objJ [] = objJ from rfl]; simp [mObjs])
    rintro ⟨i, a, t⟩ ⟨hi, hal, hsrt, htl, hall⟩
    dsimp only at hi hal hsrt htl hall ⊢
    by_cases hil : i < l.length
    · have hg := get_getD ([], zeroJ) hil
      obtain ⟨z1, z2⟩ := hsz' i hil
      have filt : ((i : Int) < ((l.length : Nat) : Int)) = True := eq_true (by omega)
      have hok := acc_ok hsrt (by omega)
      rw [allP_drop hg] at hall
      have tt := tall_take hg
      rw [← htl] at tt
      have ti := tall_int (l.getD i ([], zeroJ))
      have cG := fun H => Get_c (ofP objJ a) (l.getD i ([], zeroJ)).1 H (by have := hok.2.2; omega) (by have := hok.2.2; have := hok.1; omega)
      rw [getAV, getP_j] at cG
      have cP := fun H => put_c (ofP objJ a) (l.getD i ([], zeroJ)).1 (l.getD i ([], zeroJ)).2 H hok
      rw [jput_ofP] at cP
      have cD := fun H => Deep_c (l.getD i ([], zeroJ)).2 H z1
      have hln := ins_len (l.getD i ([], zeroJ)).1 (l.getD i ([], zeroJ)).2 a
      have hsr2 := srt_ins (s := (l.getD i ([], zeroJ)).1) (x := (l.getD i ([], zeroJ)).2) hsrt
      generalize hv0 : ofP objJ a = v0 at *
      generalize hv1 : ofP objJ (insP (l.getD i ([], zeroJ)).1 (l.getD i ([], zeroJ)).2 a) = v1 at *
      unfold mObjs
      dsimp only [jCells, zCells]
      cases hj : (getP (l.getD i ([], zeroJ)).1 a).isSome with
      | true =>
        rw [if_pos hj] at hall
        rw [← hall] at hQ
        subst hQ
        repeat' (first | refine unhold ?_ | (simp -dsimp -implicitDefEqProofs (disch := (first | assumption | omega | (simp only [ll1, ll2, ll3, ll4, ll5, ll6, ll7, ll8]; omega))) only [go_sem, reduceCtorEq, Nat.reducePow, Int.reducePow, Nat.reduceDiv, Nat.reduceBEq, Nat.reduceEqDiff, Nat.reduceLT, Nat.reduceLeDiff, Nat.reduceAdd, Nat.reduceSub, Nat.reduceMul, Nat.reduceMod, Int.reduceToNat, Int.reduceNeg, Int.reduceAdd, Int.reduceSub, Int.reduceMul, Int.reduceDiv, Int.reduceMod, Int.reduceLT, Int.reduceLE, Int.reduceEq, ↓reduceIte, filt, hj]) | refine acalls_same (cG _) ?_ | refine ⟨_, cG _, ?_⟩ | refine ⟨_, _, cG _, ?_⟩ | refine vcI (fun _ => ?_) (fun _ => ?_) | (refine vcA ?_ ?_; focus (repeat' (first | omega | assumption | refine vcA ?_ ?_); done)) | omega | refine imp_in (fun _ => ?_))
        exact err_done rfl
      | false =>
        have hz : (getP (l.getD i ([], zeroJ)).1 a).getD zeroJ = zeroJ := by
          cases e : getP (l.getD i ([], zeroJ)).1 a with
          | none => rfl
          | some x => rw [e] at hj; cases hj
        rw [if_neg (by rw [hj]; decide)] at hall
        cases t with
        | true =>
          repeat' (first | refine unhold ?_ | (simp -dsimp -implicitDefEqProofs (disch := (first | assumption | omega | (simp only [ll1, ll2, ll3, ll4, ll5, ll6, ll7, ll8]; omega))) only [go_sem, reduceCtorEq, Nat.reducePow, Int.reducePow, Nat.reduceDiv, Nat.reduceBEq, Nat.reduceEqDiff, Nat.reduceLT, Nat.reduceLeDiff, Nat.reduceAdd, Nat.reduceSub, Nat.reduceMul, Nat.reduceMod, Int.reduceToNat, Int.reduceNeg, Int.reduceAdd, Int.reduceSub, Int.reduceMul, Int.reduceDiv, Int.reduceMod, Int.reduceLT, Int.reduceLE, Int.reduceEq, ↓reduceIte, filt, hj, hz]) | refine acalls_same (cG _) ?_ | refine ⟨_, cG _, ?_⟩ | refine ⟨_, _, cG _, ?_⟩ | refine acalls_same (cP _) ?_ | refine ⟨_, cP _, ?_⟩ | refine ⟨_, _, cP _, ?_⟩ | refine acalls_same (cD _) ?_ | refine ⟨_, cD _, ?_⟩ | refine ⟨_, _, cD _, ?_⟩ | refine vcI (fun _ => ?_) (fun _ => ?_) | (refine vcA ?_ ?_; focus (repeat' (first | omega | assumption | refine vcA ?_ ?_); done)) | omega | refine imp_in (fun _ => ?_))
          refine again_drop (H.length + 2) [.cells (.one 39) (pCells (l.getD i ([], zeroJ))), .cells (.one 27) (jCells zeroJ)] ⟨i + 1, insP (l.getD i ([], zeroJ)).1 (l.getD i ([], zeroJ)).2 a, true⟩ ?_ ?_ ?_ ?_ ?_ (by repeat (first | exact envLow_nil | (refine envLow_cons ?_ ?_; focus (first | exact low_psl | exact .lit _ | exact .str _ | exact .mp _ _ (by omega))))) ?_ env_ok
          · dsimp only; omega
          · exact ⟨by dsimp only; omega, by dsimp only; omega, hsr2, by rw [tt]; rfl, hall⟩
          · dsimp only
            rw [hv1]
            simp
          · simp
          · simp
          · exact mObjs_low H _ _
        | false =>
          cases hd : tallP (l.getD i ([], zeroJ)) with
          | true =>
            rw [hd] at ti
            have hdi : (12 ≤ ((deepJ 13 (l.getD i ([], zeroJ)).2 : Nat) : Int)) = True := eq_true (of_decide_eq_true ti.symm)
            repeat' (first | refine unhold ?_ | (simp -dsimp -implicitDefEqProofs (disch := (first | assumption | omega | (simp only [ll1, ll2, ll3, ll4, ll5, ll6, ll7, ll8]; omega))) only [go_sem, reduceCtorEq, Nat.reducePow, Int.reducePow, Nat.reduceDiv, Nat.reduceBEq, Nat.reduceEqDiff, Nat.reduceLT, Nat.reduceLeDiff, Nat.reduceAdd, Nat.reduceSub, Nat.reduceMul, Nat.reduceMod, Int.reduceToNat, Int.reduceNeg, Int.reduceAdd, Int.reduceSub, Int.reduceMul, Int.reduceDiv, Int.reduceMod, Int.reduceLT, Int.reduceLE, Int.reduceEq, ↓reduceIte, filt, hj, hz, hdi]) | refine acalls_same (cG _) ?_ | refine ⟨_, cG _, ?_⟩ | refine ⟨_, _, cG _, ?_⟩ | refine acalls_same (cP _) ?_ | refine ⟨_, cP _, ?_⟩ | refine ⟨_, _, cP _, ?_⟩ | refine acalls_same (cD _) ?_ | refine ⟨_, cD _, ?_⟩ | refine ⟨_, _, cD _, ?_⟩ | refine vcI (fun _ => ?_) (fun _ => ?_) | (refine vcA ?_ ?_; focus (repeat' (first | omega | assumption | refine vcA ?_ ?_); done)) | omega | refine imp_in (fun _ => ?_))
            refine again_drop (H.length + 2) [.cells (.one 39) (pCells (l.getD i ([], zeroJ))), .cells (.one 27) (jCells zeroJ)] ⟨i + 1, insP (l.getD i ([], zeroJ)).1 (l.getD i ([], zeroJ)).2 a, true⟩ ?_ ?_ ?_ ?_ ?_ (by repeat (first | exact envLow_nil | (refine envLow_cons ?_ ?_; focus (first | exact low_psl | exact .lit _ | exact .str _ | exact .mp _ _ (by omega))))) ?_ env_ok
            · dsimp only; omega
            · exact ⟨by dsimp only; omega, by dsimp only; omega, hsr2, by rw [tt, hd]; rfl, hall⟩
            · dsimp only
              rw [hv1]
              simp
            · simp
            · simp
            · exact mObjs_low H _ _
          | false =>
            rw [hd] at ti
            have hdi : (12 ≤ ((deepJ 13 (l.getD i ([], zeroJ)).2 : Nat) : Int)) = False := eq_false (of_decide_eq_false ti.symm)
            repeat' (first | refine unhold ?_ | (simp -dsimp -implicitDefEqProofs (disch := (first | assumption | omega | (simp only [ll1, ll2, ll3, ll4, ll5, ll6, ll7, ll8]; omega))) only [go_sem, reduceCtorEq, Nat.reducePow, Int.reducePow, Nat.reduceDiv, Nat.reduceBEq, Nat.reduceEqDiff, Nat.reduceLT, Nat.reduceLeDiff, Nat.reduceAdd, Nat.reduceSub, Nat.reduceMul, Nat.reduceMod, Int.reduceToNat, Int.reduceNeg, Int.reduceAdd, Int.reduceSub, Int.reduceMul, Int.reduceDiv, Int.reduceMod, Int.reduceLT, Int.reduceLE, Int.reduceEq, ↓reduceIte, filt, hj, hz, hdi]) | refine acalls_same (cG _) ?_ | refine ⟨_, cG _, ?_⟩ | refine ⟨_, _, cG _, ?_⟩ | refine acalls_same (cP _) ?_ | refine ⟨_, cP _, ?_⟩ | refine ⟨_, _, cP _, ?_⟩ | refine acalls_same (cD _) ?_ | refine ⟨_, cD _, ?_⟩ | refine ⟨_, _, cD _, ?_⟩ | refine vcI (fun _ => ?_) (fun _ => ?_) | (refine vcA ?_ ?_; focus (repeat' (first | omega | assumption | refine vcA ?_ ?_); done)) | omega | refine imp_in (fun _ => ?_))
            refine again_drop (H.length + 2) [.cells (.one 39) (pCells (l.getD i ([], zeroJ))), .cells (.one 27) (jCells zeroJ)] ⟨i + 1, insP (l.getD i ([], zeroJ)).1 (l.getD i ([], zeroJ)).2 a, false⟩ ?_ ?_ ?_ ?_ ?_ (by repeat (first | exact envLow_nil | (refine envLow_cons ?_ ?_; focus (first | exact low_psl | exact .lit _ | exact .str _ | exact .mp _ _ (by omega))))) ?_ env_ok
            · dsimp only; omega
            · exact ⟨by dsimp only; omega, by dsimp only; omega, hsr2, by rw [tt, hd]; rfl, hall⟩
            · dsimp only
              rw [hv1]
              simp
            · simp
            · simp
            · exact mObjs_low H _ _
    · obtain rfl : i = l.length := by omega
      rw [List.drop_length, allP] at hall
      rw [List.take_length] at htl
      rw [← hall] at hQ
      dsimp only at hQ
      unfold mObjs
      dsimp only [jCells, zCells]
      cases t with
      | true =>
        rw [if_pos htl.symm] at hQ
        subst hQ
        repeat' (first | refine unhold ?_ | (simp -dsimp -implicitDefEqProofs (disch := (first | assumption | omega | (simp only [ll1, ll2, ll3, ll4, ll5, ll6, ll7, ll8]; omega))) only [go_sem, reduceCtorEq, Nat.reducePow, Int.reducePow, Nat.reduceDiv, Nat.reduceBEq, Nat.reduceEqDiff, Nat.reduceLT, Nat.reduceLeDiff, Nat.reduceAdd, Nat.reduceSub, Nat.reduceMul, Nat.reduceMod, Int.reduceToNat, Int.reduceNeg, Int.reduceAdd, Int.reduceSub, Int.reduceMul, Int.reduceDiv, Int.reduceMod, Int.reduceLT, Int.reduceLE, Int.reduceEq, ↓reduceIte]) | refine vcI (fun _ => ?_) (fun _ => ?_) | (refine vcA ?_ ?_; focus (repeat' (first | omega | assumption | refine vcA ?_ ?_); done)) | omega | refine imp_in (fun _ => ?_))
        exact err_done rfl
      | false =>
        rw [if_neg (by rw [← htl]; decide)] at hQ
        subst hQ
        repeat' (first | refine unhold ?_ | (simp -dsimp -implicitDefEqProofs (disch := (first | assumption | omega | (simp only [ll1, ll2, ll3, ll4, ll5, ll6, ll7, ll8]; omega))) only [go_sem, reduceCtorEq, Nat.reducePow, Int.reducePow, Nat.reduceDiv, Nat.reduceBEq, Nat.reduceEqDiff, Nat.reduceLT, Nat.reduceLeDiff, Nat.reduceAdd, Nat.reduceSub, Nat.reduceMul, Nat.reduceMod, Int.reduceToNat, Int.reduceNeg, Int.reduceAdd, Int.reduceSub, Int.reduceMul, Int.reduceDiv, Int.reduceMod, Int.reduceLT, Int.reduceLE, Int.reduceEq, ↓reduceIte]) | refine vcI (fun _ => ?_) (fun _ => ?_) | (refine vcA ?_ ?_; focus (repeat' (first | omega | assumption | refine vcA ?_ ?_); done)) | omega | refine imp_in (fun _ => ?_))
        exact done_cut (parseAV (ofP objJ a, 0)) (Le.refl _) low_parse ⟨rfl, rfl⟩
theorem Make_r (l : Prs) (H : List AObj) (hl : l.length ≤ 1000) (hsz : ∀ p ∈ l, sizeJ p.2 ≤ 10000 ∧ p.1.length ≤ 10000) : ACalls Tryz.prog 27 [.sl .sh 6 (l.map pairAV)] H (fun y H' => y = parseAV (makeP l) ∧ H' = H) := by
  have hsz' : ∀ i, i < l.length → sizeJ (l.getD i ([], zeroJ)).2 ≤ 10000 ∧ (l.getD i ([], zeroJ)).1.length ≤ 10000 := fun i hi => hsz _ (mem_getD hi)
  refine acalls_vc L_ok mixed [2000048, 1000010, 1000010000010, 1000010005010, 1000010006010, 1000013] (rs := [.cell 2 27, .tmp 3]) (n := 80) Tryz.func27 rfl rfl rfl rfl (Nat.le_of_ble_eq_true rfl) (by kernel_rfl) ?_
  repeat' (first | refine unhold ?_ | (simp -dsimp -implicitDefEqProofs (disch := (first | assumption | omega | (simp only [ll1, ll2, ll3, ll4, ll5, ll6, ll7, ll8]; omega))) only [go_sem, reduceCtorEq, Nat.reducePow, Int.reducePow, Nat.reduceDiv, Nat.reduceBEq, Nat.reduceEqDiff, Nat.reduceLT, Nat.reduceLeDiff, Nat.reduceAdd, Nat.reduceSub, Nat.reduceMul, Nat.reduceMod, Int.reduceToNat, Int.reduceNeg, Int.reduceAdd, Int.reduceSub, Int.reduceMul, Int.reduceDiv, Int.reduceMod, Int.reduceLT, Int.reduceLE, Int.reduceEq, ↓reduceIte]) | refine vcI (fun _ => ?_) (fun _ => ?_) | (refine vcA ?_ ?_; focus (repeat' (first | omega | assumption | refine vcA ?_ ?_); done)) | omega | refine imp_in (fun _ => ?_))
  refine vc_loopk L_ok mixed [2000048, 1000010, 1000010000010, 1000010005010, 1000010006010, 1000013] [0, 2] (fun i : Nat => i ≤ l.length ∧ ∀ j, j < i → goodP (l.getD j ([], zeroJ)) = true) (fun i => [(4, .int .i64 i)]) (fun _ => H ++ [.cells (.one 27) zCells]) (fun i => l.length - i) (by kernel_rfl) ?_ 0 ⟨by omega, fun j hj => by omega⟩ env_ok rfl
  rintro i ⟨hi, hp⟩
  dsimp only [zCells]
  by_cases hil : i < l.length
  · have hg := get_getD ([], zeroJ) hil
    obtain ⟨z1, z2⟩ := hsz' i hil
    have cR := fun H => Right_jr (l.getD i ([], zeroJ)).2 H z1
    have filt : ((i : Int) < ((l.length : Nat) : Int)) = True := eq_true (by omega)
    cases g1 : rightJ 12 (l.getD i ([], zeroJ)).2 with
    | false =>
      rw [makeP_bad hg (by rw [goodP_eq, g1]; rfl)]
      repeat' (first | refine unhold ?_ | (simp -dsimp -implicitDefEqProofs (disch := (first | assumption | omega | (simp only [ll1, ll2, ll3, ll4, ll5, ll6, ll7, ll8]; omega))) only [go_sem, reduceCtorEq, Nat.reducePow, Int.reducePow, Nat.reduceDiv, Nat.reduceBEq, Nat.reduceEqDiff, Nat.reduceLT, Nat.reduceLeDiff, Nat.reduceAdd, Nat.reduceSub, Nat.reduceMul, Nat.reduceMod, Int.reduceToNat, Int.reduceNeg, Int.reduceAdd, Int.reduceSub, Int.reduceMul, Int.reduceDiv, Int.reduceMod, Int.reduceLT, Int.reduceLE, Int.reduceEq, ↓reduceIte, filt, g1]) | refine acalls_same (cR _) ?_ | refine ⟨_, cR _, ?_⟩ | refine ⟨_, _, cR _, ?_⟩ | refine vcI (fun _ => ?_) (fun _ => ?_) | (refine vcA ?_ ?_; focus (repeat' (first | omega | assumption | refine vcA ?_ ?_); done)) | omega | refine imp_in (fun _ => ?_))
      exact err_done rfl
    | true =>
      cases g2 : Lib.validD (l.getD i ([], zeroJ)).1 with
      | false =>
        rw [makeP_bad hg (by rw [goodP_eq, g1, g2]; rfl)]
        repeat' (first | refine unhold ?_ | (simp -dsimp -implicitDefEqProofs (disch := (first | assumption | omega | (simp only [ll1, ll2, ll3, ll4, ll5, ll6, ll7, ll8]; omega))) only [go_sem, reduceCtorEq, Nat.reducePow, Int.reducePow, Nat.reduceDiv, Nat.reduceBEq, Nat.reduceEqDiff, Nat.reduceLT, Nat.reduceLeDiff, Nat.reduceAdd, Nat.reduceSub, Nat.reduceMul, Nat.reduceMod, Int.reduceToNat, Int.reduceNeg, Int.reduceAdd, Int.reduceSub, Int.reduceMul, Int.reduceDiv, Int.reduceMod, Int.reduceLT, Int.reduceLE, Int.reduceEq, ↓reduceIte, filt, g1, g2]) | refine acalls_same (cR _) ?_ | refine ⟨_, cR _, ?_⟩ | refine ⟨_, _, cR _, ?_⟩ | refine acalls_same (Right_r _ _ z2) ?_ | refine ⟨_, Right_r _ _ z2, ?_⟩ | refine ⟨_, _, Right_r _ _ z2, ?_⟩ | refine vcI (fun _ => ?_) (fun _ => ?_) | (refine vcA ?_ ?_; focus (repeat' (first | omega | assumption | refine vcA ?_ ?_); done)) | omega | refine imp_in (fun _ => ?_))
        exact err_done rfl
      | true =>
        repeat' (first | refine unhold ?_ | (simp -dsimp -implicitDefEqProofs (disch := (first | assumption | omega | (simp only [ll1, ll2, ll3, ll4, ll5, ll6, ll7, ll8]; omega))) only [go_sem, reduceCtorEq, Nat.reducePow, Int.reducePow, Nat.reduceDiv, Nat.reduceBEq, Nat.reduceEqDiff, Nat.reduceLT, Nat.reduceLeDiff, Nat.reduceAdd, Nat.reduceSub, Nat.reduceMul, Nat.reduceMod, Int.reduceToNat, Int.reduceNeg, Int.reduceAdd, Int.reduceSub, Int.reduceMul, Int.reduceDiv, Int.reduceMod, Int.reduceLT, Int.reduceLE, Int.reduceEq, ↓reduceIte, filt, g1, g2]) | refine acalls_same (cR _) ?_ | refine ⟨_, cR _, ?_⟩ | refine ⟨_, _, cR _, ?_⟩ | refine acalls_same (Right_r _ _ z2) ?_ | refine ⟨_, Right_r _ _ z2, ?_⟩ | refine ⟨_, _, Right_r _ _ z2, ?_⟩ | refine vcI (fun _ => ?_) (fun _ => ?_) | (refine vcA ?_ ?_; focus (repeat' (first | omega | assumption | refine vcA ?_ ?_); done)) | omega | refine imp_in (fun _ => ?_))
        refine again (i + 1) ?_ ?_ rfl env_ok
        · omega
        · exact ⟨by omega, upto_succ hp (by rw [goodP_eq, g1, g2]; rfl)⟩
  · obtain rfl : i = l.length := by omega
    rw [makeP_all hp]
    clear hp
    generalize hQ : (match allP [] l with | none => ((zeroJ, 6) : JV × Int) | some a => if l.any tallP = true then (zeroJ, 4) else (ofP objJ a, 0)) = Q
    repeat' (first | refine unhold ?_ | (simp -dsimp -implicitDefEqProofs (disch := (first | assumption | omega | (simp only [ll1, ll2, ll3, ll4, ll5, ll6, ll7, ll8]; omega))) only [go_sem, reduceCtorEq, Nat.reducePow, Int.reducePow, Nat.reduceDiv, Nat.reduceBEq, Nat.reduceEqDiff, Nat.reduceLT, Nat.reduceLeDiff, Nat.reduceAdd, Nat.reduceSub, Nat.reduceMul, Nat.reduceMod, Int.reduceToNat, Int.reduceNeg, Int.reduceAdd, Int.reduceSub, Int.reduceMul, Int.reduceDiv, Int.reduceMod, Int.reduceLT, Int.reduceLE, Int.reduceEq, ↓reduceIte]) | refine vcI (fun _ => ?_) (fun _ => ?_) | (refine vcA ?_ ?_; focus (repeat' (first | omega | assumption | refine vcA ?_ ?_); done)) | omega | refine imp_in (fun _ => ?_))
    refine aw_leC (H.length + 1) (sh := .one 27) (cs := [.lit (.int .i64 6), .lit (.int .i64 0), .str [], .sl .full 0 [], .sl .full 0 []]) (cs' := jCells objJ) (by simp) (.cons (Le.refl _) (.cons (Le.refl _) (.cons (Le.refl _) (.cons (le_nil) (.cons (le_nil) .nil))))) ?_
    refine vc_loopk L_ok mixed [2000048, 1000010, 1000010000010, 1000010005010, 1000010006010, 1000013] [0, 2, 5] (fun y : MS => y.i ≤ l.length ∧ y.a.length ≤ y.i ∧ srt (y.a.map (·.1)) = true ∧ allP y.a (l.drop y.i) = allP [] l) (fun y => [(6, .int .i64 y.i)]) (fun y => mObjs H (ofP objJ y.a)) (fun y => l.length - y.i) (by kernel_rfl) ?_ ⟨0, [], false⟩ ⟨by simp, by simp, rfl, rfl⟩ env_ok (by rw [show ofP objJ [] = objJ from rfl]; simp [mObjs])
    rintro ⟨i, a, t⟩ ⟨hi, hal, hsrt, hall⟩
    dsimp only at hi hal hsrt hall ⊢
    by_cases hil : i < l.length
    · have hg := get_getD ([], zeroJ) hil
      obtain ⟨z1, z2⟩ := hsz' i hil
      have filt : ((i : Int) < ((l.length : Nat) : Int)) = True := eq_true (by omega)
      have hok := acc_ok hsrt (by omega)
      rw [allP_drop hg] at hall
      have cG := fun H => Get_r (ofP objJ a) (l.getD i ([], zeroJ)).1 H (by have := hok.2.2; omega) (by have := hok.2.2; have := hok.1; omega)
      rw [getAV, getP_j] at cG
      have cP := fun H => put_r (ofP objJ a) (l.getD i ([], zeroJ)).1 (l.getD i ([], zeroJ)).2 H hok
      rw [prs_ofP] at cP
      have hln := ins_len (l.getD i ([], zeroJ)).1 (l.getD i ([], zeroJ)).2 a
      have hsr2 := srt_ins (s := (l.getD i ([], zeroJ)).1) (x := (l.getD i ([], zeroJ)).2) hsrt
      generalize hv0 : ofP objJ a = v0 at *
      generalize hv1 : ofP objJ (insP (l.getD i ([], zeroJ)).1 (l.getD i ([], zeroJ)).2 a) = v1 at *
      unfold mObjs
      dsimp only [jCells, zCells]
      cases hj : (getP (l.getD i ([], zeroJ)).1 a).isSome with
      | true =>
        rw [if_pos hj] at hall
        rw [← hall] at hQ
        subst hQ
        repeat' (first | refine unhold ?_ | (simp -dsimp -implicitDefEqProofs (disch := (first | assumption | omega | (simp only [ll1, ll2, ll3, ll4, ll5, ll6, ll7, ll8]; omega))) only [go_sem, reduceCtorEq, Nat.reducePow, Int.reducePow, Nat.reduceDiv, Nat.reduceBEq, Nat.reduceEqDiff, Nat.reduceLT, Nat.reduceLeDiff, Nat.reduceAdd, Nat.reduceSub, Nat.reduceMul, Nat.reduceMod, Int.reduceToNat, Int.reduceNeg, Int.reduceAdd, Int.reduceSub, Int.reduceMul, Int.reduceDiv, Int.reduceMod, Int.reduceLT, Int.reduceLE, Int.reduceEq, ↓reduceIte, filt, hj]) | refine acalls_same (cG _) ?_ | refine ⟨_, cG _, ?_⟩ | refine ⟨_, _, cG _, ?_⟩ | refine vcI (fun _ => ?_) (fun _ => ?_) | (refine vcA ?_ ?_; focus (repeat' (first | omega | assumption | refine vcA ?_ ?_); done)) | omega | refine imp_in (fun _ => ?_))
        exact err_done rfl
      | false =>
        have hz : (getP (l.getD i ([], zeroJ)).1 a).getD zeroJ = zeroJ := by
          cases e : getP (l.getD i ([], zeroJ)).1 a with
          | none => rfl
          | some x => rw [e] at hj; cases hj
        rw [if_neg (by rw [hj]; decide)] at hall
        repeat' (first | refine unhold ?_ | (simp -dsimp -implicitDefEqProofs (disch := (first | assumption | omega | (simp only [ll1, ll2, ll3, ll4, ll5, ll6, ll7, ll8]; omega))) only [go_sem, reduceCtorEq, Nat.reducePow, Int.reducePow, Nat.reduceDiv, Nat.reduceBEq, Nat.reduceEqDiff, Nat.reduceLT, Nat.reduceLeDiff, Nat.reduceAdd, Nat.reduceSub, Nat.reduceMul, Nat.reduceMod, Int.reduceToNat, Int.reduceNeg, Int.reduceAdd, Int.reduceSub, Int.reduceMul, Int.reduceDiv, Int.reduceMod, Int.reduceLT, Int.reduceLE, Int.reduceEq, ↓reduceIte, filt, hj, hz]) | refine acalls_same (cG _) ?_ | refine ⟨_, cG _, ?_⟩ | refine ⟨_, _, cG _, ?_⟩ | refine acalls_same (cP _) ?_ | refine ⟨_, cP _, ?_⟩ | refine ⟨_, _, cP _, ?_⟩ | refine vcI (fun _ => ?_) (fun _ => ?_) | (refine vcA ?_ ?_; focus (repeat' (first | omega | assumption | refine vcA ?_ ?_); done)) | omega | refine imp_in (fun _ => ?_))
        refine again_drop (H.length + 2) [.cells (.one 27) (jCells zeroJ)] ⟨i + 1, insP (l.getD i ([], zeroJ)).1 (l.getD i ([], zeroJ)).2 a, false⟩ ?_ ?_ ?_ ?_ ?_ (by repeat (first | exact envLow_nil | (refine envLow_cons ?_ ?_; focus (first | exact low_psl | exact .lit _ | exact .str _ | exact .mp _ _ (by omega))))) ?_ env_ok
        · dsimp only; omega
        · exact ⟨by dsimp only; omega, by dsimp only; omega, hsr2, hall⟩
        · dsimp only
          rw [hv1]
          simp
        · simp
        · simp
        · exact mObjs_low H _ _
    · obtain rfl : i = l.length := by omega
      rw [List.drop_length, allP] at hall
      rw [← hall] at hQ
      dsimp only at hQ
      repeat' (first | refine unhold ?_ | (simp -dsimp -implicitDefEqProofs (disch := (first | assumption | omega | (simp only [ll1, ll2, ll3, ll4, ll5, ll6, ll7, ll8]; omega))) only [go_sem, reduceCtorEq, Nat.reducePow, Int.reducePow, Nat.reduceDiv, Nat.reduceBEq, Nat.reduceEqDiff, Nat.reduceLT, Nat.reduceLeDiff, Nat.reduceAdd, Nat.reduceSub, Nat.reduceMul, Nat.reduceMod, Int.reduceToNat, Int.reduceNeg, Int.reduceAdd, Int.reduceSub, Int.reduceMul, Int.reduceDiv, Int.reduceMod, Int.reduceLT, Int.reduceLE, Int.reduceEq, ↓reduceIte]) | refine vcI (fun _ => ?_) (fun _ => ?_) | (refine vcA ?_ ?_; focus (repeat' (first | omega | assumption | refine vcA ?_ ?_); done)) | omega | refine imp_in (fun _ => ?_))
      refine vc_loopk L_ok mixed [2000048, 1000010, 1000010000010, 1000010005010, 1000010006010, 1000013] [0, 2, 5] (fun i : Nat => i ≤ l.length ∧ ∀ j, j < i → tallP (l.getD j ([], zeroJ)) = false) (fun i => [(9, .int .i64 i)]) (fun _ => mObjs H (ofP objJ a)) (fun i => l.length - i) (by kernel_rfl) ?_ 0 ⟨by omega, fun j hj => by omega⟩ env_ok rfl
      rintro i ⟨hi, hp⟩
      unfold mObjs
      dsimp only [jCells, zCells]
      by_cases hil : i < l.length
      · have hg := get_getD ([], zeroJ) hil
        obtain ⟨z1, z2⟩ := hsz' i hil
        have filt : ((i : Int) < ((l.length : Nat) : Int)) = True := eq_true (by omega)
        have ti := tall_int (l.getD i ([], zeroJ))
        have cD := fun H => Deep_r (l.getD i ([], zeroJ)).2 H z1
        cases hd : tallP (l.getD i ([], zeroJ)) with
        | true =>
          rw [hd] at ti
          have hdi : (12 ≤ ((deepJ 13 (l.getD i ([], zeroJ)).2 : Nat) : Int)) = True := eq_true (of_decide_eq_true ti.symm)
          rw [if_pos (List.any_eq_true.2 ⟨_, List.mem_of_getElem? hg, hd⟩)] at hQ
          subst hQ
          repeat' (first | refine unhold ?_ | (simp -dsimp -implicitDefEqProofs (disch := (first | assumption | omega | (simp only [ll1, ll2, ll3, ll4, ll5, ll6, ll7, ll8]; omega))) only [go_sem, reduceCtorEq, Nat.reducePow, Int.reducePow, Nat.reduceDiv, Nat.reduceBEq, Nat.reduceEqDiff, Nat.reduceLT, Nat.reduceLeDiff, Nat.reduceAdd, Nat.reduceSub, Nat.reduceMul, Nat.reduceMod, Int.reduceToNat, Int.reduceNeg, Int.reduceAdd, Int.reduceSub, Int.reduceMul, Int.reduceDiv, Int.reduceMod, Int.reduceLT, Int.reduceLE, Int.reduceEq, ↓reduceIte, filt, hdi]) | refine acalls_same (cD _) ?_ | refine ⟨_, cD _, ?_⟩ | refine ⟨_, _, cD _, ?_⟩ | refine vcI (fun _ => ?_) (fun _ => ?_) | (refine vcA ?_ ?_; focus (repeat' (first | omega | assumption | refine vcA ?_ ?_); done)) | omega | refine imp_in (fun _ => ?_))
          exact err_done rfl
        | false =>
          rw [hd] at ti
          have hdi : (12 ≤ ((deepJ 13 (l.getD i ([], zeroJ)).2 : Nat) : Int)) = False := eq_false (of_decide_eq_false ti.symm)
          repeat' (first | refine unhold ?_ | (simp -dsimp -implicitDefEqProofs (disch := (first | assumption | omega | (simp only [ll1, ll2, ll3, ll4, ll5, ll6, ll7, ll8]; omega))) only [go_sem, reduceCtorEq, Nat.reducePow, Int.reducePow, Nat.reduceDiv, Nat.reduceBEq, Nat.reduceEqDiff, Nat.reduceLT, Nat.reduceLeDiff, Nat.reduceAdd, Nat.reduceSub, Nat.reduceMul, Nat.reduceMod, Int.reduceToNat, Int.reduceNeg, Int.reduceAdd, Int.reduceSub, Int.reduceMul, Int.reduceDiv, Int.reduceMod, Int.reduceLT, Int.reduceLE, Int.reduceEq, ↓reduceIte, filt, hdi]) | refine acalls_same (cD _) ?_ | refine ⟨_, cD _, ?_⟩ | refine ⟨_, _, cD _, ?_⟩ | refine vcI (fun _ => ?_) (fun _ => ?_) | (refine vcA ?_ ?_; focus (repeat' (first | omega | assumption | refine vcA ?_ ?_); done)) | omega | refine imp_in (fun _ => ?_))
          refine again (i + 1) ?_ ?_ rfl env_ok
          · omega
          · exact ⟨by omega, upto_succ hp hd⟩
      · obtain rfl : i = l.length := by omega
        have hno : ¬ l.any tallP = true := fun e => by
          obtain ⟨p, hp1, hp2⟩ := List.any_eq_true.1 e
          obtain ⟨j, hj, rfl⟩ := List.mem_iff_getElem.1 hp1
          have := hp j hj
          rw [List.getD, List.getElem?_eq_getElem hj, Option.getD_some, hp2] at this
          cases this
        rw [if_neg hno] at hQ
        subst hQ
        repeat' (first | refine unhold ?_ | (simp -dsimp -implicitDefEqProofs (disch := (first | assumption | omega | (simp only [ll1, ll2, ll3, ll4, ll5, ll6, ll7, ll8]; omega))) only [go_sem, reduceCtorEq, Nat.reducePow, Int.reducePow, Nat.reduceDiv, Nat.reduceBEq, Nat.reduceEqDiff, Nat.reduceLT, Nat.reduceLeDiff, Nat.reduceAdd, Nat.reduceSub, Nat.reduceMul, Nat.reduceMod, Int.reduceToNat, Int.reduceNeg, Int.reduceAdd, Int.reduceSub, Int.reduceMul, Int.reduceDiv, Int.reduceMod, Int.reduceLT, Int.reduceLE, Int.reduceEq, ↓reduceIte]) | refine vcI (fun _ => ?_) (fun _ => ?_) | (refine vcA ?_ ?_; focus (repeat' (first | omega | assumption | refine vcA ?_ ?_); done)) | omega | refine imp_in (fun _ => ?_))
        exact done_cut (parseAV (ofP objJ a, 0)) (Le.refl _) low_parse ⟨rfl, rfl⟩
end Go.Proofs.YtplmbhjhihoneaaGreatDoor
end
