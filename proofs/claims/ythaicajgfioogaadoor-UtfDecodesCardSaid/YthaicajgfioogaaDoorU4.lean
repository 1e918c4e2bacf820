/- Copies and comparisons. -/
import Derived.Test.YthaicajgfioogaaDoorU1
set_option linter.unusedSimpArgs false
set_option linter.unusedVariables false
namespace Go.Proofs.YthaicajgfioogaaDoor
open Go V
set_option maxRecDepth 10000
set_option maxHeartbeats 4000000
theorem Copy_c {o : Own} (l : List UInt8) (H : List AObj) (hl : l.length ≤ 10000) : ACalls Tryd.prog 11 [.sl o 1 (l.map byteAV)] H (fun x H' => x = .sl (.tok H.length) 1 (l.map byteAV) ∧ H' = H ++ [.grow 1 l.length]) := by
  refine acalls_vc L_ok mixed [] (rs := [.tmp 2]) (n := 6) Tryd.func11 rfl rfl rfl rfl (Nat.le_of_ble_eq_true rfl) (by kernel_rfl) ?_
  repeat' (first | refine unhold ?_ | (simp -dsimp -implicitDefEqProofs (disch := (first | assumption | omega | (simp only [List.length_map, List.length_append, List.length_cons, List.length_nil, List.length_replicate, List.length_drop, List.length_take]; omega))) only [go_sem, reduceCtorEq, Nat.reducePow, Int.reducePow, Nat.reduceDiv, Nat.reduceBEq, Nat.reduceEqDiff, Nat.reduceLT, Nat.reduceLeDiff, Nat.reduceAdd, Nat.reduceSub, Nat.reduceMul, Nat.reduceMod, Int.reduceToNat, Int.reduceNeg, Int.reduceAdd, Int.reduceSub, Int.reduceMul, Int.reduceDiv, Int.reduceMod, Int.reduceLT, Int.reduceLE, Int.reduceEq, ↓reduceIte]) | (refine And.intro (fun _ => unhold ?_) (fun _ => unhold ?_)) | (refine And.intro ?_ ?_; focus (first | omega | assumption | (repeat' (first | assumption | omega | refine And.intro ?_ ?_); done))) | omega)
  refine done_grow ?_
  exact ⟨rfl, rfl⟩
theorem take_eq_snoc {α : Type} {l m : List α} {i : Nat} (d : α) (hl : i < l.length) (hm : i < m.length) (h : l.take i = m.take i) (he : l.getD i d = m.getD i d) : l.take (i + 1) = m.take (i + 1) := by
  rw [List.take_add_one, List.take_add_one, h]
  simp only [List.getD, List.getElem?_eq_getElem hl, List.getElem?_eq_getElem hm, Option.getD_some] at he
  rw [List.getElem?_eq_getElem hl, List.getElem?_eq_getElem hm, he]
theorem SameRunes_c {o o' : Own} (l m : List Int) (H : List AObj) (hl : l.length ≤ 100000) : ACalls Tryd.prog 12 [.sl o 1 (l.map runeAV), .sl o' 1 (m.map runeAV)] H (fun x H' => x = .bool (decide (l = m)) ∧ H' = H) := by
  refine acalls_vc L_ok mixed [] (rs := [.tmp 4]) (n := 26) Tryd.func12 rfl rfl rfl rfl (Nat.le_of_ble_eq_true rfl) (by kernel_rfl) ?_
  repeat' (first | refine unhold ?_ | (simp -dsimp -implicitDefEqProofs (disch := (first | assumption | omega | (simp only [List.length_map, List.length_append, List.length_cons, List.length_nil, List.length_replicate, List.length_drop, List.length_take]; omega))) only [go_sem, reduceCtorEq, Nat.reducePow, Int.reducePow, Nat.reduceDiv, Nat.reduceBEq, Nat.reduceEqDiff, Nat.reduceLT, Nat.reduceLeDiff, Nat.reduceAdd, Nat.reduceSub, Nat.reduceMul, Nat.reduceMod, Int.reduceToNat, Int.reduceNeg, Int.reduceAdd, Int.reduceSub, Int.reduceMul, Int.reduceDiv, Int.reduceMod, Int.reduceLT, Int.reduceLE, Int.reduceEq, ↓reduceIte]) | (refine And.intro (fun _ => unhold ?_) (fun _ => unhold ?_)) | (refine And.intro ?_ ?_; focus (first | omega | assumption | (repeat' (first | assumption | omega | refine And.intro ?_ ?_); done))) | omega)
  · rename_i h
    exact done_same ⟨bool_eq (decide_eq_false fun e => h (by rw [e])).symm, rfl⟩
  · rename_i h
    refine vc_loop L_ok mixed [] (fun i : Nat => i ≤ l.length ∧ l.take i = m.take i) (fun i => [(5, .int .i64 i), (0, .sl o 1 (l.map runeAV)), (1, .sl o' 1 (m.map runeAV))]) (fun _ => H) (fun i => l.length - i) (by kernel_rfl) ?_ 0 ⟨by omega, rfl⟩ (by repeat (first | exact envLe_nil | (refine envLe_cons ?_ ?_; focus (first | exact Le.refl _ | exact Le.any _ | exact le_sh | exact le_nil | (refine le_tup ?_; repeat (first | exact LeAll.nil | (refine LeAll.cons ?_ ?_; focus (first | exact Le.refl _ | exact Le.any _ | exact le_sh | exact le_nil)))) | (refine le_agg ?_; repeat (first | exact LeAll.nil | (refine LeAll.cons ?_ ?_; focus (first | exact Le.refl _ | exact Le.any _ | exact le_sh | exact le_nil)))) | (refine le_eq ?_; simp -implicitDefEqProofs (disch := omega) only [get_cons, get_nil, if_true, if_false, ↓reduceIte, Nat.reduceEqDiff, eq_self, IntWalk.i64_in, IntWalk.i32_in, IntWalk.u8_in, IntWalk.u32_in, IntWalk.u64_in, reduceCtorEq]; try (first | rfl | (refine int_eq ?_; omega))))))) rfl
    intro i ⟨hi, hp⟩
    repeat' (first | refine unhold ?_ | (simp -dsimp -implicitDefEqProofs (disch := (first | assumption | omega | (simp only [List.length_map, List.length_append, List.length_cons, List.length_nil, List.length_replicate, List.length_drop, List.length_take]; omega))) only [go_sem, reduceCtorEq, Nat.reducePow, Int.reducePow, Nat.reduceDiv, Nat.reduceBEq, Nat.reduceEqDiff, Nat.reduceLT, Nat.reduceLeDiff, Nat.reduceAdd, Nat.reduceSub, Nat.reduceMul, Nat.reduceMod, Int.reduceToNat, Int.reduceNeg, Int.reduceAdd, Int.reduceSub, Int.reduceMul, Int.reduceDiv, Int.reduceMod, Int.reduceLT, Int.reduceLE, Int.reduceEq, ↓reduceIte]) | (refine And.intro (fun _ => unhold ?_) (fun _ => unhold ?_)) | (refine And.intro ?_ ?_; focus (first | omega | assumption | (repeat' (first | assumption | omega | refine And.intro ?_ ?_); done))) | omega)
    · rename_i h1 h2
      exact done_same ⟨bool_eq (decide_eq_false fun e => h2 (by rw [e])).symm, rfl⟩
    · rename_i h1 h2
      refine again (i + 1) ?_ ?_ rfl (by repeat (first | exact envLe_nil | (refine envLe_cons ?_ ?_; focus (first | exact Le.refl _ | exact Le.any _ | exact le_sh | exact le_nil | (refine le_tup ?_; repeat (first | exact LeAll.nil | (refine LeAll.cons ?_ ?_; focus (first | exact Le.refl _ | exact Le.any _ | exact le_sh | exact le_nil)))) | (refine le_agg ?_; repeat (first | exact LeAll.nil | (refine LeAll.cons ?_ ?_; focus (first | exact Le.refl _ | exact Le.any _ | exact le_sh | exact le_nil)))) | (refine le_eq ?_; simp -implicitDefEqProofs (disch := omega) only [get_cons, get_nil, if_true, if_false, ↓reduceIte, Nat.reduceEqDiff, eq_self, IntWalk.i64_in, IntWalk.i32_in, IntWalk.u8_in, IntWalk.u32_in, IntWalk.u64_in, reduceCtorEq]; try (first | rfl | (refine int_eq ?_; omega)))))))
      · omega
      · exact ⟨by omega, take_eq_snoc 0 (by omega) (by omega) hp h2⟩
    · rename_i h1
      rw [List.take_of_length_le (by omega), List.take_of_length_le (by omega)] at hp
      exact done_same ⟨bool_eq (decide_eq_true hp).symm, rfl⟩
theorem Same_c {o o' : Own} (l m : List UInt8) (H : List AObj) (hl : l.length ≤ 100000) : ACalls Tryd.prog 19 [.sl o 1 (l.map byteAV), .sl o' 1 (m.map byteAV)] H (fun x H' => x = .bool (decide (l = m)) ∧ H' = H) := by
  refine acalls_vc L_ok mixed [] (rs := [.tmp 4]) (n := 26) Tryd.func19 rfl rfl rfl rfl (Nat.le_of_ble_eq_true rfl) (by kernel_rfl) ?_
  repeat' (first | refine unhold ?_ | (simp -dsimp -implicitDefEqProofs (disch := (first | assumption | omega | (simp only [List.length_map, List.length_append, List.length_cons, List.length_nil, List.length_replicate, List.length_drop, List.length_take]; omega))) only [go_sem, reduceCtorEq, Nat.reducePow, Int.reducePow, Nat.reduceDiv, Nat.reduceBEq, Nat.reduceEqDiff, Nat.reduceLT, Nat.reduceLeDiff, Nat.reduceAdd, Nat.reduceSub, Nat.reduceMul, Nat.reduceMod, Int.reduceToNat, Int.reduceNeg, Int.reduceAdd, Int.reduceSub, Int.reduceMul, Int.reduceDiv, Int.reduceMod, Int.reduceLT, Int.reduceLE, Int.reduceEq, ↓reduceIte]) | (refine And.intro (fun _ => unhold ?_) (fun _ => unhold ?_)) | (refine And.intro ?_ ?_; focus (first | omega | assumption | (repeat' (first | assumption | omega | refine And.intro ?_ ?_); done))) | omega)
  · rename_i h
    exact done_same ⟨bool_eq (decide_eq_false fun e => h (by rw [e])).symm, rfl⟩
  · rename_i h
    refine vc_loop L_ok mixed [] (fun i : Nat => i ≤ l.length ∧ l.take i = m.take i) (fun i => [(5, .int .i64 i), (0, .sl o 1 (l.map byteAV)), (1, .sl o' 1 (m.map byteAV))]) (fun _ => H) (fun i => l.length - i) (by kernel_rfl) ?_ 0 ⟨by omega, rfl⟩ (by repeat (first | exact envLe_nil | (refine envLe_cons ?_ ?_; focus (first | exact Le.refl _ | exact Le.any _ | exact le_sh | exact le_nil | (refine le_tup ?_; repeat (first | exact LeAll.nil | (refine LeAll.cons ?_ ?_; focus (first | exact Le.refl _ | exact Le.any _ | exact le_sh | exact le_nil)))) | (refine le_agg ?_; repeat (first | exact LeAll.nil | (refine LeAll.cons ?_ ?_; focus (first | exact Le.refl _ | exact Le.any _ | exact le_sh | exact le_nil)))) | (refine le_eq ?_; simp -implicitDefEqProofs (disch := omega) only [get_cons, get_nil, if_true, if_false, ↓reduceIte, Nat.reduceEqDiff, eq_self, IntWalk.i64_in, IntWalk.i32_in, IntWalk.u8_in, IntWalk.u32_in, IntWalk.u64_in, reduceCtorEq]; try (first | rfl | (refine int_eq ?_; omega))))))) rfl
    intro i ⟨hi, hp⟩
    repeat' (first | refine unhold ?_ | (simp -dsimp -implicitDefEqProofs (disch := (first | assumption | omega | (simp only [List.length_map, List.length_append, List.length_cons, List.length_nil, List.length_replicate, List.length_drop, List.length_take]; omega))) only [go_sem, reduceCtorEq, Nat.reducePow, Int.reducePow, Nat.reduceDiv, Nat.reduceBEq, Nat.reduceEqDiff, Nat.reduceLT, Nat.reduceLeDiff, Nat.reduceAdd, Nat.reduceSub, Nat.reduceMul, Nat.reduceMod, Int.reduceToNat, Int.reduceNeg, Int.reduceAdd, Int.reduceSub, Int.reduceMul, Int.reduceDiv, Int.reduceMod, Int.reduceLT, Int.reduceLE, Int.reduceEq, ↓reduceIte]) | (refine And.intro (fun _ => unhold ?_) (fun _ => unhold ?_)) | (refine And.intro ?_ ?_; focus (first | omega | assumption | (repeat' (first | assumption | omega | refine And.intro ?_ ?_); done))) | omega)
    · rename_i h1 h2
      exact done_same ⟨bool_eq (decide_eq_false fun e => h2 (by rw [e])).symm, rfl⟩
    · rename_i h1 h2
      refine again (i + 1) ?_ ?_ rfl (by repeat (first | exact envLe_nil | (refine envLe_cons ?_ ?_; focus (first | exact Le.refl _ | exact Le.any _ | exact le_sh | exact le_nil | (refine le_tup ?_; repeat (first | exact LeAll.nil | (refine LeAll.cons ?_ ?_; focus (first | exact Le.refl _ | exact Le.any _ | exact le_sh | exact le_nil)))) | (refine le_agg ?_; repeat (first | exact LeAll.nil | (refine LeAll.cons ?_ ?_; focus (first | exact Le.refl _ | exact Le.any _ | exact le_sh | exact le_nil)))) | (refine le_eq ?_; simp -implicitDefEqProofs (disch := omega) only [get_cons, get_nil, if_true, if_false, ↓reduceIte, Nat.reduceEqDiff, eq_self, IntWalk.i64_in, IntWalk.i32_in, IntWalk.u8_in, IntWalk.u32_in, IntWalk.u64_in, reduceCtorEq]; try (first | rfl | (refine int_eq ?_; omega)))))))
      · omega
      · exact ⟨by omega, take_eq_snoc 0 (by omega) (by omega) hp (UInt8.toNat_inj.1 (by omega))⟩
    · rename_i h1
      rw [List.take_of_length_le (by omega), List.take_of_length_le (by omega)] at hp
      exact done_same ⟨bool_eq (decide_eq_true hp).symm, rfl⟩
end Go.Proofs.YthaicajgfioogaaDoor
