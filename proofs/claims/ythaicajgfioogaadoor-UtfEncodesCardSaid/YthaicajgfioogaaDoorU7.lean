/- UtfEncodes' law. -/
import Derived.Test.YthaicajgfioogaaDoorU3
import Derived.Test.YthaicajgfioogaaDoorU4
import Derived.Test.YthaicajgfioogaaDoorU6
set_option linter.unusedSimpArgs false
set_option linter.unusedVariables false
namespace Go.Proofs.YthaicajgfioogaaDoor
open Go V
set_option maxRecDepth 10000
set_option maxHeartbeats 4000000
theorem encR_len (l : List Int) : (encR l).length ≤ 4 * l.length := by
  unfold encR
  split
  · exact encL_len l
  · simp
theorem UtfEncodes_c {o : Own} (l : List Int) (H : List AObj) : ACalls Tryd.prog 5 [.sl o 1 (l.map runeAV)] H (fun x H' => x = .bool true ∧ H' = H) := by
  have hl := encR_len l
  refine acalls_vc L_ok mixed [] (rs := [.tmp 2]) (n := 30) Tryd.func5 rfl rfl rfl rfl (Nat.le_of_ble_eq_true rfl) (by kernel_rfl) ?_
  repeat' (first | refine unhold ?_ | (simp -dsimp -implicitDefEqProofs (disch := (first | assumption | omega | (simp only [List.length_map, List.length_append, List.length_cons, List.length_nil, List.length_replicate, List.length_drop, List.length_take]; omega))) only [go_sem, reduceCtorEq, Nat.reducePow, Int.reducePow, Nat.reduceDiv, Nat.reduceBEq, Nat.reduceEqDiff, Nat.reduceLT, Nat.reduceLeDiff, Nat.reduceAdd, Nat.reduceSub, Nat.reduceMul, Nat.reduceMod, Int.reduceToNat, Int.reduceNeg, Int.reduceAdd, Int.reduceSub, Int.reduceMul, Int.reduceLT, Int.reduceLE, Int.reduceEq, ↓reduceIte]) | (refine acalls_same (alive_c _) ?_) | (refine ⟨_, alive_c _, ?_⟩) | (refine ⟨_, _, alive_c _, ?_⟩) | (refine acalls_same (Encode_c _ _ ?_) ?_) | (refine ⟨_, Encode_c _ _ ?_, ?_⟩) | (refine ⟨_, _, Encode_c _ _ ?_, ?_⟩) | (refine acalls_same (Encode_r _ _ ?_) ?_) | (refine ⟨_, Encode_r _ _ ?_, ?_⟩) | (refine ⟨_, _, Encode_r _ _ ?_, ?_⟩) | (refine acalls_same (Same_c _ _ _ ?_) ?_) | (refine ⟨_, Same_c _ _ _ ?_, ?_⟩) | (refine ⟨_, _, Same_c _ _ _ ?_, ?_⟩) | (refine And.intro (fun _ => unhold ?_) (fun _ => unhold ?_)) | (refine And.intro ?_ ?_; focus (first | omega | assumption | (repeat' (first | assumption | omega | refine And.intro ?_ ?_); done))) | omega)
  all_goals first | exact done_same ⟨rfl, rfl⟩ | skip
end Go.Proofs.YthaicajgfioogaaDoor
