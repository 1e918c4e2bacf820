/- UtfCuts' law. -/
import Derived.Test.YthaicajgfioogaaDoorU3
import Derived.Test.YthaicajgfioogaaDoorU4
set_option linter.unusedSimpArgs false
set_option linter.unusedVariables false
namespace Go.Proofs.YthaicajgfioogaaDoor
open Go V
set_option maxRecDepth 10000
set_option maxHeartbeats 4000000
theorem UtfCuts_c {o o' : Own} (a b : List UInt8) (H : List AObj) : ACalls Tryd.prog 3 [.sl o 1 (a.map byteAV), .sl o' 1 (b.map byteAV)] H (fun x H' => x = .bool true ∧ H' = H) := by
  have ha := decR_len a
  have hb := decR_len b
  have hab := decR_len (a ++ b)
  rw [List.length_append] at hab
  refine acalls_vc L_ok mixed [] (rs := [.tmp 4]) (n := 56) Tryd.func3 rfl rfl rfl rfl (Nat.le_of_ble_eq_true rfl) (by kernel_rfl) ?_
  repeat' (first | refine unhold ?_ | (simp -dsimp -implicitDefEqProofs (disch := (first | assumption | omega | (simp only [List.length_map, List.length_append, List.length_cons, List.length_nil, List.length_replicate, List.length_drop, List.length_take]; omega))) only [go_sem, reduceCtorEq, Nat.reducePow, Int.reducePow, Nat.reduceDiv, Nat.reduceBEq, Nat.reduceEqDiff, Nat.reduceLT, Nat.reduceLeDiff, Nat.reduceAdd, Nat.reduceSub, Nat.reduceMul, Nat.reduceMod, Int.reduceToNat, Int.reduceNeg, Int.reduceAdd, Int.reduceSub, Int.reduceMul, Int.reduceLT, Int.reduceLE, Int.reduceEq, ↓reduceIte]) | (refine acalls_same (alive_c _) ?_) | (refine ⟨_, alive_c _, ?_⟩) | (refine ⟨_, _, alive_c _, ?_⟩) | (refine acalls_same (Decode_c _ _ ?_) ?_) | (refine ⟨_, Decode_c _ _ ?_, ?_⟩) | (refine ⟨_, _, Decode_c _ _ ?_, ?_⟩) | (refine acalls_same (Copy_c _ _ ?_) ?_) | (refine ⟨_, Copy_c _ _ ?_, ?_⟩) | (refine ⟨_, _, Copy_c _ _ ?_, ?_⟩) | (refine acalls_same (SameRunes_c _ _ _ ?_) ?_) | (refine ⟨_, SameRunes_c _ _ _ ?_, ?_⟩) | (refine ⟨_, _, SameRunes_c _ _ _ ?_, ?_⟩) | (refine And.intro (fun _ => unhold ?_) (fun _ => unhold ?_)) | (refine And.intro ?_ ?_; focus omega) | omega)
  · exact done_same ⟨rfl, rfl⟩
  · exact done_same ⟨rfl, rfl⟩
  · exact done_lit ⟨rfl, rfl⟩
  · exact done_lit ⟨rfl, rfl⟩
  · rename_i h1 h2 h3
    
    refine done_lit ⟨bool_eq (decide_eq_true (dec_app h1 h2).2), rfl⟩
  · rename_i h1 h2 h3
    exact absurd (dec_app h1 h2).1 h3
end Go.Proofs.YthaicajgfioogaaDoor
