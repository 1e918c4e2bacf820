/- UtfBack's law. -/
import Derived.Test.YthaicajgfioogaaDoorU7
import Derived.Test.YthaicajgfioogaaDoorUq
set_option linter.unusedSimpArgs false
set_option linter.unusedVariables false
namespace Go.Proofs.YthaicajgfioogaaDoor
open Go V
set_option maxRecDepth 10000
set_option maxHeartbeats 4000000
theorem UtfBack_c {o o' : Own} (l : List Int) (b : List UInt8) (H : List AObj) : ACalls Tryd.prog 6 [.sl o 1 (l.map runeAV), .sl o' 1 (b.map byteAV)] H (fun x H' => x = .bool true ∧ H' = H) := by
  have h1 := encR_len l
  have h2 := decR_len b
  have h3 := encR_len (decR b)
  have h4 := decR_len (encR l)
  refine acalls_vc L_ok mixed [] (rs := [.tmp 4]) (n := 65) Tryd.func6 rfl rfl rfl rfl (Nat.le_of_ble_eq_true rfl) (by kernel_rfl) ?_
  repeat' (first | refine unhold ?_ | (simp -dsimp -implicitDefEqProofs (disch := (first | assumption | omega | (simp only [List.length_map, List.length_append, List.length_cons, List.length_nil, List.length_replicate, List.length_drop, List.length_take]; omega))) only [go_sem, reduceCtorEq, Nat.reducePow, Int.reducePow, Nat.reduceDiv, Nat.reduceBEq, Nat.reduceEqDiff, Nat.reduceLT, Nat.reduceLeDiff, Nat.reduceAdd, Nat.reduceSub, Nat.reduceMul, Nat.reduceMod, Int.reduceToNat, Int.reduceNeg, Int.reduceAdd, Int.reduceSub, Int.reduceMul, Int.reduceLT, Int.reduceLE, Int.reduceEq, ↓reduceIte]) | (refine acalls_same (alive_c _) ?_) | (refine ⟨_, alive_c _, ?_⟩) | (refine ⟨_, _, alive_c _, ?_⟩) | (refine acalls_same (Encode_c _ _ ?_) ?_) | (refine ⟨_, Encode_c _ _ ?_, ?_⟩) | (refine ⟨_, _, Encode_c _ _ ?_, ?_⟩) | (refine acalls_same (Decode_c _ _ ?_) ?_) | (refine ⟨_, Decode_c _ _ ?_, ?_⟩) | (refine ⟨_, _, Decode_c _ _ ?_, ?_⟩) | (refine acalls_same (Same_c _ _ _ ?_) ?_) | (refine ⟨_, Same_c _ _ _ ?_, ?_⟩) | (refine ⟨_, _, Same_c _ _ _ ?_, ?_⟩) | (refine acalls_same (SameRunes_c _ _ _ ?_) ?_) | (refine ⟨_, SameRunes_c _ _ _ ?_, ?_⟩) | (refine ⟨_, _, SameRunes_c _ _ _ ?_, ?_⟩) | (refine And.intro (fun _ => unhold ?_) (fun _ => unhold ?_)) | (refine And.intro ?_ ?_; focus (first | omega | assumption | (repeat' (first | assumption | omega | refine And.intro ?_ ?_); done))) | omega)
  all_goals
    have f1 := @back_enc l
    have f2 := @back_dec b
    have f3 := @decR_no b
    first
      | exact done_same ⟨rfl, rfl⟩
      | exact absurd (f1 (by assumption)).1 (by assumption)
      | exact absurd (f1 (by assumption)).2.symm (by assumption)
      | exact done_same ⟨bool_eq (decide_eq_true (f2 (by assumption)).2.symm), rfl⟩
      | exact absurd (f2 (by assumption)).1 (by assumption)
      | exact done_same ⟨bool_eq (decide_eq_true (by rw [f3 (by assumption)]; rfl)), rfl⟩
end Go.Proofs.YthaicajgfioogaaDoor
