/- Right, Decode; the fixed fact; UtfLower's law. -/
import Derived.Test.YthaicajgfioogaaDoorU2
import Derived.Lib.TrimUEq
import Derived.Test.YthaicajgfioogaaDoorUp
set_option linter.unusedSimpArgs false
set_option linter.unusedVariables false
namespace Go.Proofs.YthaicajgfioogaaDoor
open Go V
set_option maxRecDepth 10000
set_option maxHeartbeats 4000000
theorem runesFrom_eq (s : ByteArray) : ∀ (n i : Nat) (acc : Array Value), (Conv.runesFrom s n i acc).toList = acc.toList ++ (runesGo n (s.data.toList.drop i)).map (Value.int .i32)
  | 0, i, acc => by simp [Conv.runesFrom, runesGo]
  | n + 1, i, acc => by
    unfold Conv.runesFrom runesGo
    by_cases h : i < s.size
    · have hne : s.data.toList.drop i ≠ [] := by
        intro e
        have := congrArg List.length e
        rw [List.length_drop, List.length_nil, ← Lib.size_eq] at this
        omega
      rw [if_pos h, if_neg hne]
      simp only
      rw [runesFrom_eq s n, Lib.decodeL_drop, List.drop_drop]
      simp
    · have he : s.data.toList.drop i = [] := List.drop_eq_nil_of_le (by rw [← Lib.size_eq]; omega)
      rw [if_neg h, if_pos he]
      simp
theorem runesAV_eq (l : List UInt8) : runesAV l = (runesOf l).map runeAV := by
  unfold runesAV runesOf
  rw [runesFrom_eq]
  simp only [List.nil_append, List.map_map, List.drop_zero]
  rfl
theorem Right_c {o : Own} (l : List UInt8) (H : List AObj) (hl : l.length ≤ 10000) : ACalls Tryd.prog 24 [.sl o 1 (l.map byteAV)] H (fun x H' => x = .bool (Lib.validD l) ∧ H' = H) := by
  refine acalls_vc L_ok mixed [] (rs := [.tmp 2]) (n := 5) Tryd.func24 rfl rfl rfl rfl (Nat.le_of_ble_eq_true rfl) (by kernel_rfl) ?_
  repeat' (first | refine unhold ?_ | (simp -dsimp -implicitDefEqProofs (disch := (first | assumption | omega | (simp only [List.length_map, List.length_append, List.length_cons, List.length_nil, List.length_replicate, List.length_drop, List.length_take]; omega))) only [go_sem, reduceCtorEq, Nat.reducePow, Int.reducePow, Nat.reduceDiv, Nat.reduceBEq, Nat.reduceEqDiff, Nat.reduceLT, Nat.reduceLeDiff, Nat.reduceAdd, Nat.reduceSub, Nat.reduceMul, Nat.reduceMod, Int.reduceToNat, Int.reduceNeg, Int.reduceAdd, Int.reduceSub, Int.reduceMul, Int.reduceDiv, Int.reduceMod, Int.reduceLT, Int.reduceLE, Int.reduceEq, ↓reduceIte]) | (refine acalls_same (Valid_c _ _ ?_) ?_) | (refine ⟨_, Valid_c _ _ ?_, ?_⟩) | (refine ⟨_, _, Valid_c _ _ ?_, ?_⟩) | (refine And.intro (fun _ => unhold ?_) (fun _ => unhold ?_)) | (refine And.intro ?_ ?_; focus (first | omega | assumption | (repeat' (first | assumption | omega | refine And.intro ?_ ?_); done))) | omega)
  exact done_same ⟨rfl, rfl⟩
def decR (l : List UInt8) : List Int := if Lib.validD l = true then runesOf l else []
def decE (l : List UInt8) : Int := if Lib.validD l = true then 0 else 2
theorem Decode_c {o : Own} (l : List UInt8) (H : List AObj) (hl : l.length ≤ 10000) : ACalls Tryd.prog 10 [.sl o 1 (l.map byteAV)] H (fun x H' => x = .tup [.sl .sh 1 ((decR l).map runeAV), .int .i64 (decE l)] ∧ H' = H) := by
  refine acalls_vc L_ok mixed [] (rs := [.tmp 2, .tmp 3]) (n := 10) Tryd.func10 rfl rfl rfl rfl (Nat.le_of_ble_eq_true rfl) (by kernel_rfl) ?_
  repeat' (first | refine unhold ?_ | (simp -dsimp -implicitDefEqProofs (disch := (first | assumption | omega | (simp only [List.length_map, List.length_append, List.length_cons, List.length_nil, List.length_replicate, List.length_drop, List.length_take]; omega))) only [go_sem, reduceCtorEq, Nat.reducePow, Int.reducePow, Nat.reduceDiv, Nat.reduceBEq, Nat.reduceEqDiff, Nat.reduceLT, Nat.reduceLeDiff, Nat.reduceAdd, Nat.reduceSub, Nat.reduceMul, Nat.reduceMod, Int.reduceToNat, Int.reduceNeg, Int.reduceAdd, Int.reduceSub, Int.reduceMul, Int.reduceDiv, Int.reduceMod, Int.reduceLT, Int.reduceLE, Int.reduceEq, ↓reduceIte]) | (refine acalls_same (Right_c _ _ ?_) ?_) | (refine ⟨_, Right_c _ _ ?_, ?_⟩) | (refine ⟨_, _, Right_c _ _ ?_, ?_⟩) | (refine And.intro (fun _ => unhold ?_) (fun _ => unhold ?_)) | (refine And.intro ?_ ?_; focus (first | omega | assumption | (repeat' (first | assumption | omega | refine And.intro ?_ ?_); done))) | omega)
  · rename_i h
    rw [decR, decE, h]
    exact done_le _ (le_tup2 le_nil (Le.refl _)) ⟨rfl, rfl⟩
  · rename_i h
    rw [decR, decE, h, runesAV_eq]
    exact done_same ⟨rfl, rfl⟩
theorem runesGo_len : ∀ (n : Nat) (l : List UInt8), (runesGo n l).length ≤ n
  | 0, _ => Nat.le_refl _
  | n + 1, l => by
    unfold runesGo
    split
    · simp
    · have := runesGo_len n (l.drop (Lib.decodeL l).2)
      simp only [List.length_cons]
      omega
theorem decR_len (l : List UInt8) : (decR l).length ≤ l.length := by
  unfold decR runesOf
  split
  · exact runesGo_len _ _
  · simp
theorem decE_ok {l : List UInt8} (h : decE l = 0) : Lib.validD l = true := by
  unfold decE at h
  split at h
  · assumption
  · cases h
theorem decR_no {l : List UInt8} (h : decE l ≠ 0) : decR l = [] := by
  unfold decE at h
  unfold decR
  split at h
  · exact absurd rfl h
  · rename_i hv
    rw [if_neg hv]
theorem dec_app {a b : List UInt8} (ha : decE a = 0) (hb : decE b = 0) : decE (a ++ b) = 0 ∧ decR (a ++ b) = decR a ++ decR b := by
  have h1 := decE_ok ha
  have h2 := decE_ok hb
  obtain ⟨h3, h4⟩ := valid_app a.length a b (Nat.le_refl _) h1
  rw [h2] at h3
  unfold decE decR
  rw [if_pos h3, if_pos h1, if_pos h2, if_pos h3]
  exact ⟨rfl, h4⟩
theorem dec1 : decR [195, 169, 97] = [233, 97] := by decide +kernel
theorem dec1e : decE [195, 169, 97] = 0 := by decide +kernel
theorem dec2e : decE [192, 128] = 2 := by decide +kernel
theorem Decode_1 {o : Own} (H : List AObj) : ACalls Tryd.prog 10 [.sl o 1 [.lit (.int .u8 195), .lit (.int .u8 169), .lit (.int .u8 97)]] H (fun x H' => x = .tup [.sl .sh 1 [.lit (.int .i32 233), .lit (.int .i32 97)], .int .i64 0] ∧ H' = H) := by
  have := Decode_c (o := o) [195, 169, 97] H (by decide)
  rw [dec1, dec1e] at this
  exact this
theorem Decode_2 {o : Own} (H : List AObj) : ACalls Tryd.prog 10 [.sl o 1 [.lit (.int .u8 192), .lit (.int .u8 128)]] H (fun x H' => x = .tup [.sl .sh 1 ((decR [192, 128]).map runeAV), .int .i64 2] ∧ H' = H) := by
  have := Decode_c (o := o) [192, 128] H (by decide)
  rw [dec2e] at this
  exact this
theorem alive_c (H : List AObj) : ACalls Tryd.prog 9 [] H (fun x H' => x = .bool true ∧ H' = H) := by
  refine acalls_vc L_ok mixed [] (rs := [.tmp 0]) (n := 36) Tryd.func9 rfl rfl rfl rfl (Nat.le_of_ble_eq_true rfl) (by kernel_rfl) ?_
  repeat' (first | refine unhold ?_ | (simp -dsimp -implicitDefEqProofs (disch := (first | assumption | omega | (simp only [List.length_map, List.length_append, List.length_cons, List.length_nil, List.length_replicate, List.length_drop, List.length_take]; omega))) only [go_sem, reduceCtorEq, Nat.reducePow, Int.reducePow, Nat.reduceDiv, Nat.reduceBEq, Nat.reduceEqDiff, Nat.reduceLT, Nat.reduceLeDiff, Nat.reduceAdd, Nat.reduceSub, Nat.reduceMul, Nat.reduceMod, Int.reduceToNat, Int.reduceNeg, Int.reduceAdd, Int.reduceSub, Int.reduceMul, Int.reduceDiv, Int.reduceMod, Int.reduceLT, Int.reduceLE, Int.reduceEq, ↓reduceIte]) | (refine acalls_same (Decode_1 _) ?_) | (refine ⟨_, Decode_1 _, ?_⟩) | (refine ⟨_, _, Decode_1 _, ?_⟩) | (refine acalls_same (Decode_2 _) ?_) | (refine ⟨_, Decode_2 _, ?_⟩) | (refine ⟨_, _, Decode_2 _, ?_⟩) | (refine acalls_same (Lower_c _ _ ?_) ?_) | (refine ⟨_, Lower_c _ _ ?_, ?_⟩) | (refine ⟨_, _, Lower_c _ _ ?_, ?_⟩) | (refine And.intro (fun _ => unhold ?_) (fun _ => unhold ?_)) | (refine And.intro ?_ ?_; focus (first | omega | assumption | (repeat' (first | assumption | omega | refine And.intro ?_ ?_); done))) | omega)
  exact done_same ⟨bool_eq (by decide +kernel), rfl⟩
theorem low_low (b : UInt8) : lowB (lowB b) = lowB b := by
  have : ∀ n : _root_.Fin 256, lowB (lowB (UInt8.ofNat n.val)) = lowB (UInt8.ofNat n.val) := by decide +kernel
  have h := this ⟨b.toNat, b.toNat_lt⟩
  simpa using h
theorem UtfLower_c (l : List UInt8) (H : List AObj) : ACalls Tryd.prog 4 [.str l] H (fun x H' => x = .bool true ∧ H' = H) := by
  refine acalls_vc L_ok mixed [] (rs := [.tmp 2]) (n := 28) Tryd.func4 rfl rfl rfl rfl (Nat.le_of_ble_eq_true rfl) (by kernel_rfl) ?_
  repeat' (first | refine unhold ?_ | (simp -dsimp -implicitDefEqProofs (disch := (first | assumption | omega | (simp only [List.length_map, List.length_append, List.length_cons, List.length_nil, List.length_replicate, List.length_drop, List.length_take]; omega))) only [go_sem, reduceCtorEq, Nat.reducePow, Int.reducePow, Nat.reduceDiv, Nat.reduceBEq, Nat.reduceEqDiff, Nat.reduceLT, Nat.reduceLeDiff, Nat.reduceAdd, Nat.reduceSub, Nat.reduceMul, Nat.reduceMod, Int.reduceToNat, Int.reduceNeg, Int.reduceAdd, Int.reduceSub, Int.reduceMul, Int.reduceDiv, Int.reduceMod, Int.reduceLT, Int.reduceLE, Int.reduceEq, ↓reduceIte]) | (refine acalls_same (alive_c _) ?_) | (refine ⟨_, alive_c _, ?_⟩) | (refine ⟨_, _, alive_c _, ?_⟩) | (refine acalls_same (Lower_c _ _ ?_) ?_) | (refine ⟨_, Lower_c _ _ ?_, ?_⟩) | (refine ⟨_, _, Lower_c _ _ ?_, ?_⟩) | (refine acalls_same (Lower_r _ _ ?_) ?_) | (refine ⟨_, Lower_r _ _ ?_, ?_⟩) | (refine ⟨_, _, Lower_r _ _ ?_, ?_⟩) | (refine acalls_same (Printable_c _ _ ?_) ?_) | (refine ⟨_, Printable_c _ _ ?_, ?_⟩) | (refine ⟨_, _, Printable_c _ _ ?_, ?_⟩) | (refine acalls_same (Printable_ref _ _ ?_) ?_) | (refine ⟨_, Printable_ref _ _ ?_, ?_⟩) | (refine ⟨_, _, Printable_ref _ _ ?_, ?_⟩) | (refine And.intro (fun _ => unhold ?_) (fun _ => unhold ?_)) | (refine And.intro ?_ ?_; focus (first | omega | assumption | (repeat' (first | assumption | omega | refine And.intro ?_ ?_); done))) | omega)
  · exact done_same ⟨rfl, rfl⟩
  · exact done_same ⟨rfl, rfl⟩
  · rename_i h
    exact absurd (by rw [List.map_map]; exact List.map_congr_left fun b _ => low_low b) h
end Go.Proofs.YthaicajgfioogaaDoor
