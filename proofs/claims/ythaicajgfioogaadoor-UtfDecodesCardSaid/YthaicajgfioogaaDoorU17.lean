/- The document's decoder; the laws UtfFirst and UtfDecodes. -/
import Derived.Test.YthaicajgfioogaaDoorU16
set_option linter.unusedSimpArgs false
set_option linter.unusedVariables false
namespace Go.Proofs.YthaicajgfioogaaDoor
open Go V
set_option maxRecDepth 10000
set_option maxHeartbeats 4000000
theorem fir_ok {m : List UInt8} (hne : m ≠ []) (h : badP m = false) : 1 ≤ firN m ∧ firN m ≤ m.length ∧ firN m ≤ 4 ∧ firE m = 0 ∧ decE m = decE (m.drop (firN m).toNat) ∧ (decE m = 0 → decR m = firR m :: decR (m.drop (firN m).toNat)) := by
  have hd : decP m = Lib.decodeL m := if_neg hne
  have hg := of_decide_eq_false h
  rw [hd] at hg
  have hw := Lib.decodeL_width m
  have hle := Lib.decodeL_le m hne
  have hg' : ¬ ((Lib.decodeL m).1 = 65533 ∧ (Lib.decodeL m).2 = 1) := fun h => hg ⟨h.1, by omega⟩
  obtain ⟨_, _, h4⟩ := enc_dec1 hne hg'
  have e1 : firN m = (Lib.decodeL m).2 := by rw [firN, h, hd]; rfl
  have e2 : firR m = (Lib.decodeL m).1 := by rw [firR, h, hd]; rfl
  have e3 : firE m = 0 := by rw [firE, h]; rfl
  have hv : Lib.validD m = Lib.validD (m.drop (Lib.decodeL m).2) := by rw [Lib.validD_step _ hne, if_neg hg']
  rw [e1, e2, e3, Int.toNat_natCast]
  refine ⟨by omega, by omega, by omega, rfl, ?_, fun h0 => ?_⟩
  · unfold decE
    rw [hv]
  have := decE_ok h0
  unfold decR
  rw [if_pos this, ← hv, if_pos this, runesOf_step hne]
theorem fir_no {m : List UInt8} (hne : m ≠ []) (h : badP m = true) : firE m = 2 ∧ decE m = 2 := by
  have hd : decP m = Lib.decodeL m := if_neg hne
  have hg := of_decide_eq_true h
  rw [hd] at hg
  have hw := Lib.decodeL_width m
  refine ⟨(bad_no h).2.2, ?_⟩
  have hv : Lib.validD m = false := by
    rw [Lib.validD_step _ hne]
    exact if_pos ⟨hg.1, by omega⟩
  unfold decE
  rw [hv]
  rfl
theorem fir_E {m : List UInt8} (hne : m ≠ []) (h : firE m = 0) : badP m = false := by
  cases hb : badP m with
  | false => rfl
  | true => rw [(fir_no hne hb).1] at h; cases h
theorem fir_E' {m : List UInt8} (hne : m ≠ []) (h : ¬ firE m = 0) : badP m = true := by
  cases hb : badP m with
  | true => rfl
  | false => exact absurd (fir_ok hne hb).2.2.2.1 h
theorem Decode_r {o : Own} (l : List UInt8) (H : List AObj) (hl : l.length ≤ 10000) : ACalls Tryd.prog 21 [.sl o 1 (l.map byteAV)] H (fun x H' => x = .tup [.sl .sh 1 ((decR l).map runeAV), .int .i64 (decE l)] ∧ H' = H) := by
  refine acalls_vc L_ok mixed [] (rs := [.tmp 2, .tmp 3]) (n := 28) Tryd.func21 rfl rfl rfl rfl (Nat.le_of_ble_eq_true rfl) (by kernel_rfl) ?_
  repeat' (first | refine unhold ?_ | (simp -dsimp -implicitDefEqProofs (disch := (first | assumption | omega | (simp only [List.length_map, List.length_append, List.length_cons, List.length_nil, List.length_replicate, List.length_drop, List.length_take]; omega))) only [go_sem, reduceCtorEq, Nat.reducePow, Int.reducePow, Nat.reduceDiv, Nat.reduceBEq, Nat.reduceEqDiff, Nat.reduceLT, Nat.reduceLeDiff, Nat.reduceAdd, Nat.reduceSub, Nat.reduceMul, Nat.reduceMod, Int.reduceToNat, Int.reduceNeg, Int.reduceAdd, Int.reduceSub, Int.reduceMul, Int.reduceDiv, Int.reduceMod, Int.reduceLT, Int.reduceLE, Int.reduceEq, ↓reduceIte]) | (refine And.intro (fun _ => unhold ?_) (fun _ => unhold ?_)) | (refine And.intro ?_ ?_; focus (first | omega | assumption | (repeat' (first | assumption | omega | refine And.intro ?_ ?_); done))) | omega)
  refine aw_mint 4 1 rfl (by decide) (fun h => absurd rfl h) ?_
  refine vc_loopk L_ok mixed [] [] (fun (m, acc) => acc.length + m.length ≤ l.length ∧ decE l = decE m ∧ (decE m = 0 → decR l = acc ++ decR m)) (fun (m, acc) => [(0, .sl .sh 1 (m.map byteAV)), (4, .sl (.tok H.length) 1 (acc.map runeAV))]) (fun (m, acc) => H ++ [.grow 1 acc.length]) (fun (m, _) => m.length) (by kernel_rfl) ?_ (l, []) ⟨by simp, rfl, fun _ => rfl⟩ (by repeat (first | exact envLe_nil | (refine envLe_cons ?_ ?_; focus (first | exact Le.refl _ | exact Le.any _ | exact le_sh | exact le_nil | (refine le_tup ?_; repeat (first | exact LeAll.nil | (refine LeAll.cons ?_ ?_; focus (first | exact Le.refl _ | exact Le.any _ | exact le_sh | exact le_nil)))) | (refine le_agg ?_; repeat (first | exact LeAll.nil | (refine LeAll.cons ?_ ?_; focus (first | exact Le.refl _ | exact Le.any _ | exact le_sh | exact le_nil)))) | (refine le_eq ?_; simp -implicitDefEqProofs (disch := omega) only [get_cons, get_nil, if_true, if_false, ↓reduceIte, Nat.reduceEqDiff, eq_self, IntWalk.i64_in, IntWalk.i32_in, IntWalk.u8_in, IntWalk.u32_in, IntWalk.u64_in, reduceCtorEq]; try (first | rfl | (refine int_eq ?_; omega))))))) rfl
  rintro ⟨m, acc⟩ ⟨hm, he, hr⟩
  dsimp only
  by_cases hne : m = []
  · subst hne
    repeat' (first | refine unhold ?_ | (simp -dsimp -implicitDefEqProofs (disch := (first | assumption | omega | (simp only [List.length_map, List.length_append, List.length_cons, List.length_nil, List.length_replicate, List.length_drop, List.length_take]; omega))) only [go_sem, reduceCtorEq, Nat.reducePow, Int.reducePow, Nat.reduceDiv, Nat.reduceBEq, Nat.reduceEqDiff, Nat.reduceLT, Nat.reduceLeDiff, Nat.reduceAdd, Nat.reduceSub, Nat.reduceMul, Nat.reduceMod, Int.reduceToNat, Int.reduceNeg, Int.reduceAdd, Int.reduceSub, Int.reduceMul, Int.reduceDiv, Int.reduceMod, Int.reduceLT, Int.reduceLE, Int.reduceEq, ↓reduceIte]) | (refine And.intro (fun _ => unhold ?_) (fun _ => unhold ?_)) | (refine And.intro ?_ ?_; focus (first | omega | assumption | (repeat' (first | assumption | omega | refine And.intro ?_ ?_); done))) | omega)
    have h0 : decE ([] : List UInt8) = 0 := rfl
    rw [h0] at he
    have hr' := hr h0
    rw [he, hr', show decR ([] : List UInt8) = [] from rfl, List.append_nil]
    refine done_cut (.tup [.sl .sh 1 (acc.map runeAV), .lit (.int .i64 0)]) (by (first | exact Le.refl _ | exact Le.any _ | exact le_sh | exact le_nil | (refine le_tup ?_; repeat (first | exact LeAll.nil | (refine LeAll.cons ?_ ?_; focus (first | exact Le.refl _ | exact Le.any _ | exact le_sh | exact le_nil)))) | (refine le_agg ?_; repeat (first | exact LeAll.nil | (refine LeAll.cons ?_ ?_; focus (first | exact Le.refl _ | exact Le.any _ | exact le_sh | exact le_nil)))) | (refine le_eq ?_; simp -implicitDefEqProofs (disch := omega) only [get_cons, get_nil, if_true, if_false, ↓reduceIte, Nat.reduceEqDiff, eq_self, IntWalk.i64_in, IntWalk.i32_in, IntWalk.u8_in, IntWalk.u32_in, IntWalk.u64_in, reduceCtorEq]; try (first | rfl | (refine int_eq ?_; omega))))) (by (first | (first | exact .lit _ | exact .str _ | exact .any | exact low_bytes | exact low_runes | exact .mp _ _ (by omega) | exact .msl _ _ _ _ (by omega) | exact low_nilsl (fun k e => by cases e)) | (refine low_tup ?_; repeat (first | exact lowAll_nil | (refine lowAll_cons ?_ ?_; focus (first | exact .lit _ | exact .str _ | exact .any | exact low_bytes | exact low_runes | exact .mp _ _ (by omega) | exact .msl _ _ _ _ (by omega) | exact low_nilsl (fun k e => by cases e))))) | (refine low_agg ?_; repeat (first | exact lowAll_nil | (refine lowAll_cons ?_ ?_; focus (first | exact .lit _ | exact .str _ | exact .any | exact low_bytes | exact low_runes | exact .mp _ _ (by omega) | exact .msl _ _ _ _ (by omega) | exact low_nilsl (fun k e => by cases e))))))) ?_
    exact ⟨rfl, rfl⟩
  · have hpos := List.length_pos_iff.2 hne
    cases hb : badP m with
    | true =>
      obtain ⟨h1, h2⟩ := fir_no hne hb
      repeat' (first | refine unhold ?_ | (simp -dsimp -implicitDefEqProofs (disch := (first | assumption | omega | (simp only [List.length_map, List.length_append, List.length_cons, List.length_nil, List.length_replicate, List.length_drop, List.length_take]; omega))) only [go_sem, reduceCtorEq, Nat.reducePow, Int.reducePow, Nat.reduceDiv, Nat.reduceBEq, Nat.reduceEqDiff, Nat.reduceLT, Nat.reduceLeDiff, Nat.reduceAdd, Nat.reduceSub, Nat.reduceMul, Nat.reduceMod, Int.reduceToNat, Int.reduceNeg, Int.reduceAdd, Int.reduceSub, Int.reduceMul, Int.reduceDiv, Int.reduceMod, Int.reduceLT, Int.reduceLE, Int.reduceEq, ↓reduceIte]) | (refine acalls_same (First_r _ _ ?_) ?_) | (refine ⟨_, First_r _ _ ?_, ?_⟩) | (refine ⟨_, _, First_r _ _ ?_, ?_⟩) | (refine And.intro (fun _ => unhold ?_) (fun _ => unhold ?_)) | (refine And.intro ?_ ?_; focus (first | omega | assumption | (repeat' (first | assumption | omega | refine And.intro ?_ ?_); done))) | omega)
      · rw [he, h2, decR_no (by rw [he, h2]; decide), h1]
        refine done_cut (.tup [.sl .sh 1 [], .lit (.int .i64 2)]) (by (first | exact Le.refl _ | exact Le.any _ | exact le_sh | exact le_nil | (refine le_tup ?_; repeat (first | exact LeAll.nil | (refine LeAll.cons ?_ ?_; focus (first | exact Le.refl _ | exact Le.any _ | exact le_sh | exact le_nil)))) | (refine le_agg ?_; repeat (first | exact LeAll.nil | (refine LeAll.cons ?_ ?_; focus (first | exact Le.refl _ | exact Le.any _ | exact le_sh | exact le_nil)))) | (refine le_eq ?_; simp -implicitDefEqProofs (disch := omega) only [get_cons, get_nil, if_true, if_false, ↓reduceIte, Nat.reduceEqDiff, eq_self, IntWalk.i64_in, IntWalk.i32_in, IntWalk.u8_in, IntWalk.u32_in, IntWalk.u64_in, reduceCtorEq]; try (first | rfl | (refine int_eq ?_; omega))))) (by (first | (first | exact .lit _ | exact .str _ | exact .any | exact low_bytes | exact low_runes | exact .mp _ _ (by omega) | exact .msl _ _ _ _ (by omega) | exact low_nilsl (fun k e => by cases e)) | (refine low_tup ?_; repeat (first | exact lowAll_nil | (refine lowAll_cons ?_ ?_; focus (first | exact .lit _ | exact .str _ | exact .any | exact low_bytes | exact low_runes | exact .mp _ _ (by omega) | exact .msl _ _ _ _ (by omega) | exact low_nilsl (fun k e => by cases e))))) | (refine low_agg ?_; repeat (first | exact lowAll_nil | (refine lowAll_cons ?_ ?_; focus (first | exact .lit _ | exact .str _ | exact .any | exact low_bytes | exact low_runes | exact .mp _ _ (by omega) | exact .msl _ _ _ _ (by omega) | exact low_nilsl (fun k e => by cases e))))))) ?_
        exact ⟨rfl, rfl⟩
      all_goals (exfalso; omega)
    | false =>
      obtain ⟨h1, h2, h3, h4, h5, h6⟩ := fir_ok hne hb
      repeat' (first | refine unhold ?_ | (simp -dsimp -implicitDefEqProofs (disch := (first | assumption | omega | (simp only [List.length_map, List.length_append, List.length_cons, List.length_nil, List.length_replicate, List.length_drop, List.length_take]; omega))) only [go_sem, reduceCtorEq, Nat.reducePow, Int.reducePow, Nat.reduceDiv, Nat.reduceBEq, Nat.reduceEqDiff, Nat.reduceLT, Nat.reduceLeDiff, Nat.reduceAdd, Nat.reduceSub, Nat.reduceMul, Nat.reduceMod, Int.reduceToNat, Int.reduceNeg, Int.reduceAdd, Int.reduceSub, Int.reduceMul, Int.reduceDiv, Int.reduceMod, Int.reduceLT, Int.reduceLE, Int.reduceEq, ↓reduceIte]) | (refine acalls_same (First_r _ _ ?_) ?_) | (refine ⟨_, First_r _ _ ?_, ?_⟩) | (refine ⟨_, _, First_r _ _ ?_, ?_⟩) | (refine And.intro (fun _ => unhold ?_) (fun _ => unhold ?_)) | (refine And.intro ?_ ?_; focus (first | omega | assumption | (repeat' (first | assumption | omega | refine And.intro ?_ ?_); done))) | omega)
      have e : acc.map runeAV ++ [AV.int .i32 (firR m)] = (acc ++ [firR m]).map runeAV := by rw [List.map_append]; rfl
      rw [e, show acc.length + 1 = (acc ++ [firR m]).length by simp]
      refine again ((m.drop (firN m).toNat, acc ++ [firR m])) ?_ ?_ rfl (by repeat (first | exact envLe_nil | (refine envLe_cons ?_ ?_; focus (first | exact Le.refl _ | exact Le.any _ | exact le_sh | exact le_nil | (refine le_tup ?_; repeat (first | exact LeAll.nil | (refine LeAll.cons ?_ ?_; focus (first | exact Le.refl _ | exact Le.any _ | exact le_sh | exact le_nil)))) | (refine le_agg ?_; repeat (first | exact LeAll.nil | (refine LeAll.cons ?_ ?_; focus (first | exact Le.refl _ | exact Le.any _ | exact le_sh | exact le_nil)))) | (refine le_eq ?_; simp -implicitDefEqProofs (disch := omega) only [get_cons, get_nil, if_true, if_false, ↓reduceIte, Nat.reduceEqDiff, eq_self, IntWalk.i64_in, IntWalk.i32_in, IntWalk.u8_in, IntWalk.u32_in, IntWalk.u64_in, reduceCtorEq]; try (first | rfl | (refine int_eq ?_; omega)))))))
      · simp only [List.length_drop]; omega
      · refine ⟨by simp only [List.length_drop, List.length_append, List.length_cons, List.length_nil]; omega, by rw [he, h5], fun h0 => ?_⟩
        rw [hr (by rw [h5]; exact h0), h6 (by rw [h5]; exact h0), List.append_assoc]
        rfl
theorem valid_decE (b : List UInt8) : Lib.validD b = decide (decE b = 0) := by
  unfold decE
  cases Lib.validD b <;> rfl
theorem decE_fir {b : List UInt8} (hne : b ≠ []) (h : decE b = 0) : badP b = false := by
  cases hb : badP b with
  | false => rfl
  | true => rw [(fir_no hne hb).2] at h; cases h
theorem UtfDecodes_c {o : Own} (b : List UInt8) (H : List AObj) : ACalls Tryd.prog 8 [.sl o 1 (b.map byteAV)] H (fun x H' => x = .bool true ∧ H' = H) := by
  have hb := decR_len b
  refine acalls_vc L_ok mixed [] (rs := [.tmp 2]) (n := 96) Tryd.func8 rfl rfl rfl rfl (Nat.le_of_ble_eq_true rfl) (by kernel_rfl) ?_
  repeat' (first | refine unhold ?_ | (simp -dsimp -implicitDefEqProofs (disch := (first | assumption | omega | (simp only [List.length_map, List.length_append, List.length_cons, List.length_nil, List.length_replicate, List.length_drop, List.length_take]; omega))) only [go_sem, reduceCtorEq, Nat.reducePow, Int.reducePow, Nat.reduceDiv, Nat.reduceBEq, Nat.reduceEqDiff, Nat.reduceLT, Nat.reduceLeDiff, Nat.reduceAdd, Nat.reduceSub, Nat.reduceMul, Nat.reduceMod, Int.reduceToNat, Int.reduceNeg, Int.reduceAdd, Int.reduceSub, Int.reduceMul, Int.reduceDiv, Int.reduceMod, Int.reduceLT, Int.reduceLE, Int.reduceEq, ↓reduceIte]) | (refine acalls_same (alive_c _) ?_) | (refine ⟨_, alive_c _, ?_⟩) | (refine ⟨_, _, alive_c _, ?_⟩) | (refine acalls_same (Copy_c _ _ ?_) ?_) | (refine ⟨_, Copy_c _ _ ?_, ?_⟩) | (refine ⟨_, _, Copy_c _ _ ?_, ?_⟩) | (refine acalls_same (Decode_c _ _ ?_) ?_) | (refine ⟨_, Decode_c _ _ ?_, ?_⟩) | (refine ⟨_, _, Decode_c _ _ ?_, ?_⟩) | (refine acalls_same (Decode_r _ _ ?_) ?_) | (refine ⟨_, Decode_r _ _ ?_, ?_⟩) | (refine ⟨_, _, Decode_r _ _ ?_, ?_⟩) | (refine acalls_same (Count_c _ _ ?_) ?_) | (refine ⟨_, Count_c _ _ ?_, ?_⟩) | (refine ⟨_, _, Count_c _ _ ?_, ?_⟩) | (refine acalls_same (First_c _ _ ?_) ?_) | (refine ⟨_, First_c _ _ ?_, ?_⟩) | (refine ⟨_, _, First_c _ _ ?_, ?_⟩) | (refine acalls_same (First_r _ _ ?_) ?_) | (refine ⟨_, First_r _ _ ?_, ?_⟩) | (refine ⟨_, _, First_r _ _ ?_, ?_⟩) | (refine acalls_same (SameRunes_c _ _ _ ?_) ?_) | (refine ⟨_, SameRunes_c _ _ _ ?_, ?_⟩) | (refine ⟨_, _, SameRunes_c _ _ _ ?_, ?_⟩) | (refine acalls_same (Same_c _ _ _ ?_) ?_) | (refine ⟨_, Same_c _ _ _ ?_, ?_⟩) | (refine ⟨_, _, Same_c _ _ _ ?_, ?_⟩) | (refine acalls_same (Right_c _ _ ?_) ?_) | (refine ⟨_, Right_c _ _ ?_, ?_⟩) | (refine ⟨_, _, Right_c _ _ ?_, ?_⟩) | (refine And.intro (fun _ => unhold ?_) (fun _ => unhold ?_)) | (refine And.intro ?_ ?_; focus (first | omega | assumption | (repeat' (first | assumption | omega | refine And.intro ?_ ?_); done))) | omega)
  · exact done_same ⟨rfl, rfl⟩
  · exact done_lit ⟨rfl, rfl⟩
  · exact absurd (valid_decE b) (by assumption)
theorem SameRunes_k {o o' : Own} (l m : List Int) (r : Int) (H : List AObj) (hl : l.length ≤ 100000) : ACalls Tryd.prog 12 [.sl o 1 (l.map runeAV), .sl o' 1 (AV.lit (.int .i32 r) :: m.map runeAV)] H (fun x H' => x = .bool (decide (l = r :: m)) ∧ H' = H) := SameRunes_c l (r :: m) H hl
theorem UtfFirst_c {o : Own} (b : List UInt8) (H : List AObj) : ACalls Tryd.prog 7 [.sl o 1 (b.map byteAV)] H (fun x H' => x = .bool true ∧ H' = H) := by
  have hb := decR_len b
  have hb2 := decR_len (b.drop (firN b).toNat)
  rw [List.length_drop] at hb2
  refine acalls_vc L_ok mixed [] (rs := [.tmp 2]) (n := 69) Tryd.func7 rfl rfl rfl rfl (Nat.le_of_ble_eq_true rfl) (by kernel_rfl) ?_
  repeat' (first | refine unhold ?_ | (simp -dsimp -implicitDefEqProofs (disch := (first | assumption | omega | (simp only [List.length_map, List.length_append, List.length_cons, List.length_nil, List.length_replicate, List.length_drop, List.length_take]; omega))) only [go_sem, reduceCtorEq, Nat.reducePow, Int.reducePow, Nat.reduceDiv, Nat.reduceBEq, Nat.reduceEqDiff, Nat.reduceLT, Nat.reduceLeDiff, Nat.reduceAdd, Nat.reduceSub, Nat.reduceMul, Nat.reduceMod, Int.reduceToNat, Int.reduceNeg, Int.reduceAdd, Int.reduceSub, Int.reduceMul, Int.reduceDiv, Int.reduceMod, Int.reduceLT, Int.reduceLE, Int.reduceEq, ↓reduceIte]) | (refine acalls_same (alive_c _) ?_) | (refine ⟨_, alive_c _, ?_⟩) | (refine ⟨_, _, alive_c _, ?_⟩) | (refine acalls_same (Decode_c _ _ ?_) ?_) | (refine ⟨_, Decode_c _ _ ?_, ?_⟩) | (refine ⟨_, _, Decode_c _ _ ?_, ?_⟩) | (refine acalls_same (First_c _ _ ?_) ?_) | (refine ⟨_, First_c _ _ ?_, ?_⟩) | (refine ⟨_, _, First_c _ _ ?_, ?_⟩) | (refine acalls_same (SameRunes_k _ _ _ _ ?_) ?_) | (refine ⟨_, SameRunes_k _ _ _ _ ?_, ?_⟩) | (refine ⟨_, _, SameRunes_k _ _ _ _ ?_, ?_⟩) | (refine And.intro (fun _ => unhold ?_) (fun _ => unhold ?_)) | (refine And.intro ?_ ?_; focus (first | omega | assumption | (repeat' (first | assumption | omega | refine And.intro ?_ ?_); done))) | omega)
  · exact done_same ⟨rfl, rfl⟩
  · exact done_same ⟨rfl, rfl⟩
  · exact done_same ⟨bool_eq (decide_eq_true (by rw [decR_no (by assumption)]; rfl)), rfl⟩
  all_goals
    have hne : b ≠ [] := by intro e; subst e; simp at *
    have h0 : decE b = 0 := by assumption
    obtain ⟨h1, h2, h3, h4, h5, h6⟩ := fir_ok hne (decE_fir hne h0)
    have h7 := h6 h0
    first
      | (exfalso; omega)
      | exact done_lit ⟨bool_eq (decide_eq_true h7), rfl⟩
      | trace_state
end Go.Proofs.YthaicajgfioogaaDoor
