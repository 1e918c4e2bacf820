/- Runes as bytes. -/
import Derived.Test.YthaicajgfioogaaDoorU1
set_option linter.unusedSimpArgs false
set_option linter.unusedVariables false
namespace Go.Proofs.YthaicajgfioogaaDoor
open Go V
set_option maxRecDepth 10000
set_option maxHeartbeats 4000000
def isRune (r : Int) : Bool := decide (0 ≤ r ∧ r ≤ 1114111 ∧ (r < 55296 ∨ 57343 < r))
def byteOf (i : Int) : UInt8 := UInt8.ofNat i.toNat
theorem byteOf_nat {i : Int} (h : 0 ≤ i ∧ i < 256) : ((byteOf i).toNat : Int) = i := by
  unfold byteOf
  have : (UInt8.ofNat i.toNat).toNat = i.toNat := by simp; omega
  omega
theorem lit_byte {a b : Int} (h : 0 ≤ b ∧ b < 256) (e : a = b) : AV.lit (.int .u8 a) = byteAV (byteOf b) := by
  subst e
  unfold byteAV
  rw [byteOf_nat h]
def enc1 (r : Int) : List UInt8 :=
  if r < 128 then [byteOf r]
  else if r < 2048 then [byteOf (192 + r / 64), byteOf (128 + r % 64)]
  else if r < 65536 then [byteOf (224 + r / 4096), byteOf (128 + r / 64 % 64), byteOf (128 + r % 64)]
  else [byteOf (240 + r / 262144), byteOf (128 + r / 4096 % 64), byteOf (128 + r / 64 % 64), byteOf (128 + r % 64)]
theorem enc1_len (r : Int) : (enc1 r).length ≤ 4 := by
  unfold enc1
  repeat' split
  all_goals simp
theorem list1 {a a' : AV} (h : a = a') : [a] = [a'] := by rw [h]
theorem list2 {a a' b b' : AV} (h : a = a') (h2 : b = b') : [a, b] = [a', b'] := by rw [h, h2]
theorem list3 {a a' b b' c c' : AV} (h : a = a') (h2 : b = b') (h3 : c = c') : [a, b, c] = [a', b', c'] := by rw [h, h2, h3]
theorem list4 {a a' b b' c c' d d' : AV} (h : a = a') (h2 : b = b') (h3 : c = c') (h4 : d = d') : [a, b, c, d] = [a', b', c', d'] := by rw [h, h2, h3, h4]
theorem one_c1 {r : Int} (h1 : r < 128) : enc1 r = [byteOf r] := if_pos h1
theorem one_c2 {r : Int} (h1 : 128 ≤ r) (h2 : r < 2048) : enc1 r = [byteOf (192 + r / 64), byteOf (128 + r % 64)] := by rw [enc1, if_neg (by omega), if_pos h2]
theorem one_c3 {r : Int} (h1 : 2048 ≤ r) (h2 : r < 65536) : enc1 r = [byteOf (224 + r / 4096), byteOf (128 + r / 64 % 64), byteOf (128 + r % 64)] := by rw [enc1, if_neg (by omega), if_neg (by omega), if_pos h2]
theorem one_c4 {r : Int} (h1 : 65536 ≤ r) : enc1 r = [byteOf (240 + r / 262144), byteOf (128 + r / 4096 % 64), byteOf (128 + r / 64 % 64), byteOf (128 + r % 64)] := by rw [enc1, if_neg (by omega), if_neg (by omega), if_neg (by omega)]
theorem sl_eq {o : Own} {s : Nat} {xs ys : List AV} (h : xs = ys) : AV.sl o s xs = AV.sl o s ys := by rw [h]
theorem Rune_c (r : Int) (H : List AObj) : ACalls Tryd.prog 27 [.lit (.int .i32 r)] H (fun x H' => x = .bool (isRune r) ∧ H' = H) := by
  refine acalls_vc L_ok mixed [] (rs := [.tmp 2]) (n := 17) Tryd.func27 rfl rfl rfl rfl (Nat.le_of_ble_eq_true rfl) (by kernel_rfl) ?_
  repeat' (first | refine unhold ?_ | (simp -dsimp -implicitDefEqProofs (disch := (first | assumption | omega | (simp only [List.length_map, List.length_append, List.length_cons, List.length_nil, List.length_replicate, List.length_drop, List.length_take]; omega))) only [go_sem, reduceCtorEq, Nat.reducePow, Int.reducePow, Nat.reduceDiv, Nat.reduceBEq, Nat.reduceEqDiff, Nat.reduceLT, Nat.reduceLeDiff, Nat.reduceAdd, Nat.reduceSub, Nat.reduceMul, Nat.reduceMod, Int.reduceToNat, Int.reduceNeg, Int.reduceAdd, Int.reduceSub, Int.reduceMul, Int.reduceDiv, Int.reduceMod, Int.reduceLT, Int.reduceLE, Int.reduceEq, ↓reduceIte]) | (refine And.intro (fun _ => unhold ?_) (fun _ => unhold ?_)) | (refine And.intro ?_ ?_; focus (first | omega | assumption | (repeat' (first | assumption | omega | refine And.intro ?_ ?_); done))) | omega)
  all_goals
    first
      | exact done_same ⟨bool_eq (decide_eq_true (by omega)).symm, rfl⟩
      | exact done_same ⟨bool_eq (decide_eq_false (by omega)).symm, rfl⟩
      | exact done_same ⟨bool_eq (decide_eq_decide.2 (by omega)), rfl⟩
theorem ValidRune_c (r : Int) (H : List AObj) : ACalls Tryd.prog 25 [.lit (.int .i32 r)] H (fun x H' => x = .bool (isRune r) ∧ H' = H) := by
  refine acalls_vc L_ok mixed [] (rs := [.tmp 2]) (n := 17) Tryd.func25 rfl rfl rfl rfl (Nat.le_of_ble_eq_true rfl) (by kernel_rfl) ?_
  repeat' (first | refine unhold ?_ | (simp -dsimp -implicitDefEqProofs (disch := (first | assumption | omega | (simp only [List.length_map, List.length_append, List.length_cons, List.length_nil, List.length_replicate, List.length_drop, List.length_take]; omega))) only [go_sem, reduceCtorEq, Nat.reducePow, Int.reducePow, Nat.reduceDiv, Nat.reduceBEq, Nat.reduceEqDiff, Nat.reduceLT, Nat.reduceLeDiff, Nat.reduceAdd, Nat.reduceSub, Nat.reduceMul, Nat.reduceMod, Int.reduceToNat, Int.reduceNeg, Int.reduceAdd, Int.reduceSub, Int.reduceMul, Int.reduceDiv, Int.reduceMod, Int.reduceLT, Int.reduceLE, Int.reduceEq, ↓reduceIte]) | (refine And.intro (fun _ => unhold ?_) (fun _ => unhold ?_)) | (refine And.intro ?_ ?_; focus (first | omega | assumption | (repeat' (first | assumption | omega | refine And.intro ?_ ?_); done))) | omega)
  all_goals
    first
      | exact done_same ⟨bool_eq (decide_eq_true (by omega)).symm, rfl⟩
      | exact done_same ⟨bool_eq (decide_eq_false (by omega)).symm, rfl⟩
      | exact done_same ⟨bool_eq (decide_eq_decide.2 (by omega)), rfl⟩
theorem one_c (r : Int) (H : List AObj) (hr : isRune r = true) : ACalls Tryd.prog 28 [.lit (.int .i32 r)] H (fun x H' => x = .sl .full 1 ((enc1 r).map byteAV) ∧ H' = H) := by
  have hr' := of_decide_eq_true hr
  refine acalls_vc L_ok mixed [] (rs := [.tmp 2]) (n := 57) Tryd.func28 rfl rfl rfl rfl (Nat.le_of_ble_eq_true rfl) (by kernel_rfl) ?_
  repeat' (first | refine unhold ?_ | (simp -dsimp -implicitDefEqProofs (disch := (first | assumption | omega | (simp only [List.length_map, List.length_append, List.length_cons, List.length_nil, List.length_replicate, List.length_drop, List.length_take]; omega))) only [go_sem, reduceCtorEq, Nat.reducePow, Int.reducePow, Nat.reduceDiv, Nat.reduceBEq, Nat.reduceEqDiff, Nat.reduceLT, Nat.reduceLeDiff, Nat.reduceAdd, Nat.reduceSub, Nat.reduceMul, Nat.reduceMod, Int.reduceToNat, Int.reduceNeg, Int.reduceAdd, Int.reduceSub, Int.reduceMul, Int.reduceDiv, Int.reduceMod, Int.reduceLT, Int.reduceLE, Int.reduceEq, ↓reduceIte, u8_wrap]) | (refine And.intro (fun _ => unhold ?_) (fun _ => unhold ?_)) | (refine And.intro ?_ ?_; focus (first | omega | assumption | (repeat' (first | assumption | omega | refine And.intro ?_ ?_); done))) | omega)
  · exact done_same ⟨sl_eq (by rw [one_c1 (by omega)]; exact list1 (lit_byte (by omega) (by omega))), rfl⟩
  · exact done_same ⟨sl_eq (by rw [one_c2 (by omega) (by omega)]; exact list2 (lit_byte (by omega) (by omega)) (lit_byte (by omega) (by omega))), rfl⟩
  · exact done_same ⟨sl_eq (by rw [one_c3 (by omega) (by omega)]; exact list3 (lit_byte (by omega) (by omega)) (lit_byte (by omega) (by omega)) (lit_byte (by omega) (by omega))), rfl⟩
  · exact done_same ⟨sl_eq (by rw [one_c4 (by omega)]; exact list4 (lit_byte (by omega) (by omega)) (lit_byte (by omega) (by omega)) (lit_byte (by omega) (by omega)) (lit_byte (by omega) (by omega))), rfl⟩
theorem app_list {l : List UInt8} {r : Int} {xs : List AV} (h : xs = (enc1 r).map byteAV) : l.map byteAV ++ xs = (l ++ enc1 r).map byteAV := by rw [h, List.map_append]
theorem appendNA_c (l : List UInt8) (r : Int) (k : Nat) (H : List AObj) (hk : H[k]? = some (.grow 1 l.length)) (hr : isRune r = true) (h1 : 128 ≤ r) (hl : l.length ≤ 100000) :
    ACalls Tryd.prog 32 [.sl (.tok k) 1 (l.map byteAV), .lit (.int .i32 r)] H (fun x H' => x = .sl (.tok k) 1 ((l ++ enc1 r).map byteAV) ∧ H' = H.set k (.grow 1 (l.length + (enc1 r).length))) := by
  have hr' := of_decide_eq_true hr
  refine acalls_vc L_ok mixed [] (rs := [.tmp 4]) (n := 78) Tryd.func32 rfl rfl rfl rfl (Nat.le_of_ble_eq_true rfl) (by kernel_rfl) ?_
  repeat' (first | refine unhold ?_ | (simp -dsimp -implicitDefEqProofs (disch := (first | assumption | omega | (simp only [List.length_map, List.length_append, List.length_cons, List.length_nil, List.length_replicate, List.length_drop, List.length_take]; omega))) only [go_sem, reduceCtorEq, Nat.reducePow, Int.reducePow, Nat.reduceDiv, Nat.reduceBEq, Nat.reduceEqDiff, Nat.reduceLT, Nat.reduceLeDiff, Nat.reduceAdd, Nat.reduceSub, Nat.reduceMul, Nat.reduceMod, Int.reduceToNat, Int.reduceNeg, Int.reduceAdd, Int.reduceSub, Int.reduceMul, Int.reduceDiv, Int.reduceMod, Int.reduceLT, Int.reduceLE, Int.reduceEq, ↓reduceIte, u8_wrap]) | (refine And.intro (fun _ => unhold ?_) (fun _ => unhold ?_)) | (refine And.intro ?_ ?_; focus (first | omega | assumption | (repeat' (first | assumption | omega | refine And.intro ?_ ?_); done))) | omega)
  · refine done_keep _ (Le.refl _) (by simp) ⟨sl_eq (app_list ?_), by rw [one_c2 (by omega) (by omega)]; rfl⟩
    rw [one_c2 (by omega) (by omega)]; exact list2 (lit_byte (by omega) (by omega)) (lit_byte (by omega) (by omega))
  · refine done_keep _ (Le.refl _) (by simp) ⟨sl_eq (app_list ?_), by rw [one_c3 (by omega) (by omega)]; rfl⟩
    rw [one_c3 (by omega) (by omega)]; exact list3 (lit_byte (by omega) (by omega)) (lit_byte (by omega) (by omega)) (lit_byte (by omega) (by omega))
  · refine done_keep _ (Le.refl _) (by simp) ⟨sl_eq (app_list ?_), by rw [one_c3 (by omega) (by omega)]; rfl⟩
    rw [one_c3 (by omega) (by omega)]; exact list3 (lit_byte (by omega) (by omega)) (lit_byte (by omega) (by omega)) (lit_byte (by omega) (by omega))
  · refine done_keep _ (Le.refl _) (by simp) ⟨sl_eq (app_list ?_), by rw [one_c4 (by omega)]; rfl⟩
    rw [one_c4 (by omega)]; exact list4 (lit_byte (by omega) (by omega)) (lit_byte (by omega) (by omega)) (lit_byte (by omega) (by omega)) (lit_byte (by omega) (by omega))
theorem AppendRune_c (l : List UInt8) (r : Int) (k : Nat) (H : List AObj) (hk : H[k]? = some (.grow 1 l.length)) (hr : isRune r = true) (hl : l.length ≤ 100000) :
    ACalls Tryd.prog 26 [.sl (.tok k) 1 (l.map byteAV), .lit (.int .i32 r)] H (fun x H' => x = .sl (.tok k) 1 ((l ++ enc1 r).map byteAV) ∧ H' = H.set k (.grow 1 (l.length + (enc1 r).length))) := by
  have hr' := of_decide_eq_true hr
  refine acalls_vc L_ok mixed [] (rs := [.tmp 4]) (n := 16) Tryd.func26 rfl rfl rfl rfl (Nat.le_of_ble_eq_true rfl) (by kernel_rfl) ?_
  repeat' (first | refine unhold ?_ | (simp -dsimp -implicitDefEqProofs (disch := (first | assumption | omega | (simp only [List.length_map, List.length_append, List.length_cons, List.length_nil, List.length_replicate, List.length_drop, List.length_take]; omega))) only [go_sem, reduceCtorEq, Nat.reducePow, Int.reducePow, Nat.reduceDiv, Nat.reduceBEq, Nat.reduceEqDiff, Nat.reduceLT, Nat.reduceLeDiff, Nat.reduceAdd, Nat.reduceSub, Nat.reduceMul, Nat.reduceMod, Int.reduceToNat, Int.reduceNeg, Int.reduceAdd, Int.reduceSub, Int.reduceMul, Int.reduceDiv, Int.reduceMod, Int.reduceLT, Int.reduceLE, Int.reduceEq, ↓reduceIte, u8_wrap]) | (refine acalls_same (appendNA_c _ _ _ _ (by assumption) (by assumption) (by omega) (by omega)) ?_) | (refine ⟨_, appendNA_c _ _ _ _ (by assumption) (by assumption) (by omega) (by omega), ?_⟩) | (refine ⟨_, _, appendNA_c _ _ _ _ (by assumption) (by assumption) (by omega) (by omega), ?_⟩) | (refine And.intro (fun _ => unhold ?_) (fun _ => unhold ?_)) | (refine And.intro ?_ ?_; focus (first | omega | assumption | (repeat' (first | assumption | omega | refine And.intro ?_ ?_); done))) | omega)
  · refine done_keep _ (Le.refl _) (by simp) ⟨sl_eq (app_list ?_), by rw [one_c1 (by omega)]; rfl⟩
    rw [one_c1 (by omega)]; exact list1 (lit_byte (by omega) (by omega))
  · exact done_keep _ (Le.refl _) (by simp) ⟨rfl, rfl⟩
def encL (l : List Int) : List UInt8 := l.flatMap enc1
theorem encL_len (l : List Int) : (encL l).length ≤ 4 * l.length := by
  induction l with
  | nil => simp [encL]
  | cons r l ih =>
    have := enc1_len r
    simp only [encL, List.flatMap_cons, List.length_append, List.length_cons] at ih ⊢
    omega
def encOk (l : List Int) : Bool := l.all isRune
def encR (l : List Int) : List UInt8 := if encOk l = true then encL l else []
def encE (l : List Int) : Int := if encOk l = true then 0 else 2
theorem encL_snoc {l : List Int} {i : Nat} (h : i < l.length) : encL (l.take (i + 1)) = encL (l.take i) ++ enc1 (l.getD i 0) := by
  rw [List.take_add_one]
  unfold encL
  rw [List.flatMap_append, List.getElem?_eq_getElem h, List.getD, List.getElem?_eq_getElem h]
  simp
theorem encOk_snoc {l : List Int} {i : Nat} (h : i < l.length) (h1 : encOk (l.take i) = true) (h2 : isRune (l.getD i 0) = true) : encOk (l.take (i + 1)) = true := by
  unfold encOk at *
  rw [List.take_add_one, List.all_append, h1]
  simpa [List.getD, List.getElem?_eq_getElem h] using h2
theorem encOk_no {l : List Int} {i : Nat} (h : i < l.length) (h2 : isRune (l.getD i 0) = false) : encOk l = false := by
  unfold encOk
  rw [List.all_eq_false]
  exact ⟨l[i], List.getElem_mem h, by simpa [List.getD, List.getElem?_eq_getElem h] using h2⟩
theorem encL_len' {l : List Int} {i : Nat} (h : i ≤ l.length) : (encL (l.take i)).length ≤ 4 * i := by
  have := encL_len (l.take i)
  rw [List.length_take] at this
  omega
theorem encRE_ok {l : List Int} (h : encOk l = true) : encR l = encL l ∧ encE l = 0 := by unfold encR encE; rw [if_pos h, if_pos h]; exact ⟨rfl, rfl⟩
theorem encRE_no {l : List Int} (h : encOk l = false) : encR l = [] ∧ encE l = 2 := by unfold encR encE; rw [h]; exact ⟨rfl, rfl⟩
theorem Encode_r {o : Own} (l : List Int) (H : List AObj) (hl : l.length ≤ 10000) : ACalls Tryd.prog 18 [.sl o 1 (l.map runeAV)] H (fun x H' => x = .tup [.sl .sh 1 ((encR l).map byteAV), .int .i64 (encE l)] ∧ H' = H) := by
  refine acalls_vc L_ok mixed [] (rs := [.tmp 2, .tmp 3]) (n := 26) Tryd.func18 rfl rfl rfl rfl (Nat.le_of_ble_eq_true rfl) (by kernel_rfl) ?_
  repeat' (first | refine unhold ?_ | (simp -dsimp -implicitDefEqProofs (disch := (first | assumption | omega | (simp only [List.length_map, List.length_append, List.length_cons, List.length_nil, List.length_replicate, List.length_drop, List.length_take]; omega))) only [go_sem, reduceCtorEq, Nat.reducePow, Int.reducePow, Nat.reduceDiv, Nat.reduceBEq, Nat.reduceEqDiff, Nat.reduceLT, Nat.reduceLeDiff, Nat.reduceAdd, Nat.reduceSub, Nat.reduceMul, Nat.reduceMod, Int.reduceToNat, Int.reduceNeg, Int.reduceAdd, Int.reduceSub, Int.reduceMul, Int.reduceDiv, Int.reduceMod, Int.reduceLT, Int.reduceLE, Int.reduceEq, ↓reduceIte]) | (refine And.intro (fun _ => unhold ?_) (fun _ => unhold ?_)) | (refine And.intro ?_ ?_; focus (first | omega | assumption | (repeat' (first | assumption | omega | refine And.intro ?_ ?_); done))) | omega)
  refine aw_mint 4 1 rfl (by decide) (fun h => absurd rfl h) ?_
  refine vc_loopk L_ok mixed [] [0] (fun i : Nat => i ≤ l.length ∧ encOk (l.take i) = true) (fun i => [(5, .int .i64 i), (4, .sl (.tok H.length) 1 ((encL (l.take i)).map byteAV))]) (fun i => H ++ [.grow 1 (encL (l.take i)).length]) (fun i => l.length - i) (by kernel_rfl) ?_ 0 ⟨by omega, rfl⟩ (by repeat (first | exact envLe_nil | (refine envLe_cons ?_ ?_; focus (first | exact Le.refl _ | exact Le.any _ | exact le_sh | exact le_nil | (refine le_tup ?_; repeat (first | exact LeAll.nil | (refine LeAll.cons ?_ ?_; focus (first | exact Le.refl _ | exact Le.any _ | exact le_sh | exact le_nil)))) | (refine le_agg ?_; repeat (first | exact LeAll.nil | (refine LeAll.cons ?_ ?_; focus (first | exact Le.refl _ | exact Le.any _ | exact le_sh | exact le_nil)))) | (refine le_eq ?_; simp -implicitDefEqProofs (disch := omega) only [get_cons, get_nil, if_true, if_false, ↓reduceIte, Nat.reduceEqDiff, eq_self, IntWalk.i64_in, IntWalk.i32_in, IntWalk.u8_in, IntWalk.u32_in, IntWalk.u64_in, reduceCtorEq]; try (first | rfl | (refine int_eq ?_; omega))))))) rfl
  intro i ⟨hi, hp⟩
  have hlen := encL_len' hi
  repeat' (first | refine unhold ?_ | (simp -dsimp -implicitDefEqProofs (disch := (first | assumption | omega | (simp only [List.length_map, List.length_append, List.length_cons, List.length_nil, List.length_replicate, List.length_drop, List.length_take]; omega))) only [go_sem, reduceCtorEq, Nat.reducePow, Int.reducePow, Nat.reduceDiv, Nat.reduceBEq, Nat.reduceEqDiff, Nat.reduceLT, Nat.reduceLeDiff, Nat.reduceAdd, Nat.reduceSub, Nat.reduceMul, Nat.reduceMod, Int.reduceToNat, Int.reduceNeg, Int.reduceAdd, Int.reduceSub, Int.reduceMul, Int.reduceDiv, Int.reduceMod, Int.reduceLT, Int.reduceLE, Int.reduceEq, ↓reduceIte]) | (refine acalls_same (Rune_c _ _) ?_) | (refine ⟨_, Rune_c _ _, ?_⟩) | (refine ⟨_, _, Rune_c _ _, ?_⟩) | (refine acalls_same (one_c _ _ (by assumption)) ?_) | (refine ⟨_, one_c _ _ (by assumption), ?_⟩) | (refine ⟨_, _, one_c _ _ (by assumption), ?_⟩) | (refine And.intro (fun _ => unhold ?_) (fun _ => unhold ?_)) | (refine And.intro ?_ ?_; focus (first | omega | assumption | (repeat' (first | assumption | omega | refine And.intro ?_ ?_); done))) | omega)
  · rename_i h1 h2
    obtain ⟨e1, e2⟩ := encRE_no (encOk_no (by omega) h2)
    rw [e1, e2]
    refine done_cut (.tup [.sl .sh 1 [], .lit (.int .i64 2)]) (by (first | exact Le.refl _ | exact Le.any _ | exact le_sh | exact le_nil | (refine le_tup ?_; repeat (first | exact LeAll.nil | (refine LeAll.cons ?_ ?_; focus (first | exact Le.refl _ | exact Le.any _ | exact le_sh | exact le_nil)))) | (refine le_agg ?_; repeat (first | exact LeAll.nil | (refine LeAll.cons ?_ ?_; focus (first | exact Le.refl _ | exact Le.any _ | exact le_sh | exact le_nil)))) | (refine le_eq ?_; simp -implicitDefEqProofs (disch := omega) only [get_cons, get_nil, if_true, if_false, ↓reduceIte, Nat.reduceEqDiff, eq_self, IntWalk.i64_in, IntWalk.i32_in, IntWalk.u8_in, IntWalk.u32_in, IntWalk.u64_in, reduceCtorEq]; try (first | rfl | (refine int_eq ?_; omega))))) (by (first | (first | exact .lit _ | exact .str _ | exact .any | exact low_bytes | exact low_runes | exact .mp _ _ (by omega) | exact .msl _ _ _ _ (by omega) | exact low_nilsl (fun k e => by cases e)) | (refine low_tup ?_; repeat (first | exact lowAll_nil | (refine lowAll_cons ?_ ?_; focus (first | exact .lit _ | exact .str _ | exact .any | exact low_bytes | exact low_runes | exact .mp _ _ (by omega) | exact .msl _ _ _ _ (by omega) | exact low_nilsl (fun k e => by cases e))))) | (refine low_agg ?_; repeat (first | exact lowAll_nil | (refine lowAll_cons ?_ ?_; focus (first | exact .lit _ | exact .str _ | exact .any | exact low_bytes | exact low_runes | exact .mp _ _ (by omega) | exact .msl _ _ _ _ (by omega) | exact low_nilsl (fun k e => by cases e))))))) ?_
    exact ⟨rfl, rfl⟩
  · have := enc1_len (l.getD i 0)
    omega
  · rename_i h1 h2
    rw [← List.length_append, ← encL_snoc (by omega)]
    refine again (i + 1) ?_ ?_ rfl (by repeat (first | exact envLe_nil | (refine envLe_cons ?_ ?_; focus (first | exact Le.refl _ | exact Le.any _ | exact le_sh | exact le_nil | (refine le_tup ?_; repeat (first | exact LeAll.nil | (refine LeAll.cons ?_ ?_; focus (first | exact Le.refl _ | exact Le.any _ | exact le_sh | exact le_nil)))) | (refine le_agg ?_; repeat (first | exact LeAll.nil | (refine LeAll.cons ?_ ?_; focus (first | exact Le.refl _ | exact Le.any _ | exact le_sh | exact le_nil)))) | (refine le_eq ?_; simp -implicitDefEqProofs (disch := omega) only [get_cons, get_nil, if_true, if_false, ↓reduceIte, Nat.reduceEqDiff, eq_self, IntWalk.i64_in, IntWalk.i32_in, IntWalk.u8_in, IntWalk.u32_in, IntWalk.u64_in, reduceCtorEq]; try (first | rfl | (refine int_eq ?_; omega)))))))
    · omega
    · exact ⟨by omega, encOk_snoc (by omega) hp h2⟩
  · rename_i h1
    rw [List.take_of_length_le (by omega)] at hp
    obtain ⟨e1, e2⟩ := encRE_ok hp
    rw [e1, e2]
    refine done_cut (.tup [.sl .sh 1 ((encL l).map byteAV), .lit (.int .i64 0)]) (by (first | exact Le.refl _ | exact Le.any _ | exact le_sh | exact le_nil | (refine le_tup ?_; repeat (first | exact LeAll.nil | (refine LeAll.cons ?_ ?_; focus (first | exact Le.refl _ | exact Le.any _ | exact le_sh | exact le_nil)))) | (refine le_agg ?_; repeat (first | exact LeAll.nil | (refine LeAll.cons ?_ ?_; focus (first | exact Le.refl _ | exact Le.any _ | exact le_sh | exact le_nil)))) | (refine le_eq ?_; simp -implicitDefEqProofs (disch := omega) only [get_cons, get_nil, if_true, if_false, ↓reduceIte, Nat.reduceEqDiff, eq_self, IntWalk.i64_in, IntWalk.i32_in, IntWalk.u8_in, IntWalk.u32_in, IntWalk.u64_in, reduceCtorEq]; try (first | rfl | (refine int_eq ?_; omega))))) (by (first | (first | exact .lit _ | exact .str _ | exact .any | exact low_bytes | exact low_runes | exact .mp _ _ (by omega) | exact .msl _ _ _ _ (by omega) | exact low_nilsl (fun k e => by cases e)) | (refine low_tup ?_; repeat (first | exact lowAll_nil | (refine lowAll_cons ?_ ?_; focus (first | exact .lit _ | exact .str _ | exact .any | exact low_bytes | exact low_runes | exact .mp _ _ (by omega) | exact .msl _ _ _ _ (by omega) | exact low_nilsl (fun k e => by cases e))))) | (refine low_agg ?_; repeat (first | exact lowAll_nil | (refine lowAll_cons ?_ ?_; focus (first | exact .lit _ | exact .str _ | exact .any | exact low_bytes | exact low_runes | exact .mp _ _ (by omega) | exact .msl _ _ _ _ (by omega) | exact low_nilsl (fun k e => by cases e))))))) ?_
    exact ⟨rfl, rfl⟩
theorem Encode_c {o : Own} (l : List Int) (H : List AObj) (hl : l.length ≤ 10000) : ACalls Tryd.prog 17 [.sl o 1 (l.map runeAV)] H (fun x H' => x = .tup [.sl .sh 1 ((encR l).map byteAV), .int .i64 (encE l)] ∧ H' = H) := by
  refine acalls_vc L_ok mixed [] (rs := [.tmp 2, .tmp 3]) (n := 21) Tryd.func17 rfl rfl rfl rfl (Nat.le_of_ble_eq_true rfl) (by kernel_rfl) ?_
  repeat' (first | refine unhold ?_ | (simp -dsimp -implicitDefEqProofs (disch := (first | assumption | omega | (simp only [List.length_map, List.length_append, List.length_cons, List.length_nil, List.length_replicate, List.length_drop, List.length_take]; omega))) only [go_sem, reduceCtorEq, Nat.reducePow, Int.reducePow, Nat.reduceDiv, Nat.reduceBEq, Nat.reduceEqDiff, Nat.reduceLT, Nat.reduceLeDiff, Nat.reduceAdd, Nat.reduceSub, Nat.reduceMul, Nat.reduceMod, Int.reduceToNat, Int.reduceNeg, Int.reduceAdd, Int.reduceSub, Int.reduceMul, Int.reduceDiv, Int.reduceMod, Int.reduceLT, Int.reduceLE, Int.reduceEq, ↓reduceIte]) | (refine And.intro (fun _ => unhold ?_) (fun _ => unhold ?_)) | (refine And.intro ?_ ?_; focus (first | omega | assumption | (repeat' (first | assumption | omega | refine And.intro ?_ ?_); done))) | omega)
  refine aw_mint 4 1 rfl (by decide) (fun h => absurd rfl h) ?_
  refine vc_loopk L_ok mixed [] [7, 8] (fun i : Nat => i ≤ l.length ∧ encOk (l.take i) = true) (fun i => [(9, .int .i64 i), (4, .sl (.tok H.length) 1 ((encL (l.take i)).map byteAV))]) (fun i => H ++ [.grow 1 (encL (l.take i)).length]) (fun i => l.length - i) (by kernel_rfl) ?_ 0 ⟨by omega, rfl⟩ (by repeat (first | exact envLe_nil | (refine envLe_cons ?_ ?_; focus (first | exact Le.refl _ | exact Le.any _ | exact le_sh | exact le_nil | (refine le_tup ?_; repeat (first | exact LeAll.nil | (refine LeAll.cons ?_ ?_; focus (first | exact Le.refl _ | exact Le.any _ | exact le_sh | exact le_nil)))) | (refine le_agg ?_; repeat (first | exact LeAll.nil | (refine LeAll.cons ?_ ?_; focus (first | exact Le.refl _ | exact Le.any _ | exact le_sh | exact le_nil)))) | (refine le_eq ?_; simp -implicitDefEqProofs (disch := omega) only [get_cons, get_nil, if_true, if_false, ↓reduceIte, Nat.reduceEqDiff, eq_self, IntWalk.i64_in, IntWalk.i32_in, IntWalk.u8_in, IntWalk.u32_in, IntWalk.u64_in, reduceCtorEq]; try (first | rfl | (refine int_eq ?_; omega))))))) rfl
  intro i ⟨hi, hp⟩
  have hlen := encL_len' hi
  repeat' (first | refine unhold ?_ | (simp -dsimp -implicitDefEqProofs (disch := (first | assumption | omega | (simp only [List.length_map, List.length_append, List.length_cons, List.length_nil, List.length_replicate, List.length_drop, List.length_take]; omega))) only [go_sem, reduceCtorEq, Nat.reducePow, Int.reducePow, Nat.reduceDiv, Nat.reduceBEq, Nat.reduceEqDiff, Nat.reduceLT, Nat.reduceLeDiff, Nat.reduceAdd, Nat.reduceSub, Nat.reduceMul, Nat.reduceMod, Int.reduceToNat, Int.reduceNeg, Int.reduceAdd, Int.reduceSub, Int.reduceMul, Int.reduceDiv, Int.reduceMod, Int.reduceLT, Int.reduceLE, Int.reduceEq, ↓reduceIte]) | (refine acalls_same (ValidRune_c _ _) ?_) | (refine ⟨_, ValidRune_c _ _, ?_⟩) | (refine ⟨_, _, ValidRune_c _ _, ?_⟩) | (refine acalls_same (AppendRune_c _ _ _ _ h_at0 (by assumption) (by omega)) ?_) | (refine ⟨_, AppendRune_c _ _ _ _ h_at0 (by assumption) (by omega), ?_⟩) | (refine ⟨_, _, AppendRune_c _ _ _ _ h_at0 (by assumption) (by omega), ?_⟩) | (refine And.intro (fun _ => unhold ?_) (fun _ => unhold ?_)) | (refine And.intro ?_ ?_; focus (first | omega | assumption | (repeat' (first | assumption | omega | refine And.intro ?_ ?_); done))) | omega)
  · rename_i h1 h2
    obtain ⟨e1, e2⟩ := encRE_no (encOk_no (by omega) h2)
    rw [e1, e2]
    refine done_cut (.tup [.sl .sh 1 [], .lit (.int .i64 2)]) (by (first | exact Le.refl _ | exact Le.any _ | exact le_sh | exact le_nil | (refine le_tup ?_; repeat (first | exact LeAll.nil | (refine LeAll.cons ?_ ?_; focus (first | exact Le.refl _ | exact Le.any _ | exact le_sh | exact le_nil)))) | (refine le_agg ?_; repeat (first | exact LeAll.nil | (refine LeAll.cons ?_ ?_; focus (first | exact Le.refl _ | exact Le.any _ | exact le_sh | exact le_nil)))) | (refine le_eq ?_; simp -implicitDefEqProofs (disch := omega) only [get_cons, get_nil, if_true, if_false, ↓reduceIte, Nat.reduceEqDiff, eq_self, IntWalk.i64_in, IntWalk.i32_in, IntWalk.u8_in, IntWalk.u32_in, IntWalk.u64_in, reduceCtorEq]; try (first | rfl | (refine int_eq ?_; omega))))) (by (first | (first | exact .lit _ | exact .str _ | exact .any | exact low_bytes | exact low_runes | exact .mp _ _ (by omega) | exact .msl _ _ _ _ (by omega) | exact low_nilsl (fun k e => by cases e)) | (refine low_tup ?_; repeat (first | exact lowAll_nil | (refine lowAll_cons ?_ ?_; focus (first | exact .lit _ | exact .str _ | exact .any | exact low_bytes | exact low_runes | exact .mp _ _ (by omega) | exact .msl _ _ _ _ (by omega) | exact low_nilsl (fun k e => by cases e))))) | (refine low_agg ?_; repeat (first | exact lowAll_nil | (refine lowAll_cons ?_ ?_; focus (first | exact .lit _ | exact .str _ | exact .any | exact low_bytes | exact low_runes | exact .mp _ _ (by omega) | exact .msl _ _ _ _ (by omega) | exact low_nilsl (fun k e => by cases e))))))) ?_
    exact ⟨rfl, rfl⟩
  · rename_i h1 h2
    rw [← List.length_append, ← encL_snoc (by omega)]
    refine again (i + 1) ?_ ?_ rfl (by repeat (first | exact envLe_nil | (refine envLe_cons ?_ ?_; focus (first | exact Le.refl _ | exact Le.any _ | exact le_sh | exact le_nil | (refine le_tup ?_; repeat (first | exact LeAll.nil | (refine LeAll.cons ?_ ?_; focus (first | exact Le.refl _ | exact Le.any _ | exact le_sh | exact le_nil)))) | (refine le_agg ?_; repeat (first | exact LeAll.nil | (refine LeAll.cons ?_ ?_; focus (first | exact Le.refl _ | exact Le.any _ | exact le_sh | exact le_nil)))) | (refine le_eq ?_; simp -implicitDefEqProofs (disch := omega) only [get_cons, get_nil, if_true, if_false, ↓reduceIte, Nat.reduceEqDiff, eq_self, IntWalk.i64_in, IntWalk.i32_in, IntWalk.u8_in, IntWalk.u32_in, IntWalk.u64_in, reduceCtorEq]; try (first | rfl | (refine int_eq ?_; omega)))))))
    · omega
    · exact ⟨by omega, encOk_snoc (by omega) hp h2⟩
  · rename_i h1
    rw [List.take_of_length_le (by omega)] at hp
    obtain ⟨e1, e2⟩ := encRE_ok hp
    rw [e1, e2]
    refine done_cut (.tup [.sl .sh 1 ((encL l).map byteAV), .lit (.int .i64 0)]) (by (first | exact Le.refl _ | exact Le.any _ | exact le_sh | exact le_nil | (refine le_tup ?_; repeat (first | exact LeAll.nil | (refine LeAll.cons ?_ ?_; focus (first | exact Le.refl _ | exact Le.any _ | exact le_sh | exact le_nil)))) | (refine le_agg ?_; repeat (first | exact LeAll.nil | (refine LeAll.cons ?_ ?_; focus (first | exact Le.refl _ | exact Le.any _ | exact le_sh | exact le_nil)))) | (refine le_eq ?_; simp -implicitDefEqProofs (disch := omega) only [get_cons, get_nil, if_true, if_false, ↓reduceIte, Nat.reduceEqDiff, eq_self, IntWalk.i64_in, IntWalk.i32_in, IntWalk.u8_in, IntWalk.u32_in, IntWalk.u64_in, reduceCtorEq]; try (first | rfl | (refine int_eq ?_; omega))))) (by (first | (first | exact .lit _ | exact .str _ | exact .any | exact low_bytes | exact low_runes | exact .mp _ _ (by omega) | exact .msl _ _ _ _ (by omega) | exact low_nilsl (fun k e => by cases e)) | (refine low_tup ?_; repeat (first | exact lowAll_nil | (refine lowAll_cons ?_ ?_; focus (first | exact .lit _ | exact .str _ | exact .any | exact low_bytes | exact low_runes | exact .mp _ _ (by omega) | exact .msl _ _ _ _ (by omega) | exact low_nilsl (fun k e => by cases e))))) | (refine low_agg ?_; repeat (first | exact lowAll_nil | (refine lowAll_cons ?_ ?_; focus (first | exact .lit _ | exact .str _ | exact .any | exact low_bytes | exact low_runes | exact .mp _ _ (by omega) | exact .msl _ _ _ _ (by omega) | exact low_nilsl (fun k e => by cases e))))))) ?_
    exact ⟨rfl, rfl⟩
end Go.Proofs.YthaicajgfioogaaDoor
