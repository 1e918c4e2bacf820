import Derived.Test.YthaicajgfioogaaDoorTab
set_option linter.unusedSimpArgs false
set_option linter.unusedVariables false
namespace Go.Proofs.YthaicajgfioogaaDoor
open Go V
set_option maxRecDepth 10000
def lowB (b : UInt8) : UInt8 := if 65 ≤ b.toNat ∧ b.toNat ≤ 90 then b + 32 else b
def lowTo (l : List UInt8) (i : Nat) : List UInt8 := (l.take i).map lowB ++ l.drop i
theorem lowTo_len (l : List UInt8) (i : Nat) : (lowTo l i).length = l.length := by simp [lowTo]; omega
theorem lowTo_get (l : List UInt8) (i : Nat) : (lowTo l i).getD i 0 = l.getD i 0 := by
  unfold lowTo
  by_cases h : i < l.length
  · have e : ((l.take i).map lowB).length = i := by simp; omega
    rw [List.getD, List.getElem?_append_right (by omega), e, Nat.sub_self, List.getElem?_drop, Nat.add_zero, List.getD]
  · rw [List.getD, List.getElem?_eq_none (by simp; omega), List.getD, List.getElem?_eq_none (by omega)]
theorem low_add {b : UInt8} {v : Int} (h1 : 65 ≤ (b.toNat : Int)) (h2 : (b.toNat : Int) ≤ 90) (hv : v = (b.toNat : Int) + 32) : (AV.lit (.int .u8 v)) = byteAV (lowB b) := by
  subst hv
  unfold byteAV lowB
  rw [if_pos (by omega), UInt8.toNat_add]
  have : (32 : UInt8).toNat = 32 := rfl
  rw [this, Nat.mod_eq_of_lt (by omega)]
  rfl
theorem lowTo_next {l : List UInt8} {i : Nat} (h : i < l.length) : lowTo l (i + 1) = (lowTo l i).set i (lowB (l.getD i 0)) := by
  unfold lowTo
  have e : ((l.take i).map lowB).length = i := by simp; omega
  rw [List.set_append_right _ _ (by omega), e, Nat.sub_self, List.drop_eq_getElem_cons h, List.set_cons_zero, List.take_add_one, List.getElem?_eq_getElem h, List.map_append, List.append_assoc, List.getD, List.getElem?_eq_getElem h]
  rfl
theorem lowTo_same {l : List UInt8} {i : Nat} (h : i < l.length) (hb : ¬ (65 ≤ ((lowTo l i).getD i 0).toNat ∧ ((lowTo l i).getD i 0).toNat ≤ 90)) : lowTo l (i + 1) = lowTo l i := by
  rw [lowTo_get] at hb
  rw [lowTo_next h, lowB, if_neg hb, ← lowTo_get]
  have : i < (lowTo l i).length := by rw [lowTo_len]; exact h
  rw [List.getD, List.getElem?_eq_getElem this]
  exact List.set_getElem_self this
theorem set_low {l : List UInt8} {i z : Nat} {v : Int} (h : i < l.length) (h1 : 65 ≤ (((lowTo l i).getD i 0).toNat : Int)) (h2 : (((lowTo l i).getD i 0).toNat : Int) ≤ 90) (hv : v = (((lowTo l i).getD i 0).toNat : Int) + 32) :
    ((lowTo l i).map byteAV ++ List.replicate z (AV.lit (.int .u8 0))).set i (AV.lit (.int .u8 v)) = (lowTo l (i + 1)).map byteAV ++ List.replicate z (AV.lit (.int .u8 0)) := by
  rw [low_add h1 h2 hv, lowTo_get, lowTo_next h, List.set_append_left _ _ (by simp [lowTo_len]; exact h), List.map_set]
theorem lowTo_end (l : List UInt8) : lowTo l l.length = l.map lowB := by simp [lowTo]
theorem Lower_r (l : List UInt8) (H : List AObj) (hl : l.length ≤ 5000) : ACalls Tryd.prog 14 [.str l] H (fun x H' => x = .str (l.map lowB) ∧ H' = H) := by
  refine acalls_vc L_ok mixed [6] (rs := [.tmp 2]) (n := 35) Tryd.func14 rfl rfl rfl rfl (Nat.le_of_ble_eq_true rfl) (by kernel_rfl) ?_
  repeat' (first | refine unhold ?_ | (simp -dsimp -implicitDefEqProofs (disch := (first | assumption | omega | (simp only [List.length_map, List.length_append, List.length_cons, List.length_nil, List.length_replicate, List.length_drop, List.length_take]; omega))) only [go_sem, reduceCtorEq, Nat.reducePow, Int.reducePow, Nat.reduceDiv, Nat.reduceBEq, Nat.reduceEqDiff, Nat.reduceLT, Nat.reduceLeDiff, Nat.reduceAdd, Nat.reduceSub, Nat.reduceMul, Nat.reduceMod, Int.reduceToNat, Int.reduceNeg, Int.reduceAdd, Int.reduceSub, Int.reduceMul, Int.reduceDiv, Int.reduceMod, Int.reduceLT, Int.reduceLE, Int.reduceEq, ↓reduceIte]) | (refine And.intro (fun _ => unhold ?_) (fun _ => unhold ?_)) | (refine And.intro ?_ ?_; focus (first | omega | assumption | (repeat' (first | assumption | omega | refine And.intro ?_ ?_); done))) | omega)
  intro z
  refine vc_loop L_ok mixed [6] (fun i : Nat => i ≤ l.length) (fun i => [(4, .int .i64 i), (3, .msl H.length 0 l.length (l.length + z))]) (fun i => H ++ [.cells ((lowTo l i).map byteAV ++ List.replicate z (.int .u8 0))]) (fun i => l.length - i) (by kernel_rfl) ?_ 0 (Nat.zero_le _) (by repeat (first | exact envLe_nil | (refine envLe_cons ?_ ?_; focus (first | exact Le.refl _ | exact Le.any _ | exact le_sh | exact le_nil | (refine le_tup ?_; repeat (first | exact LeAll.nil | (refine LeAll.cons ?_ ?_; focus (first | exact Le.refl _ | exact Le.any _ | exact le_sh | exact le_nil)))) | (refine le_agg ?_; repeat (first | exact LeAll.nil | (refine LeAll.cons ?_ ?_; focus (first | exact Le.refl _ | exact Le.any _ | exact le_sh | exact le_nil)))) | (refine le_eq ?_; simp -implicitDefEqProofs (disch := omega) only [get_cons, get_nil, if_true, if_false, ↓reduceIte, Nat.reduceEqDiff, eq_self, IntWalk.i64_in, IntWalk.i32_in, IntWalk.u8_in, IntWalk.u32_in, IntWalk.u64_in, reduceCtorEq]; try (first | rfl | (refine int_eq ?_; omega))))))) (by rw [lowTo]; rfl)
  intro i hi
  have hm := lowTo_len l i
  repeat' (first | refine unhold ?_ | (simp -dsimp -implicitDefEqProofs (disch := (first | assumption | omega | (simp only [List.length_map, List.length_append, List.length_cons, List.length_nil, List.length_replicate, List.length_drop, List.length_take]; omega))) only [go_sem, reduceCtorEq, Nat.reducePow, Int.reducePow, Nat.reduceDiv, Nat.reduceBEq, Nat.reduceEqDiff, Nat.reduceLT, Nat.reduceLeDiff, Nat.reduceAdd, Nat.reduceSub, Nat.reduceMul, Nat.reduceMod, Int.reduceToNat, Int.reduceNeg, Int.reduceAdd, Int.reduceSub, Int.reduceMul, Int.reduceDiv, Int.reduceMod, Int.reduceLT, Int.reduceLE, Int.reduceEq, ↓reduceIte]) | (refine And.intro (fun _ => unhold ?_) (fun _ => unhold ?_)) | (refine And.intro ?_ ?_; focus (first | omega | assumption | (repeat' (first | assumption | omega | refine And.intro ?_ ?_); done))) | omega)
  · refine again (i + 1) ?_ ?_ ?_ (by repeat (first | exact envLe_nil | (refine envLe_cons ?_ ?_; focus (first | exact Le.refl _ | exact Le.any _ | exact le_sh | exact le_nil | (refine le_tup ?_; repeat (first | exact LeAll.nil | (refine LeAll.cons ?_ ?_; focus (first | exact Le.refl _ | exact Le.any _ | exact le_sh | exact le_nil)))) | (refine le_agg ?_; repeat (first | exact LeAll.nil | (refine LeAll.cons ?_ ?_; focus (first | exact Le.refl _ | exact Le.any _ | exact le_sh | exact le_nil)))) | (refine le_eq ?_; simp -implicitDefEqProofs (disch := omega) only [get_cons, get_nil, if_true, if_false, ↓reduceIte, Nat.reduceEqDiff, eq_self, IntWalk.i64_in, IntWalk.i32_in, IntWalk.u8_in, IntWalk.u32_in, IntWalk.u64_in, reduceCtorEq]; try (first | rfl | (refine int_eq ?_; omega)))))))
    · omega
    · omega
    · rw [set_low (by omega) (by omega) (by omega) rfl]
  · refine again (i + 1) ?_ ?_ ?_ (by repeat (first | exact envLe_nil | (refine envLe_cons ?_ ?_; focus (first | exact Le.refl _ | exact Le.any _ | exact le_sh | exact le_nil | (refine le_tup ?_; repeat (first | exact LeAll.nil | (refine LeAll.cons ?_ ?_; focus (first | exact Le.refl _ | exact Le.any _ | exact le_sh | exact le_nil)))) | (refine le_agg ?_; repeat (first | exact LeAll.nil | (refine LeAll.cons ?_ ?_; focus (first | exact Le.refl _ | exact Le.any _ | exact le_sh | exact le_nil)))) | (refine le_eq ?_; simp -implicitDefEqProofs (disch := omega) only [get_cons, get_nil, if_true, if_false, ↓reduceIte, Nat.reduceEqDiff, eq_self, IntWalk.i64_in, IntWalk.i32_in, IntWalk.u8_in, IntWalk.u32_in, IntWalk.u64_in, reduceCtorEq]; try (first | rfl | (refine int_eq ?_; omega)))))))
    · omega
    · omega
    · rw [lowTo_same (by omega) (by omega)]
  · refine again (i + 1) ?_ ?_ ?_ (by repeat (first | exact envLe_nil | (refine envLe_cons ?_ ?_; focus (first | exact Le.refl _ | exact Le.any _ | exact le_sh | exact le_nil | (refine le_tup ?_; repeat (first | exact LeAll.nil | (refine LeAll.cons ?_ ?_; focus (first | exact Le.refl _ | exact Le.any _ | exact le_sh | exact le_nil)))) | (refine le_agg ?_; repeat (first | exact LeAll.nil | (refine LeAll.cons ?_ ?_; focus (first | exact Le.refl _ | exact Le.any _ | exact le_sh | exact le_nil)))) | (refine le_eq ?_; simp -implicitDefEqProofs (disch := omega) only [get_cons, get_nil, if_true, if_false, ↓reduceIte, Nat.reduceEqDiff, eq_self, IntWalk.i64_in, IntWalk.i32_in, IntWalk.u8_in, IntWalk.u32_in, IntWalk.u64_in, reduceCtorEq]; try (first | rfl | (refine int_eq ?_; omega)))))))
    · omega
    · omega
    · rw [lowTo_same (by omega) (by omega)]
  · obtain rfl : i = l.length := by omega
    refine done_drop (.str _) ⟨?_, rfl⟩
    rw [lowTo_end]
theorem or32 : ∀ n : Fin 256, 65 ≤ n.val → n.val ≤ 90 → (BitVec.ofInt 8 (n.val : Int) ||| BitVec.ofInt 8 32).toNat = n.val + 32 := by decide +kernel
theorem or_low {b : UInt8} (h1 : 65 ≤ (b.toNat : Int)) (h2 : (b.toNat : Int) ≤ 90) : IntKind.u8.wrap ((BitVec.ofInt IntKind.u8.bits (b.toNat : Int) ||| BitVec.ofInt IntKind.u8.bits 32).toNat : Int) = (b.toNat : Int) + 32 := by
  have := or32 ⟨b.toNat, b.toNat_lt⟩ (by show 65 ≤ b.toNat; omega) (by show b.toNat ≤ 90; omega)
  show IntKind.u8.wrap ((BitVec.ofInt 8 (b.toNat : Int) ||| BitVec.ofInt 8 32).toNat : Int) = _
  rw [this, IntWalk.u8_in _ (by show 0 ≤ ((b.toNat + 32 : Nat) : Int) ∧ ((b.toNat + 32 : Nat) : Int) ≤ 255; omega)]
  rfl
theorem Lower_c (l : List UInt8) (H : List AObj) (hl : l.length ≤ 5000) : ACalls Tryd.prog 13 [.str l] H (fun x H' => x = .str (l.map lowB) ∧ H' = H) := by
  refine acalls_vc L_ok mixed [7] (rs := [.tmp 2]) (n := 29) Tryd.func13 rfl rfl rfl rfl (Nat.le_of_ble_eq_true rfl) (by kernel_rfl) ?_
  repeat' (first | refine unhold ?_ | (simp -dsimp -implicitDefEqProofs (disch := (first | assumption | omega | (simp only [List.length_map, List.length_append, List.length_cons, List.length_nil, List.length_replicate, List.length_drop, List.length_take]; omega))) only [go_sem, reduceCtorEq, Nat.reducePow, Int.reducePow, Nat.reduceDiv, Nat.reduceBEq, Nat.reduceEqDiff, Nat.reduceLT, Nat.reduceLeDiff, Nat.reduceAdd, Nat.reduceSub, Nat.reduceMul, Nat.reduceMod, Int.reduceToNat, Int.reduceNeg, Int.reduceAdd, Int.reduceSub, Int.reduceMul, Int.reduceDiv, Int.reduceMod, Int.reduceLT, Int.reduceLE, Int.reduceEq, ↓reduceIte]) | (refine And.intro (fun _ => unhold ?_) (fun _ => unhold ?_)) | (refine And.intro ?_ ?_; focus (first | omega | assumption | (repeat' (first | assumption | omega | refine And.intro ?_ ?_); done))) | omega)
  intro z
  refine vc_loop L_ok mixed [7] (fun i : Nat => i ≤ l.length) (fun i => [(10, .int .i64 i), (9, .int .i64 l.length), (8, .msl H.length 0 l.length (l.length + z)), (3, .msl H.length 0 l.length (l.length + z))]) (fun i => H ++ [.cells ((lowTo l i).map byteAV ++ List.replicate z (.int .u8 0))]) (fun i => l.length - i) (by kernel_rfl) ?_ 0 (Nat.zero_le _) (by repeat (first | exact envLe_nil | (refine envLe_cons ?_ ?_; focus (first | exact Le.refl _ | exact Le.any _ | exact le_sh | exact le_nil | (refine le_tup ?_; repeat (first | exact LeAll.nil | (refine LeAll.cons ?_ ?_; focus (first | exact Le.refl _ | exact Le.any _ | exact le_sh | exact le_nil)))) | (refine le_agg ?_; repeat (first | exact LeAll.nil | (refine LeAll.cons ?_ ?_; focus (first | exact Le.refl _ | exact Le.any _ | exact le_sh | exact le_nil)))) | (refine le_eq ?_; simp -implicitDefEqProofs (disch := omega) only [get_cons, get_nil, if_true, if_false, ↓reduceIte, Nat.reduceEqDiff, eq_self, IntWalk.i64_in, IntWalk.i32_in, IntWalk.u8_in, IntWalk.u32_in, IntWalk.u64_in, reduceCtorEq]; try (first | rfl | (refine int_eq ?_; omega))))))) (by rw [lowTo]; rfl)
  intro i hi
  have hm := lowTo_len l i
  repeat' (first | refine unhold ?_ | (simp -dsimp -implicitDefEqProofs (disch := (first | assumption | omega | (simp only [List.length_map, List.length_append, List.length_cons, List.length_nil, List.length_replicate, List.length_drop, List.length_take]; omega))) only [go_sem, reduceCtorEq, Nat.reducePow, Int.reducePow, Nat.reduceDiv, Nat.reduceBEq, Nat.reduceEqDiff, Nat.reduceLT, Nat.reduceLeDiff, Nat.reduceAdd, Nat.reduceSub, Nat.reduceMul, Nat.reduceMod, Int.reduceToNat, Int.reduceNeg, Int.reduceAdd, Int.reduceSub, Int.reduceMul, Int.reduceDiv, Int.reduceMod, Int.reduceLT, Int.reduceLE, Int.reduceEq, ↓reduceIte]) | (refine And.intro (fun _ => unhold ?_) (fun _ => unhold ?_)) | (refine And.intro ?_ ?_; focus (first | omega | assumption | (repeat' (first | assumption | omega | refine And.intro ?_ ?_); done))) | omega)
  · refine again (i + 1) ?_ ?_ ?_ (by repeat (first | exact envLe_nil | (refine envLe_cons ?_ ?_; focus (first | exact Le.refl _ | exact Le.any _ | exact le_sh | exact le_nil | (refine le_tup ?_; repeat (first | exact LeAll.nil | (refine LeAll.cons ?_ ?_; focus (first | exact Le.refl _ | exact Le.any _ | exact le_sh | exact le_nil)))) | (refine le_agg ?_; repeat (first | exact LeAll.nil | (refine LeAll.cons ?_ ?_; focus (first | exact Le.refl _ | exact Le.any _ | exact le_sh | exact le_nil)))) | (refine le_eq ?_; simp -implicitDefEqProofs (disch := omega) only [get_cons, get_nil, if_true, if_false, ↓reduceIte, Nat.reduceEqDiff, eq_self, IntWalk.i64_in, IntWalk.i32_in, IntWalk.u8_in, IntWalk.u32_in, IntWalk.u64_in, reduceCtorEq]; try (first | rfl | (refine int_eq ?_; omega)))))))
    · omega
    · omega
    · rw [set_low (by omega) (by omega) (by omega) (or_low (by omega) (by omega))]
  · refine again (i + 1) ?_ ?_ ?_ (by repeat (first | exact envLe_nil | (refine envLe_cons ?_ ?_; focus (first | exact Le.refl _ | exact Le.any _ | exact le_sh | exact le_nil | (refine le_tup ?_; repeat (first | exact LeAll.nil | (refine LeAll.cons ?_ ?_; focus (first | exact Le.refl _ | exact Le.any _ | exact le_sh | exact le_nil)))) | (refine le_agg ?_; repeat (first | exact LeAll.nil | (refine LeAll.cons ?_ ?_; focus (first | exact Le.refl _ | exact Le.any _ | exact le_sh | exact le_nil)))) | (refine le_eq ?_; simp -implicitDefEqProofs (disch := omega) only [get_cons, get_nil, if_true, if_false, ↓reduceIte, Nat.reduceEqDiff, eq_self, IntWalk.i64_in, IntWalk.i32_in, IntWalk.u8_in, IntWalk.u32_in, IntWalk.u64_in, reduceCtorEq]; try (first | rfl | (refine int_eq ?_; omega)))))))
    · omega
    · omega
    · rw [lowTo_same (by omega) (by omega)]
  · refine again (i + 1) ?_ ?_ ?_ (by repeat (first | exact envLe_nil | (refine envLe_cons ?_ ?_; focus (first | exact Le.refl _ | exact Le.any _ | exact le_sh | exact le_nil | (refine le_tup ?_; repeat (first | exact LeAll.nil | (refine LeAll.cons ?_ ?_; focus (first | exact Le.refl _ | exact Le.any _ | exact le_sh | exact le_nil)))) | (refine le_agg ?_; repeat (first | exact LeAll.nil | (refine LeAll.cons ?_ ?_; focus (first | exact Le.refl _ | exact Le.any _ | exact le_sh | exact le_nil)))) | (refine le_eq ?_; simp -implicitDefEqProofs (disch := omega) only [get_cons, get_nil, if_true, if_false, ↓reduceIte, Nat.reduceEqDiff, eq_self, IntWalk.i64_in, IntWalk.i32_in, IntWalk.u8_in, IntWalk.u32_in, IntWalk.u64_in, reduceCtorEq]; try (first | rfl | (refine int_eq ?_; omega)))))))
    · omega
    · omega
    · rw [lowTo_same (by omega) (by omega)]
  · obtain rfl : i = l.length := by omega
    refine done_drop (.str _) ⟨?_, rfl⟩
    rw [lowTo_end]
def isPlain (l : List UInt8) : Bool := l.all fun c => decide (32 ≤ c.toNat ∧ c.toNat ≤ 126)
theorem take_snoc {l : List UInt8} {i : Nat} (h : i < l.length) : l.take (i + 1) = l.take i ++ [l.getD i 0] := by
  rw [List.take_add_one]
  simp [List.getD, List.getElem?_eq_getElem h]
theorem isPlain_at {l : List UInt8} {i : Nat} (hi : i ≤ l.length) (h : i < l.length) (hp : isPlain (l.take i) = true) : isPlain l = (decide (32 ≤ (l.getD i 0).toNat ∧ (l.getD i 0).toNat ≤ 126) && isPlain (l.drop (i + 1))) := by
  have e : l = l.take i ++ (l.getD i 0 :: l.drop (i + 1)) := by
    rw [show l.getD i 0 = l[i] by simp [List.getD, List.getElem?_eq_getElem h], ← List.drop_eq_getElem_cons h, List.take_append_drop]
  conv => lhs; rw [e]
  unfold isPlain at *
  rw [List.all_append, hp, List.all_cons, Bool.true_and]
theorem Printable_ref (l : List UInt8) (H : List AObj) (hl : l.length ≤ 5000) : ACalls Tryd.prog 16 [.str l] H (fun x H' => x = .bool (isPlain l) ∧ H' = H) := by
  refine acalls_vc L_ok mixed [] (rs := [.tmp 2]) (n := 20) Tryd.func16 rfl rfl rfl rfl (Nat.le_of_ble_eq_true rfl) (by kernel_rfl) ?_
  repeat' (first | refine unhold ?_ | (simp -dsimp -implicitDefEqProofs (disch := (first | assumption | omega | (simp only [List.length_map, List.length_append, List.length_cons, List.length_nil, List.length_replicate, List.length_drop, List.length_take]; omega))) only [go_sem, reduceCtorEq, Nat.reducePow, Int.reducePow, Nat.reduceDiv, Nat.reduceBEq, Nat.reduceEqDiff, Nat.reduceLT, Nat.reduceLeDiff, Nat.reduceAdd, Nat.reduceSub, Nat.reduceMul, Nat.reduceMod, Int.reduceToNat, Int.reduceNeg, Int.reduceAdd, Int.reduceSub, Int.reduceMul, Int.reduceDiv, Int.reduceMod, Int.reduceLT, Int.reduceLE, Int.reduceEq, ↓reduceIte]) | (refine And.intro (fun _ => unhold ?_) (fun _ => unhold ?_)) | (refine And.intro ?_ ?_; focus (first | omega | assumption | (repeat' (first | assumption | omega | refine And.intro ?_ ?_); done))) | omega)
  refine vc_loop L_ok mixed [] (fun i : Nat => i ≤ l.length ∧ isPlain (l.take i) = true) (fun i => [(3, .int .i64 i), (0, .str l)]) (fun _ => H) (fun i => l.length - i) (by kernel_rfl) ?_ 0 ⟨by omega, rfl⟩ (by repeat (first | exact envLe_nil | (refine envLe_cons ?_ ?_; focus (first | exact Le.refl _ | exact Le.any _ | exact le_sh | exact le_nil | (refine le_tup ?_; repeat (first | exact LeAll.nil | (refine LeAll.cons ?_ ?_; focus (first | exact Le.refl _ | exact Le.any _ | exact le_sh | exact le_nil)))) | (refine le_agg ?_; repeat (first | exact LeAll.nil | (refine LeAll.cons ?_ ?_; focus (first | exact Le.refl _ | exact Le.any _ | exact le_sh | exact le_nil)))) | (refine le_eq ?_; simp -implicitDefEqProofs (disch := omega) only [get_cons, get_nil, if_true, if_false, ↓reduceIte, Nat.reduceEqDiff, eq_self, IntWalk.i64_in, IntWalk.i32_in, IntWalk.u8_in, IntWalk.u32_in, IntWalk.u64_in, reduceCtorEq]; try (first | rfl | (refine int_eq ?_; omega))))))) rfl
  intro i ⟨hi, hp⟩
  repeat' (first | refine unhold ?_ | (simp -dsimp -implicitDefEqProofs (disch := (first | assumption | omega | (simp only [List.length_map, List.length_append, List.length_cons, List.length_nil, List.length_replicate, List.length_drop, List.length_take]; omega))) only [go_sem, reduceCtorEq, Nat.reducePow, Int.reducePow, Nat.reduceDiv, Nat.reduceBEq, Nat.reduceEqDiff, Nat.reduceLT, Nat.reduceLeDiff, Nat.reduceAdd, Nat.reduceSub, Nat.reduceMul, Nat.reduceMod, Int.reduceToNat, Int.reduceNeg, Int.reduceAdd, Int.reduceSub, Int.reduceMul, Int.reduceDiv, Int.reduceMod, Int.reduceLT, Int.reduceLE, Int.reduceEq, ↓reduceIte]) | (refine And.intro (fun _ => unhold ?_) (fun _ => unhold ?_)) | (refine And.intro ?_ ?_; focus (first | omega | assumption | (repeat' (first | assumption | omega | refine And.intro ?_ ?_); done))) | omega)
  · refine done_same ⟨bool_eq ?_, rfl⟩
    rw [isPlain_at hi (by omega) hp, decide_eq_false (by omega), Bool.false_and]
  · refine done_same ⟨bool_eq ?_, rfl⟩
    rw [isPlain_at hi (by omega) hp, decide_eq_false (by omega), Bool.false_and]
  · refine again (i + 1) ?_ ?_ rfl (by repeat (first | exact envLe_nil | (refine envLe_cons ?_ ?_; focus (first | exact Le.refl _ | exact Le.any _ | exact le_sh | exact le_nil | (refine le_tup ?_; repeat (first | exact LeAll.nil | (refine LeAll.cons ?_ ?_; focus (first | exact Le.refl _ | exact Le.any _ | exact le_sh | exact le_nil)))) | (refine le_agg ?_; repeat (first | exact LeAll.nil | (refine LeAll.cons ?_ ?_; focus (first | exact Le.refl _ | exact Le.any _ | exact le_sh | exact le_nil)))) | (refine le_eq ?_; simp -implicitDefEqProofs (disch := omega) only [get_cons, get_nil, if_true, if_false, ↓reduceIte, Nat.reduceEqDiff, eq_self, IntWalk.i64_in, IntWalk.i32_in, IntWalk.u8_in, IntWalk.u32_in, IntWalk.u64_in, reduceCtorEq]; try (first | rfl | (refine int_eq ?_; omega)))))))
    · omega
    · refine ⟨by omega, ?_⟩
      rw [take_snoc (by omega), isPlain, List.all_append, ← isPlain, hp, List.all_cons, List.all_nil, decide_eq_true (by omega)]
      rfl
  · refine done_same ⟨bool_eq ?_, rfl⟩
    have : i = l.length := by omega
    subst this
    rw [List.take_length] at hp
    rw [hp]
theorem Printable_c (l : List UInt8) (H : List AObj) (hl : l.length ≤ 5000) : ACalls Tryd.prog 15 [.str l] H (fun x H' => x = .bool (isPlain l) ∧ H' = H) := by
  refine acalls_vc L_ok mixed [] (rs := [.tmp 2]) (n := 20) Tryd.func15 rfl rfl rfl rfl (Nat.le_of_ble_eq_true rfl) (by kernel_rfl) ?_
  repeat' (first | refine unhold ?_ | (simp -dsimp -implicitDefEqProofs (disch := (first | assumption | omega | (simp only [List.length_map, List.length_append, List.length_cons, List.length_nil, List.length_replicate, List.length_drop, List.length_take]; omega))) only [go_sem, reduceCtorEq, Nat.reducePow, Int.reducePow, Nat.reduceDiv, Nat.reduceBEq, Nat.reduceEqDiff, Nat.reduceLT, Nat.reduceLeDiff, Nat.reduceAdd, Nat.reduceSub, Nat.reduceMul, Nat.reduceMod, Int.reduceToNat, Int.reduceNeg, Int.reduceAdd, Int.reduceSub, Int.reduceMul, Int.reduceDiv, Int.reduceMod, Int.reduceLT, Int.reduceLE, Int.reduceEq, ↓reduceIte]) | (refine And.intro (fun _ => unhold ?_) (fun _ => unhold ?_)) | (refine And.intro ?_ ?_; focus (first | omega | assumption | (repeat' (first | assumption | omega | refine And.intro ?_ ?_); done))) | omega)
  refine vc_loop L_ok mixed [] (fun i : Nat => i ≤ l.length ∧ isPlain (l.take i) = true) (fun i => [(6, .int .i64 i), (5, .int .i64 l.length), (0, .str l)]) (fun _ => H) (fun i => l.length - i) (by kernel_rfl) ?_ 0 ⟨by omega, rfl⟩ (by repeat (first | exact envLe_nil | (refine envLe_cons ?_ ?_; focus (first | exact Le.refl _ | exact Le.any _ | exact le_sh | exact le_nil | (refine le_tup ?_; repeat (first | exact LeAll.nil | (refine LeAll.cons ?_ ?_; focus (first | exact Le.refl _ | exact Le.any _ | exact le_sh | exact le_nil)))) | (refine le_agg ?_; repeat (first | exact LeAll.nil | (refine LeAll.cons ?_ ?_; focus (first | exact Le.refl _ | exact Le.any _ | exact le_sh | exact le_nil)))) | (refine le_eq ?_; simp -implicitDefEqProofs (disch := omega) only [get_cons, get_nil, if_true, if_false, ↓reduceIte, Nat.reduceEqDiff, eq_self, IntWalk.i64_in, IntWalk.i32_in, IntWalk.u8_in, IntWalk.u32_in, IntWalk.u64_in, reduceCtorEq]; try (first | rfl | (refine int_eq ?_; omega))))))) rfl
  intro i ⟨hi, hp⟩
  repeat' (first | refine unhold ?_ | (simp -dsimp -implicitDefEqProofs (disch := (first | assumption | omega | (simp only [List.length_map, List.length_append, List.length_cons, List.length_nil, List.length_replicate, List.length_drop, List.length_take]; omega))) only [go_sem, reduceCtorEq, Nat.reducePow, Int.reducePow, Nat.reduceDiv, Nat.reduceBEq, Nat.reduceEqDiff, Nat.reduceLT, Nat.reduceLeDiff, Nat.reduceAdd, Nat.reduceSub, Nat.reduceMul, Nat.reduceMod, Int.reduceToNat, Int.reduceNeg, Int.reduceAdd, Int.reduceSub, Int.reduceMul, Int.reduceDiv, Int.reduceMod, Int.reduceLT, Int.reduceLE, Int.reduceEq, ↓reduceIte]) | (refine And.intro (fun _ => unhold ?_) (fun _ => unhold ?_)) | (refine And.intro ?_ ?_; focus (first | omega | assumption | (repeat' (first | assumption | omega | refine And.intro ?_ ?_); done))) | omega)
  · refine done_same ⟨bool_eq ?_, rfl⟩
    rw [isPlain_at hi (by omega) hp, decide_eq_false (by omega), Bool.false_and]
  · refine done_same ⟨bool_eq ?_, rfl⟩
    rw [isPlain_at hi (by omega) hp, decide_eq_false (by omega), Bool.false_and]
  · refine again (i + 1) ?_ ?_ rfl (by repeat (first | exact envLe_nil | (refine envLe_cons ?_ ?_; focus (first | exact Le.refl _ | exact Le.any _ | exact le_sh | exact le_nil | (refine le_tup ?_; repeat (first | exact LeAll.nil | (refine LeAll.cons ?_ ?_; focus (first | exact Le.refl _ | exact Le.any _ | exact le_sh | exact le_nil)))) | (refine le_agg ?_; repeat (first | exact LeAll.nil | (refine LeAll.cons ?_ ?_; focus (first | exact Le.refl _ | exact Le.any _ | exact le_sh | exact le_nil)))) | (refine le_eq ?_; simp -implicitDefEqProofs (disch := omega) only [get_cons, get_nil, if_true, if_false, ↓reduceIte, Nat.reduceEqDiff, eq_self, IntWalk.i64_in, IntWalk.i32_in, IntWalk.u8_in, IntWalk.u32_in, IntWalk.u64_in, reduceCtorEq]; try (first | rfl | (refine int_eq ?_; omega)))))))
    · omega
    · refine ⟨by omega, ?_⟩
      rw [take_snoc (by omega), isPlain, List.all_append, ← isPlain, hp, List.all_cons, List.all_nil, decide_eq_true (by omega)]
      rfl
  · refine done_same ⟨bool_eq ?_, rfl⟩
    have : i = l.length := by omega
    subst this
    rw [List.take_length] at hp
    rw [hp]
end Go.Proofs.YthaicajgfioogaaDoor
