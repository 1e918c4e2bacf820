/- First runes, counts: the program's and the document's. -/
import Derived.Test.YthaicajgfioogaaDoorU10
import Derived.Test.YthaicajgfioogaaDoorU15
import Derived.Test.YthaicajgfioogaaDoorU4
set_option linter.unusedSimpArgs false
set_option linter.unusedVariables false
namespace Go.Proofs.YthaicajgfioogaaDoor
open Go V
set_option maxRecDepth 10000
set_option maxHeartbeats 4000000
theorem runes_asc {l : List UInt8} {i : Nat} (h : i < l.length) (hb : (l.getD i 0).toNat < 128) : (runesOf (l.drop i)).length = 1 + (runesOf (l.drop (i + 1))).length := by
  have e : l.drop i = l.getD i 0 :: l.drop (i + 1) := by
    rw [List.getD, List.getElem?_eq_getElem h, Option.getD_some, ← List.drop_eq_getElem_cons h]
  rw [runesOf_step (by rw [e]; simp), e, Lib.decodeL_ascii _ _ hb, List.length_cons]
  simp
  omega
theorem RuneCount_c {o : Own} (l : List UInt8) (H : List AObj) (hl : l.length ≤ 100000) : ACalls Tryd.prog 30 [.sl o 1 (l.map byteAV)] H (fun x H' => x = .int .i64 (runesOf l).length ∧ H' = H) := by
  have hr := runesGo_len l.length l
  refine acalls_vc L_ok mixed [] (rs := [.tmp 2]) (n := 27) Tryd.func30 rfl rfl rfl rfl (Nat.le_of_ble_eq_true rfl) (by kernel_rfl) ?_
  repeat' (first | refine unhold ?_ | (simp -dsimp -implicitDefEqProofs (disch := (first | assumption | omega | (simp only [List.length_map, List.length_append, List.length_cons, List.length_nil, List.length_replicate, List.length_drop, List.length_take]; omega))) only [go_sem, reduceCtorEq, Nat.reducePow, Int.reducePow, Nat.reduceDiv, Nat.reduceBEq, Nat.reduceEqDiff, Nat.reduceLT, Nat.reduceLeDiff, Nat.reduceAdd, Nat.reduceSub, Nat.reduceMul, Nat.reduceMod, Int.reduceToNat, Int.reduceNeg, Int.reduceAdd, Int.reduceSub, Int.reduceMul, Int.reduceDiv, Int.reduceMod, Int.reduceLT, Int.reduceLE, Int.reduceEq, ↓reduceIte]) | (refine And.intro (fun _ => unhold ?_) (fun _ => unhold ?_)) | (refine And.intro ?_ ?_; focus (first | omega | assumption | (repeat' (first | assumption | omega | refine And.intro ?_ ?_); done))) | omega)
  refine vc_loopk L_ok mixed [] [0, 3] (fun i : Nat => i ≤ l.length ∧ (runesOf l).length = i + (runesOf (l.drop i)).length) (fun i => [(4, .int .i64 i)]) (fun _ => H) (fun i => l.length - i) (by kernel_rfl) ?_ 0 ⟨by omega, by simp⟩ (by repeat (first | exact envLe_nil | (refine envLe_cons ?_ ?_; focus (first | exact Le.refl _ | exact Le.any _ | exact le_sh | exact le_nil | (refine le_tup ?_; repeat (first | exact LeAll.nil | (refine LeAll.cons ?_ ?_; focus (first | exact Le.refl _ | exact Le.any _ | exact le_sh | exact le_nil)))) | (refine le_agg ?_; repeat (first | exact LeAll.nil | (refine LeAll.cons ?_ ?_; focus (first | exact Le.refl _ | exact Le.any _ | exact le_sh | exact le_nil)))) | (refine le_eq ?_; simp -implicitDefEqProofs (disch := omega) only [get_cons, get_nil, if_true, if_false, ↓reduceIte, Nat.reduceEqDiff, eq_self, IntWalk.i64_in, IntWalk.i32_in, IntWalk.u8_in, IntWalk.u32_in, IntWalk.u64_in, reduceCtorEq]; try (first | rfl | (refine int_eq ?_; omega))))))) rfl
  intro i ⟨hi, hp⟩
  have hr2 := runesGo_len (l.drop i).length (l.drop i)
  have hr3 : (runesOf (l.drop i)).length ≤ (l.drop i).length := hr2
  rw [List.length_drop] at hr3
  repeat' (first | refine unhold ?_ | (simp -dsimp -implicitDefEqProofs (disch := (first | assumption | omega | (simp only [List.length_map, List.length_append, List.length_cons, List.length_nil, List.length_replicate, List.length_drop, List.length_take]; omega))) only [go_sem, reduceCtorEq, Nat.reducePow, Int.reducePow, Nat.reduceDiv, Nat.reduceBEq, Nat.reduceEqDiff, Nat.reduceLT, Nat.reduceLeDiff, Nat.reduceAdd, Nat.reduceSub, Nat.reduceMul, Nat.reduceMod, Int.reduceToNat, Int.reduceNeg, Int.reduceAdd, Int.reduceSub, Int.reduceMul, Int.reduceDiv, Int.reduceMod, Int.reduceLT, Int.reduceLE, Int.reduceEq, ↓reduceIte]) | (refine acalls_same (RuneCountInString_c _ _ ?_) ?_) | (refine ⟨_, RuneCountInString_c _ _ ?_, ?_⟩) | (refine ⟨_, _, RuneCountInString_c _ _ ?_, ?_⟩) | (refine And.intro (fun _ => unhold ?_) (fun _ => unhold ?_)) | (refine And.intro ?_ ?_; focus (first | omega | assumption | (repeat' (first | assumption | omega | refine And.intro ?_ ?_); done))) | omega)
  · refine done_same ⟨int_eq ?_, rfl⟩
    omega
  · rename_i h1 h2
    have := runes_asc (show i < l.length by omega) (by omega)
    refine again (i + 1) ?_ ?_ rfl (by repeat (first | exact envLe_nil | (refine envLe_cons ?_ ?_; focus (first | exact Le.refl _ | exact Le.any _ | exact le_sh | exact le_nil | (refine le_tup ?_; repeat (first | exact LeAll.nil | (refine LeAll.cons ?_ ?_; focus (first | exact Le.refl _ | exact Le.any _ | exact le_sh | exact le_nil)))) | (refine le_agg ?_; repeat (first | exact LeAll.nil | (refine LeAll.cons ?_ ?_; focus (first | exact Le.refl _ | exact Le.any _ | exact le_sh | exact le_nil)))) | (refine le_eq ?_; simp -implicitDefEqProofs (disch := omega) only [get_cons, get_nil, if_true, if_false, ↓reduceIte, Nat.reduceEqDiff, eq_self, IntWalk.i64_in, IntWalk.i32_in, IntWalk.u8_in, IntWalk.u32_in, IntWalk.u64_in, reduceCtorEq]; try (first | rfl | (refine int_eq ?_; omega)))))))
    · omega
    · exact ⟨by omega, by omega⟩
  · obtain rfl : i = l.length := by omega
    refine done_same ⟨int_eq ?_, rfl⟩
    rw [hp, List.drop_of_length_le (Nat.le_refl _)]
    simp [runesOf_nil]
theorem Count_c {o : Own} (l : List UInt8) (H : List AObj) (hl : l.length ≤ 10000) : ACalls Tryd.prog 22 [.sl o 1 (l.map byteAV)] H (fun x H' => x = .tup [.int .i64 (decR l).length, .int .i64 (decE l)] ∧ H' = H) := by
  refine acalls_vc L_ok mixed [] (rs := [.tmp 2, .tmp 3]) (n := 9) Tryd.func22 rfl rfl rfl rfl (Nat.le_of_ble_eq_true rfl) (by kernel_rfl) ?_
  repeat' (first | refine unhold ?_ | (simp -dsimp -implicitDefEqProofs (disch := (first | assumption | omega | (simp only [List.length_map, List.length_append, List.length_cons, List.length_nil, List.length_replicate, List.length_drop, List.length_take]; omega))) only [go_sem, reduceCtorEq, Nat.reducePow, Int.reducePow, Nat.reduceDiv, Nat.reduceBEq, Nat.reduceEqDiff, Nat.reduceLT, Nat.reduceLeDiff, Nat.reduceAdd, Nat.reduceSub, Nat.reduceMul, Nat.reduceMod, Int.reduceToNat, Int.reduceNeg, Int.reduceAdd, Int.reduceSub, Int.reduceMul, Int.reduceDiv, Int.reduceMod, Int.reduceLT, Int.reduceLE, Int.reduceEq, ↓reduceIte]) | (refine acalls_same (Right_c _ _ ?_) ?_) | (refine ⟨_, Right_c _ _ ?_, ?_⟩) | (refine ⟨_, _, Right_c _ _ ?_, ?_⟩) | (refine acalls_same (RuneCount_c _ _ ?_) ?_) | (refine ⟨_, RuneCount_c _ _ ?_, ?_⟩) | (refine ⟨_, _, RuneCount_c _ _ ?_, ?_⟩) | (refine And.intro (fun _ => unhold ?_) (fun _ => unhold ?_)) | (refine And.intro ?_ ?_; focus (first | omega | assumption | (repeat' (first | assumption | omega | refine And.intro ?_ ?_); done))) | omega)
  · rename_i h
    rw [decR, decE, h]
    exact done_same ⟨rfl, rfl⟩
  · rename_i h
    rw [decR, decE, h]
    exact done_same ⟨rfl, rfl⟩
theorem DecodeRune_c {o : Own} (l : List UInt8) (H : List AObj) (hl : l.length ≤ 10000) : ACalls Tryd.prog 29 [.sl o 1 (l.map byteAV)] H (fun x H' => x = .tup [.int .i32 ((decP l).1 : Nat), .int .i64 ((decP l).2 : Nat)] ∧ H' = H) := by
  have b0 := (l.getD 0 0).toNat_lt
  refine acalls_vc L_ok mixed [] (rs := [.tmp 2, .tmp 3]) (n := 22) Tryd.func29 rfl rfl rfl rfl (Nat.le_of_ble_eq_true rfl) (by kernel_rfl) ?_
  repeat' (first | refine unhold ?_ | (simp -dsimp -implicitDefEqProofs (disch := (first | assumption | omega | (simp only [List.length_map, List.length_append, List.length_cons, List.length_nil, List.length_replicate, List.length_drop, List.length_take]; omega))) only [go_sem, reduceCtorEq, Nat.reducePow, Int.reducePow, Nat.reduceDiv, Nat.reduceBEq, Nat.reduceEqDiff, Nat.reduceLT, Nat.reduceLeDiff, Nat.reduceAdd, Nat.reduceSub, Nat.reduceMul, Nat.reduceMod, Int.reduceToNat, Int.reduceNeg, Int.reduceAdd, Int.reduceSub, Int.reduceMul, Int.reduceDiv, Int.reduceMod, Int.reduceLT, Int.reduceLE, Int.reduceEq, ↓reduceIte]) | (refine And.intro (fun _ => unhold ?_) (fun _ => unhold ?_)) | (refine And.intro ?_ ?_; focus (first | omega | assumption | (repeat' (first | assumption | omega | refine And.intro ?_ ?_); done))) | omega)
  refine vc_loopk L_ok mixed [] [0, 6, 7] (fun i : Nat => i = 0) (fun i => [(8, .int .i64 i)]) (fun _ => H) (fun i => 0) (by kernel_rfl) ?_ 0 rfl (by repeat (first | exact envLe_nil | (refine envLe_cons ?_ ?_; focus (first | exact Le.refl _ | exact Le.any _ | exact le_sh | exact le_nil | (refine le_tup ?_; repeat (first | exact LeAll.nil | (refine LeAll.cons ?_ ?_; focus (first | exact Le.refl _ | exact Le.any _ | exact le_sh | exact le_nil)))) | (refine le_agg ?_; repeat (first | exact LeAll.nil | (refine LeAll.cons ?_ ?_; focus (first | exact Le.refl _ | exact Le.any _ | exact le_sh | exact le_nil)))) | (refine le_eq ?_; simp -implicitDefEqProofs (disch := omega) only [get_cons, get_nil, if_true, if_false, ↓reduceIte, Nat.reduceEqDiff, eq_self, IntWalk.i64_in, IntWalk.i32_in, IntWalk.u8_in, IntWalk.u32_in, IntWalk.u64_in, reduceCtorEq]; try (first | rfl | (refine int_eq ?_; omega))))))) rfl
  rintro i rfl
  repeat' (first | refine unhold ?_ | (simp -dsimp -implicitDefEqProofs (disch := (first | assumption | omega | (simp only [List.length_map, List.length_append, List.length_cons, List.length_nil, List.length_replicate, List.length_drop, List.length_take]; omega))) only [go_sem, reduceCtorEq, Nat.reducePow, Int.reducePow, Nat.reduceDiv, Nat.reduceBEq, Nat.reduceEqDiff, Nat.reduceLT, Nat.reduceLeDiff, Nat.reduceAdd, Nat.reduceSub, Nat.reduceMul, Nat.reduceMod, Int.reduceToNat, Int.reduceNeg, Int.reduceAdd, Int.reduceSub, Int.reduceMul, Int.reduceDiv, Int.reduceMod, Int.reduceLT, Int.reduceLE, Int.reduceEq, ↓reduceIte]) | (refine acalls_same (decodeSlow_c _ _ hl ?_) ?_) | (refine ⟨_, decodeSlow_c _ _ hl ?_, ?_⟩) | (refine ⟨_, _, decodeSlow_c _ _ hl ?_, ?_⟩) | (refine And.intro (fun _ => unhold ?_) (fun _ => unhold ?_)) | (refine And.intro ?_ ?_; focus (first | omega | assumption | (repeat' (first | assumption | omega | refine And.intro ?_ ?_); done))) | omega)
  · rename_i h1 h2
    refine done_same ⟨tup2_eq ?_ ?_, rfl⟩ <;> (rw [decP_N (by omega), Lib.decodeN, if_pos (by omega)]) <;> rfl
  · exact done_same ⟨rfl, rfl⟩
  · rename_i h1
    exact .inl (List.eq_nil_of_length_eq_zero (by omega))
  · exact done_same ⟨rfl, rfl⟩
theorem First_c {o : Own} (l : List UInt8) (H : List AObj) (hl : l.length ≤ 10000) : ACalls Tryd.prog 20 [.sl o 1 (l.map byteAV)] H (fun x H' => x = .tup [.int .i32 (firR l), .int .i64 (firN l), .int .i64 (firE l)] ∧ H' = H) := by
  refine acalls_vc L_ok mixed [] (rs := [.tmp 2, .tmp 3, .tmp 4]) (n := 18) Tryd.func20 rfl rfl rfl rfl (Nat.le_of_ble_eq_true rfl) (by kernel_rfl) ?_
  repeat' (first | refine unhold ?_ | (simp -dsimp -implicitDefEqProofs (disch := (first | assumption | omega | (simp only [List.length_map, List.length_append, List.length_cons, List.length_nil, List.length_replicate, List.length_drop, List.length_take]; omega))) only [go_sem, reduceCtorEq, Nat.reducePow, Int.reducePow, Nat.reduceDiv, Nat.reduceBEq, Nat.reduceEqDiff, Nat.reduceLT, Nat.reduceLeDiff, Nat.reduceAdd, Nat.reduceSub, Nat.reduceMul, Nat.reduceMod, Int.reduceToNat, Int.reduceNeg, Int.reduceAdd, Int.reduceSub, Int.reduceMul, Int.reduceDiv, Int.reduceMod, Int.reduceLT, Int.reduceLE, Int.reduceEq, ↓reduceIte]) | (refine acalls_same (DecodeRune_c _ _ ?_) ?_) | (refine ⟨_, DecodeRune_c _ _ ?_, ?_⟩) | (refine ⟨_, _, DecodeRune_c _ _ ?_, ?_⟩) | (refine And.intro (fun _ => unhold ?_) (fun _ => unhold ?_)) | (refine And.intro ?_ ?_; focus (first | omega | assumption | (repeat' (first | assumption | omega | refine And.intro ?_ ?_); done))) | omega)
  all_goals
    first
      | (have h : badP l = true := decide_eq_true (by omega)
         rw [firR, firN, firE, h]
         exact done_same ⟨rfl, rfl⟩)
      | (have h : badP l = false := decide_eq_false (by omega)
         rw [firR, firN, firE, h]
         exact done_same ⟨rfl, rfl⟩)
def refW (l : List UInt8) (base : Int) : Nat → Int
  | 0 => (l.getD 0 0).toNat - base
  | j + 1 => refW l base j * 64 + (l.getD (j + 1) 0).toNat - 128
theorem refW_bound (l : List UInt8) {base : Int} (h : 0 ≤ (l.getD 0 0).toNat - base) {j : Nat} (hj : j ≤ 3) (hb : 0 ≤ base) : -600000 ≤ refW l base j ∧ refW l base j ≤ 67375167 ∧ (j ≤ 2 → refW l base j ≤ 1052735 ∧ -9000 ≤ refW l base j) := by
  have b0 := (l.getD 0 0).toNat_lt
  have b1 := (l.getD 1 0).toNat_lt
  have b2 := (l.getD 2 0).toNat_lt
  have b3 := (l.getD 3 0).toNat_lt
  match j, hj with
  | 0, _ => simp only [refW, Nat.zero_add, Nat.reduceAdd]; omega
  | 1, _ => simp only [refW, Nat.zero_add, Nat.reduceAdd]; omega
  | 2, _ => simp only [refW, Nat.zero_add, Nat.reduceAdd]; omega
  | 3, _ => simp only [refW, Nat.zero_add, Nat.reduceAdd]; omega
theorem take_get {l : List UInt8} {n i : Nat} (h : i < n) : (l.take n).getD i 0 = l.getD i 0 := by
  rw [List.getD, List.getElem?_take, if_pos h, List.getD]
theorem byte_of {l : List UInt8} {n i : Nat} {x : Int} {xs : List UInt8} (e : xs = l.take n) (h : i < n) (hx : xs.getD i 0 = byteOf x) (h0 : 0 ≤ x ∧ x < 256) : ((l.getD i 0).toNat : Int) = x := by
  rw [← take_get h, ← e, hx, byteOf_nat h0]
/-- What is rightly read is read so by the document's way. -/
theorem ref_class {l : List UInt8} (hl : l ≠ []) (hg : badP l = false) : ∃ r n, decP l = (r, n) ∧ isRune (r : Int) = true ∧ enc1 (r : Int) = l.take n ∧ n ≤ l.length ∧
    (((l.getD 0 0).toNat < 192 → n = 1 ∧ (r : Int) = refW l 0 0) ∧ (192 ≤ (l.getD 0 0).toNat → (l.getD 0 0).toNat < 224 → n = 2 ∧ (r : Int) = refW l 192 1) ∧ (224 ≤ (l.getD 0 0).toNat → (l.getD 0 0).toNat < 240 → n = 3 ∧ (r : Int) = refW l 224 2) ∧ (240 ≤ (l.getD 0 0).toNat → n = 4 ∧ (r : Int) = refW l 240 3)) := by
  have hd : decP l = Lib.decodeL l := if_neg hl
  have hg' := of_decide_eq_false hg
  rw [hd] at hg'
  obtain ⟨h1, h2, h3⟩ := enc_dec1 hl (fun h => hg' ⟨h.1, by omega⟩)
  have hle := Lib.decodeL_le l hl
  refine ⟨(Lib.decodeL l).1, (Lib.decodeL l).2, hd, h1, h2, hle, ?_⟩
  have hr := of_decide_eq_true h1
  generalize (Lib.decodeL l).1 = r at *
  generalize (Lib.decodeL l).2 = n at *
  have hlen := congrArg List.length h2
  rw [List.length_take, Nat.min_eq_left hle] at hlen
  rcases Int.lt_or_le (r : Int) 128 with h | h
  · rw [one_c1 h] at h2 hlen
    obtain rfl : n = 1 := hlen.symm
    have e0 := byte_of (i := 0) h2 (by decide) rfl (by omega)
    simp only [refW, Nat.zero_add, Nat.reduceAdd]
    refine ⟨fun _ => ⟨?_, ?_⟩, fun _ _ => ⟨?_, ?_⟩, fun _ _ => ⟨?_, ?_⟩, fun _ => ⟨?_, ?_⟩⟩ <;> first | exact True.intro | omega
  rcases Int.lt_or_le (r : Int) 2048 with h' | h'
  · rw [one_c2 h h'] at h2 hlen
    obtain rfl : n = 2 := hlen.symm
    have e0 := byte_of (i := 0) h2 (by decide) rfl (by omega)
    have e1 := byte_of (i := 1) h2 (by decide) rfl (by omega)
    simp only [refW, Nat.zero_add, Nat.reduceAdd]
    refine ⟨fun _ => ⟨?_, ?_⟩, fun _ _ => ⟨?_, ?_⟩, fun _ _ => ⟨?_, ?_⟩, fun _ => ⟨?_, ?_⟩⟩ <;> first | exact True.intro | omega
  rcases Int.lt_or_le (r : Int) 65536 with h'' | h''
  · rw [one_c3 h' h''] at h2 hlen
    obtain rfl : n = 3 := hlen.symm
    have e0 := byte_of (i := 0) h2 (by decide) rfl (by omega)
    have e1 := byte_of (i := 1) h2 (by decide) rfl (by omega)
    have e2 := byte_of (i := 2) h2 (by decide) rfl (by omega)
    simp only [refW, Nat.zero_add, Nat.reduceAdd]
    refine ⟨fun _ => ⟨?_, ?_⟩, fun _ _ => ⟨?_, ?_⟩, fun _ _ => ⟨?_, ?_⟩, fun _ => ⟨?_, ?_⟩⟩ <;> first | exact True.intro | omega
  · rw [one_c4 h''] at h2 hlen
    obtain rfl : n = 4 := hlen.symm
    have e0 := byte_of (i := 0) h2 (by decide) rfl (by omega)
    have e1 := byte_of (i := 1) h2 (by decide) rfl (by omega)
    have e2 := byte_of (i := 2) h2 (by decide) rfl (by omega)
    have e3 := byte_of (i := 3) h2 (by decide) rfl (by omega)
    simp only [refW, Nat.zero_add, Nat.reduceAdd]
    refine ⟨fun _ => ⟨?_, ?_⟩, fun _ _ => ⟨?_, ?_⟩, fun _ _ => ⟨?_, ?_⟩, fun _ => ⟨?_, ?_⟩⟩ <;> first | exact True.intro | omega
/-- What passes the document's tests is rightly read. -/
theorem ref_ok {l : List UInt8} {v : Int} {s : Nat} (hv : isRune v = true) (hs : (enc1 v).length = s) (he : enc1 v = l.take s) : firR l = v ∧ firN l = s ∧ firE l = 0 := by
  have hne : l ≠ [] := by
    intro e
    subst e
    rw [List.take_nil] at he
    exact enc1_ne v he
  have hd : decP l = (v.toNat, s) := by
    rw [decP, if_neg hne]
    conv => lhs; rw [← List.take_append_drop s l, ← he]
    rw [dec_enc1 hv, hs]
  have hv' := of_decide_eq_true hv
  have hb : badP l = false := by
    refine decide_eq_false ?_
    rw [hd]
    simp only
    intro ⟨h1, h2⟩
    have : v = 65533 := by omega
    subst this
    rw [← hs] at h2
    revert h2
    decide
  rw [firR, firN, firE, hb, hd]
  refine ⟨?_, rfl, rfl⟩
  simp only [Bool.false_eq_true, if_false]
  omega
theorem bad_no {l : List UInt8} (h : badP l = true) : firR l = 0 ∧ firN l = 0 ∧ firE l = 2 := by rw [firR, firN, firE, h]; exact ⟨rfl, rfl, rfl⟩
theorem bad_nil : badP [] = true := by decide
theorem First_r {o : Own} (l : List UInt8) (H : List AObj) (hl : l.length ≤ 10000) : ACalls Tryd.prog 23 [.sl o 1 (l.map byteAV)] H (fun x H' => x = .tup [.int .i32 (firR l), .int .i64 (firN l), .int .i64 (firE l)] ∧ H' = H) := by
  have b0 := (l.getD 0 0).toNat_lt
  refine acalls_vc L_ok mixed [1000003, 1000005, 1000007, 1000009] (rs := [.tmp 2, .tmp 3, .tmp 4]) (n := 90) Tryd.func23 rfl rfl rfl rfl (Nat.le_of_ble_eq_true rfl) (by kernel_rfl) ?_
  repeat' (first | refine unhold ?_ | (simp -dsimp -implicitDefEqProofs (disch := (first | assumption | omega | (simp only [List.length_map, List.length_append, List.length_cons, List.length_nil, List.length_replicate, List.length_drop, List.length_take]; omega))) only [go_sem, reduceCtorEq, Nat.reducePow, Int.reducePow, Nat.reduceDiv, Nat.reduceBEq, Nat.reduceEqDiff, Nat.reduceLT, Nat.reduceLeDiff, Nat.reduceAdd, Nat.reduceSub, Nat.reduceMul, Nat.reduceMod, Int.reduceToNat, Int.reduceNeg, Int.reduceAdd, Int.reduceSub, Int.reduceMul, Int.reduceDiv, Int.reduceMod, Int.reduceLT, Int.reduceLE, Int.reduceEq, ↓reduceIte]) | (refine And.intro (fun _ => unhold ?_) (fun _ => unhold ?_)) | (refine And.intro ?_ ?_; focus (first | omega | assumption | (repeat' (first | assumption | omega | refine And.intro ?_ ?_); done))) | omega)
  · rename_i h
    rw [List.eq_nil_of_length_eq_zero (l := l) (by omega)]
    obtain ⟨e1, e2, e3⟩ := bad_no bad_nil
    rw [e1, e2, e3]
    exact done_same ⟨rfl, rfl⟩
  · -- too short
    have hne : l ≠ [] := by intro e; subst e; simp at *
    cases hb : badP l with
    | true =>
      obtain ⟨e1, e2, e3⟩ := bad_no hb
      rw [e1, e2, e3]
      exact done_same ⟨rfl, rfl⟩
    | false =>
      obtain ⟨r, n, _, _, _, h4, h5⟩ := ref_class hne hb
      omega
  · have hne : l ≠ [] := by intro e; subst e; simp at *
    have hcl : badP l = false → ∃ r : Nat, decP l = (r, 4) ∧ isRune (r : Int) = true ∧ enc1 (r : Int) = l.take 4 ∧ (r : Int) = refW l 240 3 := fun hb => by
      obtain ⟨r, n, h1, h2, h3, h4, h5⟩ := ref_class hne hb
      obtain ⟨rfl, h6⟩ : n = 4 ∧ (r : Int) = refW l 240 3 := by omega
      exact ⟨r, h1, h2, h3, h6⟩
    refine vc_loopk L_ok mixed [1000003, 1000005, 1000007, 1000009] [0, 2, 3, 4, 5] (fun j : Nat => j ≤ 3) (fun j => [(7, .int .i64 (j + 1 : Nat)), (6, .int .i32 (refW l 240 j))]) (fun _ => H) (fun j => 3 - j) (by kernel_rfl) ?_ 0 (by omega) (by repeat (first | exact envLe_nil | (refine envLe_cons ?_ ?_; focus (first | exact Le.refl _ | exact Le.any _ | exact le_sh | exact le_nil | (refine le_tup ?_; repeat (first | exact LeAll.nil | (refine LeAll.cons ?_ ?_; focus (first | exact Le.refl _ | exact Le.any _ | exact le_sh | exact le_nil)))) | (refine le_agg ?_; repeat (first | exact LeAll.nil | (refine LeAll.cons ?_ ?_; focus (first | exact Le.refl _ | exact Le.any _ | exact le_sh | exact le_nil)))) | (refine le_eq ?_; simp -implicitDefEqProofs (disch := omega) only [get_cons, get_nil, if_true, if_false, ↓reduceIte, Nat.reduceEqDiff, eq_self, IntWalk.i64_in, IntWalk.i32_in, IntWalk.u8_in, IntWalk.u32_in, IntWalk.u64_in, reduceCtorEq]; try (first | rfl | (refine int_eq ?_; omega))))))) rfl
    intro j hj
    have hwb := refW_bound l (base := 240) (by omega) (j := j) (by omega) (by omega)
    have bj := (l.getD (j + 1) 0).toNat_lt
    have hrec : refW l 240 (j + 1) = refW l 240 j * 64 + (l.getD (j + 1) 0).toNat - 128 := rfl
    repeat' (first | refine unhold ?_ | (simp -dsimp -implicitDefEqProofs (disch := (first | assumption | omega | (simp only [List.length_map, List.length_append, List.length_cons, List.length_nil, List.length_replicate, List.length_drop, List.length_take]; omega))) only [go_sem, reduceCtorEq, Nat.reducePow, Int.reducePow, Nat.reduceDiv, Nat.reduceBEq, Nat.reduceEqDiff, Nat.reduceLT, Nat.reduceLeDiff, Nat.reduceAdd, Nat.reduceSub, Nat.reduceMul, Nat.reduceMod, Int.reduceToNat, Int.reduceNeg, Int.reduceAdd, Int.reduceSub, Int.reduceMul, Int.reduceDiv, Int.reduceMod, Int.reduceLT, Int.reduceLE, Int.reduceEq, ↓reduceIte]) | (refine acalls_same (Rune_c _ _) ?_) | (refine ⟨_, Rune_c _ _, ?_⟩) | (refine ⟨_, _, Rune_c _ _, ?_⟩) | (refine acalls_same (one_c _ _ (by assumption)) ?_) | (refine ⟨_, one_c _ _ (by assumption), ?_⟩) | (refine ⟨_, _, one_c _ _ (by assumption), ?_⟩) | (refine And.intro (fun _ => unhold ?_) (fun _ => unhold ?_)) | (refine And.intro ?_ ?_; focus (first | omega | assumption | (repeat' (first | assumption | omega | refine And.intro ?_ ?_); done))) | omega)
    · refine again (j + 1) ?_ ?_ rfl (by repeat (first | exact envLe_nil | (refine envLe_cons ?_ ?_; focus (first | exact Le.refl _ | exact Le.any _ | exact le_sh | exact le_nil | (refine le_tup ?_; repeat (first | exact LeAll.nil | (refine LeAll.cons ?_ ?_; focus (first | exact Le.refl _ | exact Le.any _ | exact le_sh | exact le_nil)))) | (refine le_agg ?_; repeat (first | exact LeAll.nil | (refine LeAll.cons ?_ ?_; focus (first | exact Le.refl _ | exact Le.any _ | exact le_sh | exact le_nil)))) | (refine le_eq ?_; simp -implicitDefEqProofs (disch := omega) only [get_cons, get_nil, if_true, if_false, ↓reduceIte, Nat.reduceEqDiff, eq_self, IntWalk.i64_in, IntWalk.i32_in, IntWalk.u8_in, IntWalk.u32_in, IntWalk.u64_in, reduceCtorEq]; try (first | rfl | (refine int_eq ?_; omega)))))))
      · omega
      · omega
    · obtain rfl : j = 3 := by omega
      rename_i hv
      (cases hb : badP l with
      | true => obtain ⟨e1, e2, e3⟩ := bad_no hb; rw [e1, e2, e3]; exact done_same ⟨rfl, rfl⟩
      | false => obtain ⟨r, h1, h2, h3, h4⟩ := hcl hb; exfalso; rw [← h4, h2] at hv; cases hv)
    · obtain rfl : j = 3 := by omega
      rename_i hv hs
      (cases hb : badP l with
      | true => obtain ⟨e1, e2, e3⟩ := bad_no hb; rw [e1, e2, e3]; exact done_same ⟨rfl, rfl⟩
      | false => obtain ⟨r, h1, h2, h3, h4⟩ := hcl hb; exfalso; rw [← h4, h3, List.length_take] at hs; omega)
    · obtain rfl : j = 3 := by omega
      rename_i hv hs
      refine vc_loopk L_ok mixed [1000003, 1000005, 1000007, 1000009] [0, 5, 6, 8] (fun i : Nat => i ≤ 4 ∧ (enc1 (refW l 240 3)).take i = l.take i) (fun i => [(9, .int .i64 i)]) (fun _ => H) (fun i => 4 - i) (by kernel_rfl) ?_ 0 ⟨by omega, by simp⟩ (by repeat (first | exact envLe_nil | (refine envLe_cons ?_ ?_; focus (first | exact Le.refl _ | exact Le.any _ | exact le_sh | exact le_nil | (refine le_tup ?_; repeat (first | exact LeAll.nil | (refine LeAll.cons ?_ ?_; focus (first | exact Le.refl _ | exact Le.any _ | exact le_sh | exact le_nil)))) | (refine le_agg ?_; repeat (first | exact LeAll.nil | (refine LeAll.cons ?_ ?_; focus (first | exact Le.refl _ | exact Le.any _ | exact le_sh | exact le_nil)))) | (refine le_eq ?_; simp -implicitDefEqProofs (disch := omega) only [get_cons, get_nil, if_true, if_false, ↓reduceIte, Nat.reduceEqDiff, eq_self, IntWalk.i64_in, IntWalk.i32_in, IntWalk.u8_in, IntWalk.u32_in, IntWalk.u64_in, reduceCtorEq]; try (first | rfl | (refine int_eq ?_; omega))))))) rfl
      intro i ⟨hi, hp⟩
      repeat' (first | refine unhold ?_ | (simp -dsimp -implicitDefEqProofs (disch := (first | assumption | omega | (simp only [List.length_map, List.length_append, List.length_cons, List.length_nil, List.length_replicate, List.length_drop, List.length_take]; omega))) only [go_sem, reduceCtorEq, Nat.reducePow, Int.reducePow, Nat.reduceDiv, Nat.reduceBEq, Nat.reduceEqDiff, Nat.reduceLT, Nat.reduceLeDiff, Nat.reduceAdd, Nat.reduceSub, Nat.reduceMul, Nat.reduceMod, Int.reduceToNat, Int.reduceNeg, Int.reduceAdd, Int.reduceSub, Int.reduceMul, Int.reduceDiv, Int.reduceMod, Int.reduceLT, Int.reduceLE, Int.reduceEq, ↓reduceIte]) | (refine And.intro (fun _ => unhold ?_) (fun _ => unhold ?_)) | (refine And.intro ?_ ?_; focus (first | omega | assumption | (repeat' (first | assumption | omega | refine And.intro ?_ ?_); done))) | omega)
      · rename_i hlt hd
        (cases hb : badP l with
      | true => obtain ⟨e1, e2, e3⟩ := bad_no hb; rw [e1, e2, e3]; exact done_same ⟨rfl, rfl⟩
      | false => obtain ⟨r, h1, h2, h3, h4⟩ := hcl hb; exfalso; refine hd ?_; rw [← h4, h3, take_get (by omega)])
      · rename_i hlt hd
        refine again (i + 1) ?_ ?_ rfl (by repeat (first | exact envLe_nil | (refine envLe_cons ?_ ?_; focus (first | exact Le.refl _ | exact Le.any _ | exact le_sh | exact le_nil | (refine le_tup ?_; repeat (first | exact LeAll.nil | (refine LeAll.cons ?_ ?_; focus (first | exact Le.refl _ | exact Le.any _ | exact le_sh | exact le_nil)))) | (refine le_agg ?_; repeat (first | exact LeAll.nil | (refine LeAll.cons ?_ ?_; focus (first | exact Le.refl _ | exact Le.any _ | exact le_sh | exact le_nil)))) | (refine le_eq ?_; simp -implicitDefEqProofs (disch := omega) only [get_cons, get_nil, if_true, if_false, ↓reduceIte, Nat.reduceEqDiff, eq_self, IntWalk.i64_in, IntWalk.i32_in, IntWalk.u8_in, IntWalk.u32_in, IntWalk.u64_in, reduceCtorEq]; try (first | rfl | (refine int_eq ?_; omega)))))))
        · omega
        · exact ⟨by omega, take_eq_snoc 0 (by omega) (by omega) hp (UInt8.toNat_inj.1 (by omega))⟩
      · rename_i hge
        obtain rfl : i = 4 := by omega
        rw [List.take_of_length_le (by omega)] at hp
        obtain ⟨e1, e2, e3⟩ := ref_ok hv (by omega) hp
        rw [e1, e2, e3]
        exact done_same ⟨rfl, rfl⟩
  · -- too short
    have hne : l ≠ [] := by intro e; subst e; simp at *
    cases hb : badP l with
    | true =>
      obtain ⟨e1, e2, e3⟩ := bad_no hb
      rw [e1, e2, e3]
      exact done_same ⟨rfl, rfl⟩
    | false =>
      obtain ⟨r, n, _, _, _, h4, h5⟩ := ref_class hne hb
      omega
  · have hne : l ≠ [] := by intro e; subst e; simp at *
    have hcl : badP l = false → ∃ r : Nat, decP l = (r, 3) ∧ isRune (r : Int) = true ∧ enc1 (r : Int) = l.take 3 ∧ (r : Int) = refW l 224 2 := fun hb => by
      obtain ⟨r, n, h1, h2, h3, h4, h5⟩ := ref_class hne hb
      obtain ⟨rfl, h6⟩ : n = 3 ∧ (r : Int) = refW l 224 2 := by omega
      exact ⟨r, h1, h2, h3, h6⟩
    refine vc_loopk L_ok mixed [1000003, 1000005, 1000007, 1000009] [0, 2, 3, 4, 5] (fun j : Nat => j ≤ 2) (fun j => [(7, .int .i64 (j + 1 : Nat)), (6, .int .i32 (refW l 224 j))]) (fun _ => H) (fun j => 2 - j) (by kernel_rfl) ?_ 0 (by omega) (by repeat (first | exact envLe_nil | (refine envLe_cons ?_ ?_; focus (first | exact Le.refl _ | exact Le.any _ | exact le_sh | exact le_nil | (refine le_tup ?_; repeat (first | exact LeAll.nil | (refine LeAll.cons ?_ ?_; focus (first | exact Le.refl _ | exact Le.any _ | exact le_sh | exact le_nil)))) | (refine le_agg ?_; repeat (first | exact LeAll.nil | (refine LeAll.cons ?_ ?_; focus (first | exact Le.refl _ | exact Le.any _ | exact le_sh | exact le_nil)))) | (refine le_eq ?_; simp -implicitDefEqProofs (disch := omega) only [get_cons, get_nil, if_true, if_false, ↓reduceIte, Nat.reduceEqDiff, eq_self, IntWalk.i64_in, IntWalk.i32_in, IntWalk.u8_in, IntWalk.u32_in, IntWalk.u64_in, reduceCtorEq]; try (first | rfl | (refine int_eq ?_; omega))))))) rfl
    intro j hj
    have hwb := refW_bound l (base := 224) (by omega) (j := j) (by omega) (by omega)
    have bj := (l.getD (j + 1) 0).toNat_lt
    have hrec : refW l 224 (j + 1) = refW l 224 j * 64 + (l.getD (j + 1) 0).toNat - 128 := rfl
    repeat' (first | refine unhold ?_ | (simp -dsimp -implicitDefEqProofs (disch := (first | assumption | omega | (simp only [List.length_map, List.length_append, List.length_cons, List.length_nil, List.length_replicate, List.length_drop, List.length_take]; omega))) only [go_sem, reduceCtorEq, Nat.reducePow, Int.reducePow, Nat.reduceDiv, Nat.reduceBEq, Nat.reduceEqDiff, Nat.reduceLT, Nat.reduceLeDiff, Nat.reduceAdd, Nat.reduceSub, Nat.reduceMul, Nat.reduceMod, Int.reduceToNat, Int.reduceNeg, Int.reduceAdd, Int.reduceSub, Int.reduceMul, Int.reduceDiv, Int.reduceMod, Int.reduceLT, Int.reduceLE, Int.reduceEq, ↓reduceIte]) | (refine acalls_same (Rune_c _ _) ?_) | (refine ⟨_, Rune_c _ _, ?_⟩) | (refine ⟨_, _, Rune_c _ _, ?_⟩) | (refine acalls_same (one_c _ _ (by assumption)) ?_) | (refine ⟨_, one_c _ _ (by assumption), ?_⟩) | (refine ⟨_, _, one_c _ _ (by assumption), ?_⟩) | (refine And.intro (fun _ => unhold ?_) (fun _ => unhold ?_)) | (refine And.intro ?_ ?_; focus (first | omega | assumption | (repeat' (first | assumption | omega | refine And.intro ?_ ?_); done))) | omega)
    · refine again (j + 1) ?_ ?_ rfl (by repeat (first | exact envLe_nil | (refine envLe_cons ?_ ?_; focus (first | exact Le.refl _ | exact Le.any _ | exact le_sh | exact le_nil | (refine le_tup ?_; repeat (first | exact LeAll.nil | (refine LeAll.cons ?_ ?_; focus (first | exact Le.refl _ | exact Le.any _ | exact le_sh | exact le_nil)))) | (refine le_agg ?_; repeat (first | exact LeAll.nil | (refine LeAll.cons ?_ ?_; focus (first | exact Le.refl _ | exact Le.any _ | exact le_sh | exact le_nil)))) | (refine le_eq ?_; simp -implicitDefEqProofs (disch := omega) only [get_cons, get_nil, if_true, if_false, ↓reduceIte, Nat.reduceEqDiff, eq_self, IntWalk.i64_in, IntWalk.i32_in, IntWalk.u8_in, IntWalk.u32_in, IntWalk.u64_in, reduceCtorEq]; try (first | rfl | (refine int_eq ?_; omega)))))))
      · omega
      · omega
    · obtain rfl : j = 2 := by omega
      rename_i hv
      (cases hb : badP l with
      | true => obtain ⟨e1, e2, e3⟩ := bad_no hb; rw [e1, e2, e3]; exact done_same ⟨rfl, rfl⟩
      | false => obtain ⟨r, h1, h2, h3, h4⟩ := hcl hb; exfalso; rw [← h4, h2] at hv; cases hv)
    · obtain rfl : j = 2 := by omega
      rename_i hv hs
      (cases hb : badP l with
      | true => obtain ⟨e1, e2, e3⟩ := bad_no hb; rw [e1, e2, e3]; exact done_same ⟨rfl, rfl⟩
      | false => obtain ⟨r, h1, h2, h3, h4⟩ := hcl hb; exfalso; rw [← h4, h3, List.length_take] at hs; omega)
    · obtain rfl : j = 2 := by omega
      rename_i hv hs
      refine vc_loopk L_ok mixed [1000003, 1000005, 1000007, 1000009] [0, 5, 6, 8] (fun i : Nat => i ≤ 3 ∧ (enc1 (refW l 224 2)).take i = l.take i) (fun i => [(9, .int .i64 i)]) (fun _ => H) (fun i => 3 - i) (by kernel_rfl) ?_ 0 ⟨by omega, by simp⟩ (by repeat (first | exact envLe_nil | (refine envLe_cons ?_ ?_; focus (first | exact Le.refl _ | exact Le.any _ | exact le_sh | exact le_nil | (refine le_tup ?_; repeat (first | exact LeAll.nil | (refine LeAll.cons ?_ ?_; focus (first | exact Le.refl _ | exact Le.any _ | exact le_sh | exact le_nil)))) | (refine le_agg ?_; repeat (first | exact LeAll.nil | (refine LeAll.cons ?_ ?_; focus (first | exact Le.refl _ | exact Le.any _ | exact le_sh | exact le_nil)))) | (refine le_eq ?_; simp -implicitDefEqProofs (disch := omega) only [get_cons, get_nil, if_true, if_false, ↓reduceIte, Nat.reduceEqDiff, eq_self, IntWalk.i64_in, IntWalk.i32_in, IntWalk.u8_in, IntWalk.u32_in, IntWalk.u64_in, reduceCtorEq]; try (first | rfl | (refine int_eq ?_; omega))))))) rfl
      intro i ⟨hi, hp⟩
      repeat' (first | refine unhold ?_ | (simp -dsimp -implicitDefEqProofs (disch := (first | assumption | omega | (simp only [List.length_map, List.length_append, List.length_cons, List.length_nil, List.length_replicate, List.length_drop, List.length_take]; omega))) only [go_sem, reduceCtorEq, Nat.reducePow, Int.reducePow, Nat.reduceDiv, Nat.reduceBEq, Nat.reduceEqDiff, Nat.reduceLT, Nat.reduceLeDiff, Nat.reduceAdd, Nat.reduceSub, Nat.reduceMul, Nat.reduceMod, Int.reduceToNat, Int.reduceNeg, Int.reduceAdd, Int.reduceSub, Int.reduceMul, Int.reduceDiv, Int.reduceMod, Int.reduceLT, Int.reduceLE, Int.reduceEq, ↓reduceIte]) | (refine And.intro (fun _ => unhold ?_) (fun _ => unhold ?_)) | (refine And.intro ?_ ?_; focus (first | omega | assumption | (repeat' (first | assumption | omega | refine And.intro ?_ ?_); done))) | omega)
      · rename_i hlt hd
        (cases hb : badP l with
      | true => obtain ⟨e1, e2, e3⟩ := bad_no hb; rw [e1, e2, e3]; exact done_same ⟨rfl, rfl⟩
      | false => obtain ⟨r, h1, h2, h3, h4⟩ := hcl hb; exfalso; refine hd ?_; rw [← h4, h3, take_get (by omega)])
      · rename_i hlt hd
        refine again (i + 1) ?_ ?_ rfl (by repeat (first | exact envLe_nil | (refine envLe_cons ?_ ?_; focus (first | exact Le.refl _ | exact Le.any _ | exact le_sh | exact le_nil | (refine le_tup ?_; repeat (first | exact LeAll.nil | (refine LeAll.cons ?_ ?_; focus (first | exact Le.refl _ | exact Le.any _ | exact le_sh | exact le_nil)))) | (refine le_agg ?_; repeat (first | exact LeAll.nil | (refine LeAll.cons ?_ ?_; focus (first | exact Le.refl _ | exact Le.any _ | exact le_sh | exact le_nil)))) | (refine le_eq ?_; simp -implicitDefEqProofs (disch := omega) only [get_cons, get_nil, if_true, if_false, ↓reduceIte, Nat.reduceEqDiff, eq_self, IntWalk.i64_in, IntWalk.i32_in, IntWalk.u8_in, IntWalk.u32_in, IntWalk.u64_in, reduceCtorEq]; try (first | rfl | (refine int_eq ?_; omega)))))))
        · omega
        · exact ⟨by omega, take_eq_snoc 0 (by omega) (by omega) hp (UInt8.toNat_inj.1 (by omega))⟩
      · rename_i hge
        obtain rfl : i = 3 := by omega
        rw [List.take_of_length_le (by omega)] at hp
        obtain ⟨e1, e2, e3⟩ := ref_ok hv (by omega) hp
        rw [e1, e2, e3]
        exact done_same ⟨rfl, rfl⟩
  · -- too short
    have hne : l ≠ [] := by intro e; subst e; simp at *
    cases hb : badP l with
    | true =>
      obtain ⟨e1, e2, e3⟩ := bad_no hb
      rw [e1, e2, e3]
      exact done_same ⟨rfl, rfl⟩
    | false =>
      obtain ⟨r, n, _, _, _, h4, h5⟩ := ref_class hne hb
      omega
  · have hne : l ≠ [] := by intro e; subst e; simp at *
    have hcl : badP l = false → ∃ r : Nat, decP l = (r, 2) ∧ isRune (r : Int) = true ∧ enc1 (r : Int) = l.take 2 ∧ (r : Int) = refW l 192 1 := fun hb => by
      obtain ⟨r, n, h1, h2, h3, h4, h5⟩ := ref_class hne hb
      obtain ⟨rfl, h6⟩ : n = 2 ∧ (r : Int) = refW l 192 1 := by omega
      exact ⟨r, h1, h2, h3, h6⟩
    refine vc_loopk L_ok mixed [1000003, 1000005, 1000007, 1000009] [0, 2, 3, 4, 5] (fun j : Nat => j ≤ 1) (fun j => [(7, .int .i64 (j + 1 : Nat)), (6, .int .i32 (refW l 192 j))]) (fun _ => H) (fun j => 1 - j) (by kernel_rfl) ?_ 0 (by omega) (by repeat (first | exact envLe_nil | (refine envLe_cons ?_ ?_; focus (first | exact Le.refl _ | exact Le.any _ | exact le_sh | exact le_nil | (refine le_tup ?_; repeat (first | exact LeAll.nil | (refine LeAll.cons ?_ ?_; focus (first | exact Le.refl _ | exact Le.any _ | exact le_sh | exact le_nil)))) | (refine le_agg ?_; repeat (first | exact LeAll.nil | (refine LeAll.cons ?_ ?_; focus (first | exact Le.refl _ | exact Le.any _ | exact le_sh | exact le_nil)))) | (refine le_eq ?_; simp -implicitDefEqProofs (disch := omega) only [get_cons, get_nil, if_true, if_false, ↓reduceIte, Nat.reduceEqDiff, eq_self, IntWalk.i64_in, IntWalk.i32_in, IntWalk.u8_in, IntWalk.u32_in, IntWalk.u64_in, reduceCtorEq]; try (first | rfl | (refine int_eq ?_; omega))))))) rfl
    intro j hj
    have hwb := refW_bound l (base := 192) (by omega) (j := j) (by omega) (by omega)
    have bj := (l.getD (j + 1) 0).toNat_lt
    have hrec : refW l 192 (j + 1) = refW l 192 j * 64 + (l.getD (j + 1) 0).toNat - 128 := rfl
    repeat' (first | refine unhold ?_ | (simp -dsimp -implicitDefEqProofs (disch := (first | assumption | omega | (simp only [List.length_map, List.length_append, List.length_cons, List.length_nil, List.length_replicate, List.length_drop, List.length_take]; omega))) only [go_sem, reduceCtorEq, Nat.reducePow, Int.reducePow, Nat.reduceDiv, Nat.reduceBEq, Nat.reduceEqDiff, Nat.reduceLT, Nat.reduceLeDiff, Nat.reduceAdd, Nat.reduceSub, Nat.reduceMul, Nat.reduceMod, Int.reduceToNat, Int.reduceNeg, Int.reduceAdd, Int.reduceSub, Int.reduceMul, Int.reduceDiv, Int.reduceMod, Int.reduceLT, Int.reduceLE, Int.reduceEq, ↓reduceIte]) | (refine acalls_same (Rune_c _ _) ?_) | (refine ⟨_, Rune_c _ _, ?_⟩) | (refine ⟨_, _, Rune_c _ _, ?_⟩) | (refine acalls_same (one_c _ _ (by assumption)) ?_) | (refine ⟨_, one_c _ _ (by assumption), ?_⟩) | (refine ⟨_, _, one_c _ _ (by assumption), ?_⟩) | (refine And.intro (fun _ => unhold ?_) (fun _ => unhold ?_)) | (refine And.intro ?_ ?_; focus (first | omega | assumption | (repeat' (first | assumption | omega | refine And.intro ?_ ?_); done))) | omega)
    · refine again (j + 1) ?_ ?_ rfl (by repeat (first | exact envLe_nil | (refine envLe_cons ?_ ?_; focus (first | exact Le.refl _ | exact Le.any _ | exact le_sh | exact le_nil | (refine le_tup ?_; repeat (first | exact LeAll.nil | (refine LeAll.cons ?_ ?_; focus (first | exact Le.refl _ | exact Le.any _ | exact le_sh | exact le_nil)))) | (refine le_agg ?_; repeat (first | exact LeAll.nil | (refine LeAll.cons ?_ ?_; focus (first | exact Le.refl _ | exact Le.any _ | exact le_sh | exact le_nil)))) | (refine le_eq ?_; simp -implicitDefEqProofs (disch := omega) only [get_cons, get_nil, if_true, if_false, ↓reduceIte, Nat.reduceEqDiff, eq_self, IntWalk.i64_in, IntWalk.i32_in, IntWalk.u8_in, IntWalk.u32_in, IntWalk.u64_in, reduceCtorEq]; try (first | rfl | (refine int_eq ?_; omega)))))))
      · omega
      · omega
    · obtain rfl : j = 1 := by omega
      rename_i hv
      (cases hb : badP l with
      | true => obtain ⟨e1, e2, e3⟩ := bad_no hb; rw [e1, e2, e3]; exact done_same ⟨rfl, rfl⟩
      | false => obtain ⟨r, h1, h2, h3, h4⟩ := hcl hb; exfalso; rw [← h4, h2] at hv; cases hv)
    · obtain rfl : j = 1 := by omega
      rename_i hv hs
      (cases hb : badP l with
      | true => obtain ⟨e1, e2, e3⟩ := bad_no hb; rw [e1, e2, e3]; exact done_same ⟨rfl, rfl⟩
      | false => obtain ⟨r, h1, h2, h3, h4⟩ := hcl hb; exfalso; rw [← h4, h3, List.length_take] at hs; omega)
    · obtain rfl : j = 1 := by omega
      rename_i hv hs
      refine vc_loopk L_ok mixed [1000003, 1000005, 1000007, 1000009] [0, 5, 6, 8] (fun i : Nat => i ≤ 2 ∧ (enc1 (refW l 192 1)).take i = l.take i) (fun i => [(9, .int .i64 i)]) (fun _ => H) (fun i => 2 - i) (by kernel_rfl) ?_ 0 ⟨by omega, by simp⟩ (by repeat (first | exact envLe_nil | (refine envLe_cons ?_ ?_; focus (first | exact Le.refl _ | exact Le.any _ | exact le_sh | exact le_nil | (refine le_tup ?_; repeat (first | exact LeAll.nil | (refine LeAll.cons ?_ ?_; focus (first | exact Le.refl _ | exact Le.any _ | exact le_sh | exact le_nil)))) | (refine le_agg ?_; repeat (first | exact LeAll.nil | (refine LeAll.cons ?_ ?_; focus (first | exact Le.refl _ | exact Le.any _ | exact le_sh | exact le_nil)))) | (refine le_eq ?_; simp -implicitDefEqProofs (disch := omega) only [get_cons, get_nil, if_true, if_false, ↓reduceIte, Nat.reduceEqDiff, eq_self, IntWalk.i64_in, IntWalk.i32_in, IntWalk.u8_in, IntWalk.u32_in, IntWalk.u64_in, reduceCtorEq]; try (first | rfl | (refine int_eq ?_; omega))))))) rfl
      intro i ⟨hi, hp⟩
      repeat' (first | refine unhold ?_ | (simp -dsimp -implicitDefEqProofs (disch := (first | assumption | omega | (simp only [List.length_map, List.length_append, List.length_cons, List.length_nil, List.length_replicate, List.length_drop, List.length_take]; omega))) only [go_sem, reduceCtorEq, Nat.reducePow, Int.reducePow, Nat.reduceDiv, Nat.reduceBEq, Nat.reduceEqDiff, Nat.reduceLT, Nat.reduceLeDiff, Nat.reduceAdd, Nat.reduceSub, Nat.reduceMul, Nat.reduceMod, Int.reduceToNat, Int.reduceNeg, Int.reduceAdd, Int.reduceSub, Int.reduceMul, Int.reduceDiv, Int.reduceMod, Int.reduceLT, Int.reduceLE, Int.reduceEq, ↓reduceIte]) | (refine And.intro (fun _ => unhold ?_) (fun _ => unhold ?_)) | (refine And.intro ?_ ?_; focus (first | omega | assumption | (repeat' (first | assumption | omega | refine And.intro ?_ ?_); done))) | omega)
      · rename_i hlt hd
        (cases hb : badP l with
      | true => obtain ⟨e1, e2, e3⟩ := bad_no hb; rw [e1, e2, e3]; exact done_same ⟨rfl, rfl⟩
      | false => obtain ⟨r, h1, h2, h3, h4⟩ := hcl hb; exfalso; refine hd ?_; rw [← h4, h3, take_get (by omega)])
      · rename_i hlt hd
        refine again (i + 1) ?_ ?_ rfl (by repeat (first | exact envLe_nil | (refine envLe_cons ?_ ?_; focus (first | exact Le.refl _ | exact Le.any _ | exact le_sh | exact le_nil | (refine le_tup ?_; repeat (first | exact LeAll.nil | (refine LeAll.cons ?_ ?_; focus (first | exact Le.refl _ | exact Le.any _ | exact le_sh | exact le_nil)))) | (refine le_agg ?_; repeat (first | exact LeAll.nil | (refine LeAll.cons ?_ ?_; focus (first | exact Le.refl _ | exact Le.any _ | exact le_sh | exact le_nil)))) | (refine le_eq ?_; simp -implicitDefEqProofs (disch := omega) only [get_cons, get_nil, if_true, if_false, ↓reduceIte, Nat.reduceEqDiff, eq_self, IntWalk.i64_in, IntWalk.i32_in, IntWalk.u8_in, IntWalk.u32_in, IntWalk.u64_in, reduceCtorEq]; try (first | rfl | (refine int_eq ?_; omega)))))))
        · omega
        · exact ⟨by omega, take_eq_snoc 0 (by omega) (by omega) hp (UInt8.toNat_inj.1 (by omega))⟩
      · rename_i hge
        obtain rfl : i = 2 := by omega
        rw [List.take_of_length_le (by omega)] at hp
        obtain ⟨e1, e2, e3⟩ := ref_ok hv (by omega) hp
        rw [e1, e2, e3]
        exact done_same ⟨rfl, rfl⟩
  · have hne : l ≠ [] := by intro e; subst e; simp at *
    have hcl : badP l = false → ∃ r : Nat, decP l = (r, 1) ∧ isRune (r : Int) = true ∧ enc1 (r : Int) = l.take 1 ∧ (r : Int) = refW l 0 0 := fun hb => by
      obtain ⟨r, n, h1, h2, h3, h4, h5⟩ := ref_class hne hb
      obtain ⟨rfl, h6⟩ : n = 1 ∧ (r : Int) = refW l 0 0 := by omega
      exact ⟨r, h1, h2, h3, h6⟩
    refine vc_loopk L_ok mixed [1000003, 1000005, 1000007, 1000009] [0, 2, 3, 4, 5] (fun j : Nat => j ≤ 0) (fun j => [(7, .int .i64 (j + 1 : Nat)), (6, .int .i32 (refW l 0 j))]) (fun _ => H) (fun j => 0 - j) (by kernel_rfl) ?_ 0 (by omega) (by repeat (first | exact envLe_nil | (refine envLe_cons ?_ ?_; focus (first | exact Le.refl _ | exact Le.any _ | exact le_sh | exact le_nil | (refine le_tup ?_; repeat (first | exact LeAll.nil | (refine LeAll.cons ?_ ?_; focus (first | exact Le.refl _ | exact Le.any _ | exact le_sh | exact le_nil)))) | (refine le_agg ?_; repeat (first | exact LeAll.nil | (refine LeAll.cons ?_ ?_; focus (first | exact Le.refl _ | exact Le.any _ | exact le_sh | exact le_nil)))) | (refine le_eq ?_; simp -implicitDefEqProofs (disch := omega) only [get_cons, get_nil, if_true, if_false, ↓reduceIte, Nat.reduceEqDiff, eq_self, IntWalk.i64_in, IntWalk.i32_in, IntWalk.u8_in, IntWalk.u32_in, IntWalk.u64_in, reduceCtorEq]; try (first | rfl | (refine int_eq ?_; omega))))))) rfl
    intro j hj
    have hwb := refW_bound l (base := 0) (by omega) (j := j) (by omega) (by omega)
    have bj := (l.getD (j + 1) 0).toNat_lt
    have hrec : refW l 0 (j + 1) = refW l 0 j * 64 + (l.getD (j + 1) 0).toNat - 128 := rfl
    repeat' (first | refine unhold ?_ | (simp -dsimp -implicitDefEqProofs (disch := (first | assumption | omega | (simp only [List.length_map, List.length_append, List.length_cons, List.length_nil, List.length_replicate, List.length_drop, List.length_take]; omega))) only [go_sem, reduceCtorEq, Nat.reducePow, Int.reducePow, Nat.reduceDiv, Nat.reduceBEq, Nat.reduceEqDiff, Nat.reduceLT, Nat.reduceLeDiff, Nat.reduceAdd, Nat.reduceSub, Nat.reduceMul, Nat.reduceMod, Int.reduceToNat, Int.reduceNeg, Int.reduceAdd, Int.reduceSub, Int.reduceMul, Int.reduceDiv, Int.reduceMod, Int.reduceLT, Int.reduceLE, Int.reduceEq, ↓reduceIte]) | (refine acalls_same (Rune_c _ _) ?_) | (refine ⟨_, Rune_c _ _, ?_⟩) | (refine ⟨_, _, Rune_c _ _, ?_⟩) | (refine acalls_same (one_c _ _ (by assumption)) ?_) | (refine ⟨_, one_c _ _ (by assumption), ?_⟩) | (refine ⟨_, _, one_c _ _ (by assumption), ?_⟩) | (refine And.intro (fun _ => unhold ?_) (fun _ => unhold ?_)) | (refine And.intro ?_ ?_; focus (first | omega | assumption | (repeat' (first | assumption | omega | refine And.intro ?_ ?_); done))) | omega)
    · obtain rfl : j = 0 := by omega
      rename_i hv
      (cases hb : badP l with
      | true => obtain ⟨e1, e2, e3⟩ := bad_no hb; rw [e1, e2, e3]; exact done_same ⟨rfl, rfl⟩
      | false => obtain ⟨r, h1, h2, h3, h4⟩ := hcl hb; exfalso; rw [← h4, h2] at hv; cases hv)
    · obtain rfl : j = 0 := by omega
      rename_i hv hs
      (cases hb : badP l with
      | true => obtain ⟨e1, e2, e3⟩ := bad_no hb; rw [e1, e2, e3]; exact done_same ⟨rfl, rfl⟩
      | false => obtain ⟨r, h1, h2, h3, h4⟩ := hcl hb; exfalso; rw [← h4, h3, List.length_take] at hs; omega)
    · obtain rfl : j = 0 := by omega
      rename_i hv hs
      refine vc_loopk L_ok mixed [1000003, 1000005, 1000007, 1000009] [0, 5, 6, 8] (fun i : Nat => i ≤ 1 ∧ (enc1 (refW l 0 0)).take i = l.take i) (fun i => [(9, .int .i64 i)]) (fun _ => H) (fun i => 1 - i) (by kernel_rfl) ?_ 0 ⟨by omega, by simp⟩ (by repeat (first | exact envLe_nil | (refine envLe_cons ?_ ?_; focus (first | exact Le.refl _ | exact Le.any _ | exact le_sh | exact le_nil | (refine le_tup ?_; repeat (first | exact LeAll.nil | (refine LeAll.cons ?_ ?_; focus (first | exact Le.refl _ | exact Le.any _ | exact le_sh | exact le_nil)))) | (refine le_agg ?_; repeat (first | exact LeAll.nil | (refine LeAll.cons ?_ ?_; focus (first | exact Le.refl _ | exact Le.any _ | exact le_sh | exact le_nil)))) | (refine le_eq ?_; simp -implicitDefEqProofs (disch := omega) only [get_cons, get_nil, if_true, if_false, ↓reduceIte, Nat.reduceEqDiff, eq_self, IntWalk.i64_in, IntWalk.i32_in, IntWalk.u8_in, IntWalk.u32_in, IntWalk.u64_in, reduceCtorEq]; try (first | rfl | (refine int_eq ?_; omega))))))) rfl
      intro i ⟨hi, hp⟩
      repeat' (first | refine unhold ?_ | (simp -dsimp -implicitDefEqProofs (disch := (first | assumption | omega | (simp only [List.length_map, List.length_append, List.length_cons, List.length_nil, List.length_replicate, List.length_drop, List.length_take]; omega))) only [go_sem, reduceCtorEq, Nat.reducePow, Int.reducePow, Nat.reduceDiv, Nat.reduceBEq, Nat.reduceEqDiff, Nat.reduceLT, Nat.reduceLeDiff, Nat.reduceAdd, Nat.reduceSub, Nat.reduceMul, Nat.reduceMod, Int.reduceToNat, Int.reduceNeg, Int.reduceAdd, Int.reduceSub, Int.reduceMul, Int.reduceDiv, Int.reduceMod, Int.reduceLT, Int.reduceLE, Int.reduceEq, ↓reduceIte]) | (refine And.intro (fun _ => unhold ?_) (fun _ => unhold ?_)) | (refine And.intro ?_ ?_; focus (first | omega | assumption | (repeat' (first | assumption | omega | refine And.intro ?_ ?_); done))) | omega)
      · rename_i hlt hd
        (cases hb : badP l with
      | true => obtain ⟨e1, e2, e3⟩ := bad_no hb; rw [e1, e2, e3]; exact done_same ⟨rfl, rfl⟩
      | false => obtain ⟨r, h1, h2, h3, h4⟩ := hcl hb; exfalso; refine hd ?_; rw [← h4, h3, take_get (by omega)])
      · rename_i hlt hd
        refine again (i + 1) ?_ ?_ rfl (by repeat (first | exact envLe_nil | (refine envLe_cons ?_ ?_; focus (first | exact Le.refl _ | exact Le.any _ | exact le_sh | exact le_nil | (refine le_tup ?_; repeat (first | exact LeAll.nil | (refine LeAll.cons ?_ ?_; focus (first | exact Le.refl _ | exact Le.any _ | exact le_sh | exact le_nil)))) | (refine le_agg ?_; repeat (first | exact LeAll.nil | (refine LeAll.cons ?_ ?_; focus (first | exact Le.refl _ | exact Le.any _ | exact le_sh | exact le_nil)))) | (refine le_eq ?_; simp -implicitDefEqProofs (disch := omega) only [get_cons, get_nil, if_true, if_false, ↓reduceIte, Nat.reduceEqDiff, eq_self, IntWalk.i64_in, IntWalk.i32_in, IntWalk.u8_in, IntWalk.u32_in, IntWalk.u64_in, reduceCtorEq]; try (first | rfl | (refine int_eq ?_; omega)))))))
        · omega
        · exact ⟨by omega, take_eq_snoc 0 (by omega) (by omega) hp (UInt8.toNat_inj.1 (by omega))⟩
      · rename_i hge
        obtain rfl : i = 1 := by omega
        rw [List.take_of_length_le (by omega)] at hp
        obtain ⟨e1, e2, e3⟩ := ref_ok hv (by omega) hp
        rw [e1, e2, e3]
        exact done_same ⟨rfl, rfl⟩
end Go.Proofs.YthaicajgfioogaaDoor
