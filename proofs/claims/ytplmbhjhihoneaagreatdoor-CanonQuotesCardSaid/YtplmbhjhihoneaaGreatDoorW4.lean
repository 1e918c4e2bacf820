/- Runes as bytes. -/
import Derived.Test.YtplmbhjhihoneaaGreatDoorW3
import Derived.Lib.ValidLaws
import Derived.Lib.MapLaws
import Derived.Lib.ValidAsc
import Derived.Lib.EndianMore
import Derived.Lib.TrimUEq
import Derived.Lib.Walk
import Derived.Lib.RuneCount
import Derived.Laws.RangeString
import Derived.Laws.RangeAny
import Derived.LoopTactic
section
set_option linter.unusedSimpArgs false
set_option linter.unusedVariables false
namespace Go.Proofs.YtplmbhjhihoneaaGreatDoor
open Go V
set_option maxRecDepth 10000
theorem take_snoc {l : List UInt8} {i : Nat} (h : i < l.length) : l.take (i + 1) = l.take i ++ [l.getD i 0] := by
  rw [List.take_add_one]
  simp [List.getD, List.getElem?_eq_getElem h]
end Go.Proofs.YtplmbhjhihoneaaGreatDoor
end

section
set_option linter.unusedSimpArgs false
set_option linter.unusedVariables false
namespace Go.Proofs.YtplmbhjhihoneaaGreatDoor
open Go V
set_option maxRecDepth 10000
set_option maxHeartbeats 4000000
def isRune (r : Int) : Bool := decide (0 ≤ r ∧ r ≤ 1114111 ∧ (r < 55296 ∨ 57343 < r))
def byteOf (i : Int) : UInt8 := UInt8.ofNat i.toNat
theorem byteOf_nat {i : Int} (h : 0 ≤ i ∧ i < 256) : ((byteOf i).toNat : Int) = i := by
  unfold byteOf
  have : (UInt8.ofNat i.toNat).toNat = i.toNat := by simp; omega
  omega
theorem lit_byte {a b : Int} (h : 0 ≤ b ∧ b < 256) (e : a = b) : AV.lit (.int .u8 a) = byteAV (byteOf b) := by
  subst e
  unfold byteAV
  rw [byteOf_nat h]
def enc1 (r : Int) : List UInt8 :=
  if r < 128 then [byteOf r]
  else if r < 2048 then [byteOf (192 + r / 64), byteOf (128 + r % 64)]
  else if r < 65536 then [byteOf (224 + r / 4096), byteOf (128 + r / 64 % 64), byteOf (128 + r % 64)]
  else [byteOf (240 + r / 262144), byteOf (128 + r / 4096 % 64), byteOf (128 + r / 64 % 64), byteOf (128 + r % 64)]
theorem enc1_len (r : Int) : (enc1 r).length ≤ 4 := by
  unfold enc1
  repeat' split
  all_goals simp
theorem list1 {a a' : AV} (h : a = a') : [a] = [a'] := by rw [h]
theorem list2 {a a' b b' : AV} (h : a = a') (h2 : b = b') : [a, b] = [a', b'] := by rw [h, h2]
theorem list3 {a a' b b' c c' : AV} (h : a = a') (h2 : b = b') (h3 : c = c') : [a, b, c] = [a', b', c'] := by rw [h, h2, h3]
theorem list4 {a a' b b' c c' d d' : AV} (h : a = a') (h2 : b = b') (h3 : c = c') (h4 : d = d') : [a, b, c, d] = [a', b', c', d'] := by rw [h, h2, h3, h4]
theorem one_c1 {r : Int} (h1 : r < 128) : enc1 r = [byteOf r] := if_pos h1
theorem one_c2 {r : Int} (h1 : 128 ≤ r) (h2 : r < 2048) : enc1 r = [byteOf (192 + r / 64), byteOf (128 + r % 64)] := by rw [enc1, if_neg (by omega), if_pos h2]
theorem one_c3 {r : Int} (h1 : 2048 ≤ r) (h2 : r < 65536) : enc1 r = [byteOf (224 + r / 4096), byteOf (128 + r / 64 % 64), byteOf (128 + r % 64)] := by rw [enc1, if_neg (by omega), if_neg (by omega), if_pos h2]
theorem one_c4 {r : Int} (h1 : 65536 ≤ r) : enc1 r = [byteOf (240 + r / 262144), byteOf (128 + r / 4096 % 64), byteOf (128 + r / 64 % 64), byteOf (128 + r % 64)] := by rw [enc1, if_neg (by omega), if_neg (by omega), if_neg (by omega)]
theorem sl_eq {o : Own} {s : Nat} {xs ys : List AV} (h : xs = ys) : AV.sl o s xs = AV.sl o s ys := by rw [h]
theorem Rune_c (r : Int) (H : List AObj) : ACalls Tryz.prog 124 [.lit (.int .i32 r)] H (fun x H' => x = .bool (isRune r) ∧ H' = H) := by
  refine acalls_vc L_ok mixed [] (rs := [.tmp 2]) (n := 17) Tryz.func124 rfl rfl rfl rfl (Nat.le_of_ble_eq_true rfl) (by kernel_rfl) ?_
  repeat' (first | refine unhold ?_ | (simp -dsimp -implicitDefEqProofs (disch := (first | assumption | omega | (simp only [ll1, ll2, ll3, ll4, ll5, ll6, ll7, ll8]; omega))) only [go_sem]) | refine vcI (fun _ => ?_) (fun _ => ?_) | (refine vcA ?_ ?_; focus (repeat' (first | omega | assumption | refine vcA ?_ ?_); done)) | omega | refine imp_in (fun _ => ?_))
  all_goals
    first
      | exact done_same ⟨bool_eq (decide_eq_true (by omega)).symm, rfl⟩
      | exact done_same ⟨bool_eq (decide_eq_false (by omega)).symm, rfl⟩
      | exact done_same ⟨bool_eq (decide_eq_decide.2 (by omega)), rfl⟩
theorem one_c (r : Int) (H : List AObj) (hr : isRune r = true) : ACalls Tryz.prog 125 [.lit (.int .i32 r)] H (fun x H' => x = .sl .full 1 ((enc1 r).map byteAV) ∧ H' = H) := by
  have hr' := of_decide_eq_true hr
  refine acalls_vc L_ok mixed [] (rs := [.tmp 2]) (n := 57) Tryz.func125 rfl rfl rfl rfl (Nat.le_of_ble_eq_true rfl) (by kernel_rfl) ?_
  repeat' (first | refine unhold ?_ | (simp -dsimp -implicitDefEqProofs (disch := (first | assumption | omega | (simp only [ll1, ll2, ll3, ll4, ll5, ll6, ll7, ll8]; omega))) only [go_sem, u8_wrap]) | refine vcI (fun _ => ?_) (fun _ => ?_) | (refine vcA ?_ ?_; focus (repeat' (first | omega | assumption | refine vcA ?_ ?_); done)) | omega | refine imp_in (fun _ => ?_))
  · exact done_same ⟨sl_eq (by rw [one_c1 (by omega)]; exact list1 (lit_byte (by omega) (by omega))), rfl⟩
  · exact done_same ⟨sl_eq (by rw [one_c2 (by omega) (by omega)]; exact list2 (lit_byte (by omega) (by omega)) (lit_byte (by omega) (by omega))), rfl⟩
  · exact done_same ⟨sl_eq (by rw [one_c3 (by omega) (by omega)]; exact list3 (lit_byte (by omega) (by omega)) (lit_byte (by omega) (by omega)) (lit_byte (by omega) (by omega))), rfl⟩
  · exact done_same ⟨sl_eq (by rw [one_c4 (by omega)]; exact list4 (lit_byte (by omega) (by omega)) (lit_byte (by omega) (by omega)) (lit_byte (by omega) (by omega)) (lit_byte (by omega) (by omega))), rfl⟩
theorem app_list {l : List UInt8} {r : Int} {xs : List AV} (h : xs = (enc1 r).map byteAV) : l.map byteAV ++ xs = (l ++ enc1 r).map byteAV := by rw [h, List.map_append]
theorem appendNA_c (l : List UInt8) (r : Int) (k : Nat) (H : List AObj) {t : Option TypeId} (hk : H[k]? = some (.grow 1 l.length t)) (ht : okTy t 5) (hr : isRune r = true) (h1 : 128 ≤ r) (hl : l.length ≤ 100000) :
    ACalls Tryz.prog 156 [.sl (.tok k) 1 (l.map byteAV), .lit (.int .i32 r)] H (fun x H' => x = .sl (.tok k) 1 ((l ++ enc1 r).map byteAV) ∧ H' = H.set k (.grow 1 (l.length + (enc1 r).length) t)) := by
  have hr' := of_decide_eq_true hr
  refine acalls_vc L_ok mixed [] (rs := [.tmp 4]) (n := 78) Tryz.func156 rfl rfl rfl rfl (Nat.le_of_ble_eq_true rfl) (by kernel_rfl) ?_
  repeat' (first | refine unhold ?_ | (simp -dsimp -implicitDefEqProofs (disch := (first | assumption | omega | (simp only [ll1, ll2, ll3, ll4, ll5, ll6, ll7, ll8]; omega))) only [go_sem, u8_wrap, ht, hk]) | refine vcI (fun _ => ?_) (fun _ => ?_) | (refine vcA ?_ ?_; focus (repeat' (first | omega | assumption | refine vcA ?_ ?_); done)) | omega | refine imp_in (fun _ => ?_))
  · refine done_keep _ (Le.refl _) (by simp) ⟨sl_eq (app_list ?_), by rw [one_c2 (by omega) (by omega)]; rfl⟩
    rw [one_c2 (by omega) (by omega)]; exact list2 (lit_byte (by omega) (by omega)) (lit_byte (by omega) (by omega))
  · refine done_keep _ (Le.refl _) (by simp) ⟨sl_eq (app_list ?_), by rw [one_c3 (by omega) (by omega)]; rfl⟩
    rw [one_c3 (by omega) (by omega)]; exact list3 (lit_byte (by omega) (by omega)) (lit_byte (by omega) (by omega)) (lit_byte (by omega) (by omega))
  · refine done_keep _ (Le.refl _) (by simp) ⟨sl_eq (app_list ?_), by rw [one_c3 (by omega) (by omega)]; rfl⟩
    rw [one_c3 (by omega) (by omega)]; exact list3 (lit_byte (by omega) (by omega)) (lit_byte (by omega) (by omega)) (lit_byte (by omega) (by omega))
  · refine done_keep _ (Le.refl _) (by simp) ⟨sl_eq (app_list ?_), by rw [one_c4 (by omega)]; rfl⟩
    rw [one_c4 (by omega)]; exact list4 (lit_byte (by omega) (by omega)) (lit_byte (by omega) (by omega)) (lit_byte (by omega) (by omega)) (lit_byte (by omega) (by omega))
theorem AppendRune_c (l : List UInt8) (r : Int) (k : Nat) (H : List AObj) {t : Option TypeId} (hk : H[k]? = some (.grow 1 l.length t)) (ht : okTy t 5) (hr : isRune r = true) (hl : l.length ≤ 100000) :
    ACalls Tryz.prog 136 [.sl (.tok k) 1 (l.map byteAV), .lit (.int .i32 r)] H (fun x H' => x = .sl (.tok k) 1 ((l ++ enc1 r).map byteAV) ∧ H' = H.set k (.grow 1 (l.length + (enc1 r).length) t)) := by
  have hr' := of_decide_eq_true hr
  refine acalls_vc L_ok mixed [] (rs := [.tmp 4]) (n := 16) Tryz.func136 rfl rfl rfl rfl (Nat.le_of_ble_eq_true rfl) (by kernel_rfl) ?_
  repeat' (first | refine unhold ?_ | (simp -dsimp -implicitDefEqProofs (disch := (first | assumption | omega | (simp only [ll1, ll2, ll3, ll4, ll5, ll6, ll7, ll8]; omega))) only [go_sem, u8_wrap, ht, hk]) | refine acalls_same (appendNA_c _ _ _ _ (by assumption) (by assumption) (by assumption) (by omega) (by omega)) ?_ | refine ⟨_, appendNA_c _ _ _ _ (by assumption) (by assumption) (by assumption) (by omega) (by omega), ?_⟩ | refine ⟨_, _, appendNA_c _ _ _ _ (by assumption) (by assumption) (by assumption) (by omega) (by omega), ?_⟩ | refine vcI (fun _ => ?_) (fun _ => ?_) | (refine vcA ?_ ?_; focus (repeat' (first | omega | assumption | refine vcA ?_ ?_); done)) | omega | refine imp_in (fun _ => ?_))
  · refine done_keep _ (Le.refl _) (by simp) ⟨sl_eq (app_list ?_), by rw [one_c1 (by omega)]; rfl⟩
    rw [one_c1 (by omega)]; exact list1 (lit_byte (by omega) (by omega))
  · exact done_keep _ (Le.refl _) (by simp) ⟨rfl, rfl⟩
def encL (l : List Int) : List UInt8 := l.flatMap enc1
theorem encL_len (l : List Int) : (encL l).length ≤ 4 * l.length := by
  induction l with
  | nil => simp [encL]
  | cons r l ih =>
    have := enc1_len r
    simp only [encL, List.flatMap_cons, List.length_append, List.length_cons] at ih ⊢
    omega
def encOk (l : List Int) : Bool := l.all isRune
def encR (l : List Int) : List UInt8 := if encOk l = true then encL l else []
def encE (l : List Int) : Int := if encOk l = true then 0 else 2
theorem encL_snoc {l : List Int} {i : Nat} (h : i < l.length) : encL (l.take (i + 1)) = encL (l.take i) ++ enc1 (l.getD i 0) := by
  rw [List.take_add_one]
  unfold encL
  rw [List.flatMap_append, List.getElem?_eq_getElem h, List.getD, List.getElem?_eq_getElem h]
  simp
theorem encOk_snoc {l : List Int} {i : Nat} (h : i < l.length) (h1 : encOk (l.take i) = true) (h2 : isRune (l.getD i 0) = true) : encOk (l.take (i + 1)) = true := by
  unfold encOk at *
  rw [List.take_add_one, List.all_append, h1]
  simpa [List.getD, List.getElem?_eq_getElem h] using h2
theorem encOk_no {l : List Int} {i : Nat} (h : i < l.length) (h2 : isRune (l.getD i 0) = false) : encOk l = false := by
  unfold encOk
  rw [List.all_eq_false]
  exact ⟨l[i], List.getElem_mem h, by simpa [List.getD, List.getElem?_eq_getElem h] using h2⟩
theorem encL_len' {l : List Int} {i : Nat} (h : i ≤ l.length) : (encL (l.take i)).length ≤ 4 * i := by
  have := encL_len (l.take i)
  rw [List.length_take] at this
  omega
theorem encRE_ok {l : List Int} (h : encOk l = true) : encR l = encL l ∧ encE l = 0 := by unfold encR encE; rw [if_pos h, if_pos h]; exact ⟨rfl, rfl⟩
theorem encRE_no {l : List Int} (h : encOk l = false) : encR l = [] ∧ encE l = 2 := by unfold encR encE; rw [h]; exact ⟨rfl, rfl⟩
theorem Encode_r {o : Own} (l : List Int) (H : List AObj) (hl : l.length ≤ 10000) : ACalls Tryz.prog 127 [.sl o 1 (l.map runeAV)] H (fun x H' => x = .tup [.sl .sh 1 ((encR l).map byteAV), .int .i64 (encE l)] ∧ H' = H) := by
  refine acalls_vc L_ok mixed [] (rs := [.tmp 2, .tmp 3]) (n := 26) Tryz.func127 rfl rfl rfl rfl (Nat.le_of_ble_eq_true rfl) (by kernel_rfl) ?_
  repeat' (first | refine unhold ?_ | (simp -dsimp -implicitDefEqProofs (disch := (first | assumption | omega | (simp only [ll1, ll2, ll3, ll4, ll5, ll6, ll7, ll8]; omega))) only [go_sem]) | refine vcI (fun _ => ?_) (fun _ => ?_) | (refine vcA ?_ ?_; focus (repeat' (first | omega | assumption | refine vcA ?_ ?_); done)) | omega | refine imp_in (fun _ => ?_))
  refine aw_mint 4 1 rfl (by decide) (fun h => absurd rfl h) ?_
  refine vc_loopk L_ok mixed [] [0] (fun i : Nat => i ≤ l.length ∧ encOk (l.take i) = true) (fun i => [(5, .int .i64 i), (4, .sl (.tok H.length) 1 ((encL (l.take i)).map byteAV))]) (fun i => H ++ [.grow 1 (encL (l.take i)).length none]) (fun i => l.length - i) (by kernel_rfl) ?_ 0 ⟨by omega, rfl⟩ env_ok rfl
  intro i ⟨hi, hp⟩
  have hlen := encL_len' hi
  repeat' (first | refine unhold ?_ | (simp -dsimp -implicitDefEqProofs (disch := (first | assumption | omega | (simp only [ll1, ll2, ll3, ll4, ll5, ll6, ll7, ll8]; omega))) only [go_sem]) | refine acalls_same (Rune_c _ _) ?_ | refine ⟨_, Rune_c _ _, ?_⟩ | refine ⟨_, _, Rune_c _ _, ?_⟩ | refine acalls_same (one_c _ _ (by assumption)) ?_ | refine ⟨_, one_c _ _ (by assumption), ?_⟩ | refine ⟨_, _, one_c _ _ (by assumption), ?_⟩ | refine vcI (fun _ => ?_) (fun _ => ?_) | (refine vcA ?_ ?_; focus (repeat' (first | omega | assumption | refine vcA ?_ ?_); done)) | omega | refine imp_in (fun _ => ?_))
  · rename_i h1 h2
    obtain ⟨e1, e2⟩ := encRE_no (encOk_no (by omega) h2)
    rw [e1, e2]
    refine done_cut (.tup [.sl .sh 1 [], .lit (.int .i64 2)]) (by (first | exact Le.refl _ | exact Le.any _ | exact le_sh | exact le_nil | (refine le_tup ?_; repeat (first | exact LeAll.nil | (refine LeAll.cons ?_ ?_; focus (first | exact Le.refl _ | exact Le.any _ | exact le_sh | exact le_nil)))) | (refine le_agg ?_; repeat (first | exact LeAll.nil | (refine LeAll.cons ?_ ?_; focus (first | exact Le.refl _ | exact Le.any _ | exact le_sh | exact le_nil)))) | (refine le_eq ?_; simp -implicitDefEqProofs (disch := omega) only [get_cons, get_nil, if_true, if_false, ↓reduceIte, Nat.reduceEqDiff, eq_self, IntWalk.i64_in, IntWalk.i32_in, IntWalk.u8_in, IntWalk.u32_in, IntWalk.u64_in, reduceCtorEq]; try (first | rfl | (refine int_eq ?_; omega))))) (by (first | (first | exact .lit _ | exact .str _ | exact .any | exact low_bytes | exact low_runes | exact .mp _ _ (by omega) | exact .msl _ _ _ _ (by omega) | exact low_nilsl (fun k e => by cases e) | exact low_jAV _ | exact low_jsl | exact low_ssl | exact low_fn0 | exact low_ipJ _) | (refine low_tup ?_; repeat (first | exact lowAll_nil | (refine lowAll_cons ?_ ?_; focus (first | exact .lit _ | exact .str _ | exact .any | exact low_bytes | exact low_runes | exact .mp _ _ (by omega) | exact .msl _ _ _ _ (by omega) | exact low_nilsl (fun k e => by cases e) | exact low_jAV _ | exact low_jsl | exact low_ssl | exact low_fn0 | exact low_ipJ _)))) | (refine low_agg ?_; repeat (first | exact lowAll_nil | (refine lowAll_cons ?_ ?_; focus (first | exact .lit _ | exact .str _ | exact .any | exact low_bytes | exact low_runes | exact .mp _ _ (by omega) | exact .msl _ _ _ _ (by omega) | exact low_nilsl (fun k e => by cases e) | exact low_jAV _ | exact low_jsl | exact low_ssl | exact low_fn0 | exact low_ipJ _)))))) ?_
    exact ⟨rfl, rfl⟩
  · have := enc1_len (l.getD i 0)
    omega
  · rename_i h1 h2
    rw [← List.length_append, ← encL_snoc (by omega)]
    refine again (i + 1) ?_ ?_ rfl env_ok
    · omega
    · exact ⟨by omega, encOk_snoc (by omega) hp h2⟩
  · rename_i h1
    rw [List.take_of_length_le (by omega)] at hp
    obtain ⟨e1, e2⟩ := encRE_ok hp
    rw [e1, e2]
    refine done_cut (.tup [.sl .sh 1 ((encL l).map byteAV), .lit (.int .i64 0)]) (by (first | exact Le.refl _ | exact Le.any _ | exact le_sh | exact le_nil | (refine le_tup ?_; repeat (first | exact LeAll.nil | (refine LeAll.cons ?_ ?_; focus (first | exact Le.refl _ | exact Le.any _ | exact le_sh | exact le_nil)))) | (refine le_agg ?_; repeat (first | exact LeAll.nil | (refine LeAll.cons ?_ ?_; focus (first | exact Le.refl _ | exact Le.any _ | exact le_sh | exact le_nil)))) | (refine le_eq ?_; simp -implicitDefEqProofs (disch := omega) only [get_cons, get_nil, if_true, if_false, ↓reduceIte, Nat.reduceEqDiff, eq_self, IntWalk.i64_in, IntWalk.i32_in, IntWalk.u8_in, IntWalk.u32_in, IntWalk.u64_in, reduceCtorEq]; try (first | rfl | (refine int_eq ?_; omega))))) (by (first | (first | exact .lit _ | exact .str _ | exact .any | exact low_bytes | exact low_runes | exact .mp _ _ (by omega) | exact .msl _ _ _ _ (by omega) | exact low_nilsl (fun k e => by cases e) | exact low_jAV _ | exact low_jsl | exact low_ssl | exact low_fn0 | exact low_ipJ _) | (refine low_tup ?_; repeat (first | exact lowAll_nil | (refine lowAll_cons ?_ ?_; focus (first | exact .lit _ | exact .str _ | exact .any | exact low_bytes | exact low_runes | exact .mp _ _ (by omega) | exact .msl _ _ _ _ (by omega) | exact low_nilsl (fun k e => by cases e) | exact low_jAV _ | exact low_jsl | exact low_ssl | exact low_fn0 | exact low_ipJ _)))) | (refine low_agg ?_; repeat (first | exact lowAll_nil | (refine lowAll_cons ?_ ?_; focus (first | exact .lit _ | exact .str _ | exact .any | exact low_bytes | exact low_runes | exact .mp _ _ (by omega) | exact .msl _ _ _ _ (by omega) | exact low_nilsl (fun k e => by cases e) | exact low_jAV _ | exact low_jsl | exact low_ssl | exact low_fn0 | exact low_ipJ _)))))) ?_
    exact ⟨rfl, rfl⟩
end Go.Proofs.YtplmbhjhihoneaaGreatDoor
end

section
set_option linter.unusedSimpArgs false
set_option linter.unusedVariables false
namespace Go.Proofs.YtplmbhjhihoneaaGreatDoor
open Go
/-- Runes, with fuel. -/
def runesGo : Nat → List UInt8 → List Int
  | 0, _ => []
  | n + 1, l => if l = [] then [] else ((Lib.decodeL l).1 : Int) :: runesGo n (l.drop (Lib.decodeL l).2)
/-- The runes of bytes. -/
def runesOf (l : List UInt8) : List Int := runesGo l.length l
theorem runesGo_fuel : ∀ (n m : Nat) (l : List UInt8), l.length ≤ n → l.length ≤ m → runesGo n l = runesGo m l
  | 0, 0, _, _, _ => rfl
  | 0, m + 1, l, h, _ => by
    have : l = [] := List.eq_nil_of_length_eq_zero (by omega)
    subst this
    simp [runesGo]
  | n + 1, 0, l, _, h => by
    have : l = [] := List.eq_nil_of_length_eq_zero (by omega)
    subst this
    simp [runesGo]
  | n + 1, m + 1, l, h1, h2 => by
    unfold runesGo
    by_cases e : l = []
    · rw [if_pos e, if_pos e]
    · rw [if_neg e, if_neg e]
      have hw := Lib.decodeL_width l
      have hp := List.length_pos_iff.2 e
      rw [runesGo_fuel n m _ (by rw [List.length_drop]; omega) (by rw [List.length_drop]; omega)]
theorem runesOf_step {l : List UInt8} (h : l ≠ []) : runesOf l = ((Lib.decodeL l).1 : Int) :: runesOf (l.drop (Lib.decodeL l).2) := by
  have hp := List.length_pos_iff.2 h
  have hw := Lib.decodeL_width l
  unfold runesOf
  obtain ⟨k, hk⟩ : ∃ k, l.length = k + 1 := ⟨l.length - 1, by omega⟩
  rw [hk, runesGo, if_neg h, runesGo_fuel k (l.drop (Lib.decodeL l).2).length _ (by rw [List.length_drop]; omega) (Nat.le_refl _)]
end Go.Proofs.YtplmbhjhihoneaaGreatDoor
end

section
set_option linter.unusedSimpArgs false
set_option linter.unusedVariables false
namespace Go.Proofs.YtplmbhjhihoneaaGreatDoor
open Go V
set_option maxRecDepth 10000
set_option maxHeartbeats 4000000
theorem le_step {xs ys : List UInt8} {b : UInt8} {k : Nat} {c : Int} (hy : xs ++ [b] = ys) (hc : c = 2 ^ k) (hx : 8 * xs.length = k) (hk : k ≤ 56) : IntKind.u64.wrap ((BitVec.ofInt IntKind.u64.bits ((Lib.leNat xs : Nat) : Int) ||| BitVec.ofInt IntKind.u64.bits (IntKind.u64.wrap ((b.toNat : Int) * c))).toNat : Int) = ((Lib.leNat ys : Nat) : Int) := by
  subst hy
  subst hc
  have hb := b.toNat_lt
  have hlt : Lib.leNat xs < 2 ^ k := by
    have := Lib.leNat_lt xs
    rwa [show (256 : Nat) = 2 ^ 8 from rfl, ← Nat.pow_mul, hx] at this
  have hp : (2 : Nat) ^ k ≤ 2 ^ 56 := Nat.pow_le_pow_right (by omega) hk
  have h1 : b.toNat * 2 ^ k < 2 ^ 64 := by
    have : b.toNat * 2 ^ k ≤ 255 * 2 ^ 56 := Nat.mul_le_mul (by omega) hp
    omega
  have h2 : (b.toNat : Int) * 2 ^ k = ((b.toNat * 2 ^ k : Nat) : Int) := by simp
  rw [h2, wrap_nat_u64 h1, or_u64 (by omega) h1, Lib.leNat_append, show (256 : Nat) = 2 ^ 8 from rfl, ← Nat.pow_mul, hx]
  congr 1
  have := Nat.two_pow_add_eq_or_of_lt hlt b.toNat
  rw [Nat.or_comm, Nat.mul_comm, ← this]
  simp [Lib.leNat]
  omega
theorem leNat_one (b : UInt8) : (b.toNat : Int) = ((Lib.leNat [b] : Nat) : Int) := by simp [Lib.leNat]
theorem take8' {l : List UInt8} (h : 8 ≤ l.length) : l.take 8 = [l.getD 0 0, l.getD 1 0, l.getD 2 0, l.getD 3 0, l.getD 4 0, l.getD 5 0, l.getD 6 0, l.getD 7 0] := by
  match l, h with
  | a0 :: a1 :: a2 :: a3 :: a4 :: a5 :: a6 :: a7 :: r, _ => simp
theorem word_c {o : Own} (l : List UInt8) (H : List AObj) (hl : 8 ≤ l.length) : ACalls Tryz.prog 98 [.sl o 1 (l.map byteAV)] H (fun x H' => x = .int .u64 (Lib.leNat (l.take 8)) ∧ H' = H) := by
  refine acalls_vc L_ok mixed [1000001, 1000002] (rs := [.tmp 2]) (n := 71) Tryz.func98 rfl rfl rfl rfl (Nat.le_of_ble_eq_true rfl) (by kernel_rfl) ?_
  repeat' (first | refine unhold ?_ | (simp -dsimp -implicitDefEqProofs (disch := (first | assumption | omega | (simp only [ll1, ll2, ll3, ll4, ll5, ll6, ll7, ll8]; omega))) only [go_sem]) | refine vcI (fun _ => ?_) (fun _ => ?_) | (refine vcA ?_ ?_; focus (repeat' (first | omega | assumption | refine vcA ?_ ?_); done)) | omega | refine imp_in (fun _ => ?_))
  refine done_same ⟨?_, rfl⟩
  rw [leNat_one (l.getD 0 0), le_step (xs := [l.getD 0 0]) (ys := [l.getD 0 0, l.getD 1 0]) (b := l.getD 1 0) (k := 8) (c := 256) rfl (by decide) rfl (by decide), le_step (xs := [l.getD 0 0, l.getD 1 0]) (ys := [l.getD 0 0, l.getD 1 0, l.getD 2 0]) (b := l.getD 2 0) (k := 16) (c := 65536) rfl (by decide) rfl (by decide), le_step (xs := [l.getD 0 0, l.getD 1 0, l.getD 2 0]) (ys := [l.getD 0 0, l.getD 1 0, l.getD 2 0, l.getD 3 0]) (b := l.getD 3 0) (k := 24) (c := 16777216) rfl (by decide) rfl (by decide), le_step (xs := [l.getD 0 0, l.getD 1 0, l.getD 2 0, l.getD 3 0]) (ys := [l.getD 0 0, l.getD 1 0, l.getD 2 0, l.getD 3 0, l.getD 4 0]) (b := l.getD 4 0) (k := 32) (c := 4294967296) rfl (by decide) rfl (by decide), le_step (xs := [l.getD 0 0, l.getD 1 0, l.getD 2 0, l.getD 3 0, l.getD 4 0]) (ys := [l.getD 0 0, l.getD 1 0, l.getD 2 0, l.getD 3 0, l.getD 4 0, l.getD 5 0]) (b := l.getD 5 0) (k := 40) (c := 1099511627776) rfl (by decide) rfl (by decide), le_step (xs := [l.getD 0 0, l.getD 1 0, l.getD 2 0, l.getD 3 0, l.getD 4 0, l.getD 5 0]) (ys := [l.getD 0 0, l.getD 1 0, l.getD 2 0, l.getD 3 0, l.getD 4 0, l.getD 5 0, l.getD 6 0]) (b := l.getD 6 0) (k := 48) (c := 281474976710656) rfl (by decide) rfl (by decide), le_step (xs := [l.getD 0 0, l.getD 1 0, l.getD 2 0, l.getD 3 0, l.getD 4 0, l.getD 5 0, l.getD 6 0]) (ys := [l.getD 0 0, l.getD 1 0, l.getD 2 0, l.getD 3 0, l.getD 4 0, l.getD 5 0, l.getD 6 0, l.getD 7 0]) (b := l.getD 7 0) (k := 56) (c := 72057594037927936) rfl (by decide) rfl (by decide), take8' hl]
theorem and7 {x : Nat} (h : x < 256) : IntKind.u8.wrap ((BitVec.ofInt IntKind.u8.bits (x : Int) &&& BitVec.ofInt IntKind.u8.bits 7).toNat : Int) = ((x % 8 : Nat) : Int) := by
  show IntKind.u8.wrap ((BitVec.ofInt 8 (x : Int) &&& BitVec.ofInt 8 ((7 : Nat) : Int)).toNat : Int) = _
  rw [bv_and (by omega) (by decide), show (7 : Nat) = 2 ^ 3 - 1 from rfl, Nat.and_two_pow_sub_one_eq_mod, wrap_nat_u8 (by omega)]
theorem firstT_lt (n : Nat) : Lib.firstT n < 256 := by unfold Lib.firstT; (repeat' split) <;> omega
theorem and7_first (n : Nat) : IntKind.u8.wrap ((BitVec.ofInt IntKind.u8.bits ((Lib.firstT n : Nat) : Int) &&& BitVec.ofInt IntKind.u8.bits 7).toNat : Int) = ((Lib.firstT n % 8 : Nat) : Int) := and7 (firstT_lt n)
theorem first_div (n : Nat) : (Lib.firstT n / 16 < 16) = True := eq_true (by have := firstT_lt n; omega)
theorem first_div' (n : Nat) : (((Lib.firstT n / 16 : Nat) : Int) < 16) = True := eq_true (by have := firstT_lt n; omega)
theorem accept_first (n : Nat) : (acceptAV.drop (Lib.firstT n / 16 * 2)).take 2 = [.lit (.int .u8 (Lib.accLo (Lib.firstT n / 16))), .lit (.int .u8 (Lib.accHi (Lib.firstT n / 16)))] := accept_at (by have := firstT_lt n; omega)
theorem lead_false {m : List UInt8} (h0 : 0 < (m.length : Int)) (h1 : 128 ≤ ((m.getD 0 0).toNat : Int)) (h : (Lib.firstT (m.getD 0 0).toNat % 8 = 2 ∧ (m.length < 2 ∨ (m.getD 1 0).toNat < Lib.accLo (Lib.firstT (m.getD 0 0).toNat / 16) ∨ Lib.accHi (Lib.firstT (m.getD 0 0).toNat / 16) < (m.getD 1 0).toNat)) ∨
    (Lib.firstT (m.getD 0 0).toNat % 8 = 3 ∧ (m.length < 3 ∨ (m.getD 1 0).toNat < Lib.accLo (Lib.firstT (m.getD 0 0).toNat / 16) ∨ Lib.accHi (Lib.firstT (m.getD 0 0).toNat / 16) < (m.getD 1 0).toNat ∨ (m.getD 2 0).toNat < 128 ∨ 191 < (m.getD 2 0).toNat)) ∨
    (Lib.firstT (m.getD 0 0).toNat % 8 = 4 ∧ (m.length < 4 ∨ (m.getD 1 0).toNat < Lib.accLo (Lib.firstT (m.getD 0 0).toNat / 16) ∨ Lib.accHi (Lib.firstT (m.getD 0 0).toNat / 16) < (m.getD 1 0).toNat ∨ (m.getD 2 0).toNat < 128 ∨ 191 < (m.getD 2 0).toNat ∨ (m.getD 3 0).toNat < 128 ∨ 191 < (m.getD 3 0).toNat)) ∨
    (Lib.firstT (m.getD 0 0).toNat % 8 ≠ 2 ∧ Lib.firstT (m.getD 0 0).toNat % 8 ≠ 3 ∧ Lib.firstT (m.getD 0 0).toNat % 8 ≠ 4)) : Lib.validD m = false := by
  rw [Lib.validD_lead m (List.length_pos_iff.1 (by omega)) (by omega), Lib.checkN]
  rcases h with ⟨h, h'⟩ | ⟨h, h'⟩ | ⟨h, h'⟩ | ⟨h, h', h''⟩
  · rw [if_pos h, if_pos h']
  · rw [if_neg (by omega), if_pos h, if_pos h']
  · rw [if_neg (by omega), if_neg (by omega), if_pos h, if_pos h']
  · rw [if_neg h, if_neg h', if_neg h'']
theorem lead_some {m : List UInt8} {k : Nat} (hk : k = Lib.firstT (m.getD 0 0).toNat % 8) (h0 : k ≤ m.length) (h1 : 128 ≤ ((m.getD 0 0).toNat : Int)) (h2 : Lib.accLo (Lib.firstT (m.getD 0 0).toNat / 16) ≤ (m.getD 1 0).toNat) (h3 : (m.getD 1 0).toNat ≤ Lib.accHi (Lib.firstT (m.getD 0 0).toNat / 16))
    (h : k = 2 ∨ (k = 3 ∧ 128 ≤ (m.getD 2 0).toNat ∧ (m.getD 2 0).toNat ≤ 191) ∨ (k = 4 ∧ 128 ≤ (m.getD 2 0).toNat ∧ (m.getD 2 0).toNat ≤ 191 ∧ 128 ≤ (m.getD 3 0).toNat ∧ (m.getD 3 0).toNat ≤ 191)) : Lib.validD (m.drop k) = Lib.validD m := by
  rw [Lib.validD_lead m (List.length_pos_iff.1 (by omega)) (by omega), Lib.checkN]
  rcases h with h | ⟨h, h'⟩ | ⟨h, h'⟩
  · rw [if_pos (by omega), if_neg (by omega), h]
  · rw [if_neg (by omega), if_pos (by omega), if_neg (by omega), h]
  · rw [if_neg (by omega), if_neg (by omega), if_pos (by omega), if_neg (by omega), h]
theorem skip {m : List UInt8} {n k : Nat} (h : ∀ b ∈ (m.drop n).take k, b.toNat < 128) {x : Bool} (hx : Lib.validD (m.drop n) = x) : Lib.validD (m.drop (n + k)) = x := by
  rw [← hx, Lib.validD_ascii k _ h, List.drop_drop]
theorem skip1 {m : List UInt8} (h0 : 0 < (m.length : Int)) (h : ((m.getD 0 0).toNat : Int) < 128) {x : Bool} (hx : Lib.validD m = x) : Lib.validD (m.drop 1) = x := by
  refine skip (n := 0) (k := 1) ?_ hx
  match m, h0, h with
  | a :: r, _, h =>
    intro b hb
    simp at hb
    subst hb
    simp at h
    omega
theorem lt8 (w : List UInt8) : Lib.leNat (w.take 8) < 2 ^ 64 := by
  have h1 := Lib.leNat_lt (w.take 8)
  have h2 : (w.take 8).length ≤ 8 := List.length_take_le ..
  exact Nat.lt_of_lt_of_le h1 (show 256 ^ (w.take 8).length ≤ 256 ^ 8 from Nat.pow_le_pow_right (by omega) h2)
theorem mask_zero {x : Nat} (hx : x < 2 ^ 64) (h : IntKind.u64.wrap ((BitVec.ofInt IntKind.u64.bits (x : Int) &&& BitVec.ofInt IntKind.u64.bits 9259542123273814144).toNat : Int) = 0) : x &&& Lib.maskN 8 = 0 := by
  have e : (9259542123273814144 : Int) = ((9259542123273814144 : Nat) : Int) := rfl
  rw [e, and_u64 hx (by decide)] at h
  rw [Lib.maskN8]
  omega
theorem asc_of {w : List UInt8} (hw : 8 ≤ w.length) (h : Lib.leNat (w.take 8) &&& Lib.maskN 8 = 0) : ∀ b ∈ w.take 8, b.toNat < 128 := by
  refine (Lib.leNat_mask (w.take 8)).1 ?_
  rwa [show (w.take 8).length = 8 by rw [List.length_take]; omega]
theorem asc1 {w : List UInt8} (hw : 8 ≤ w.length) (h : IntKind.u64.wrap ((BitVec.ofInt IntKind.u64.bits ((Lib.leNat (w.take 8) : Nat) : Int) &&& BitVec.ofInt IntKind.u64.bits 9259542123273814144).toNat : Int) = 0) : ∀ b ∈ w.take 8, b.toNat < 128 :=
  asc_of hw (mask_zero (lt8 w) h)
theorem asc2 {w v : List UInt8} (hw : 8 ≤ w.length) (hv : 8 ≤ v.length) (h : IntKind.u64.wrap ((BitVec.ofInt IntKind.u64.bits (IntKind.u64.wrap ((BitVec.ofInt IntKind.u64.bits ((Lib.leNat (w.take 8) : Nat) : Int) ||| BitVec.ofInt IntKind.u64.bits ((Lib.leNat (v.take 8) : Nat) : Int)).toNat : Int)) &&& BitVec.ofInt IntKind.u64.bits 9259542123273814144).toNat : Int) = 0) :
    (∀ b ∈ w.take 8, b.toNat < 128) ∧ (∀ b ∈ v.take 8, b.toNat < 128) := by
  rw [or_u64 (lt8 w) (lt8 v)] at h
  have := mask_zero (Nat.or_lt_two_pow (lt8 w) (lt8 v)) h
  rw [Lib.or_mask] at this
  exact ⟨asc_of hw this.1, asc_of hv this.2⟩
theorem asc4 {w v u t : List UInt8} (hw : 8 ≤ w.length) (hv : 8 ≤ v.length) (hu : 8 ≤ u.length) (ht : 8 ≤ t.length) (h : IntKind.u64.wrap ((BitVec.ofInt IntKind.u64.bits (IntKind.u64.wrap ((BitVec.ofInt IntKind.u64.bits (IntKind.u64.wrap ((BitVec.ofInt IntKind.u64.bits ((Lib.leNat (w.take 8) : Nat) : Int) ||| BitVec.ofInt IntKind.u64.bits ((Lib.leNat (v.take 8) : Nat) : Int)).toNat : Int)) ||| BitVec.ofInt IntKind.u64.bits (IntKind.u64.wrap ((BitVec.ofInt IntKind.u64.bits ((Lib.leNat (u.take 8) : Nat) : Int) ||| BitVec.ofInt IntKind.u64.bits ((Lib.leNat (t.take 8) : Nat) : Int)).toNat : Int))).toNat : Int)) &&& BitVec.ofInt IntKind.u64.bits 9259542123273814144).toNat : Int) = 0) :
    (∀ b ∈ w.take 8, b.toNat < 128) ∧ (∀ b ∈ v.take 8, b.toNat < 128) ∧ (∀ b ∈ u.take 8, b.toNat < 128) ∧ (∀ b ∈ t.take 8, b.toNat < 128) := by
  have l1 := Nat.or_lt_two_pow (lt8 w) (lt8 v)
  have l2 := Nat.or_lt_two_pow (lt8 u) (lt8 t)
  rw [or_u64 (lt8 w) (lt8 v), or_u64 (lt8 u) (lt8 t), or_u64 l1 l2] at h
  have := mask_zero (Nat.or_lt_two_pow l1 l2) h
  rw [Lib.or_mask, Lib.or_mask, Lib.or_mask] at this
  exact ⟨asc_of hw this.1.1, asc_of hv this.1.2, asc_of hu this.2.1, asc_of ht this.2.2⟩
theorem Valid_c {o : Own} (l : List UInt8) (H : List AObj) (hl : l.length ≤ 10000) : ACalls Tryz.prog 71 [.sl o 1 (l.map byteAV)] H (fun x H' => x = .bool (Lib.validD l) ∧ H' = H) := by
  refine acalls_vc L_ok mixed [1000008, 1000010, 1000018, 1000022, 1000026] (rs := [.tmp 2]) (n := 188) Tryz.func71 rfl rfl rfl rfl (Nat.le_of_ble_eq_true rfl) (by kernel_rfl) ?_
  repeat' (first | refine unhold ?_ | (simp -dsimp -implicitDefEqProofs (disch := (first | assumption | omega | (simp only [ll1, ll2, ll3, ll4, ll5, ll6, ll7, ll8]; omega))) only [go_sem]) | refine vcI (fun _ => ?_) (fun _ => ?_) | (refine vcA ?_ ?_; focus (repeat' (first | omega | assumption | refine vcA ?_ ?_); done)) | omega | refine imp_in (fun _ => ?_))
  refine vc_loop L_ok mixed [] (fun m : List UInt8 => m.length ≤ l.length ∧ Lib.validD m = Lib.validD l) (fun m => [(0, .sl .sh 1 (m.map byteAV))]) (fun _ => H) (fun m => m.length) (by kernel_rfl) ?_ l ⟨Nat.le_refl _, rfl⟩ env_ok rfl
  intro m ⟨hm, hv⟩
  have hF := firstT_lt (m.getD 0 0).toNat
  repeat' (first | refine unhold ?_ | (simp -dsimp -implicitDefEqProofs (disch := (first | assumption | omega | (simp only [ll1, ll2, ll3, ll4, ll5, ll6, ll7, ll8]; omega))) only [go_sem, and7_first, first_div, first_div', accept_first]) | refine acalls_same (word_c _ _ ?_) ?_ | refine ⟨_, word_c _ _ ?_, ?_⟩ | refine ⟨_, _, word_c _ _ ?_, ?_⟩ | refine vcI (fun _ => ?_) (fun _ => ?_) | (refine vcA ?_ ?_; focus (repeat' (first | omega | assumption | refine vcA ?_ ?_); done)) | omega | refine imp_in (fun _ => ?_))
  · rename_i h1 h2 h3 h4 h5 h6
    have v1 := skip1 h1 h2 hv
    have v9 := skip (asc1 (by rw [List.length_drop]; omega) h4) v1
    have a2 := asc2 (w := m.drop 9) (v := m.drop 17) (by rw [List.length_drop]; omega) (by rw [List.length_drop]; omega) h6
    have v17 := skip a2.1 v9
    have v25 := skip a2.2 v17
    refine vc_loop L_ok mixed [] (fun q : List UInt8 => q.length < m.length ∧ Lib.validD q = Lib.validD l) (fun q => [(0, .sl .sh 1 (q.map byteAV))]) (fun _ => H) (fun q => q.length) (by kernel_rfl) ?_ (m.drop 25) ⟨by rw [List.length_drop]; omega, v25⟩ env_ok rfl
    intro q ⟨hq, hvq⟩
    repeat' (first | refine unhold ?_ | (simp -dsimp -implicitDefEqProofs (disch := (first | assumption | omega | (simp only [ll1, ll2, ll3, ll4, ll5, ll6, ll7, ll8]; omega))) only [go_sem]) | refine acalls_same (word_c _ _ ?_) ?_ | refine ⟨_, word_c _ _ ?_, ?_⟩ | refine ⟨_, _, word_c _ _ ?_, ?_⟩ | refine vcI (fun _ => ?_) (fun _ => ?_) | (refine vcA ?_ ?_; focus (repeat' (first | omega | assumption | refine vcA ?_ ?_); done)) | omega | refine imp_in (fun _ => ?_))
    · rename_i k1 k2
      have a4 := asc4 (w := q) (v := q.drop 8) (u := q.drop 16) (t := q.drop 24) (by omega) (by rw [List.length_drop]; omega) (by rw [List.length_drop]; omega) (by rw [List.length_drop]; omega) k2
      refine again (q.drop 32) ?_ ?_ rfl env_ok
      · simp only [List.length_drop]; omega
      · exact ⟨by simp only [List.length_drop]; omega, skip (n := 24) a4.2.2.2 (skip (n := 16) a4.2.2.1 (skip (n := 8) a4.2.1 (skip (n := 0) a4.1 hvq)))⟩
    · refine again (q) ?_ ?_ rfl env_ok
      · omega
      · exact ⟨by omega, hvq⟩
    · refine again (q) ?_ ?_ rfl env_ok
      · omega
      · exact ⟨by omega, hvq⟩
  · rename_i h1 h2 h3 h4 h5 h6
    have v1 := skip1 h1 h2 hv
    refine again (m.drop 9) ?_ ?_ rfl env_ok
    · simp only [List.length_drop]; omega
    · exact ⟨by simp only [List.length_drop]; omega, skip (asc1 (by rw [List.length_drop]; omega) h4) v1⟩
  · rename_i h1 h2 h3 h4 h5
    have v1 := skip1 h1 h2 hv
    refine again (m.drop 9) ?_ ?_ rfl env_ok
    · simp only [List.length_drop]; omega
    · exact ⟨by simp only [List.length_drop]; omega, skip (asc1 (by rw [List.length_drop]; omega) h4) v1⟩
  · rename_i h1 h2 h3 h4
    refine again (m.drop 1) ?_ ?_ rfl env_ok
    · simp only [List.length_drop]; omega
    · exact ⟨by simp only [List.length_drop]; omega, skip1 h1 h2 hv⟩
  · rename_i h1 h2 h3
    refine again (m.drop 1) ?_ ?_ rfl env_ok
    · simp only [List.length_drop]; omega
    · exact ⟨by simp only [List.length_drop]; omega, skip1 h1 h2 hv⟩
  · exact done_drop (.lit _) ⟨bool_eq (by rw [← hv, lead_false (by omega) (by omega) (by omega)]), rfl⟩
  · exact done_drop (.lit _) ⟨bool_eq (by rw [← hv, lead_false (by omega) (by omega) (by omega)]), rfl⟩
  · exact done_drop (.lit _) ⟨bool_eq (by rw [← hv, lead_false (by omega) (by omega) (by omega)]), rfl⟩
  · refine again_cut (m.drop 2) ?_ ?_ (by repeat (first | exact envLow_nil | (refine envLow_cons ?_ ?_; focus (first | (first | exact .lit _ | exact .str _ | exact .any | exact low_bytes | exact low_runes | exact .mp _ _ (by omega) | exact .msl _ _ _ _ (by omega) | exact low_nilsl (fun k e => by cases e) | exact low_jAV _ | exact low_jsl | exact low_ssl | exact low_fn0 | exact low_ipJ _) | (refine low_tup ?_; repeat (first | exact lowAll_nil | (refine lowAll_cons ?_ ?_; focus (first | exact .lit _ | exact .str _ | exact .any | exact low_bytes | exact low_runes | exact .mp _ _ (by omega) | exact .msl _ _ _ _ (by omega) | exact low_nilsl (fun k e => by cases e) | exact low_jAV _ | exact low_jsl | exact low_ssl | exact low_fn0 | exact low_ipJ _)))) | (refine low_agg ?_; repeat (first | exact lowAll_nil | (refine lowAll_cons ?_ ?_; focus (first | exact .lit _ | exact .str _ | exact .any | exact low_bytes | exact low_runes | exact .mp _ _ (by omega) | exact .msl _ _ _ _ (by omega) | exact low_nilsl (fun k e => by cases e) | exact low_jAV _ | exact low_jsl | exact low_ssl | exact low_fn0 | exact low_ipJ _)))))))) env_ok
    · simp only [List.length_drop]; omega
    · exact ⟨by simp only [List.length_drop]; omega, (lead_some (by omega) (by omega) (by omega) (by omega) (by omega) (by omega)).trans hv⟩
  · exact done_drop (.lit _) ⟨bool_eq (by rw [← hv, lead_false (by omega) (by omega) (by omega)]), rfl⟩
  · exact done_drop (.lit _) ⟨bool_eq (by rw [← hv, lead_false (by omega) (by omega) (by omega)]), rfl⟩
  · exact done_drop (.lit _) ⟨bool_eq (by rw [← hv, lead_false (by omega) (by omega) (by omega)]), rfl⟩
  · exact done_drop (.lit _) ⟨bool_eq (by rw [← hv, lead_false (by omega) (by omega) (by omega)]), rfl⟩
  · exact done_drop (.lit _) ⟨bool_eq (by rw [← hv, lead_false (by omega) (by omega) (by omega)]), rfl⟩
  · refine again_cut (m.drop 3) ?_ ?_ (by repeat (first | exact envLow_nil | (refine envLow_cons ?_ ?_; focus (first | (first | exact .lit _ | exact .str _ | exact .any | exact low_bytes | exact low_runes | exact .mp _ _ (by omega) | exact .msl _ _ _ _ (by omega) | exact low_nilsl (fun k e => by cases e) | exact low_jAV _ | exact low_jsl | exact low_ssl | exact low_fn0 | exact low_ipJ _) | (refine low_tup ?_; repeat (first | exact lowAll_nil | (refine lowAll_cons ?_ ?_; focus (first | exact .lit _ | exact .str _ | exact .any | exact low_bytes | exact low_runes | exact .mp _ _ (by omega) | exact .msl _ _ _ _ (by omega) | exact low_nilsl (fun k e => by cases e) | exact low_jAV _ | exact low_jsl | exact low_ssl | exact low_fn0 | exact low_ipJ _)))) | (refine low_agg ?_; repeat (first | exact lowAll_nil | (refine lowAll_cons ?_ ?_; focus (first | exact .lit _ | exact .str _ | exact .any | exact low_bytes | exact low_runes | exact .mp _ _ (by omega) | exact .msl _ _ _ _ (by omega) | exact low_nilsl (fun k e => by cases e) | exact low_jAV _ | exact low_jsl | exact low_ssl | exact low_fn0 | exact low_ipJ _)))))))) env_ok
    · simp only [List.length_drop]; omega
    · exact ⟨by simp only [List.length_drop]; omega, (lead_some (by omega) (by omega) (by omega) (by omega) (by omega) (by omega)).trans hv⟩
  · exact done_drop (.lit _) ⟨bool_eq (by rw [← hv, lead_false (by omega) (by omega) (by omega)]), rfl⟩
  · exact done_drop (.lit _) ⟨bool_eq (by rw [← hv, lead_false (by omega) (by omega) (by omega)]), rfl⟩
  · exact done_drop (.lit _) ⟨bool_eq (by rw [← hv, lead_false (by omega) (by omega) (by omega)]), rfl⟩
  · exact done_drop (.lit _) ⟨bool_eq (by rw [← hv, lead_false (by omega) (by omega) (by omega)]), rfl⟩
  · exact done_drop (.lit _) ⟨bool_eq (by rw [← hv, lead_false (by omega) (by omega) (by omega)]), rfl⟩
  · exact done_drop (.lit _) ⟨bool_eq (by rw [← hv, lead_false (by omega) (by omega) (by omega)]), rfl⟩
  · exact done_drop (.lit _) ⟨bool_eq (by rw [← hv, lead_false (by omega) (by omega) (by omega)]), rfl⟩
  · refine again_cut (m.drop 4) ?_ ?_ (by repeat (first | exact envLow_nil | (refine envLow_cons ?_ ?_; focus (first | (first | exact .lit _ | exact .str _ | exact .any | exact low_bytes | exact low_runes | exact .mp _ _ (by omega) | exact .msl _ _ _ _ (by omega) | exact low_nilsl (fun k e => by cases e) | exact low_jAV _ | exact low_jsl | exact low_ssl | exact low_fn0 | exact low_ipJ _) | (refine low_tup ?_; repeat (first | exact lowAll_nil | (refine lowAll_cons ?_ ?_; focus (first | exact .lit _ | exact .str _ | exact .any | exact low_bytes | exact low_runes | exact .mp _ _ (by omega) | exact .msl _ _ _ _ (by omega) | exact low_nilsl (fun k e => by cases e) | exact low_jAV _ | exact low_jsl | exact low_ssl | exact low_fn0 | exact low_ipJ _)))) | (refine low_agg ?_; repeat (first | exact lowAll_nil | (refine lowAll_cons ?_ ?_; focus (first | exact .lit _ | exact .str _ | exact .any | exact low_bytes | exact low_runes | exact .mp _ _ (by omega) | exact .msl _ _ _ _ (by omega) | exact low_nilsl (fun k e => by cases e) | exact low_jAV _ | exact low_jsl | exact low_ssl | exact low_fn0 | exact low_ipJ _)))))))) env_ok
    · simp only [List.length_drop]; omega
    · exact ⟨by simp only [List.length_drop]; omega, (lead_some (by omega) (by omega) (by omega) (by omega) (by omega) (by omega)).trans hv⟩
  · exact done_drop (.lit _) ⟨bool_eq (by rw [← hv, lead_false (by omega) (by omega) (by omega)]), rfl⟩
  · have : m = [] := List.eq_nil_of_length_eq_zero (by omega)
    subst this
    exact done_same ⟨bool_eq hv, rfl⟩
end Go.Proofs.YtplmbhjhihoneaaGreatDoor
end

section
set_option linter.unusedSimpArgs false
set_option linter.unusedVariables false
namespace Go.Proofs.YtplmbhjhihoneaaGreatDoor
open Go V
set_option maxRecDepth 10000
set_option maxHeartbeats 4000000
theorem Right_c {o : Own} (l : List UInt8) (H : List AObj) (hl : l.length ≤ 10000) : ACalls Tryz.prog 48 [.sl o 1 (l.map byteAV)] H (fun x H' => x = .bool (Lib.validD l) ∧ H' = H) := by
  refine acalls_vc L_ok mixed [] (rs := [.tmp 2]) (n := 5) Tryz.func48 rfl rfl rfl rfl (Nat.le_of_ble_eq_true rfl) (by kernel_rfl) ?_
  repeat' (first | refine unhold ?_ | (simp -dsimp -implicitDefEqProofs (disch := (first | assumption | omega | (simp only [ll1, ll2, ll3, ll4, ll5, ll6, ll7, ll8]; omega))) only [go_sem]) | refine acalls_same (Valid_c _ _ ?_) ?_ | refine ⟨_, Valid_c _ _ ?_, ?_⟩ | refine ⟨_, _, Valid_c _ _ ?_, ?_⟩ | refine vcI (fun _ => ?_) (fun _ => ?_) | (refine vcA ?_ ?_; focus (repeat' (first | omega | assumption | refine vcA ?_ ?_); done)) | omega | refine imp_in (fun _ => ?_))
  exact done_same ⟨rfl, rfl⟩
def decR (l : List UInt8) : List Int := if Lib.validD l = true then runesOf l else []
def decE (l : List UInt8) : Int := if Lib.validD l = true then 0 else 2
theorem decE_ok {l : List UInt8} (h : decE l = 0) : Lib.validD l = true := by
  unfold decE at h
  split at h
  · assumption
  · cases h
theorem decR_no {l : List UInt8} (h : decE l ≠ 0) : decR l = [] := by
  unfold decE at h
  unfold decR
  split at h
  · exact absurd rfl h
  · rename_i hv
    rw [if_neg hv]
end Go.Proofs.YtplmbhjhihoneaaGreatDoor
end

section
set_option linter.unusedSimpArgs false
set_option linter.unusedVariables false
namespace Go.Proofs.YtplmbhjhihoneaaGreatDoor
open Go V
set_option maxRecDepth 10000
set_option maxHeartbeats 4000000
theorem take_eq_snoc {α : Type} {l m : List α} {i : Nat} (d : α) (hl : i < l.length) (hm : i < m.length) (h : l.take i = m.take i) (he : l.getD i d = m.getD i d) : l.take (i + 1) = m.take (i + 1) := by
  rw [List.take_add_one, List.take_add_one, h]
  simp only [List.getD, List.getElem?_eq_getElem hl, List.getElem?_eq_getElem hm, Option.getD_some] at he
  rw [List.getElem?_eq_getElem hl, List.getElem?_eq_getElem hm, he]
end Go.Proofs.YtplmbhjhihoneaaGreatDoor
end

section
set_option linter.unusedSimpArgs false
set_option linter.unusedVariables false
namespace Go.Proofs.YtplmbhjhihoneaaGreatDoor
open Go
theorem byteOf_n {i : Int} (h : 0 ≤ i ∧ i < 256) : (byteOf i).toNat = i.toNat := by have := byteOf_nat h; omega
theorem byteOf_eq {i : Int} {b : UInt8} (h : i = (b.toNat : Int)) : byteOf i = b := by
  subst h
  unfold byteOf
  rw [Int.toNat_natCast]
  simp
/-- The bytes of a rune are read as that rune. -/
theorem dec_enc1 {r : Int} (hr : isRune r = true) (m : List UInt8) : Lib.decodeL (enc1 r ++ m) = (r.toNat, (enc1 r).length) := by
  have hr' := of_decide_eq_true hr
  rw [Lib.decodeL_N]
  rcases Int.lt_or_le r 128 with h | h
  · rw [one_c1 h]
    simp only [List.cons_append, List.nil_append, List.getD_cons_zero, List.length_cons, List.length_nil]
    rw [byteOf_n (by omega), Lib.decodeN, if_pos (by omega)]
  rcases Int.lt_or_le r 2048 with h2 | h2
  · rw [one_c2 h h2]
    simp only [List.cons_append, List.nil_append, List.getD_cons_zero, List.getD_cons_succ, List.length_cons, List.length_nil]
    rw [byteOf_n (by omega), byteOf_n (by omega), Lib.decodeN, if_neg (by omega), if_pos (by omega), if_pos (by omega)]
    congr 1
    omega
  rcases Int.lt_or_le r 65536 with h3 | h3
  · rw [one_c3 h2 h3]
    simp only [List.cons_append, List.nil_append, List.getD_cons_zero, List.getD_cons_succ, List.length_cons, List.length_nil]
    rw [byteOf_n (by omega), byteOf_n (by omega), byteOf_n (by omega), Lib.decodeN, if_neg (by omega), if_neg (by omega), if_pos (by omega), if_pos (by omega)]
    congr 1
    omega
  · rw [one_c4 h3]
    simp only [List.cons_append, List.nil_append, List.getD_cons_zero, List.getD_cons_succ, List.length_cons, List.length_nil]
    rw [byteOf_n (by omega), byteOf_n (by omega), byteOf_n (by omega), byteOf_n (by omega), Lib.decodeN, if_neg (by omega), if_neg (by omega), if_neg (by omega), if_pos (by omega), if_pos (by omega)]
    congr 1
    omega
theorem take1 {l : List UInt8} (h : 0 < l.length) : l.take 1 = [l.getD 0 0] := by
  match l, h with
  | a :: r, _ => rfl
theorem take2 {l : List UInt8} (h : 1 < l.length) : l.take 2 = [l.getD 0 0, l.getD 1 0] := by
  match l, h with
  | a :: b :: r, _ => rfl
theorem take3 {l : List UInt8} (h : 2 < l.length) : l.take 3 = [l.getD 0 0, l.getD 1 0, l.getD 2 0] := by
  match l, h with
  | a :: b :: c :: r, _ => rfl
theorem take4 {l : List UInt8} (h : 3 < l.length) : l.take 4 = [l.getD 0 0, l.getD 1 0, l.getD 2 0, l.getD 3 0] := by
  match l, h with
  | a :: b :: c :: d :: r, _ => rfl
/-- What is read as a rune are the rune's bytes. -/
theorem enc_dec1 {l : List UInt8} (hl : l ≠ []) (hg : ¬ ((Lib.decodeL l).1 = 65533 ∧ (Lib.decodeL l).2 = 1)) : isRune ((Lib.decodeL l).1 : Int) = true ∧ enc1 ((Lib.decodeL l).1 : Int) = l.take (Lib.decodeL l).2 ∧ (Lib.decodeL l).2 ≤ 4 := by
  have hp := List.length_pos_iff.2 hl
  have b0 := (l.getD 0 0).toNat_lt
  have b1 := (l.getD 1 0).toNat_lt
  have b2 := (l.getD 2 0).toNat_lt
  have b3 := (l.getD 3 0).toNat_lt
  rw [Lib.decodeL_N] at hg ⊢
  unfold Lib.decodeN at hg ⊢
  split
  · rename_i h
    simp only
    refine ⟨decide_eq_true (by omega), ?_, by omega⟩
    rw [one_c1 (by omega), take1 hp]
    congr 1
    exact byteOf_eq (by omega)
  rename_i h0
  rw [if_neg h0] at hg
  split
  · rename_i h
    rw [if_pos h] at hg
    split
    · rename_i h2
      simp only
      refine ⟨decide_eq_true (by omega), ?_, by omega⟩
      rw [one_c2 (by omega) (by omega), take2 (by omega)]
      congr 1
      · exact byteOf_eq (by omega)
      · congr 1; exact byteOf_eq (by omega)
    · rename_i h2
      rw [if_neg h2] at hg
      exact absurd ⟨rfl, rfl⟩ hg
  rename_i h1
  rw [if_neg h1] at hg
  split
  · rename_i h
    rw [if_pos h] at hg
    split
    · rename_i h2
      simp only
      refine ⟨decide_eq_true (by omega), ?_, by omega⟩
      rw [one_c3 (by omega) (by omega), take3 (by omega)]
      congr 1
      · exact byteOf_eq (by omega)
      congr 1
      · exact byteOf_eq (by omega)
      · congr 1; exact byteOf_eq (by omega)
    · rename_i h2
      rw [if_neg h2] at hg
      exact absurd ⟨rfl, rfl⟩ hg
  rename_i h2
  rw [if_neg h2] at hg
  split
  · rename_i h
    rw [if_pos h] at hg
    split
    · rename_i h3
      simp only
      refine ⟨decide_eq_true (by omega), ?_, by omega⟩
      rw [one_c4 (by omega), take4 (by omega)]
      congr 1
      · exact byteOf_eq (by omega)
      congr 1
      · exact byteOf_eq (by omega)
      congr 1
      · exact byteOf_eq (by omega)
      · congr 1; exact byteOf_eq (by omega)
    · rename_i h3
      rw [if_neg h3] at hg
      exact absurd ⟨rfl, rfl⟩ hg
  · rename_i h3
    rw [if_neg h3] at hg
    exact absurd ⟨rfl, rfl⟩ hg
theorem enc1_ne (r : Int) : enc1 r ≠ [] := by
  unfold enc1
  repeat' split
  all_goals simp
theorem dec_enc : ∀ (l : List Int), encOk l = true → Lib.validD (encL l) = true ∧ runesOf (encL l) = l
  | [], _ => ⟨rfl, rfl⟩
  | r :: l, h => by
    simp only [encOk, List.all_cons, Bool.and_eq_true] at h
    obtain ⟨h1, h2⟩ := dec_enc l h.2
    have e : encL (r :: l) = enc1 r ++ encL l := rfl
    have hne : enc1 r ++ encL l ≠ [] := by simp [enc1_ne]
    have hd := dec_enc1 h.1 (encL l)
    have hr' := of_decide_eq_true h.1
    rw [e]
    constructor
    · rw [Lib.validD_step _ hne, hd, if_neg ?_]
      · rw [List.drop_left]; exact h1
      · simp only
        intro ⟨h3, h4⟩
        have : r = 65533 := by omega
        subst this
        revert h4
        decide
    · rw [runesOf_step hne, hd]
      simp only
      rw [List.drop_left, h2, Int.toNat_of_nonneg (by omega)]
theorem enc_dec : ∀ (n : Nat) (b : List UInt8), b.length ≤ n → Lib.validD b = true → encOk (runesOf b) = true ∧ encL (runesOf b) = b
  | _, [], _, _ => ⟨rfl, rfl⟩
  | 0, _ :: _, h, _ => by simp at h
  | n + 1, x :: b, h, hv => by
    have hne : x :: b ≠ [] := by simp
    rw [Lib.validD_step _ hne] at hv
    split at hv
    · cases hv
    · rename_i hg
      obtain ⟨h1, h2, h3⟩ := enc_dec1 hne hg
      have hw := Lib.decodeL_width (x :: b)
      obtain ⟨i1, i2⟩ := enc_dec n ((x :: b).drop (Lib.decodeL (x :: b)).2) (by rw [List.length_drop]; simp only [List.length_cons] at h ⊢; omega) hv
      rw [runesOf_step hne]
      constructor
      · unfold encOk at i1 ⊢
        rw [List.all_cons, h1, i1]; rfl
      · show enc1 _ ++ encL _ = _
        rw [i2, h2, List.take_append_drop]
end Go.Proofs.YtplmbhjhihoneaaGreatDoor
end

section
set_option linter.unusedSimpArgs false
set_option linter.unusedVariables false
namespace Go.Proofs.YtplmbhjhihoneaaGreatDoor
open Go V
set_option maxRecDepth 10000
set_option maxHeartbeats 4000000
/-- The rune that bytes begin with, and its bytes' number; none: (65533, 0 or 1). -/
def decP (l : List UInt8) : Nat × Nat := if l = [] then (65533, 0) else Lib.decodeL l
def badP (l : List UInt8) : Bool := decide ((decP l).1 = 65533 ∧ (decP l).2 < 2)
def firR (l : List UInt8) : Int := if badP l = true then 0 else (decP l).1
def firN (l : List UInt8) : Int := if badP l = true then 0 else (decP l).2
def firE (l : List UInt8) : Int := if badP l = true then 2 else 0
end Go.Proofs.YtplmbhjhihoneaaGreatDoor
end

section
set_option linter.unusedSimpArgs false
set_option linter.unusedVariables false
namespace Go.Proofs.YtplmbhjhihoneaaGreatDoor
open Go V Go.RowKit
end Go.Proofs.YtplmbhjhihoneaaGreatDoor
end

section
set_option linter.unusedSimpArgs false
set_option linter.unusedVariables false
namespace Go.Proofs.YtplmbhjhihoneaaGreatDoor
open Go V
set_option maxRecDepth 10000
set_option maxHeartbeats 4000000
def refW (l : List UInt8) (base : Int) : Nat → Int
  | 0 => (l.getD 0 0).toNat - base
  | j + 1 => refW l base j * 64 + (l.getD (j + 1) 0).toNat - 128
theorem refW_bound (l : List UInt8) {base : Int} (h : 0 ≤ (l.getD 0 0).toNat - base) {j : Nat} (hj : j ≤ 3) (hb : 0 ≤ base) : -600000 ≤ refW l base j ∧ refW l base j ≤ 67375167 ∧ (j ≤ 2 → refW l base j ≤ 1052735 ∧ -9000 ≤ refW l base j) := by
  have b0 := (l.getD 0 0).toNat_lt
  have b1 := (l.getD 1 0).toNat_lt
  have b2 := (l.getD 2 0).toNat_lt
  have b3 := (l.getD 3 0).toNat_lt
  match j, hj with
  | 0, _ => simp only [refW, Nat.zero_add, Nat.reduceAdd]; omega
  | 1, _ => simp only [refW, Nat.zero_add, Nat.reduceAdd]; omega
  | 2, _ => simp only [refW, Nat.zero_add, Nat.reduceAdd]; omega
  | 3, _ => simp only [refW, Nat.zero_add, Nat.reduceAdd]; omega
theorem take_get {l : List UInt8} {n i : Nat} (h : i < n) : (l.take n).getD i 0 = l.getD i 0 := by
  rw [List.getD, List.getElem?_take, if_pos h, List.getD]
theorem byte_of {l : List UInt8} {n i : Nat} {x : Int} {xs : List UInt8} (e : xs = l.take n) (h : i < n) (hx : xs.getD i 0 = byteOf x) (h0 : 0 ≤ x ∧ x < 256) : ((l.getD i 0).toNat : Int) = x := by
  rw [← take_get h, ← e, hx, byteOf_nat h0]
/-- What is rightly read is read so by the document's way. -/
theorem ref_class {l : List UInt8} (hl : l ≠ []) (hg : badP l = false) : ∃ r n, decP l = (r, n) ∧ isRune (r : Int) = true ∧ enc1 (r : Int) = l.take n ∧ n ≤ l.length ∧
    (((l.getD 0 0).toNat < 192 → n = 1 ∧ (r : Int) = refW l 0 0) ∧ (192 ≤ (l.getD 0 0).toNat → (l.getD 0 0).toNat < 224 → n = 2 ∧ (r : Int) = refW l 192 1) ∧ (224 ≤ (l.getD 0 0).toNat → (l.getD 0 0).toNat < 240 → n = 3 ∧ (r : Int) = refW l 224 2) ∧ (240 ≤ (l.getD 0 0).toNat → n = 4 ∧ (r : Int) = refW l 240 3)) := by
  have hd : decP l = Lib.decodeL l := if_neg hl
  have hg' := of_decide_eq_false hg
  rw [hd] at hg'
  obtain ⟨h1, h2, h3⟩ := enc_dec1 hl (fun h => hg' ⟨h.1, by omega⟩)
  have hle := Lib.decodeL_le l hl
  refine ⟨(Lib.decodeL l).1, (Lib.decodeL l).2, hd, h1, h2, hle, ?_⟩
  have hr := of_decide_eq_true h1
  generalize (Lib.decodeL l).1 = r at *
  generalize (Lib.decodeL l).2 = n at *
  have hlen := congrArg List.length h2
  rw [List.length_take, Nat.min_eq_left hle] at hlen
  rcases Int.lt_or_le (r : Int) 128 with h | h
  · rw [one_c1 h] at h2 hlen
    obtain rfl : n = 1 := hlen.symm
    have e0 := byte_of (i := 0) h2 (by decide) rfl (by omega)
    simp only [refW, Nat.zero_add, Nat.reduceAdd]
    refine ⟨fun _ => ⟨?_, ?_⟩, fun _ _ => ⟨?_, ?_⟩, fun _ _ => ⟨?_, ?_⟩, fun _ => ⟨?_, ?_⟩⟩ <;> first | exact True.intro | omega
  rcases Int.lt_or_le (r : Int) 2048 with h' | h'
  · rw [one_c2 h h'] at h2 hlen
    obtain rfl : n = 2 := hlen.symm
    have e0 := byte_of (i := 0) h2 (by decide) rfl (by omega)
    have e1 := byte_of (i := 1) h2 (by decide) rfl (by omega)
    simp only [refW, Nat.zero_add, Nat.reduceAdd]
    refine ⟨fun _ => ⟨?_, ?_⟩, fun _ _ => ⟨?_, ?_⟩, fun _ _ => ⟨?_, ?_⟩, fun _ => ⟨?_, ?_⟩⟩ <;> first | exact True.intro | omega
  rcases Int.lt_or_le (r : Int) 65536 with h'' | h''
  · rw [one_c3 h' h''] at h2 hlen
    obtain rfl : n = 3 := hlen.symm
    have e0 := byte_of (i := 0) h2 (by decide) rfl (by omega)
    have e1 := byte_of (i := 1) h2 (by decide) rfl (by omega)
    have e2 := byte_of (i := 2) h2 (by decide) rfl (by omega)
    simp only [refW, Nat.zero_add, Nat.reduceAdd]
    refine ⟨fun _ => ⟨?_, ?_⟩, fun _ _ => ⟨?_, ?_⟩, fun _ _ => ⟨?_, ?_⟩, fun _ => ⟨?_, ?_⟩⟩ <;> first | exact True.intro | omega
  · rw [one_c4 h''] at h2 hlen
    obtain rfl : n = 4 := hlen.symm
    have e0 := byte_of (i := 0) h2 (by decide) rfl (by omega)
    have e1 := byte_of (i := 1) h2 (by decide) rfl (by omega)
    have e2 := byte_of (i := 2) h2 (by decide) rfl (by omega)
    have e3 := byte_of (i := 3) h2 (by decide) rfl (by omega)
    simp only [refW, Nat.zero_add, Nat.reduceAdd]
    refine ⟨fun _ => ⟨?_, ?_⟩, fun _ _ => ⟨?_, ?_⟩, fun _ _ => ⟨?_, ?_⟩, fun _ => ⟨?_, ?_⟩⟩ <;> first | exact True.intro | omega
/-- What passes the document's tests is rightly read. -/
theorem ref_ok {l : List UInt8} {v : Int} {s : Nat} (hv : isRune v = true) (hs : (enc1 v).length = s) (he : enc1 v = l.take s) : firR l = v ∧ firN l = s ∧ firE l = 0 := by
  have hne : l ≠ [] := by
    intro e
    subst e
    rw [List.take_nil] at he
    exact enc1_ne v he
  have hd : decP l = (v.toNat, s) := by
    rw [decP, if_neg hne]
    conv => lhs; rw [← List.take_append_drop s l, ← he]
    rw [dec_enc1 hv, hs]
  have hv' := of_decide_eq_true hv
  have hb : badP l = false := by
    refine decide_eq_false ?_
    rw [hd]
    simp only
    intro ⟨h1, h2⟩
    have : v = 65533 := by omega
    subst this
    rw [← hs] at h2
    revert h2
    decide
  rw [firR, firN, firE, hb, hd]
  refine ⟨?_, rfl, rfl⟩
  simp only [Bool.false_eq_true, if_false]
  omega
theorem bad_no {l : List UInt8} (h : badP l = true) : firR l = 0 ∧ firN l = 0 ∧ firE l = 2 := by rw [firR, firN, firE, h]; exact ⟨rfl, rfl, rfl⟩
theorem bad_nil : badP [] = true := by decide
theorem First_r {o : Own} (l : List UInt8) (H : List AObj) (hl : l.length ≤ 10000) : ACalls Tryz.prog 105 [.sl o 1 (l.map byteAV)] H (fun x H' => x = .tup [.int .i32 (firR l), .int .i64 (firN l), .int .i64 (firE l)] ∧ H' = H) := by
  have b0 := (l.getD 0 0).toNat_lt
  refine acalls_vc L_ok mixed [1000003, 1000005, 1000007, 1000009, 1000024] (rs := [.tmp 2, .tmp 3, .tmp 4]) (n := 90) Tryz.func105 rfl rfl rfl rfl (Nat.le_of_ble_eq_true rfl) (by kernel_rfl) ?_
  repeat' (first | refine unhold ?_ | (simp -dsimp -implicitDefEqProofs (disch := (first | assumption | omega | (simp only [ll1, ll2, ll3, ll4, ll5, ll6, ll7, ll8]; omega))) only [go_sem]) | refine vcI (fun _ => ?_) (fun _ => ?_) | (refine vcA ?_ ?_; focus (repeat' (first | omega | assumption | refine vcA ?_ ?_); done)) | omega | refine imp_in (fun _ => ?_))
  · rename_i h
    rw [List.eq_nil_of_length_eq_zero (l := l) (by omega)]
    obtain ⟨e1, e2, e3⟩ := bad_no bad_nil
    rw [e1, e2, e3]
    exact done_same ⟨rfl, rfl⟩
  · -- too short
    have hne : l ≠ [] := by intro e; subst e; simp at *
    cases hb : badP l with
    | true =>
      obtain ⟨e1, e2, e3⟩ := bad_no hb
      rw [e1, e2, e3]
      exact done_same ⟨rfl, rfl⟩
    | false =>
      obtain ⟨r, n, _, _, _, h4, h5⟩ := ref_class hne hb
      omega
  · have hne : l ≠ [] := by intro e; subst e; simp at *
    have hcl : badP l = false → ∃ r : Nat, decP l = (r, 4) ∧ isRune (r : Int) = true ∧ enc1 (r : Int) = l.take 4 ∧ (r : Int) = refW l 240 3 := fun hb => by
      obtain ⟨r, n, h1, h2, h3, h4, h5⟩ := ref_class hne hb
      obtain ⟨rfl, h6⟩ : n = 4 ∧ (r : Int) = refW l 240 3 := by omega
      exact ⟨r, h1, h2, h3, h6⟩
    refine vc_loopk L_ok mixed [1000003, 1000005, 1000007, 1000009, 1000024] [0, 2, 3, 4, 5] (fun j : Nat => j ≤ 3) (fun j => [(7, .int .i64 (j + 1 : Nat)), (6, .int .i32 (refW l 240 j))]) (fun _ => H) (fun j => 3 - j) (by kernel_rfl) ?_ 0 (by omega) env_ok rfl
    intro j hj
    have hwb := refW_bound l (base := 240) (by omega) (j := j) (by omega) (by omega)
    have bj := (l.getD (j + 1) 0).toNat_lt
    have hrec : refW l 240 (j + 1) = refW l 240 j * 64 + (l.getD (j + 1) 0).toNat - 128 := rfl
    repeat' (first | refine unhold ?_ | (simp -dsimp -implicitDefEqProofs (disch := (first | assumption | omega | (simp only [ll1, ll2, ll3, ll4, ll5, ll6, ll7, ll8]; omega))) only [go_sem]) | refine acalls_same (Rune_c _ _) ?_ | refine ⟨_, Rune_c _ _, ?_⟩ | refine ⟨_, _, Rune_c _ _, ?_⟩ | refine acalls_same (one_c _ _ (by assumption)) ?_ | refine ⟨_, one_c _ _ (by assumption), ?_⟩ | refine ⟨_, _, one_c _ _ (by assumption), ?_⟩ | refine vcI (fun _ => ?_) (fun _ => ?_) | (refine vcA ?_ ?_; focus (repeat' (first | omega | assumption | refine vcA ?_ ?_); done)) | omega | refine imp_in (fun _ => ?_))
    · refine again (j + 1) ?_ ?_ rfl env_ok
      · omega
      · omega
    · obtain rfl : j = 3 := by omega
      rename_i hv
      (cases hb : badP l with
      | true => obtain ⟨e1, e2, e3⟩ := bad_no hb; rw [e1, e2, e3]; exact done_same ⟨rfl, rfl⟩
      | false => obtain ⟨r, h1, h2, h3, h4⟩ := hcl hb; exfalso; rw [← h4, h2] at hv; cases hv)
    · obtain rfl : j = 3 := by omega
      rename_i hv hs
      (cases hb : badP l with
      | true => obtain ⟨e1, e2, e3⟩ := bad_no hb; rw [e1, e2, e3]; exact done_same ⟨rfl, rfl⟩
      | false => obtain ⟨r, h1, h2, h3, h4⟩ := hcl hb; exfalso; rw [← h4, h3, List.length_take] at hs; omega)
    · obtain rfl : j = 3 := by omega
      rename_i hv hs
      refine vc_loopk L_ok mixed [1000003, 1000005, 1000007, 1000009, 1000024] [0, 5, 6, 8] (fun i : Nat => i ≤ 4 ∧ (enc1 (refW l 240 3)).take i = l.take i) (fun i => [(9, .int .i64 i)]) (fun _ => H) (fun i => 4 - i) (by kernel_rfl) ?_ 0 ⟨by omega, by simp⟩ env_ok rfl
      intro i ⟨hi, hp⟩
      repeat' (first | refine unhold ?_ | (simp -dsimp -implicitDefEqProofs (disch := (first | assumption | omega | (simp only [ll1, ll2, ll3, ll4, ll5, ll6, ll7, ll8]; omega))) only [go_sem]) | refine vcI (fun _ => ?_) (fun _ => ?_) | (refine vcA ?_ ?_; focus (repeat' (first | omega | assumption | refine vcA ?_ ?_); done)) | omega | refine imp_in (fun _ => ?_))
      · rename_i hlt hd
        (cases hb : badP l with
      | true => obtain ⟨e1, e2, e3⟩ := bad_no hb; rw [e1, e2, e3]; exact done_same ⟨rfl, rfl⟩
      | false => obtain ⟨r, h1, h2, h3, h4⟩ := hcl hb; exfalso; refine hd ?_; rw [← h4, h3, take_get (by omega)])
      · rename_i hlt hd
        refine again (i + 1) ?_ ?_ rfl env_ok
        · omega
        · exact ⟨by omega, take_eq_snoc 0 (by omega) (by omega) hp (UInt8.toNat_inj.1 (by omega))⟩
      · rename_i hge
        obtain rfl : i = 4 := by omega
        rw [List.take_of_length_le (by omega)] at hp
        obtain ⟨e1, e2, e3⟩ := ref_ok hv (by omega) hp
        rw [e1, e2, e3]
        exact done_same ⟨rfl, rfl⟩
  · -- too short
    have hne : l ≠ [] := by intro e; subst e; simp at *
    cases hb : badP l with
    | true =>
      obtain ⟨e1, e2, e3⟩ := bad_no hb
      rw [e1, e2, e3]
      exact done_same ⟨rfl, rfl⟩
    | false =>
      obtain ⟨r, n, _, _, _, h4, h5⟩ := ref_class hne hb
      omega
  · have hne : l ≠ [] := by intro e; subst e; simp at *
    have hcl : badP l = false → ∃ r : Nat, decP l = (r, 3) ∧ isRune (r : Int) = true ∧ enc1 (r : Int) = l.take 3 ∧ (r : Int) = refW l 224 2 := fun hb => by
      obtain ⟨r, n, h1, h2, h3, h4, h5⟩ := ref_class hne hb
      obtain ⟨rfl, h6⟩ : n = 3 ∧ (r : Int) = refW l 224 2 := by omega
      exact ⟨r, h1, h2, h3, h6⟩
    refine vc_loopk L_ok mixed [1000003, 1000005, 1000007, 1000009, 1000024] [0, 2, 3, 4, 5] (fun j : Nat => j ≤ 2) (fun j => [(7, .int .i64 (j + 1 : Nat)), (6, .int .i32 (refW l 224 j))]) (fun _ => H) (fun j => 2 - j) (by kernel_rfl) ?_ 0 (by omega) env_ok rfl
    intro j hj
    have hwb := refW_bound l (base := 224) (by omega) (j := j) (by omega) (by omega)
    have bj := (l.getD (j + 1) 0).toNat_lt
    have hrec : refW l 224 (j + 1) = refW l 224 j * 64 + (l.getD (j + 1) 0).toNat - 128 := rfl
    repeat' (first | refine unhold ?_ | (simp -dsimp -implicitDefEqProofs (disch := (first | assumption | omega | (simp only [ll1, ll2, ll3, ll4, ll5, ll6, ll7, ll8]; omega))) only [go_sem]) | refine acalls_same (Rune_c _ _) ?_ | refine ⟨_, Rune_c _ _, ?_⟩ | refine ⟨_, _, Rune_c _ _, ?_⟩ | refine acalls_same (one_c _ _ (by assumption)) ?_ | refine ⟨_, one_c _ _ (by assumption), ?_⟩ | refine ⟨_, _, one_c _ _ (by assumption), ?_⟩ | refine vcI (fun _ => ?_) (fun _ => ?_) | (refine vcA ?_ ?_; focus (repeat' (first | omega | assumption | refine vcA ?_ ?_); done)) | omega | refine imp_in (fun _ => ?_))
    · refine again (j + 1) ?_ ?_ rfl env_ok
      · omega
      · omega
    · obtain rfl : j = 2 := by omega
      rename_i hv
      (cases hb : badP l with
      | true => obtain ⟨e1, e2, e3⟩ := bad_no hb; rw [e1, e2, e3]; exact done_same ⟨rfl, rfl⟩
      | false => obtain ⟨r, h1, h2, h3, h4⟩ := hcl hb; exfalso; rw [← h4, h2] at hv; cases hv)
    · obtain rfl : j = 2 := by omega
      rename_i hv hs
      (cases hb : badP l with
      | true => obtain ⟨e1, e2, e3⟩ := bad_no hb; rw [e1, e2, e3]; exact done_same ⟨rfl, rfl⟩
      | false => obtain ⟨r, h1, h2, h3, h4⟩ := hcl hb; exfalso; rw [← h4, h3, List.length_take] at hs; omega)
    · obtain rfl : j = 2 := by omega
      rename_i hv hs
      refine vc_loopk L_ok mixed [1000003, 1000005, 1000007, 1000009, 1000024] [0, 5, 6, 8] (fun i : Nat => i ≤ 3 ∧ (enc1 (refW l 224 2)).take i = l.take i) (fun i => [(9, .int .i64 i)]) (fun _ => H) (fun i => 3 - i) (by kernel_rfl) ?_ 0 ⟨by omega, by simp⟩ env_ok rfl
      intro i ⟨hi, hp⟩
      repeat' (first | refine unhold ?_ | (simp -dsimp -implicitDefEqProofs (disch := (first | assumption | omega | (simp only [ll1, ll2, ll3, ll4, ll5, ll6, ll7, ll8]; omega))) only [go_sem]) | refine vcI (fun _ => ?_) (fun _ => ?_) | (refine vcA ?_ ?_; focus (repeat' (first | omega | assumption | refine vcA ?_ ?_); done)) | omega | refine imp_in (fun _ => ?_))
      · rename_i hlt hd
        (cases hb : badP l with
      | true => obtain ⟨e1, e2, e3⟩ := bad_no hb; rw [e1, e2, e3]; exact done_same ⟨rfl, rfl⟩
      | false => obtain ⟨r, h1, h2, h3, h4⟩ := hcl hb; exfalso; refine hd ?_; rw [← h4, h3, take_get (by omega)])
      · rename_i hlt hd
        refine again (i + 1) ?_ ?_ rfl env_ok
        · omega
        · exact ⟨by omega, take_eq_snoc 0 (by omega) (by omega) hp (UInt8.toNat_inj.1 (by omega))⟩
      · rename_i hge
        obtain rfl : i = 3 := by omega
        rw [List.take_of_length_le (by omega)] at hp
        obtain ⟨e1, e2, e3⟩ := ref_ok hv (by omega) hp
        rw [e1, e2, e3]
        exact done_same ⟨rfl, rfl⟩
  · -- too short
    have hne : l ≠ [] := by intro e; subst e; simp at *
    cases hb : badP l with
    | true =>
      obtain ⟨e1, e2, e3⟩ := bad_no hb
      rw [e1, e2, e3]
      exact done_same ⟨rfl, rfl⟩
    | false =>
      obtain ⟨r, n, _, _, _, h4, h5⟩ := ref_class hne hb
      omega
  · have hne : l ≠ [] := by intro e; subst e; simp at *
    have hcl : badP l = false → ∃ r : Nat, decP l = (r, 2) ∧ isRune (r : Int) = true ∧ enc1 (r : Int) = l.take 2 ∧ (r : Int) = refW l 192 1 := fun hb => by
      obtain ⟨r, n, h1, h2, h3, h4, h5⟩ := ref_class hne hb
      obtain ⟨rfl, h6⟩ : n = 2 ∧ (r : Int) = refW l 192 1 := by omega
      exact ⟨r, h1, h2, h3, h6⟩
    refine vc_loopk L_ok mixed [1000003, 1000005, 1000007, 1000009, 1000024] [0, 2, 3, 4, 5] (fun j : Nat => j ≤ 1) (fun j => [(7, .int .i64 (j + 1 : Nat)), (6, .int .i32 (refW l 192 j))]) (fun _ => H) (fun j => 1 - j) (by kernel_rfl) ?_ 0 (by omega) env_ok rfl
    intro j hj
    have hwb := refW_bound l (base := 192) (by omega) (j := j) (by omega) (by omega)
    have bj := (l.getD (j + 1) 0).toNat_lt
    have hrec : refW l 192 (j + 1) = refW l 192 j * 64 + (l.getD (j + 1) 0).toNat - 128 := rfl
    repeat' (first | refine unhold ?_ | (simp -dsimp -implicitDefEqProofs (disch := (first | assumption | omega | (simp only [ll1, ll2, ll3, ll4, ll5, ll6, ll7, ll8]; omega))) only [go_sem]) | refine acalls_same (Rune_c _ _) ?_ | refine ⟨_, Rune_c _ _, ?_⟩ | refine ⟨_, _, Rune_c _ _, ?_⟩ | refine acalls_same (one_c _ _ (by assumption)) ?_ | refine ⟨_, one_c _ _ (by assumption), ?_⟩ | refine ⟨_, _, one_c _ _ (by assumption), ?_⟩ | refine vcI (fun _ => ?_) (fun _ => ?_) | (refine vcA ?_ ?_; focus (repeat' (first | omega | assumption | refine vcA ?_ ?_); done)) | omega | refine imp_in (fun _ => ?_))
    · refine again (j + 1) ?_ ?_ rfl env_ok
      · omega
      · omega
    · obtain rfl : j = 1 := by omega
      rename_i hv
      (cases hb : badP l with
      | true => obtain ⟨e1, e2, e3⟩ := bad_no hb; rw [e1, e2, e3]; exact done_same ⟨rfl, rfl⟩
      | false => obtain ⟨r, h1, h2, h3, h4⟩ := hcl hb; exfalso; rw [← h4, h2] at hv; cases hv)
    · obtain rfl : j = 1 := by omega
      rename_i hv hs
      (cases hb : badP l with
      | true => obtain ⟨e1, e2, e3⟩ := bad_no hb; rw [e1, e2, e3]; exact done_same ⟨rfl, rfl⟩
      | false => obtain ⟨r, h1, h2, h3, h4⟩ := hcl hb; exfalso; rw [← h4, h3, List.length_take] at hs; omega)
    · obtain rfl : j = 1 := by omega
      rename_i hv hs
      refine vc_loopk L_ok mixed [1000003, 1000005, 1000007, 1000009, 1000024] [0, 5, 6, 8] (fun i : Nat => i ≤ 2 ∧ (enc1 (refW l 192 1)).take i = l.take i) (fun i => [(9, .int .i64 i)]) (fun _ => H) (fun i => 2 - i) (by kernel_rfl) ?_ 0 ⟨by omega, by simp⟩ env_ok rfl
      intro i ⟨hi, hp⟩
      repeat' (first | refine unhold ?_ | (simp -dsimp -implicitDefEqProofs (disch := (first | assumption | omega | (simp only [ll1, ll2, ll3, ll4, ll5, ll6, ll7, ll8]; omega))) only [go_sem]) | refine vcI (fun _ => ?_) (fun _ => ?_) | (refine vcA ?_ ?_; focus (repeat' (first | omega | assumption | refine vcA ?_ ?_); done)) | omega | refine imp_in (fun _ => ?_))
      · rename_i hlt hd
        (cases hb : badP l with
      | true => obtain ⟨e1, e2, e3⟩ := bad_no hb; rw [e1, e2, e3]; exact done_same ⟨rfl, rfl⟩
      | false => obtain ⟨r, h1, h2, h3, h4⟩ := hcl hb; exfalso; refine hd ?_; rw [← h4, h3, take_get (by omega)])
      · rename_i hlt hd
        refine again (i + 1) ?_ ?_ rfl env_ok
        · omega
        · exact ⟨by omega, take_eq_snoc 0 (by omega) (by omega) hp (UInt8.toNat_inj.1 (by omega))⟩
      · rename_i hge
        obtain rfl : i = 2 := by omega
        rw [List.take_of_length_le (by omega)] at hp
        obtain ⟨e1, e2, e3⟩ := ref_ok hv (by omega) hp
        rw [e1, e2, e3]
        exact done_same ⟨rfl, rfl⟩
  · have hne : l ≠ [] := by intro e; subst e; simp at *
    have hcl : badP l = false → ∃ r : Nat, decP l = (r, 1) ∧ isRune (r : Int) = true ∧ enc1 (r : Int) = l.take 1 ∧ (r : Int) = refW l 0 0 := fun hb => by
      obtain ⟨r, n, h1, h2, h3, h4, h5⟩ := ref_class hne hb
      obtain ⟨rfl, h6⟩ : n = 1 ∧ (r : Int) = refW l 0 0 := by omega
      exact ⟨r, h1, h2, h3, h6⟩
    refine vc_loopk L_ok mixed [1000003, 1000005, 1000007, 1000009, 1000024] [0, 2, 3, 4, 5] (fun j : Nat => j ≤ 0) (fun j => [(7, .int .i64 (j + 1 : Nat)), (6, .int .i32 (refW l 0 j))]) (fun _ => H) (fun j => 0 - j) (by kernel_rfl) ?_ 0 (by omega) env_ok rfl
    intro j hj
    have hwb := refW_bound l (base := 0) (by omega) (j := j) (by omega) (by omega)
    have bj := (l.getD (j + 1) 0).toNat_lt
    have hrec : refW l 0 (j + 1) = refW l 0 j * 64 + (l.getD (j + 1) 0).toNat - 128 := rfl
    repeat' (first | refine unhold ?_ | (simp -dsimp -implicitDefEqProofs (disch := (first | assumption | omega | (simp only [ll1, ll2, ll3, ll4, ll5, ll6, ll7, ll8]; omega))) only [go_sem]) | refine acalls_same (Rune_c _ _) ?_ | refine ⟨_, Rune_c _ _, ?_⟩ | refine ⟨_, _, Rune_c _ _, ?_⟩ | refine acalls_same (one_c _ _ (by assumption)) ?_ | refine ⟨_, one_c _ _ (by assumption), ?_⟩ | refine ⟨_, _, one_c _ _ (by assumption), ?_⟩ | refine vcI (fun _ => ?_) (fun _ => ?_) | (refine vcA ?_ ?_; focus (repeat' (first | omega | assumption | refine vcA ?_ ?_); done)) | omega | refine imp_in (fun _ => ?_))
    · obtain rfl : j = 0 := by omega
      rename_i hv
      (cases hb : badP l with
      | true => obtain ⟨e1, e2, e3⟩ := bad_no hb; rw [e1, e2, e3]; exact done_same ⟨rfl, rfl⟩
      | false => obtain ⟨r, h1, h2, h3, h4⟩ := hcl hb; exfalso; rw [← h4, h2] at hv; cases hv)
    · obtain rfl : j = 0 := by omega
      rename_i hv hs
      (cases hb : badP l with
      | true => obtain ⟨e1, e2, e3⟩ := bad_no hb; rw [e1, e2, e3]; exact done_same ⟨rfl, rfl⟩
      | false => obtain ⟨r, h1, h2, h3, h4⟩ := hcl hb; exfalso; rw [← h4, h3, List.length_take] at hs; omega)
    · obtain rfl : j = 0 := by omega
      rename_i hv hs
      refine vc_loopk L_ok mixed [1000003, 1000005, 1000007, 1000009, 1000024] [0, 5, 6, 8] (fun i : Nat => i ≤ 1 ∧ (enc1 (refW l 0 0)).take i = l.take i) (fun i => [(9, .int .i64 i)]) (fun _ => H) (fun i => 1 - i) (by kernel_rfl) ?_ 0 ⟨by omega, by simp⟩ env_ok rfl
      intro i ⟨hi, hp⟩
      repeat' (first | refine unhold ?_ | (simp -dsimp -implicitDefEqProofs (disch := (first | assumption | omega | (simp only [ll1, ll2, ll3, ll4, ll5, ll6, ll7, ll8]; omega))) only [go_sem]) | refine vcI (fun _ => ?_) (fun _ => ?_) | (refine vcA ?_ ?_; focus (repeat' (first | omega | assumption | refine vcA ?_ ?_); done)) | omega | refine imp_in (fun _ => ?_))
      · rename_i hlt hd
        (cases hb : badP l with
      | true => obtain ⟨e1, e2, e3⟩ := bad_no hb; rw [e1, e2, e3]; exact done_same ⟨rfl, rfl⟩
      | false => obtain ⟨r, h1, h2, h3, h4⟩ := hcl hb; exfalso; refine hd ?_; rw [← h4, h3, take_get (by omega)])
      · rename_i hlt hd
        refine again (i + 1) ?_ ?_ rfl env_ok
        · omega
        · exact ⟨by omega, take_eq_snoc 0 (by omega) (by omega) hp (UInt8.toNat_inj.1 (by omega))⟩
      · rename_i hge
        obtain rfl : i = 1 := by omega
        rw [List.take_of_length_le (by omega)] at hp
        obtain ⟨e1, e2, e3⟩ := ref_ok hv (by omega) hp
        rw [e1, e2, e3]
        exact done_same ⟨rfl, rfl⟩
end Go.Proofs.YtplmbhjhihoneaaGreatDoor
end

section
set_option linter.unusedSimpArgs false
set_option linter.unusedVariables false
namespace Go.Proofs.YtplmbhjhihoneaaGreatDoor
open Go V
set_option maxRecDepth 10000
set_option maxHeartbeats 4000000
theorem fir_ok {m : List UInt8} (hne : m ≠ []) (h : badP m = false) : 1 ≤ firN m ∧ firN m ≤ m.length ∧ firN m ≤ 4 ∧ firE m = 0 ∧ decE m = decE (m.drop (firN m).toNat) ∧ (decE m = 0 → decR m = firR m :: decR (m.drop (firN m).toNat)) := by
  have hd : decP m = Lib.decodeL m := if_neg hne
  have hg := of_decide_eq_false h
  rw [hd] at hg
  have hw := Lib.decodeL_width m
  have hle := Lib.decodeL_le m hne
  have hg' : ¬ ((Lib.decodeL m).1 = 65533 ∧ (Lib.decodeL m).2 = 1) := fun h => hg ⟨h.1, by omega⟩
  obtain ⟨_, _, h4⟩ := enc_dec1 hne hg'
  have e1 : firN m = (Lib.decodeL m).2 := by rw [firN, h, hd]; rfl
  have e2 : firR m = (Lib.decodeL m).1 := by rw [firR, h, hd]; rfl
  have e3 : firE m = 0 := by rw [firE, h]; rfl
  have hv : Lib.validD m = Lib.validD (m.drop (Lib.decodeL m).2) := by rw [Lib.validD_step _ hne, if_neg hg']
  rw [e1, e2, e3, Int.toNat_natCast]
  refine ⟨by omega, by omega, by omega, rfl, ?_, fun h0 => ?_⟩
  · unfold decE
    rw [hv]
  have := decE_ok h0
  unfold decR
  rw [if_pos this, ← hv, if_pos this, runesOf_step hne]
theorem fir_no {m : List UInt8} (hne : m ≠ []) (h : badP m = true) : firE m = 2 ∧ decE m = 2 := by
  have hd : decP m = Lib.decodeL m := if_neg hne
  have hg := of_decide_eq_true h
  rw [hd] at hg
  have hw := Lib.decodeL_width m
  refine ⟨(bad_no h).2.2, ?_⟩
  have hv : Lib.validD m = false := by
    rw [Lib.validD_step _ hne]
    exact if_pos ⟨hg.1, by omega⟩
  unfold decE
  rw [hv]
  rfl
theorem Decode_r {o : Own} (l : List UInt8) (H : List AObj) (hl : l.length ≤ 10000) : ACalls Tryz.prog 78 [.sl o 1 (l.map byteAV)] H (fun x H' => x = .tup [.sl .sh 1 ((decR l).map runeAV), .int .i64 (decE l)] ∧ H' = H) := by
  refine acalls_vc L_ok mixed [] (rs := [.tmp 2, .tmp 3]) (n := 28) Tryz.func78 rfl rfl rfl rfl (Nat.le_of_ble_eq_true rfl) (by kernel_rfl) ?_
  repeat' (first | refine unhold ?_ | (simp -dsimp -implicitDefEqProofs (disch := (first | assumption | omega | (simp only [ll1, ll2, ll3, ll4, ll5, ll6, ll7, ll8]; omega))) only [go_sem]) | refine vcI (fun _ => ?_) (fun _ => ?_) | (refine vcA ?_ ?_; focus (repeat' (first | omega | assumption | refine vcA ?_ ?_); done)) | omega | refine imp_in (fun _ => ?_))
  refine aw_mint 4 1 rfl (by decide) (fun h => absurd rfl h) ?_
  refine vc_loopk L_ok mixed [] [] (fun (m, acc) => acc.length + m.length ≤ l.length ∧ decE l = decE m ∧ (decE m = 0 → decR l = acc ++ decR m)) (fun (m, acc) => [(0, .sl .sh 1 (m.map byteAV)), (4, .sl (.tok H.length) 1 (acc.map runeAV))]) (fun (m, acc) => H ++ [.grow 1 acc.length none]) (fun (m, _) => m.length) (by kernel_rfl) ?_ (l, []) ⟨by simp, rfl, fun _ => rfl⟩ env_ok rfl
  rintro ⟨m, acc⟩ ⟨hm, he, hr⟩
  dsimp only
  by_cases hne : m = []
  · subst hne
    repeat' (first | refine unhold ?_ | (simp -dsimp -implicitDefEqProofs (disch := (first | assumption | omega | (simp only [ll1, ll2, ll3, ll4, ll5, ll6, ll7, ll8]; omega))) only [go_sem]) | refine vcI (fun _ => ?_) (fun _ => ?_) | (refine vcA ?_ ?_; focus (repeat' (first | omega | assumption | refine vcA ?_ ?_); done)) | omega | refine imp_in (fun _ => ?_))
    have h0 : decE ([] : List UInt8) = 0 := rfl
    rw [h0] at he
    have hr' := hr h0
    rw [he, hr', show decR ([] : List UInt8) = [] from rfl, List.append_nil]
    refine done_cut (.tup [.sl .sh 1 (acc.map runeAV), .lit (.int .i64 0)]) (by (first | exact Le.refl _ | exact Le.any _ | exact le_sh | exact le_nil | (refine le_tup ?_; repeat (first | exact LeAll.nil | (refine LeAll.cons ?_ ?_; focus (first | exact Le.refl _ | exact Le.any _ | exact le_sh | exact le_nil)))) | (refine le_agg ?_; repeat (first | exact LeAll.nil | (refine LeAll.cons ?_ ?_; focus (first | exact Le.refl _ | exact Le.any _ | exact le_sh | exact le_nil)))) | (refine le_eq ?_; simp -implicitDefEqProofs (disch := omega) only [get_cons, get_nil, if_true, if_false, ↓reduceIte, Nat.reduceEqDiff, eq_self, IntWalk.i64_in, IntWalk.i32_in, IntWalk.u8_in, IntWalk.u32_in, IntWalk.u64_in, reduceCtorEq]; try (first | rfl | (refine int_eq ?_; omega))))) (by (first | (first | exact .lit _ | exact .str _ | exact .any | exact low_bytes | exact low_runes | exact .mp _ _ (by omega) | exact .msl _ _ _ _ (by omega) | exact low_nilsl (fun k e => by cases e) | exact low_jAV _ | exact low_jsl | exact low_ssl | exact low_fn0 | exact low_ipJ _) | (refine low_tup ?_; repeat (first | exact lowAll_nil | (refine lowAll_cons ?_ ?_; focus (first | exact .lit _ | exact .str _ | exact .any | exact low_bytes | exact low_runes | exact .mp _ _ (by omega) | exact .msl _ _ _ _ (by omega) | exact low_nilsl (fun k e => by cases e) | exact low_jAV _ | exact low_jsl | exact low_ssl | exact low_fn0 | exact low_ipJ _)))) | (refine low_agg ?_; repeat (first | exact lowAll_nil | (refine lowAll_cons ?_ ?_; focus (first | exact .lit _ | exact .str _ | exact .any | exact low_bytes | exact low_runes | exact .mp _ _ (by omega) | exact .msl _ _ _ _ (by omega) | exact low_nilsl (fun k e => by cases e) | exact low_jAV _ | exact low_jsl | exact low_ssl | exact low_fn0 | exact low_ipJ _)))))) ?_
    exact ⟨rfl, rfl⟩
  · have hpos := List.length_pos_iff.2 hne
    cases hb : badP m with
    | true =>
      obtain ⟨h1, h2⟩ := fir_no hne hb
      repeat' (first | refine unhold ?_ | (simp -dsimp -implicitDefEqProofs (disch := (first | assumption | omega | (simp only [ll1, ll2, ll3, ll4, ll5, ll6, ll7, ll8]; omega))) only [go_sem]) | refine acalls_same (First_r _ _ ?_) ?_ | refine ⟨_, First_r _ _ ?_, ?_⟩ | refine ⟨_, _, First_r _ _ ?_, ?_⟩ | refine vcI (fun _ => ?_) (fun _ => ?_) | (refine vcA ?_ ?_; focus (repeat' (first | omega | assumption | refine vcA ?_ ?_); done)) | omega | refine imp_in (fun _ => ?_))
      · rw [he, h2, decR_no (by rw [he, h2]; decide), h1]
        refine done_cut (.tup [.sl .sh 1 [], .lit (.int .i64 2)]) (by (first | exact Le.refl _ | exact Le.any _ | exact le_sh | exact le_nil | (refine le_tup ?_; repeat (first | exact LeAll.nil | (refine LeAll.cons ?_ ?_; focus (first | exact Le.refl _ | exact Le.any _ | exact le_sh | exact le_nil)))) | (refine le_agg ?_; repeat (first | exact LeAll.nil | (refine LeAll.cons ?_ ?_; focus (first | exact Le.refl _ | exact Le.any _ | exact le_sh | exact le_nil)))) | (refine le_eq ?_; simp -implicitDefEqProofs (disch := omega) only [get_cons, get_nil, if_true, if_false, ↓reduceIte, Nat.reduceEqDiff, eq_self, IntWalk.i64_in, IntWalk.i32_in, IntWalk.u8_in, IntWalk.u32_in, IntWalk.u64_in, reduceCtorEq]; try (first | rfl | (refine int_eq ?_; omega))))) (by (first | (first | exact .lit _ | exact .str _ | exact .any | exact low_bytes | exact low_runes | exact .mp _ _ (by omega) | exact .msl _ _ _ _ (by omega) | exact low_nilsl (fun k e => by cases e) | exact low_jAV _ | exact low_jsl | exact low_ssl | exact low_fn0 | exact low_ipJ _) | (refine low_tup ?_; repeat (first | exact lowAll_nil | (refine lowAll_cons ?_ ?_; focus (first | exact .lit _ | exact .str _ | exact .any | exact low_bytes | exact low_runes | exact .mp _ _ (by omega) | exact .msl _ _ _ _ (by omega) | exact low_nilsl (fun k e => by cases e) | exact low_jAV _ | exact low_jsl | exact low_ssl | exact low_fn0 | exact low_ipJ _)))) | (refine low_agg ?_; repeat (first | exact lowAll_nil | (refine lowAll_cons ?_ ?_; focus (first | exact .lit _ | exact .str _ | exact .any | exact low_bytes | exact low_runes | exact .mp _ _ (by omega) | exact .msl _ _ _ _ (by omega) | exact low_nilsl (fun k e => by cases e) | exact low_jAV _ | exact low_jsl | exact low_ssl | exact low_fn0 | exact low_ipJ _)))))) ?_
        exact ⟨rfl, rfl⟩
      all_goals (exfalso; omega)
    | false =>
      obtain ⟨h1, h2, h3, h4, h5, h6⟩ := fir_ok hne hb
      repeat' (first | refine unhold ?_ | (simp -dsimp -implicitDefEqProofs (disch := (first | assumption | omega | (simp only [ll1, ll2, ll3, ll4, ll5, ll6, ll7, ll8]; omega))) only [go_sem]) | refine acalls_same (First_r _ _ ?_) ?_ | refine ⟨_, First_r _ _ ?_, ?_⟩ | refine ⟨_, _, First_r _ _ ?_, ?_⟩ | refine vcI (fun _ => ?_) (fun _ => ?_) | (refine vcA ?_ ?_; focus (repeat' (first | omega | assumption | refine vcA ?_ ?_); done)) | omega | refine imp_in (fun _ => ?_))
      have e : acc.map runeAV ++ [AV.int .i32 (firR m)] = (acc ++ [firR m]).map runeAV := by rw [List.map_append]; rfl
      rw [e, show acc.length + 1 = (acc ++ [firR m]).length by simp]
      refine again ((m.drop (firN m).toNat, acc ++ [firR m])) ?_ ?_ rfl env_ok
      · simp only [List.length_drop]; omega
      · refine ⟨by simp only [List.length_drop, List.length_append, List.length_cons, List.length_nil]; omega, by rw [he, h5], fun h0 => ?_⟩
        rw [hr (by rw [h5]; exact h0), h6 (by rw [h5]; exact h0), List.append_assoc]
        rfl
theorem valid_decE (b : List UInt8) : Lib.validD b = decide (decE b = 0) := by
  unfold decE
  cases Lib.validD b <;> rfl
end Go.Proofs.YtplmbhjhihoneaaGreatDoor
end
