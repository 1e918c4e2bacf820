/- The program's Right, Deep, Get, Same. -/
import Derived.Test.YtdahdbnfknmmgaaGreatDoorW4
import Derived.Test.YtdahdbnfknmmgaaGreatDoorW5
import Derived.Test.YtdahdbnfknmmgaaGreatDoorW3
import Derived.Lib.Walk
import Derived.Lib.RuneCount
import Derived.Laws.RangeString
import Derived.Laws.RangeAny
import Derived.LoopTactic
import Derived.Lib.ItoaNum
import Derived.Lib.ItoaWalk
import Derived.Lib.ItoaMem
section
set_option linter.unusedSimpArgs false
set_option linter.unusedVariables false
namespace Go.Proofs.YtdahdbnfknmmgaaGreatDoor
open Go V
set_option maxRecDepth 10000
set_option maxHeartbeats 4000000
theorem srt_adj : ∀ {l : List bytes}, (∀ j, j + 1 < l.length → lessB (l.getD j []) (l.getD (j + 1) []) = true) → srt l = true
  | [], _ => rfl
  | [_], _ => rfl
  | a :: b :: r, h => by
    rw [srt, Bool.and_eq_true]
    exact ⟨h 0 (by simp), srt_adj fun j hj => h (j + 1) (by simpa using hj)⟩
theorem srt_at {l : List bytes} (h : srt l = true) {j : Nat} (hj : j + 1 < l.length) : lessB (l.getD j []) (l.getD (j + 1) []) = true := by
  refine srt_lt h (Nat.lt_succ_self j) (List.getElem?_eq_getElem (by omega) |>.trans ?_) (List.getElem?_eq_getElem hj |>.trans ?_)
  · rw [List.getD, List.getElem?_eq_getElem (by omega)]; rfl
  · rw [List.getD, List.getElem?_eq_getElem hj]; rfl
theorem all_at {l : List bytes} {p : bytes → Bool} (h : l.all p = true) {j : Nat} (hj : j < l.length) : p (l.getD j []) = true := List.all_eq_true.1 h _ (mem_getD hj)
theorem all_of {l : List bytes} {p : bytes → Bool} (h : ∀ j, j < l.length → p (l.getD j []) = true) : l.all p = true := by
  rw [List.all_eq_true]
  intro x hx
  obtain ⟨j, hj, rfl⟩ := List.mem_iff_getElem.1 hx
  have := h j hj
  rwa [List.getD, List.getElem?_eq_getElem hj] at this
theorem namedJ_len {v : JV} (h : ¬ v.names.length = v.items.length) : namedJ v = false := by simp [namedJ, h]
theorem namedJ_valid {v : JV} {j : Nat} (hj : j < v.names.length) (h : Lib.validD (v.names.getD j []) = false) : namedJ v = false := by
  cases e : namedJ v with
  | false => rfl
  | true =>
    simp only [namedJ, Bool.and_eq_true] at e
    have := all_at e.1.2 hj
    rw [h] at this
    cases this
theorem namedJ_less {v : JV} {j : Nat} (hj : j < v.names.length) (h0 : 0 < j) (h : lessB (v.names.getD (j - 1) []) (v.names.getD j []) = false) : namedJ v = false := by
  cases e : namedJ v with
  | false => rfl
  | true =>
    simp only [namedJ, Bool.and_eq_true] at e
    have := srt_at e.2 (j := j - 1) (by omega)
    rw [show j - 1 + 1 = j by omega, h] at this
    cases this
theorem namedJ_ok {v : JV} (hl : v.names.length = v.items.length) (h : ∀ j, j < v.names.length → Lib.validD (v.names.getD j []) = true ∧ (0 < j → lessB (v.names.getD (j - 1) []) (v.names.getD j []) = true)) : namedJ v = true := by
  simp only [namedJ, Bool.and_eq_true, decide_eq_true_eq]
  exact ⟨⟨hl, all_of fun j hj => (h j hj).1⟩, srt_adj fun j hj => (h (j + 1) hj).2 (by omega)⟩
theorem named_c (v : JV) (H : List AObj) (hs : sizeJ v ≤ 10000) : ACalls Tryz.prog 92 [jAV v] H (fun x H' => x = .bool (namedJ v) ∧ H' = H) := by
  have h1 := size_names v
  have h2 := size_items v
  have h3 : ∀ i, i < v.names.length → (v.names.getD i []).length ≤ 10000 := fun i hi => by have := size_name (v := v) (mem_getD (d := []) hi); omega
  refine acalls_vc L_ok mixed [] (rs := [.tmp 2]) (n := 39) Tryz.func92 rfl rfl rfl rfl (Nat.le_of_ble_eq_true rfl) (by kernel_rfl) ?_
  repeat' (first | refine unhold ?_ | (simp -dsimp -implicitDefEqProofs (disch := (first | assumption | omega | (simp only [ll1, ll2, ll3, ll4, ll5, ll6, ll7, ll8]; omega))) only [go_sem]) | refine vcI (fun _ => ?_) (fun _ => ?_) | (refine vcA ?_ ?_; focus (repeat' (first | omega | assumption | refine vcA ?_ ?_); done)) | omega | refine imp_in (fun _ => ?_))
  · rename_i h
    exact done_same ⟨bool_eq (namedJ_len (by omega)).symm, rfl⟩
  · rename_i h
    refine vc_loopk L_ok mixed [] [1, 13, 14] (fun i : Nat => i ≤ v.names.length ∧ ∀ j, j < i → Lib.validD (v.names.getD j []) = true ∧ (0 < j → lessB (v.names.getD (j - 1) []) (v.names.getD j []) = true)) (fun i => [(15, .int .i64 i)]) (fun _ => H) (fun i => v.names.length - i) (by kernel_rfl) ?_ 0 ⟨by omega, fun j hj => by omega⟩ env_ok rfl
    rintro i ⟨hi, hp⟩
    have h4 := h3 i
    repeat' (first | refine unhold ?_ | (simp -dsimp -implicitDefEqProofs (disch := (first | assumption | omega | (simp only [ll1, ll2, ll3, ll4, ll5, ll6, ll7, ll8]; omega))) only [go_sem]) | refine acalls_same (Right_c _ _ (h4 (by omega))) ?_ | refine ⟨_, Right_c _ _ (h4 (by omega)), ?_⟩ | refine ⟨_, _, Right_c _ _ (h4 (by omega)), ?_⟩ | refine vcI (fun _ => ?_) (fun _ => ?_) | (refine vcA ?_ ?_; focus (repeat' (first | omega | assumption | refine vcA ?_ ?_); done)) | omega | refine imp_in (fun _ => ?_))
    · rename_i h5 h6
      exact done_same ⟨bool_eq (namedJ_valid (by omega) h6).symm, rfl⟩
    · rename_i h5 h6 h7 h8
      rw [show ((i : Int) - 1).toNat = i - 1 by omega] at h8
      exact done_same ⟨bool_eq (namedJ_less (by omega) (by omega) h8).symm, rfl⟩
    · rename_i h5 h6 h7 h8
      rw [show ((i : Int) - 1).toNat = i - 1 by omega] at h8
      refine again (i + 1) ?_ ?_ rfl env_ok
      · omega
      · exact ⟨by omega, upto_succ hp ⟨h6, fun _ => h8⟩⟩
    · rename_i h5 h6 h7
      refine again (i + 1) ?_ ?_ rfl env_ok
      · omega
      · exact ⟨by omega, upto_succ hp ⟨h6, fun h8 => by omega⟩⟩
    · obtain rfl : i = v.names.length := by omega
      exact done_same ⟨bool_eq (namedJ_ok (by omega) hp).symm, rfl⟩
theorem rightJ_eq (d : Nat) (v : JV) : rightJ d v = (oneJ v || (manyJ v && (decide (0 < d) && v.items.all (rightJ (d - 1))))) := by cases d <;> simp [rightJ]
theorem not_any {l : List JV} {p : JV → Bool} : (!(l.any fun x => !p x)) = l.all p := by
  induction l with
  | nil => rfl
  | cons a l ih => simp only [List.any_cons, List.all_cons, Bool.not_or, Bool.not_not, ih]
theorem right_step (d : Nat) (v : JV) (w : Int) (H : List AObj) (hw : w = 12 - (d : Int)) (hd : d ≤ 12) (hs : sizeJ v ≤ 10000)
    (hq : 0 < d → ∀ x ∈ v.items, ∀ H, ACalls Tryz.prog 94 (jAV x :: [.ip (.lit (.int .i64 w))]) H (fun y H' => y = .bool (!rightJ (d - 1) x) ∧ H' = H)) :
    ACalls Tryz.prog 63 [jAV v, .lit (.int .i64 w)] H (fun x H' => x = .bool (rightJ d v) ∧ H' = H) := by
  have h1 := size_names v
  have h2 := size_items v
  have h3 := size_text v
  refine acalls_vc L_ok mixed [] (rs := [.tmp 4]) (n := 95) Tryz.func63 rfl rfl rfl rfl (Nat.le_of_ble_eq_true rfl) (by kernel_rfl) ?_
  repeat' (first | refine unhold ?_ | (simp -dsimp -implicitDefEqProofs (disch := (first | assumption | omega | (simp only [ll1, ll2, ll3, ll4, ll5, ll6, ll7, ll8]; omega))) only [go_sem]) | refine acalls_same (Right_c _ _ (by omega)) ?_ | refine ⟨_, Right_c _ _ (by omega), ?_⟩ | refine ⟨_, _, Right_c _ _ (by omega), ?_⟩ | refine acalls_same (named_c v _ hs) ?_ | refine ⟨_, named_c v _ hs, ?_⟩ | refine ⟨_, _, named_c v _ hs, ?_⟩ | refine acalls_same (ContainsFunc_c _ _ (fun x => !rightJ (d - 1) x) _ _ (by omega) (fun x hx => hq (by omega) x hx _)) ?_ | refine ⟨_, ContainsFunc_c _ _ (fun x => !rightJ (d - 1) x) _ _ (by omega) (fun x hx => hq (by omega) x hx _), ?_⟩ | refine ⟨_, _, ContainsFunc_c _ _ (fun x => !rightJ (d - 1) x) _ _ (by omega) (fun x hx => hq (by omega) x hx _), ?_⟩ | refine vcI (fun _ => ?_) (fun _ => ?_) | (refine vcA ?_ ?_; focus (repeat' (first | omega | assumption | refine vcA ?_ ?_); done)) | omega | refine imp_in (fun _ => ?_))
  all_goals
    refine done_same ⟨bool_eq ?_, rfl⟩
    rw [rightJ_eq]
    first
      | (have hd0 : 0 < d := by omega
         clear hq hw hd hs h1 h2 h3
         simp_all [oneJ, manyJ, bareJ, leafJ, not_any, hd0]; done)
      | (have hd0 : d = 0 := by omega
         clear hq hw hd hs h1 h2 h3
         simp_all [oneJ, manyJ, bareJ, leafJ, not_any, hd0]; done)
      | (clear hq hw hd hs h1 h2 h3
         simp_all [oneJ, manyJ, bareJ, leafJ, not_any]; done)
      | (clear hq hw hd hs h1 h2 h3
         simp_all [oneJ, manyJ, bareJ, leafJ, not_any]; omega)
theorem right_c : ∀ (d : Nat) (v : JV) (w : Int) (H : List AObj), w = 12 - (d : Int) → d ≤ 12 → sizeJ v ≤ 10000 → ACalls Tryz.prog 63 [jAV v, .lit (.int .i64 w)] H (fun x H' => x = .bool (rightJ d v) ∧ H' = H)
  | 0, v, w, H, hw, hd, hs => right_step 0 v w H hw hd hs fun h => by omega
  | d + 1, v, w, H, hw, hd, hs => right_step (d + 1) v w H hw hd hs fun _ x hx H => by
    have h4 := size_item hx
    refine acalls_vc L_ok mixed [] (rs := [.tmp 3]) (n := 9) Tryz.func94 rfl rfl rfl rfl (Nat.le_of_ble_eq_true rfl) (by kernel_rfl) ?_
    repeat' (first | refine unhold ?_ | (simp -dsimp -implicitDefEqProofs (disch := (first | assumption | omega | (simp only [ll1, ll2, ll3, ll4, ll5, ll6, ll7, ll8]; omega))) only [go_sem]) | refine acalls_same (right_c d x _ _ (by omega) (by omega) (by omega)) ?_ | refine ⟨_, right_c d x _ _ (by omega) (by omega) (by omega), ?_⟩ | refine ⟨_, _, right_c d x _ _ (by omega) (by omega) (by omega), ?_⟩ | refine vcI (fun _ => ?_) (fun _ => ?_) | (refine vcA ?_ ?_; focus (repeat' (first | omega | assumption | refine vcA ?_ ?_); done)) | omega | refine imp_in (fun _ => ?_))
    exact done_same ⟨rfl, rfl⟩
theorem Right_j (v : JV) (H : List AObj) (hs : sizeJ v ≤ 10000) : ACalls Tryz.prog 44 [jAV v] H (fun x H' => x = .bool (rightJ 12 v) ∧ H' = H) := by
  refine acalls_vc L_ok mixed [] (rs := [.tmp 2]) (n := 5) Tryz.func44 rfl rfl rfl rfl (Nat.le_of_ble_eq_true rfl) (by kernel_rfl) ?_
  repeat' (first | refine unhold ?_ | (simp -dsimp -implicitDefEqProofs (disch := (first | assumption | omega | (simp only [ll1, ll2, ll3, ll4, ll5, ll6, ll7, ll8]; omega))) only [go_sem]) | refine acalls_same (right_c 12 v _ _ (by omega) (by omega) hs) ?_ | refine ⟨_, right_c 12 v _ _ (by omega) (by omega) hs, ?_⟩ | refine ⟨_, _, right_c 12 v _ _ (by omega) (by omega) hs, ?_⟩ | refine vcI (fun _ => ?_) (fun _ => ?_) | (refine vcA ?_ ?_; focus (repeat' (first | omega | assumption | refine vcA ?_ ?_); done)) | omega | refine imp_in (fun _ => ?_))
  exact done_same ⟨rfl, rfl⟩
end Go.Proofs.YtdahdbnfknmmgaaGreatDoor
end

section
set_option linter.unusedSimpArgs false
set_option linter.unusedVariables false
namespace Go.Proofs.YtdahdbnfknmmgaaGreatDoor
open Go V
set_option maxRecDepth 10000
set_option maxHeartbeats 4000000
end Go.Proofs.YtdahdbnfknmmgaaGreatDoor
end

section
set_option linter.unusedSimpArgs false
set_option linter.unusedVariables false
namespace Go.Proofs.YtdahdbnfknmmgaaGreatDoor
open Go V Go.RowKit
end Go.Proofs.YtdahdbnfknmmgaaGreatDoor
end

section
set_option linter.unusedSimpArgs false
set_option linter.unusedVariables false
namespace Go.Proofs.YtdahdbnfknmmgaaGreatDoor
open Go V
set_option maxRecDepth 10000
set_option maxHeartbeats 4000000
end Go.Proofs.YtdahdbnfknmmgaaGreatDoor
end

section
set_option linter.unusedSimpArgs false
set_option linter.unusedVariables false
namespace Go.Proofs.YtdahdbnfknmmgaaGreatDoor
open Go V
set_option maxRecDepth 10000
set_option maxHeartbeats 4000000
end Go.Proofs.YtdahdbnfknmmgaaGreatDoor
end

section
set_option linter.unusedSimpArgs false
set_option linter.unusedVariables false
namespace Go.Proofs.YtdahdbnfknmmgaaGreatDoor
open Go V
set_option maxRecDepth 10000
set_option maxHeartbeats 4000000
end Go.Proofs.YtdahdbnfknmmgaaGreatDoor
end

section
set_option linter.unusedSimpArgs false
set_option linter.unusedVariables false
namespace Go.Proofs.YtdahdbnfknmmgaaGreatDoor
open Go V
set_option maxRecDepth 10000
set_option maxHeartbeats 4000000
end Go.Proofs.YtdahdbnfknmmgaaGreatDoor
end

section
set_option linter.unusedSimpArgs false
set_option linter.unusedVariables false
namespace Go.Proofs.YtdahdbnfknmmgaaGreatDoor
open Go V
set_option maxRecDepth 10000
set_option maxHeartbeats 1000000
theorem flat_take {s : bytes} {i : Nat} (h : i < s.length) : (s.take (i + 1)).flatMap escB = (s.take i).flatMap escB ++ escB (s.getD i 0) := by
  rw [List.take_add_one, List.getElem?_eq_getElem h, List.getD, List.getElem?_eq_getElem h, List.flatMap_append]
  simp
end Go.Proofs.YtdahdbnfknmmgaaGreatDoor
end

section
set_option linter.unusedSimpArgs false
set_option linter.unusedVariables false
namespace Go.Proofs.YtdahdbnfknmmgaaGreatDoor
open Go V
set_option maxRecDepth 10000
set_option maxHeartbeats 4000000
theorem Len64_c (x : Nat) (H : List AObj) (hx : x < 18446744073709551616) : ACalls Tryz.prog 156 [.lit (.int .u64 x)] H (fun y H' => y = .lit (.int .i64 ((Lib.bitLen x : Nat) : Int)) ∧ H' = H) := by
  refine acalls_vc L_ok mixed [] (rs := [.tmp 2]) (n := 25) Tryz.func156 rfl rfl rfl rfl (Nat.le_of_ble_eq_true rfl) (by kernel_rfl) ?_
  go_name_bytes B hB
  have hT : ∀ i : Fin 256, (B.data.toList.getD i.val 0).toNat = Lib.bitLen i.val := by rw [← hB]; decide +kernel
  have hl : B.data.toList.length = 256 := by rw [← hB]; decide +kernel
  clear hB
  have hT' : ∀ v, v < 256 → (B.data.toList.getD v 0).toNat = Lib.bitLen v := fun v h => hT ⟨v, h⟩
  have hb : ∀ v, v < 256 → Lib.bitLen v ≤ 8 := fun v h => Lib.bitLen_le8 ⟨v, h⟩
  clear hT
  repeat' (first | refine unhold ?_ | (simp -dsimp -implicitDefEqProofs (disch := (first | assumption | omega | (simp only [ll1, ll2, ll3, ll4, ll5, ll6, ll7, ll8]; omega))) only [go_sem, hl]) | refine vcI (fun _ => ?_) (fun _ => ?_) | (refine vcA ?_ ?_; focus (repeat' (first | omega | assumption | refine vcA ?_ ?_); done)) | omega | refine imp_in (fun _ => ?_))
  · have e1 := hT' (((x / 4294967296) / 65536) / 256) (by omega)
    have e2 := hb (((x / 4294967296) / 65536) / 256) (by omega)
    rw [e1, IntWalk.i64_in _ (by omega)]
    refine done_same ⟨int_eq ?_, rfl⟩
    rw [Lib.bitLen_shift32 x (by omega) hx, Lib.bitLen_shift16 (x / 4294967296) (by omega) (by omega), Lib.bitLen_shift8 ((x / 4294967296) / 65536) (by omega) (by omega)]
    omega
  · have e1 := hT' ((x / 4294967296) / 65536) (by omega)
    have e2 := hb ((x / 4294967296) / 65536) (by omega)
    rw [e1, IntWalk.i64_in _ (by omega)]
    refine done_same ⟨int_eq ?_, rfl⟩
    rw [Lib.bitLen_shift32 x (by omega) hx, Lib.bitLen_shift16 (x / 4294967296) (by omega) (by omega)]
    omega
  · have e1 := hT' ((x / 4294967296) / 256) (by omega)
    have e2 := hb ((x / 4294967296) / 256) (by omega)
    rw [e1, IntWalk.i64_in _ (by omega)]
    refine done_same ⟨int_eq ?_, rfl⟩
    rw [Lib.bitLen_shift32 x (by omega) hx, Lib.bitLen_shift8 (x / 4294967296) (by omega) (by omega)]
    omega
  · have e1 := hT' (x / 4294967296) (by omega)
    have e2 := hb (x / 4294967296) (by omega)
    rw [e1, IntWalk.i64_in _ (by omega)]
    refine done_same ⟨int_eq ?_, rfl⟩
    rw [Lib.bitLen_shift32 x (by omega) hx]
    omega
  · have e1 := hT' ((x / 65536) / 256) (by omega)
    have e2 := hb ((x / 65536) / 256) (by omega)
    rw [e1, IntWalk.i64_in _ (by omega)]
    refine done_same ⟨int_eq ?_, rfl⟩
    rw [Lib.bitLen_shift16 x (by omega) (by omega), Lib.bitLen_shift8 (x / 65536) (by omega) (by omega)]
    omega
  · have e1 := hT' (x / 65536) (by omega)
    have e2 := hb (x / 65536) (by omega)
    rw [e1, IntWalk.i64_in _ (by omega)]
    refine done_same ⟨int_eq ?_, rfl⟩
    rw [Lib.bitLen_shift16 x (by omega) (by omega)]
    omega
  · have e1 := hT' (x / 256) (by omega)
    have e2 := hb (x / 256) (by omega)
    rw [e1, IntWalk.i64_in _ (by omega)]
    refine done_same ⟨int_eq ?_, rfl⟩
    rw [Lib.bitLen_shift8 x (by omega) (by omega)]
    omega
  · have e1 := hT' x (by omega)
    have e2 := hb x (by omega)
    rw [e1, IntWalk.i64_in _ (by omega)]
    refine done_same ⟨int_eq ?_, rfl⟩
    omega
theorem log10Pow2_c (x : Nat) (H : List AObj) (hx : x ≤ 64) : ACalls Tryz.prog 155 [.lit (.int .i64 x)] H (fun y H' => y = .lit (.int .i64 ((Lib.l10 x : Nat) : Int)) ∧ H' = H) := by
  refine acalls_vc L_ok mixed [] (rs := [.tmp 2]) (n := 6) Tryz.func155 rfl rfl rfl rfl (Nat.le_of_ble_eq_true rfl) (by kernel_rfl) ?_
  repeat' (first | refine unhold ?_ | (simp -dsimp -implicitDefEqProofs (disch := (first | assumption | omega | (simp only [ll1, ll2, ll3, ll4, ll5, ll6, ll7, ll8]; omega))) only [go_sem]) | refine vcI (fun _ => ?_) (fun _ => ?_) | (refine vcA ?_ ?_; focus (repeat' (first | omega | assumption | refine vcA ?_ ?_); done)) | omega | refine imp_in (fun _ => ?_))
  refine done_same ⟨int_eq ?_, rfl⟩
  unfold Lib.l10
  omega
theorem bool2_c (b : Bool) (H : List AObj) : ACalls Tryz.prog 157 [.lit (.bool b)] H (fun y H' => y = .lit (.int .i64 (if b then 1 else 0)) ∧ H' = H) := by
  cases b
  all_goals
    refine acalls_vc L_ok mixed [] (rs := [.tmp 2]) (n := 4) Tryz.func157 rfl rfl rfl rfl (Nat.le_of_ble_eq_true rfl) (by kernel_rfl) ?_
    repeat' (first | refine unhold ?_ | (simp -dsimp -implicitDefEqProofs (disch := (first | assumption | omega | (simp only [ll1, ll2, ll3, ll4, ll5, ll6, ll7, ll8]; omega))) only [go_sem]) | refine vcI (fun _ => ?_) (fun _ => ?_) | (refine vcA ?_ ?_; focus (repeat' (first | omega | assumption | refine vcA ?_ ?_); done)) | omega | refine imp_in (fun _ => ?_))
    exact done_same ⟨rfl, rfl⟩
theorem small_c (i : Nat) (H : List AObj) (hi : i < 100) : ACalls Tryz.prog 139 [.lit (.int .i64 i)] H (fun y H' => y = .str (Lib.decDigits i) ∧ H' = H) := by
  by_cases h : i < 10
  · have ht : ((i : Int) < 10) = True := eq_true (by omega)
    refine acalls_vc L_ok mixed [] (rs := [.tmp 2]) (n := 15) Tryz.func139 rfl rfl rfl rfl (Nat.le_of_ble_eq_true rfl) (by kernel_rfl) ?_
    go_name_bytes B hB
    have hBs : B = Lib.digits36 := by rw [← hB]; decide +kernel
    have hl : B.data.toList.length = 36 := by rw [hBs]; exact Lib.digits36_size
    clear hB
    repeat' (first | refine unhold ?_ | (simp -dsimp -implicitDefEqProofs (disch := (first | assumption | omega | (simp only [ll1, ll2, ll3, ll4, ll5, ll6, ll7, ll8]; omega))) only [go_sem, ht, hl]) | refine vcI (fun _ => ?_) (fun _ => ?_) | (refine vcA ?_ ?_; focus (repeat' (first | omega | assumption | refine vcA ?_ ?_); done)) | omega | refine imp_in (fun _ => ?_))
    have := Lib.digits36_piece h
    rw [← hBs] at this
    rw [show ((i : Int) + 1).toNat = i + 1 by omega, this]
    exact done_same ⟨rfl, rfl⟩
  · have ht : ((i : Int) < 10) = False := eq_false (by omega)
    refine acalls_vc L_ok mixed [] (rs := [.tmp 2]) (n := 15) Tryz.func139 rfl rfl rfl rfl (Nat.le_of_ble_eq_true rfl) (by kernel_rfl) ?_
    go_name_bytes B hB
    go_name_bytes C hC
    have hCs : C = Lib.smalls := by rw [← hC]; decide +kernel
    have hl : C.data.toList.length = 200 := by rw [hCs]; exact Lib.smalls_size
    clear hB hC
    repeat' (first | refine unhold ?_ | (simp -dsimp -implicitDefEqProofs (disch := (first | assumption | omega | (simp only [ll1, ll2, ll3, ll4, ll5, ll6, ll7, ll8]; omega))) only [go_sem, ht, hl]) | refine vcI (fun _ => ?_) (fun _ => ?_) | (refine vcA ?_ ?_; focus (repeat' (first | omega | assumption | refine vcA ?_ ?_); done)) | omega | refine imp_in (fun _ => ?_))
    have := Lib.smalls_piece h hi
    rw [← hCs] at this
    rw [show ((i : Int) * 2 + 2).toNat = i * 2 + 2 by omega, show ((i : Int) * 2).toNat = i * 2 by omega, this]
    exact done_same ⟨rfl, rfl⟩
theorem numDigits_c (u : Nat) (H : List AObj) (h1 : 1 ≤ u) (h2 : u < 18446744073709551616) : ACalls Tryz.prog 140 [.lit (.int .u64 u)] H (fun y H' => y = .lit (.int .i64 ((Lib.nDigits u : Nat) : Int)) ∧ H' = H) := by
  obtain ⟨e1, e2⟩ := Lib.numDigits_eq u h1 h2
  have e3 := Lib.bitLen_le u 64 (Nat.le_refl _) h2
  have cL := fun H => Len64_c u H h2
  have cP := fun H => log10Pow2_c (Lib.bitLen u) H e3
  generalize Lib.l10 (Lib.bitLen u) = q at *
  have hg : globAV 9 = .ip (.agg pow10AV) := glob_pow10 rfl rfl
  have hp := pow10_at (i := q) (by omega)
  refine acalls_vc L_ok mixed [] (rs := [.tmp 2]) (n := 15) Tryz.func140 rfl rfl rfl rfl (Nat.le_of_ble_eq_true rfl) (by kernel_rfl) ?_
  repeat' (first | refine unhold ?_ | (simp -dsimp -implicitDefEqProofs (disch := (first | assumption | omega | (simp only [ll1, ll2, ll3, ll4, ll5, ll6, ll7, ll8]; omega))) only [go_sem, hg, hp, pow10AV_len]) | refine acalls_same (cL _) ?_ | refine ⟨_, cL _, ?_⟩ | refine ⟨_, _, cL _, ?_⟩ | refine acalls_same (cP _) ?_ | refine ⟨_, cP _, ?_⟩ | refine ⟨_, _, cP _, ?_⟩ | refine acalls_same (bool2_c _ _) ?_ | refine ⟨_, bool2_c _ _, ?_⟩ | refine ⟨_, _, bool2_c _ _, ?_⟩ | refine vcI (fun _ => ?_) (fun _ => ?_) | (refine vcA ?_ ?_; focus (repeat' (first | omega | assumption | refine vcA ?_ ?_); done)) | omega | refine imp_in (fun _ => ?_))
  refine done_same ⟨int_eq ?_, rfl⟩
  rw [← e1]
  by_cases h : 10 ^ q ≤ u
  · have hc : ((10 ^ q : Nat) : Int) ≤ (u : Int) := Int.ofNat_le.mpr h
    simp only [if_pos h, if_pos hc]
    omega
  · have hc : ¬ ((10 ^ q : Nat) : Int) ≤ (u : Int) := fun h' => h (Int.ofNat_le.mp h')
    simp only [if_neg h, if_neg hc]
    omega
end Go.Proofs.YtdahdbnfknmmgaaGreatDoor
end

section
set_option linter.unusedSimpArgs false
set_option linter.unusedVariables false
namespace Go.Proofs.YtdahdbnfknmmgaaGreatDoor
open Go V
set_option maxRecDepth 10000
set_option maxHeartbeats 600000
/-- An object of 24 bytes: a zero, the row, zeros. -/
def c24 (d : Array UInt8) : List AV := byteAV 0 :: (d.toList.map byteAV ++ List.replicate (23 - d.size) (AV.lit (.int .u8 0)))
theorem c24_len {d : Array UInt8} (h : d.size ≤ 23) : (c24 d).length = 24 := by
  unfold c24
  simp
  omega
theorem c24_set {d : Array UInt8} {i j : Nat} {v : Int} (x : UInt8) (h : i < d.size) (hj : j = 1 + i) (hv : v = (x.toNat : Int)) : (c24 d).set j (AV.lit (.int .u8 v)) = c24 (d.setIfInBounds i x) := by
  subst hj hv
  unfold c24
  rw [show 1 + i = i + 1 by omega, List.set_cons_succ, List.set_append_left _ _ (by simp; exact h)]
  rw [Array.toList_setIfInBounds, Array.size_setIfInBounds, List.map_set]
  rfl
/-- A pair of digits laid. -/
def twoD (d : Array UInt8) (k w : Nat) : Array UInt8 := (d.setIfInBounds (k + 1) (Lib.sm (w * 2 + 1))).setIfInBounds k (Lib.sm (w * 2))
theorem twoD_size (d : Array UInt8) (k w : Nat) : (twoD d k w).size = d.size := by simp [twoD]
theorem two_inv {nd0 u k v : Nat} {d : Array UInt8} (h : Lib.FmtInv nd0 u (k + 2) v d) : Lib.FmtInv nd0 u k (v / 100) (twoD d k (v % 100)) := h.step2'
theorem c24_two {B : ByteArray} {d : Array UInt8} {i1 i0 a1 a0 : Nat} (k w : Nat) (hB : B = Lib.smalls) (hk : k + 1 < d.size) (h1 : i1 = w * 2 + 1) (h0 : i0 = w * 2) (ha1 : a1 = 1 + (k + 1)) (ha0 : a0 = 1 + k) :
    ((c24 d).set a1 (AV.lit (.int .u8 (((B.data.toList.getD i1 0).toNat : Nat) : Int)))).set a0 (AV.lit (.int .u8 (((B.data.toList.getD i0 0).toNat : Nat) : Int))) = c24 (twoD d k w) := by
  subst hB h1 h0
  show ((c24 d).set a1 (AV.lit (.int .u8 (((Lib.sm (w * 2 + 1)).toNat : Nat) : Int)))).set a0 (AV.lit (.int .u8 (((Lib.sm (w * 2)).toNat : Nat) : Int))) = _
  rw [c24_set (i := k + 1) (Lib.sm (w * 2 + 1)) hk ha1 rfl, c24_set (i := k) (Lib.sm (w * 2)) (by simp; omega) ha0 rfl]
  rfl
theorem c24_one {d : Array UInt8} {z : Int} (w : Nat) (h : 0 < d.size) (hw : w < 10) (hz : z = 48 + (w : Int)) : (c24 d).set 1 (AV.lit (.int .u8 z)) = c24 (d.setIfInBounds 0 (UInt8.ofNat (48 + w))) :=
  c24_set (UInt8.ofNat (48 + w)) h rfl (by
    rw [hz, UInt8.toNat_ofNat_of_lt' (by show 48 + w < 256; omega)]
    omega)
theorem format_c (u : Nat) (d0 : Array UInt8) (H : List AObj) (hd : d0.size = Lib.nDigits u) (h2 : u < 18446744073709551616) (h3 : d0.size ≤ 20) :
    ACalls Tryz.prog 141 [.msl H.length 1 d0.size 23, .lit (.int .u64 u)] (H ++ [.cells (.one 180) (c24 d0)]) (fun y H' => ∃ dk v', Lib.FmtInv d0.size u 0 v' dk ∧ y = .tup [] ∧ H' = H ++ [.cells (.one 180) (c24 dk)]) := by
  have hst : Lib.FmtInv d0.size u d0.size u d0 := Lib.FmtInv.start d0 u (by rw [hd]; exact Lib.lt_pow_nDigits u)
  refine acalls_vc L_ok mixed [1000007, 1000008, 1000009, 1000010, 1000017, 1000018, 1000023] (rs := []) (n := 167) Tryz.func141 rfl rfl rfl rfl (Nat.le_of_ble_eq_true rfl) (by kernel_rfl) ?_
  go_name_bytes B hB
  have hBs : B = Lib.smalls := by rw [← hB]; decide +kernel
  have hl : B.data.toList.length = 200 := by rw [hBs]; exact Lib.smalls_size
  clear hB
  repeat' (first | refine unhold ?_ | (simp -dsimp -implicitDefEqProofs (disch := (first | assumption | omega | (simp only [ll1, ll2, ll3, ll4, ll5, ll6, ll7, ll8]; omega))) only [go_sem]) | refine vcI (fun _ => ?_) (fun _ => ?_) | (refine vcA ?_ ?_; focus (repeat' (first | omega | assumption | refine vcA ?_ ?_); done)) | omega | refine imp_in (fun _ => ?_))
  refine vc_loopk L_ok mixed [1000007, 1000008, 1000009, 1000010, 1000017, 1000018, 1000023] [0] (fun (x : Nat × Nat × Array UInt8) => Lib.FmtInv d0.size u x.1 x.2.1 x.2.2) (fun x => [(4, .int .i64 x.1), (1, .int .u64 x.2.1)]) (fun x => H ++ [.cells (.one 180) (c24 x.2.2)]) (fun x => x.1) (by kernel_rfl) ?_ (d0.size, u, d0) hst env_ok rfl
  rintro ⟨nd, v, d⟩ hI
  dsimp only at *
  by_cases h8 : 8 ≤ nd
  · have hc : ((nd : Int) ≥ 8) = True := eq_true (by omega)
    have hle := hI.le
    have hcl := c24_len (d := d) (by rw [hI.size]; omega)
    obtain ⟨k, rfl⟩ : ∃ k, nd = k + 8 := ⟨nd - 8, by omega⟩
    have hvb : v < 18446744073709551616 := by
      rw [hI.rest]
      exact Nat.lt_of_le_of_lt (Nat.div_le_self _ _) h2
    have j1 := two_inv (k := k + 6) hI
    have j2 := two_inv (k := k + 4) j1
    have j3 := two_inv (k := k + 2) j2
    have j4 := two_inv (k := k) j3
    have hs := hI.size
    generalize hv4 : v / 100 / 100 / 100 / 100 = v4 at j4
    generalize hd4 : twoD (twoD (twoD (twoD d (k + 6) (v % 100)) (k + 4) (v / 100 % 100)) (k + 2) (v / 100 / 100 % 100)) k (v / 100 / 100 / 100 % 100) = d4 at j4
    clear j1 j2 j3
    repeat' (first | refine unhold ?_ | (simp -dsimp -implicitDefEqProofs (disch := (first | assumption | omega | (simp only [ll1, ll2, ll3, ll4, ll5, ll6, ll7, ll8]; omega))) only [go_sem, hc, hl, hcl]) | refine vcI (fun _ => ?_) (fun _ => ?_) | (refine vcA ?_ ?_; focus (repeat' (first | omega | assumption | refine vcA ?_ ?_); done)) | omega | refine imp_in (fun _ => ?_))
    refine again ((k, v4, d4)) ?_ ?_ ?_ env_ok
    · show k < k + 8
      omega
    · exact j4
    · rw [c24_two (d := d) (k + 6) (v % 100) hBs (by omega) (by omega) (by omega) (by omega) (by omega),
        c24_two (k + 4) (v / 100 % 100) hBs (by rw [twoD_size]; omega) (by omega) (by omega) (by omega) (by omega),
        c24_two (k + 2) (v / 100 / 100 % 100) hBs (by rw [twoD_size, twoD_size]; omega) (by omega) (by omega) (by omega) (by omega),
        c24_two k (v / 100 / 100 / 100 % 100) hBs (by rw [twoD_size, twoD_size, twoD_size]; omega) (by omega) (by omega) (by omega) (by omega), hd4]
  · have hc : ((nd : Int) ≥ 8) = False := eq_false (by omega)
    have hv7 := hI.lt7 (by omega)
    have hcl := c24_len (d := d) (by rw [hI.size]; omega)
    have hle := hI.le
    have hs := hI.size
    repeat' (first | refine unhold ?_ | (simp -dsimp -implicitDefEqProofs (disch := (first | assumption | omega | (simp only [ll1, ll2, ll3, ll4, ll5, ll6, ll7, ll8]; omega))) only [go_sem, hc, hl, hcl]) | refine vcI (fun _ => ?_) (fun _ => ?_) | (refine vcA ?_ ?_; focus (repeat' (first | omega | assumption | refine vcA ?_ ?_); done)) | omega | refine imp_in (fun _ => ?_))
    · obtain rfl : nd = 7 := by omega
      have j1 := two_inv (k := 5) hI
      have j2 := two_inv (k := 3) j1
      have j3 := two_inv (k := 1) j2
      have e1 : v / 100 / 100 / 100 < 10 := by simpa using j3.small
      refine done_keep _ (Le.refl _) (by simp) ⟨_, _, j3.step1, rfl, ?_⟩
      rw [c24_two (d := _) 5 (v % 100) hBs (by (try simp only [twoD_size]); omega) (by omega) (by omega) (by omega) (by omega), c24_two (d := _) 3 (v / 100 % 100) hBs (by (try simp only [twoD_size]); omega) (by omega) (by omega) (by omega) (by omega), c24_two (d := _) 1 (v / 100 / 100 % 100) hBs (by (try simp only [twoD_size]); omega) (by omega) (by omega) (by omega) (by omega), c24_one (v / 100 / 100 / 100) (by (try simp only [twoD_size]); omega) e1 (by omega)]
    · obtain rfl : nd = 6 := by omega
      have j1 := two_inv (k := 4) hI
      have j2 := two_inv (k := 2) j1
      have j3 := two_inv (k := 0) j2
      refine done_keep _ (Le.refl _) (by simp) ⟨_, _, j3, rfl, ?_⟩
      rw [c24_two (d := _) 4 (v % 100) hBs (by (try simp only [twoD_size]); omega) (by omega) (by omega) (by omega) (by omega), c24_two (d := _) 2 (v / 100 % 100) hBs (by (try simp only [twoD_size]); omega) (by omega) (by omega) (by omega) (by omega), c24_two (d := _) 0 (v / 100 / 100 % 100) hBs (by (try simp only [twoD_size]); omega) (by omega) (by omega) (by omega) (by omega)]
    · obtain rfl : nd = 5 := by omega
      have j1 := two_inv (k := 3) hI
      have j2 := two_inv (k := 1) j1
      have e1 : v / 100 / 100 < 10 := by simpa using j2.small
      refine done_keep _ (Le.refl _) (by simp) ⟨_, _, j2.step1, rfl, ?_⟩
      rw [IntWalk.u8_in (48 + (v : Int) / 10000) (by omega)]
      rw [c24_two (d := _) 3 (v % 100) hBs (by (try simp only [twoD_size]); omega) (by omega) (by omega) (by omega) (by omega), c24_two (d := _) 1 (v / 100 % 100) hBs (by (try simp only [twoD_size]); omega) (by omega) (by omega) (by omega) (by omega), c24_one (v / 100 / 100) (by (try simp only [twoD_size]); omega) e1 (by omega)]
    · obtain rfl : nd = 4 := by omega
      have j1 := two_inv (k := 2) hI
      have j2 := two_inv (k := 0) j1
      refine done_keep _ (Le.refl _) (by simp) ⟨_, _, j2, rfl, ?_⟩
      rw [c24_two (d := _) 2 (v % 100) hBs (by (try simp only [twoD_size]); omega) (by omega) (by omega) (by omega) (by omega), c24_two (d := _) 0 (v / 100 % 100) hBs (by (try simp only [twoD_size]); omega) (by omega) (by omega) (by omega) (by omega)]
    · obtain rfl : nd = 3 := by omega
      have j1 := two_inv (k := 1) hI
      have e1 : v / 100 < 10 := by simpa using j1.small
      refine done_keep _ (Le.refl _) (by simp) ⟨_, _, j1.step1, rfl, ?_⟩
      rw [IntWalk.u8_in (48 + (v : Int) / 100) (by omega)]
      rw [c24_two (d := _) 1 (v % 100) hBs (by (try simp only [twoD_size]); omega) (by omega) (by omega) (by omega) (by omega), c24_one (v / 100) (by (try simp only [twoD_size]); omega) e1 (by omega)]
    · obtain rfl : nd = 2 := by omega
      have j1 := two_inv (k := 0) hI
      refine done_keep _ (Le.refl _) (by simp) ⟨_, _, j1, rfl, ?_⟩
      rw [c24_two (d := _) 0 (v % 100) hBs (by (try simp only [twoD_size]); omega) (by omega) (by omega) (by omega) (by omega)]
    · obtain rfl : nd = 1 := by omega
      have e1 : v < 10 := by simpa using hI.small
      refine done_keep _ (Le.refl _) (by simp) ⟨_, _, hI.step1, rfl, ?_⟩
      rw [IntWalk.u8_in (48 + (v : Int)) (by omega)]
      rw [c24_one (v) (by (try simp only [twoD_size]); omega) e1 (by omega)]
    · obtain rfl : nd = 0 := by omega
      refine done_keep _ (Le.refl _) (by simp) ⟨_, _, hI, rfl, ?_⟩
      rfl
end Go.Proofs.YtdahdbnfknmmgaaGreatDoor
end

section
set_option linter.unusedSimpArgs false
set_option linter.unusedVariables false
namespace Go.Proofs.YtdahdbnfknmmgaaGreatDoor
open Go V
set_option maxRecDepth 10000
set_option maxHeartbeats 1000000
def l24 (l : List UInt8) : List AV := byteAV 0 :: (l.map byteAV ++ List.replicate (23 - l.length) (AV.lit (.int .u8 0)))
theorem c24_zero {n : Nat} (h : n ≤ 23) : c24 (Array.replicate n 0) = List.replicate 24 (AV.lit (.int .u8 0)) := by
  unfold c24
  have e : byteAV 0 = AV.lit (.int .u8 0) := rfl
  rw [Array.toList_replicate, List.map_replicate, Array.size_replicate, e, List.replicate_append_replicate, show n + (23 - n) = 23 by omega]
  rfl
theorem c24_done {u v' : Nat} {dk : Array UInt8} (h : Lib.FmtInv (Lib.nDigits u) u 0 v' dk) : c24 dk = l24 (Lib.decDigits u) := by
  have e : dk.toList = Lib.decDigits u := by
    refine List.ext_getElem (by rw [Array.length_toList, h.size, Lib.decDigits_length]) fun j h1 h2 => ?_
    rw [Lib.row_is_numeral h j h2, Array.getElem_toList]
    exact (getElem!_pos dk j (by simpa using h1)).symm
  unfold c24 l24
  rw [e, h.size, Lib.decDigits_length]
theorem l24_len {l : List UInt8} (h : l.length ≤ 23) : (l24 l).length = 24 := by
  unfold l24
  simp
  omega
theorem l24_neg {l : List UInt8} {n : Nat} (h : l.length = n) : ((l24 l).set 0 (AV.lit (.int .u8 45))).take (n + 1) = (45 :: l).map byteAV := by
  subst h
  unfold l24
  rw [List.set_cons_zero, List.take_succ_cons, List.take_left' (by simp)]
  rfl
theorem l24_pos {l : List UInt8} {n : Nat} (h : l.length = n) : ((l24 l).drop 1).take n = l.map byteAV := by
  subst h
  unfold l24
  rw [List.drop_succ_cons, List.drop_zero, List.take_left' (by simp)]
theorem nDigits_20 {u : Nat} (h : u < 18446744073709551616) : Lib.nDigits u ≤ 20 := by
  rcases Nat.eq_zero_or_pos u with e | e
  · subst e
    rw [Lib.nDigits_small (by omega)]
    omega
  · have := Lib.numDigits_eq u e h
    split at this <;> omega
theorem format_f (u : Nat) (H : List AObj) (h2 : u < 18446744073709551616) :
    ACalls Tryz.prog 141 [.msl H.length 1 (Lib.nDigits u) 23, .lit (.int .u64 u)] (H ++ [.cells (.one 180) (List.replicate 24 (AV.lit (.int .u8 0)))]) (fun y H' => y = .tup [] ∧ H' = H ++ [.cells (.one 180) (l24 (Lib.decDigits u))]) := by
  have hn := nDigits_20 h2
  have := format_c u (Array.replicate (Lib.nDigits u) 0) H (by simp) h2 (by simpa using hn)
  rw [c24_zero (by omega), Array.size_replicate] at this
  refine this.mono fun _ H' ⟨dk, v', hI, ey, e⟩ => ⟨ey, ?_⟩
  rw [e, c24_done hI]
theorem FormatInt_c (i : Int) (H : List AObj) (h1 : -9223372036854775808 < i) (h2 : i < 9223372036854775808) : ACalls Tryz.prog 123 [.lit (.int .i64 i), .lit (.int .i64 10)] H (fun y H' => y = .str (Lib.itoa i) ∧ H' = H) := by
  by_cases hs : 0 ≤ i ∧ i < 100
  · obtain ⟨n, rfl⟩ := Int.eq_ofNat_of_zero_le hs.1
    have hc1 : ((0 : Int) ≤ (n : Int)) = True := eq_true (by omega)
    have hc2 : ((n : Int) < 100) = True := eq_true (by omega)
    rw [Lib.itoa_nonneg]
    refine acalls_vc L_ok mixed [5] (rs := [.tmp 4]) (n := 54) Tryz.func123 rfl rfl rfl rfl (Nat.le_of_ble_eq_true rfl) (by kernel_rfl) ?_
    repeat' (first | refine unhold ?_ | (simp -dsimp -implicitDefEqProofs (disch := (first | assumption | omega | (simp only [ll1, ll2, ll3, ll4, ll5, ll6, ll7, ll8]; omega))) only [go_sem, hc1, hc2]) | refine acalls_same (small_c _ _ (by omega)) ?_ | refine ⟨_, small_c _ _ (by omega), ?_⟩ | refine ⟨_, _, small_c _ _ (by omega), ?_⟩ | refine vcI (fun _ => ?_) (fun _ => ?_) | (refine vcA ?_ ?_; focus (repeat' (first | omega | assumption | refine vcA ?_ ?_); done)) | omega | refine imp_in (fun _ => ?_))
    exact done_same ⟨rfl, rfl⟩
  · by_cases hn : i < 0
    · obtain ⟨u, rfl⟩ : ∃ u : Nat, i = -(u : Int) := ⟨i.natAbs, by omega⟩
      have hc1 : ((0 : Int) ≤ -(u : Int)) = False := eq_false (by omega)
      have hc2 : (-(u : Int) < 0) = True := eq_true (by omega)
      have hd := nDigits_20 (u := u) (by omega)
      have hz : (1 + ((Lib.nDigits u : Nat) : Int)).toNat - 1 = Lib.nDigits u := by omega
      have hl := Lib.decDigits_length u
      have hu1 : IntKind.u64.wrap (-(u : Int)) = 18446744073709551616 - (u : Int) := by
        show (-(u : Int)) % 18446744073709551616 = _
        omega
      have hu2 : IntKind.u64.wrap (0 - (18446744073709551616 - (u : Int))) = (u : Int) := by
        show (0 - (18446744073709551616 - (u : Int))) % 18446744073709551616 = _
        omega
      rw [Lib.itoa_neg u (by omega)]
      refine acalls_vc L_ok mixed [5] (rs := [.tmp 4]) (n := 54) Tryz.func123 rfl rfl rfl rfl (Nat.le_of_ble_eq_true rfl) (by kernel_rfl) ?_
      have hl24 := l24_len (l := Lib.decDigits u) (by omega)
      have hn1 := l24_neg hl
      have hz2 : (1 + ((Lib.nDigits u : Nat) : Int)).toNat - 0 = Lib.nDigits u + 1 := by omega
      repeat' (first | refine unhold ?_ | (simp -dsimp -implicitDefEqProofs (disch := (first | assumption | omega | (simp only [ll1, ll2, ll3, ll4, ll5, ll6, ll7, ll8]; omega))) only [go_sem, hc1, hc2, hu1, hu2, hz, hz2, hl24, hn1]) | refine acalls_same (numDigits_c _ _ ?_ ?_) ?_ | refine ⟨_, numDigits_c _ _ ?_ ?_, ?_⟩ | refine ⟨_, _, numDigits_c _ _ ?_ ?_, ?_⟩ | refine acalls_same (format_f _ _ ?_) ?_ | refine ⟨_, format_f _ _ ?_, ?_⟩ | refine ⟨_, _, format_f _ _ ?_, ?_⟩ | refine vcI (fun _ => ?_) (fun _ => ?_) | (refine vcA ?_ ?_; focus (repeat' (first | omega | assumption | refine vcA ?_ ?_); done)) | omega | refine imp_in (fun _ => ?_))
      · exact isBytes_map (45 :: Lib.decDigits u)
      · rw [show unbytes (byteAV 45 :: (Lib.decDigits u).map byteAV) = 45 :: Lib.decDigits u from unbytes_map (45 :: Lib.decDigits u)]
        exact done_cut _ (Le.refl _) (.str _) ⟨rfl, rfl⟩
    · obtain ⟨u, rfl⟩ := Int.eq_ofNat_of_zero_le (show 0 ≤ i by omega)
      have hc1 : ((0 : Int) ≤ (u : Int)) = True := eq_true (by omega)
      have hc2 : ((u : Int) < 0) = False := eq_false (by omega)
      have hc3 : ((u : Int) < 100) = False := eq_false (by omega)
      have hd := nDigits_20 (u := u) (by omega)
      have hz : (1 + ((Lib.nDigits u : Nat) : Int)).toNat - 1 = Lib.nDigits u := by omega
      have hl := Lib.decDigits_length u
      rw [Lib.itoa_nonneg]
      refine acalls_vc L_ok mixed [5] (rs := [.tmp 4]) (n := 54) Tryz.func123 rfl rfl rfl rfl (Nat.le_of_ble_eq_true rfl) (by kernel_rfl) ?_
      have hl24 := l24_len (l := Lib.decDigits u) (by omega)
      have hp1 := l24_pos hl
      repeat' (first | refine unhold ?_ | (simp -dsimp -implicitDefEqProofs (disch := (first | assumption | omega | (simp only [ll1, ll2, ll3, ll4, ll5, ll6, ll7, ll8]; omega))) only [go_sem, hc1, hc2, hc3, hz, hl24, hp1]) | refine acalls_same (numDigits_c _ _ ?_ ?_) ?_ | refine ⟨_, numDigits_c _ _ ?_ ?_, ?_⟩ | refine ⟨_, _, numDigits_c _ _ ?_ ?_, ?_⟩ | refine acalls_same (format_f _ _ ?_) ?_ | refine ⟨_, format_f _ _ ?_, ?_⟩ | refine ⟨_, _, format_f _ _ ?_, ?_⟩ | refine vcI (fun _ => ?_) (fun _ => ?_) | (refine vcA ?_ ?_; focus (repeat' (first | omega | assumption | refine vcA ?_ ?_); done)) | omega | refine imp_in (fun _ => ?_))
      exact done_cut _ (Le.refl _) (.str _) ⟨rfl, rfl⟩
theorem Itoa_i (i : Int) (H : List AObj) (h1 : -9223372036854775808 < i) (h2 : i < 9223372036854775808) : ACalls Tryz.prog 101 [.lit (.int .i64 i)] H (fun y H' => y = .str (Lib.itoa i) ∧ H' = H) := by
  have c := fun H => FormatInt_c i H h1 h2
  refine acalls_vc L_ok mixed [] (rs := [.tmp 2]) (n := 5) Tryz.func101 rfl rfl rfl rfl (Nat.le_of_ble_eq_true rfl) (by kernel_rfl) ?_
  repeat' (first | refine unhold ?_ | (simp -dsimp -implicitDefEqProofs (disch := (first | assumption | omega | (simp only [ll1, ll2, ll3, ll4, ll5, ll6, ll7, ll8]; omega))) only [go_sem]) | refine acalls_same (c _) ?_ | refine ⟨_, c _, ?_⟩ | refine ⟨_, _, c _, ?_⟩ | refine vcI (fun _ => ?_) (fun _ => ?_) | (refine vcA ?_ ?_; focus (repeat' (first | omega | assumption | refine vcA ?_ ?_); done)) | omega | refine imp_in (fun _ => ?_))
  exact done_same ⟨rfl, rfl⟩
theorem Itoa_c (i : Int) (H : List AObj) (h1 : -9223372036854775808 < i) (h2 : i < 9223372036854775808) : ACalls Tryz.prog 69 [.lit (.int .i64 i)] H (fun y H' => y = .str (Lib.itoa i) ∧ H' = H) := by
  have c := fun H => Itoa_i i H h1 h2
  refine acalls_vc L_ok mixed [] (rs := [.tmp 2]) (n := 5) Tryz.func69 rfl rfl rfl rfl (Nat.le_of_ble_eq_true rfl) (by kernel_rfl) ?_
  repeat' (first | refine unhold ?_ | (simp -dsimp -implicitDefEqProofs (disch := (first | assumption | omega | (simp only [ll1, ll2, ll3, ll4, ll5, ll6, ll7, ll8]; omega))) only [go_sem]) | refine acalls_same (c _) ?_ | refine ⟨_, c _, ?_⟩ | refine ⟨_, _, c _, ?_⟩ | refine vcI (fun _ => ?_) (fun _ => ?_) | (refine vcA ?_ ?_; focus (repeat' (first | omega | assumption | refine vcA ?_ ?_); done)) | omega | refine imp_in (fun _ => ?_))
  exact done_same ⟨rfl, rfl⟩
end Go.Proofs.YtdahdbnfknmmgaaGreatDoor
end

section
set_option linter.unusedSimpArgs false
set_option linter.unusedVariables false
namespace Go.Proofs.YtdahdbnfknmmgaaGreatDoor
open Go V
set_option maxRecDepth 10000
mutual
def trT : JV → bytes → bytes
  | .mk k n t ns is, o =>
    if 8192 < o.length then o
    else if k = 5 then itT false is true ns (o ++ [91]) ++ [93]
    else if k = 6 then itT true is true ns (o ++ [123]) ++ [125]
    else o ++ printP (.mk k n t ns is)
def itT (obj : Bool) : List JV → Bool → List bytes → bytes → bytes
  | [], _, _, o => o
  | v :: r, first, ns, o => itT obj r false ns.tail (trT v (o ++ headP first obj (ns.headD [])))
end
theorem trT_eq (v : JV) (o : bytes) : trT v o = if 8192 < o.length then o else if v.kind = 5 then itT false v.items true v.names (o ++ [91]) ++ [93] else if v.kind = 6 then itT true v.items true v.names (o ++ [123]) ++ [125] else o ++ printP v := by
  cases v; rw [trT]; rfl
theorem itT_nil (obj first : Bool) (ns : List bytes) (o : bytes) : itT obj [] first ns o = o := by rw [itT]
theorem itT_cons (obj first : Bool) (ns : List bytes) (v : JV) (r : List JV) (o : bytes) : itT obj (v :: r) first ns o = itT obj r false ns.tail (trT v (o ++ headP first obj (ns.headD []))) := by rw [itT]
/-- What is laid instead of p behind o. -/
def Cut (o p x : bytes) : Prop := o.length ≤ x.length ∧ x.length ≤ o.length + p.length ∧ (x = o ++ p ∨ (8192 < x.length ∧ 8192 < o.length + p.length))
theorem cut_self (o p : bytes) : Cut o p (o ++ p) := ⟨by simp, by simp, .inl rfl⟩
theorem cut_trans {o p q x y : bytes} (h : Cut o p x) (k : Cut x q y) : Cut o (p ++ q) y := by
  obtain ⟨h1, h2, h3⟩ := h
  obtain ⟨k1, k2, k3⟩ := k
  refine ⟨by omega, by rw [List.length_append]; omega, ?_⟩
  rw [List.length_append]
  rcases h3 with rfl | h3
  · rcases k3 with rfl | k3
    · left; rw [List.append_assoc]
    · right; rw [List.length_append] at k3; omega
  · right; omega
theorem cut_add {o p x : bytes} (h : Cut o p x) (q : bytes) : Cut o (p ++ q) (x ++ q) := cut_trans h (cut_self x q)
theorem it_cut {obj : Bool} : ∀ (l : List JV) (first : Bool) (ns : List bytes) (o : bytes), (∀ x ∈ l, ∀ o, Cut o (printP x) (trT x o)) → Cut o (itemsP obj l first ns) (itT obj l first ns o)
  | [], first, ns, o, _ => by
    rw [itT_nil, itemsP_nil]
    have := cut_self o []
    rw [List.append_nil] at this
    exact this
  | v :: r, first, ns, o, h => by
    rw [itT_cons, itemsP_cons, ← List.append_assoc]
    exact cut_trans (cut_trans (cut_self o _) (h v (List.mem_cons_self ..) _)) (it_cut r false ns.tail _ fun x hx => h x (List.mem_cons_of_mem _ hx))
theorem tr_cut : ∀ (v : JV) (o : bytes), Cut o (printP v) (trT v o) := by
  refine JV.induct fun k n t ns is ih o => ?_
  rw [trT_eq]
  by_cases h : 8192 < o.length
  · rw [if_pos h]
    exact ⟨Nat.le_refl _, by omega, .inr ⟨h, by omega⟩⟩
  rw [if_neg h]
  by_cases h5 : k = 5
  · subst h5
    rw [printP_eq, kind_mk, if_pos rfl, if_neg (by decide), if_neg (by decide), if_neg (by decide), if_neg (by decide), if_pos rfl]
    exact cut_add (cut_trans (p := [91]) (cut_self o [91]) (it_cut is true ns _ ih)) [93]
  by_cases h6 : k = 6
  · subst h6
    rw [printP_eq, kind_mk, if_neg (by decide), if_pos rfl, if_neg (by decide), if_neg (by decide), if_neg (by decide), if_neg (by decide), if_neg (by decide), if_pos rfl]
    exact cut_add (cut_trans (p := [123]) (cut_self o [123]) (it_cut is true ns _ ih)) [125]
  rw [kind_mk, if_neg h5, if_neg h6]
  exact cut_self _ _
theorem tr_all (v : JV) : (8192 < (trT v []).length ↔ 8192 < (printP v).length) ∧ ((printP v).length ≤ 8192 → trT v [] = printP v) := by
  obtain ⟨h1, h2, h3⟩ := tr_cut v []
  simp only [List.length_nil, Nat.zero_add, List.nil_append] at h2 h3
  rcases h3 with h | h
  · rw [h]; exact ⟨Iff.rfl, fun _ => rfl⟩
  · exact ⟨⟨fun _ => h.2, fun _ => h.1⟩, fun k => by omega⟩
/-! The loop over the items: what is left behind the place i. -/
theorem headD_drop {α : Type} (l : List α) (i : Nat) (d : α) : (l.drop i).headD d = l.getD i d := by
  rw [List.headD_eq_head?_getD, List.head?_drop, List.getD]
theorem itT_at {obj : Bool} {v : JV} {i : Nat} (h : i < v.items.length) (o : bytes) : itT obj (v.items.drop i) (i == 0) (v.names.drop i) o = itT obj (v.items.drop (i + 1)) (i + 1 == 0) (v.names.drop (i + 1)) (trT (v.items.getD i zeroJ) (o ++ headP (i == 0) obj (v.names.getD i []))) := by
  rw [drop_cons zeroJ h, itT_cons, headD_drop, List.tail_drop]
  rfl
theorem itemsP_at {obj : Bool} {v : JV} {i : Nat} (h : i < v.items.length) : itemsP obj (v.items.drop i) (i == 0) (v.names.drop i) = headP (i == 0) obj (v.names.getD i []) ++ (printP (v.items.getD i zeroJ) ++ itemsP obj (v.items.drop (i + 1)) (i + 1 == 0) (v.names.drop (i + 1))) := by
  rw [drop_cons zeroJ h, itemsP_cons, headD_drop, List.tail_drop]
  rfl
end Go.Proofs.YtdahdbnfknmmgaaGreatDoor
end

section
set_option linter.unusedSimpArgs false
set_option linter.unusedVariables false
namespace Go.Proofs.YtdahdbnfknmmgaaGreatDoor
open Go V
set_option maxRecDepth 10000
set_option maxHeartbeats 1000000
/-- The printer, at k, and its buffer's token, at m. -/
def pA (a : AV) (H : List AObj) (k m : Nat) (o : bytes) : List AObj := (H.set k (bObj 52 m a o)).set m (gObj o.length)
theorem pA_set {a b : AV} {H : List AObj} {k m : Nat} {o p : bytes} (h : k ≠ m) : ((pA a H k m o).set k (bObj 52 m b p)).set m (gObj p.length) = pA b H k m p := by
  unfold pA
  rw [List.set_comm _ _ (Ne.symm h), List.set_set, List.set_set]
theorem pA_len {a : AV} {H : List AObj} {k m : Nat} {o : bytes} : (pA a H k m o).length = H.length := by simp [pA]
structure PAt (H : List AObj) (k m : Nat) : Prop where
  kl : k < H.length
  ml : m < H.length
  ne : k ≠ m
theorem pA_k {a : AV} {H : List AObj} {k m : Nat} {o : bytes} (h : PAt H k m) : (pA a H k m o)[k]? = some (bObj 52 m a o) := by
  unfold pA
  rw [List.getElem?_set_ne h.ne.symm, List.getElem?_set_self h.kl]
theorem pA_m {a : AV} {H : List AObj} {k m : Nat} {o : bytes} (h : PAt H k m) : (pA a H k m o)[m]? = some (gObj o.length) := by
  unfold pA
  rw [List.getElem?_set_self (by rw [List.length_set]; exact h.ml)]
theorem bT_p : bT 52 := by unfold bT; kernel_rfl
theorem pByte {a : AV} {H : List AObj} {k m : Nat} {o : bytes} {z : Int} (c : UInt8) (hz : z = (c.toNat : Int)) (h : PAt H k m) (ha : bAddr k a) (hl : o.length ≤ 100000000) :
    ACalls Tryz.prog 50 [.mp k 0, .lit (.int .u8 z)] (pA a H k m o) (fun x H' => x = .lit .nilIface ∧ H' = pA (.mp k 0) H k m (o ++ [c])) := by
  subst hz
  have := WriteByte_c (c := c) bT_p (pA_k h) ha (pA_m h) hl
  rw [pA_set h.ne] at this
  exact this
theorem pString {a : AV} {H : List AObj} {k m : Nat} {o l : bytes} (h : PAt H k m) (ha : bAddr k a) (hl : o.length ≤ 100000000) (hl2 : l.length ≤ 100000000) :
    ACalls Tryz.prog 52 [.mp k 0, .str l] (pA a H k m o) (fun x H' => x = .tup [.int .i64 l.length, .lit .nilIface] ∧ H' = pA (.mp k 0) H k m (o ++ l)) := by
  have := WriteString_c (l := l) bT_p (pA_k h) ha (pA_m h) hl hl2
  rw [pA_set h.ne] at this
  exact this
theorem esc_cases (c : UInt8) : (∃ j, j < 7 ∧ idxB [34, 92, 8, 9, 10, 12, 13] c = ((j : Nat) : Int) ∧ escB c = [92, ([34, 92, 98, 116, 110, 102, 114] : bytes).getD j 0]) ∨ (idxB [34, 92, 8, 9, 10, 12, 13] c = -1 ∧ c.toNat < 32 ∧ escB c = [92, 117, 48, 48, hexS (c.toNat / 16), hexS (c.toNat % 16)]) ∨ (idxB [34, 92, 8, 9, 10, 12, 13] c = -1 ∧ ¬ c.toNat < 32 ∧ escB c = [c]) := by
  have : ∀ n : Fin 256, (∃ j, j < 7 ∧ idxB [34, 92, 8, 9, 10, 12, 13] (UInt8.ofNat n.val) = ((j : Nat) : Int) ∧ escB (UInt8.ofNat n.val) = [92, ([34, 92, 98, 116, 110, 102, 114] : bytes).getD j 0]) ∨ (idxB [34, 92, 8, 9, 10, 12, 13] (UInt8.ofNat n.val) = -1 ∧ (UInt8.ofNat n.val).toNat < 32 ∧ escB (UInt8.ofNat n.val) = [92, 117, 48, 48, hexS ((UInt8.ofNat n.val).toNat / 16), hexS ((UInt8.ofNat n.val).toNat % 16)]) ∨ (idxB [34, 92, 8, 9, 10, 12, 13] (UInt8.ofNat n.val) = -1 ∧ ¬ (UInt8.ofNat n.val).toNat < 32 ∧ escB (UInt8.ofNat n.val) = [UInt8.ofNat n.val]) := by decide +kernel
  have := this ⟨c.toNat, c.toNat_lt⟩
  simp only [UInt8.ofNat_toNat] at this
  exact this
theorem pquote_c {a : AV} {H : List AObj} {k m : Nat} {o : bytes} (s : bytes) (h : PAt H k m) (ha : bAddr k a) (hl : o.length ≤ 10000000) (hs : s.length ≤ 100000) :
    ACalls Tryz.prog 26 [.mp k 0, .str s] (pA a H k m o) (fun x H' => x = .tup [] ∧ H' = pA (.mp k 0) H k m (o ++ quoteP s)) := by
  refine acalls_vc L_ok mixed [1000009, 1000012, 1000013] (rs := []) (n := 65) Tryz.func26 rfl rfl rfl rfl (Nat.le_of_ble_eq_true rfl) (by kernel_rfl) ?_
  repeat' (first | refine unhold ?_ | (simp -dsimp -implicitDefEqProofs (disch := (first | assumption | omega | (simp only [ll1, ll2, ll3, ll4, ll5, ll6, ll7, ll8]; omega))) only [go_sem]) | refine acalls_same (pByte 34 rfl h ha (by omega)) ?_ | refine ⟨_, pByte 34 rfl h ha (by omega), ?_⟩ | refine ⟨_, _, pByte 34 rfl h ha (by omega), ?_⟩ | refine vcI (fun _ => ?_) (fun _ => ?_) | (refine vcA ?_ ?_; focus (repeat' (first | omega | assumption | refine vcA ?_ ?_); done)) | omega | refine imp_in (fun _ => ?_))
  refine vc_loopk L_ok mixed [1000009, 1000012, 1000013] [0, 1, 12] (fun i : Nat => i ≤ s.length) (fun i => [(13, .int .i64 i)]) (fun i => pA (.mp k 0) H k m (o ++ 34 :: (s.take i).flatMap escB)) (fun i => s.length - i) (by kernel_rfl) ?_ 0 (by omega) env_ok rfl
  intro i hi
  have hfl := flat_len (s.take i)
  have htl : (s.take i).length ≤ 100000 := by rw [List.length_take]; omega
  have hlo : (o ++ 34 :: (s.take i).flatMap escB).length ≤ 20000000 := by simp only [List.length_append, List.length_cons]; omega
  by_cases hil : i < s.length
  · have ht := flat_take hil
    generalize hc : s.getD i 0 = c at ht
    generalize hf : (s.take i).flatMap escB = f at *
    have hcl := c.toNat_lt
    rcases esc_cases c with ⟨j, hj, hi1, hi2⟩ | ⟨hi1, hi3, hi2⟩ | ⟨hi1, hi3, hi2⟩
    · have hI := fun H => IndexByte_c [34, 92, 8, 9, 10, 12, 13] c H
      rw [hi1] at hI
      rw [hi2] at ht
      repeat' (first | refine unhold ?_ | (simp -dsimp -implicitDefEqProofs (disch := (first | assumption | omega | (simp only [ll1, ll2, ll3, ll4, ll5, ll6, ll7, ll8]; omega))) only [go_sem, hc, List.length_append, List.length_cons, List.length_nil]) | refine acalls_same (hI _) ?_ | refine ⟨_, hI _, ?_⟩ | refine ⟨_, _, hI _, ?_⟩ | refine acalls_same (pByte 92 rfl h bAddr_k ?_) ?_ | refine ⟨_, pByte 92 rfl h bAddr_k ?_, ?_⟩ | refine ⟨_, _, pByte 92 rfl h bAddr_k ?_, ?_⟩ | refine acalls_same (pByte _ rfl h bAddr_k ?_) ?_ | refine ⟨_, pByte _ rfl h bAddr_k ?_, ?_⟩ | refine ⟨_, _, pByte _ rfl h bAddr_k ?_, ?_⟩ | refine vcI (fun _ => ?_) (fun _ => ?_) | (refine vcA ?_ ?_; focus (repeat' (first | omega | assumption | refine vcA ?_ ?_); done)) | omega | refine imp_in (fun _ => ?_))
      rw [← ht]
      refine again (i + 1) ?_ ?_ rfl env_ok
      · omega
      · omega
    · have hI := fun H => IndexByte_c [34, 92, 8, 9, 10, 12, 13] c H
      rw [hi1] at hI
      rw [hi2] at ht
      have hct : ((c.toNat : Int) < 32) = True := eq_true (by omega)
      repeat' (first | refine unhold ?_ | (simp -dsimp -implicitDefEqProofs (disch := (first | assumption | omega | (simp only [ll1, ll2, ll3, ll4, ll5, ll6, ll7, ll8]; omega))) only [go_sem, hc, hct, List.length_append, List.length_cons, List.length_nil]) | refine acalls_same (hI _) ?_ | refine ⟨_, hI _, ?_⟩ | refine ⟨_, _, hI _, ?_⟩ | refine acalls_same (pString h bAddr_k ?_ ?_) ?_ | refine ⟨_, pString h bAddr_k ?_ ?_, ?_⟩ | refine ⟨_, _, pString h bAddr_k ?_ ?_, ?_⟩ | refine acalls_same (pByte _ rfl h bAddr_k ?_) ?_ | refine ⟨_, pByte _ rfl h bAddr_k ?_, ?_⟩ | refine ⟨_, _, pByte _ rfl h bAddr_k ?_, ?_⟩ | refine vcI (fun _ => ?_) (fun _ => ?_) | (refine vcA ?_ ?_; focus (repeat' (first | omega | assumption | refine vcA ?_ ?_); done)) | omega | refine imp_in (fun _ => ?_))
      have ht2 : (s.take (i + 1)).flatMap escB = f ++ [92, 117, 48, 48, ([48, 49, 50, 51, 52, 53, 54, 55, 56, 57, 97, 98, 99, 100, 101, 102] : bytes).getD (c.toNat / 16) 0, ([48, 49, 50, 51, 52, 53, 54, 55, 56, 57, 97, 98, 99, 100, 101, 102] : bytes).getD (c.toNat % 16) 0] := ht
      rw [show ((c.toNat : Int) % 16).toNat = c.toNat % 16 by omega, ← ht2]
      refine again (i + 1) ?_ ?_ rfl env_ok
      · omega
      · omega
    · have hI := fun H => IndexByte_c [34, 92, 8, 9, 10, 12, 13] c H
      rw [hi1] at hI
      rw [hi2] at ht
      have hct : ((c.toNat : Int) < 32) = False := eq_false (by omega)
      repeat' (first | refine unhold ?_ | (simp -dsimp -implicitDefEqProofs (disch := (first | assumption | omega | (simp only [ll1, ll2, ll3, ll4, ll5, ll6, ll7, ll8]; omega))) only [go_sem, hc, hct, List.length_append, List.length_cons, List.length_nil]) | refine acalls_same (hI _) ?_ | refine ⟨_, hI _, ?_⟩ | refine ⟨_, _, hI _, ?_⟩ | refine acalls_same (pByte c rfl h bAddr_k ?_) ?_ | refine ⟨_, pByte c rfl h bAddr_k ?_, ?_⟩ | refine ⟨_, _, pByte c rfl h bAddr_k ?_, ?_⟩ | refine vcI (fun _ => ?_) (fun _ => ?_) | (refine vcA ?_ ?_; focus (repeat' (first | omega | assumption | refine vcA ?_ ?_); done)) | omega | refine imp_in (fun _ => ?_))
      rw [← ht]
      refine again (i + 1) ?_ ?_ rfl env_ok
      · omega
      · omega
  · obtain rfl : i = s.length := by omega
    rw [List.take_length] at *
    repeat' (first | refine unhold ?_ | (simp -dsimp -implicitDefEqProofs (disch := (first | assumption | omega | (simp only [ll1, ll2, ll3, ll4, ll5, ll6, ll7, ll8]; omega))) only [go_sem, List.length_append, List.length_cons, List.length_nil]) | refine acalls_same (pByte 34 rfl h bAddr_k ?_) ?_ | refine ⟨_, pByte 34 rfl h bAddr_k ?_, ?_⟩ | refine ⟨_, _, pByte 34 rfl h bAddr_k ?_, ?_⟩ | refine vcI (fun _ => ?_) (fun _ => ?_) | (refine vcA ?_ ?_; focus (repeat' (first | omega | assumption | refine vcA ?_ ?_); done)) | omega | refine imp_in (fun _ => ?_))
    exact done_keep _ (Le.refl _) (by rw [pA_len, pA_len]; exact Nat.le_refl _) ⟨rfl, rfl⟩
end Go.Proofs.YtdahdbnfknmmgaaGreatDoor
end

section
set_option linter.unusedSimpArgs false
set_option linter.unusedVariables false
namespace Go.Proofs.YtdahdbnfknmmgaaGreatDoor.V
open Go
/-- A loop's end, new objects dropped. -/
theorem shift_cut2 {H₀ H' M : List AObj} {env env' : Env} (h : EnvLe env env') (hlen : H₀.length ≤ H'.length) (hl : EnvLow H'.length env') (hobj : ∀ (k : Nat) (sh : Shape) (cs : List AV), H'[k]? = some (.cells sh cs) → H₀[k]? = some (.cells sh cs) ∨ ∀ y ∈ cs, Low H'.length y) : Shift H₀ env (H' ++ M) env' H' := fun G₀ w₀ G w vs h0 hi hs r => by
  have htk : (H' ++ M).take H'.length = H' := List.take_left
  have hc := hi.cut H'.length fun k sh cs hk e y hy => by
    rw [List.getElem?_append_left hk] at e
    rcases hobj k sh cs e with e | e
    · obtain ⟨arr, T, fr, hb', hsz, hr', _⟩ := h0.cells k sh cs e
      obtain ⟨j, hj⟩ := List.mem_iff_getElem?.1 hy
      have hja : j < arr.size := Nat.lt_of_lt_of_le (lt_of_get hj) hsz
      exact ((hr' j y _ hj (Array.getElem?_eq_getElem hja)).low).mono hlen
    · exact e y hy
  have hs' := hs.cut (m := H'.length) hlen
  rw [htk] at hc hs'
  refine ⟨G, hc, hs', fun t => ?_⟩
  have := (h t _ _ _ _ (r t)).cut H'.length (hl t)
  rwa [htk] at this
theorem again_drop {α : Type} {I : α → Prop} {E : α → Env} {Hf : α → List AObj} {m : α → Nat} {x : α} {env : Env} {H : List AObj} (mm : Nat) (M : List AObj) (y : α) (hm : m y < m x) (hI : I y) (hH : H = Hf y ++ M) (h1 : (Hf y).length = mm) (h2 : (Hf x).length ≤ mm) (hL : EnvLow mm (E y))
    (hobj : ∀ (k : Nat) (sh : Shape) (cs : List AV), (Hf y)[k]? = some (.cells sh cs) → (Hf x)[k]? = some (.cells sh cs) ∨ ∀ z ∈ cs, Low mm z) (hE : EnvLe env (E y)) : Again I E Hf m x env H := by
  subst hH
  subst h1
  exact again_shift y hm hI (shift_cut2 hE h2 hL hobj)
end Go.Proofs.YtdahdbnfknmmgaaGreatDoor.V
end

section
set_option linter.unusedSimpArgs false
set_option linter.unusedVariables false
namespace Go.Proofs.YtdahdbnfknmmgaaGreatDoor
open Go V
set_option maxRecDepth 10000
set_option maxHeartbeats 1000000
theorem PAt.app {H : List AObj} {k m : Nat} (h : PAt H k m) (M : List AObj) : PAt (H ++ M) k m := ⟨by have := h.kl; rw [List.length_append]; omega, by have := h.ml; rw [List.length_append]; omega, h.ne⟩
theorem pA_app {a : AV} {H : List AObj} {k m : Nat} {o : bytes} {M : List AObj} (h : PAt H k m) : pA a H k m o ++ M = pA a (H ++ M) k m o := by
  unfold pA
  rw [List.set_append_left _ _ h.kl, List.set_append_left _ _ (by rw [List.length_set]; exact h.ml)]
theorem pA_ext {a : AV} {H : List AObj} {k m : Nat} {o : bytes} {M : List AObj} (h : PAt H k m) : (pA a (H ++ M) k m o)[H.length]? = M[0]? := by
  rw [← pA_app h, List.getElem?_append_right (by rw [pA_len]; exact Nat.le_refl _), pA_len, Nat.sub_self]
theorem pA_setx {a : AV} {H : List AObj} {k m : Nat} {o : bytes} {M : List AObj} {x : AObj} (h : PAt H k m) : (pA a (H ++ M) k m o).set H.length x = pA a (H ++ M.set 0 x) k m o := by
  rw [← pA_app h, ← pA_app h, List.set_append_right _ _ (by rw [pA_len]; exact Nat.le_refl _), pA_len, Nat.sub_self]
theorem low_ptr {m k : Nat} {a : AV} (h : bAddr k a) (hk : k < m) : Low m a := by
  rcases h with rfl | rfl
  · exact .lit _
  · exact .mp _ _ hk
theorem pA_obj {a b : AV} {H : List AObj} {k m mm : Nat} {o p : bytes} (h : PAt H k m) (hb : bAddr k b) (hmm : H.length ≤ mm) : ∀ (j : Nat) (sh : Shape) (cs : List AV), (pA b H k m p)[j]? = some (.cells sh cs) → (pA a H k m o)[j]? = some (.cells sh cs) ∨ ∀ z ∈ cs, Low mm z := fun j sh cs e => by
  have h1 := h.kl
  have h2 := h.ml
  by_cases hj : j = m
  · subst hj
    rw [pA_m h] at e
    cases e
  · by_cases hk : j = k
    · subst hk
      rw [pA_k h] at e
      cases e
      right
      intro z hz
      simp only [List.mem_cons, List.not_mem_nil, or_false] at hz
      rcases hz with rfl | rfl
      · exact low_ptr hb (by omega)
      · exact low_scalars (fun x hx => by
          obtain ⟨c, _, rfl⟩ := List.mem_map.1 hx
          exact ⟨_, rfl⟩) (fun k e => by cases e; omega)
    · left
      unfold pA at e ⊢
      rw [List.getElem?_set_ne (Ne.symm hj), List.getElem?_set_ne (Ne.symm hk)] at e ⊢
      exact e
theorem low_ipJ {m : Nat} (v : JV) : Low m (jAV v).ip := by
  rw [jAV_eq]
  refine .ip _ fun y hy => ?_
  simp [AV.flat, flats] at hy
  rcases hy with rfl | rfl | rfl | rfl | rfl
  · exact .lit _
  · exact .lit _
  · exact .str _
  · exact low_ssl
  · exact low_jsl
theorem pitems_c {a : AV} {H : List AObj} {k m : Nat} {o : bytes} {d : Nat} (v : JV) (f l : UInt8) (h : PAt H k m) (ha : bAddr k a) (hr : rightJ (d + 1) v = true) (hk : v.kind = 5 ∨ v.kind = 6) (hs : o.length + (printP v).length ≤ 1000000) (hsz : sizeJ v ≤ 10000)
    (ih : ∀ x ∈ v.items, ∀ (H : List AObj) (o : bytes), PAt H k m → o.length + (printP x).length ≤ 1000000 → ACalls Tryz.prog 47 [.mp k 0, jAV x] (pA (.mp k 0) H k m o) (fun x' H' => x' = .tup [] ∧ H' = pA (.mp k 0) H k m (trT x o))) :
    ACalls Tryz.prog 70 [.mp k 0, jAV v, .lit (.int .u8 f.toNat), .lit (.int .u8 l.toNat)] (pA a H k m o) (fun x H' => x = .tup [] ∧ H' = pA (.mp k 0) H k m (itT (decide (v.kind = 6)) v.items true v.names (o ++ [f]) ++ [l])) := by
  have hpe : (printP v).length = (itemsP (decide (v.kind = 6)) v.items true v.names).length + 2 := by
    rw [printP_eq, if_neg (by omega), if_neg (by omega), if_neg (by omega), if_neg (by omega)]
    rcases hk with e | e
    · rw [if_pos e, decide_eq_false (by omega)]; simp
    · rw [if_neg (by omega), if_pos e, decide_eq_true e]; simp
  have hn : v.kind = 6 → v.names.length = v.items.length := fun e => (right_obj hr e).2.2.2.1
  have hszi := size_items v
  have hszn := fun i (hi : i < v.names.length) => size_name (v := v) (mem_getD (d := []) hi)
  have hkl := h.kl
  generalize hF : itT (decide (v.kind = 6)) v.items true v.names (o ++ [f]) = F
  refine acalls_vc L_ok mixed [] (rs := []) (n := 52) Tryz.func70 rfl rfl rfl rfl (Nat.le_of_ble_eq_true rfl) (by kernel_rfl) ?_
  repeat' (first | refine unhold ?_ | (simp -dsimp -implicitDefEqProofs (disch := (first | assumption | omega | (simp only [ll1, ll2, ll3, ll4, ll5, ll6, ll7, ll8]; omega))) only [go_sem]) | refine acalls_same (pByte f rfl h ha (by omega)) ?_ | refine ⟨_, pByte f rfl h ha (by omega), ?_⟩ | refine ⟨_, _, pByte f rfl h ha (by omega), ?_⟩ | refine vcI (fun _ => ?_) (fun _ => ?_) | (refine vcA ?_ ?_; focus (repeat' (first | omega | assumption | refine vcA ?_ ?_); done)) | omega | refine imp_in (fun _ => ?_))
  refine vc_loopk L_ok mixed [] [0, 3, 5, 16, 17] (fun p : Nat × bytes => p.1 ≤ v.items.length ∧ itT (decide (v.kind = 6)) (v.items.drop p.1) (p.1 == 0) (v.names.drop p.1) p.2 = F ∧ p.2.length + (itemsP (decide (v.kind = 6)) (v.items.drop p.1) (p.1 == 0) (v.names.drop p.1)).length + 1 ≤ 1000000) (fun p => [(18, .int .i64 p.1)]) (fun p => pA (.mp k 0) H k m p.2) (fun p => v.items.length - p.1) (by kernel_rfl) ?_ (0, o ++ [f]) ⟨by simp, hF, by simp only [List.drop_zero, List.length_append, List.length_cons, List.length_nil]; rw [show ((0 : Nat) == 0) = true from rfl]; omega⟩ env_ok rfl
  rintro ⟨i, x⟩ ⟨hi, hx, hxl⟩
  dsimp only at hi hx hxl ⊢
  by_cases hil : i < v.items.length
  · rw [itT_at hil] at hx
    rw [itemsP_at hil] at hxl
    have hcut := tr_cut (v.items.getD i zeroJ) (x ++ headP (i == 0) (decide (v.kind = 6)) (v.names.getD i []))
    have hih := ih _ (mem_getD (d := zeroJ) hil)
    have hnm : v.kind = 6 → i < v.names.length := fun e => by have := hn e; omega
    simp only [List.length_append] at hxl
    have h44 : headP (i == 0) (decide (v.kind = 6)) (v.names.getD i []) = (if i = 0 then [] else [44]) ++ (if v.kind = 6 then quoteP (v.names.getD i []) ++ [58] else []) := by
      unfold headP
      by_cases e : i = 0
      · subst e; simp
      · rw [show (i == 0) = false from beq_eq_false_iff_ne.2 e]; simp [e]
    rw [h44] at hx hxl hcut
    have hq := quoteP_len (v.names.getD i [])
    have hqs : v.kind = 6 → (v.names.getD i []).length ≤ 10000 := fun e => by have := hszn i (hnm e); omega
    generalize hsn : v.names.getD i [] = s at *
    generalize hy : v.items.getD i zeroJ = y at *
    have hp1 := print_first y
    obtain ⟨c1, c2, c3⟩ := hcut
    simp only [List.length_append] at c2
    have hlen1 : ∀ z : bytes, (trT y z).length ≤ 10000000 → (trT y z).length ≤ 100000000 := fun z h => by omega
    by_cases h0 : i = 0
    · have hc0 : ((0 : Int) < (i : Int)) = False := eq_false (by omega)
      rw [if_pos h0] at hx hxl c1 c2 c3
      by_cases h6 : v.kind = 6
      · have hc6 : (v.kind = 6) = True := eq_true h6
        have hn6 := hnm h6
        have hq6 := hqs h6
        rw [if_pos h6] at hx hxl c1 c2 c3
        simp only [List.length_append, List.length_cons, List.length_nil] at hxl c2
        repeat' (first | refine unhold ?_ | (simp -dsimp -implicitDefEqProofs (disch := (first | assumption | omega | (simp only [ll1, ll2, ll3, ll4, ll5, ll6, ll7, ll8]; omega))) only [go_sem, hc0, hc6, hy, hsn, pA_app h, pA_len, pA_ext h, pA_setx h, List.length_append, List.length_cons, List.length_nil]) | refine acalls_same (pquote_c _ (h.app _) bAddr_k ?_ ?_) ?_ | refine ⟨_, pquote_c _ (h.app _) bAddr_k ?_ ?_, ?_⟩ | refine ⟨_, _, pquote_c _ (h.app _) bAddr_k ?_ ?_, ?_⟩ | refine acalls_same (pByte 58 rfl (h.app _) bAddr_k ?_) ?_ | refine ⟨_, pByte 58 rfl (h.app _) bAddr_k ?_, ?_⟩ | refine ⟨_, _, pByte 58 rfl (h.app _) bAddr_k ?_, ?_⟩ | refine acalls_same (hih _ _ (h.app _) ?_) ?_ | refine ⟨_, hih _ _ (h.app _) ?_, ?_⟩ | refine ⟨_, _, hih _ _ (h.app _) ?_, ?_⟩ | refine vcI (fun _ => ?_) (fun _ => ?_) | (refine vcA ?_ ?_; focus (repeat' (first | omega | assumption | refine vcA ?_ ?_); done)) | omega | refine imp_in (fun _ => ?_))
        refine again_drop (H.length) ([.cells (.one 29) (jCells y)]) ((i + 1, trT y (x ++ ([] ++ (quoteP s ++ [58]))))) ?_ ?_ ?_ ?_ ?_ (by repeat (first | exact envLow_nil | (refine envLow_cons ?_ ?_; focus (first | (first | exact .lit _ | exact .str _ | exact .any | exact low_bytes | exact low_runes | exact .mp _ _ (by omega) | exact .msl _ _ _ _ (by omega) | exact low_nilsl (fun k e => by cases e) | exact low_jAV _ | exact low_jsl | exact low_ssl | exact low_fn0 | exact low_ipJ _) | (refine low_tup ?_; repeat (first | exact lowAll_nil | (refine lowAll_cons ?_ ?_; focus (first | exact .lit _ | exact .str _ | exact .any | exact low_bytes | exact low_runes | exact .mp _ _ (by omega) | exact .msl _ _ _ _ (by omega) | exact low_nilsl (fun k e => by cases e) | exact low_jAV _ | exact low_jsl | exact low_ssl | exact low_fn0 | exact low_ipJ _)))) | (refine low_agg ?_; repeat (first | exact lowAll_nil | (refine lowAll_cons ?_ ?_; focus (first | exact .lit _ | exact .str _ | exact .any | exact low_bytes | exact low_runes | exact .mp _ _ (by omega) | exact .msl _ _ _ _ (by omega) | exact low_nilsl (fun k e => by cases e) | exact low_jAV _ | exact low_jsl | exact low_ssl | exact low_fn0 | exact low_ipJ _)))))))) ?_ env_ok
        · dsimp only; omega
        · refine ⟨by dsimp only; omega, hx, ?_⟩
          dsimp only
          omega
        · dsimp only
          rw [pA_app h]
          simp [jCells]
        · exact pA_len
        · exact Nat.le_of_eq pA_len
        · exact pA_obj h bAddr_k (Nat.le_refl _)
      · have hc6 : (v.kind = 6) = False := eq_false h6
        rw [if_neg h6] at hx hxl c1 c2 c3
        simp only [List.length_append, List.length_cons, List.length_nil] at hxl c2
        repeat' (first | refine unhold ?_ | (simp -dsimp -implicitDefEqProofs (disch := (first | assumption | omega | (simp only [ll1, ll2, ll3, ll4, ll5, ll6, ll7, ll8]; omega))) only [go_sem, hc0, hc6, hy, hsn, pA_app h, pA_len, pA_ext h, pA_setx h, List.length_append, List.length_cons, List.length_nil]) | refine acalls_same (pquote_c _ (h.app _) bAddr_k ?_ ?_) ?_ | refine ⟨_, pquote_c _ (h.app _) bAddr_k ?_ ?_, ?_⟩ | refine ⟨_, _, pquote_c _ (h.app _) bAddr_k ?_ ?_, ?_⟩ | refine acalls_same (pByte 58 rfl (h.app _) bAddr_k ?_) ?_ | refine ⟨_, pByte 58 rfl (h.app _) bAddr_k ?_, ?_⟩ | refine ⟨_, _, pByte 58 rfl (h.app _) bAddr_k ?_, ?_⟩ | refine acalls_same (hih _ _ (h.app _) ?_) ?_ | refine ⟨_, hih _ _ (h.app _) ?_, ?_⟩ | refine ⟨_, _, hih _ _ (h.app _) ?_, ?_⟩ | refine vcI (fun _ => ?_) (fun _ => ?_) | (refine vcA ?_ ?_; focus (repeat' (first | omega | assumption | refine vcA ?_ ?_); done)) | omega | refine imp_in (fun _ => ?_))
        refine again_drop (H.length) ([.cells (.one 29) (jCells y)]) ((i + 1, trT y (x ++ ([] ++ [])))) ?_ ?_ ?_ ?_ ?_ (by repeat (first | exact envLow_nil | (refine envLow_cons ?_ ?_; focus (first | (first | exact .lit _ | exact .str _ | exact .any | exact low_bytes | exact low_runes | exact .mp _ _ (by omega) | exact .msl _ _ _ _ (by omega) | exact low_nilsl (fun k e => by cases e) | exact low_jAV _ | exact low_jsl | exact low_ssl | exact low_fn0 | exact low_ipJ _) | (refine low_tup ?_; repeat (first | exact lowAll_nil | (refine lowAll_cons ?_ ?_; focus (first | exact .lit _ | exact .str _ | exact .any | exact low_bytes | exact low_runes | exact .mp _ _ (by omega) | exact .msl _ _ _ _ (by omega) | exact low_nilsl (fun k e => by cases e) | exact low_jAV _ | exact low_jsl | exact low_ssl | exact low_fn0 | exact low_ipJ _)))) | (refine low_agg ?_; repeat (first | exact lowAll_nil | (refine lowAll_cons ?_ ?_; focus (first | exact .lit _ | exact .str _ | exact .any | exact low_bytes | exact low_runes | exact .mp _ _ (by omega) | exact .msl _ _ _ _ (by omega) | exact low_nilsl (fun k e => by cases e) | exact low_jAV _ | exact low_jsl | exact low_ssl | exact low_fn0 | exact low_ipJ _)))))))) ?_ env_ok
        · dsimp only; omega
        · refine ⟨by dsimp only; omega, hx, ?_⟩
          dsimp only
          omega
        · dsimp only
          rw [pA_app h]
          simp [jCells]
        · exact pA_len
        · exact Nat.le_of_eq pA_len
        · exact pA_obj h bAddr_k (Nat.le_refl _)
    · have hc0 : ((0 : Int) < (i : Int)) = True := eq_true (by omega)
      rw [if_neg h0] at hx hxl c1 c2 c3
      by_cases h6 : v.kind = 6
      · have hc6 : (v.kind = 6) = True := eq_true h6
        have hn6 := hnm h6
        have hq6 := hqs h6
        rw [if_pos h6] at hx hxl c1 c2 c3
        simp only [List.length_append, List.length_cons, List.length_nil] at hxl c2
        repeat' (first | refine unhold ?_ | (simp -dsimp -implicitDefEqProofs (disch := (first | assumption | omega | (simp only [ll1, ll2, ll3, ll4, ll5, ll6, ll7, ll8]; omega))) only [go_sem, hc0, hc6, hy, hsn, pA_app h, pA_len, pA_ext h, pA_setx h, List.length_append, List.length_cons, List.length_nil]) | refine acalls_same (pByte 44 rfl (h.app _) bAddr_k ?_) ?_ | refine ⟨_, pByte 44 rfl (h.app _) bAddr_k ?_, ?_⟩ | refine ⟨_, _, pByte 44 rfl (h.app _) bAddr_k ?_, ?_⟩ | refine acalls_same (pquote_c _ (h.app _) bAddr_k ?_ ?_) ?_ | refine ⟨_, pquote_c _ (h.app _) bAddr_k ?_ ?_, ?_⟩ | refine ⟨_, _, pquote_c _ (h.app _) bAddr_k ?_ ?_, ?_⟩ | refine acalls_same (pByte 58 rfl (h.app _) bAddr_k ?_) ?_ | refine ⟨_, pByte 58 rfl (h.app _) bAddr_k ?_, ?_⟩ | refine ⟨_, _, pByte 58 rfl (h.app _) bAddr_k ?_, ?_⟩ | refine acalls_same (hih _ _ (h.app _) ?_) ?_ | refine ⟨_, hih _ _ (h.app _) ?_, ?_⟩ | refine ⟨_, _, hih _ _ (h.app _) ?_, ?_⟩ | refine vcI (fun _ => ?_) (fun _ => ?_) | (refine vcA ?_ ?_; focus (repeat' (first | omega | assumption | refine vcA ?_ ?_); done)) | omega | refine imp_in (fun _ => ?_))
        refine again_drop (H.length) ([.cells (.one 29) (jCells y)]) ((i + 1, trT y (x ++ ([44] ++ (quoteP s ++ [58]))))) ?_ ?_ ?_ ?_ ?_ (by repeat (first | exact envLow_nil | (refine envLow_cons ?_ ?_; focus (first | (first | exact .lit _ | exact .str _ | exact .any | exact low_bytes | exact low_runes | exact .mp _ _ (by omega) | exact .msl _ _ _ _ (by omega) | exact low_nilsl (fun k e => by cases e) | exact low_jAV _ | exact low_jsl | exact low_ssl | exact low_fn0 | exact low_ipJ _) | (refine low_tup ?_; repeat (first | exact lowAll_nil | (refine lowAll_cons ?_ ?_; focus (first | exact .lit _ | exact .str _ | exact .any | exact low_bytes | exact low_runes | exact .mp _ _ (by omega) | exact .msl _ _ _ _ (by omega) | exact low_nilsl (fun k e => by cases e) | exact low_jAV _ | exact low_jsl | exact low_ssl | exact low_fn0 | exact low_ipJ _)))) | (refine low_agg ?_; repeat (first | exact lowAll_nil | (refine lowAll_cons ?_ ?_; focus (first | exact .lit _ | exact .str _ | exact .any | exact low_bytes | exact low_runes | exact .mp _ _ (by omega) | exact .msl _ _ _ _ (by omega) | exact low_nilsl (fun k e => by cases e) | exact low_jAV _ | exact low_jsl | exact low_ssl | exact low_fn0 | exact low_ipJ _)))))))) ?_ env_ok
        · dsimp only; omega
        · refine ⟨by dsimp only; omega, hx, ?_⟩
          dsimp only
          omega
        · dsimp only
          rw [pA_app h]
          simp [jCells]
        · exact pA_len
        · exact Nat.le_of_eq pA_len
        · exact pA_obj h bAddr_k (Nat.le_refl _)
      · have hc6 : (v.kind = 6) = False := eq_false h6
        rw [if_neg h6] at hx hxl c1 c2 c3
        simp only [List.length_append, List.length_cons, List.length_nil] at hxl c2
        repeat' (first | refine unhold ?_ | (simp -dsimp -implicitDefEqProofs (disch := (first | assumption | omega | (simp only [ll1, ll2, ll3, ll4, ll5, ll6, ll7, ll8]; omega))) only [go_sem, hc0, hc6, hy, hsn, pA_app h, pA_len, pA_ext h, pA_setx h, List.length_append, List.length_cons, List.length_nil]) | refine acalls_same (pByte 44 rfl (h.app _) bAddr_k ?_) ?_ | refine ⟨_, pByte 44 rfl (h.app _) bAddr_k ?_, ?_⟩ | refine ⟨_, _, pByte 44 rfl (h.app _) bAddr_k ?_, ?_⟩ | refine acalls_same (pquote_c _ (h.app _) bAddr_k ?_ ?_) ?_ | refine ⟨_, pquote_c _ (h.app _) bAddr_k ?_ ?_, ?_⟩ | refine ⟨_, _, pquote_c _ (h.app _) bAddr_k ?_ ?_, ?_⟩ | refine acalls_same (pByte 58 rfl (h.app _) bAddr_k ?_) ?_ | refine ⟨_, pByte 58 rfl (h.app _) bAddr_k ?_, ?_⟩ | refine ⟨_, _, pByte 58 rfl (h.app _) bAddr_k ?_, ?_⟩ | refine acalls_same (hih _ _ (h.app _) ?_) ?_ | refine ⟨_, hih _ _ (h.app _) ?_, ?_⟩ | refine ⟨_, _, hih _ _ (h.app _) ?_, ?_⟩ | refine vcI (fun _ => ?_) (fun _ => ?_) | (refine vcA ?_ ?_; focus (repeat' (first | omega | assumption | refine vcA ?_ ?_); done)) | omega | refine imp_in (fun _ => ?_))
        refine again_drop (H.length) ([.cells (.one 29) (jCells y)]) ((i + 1, trT y (x ++ ([44] ++ [])))) ?_ ?_ ?_ ?_ ?_ (by repeat (first | exact envLow_nil | (refine envLow_cons ?_ ?_; focus (first | (first | exact .lit _ | exact .str _ | exact .any | exact low_bytes | exact low_runes | exact .mp _ _ (by omega) | exact .msl _ _ _ _ (by omega) | exact low_nilsl (fun k e => by cases e) | exact low_jAV _ | exact low_jsl | exact low_ssl | exact low_fn0 | exact low_ipJ _) | (refine low_tup ?_; repeat (first | exact lowAll_nil | (refine lowAll_cons ?_ ?_; focus (first | exact .lit _ | exact .str _ | exact .any | exact low_bytes | exact low_runes | exact .mp _ _ (by omega) | exact .msl _ _ _ _ (by omega) | exact low_nilsl (fun k e => by cases e) | exact low_jAV _ | exact low_jsl | exact low_ssl | exact low_fn0 | exact low_ipJ _)))) | (refine low_agg ?_; repeat (first | exact lowAll_nil | (refine lowAll_cons ?_ ?_; focus (first | exact .lit _ | exact .str _ | exact .any | exact low_bytes | exact low_runes | exact .mp _ _ (by omega) | exact .msl _ _ _ _ (by omega) | exact low_nilsl (fun k e => by cases e) | exact low_jAV _ | exact low_jsl | exact low_ssl | exact low_fn0 | exact low_ipJ _)))))))) ?_ env_ok
        · dsimp only; omega
        · refine ⟨by dsimp only; omega, hx, ?_⟩
          dsimp only
          omega
        · dsimp only
          rw [pA_app h]
          simp [jCells]
        · exact pA_len
        · exact Nat.le_of_eq pA_len
        · exact pA_obj h bAddr_k (Nat.le_refl _)
  · obtain rfl : i = v.items.length := by omega
    repeat' (first | refine unhold ?_ | (simp -dsimp -implicitDefEqProofs (disch := (first | assumption | omega | (simp only [ll1, ll2, ll3, ll4, ll5, ll6, ll7, ll8]; omega))) only [go_sem]) | refine acalls_same (pByte l rfl h bAddr_k ?_) ?_ | refine ⟨_, pByte l rfl h bAddr_k ?_, ?_⟩ | refine ⟨_, _, pByte l rfl h bAddr_k ?_, ?_⟩ | refine vcI (fun _ => ?_) (fun _ => ?_) | (refine vcA ?_ ?_; focus (repeat' (first | omega | assumption | refine vcA ?_ ?_); done)) | omega | refine imp_in (fun _ => ?_))
    rw [List.drop_length, itT_nil] at hx
    rw [hx]
    exact done_keep _ (Le.refl _) (by rw [pA_len, pA_len]; exact Nat.le_refl _) ⟨rfl, rfl⟩
theorem tr_stop {v : JV} {o : bytes} (h : 8192 < o.length) : trT v o = o := by rw [trT_eq, if_pos h]
theorem tr_leaf {v : JV} {o : bytes} (h : ¬ 8192 < o.length) (hk : v.kind ≠ 5 ∧ v.kind ≠ 6) : trT v o = o ++ printP v := by rw [trT_eq, if_neg h, if_neg hk.1, if_neg hk.2]
theorem ptree_leaf {a : AV} {H : List AObj} {k m : Nat} {o : bytes} {d : Nat} (v : JV) (h : PAt H k m) (ha : bAddr k a) (ha2 : 8192 < o.length → a = .mp k 0) (hr : rightJ d v = true) (hk : v.kind ≠ 5 ∧ v.kind ≠ 6) (hs : o.length + (printP v).length ≤ 1000000) (hsz : sizeJ v ≤ 10000) :
    ACalls Tryz.prog 47 [.mp k 0, jAV v] (pA a H k m o) (fun x H' => x = .tup [] ∧ H' = pA (.mp k 0) H k m (trT v o)) := by
  have hkl := h.kl
  have hL := Len_c (T := 52) (pA_k (a := a) (o := o) h)
  by_cases hol : 8192 < o.length
  · have hc : (8192 < ((o.length : Nat) : Int)) = True := eq_true (by omega)
    have e := ha2 hol
    subst e
    rw [tr_stop hol]
    refine acalls_vc L_ok mixed [1000010] (rs := []) (n := 54) Tryz.func47 rfl rfl rfl rfl (Nat.le_of_ble_eq_true rfl) (by kernel_rfl) ?_
    repeat' (first | refine unhold ?_ | (simp -dsimp -implicitDefEqProofs (disch := (first | assumption | omega | (simp only [ll1, ll2, ll3, ll4, ll5, ll6, ll7, ll8]; omega))) only [go_sem, hc]) | refine acalls_same (hL) ?_ | refine ⟨_, hL, ?_⟩ | refine ⟨_, _, hL, ?_⟩ | refine vcI (fun _ => ?_) (fun _ => ?_) | (refine vcA ?_ ?_; focus (repeat' (first | omega | assumption | refine vcA ?_ ?_); done)) | omega | refine imp_in (fun _ => ?_))
    exact done_keep _ (Le.refl _) (by exact Nat.le_refl _) ⟨rfl, rfl⟩
  · have hc : (8192 < ((o.length : Nat) : Int)) = False := eq_false (by omega)
    rw [tr_leaf hol hk]
    obtain ⟨h1, h2⟩ := right_leaf hr hk
    have hpe := printP_eq v
    have htx := size_text v
    rcases h2 with ⟨h2, _⟩ | ⟨h2, _, h3, h4⟩ | ⟨h2, _⟩
    · rcases h2 with e | e | e
      · rw [e, if_neg (by decide), if_neg (by decide), if_neg (by decide), if_neg (by decide), if_neg (by decide), if_neg (by decide)] at hpe
        rw [hpe]
        refine acalls_vc L_ok mixed [1000010] (rs := []) (n := 54) Tryz.func47 rfl rfl rfl rfl (Nat.le_of_ble_eq_true rfl) (by kernel_rfl) ?_
        repeat' (first | refine unhold ?_ | (simp -dsimp -implicitDefEqProofs (disch := (first | assumption | omega | (simp only [ll1, ll2, ll3, ll4, ll5, ll6, ll7, ll8]; omega))) only [go_sem, hc, e]) | refine acalls_same (hL) ?_ | refine ⟨_, hL, ?_⟩ | refine ⟨_, _, hL, ?_⟩ | refine acalls_same (pString h ha (by omega) (by decide)) ?_ | refine ⟨_, pString h ha (by omega) (by decide), ?_⟩ | refine ⟨_, _, pString h ha (by omega) (by decide), ?_⟩ | refine vcI (fun _ => ?_) (fun _ => ?_) | (refine vcA ?_ ?_; focus (repeat' (first | omega | assumption | refine vcA ?_ ?_); done)) | omega | refine imp_in (fun _ => ?_))
        exact done_keep _ (Le.refl _) (by rw [pA_len, pA_len]; exact Nat.le_refl _) ⟨rfl, rfl⟩
      · rw [e, if_pos rfl] at hpe
        rw [hpe]
        refine acalls_vc L_ok mixed [1000010] (rs := []) (n := 54) Tryz.func47 rfl rfl rfl rfl (Nat.le_of_ble_eq_true rfl) (by kernel_rfl) ?_
        repeat' (first | refine unhold ?_ | (simp -dsimp -implicitDefEqProofs (disch := (first | assumption | omega | (simp only [ll1, ll2, ll3, ll4, ll5, ll6, ll7, ll8]; omega))) only [go_sem, hc, e]) | refine acalls_same (hL) ?_ | refine ⟨_, hL, ?_⟩ | refine ⟨_, _, hL, ?_⟩ | refine acalls_same (pString h ha (by omega) (by decide)) ?_ | refine ⟨_, pString h ha (by omega) (by decide), ?_⟩ | refine ⟨_, _, pString h ha (by omega) (by decide), ?_⟩ | refine vcI (fun _ => ?_) (fun _ => ?_) | (refine vcA ?_ ?_; focus (repeat' (first | omega | assumption | refine vcA ?_ ?_); done)) | omega | refine imp_in (fun _ => ?_))
        exact done_keep _ (Le.refl _) (by rw [pA_len, pA_len]; exact Nat.le_refl _) ⟨rfl, rfl⟩
      · rw [e, if_neg (by decide), if_pos rfl] at hpe
        rw [hpe]
        refine acalls_vc L_ok mixed [1000010] (rs := []) (n := 54) Tryz.func47 rfl rfl rfl rfl (Nat.le_of_ble_eq_true rfl) (by kernel_rfl) ?_
        repeat' (first | refine unhold ?_ | (simp -dsimp -implicitDefEqProofs (disch := (first | assumption | omega | (simp only [ll1, ll2, ll3, ll4, ll5, ll6, ll7, ll8]; omega))) only [go_sem, hc, e]) | refine acalls_same (hL) ?_ | refine ⟨_, hL, ?_⟩ | refine ⟨_, _, hL, ?_⟩ | refine acalls_same (pString h ha (by omega) (by decide)) ?_ | refine ⟨_, pString h ha (by omega) (by decide), ?_⟩ | refine ⟨_, _, pString h ha (by omega) (by decide), ?_⟩ | refine vcI (fun _ => ?_) (fun _ => ?_) | (refine vcA ?_ ?_; focus (repeat' (first | omega | assumption | refine vcA ?_ ?_); done)) | omega | refine imp_in (fun _ => ?_))
        exact done_keep _ (Le.refl _) (by rw [pA_len, pA_len]; exact Nat.le_refl _) ⟨rfl, rfl⟩
    · rw [h2, if_neg (by decide), if_neg (by decide), if_pos rfl] at hpe
      rw [hpe] at hs ⊢
      refine acalls_vc L_ok mixed [1000010] (rs := []) (n := 54) Tryz.func47 rfl rfl rfl rfl (Nat.le_of_ble_eq_true rfl) (by kernel_rfl) ?_
      repeat' (first | refine unhold ?_ | (simp -dsimp -implicitDefEqProofs (disch := (first | assumption | omega | (simp only [ll1, ll2, ll3, ll4, ll5, ll6, ll7, ll8]; omega))) only [go_sem, hc, h2]) | refine acalls_same (hL) ?_ | refine ⟨_, hL, ?_⟩ | refine ⟨_, _, hL, ?_⟩ | refine acalls_same (Itoa_c _ _ ?_ ?_) ?_ | refine ⟨_, Itoa_c _ _ ?_ ?_, ?_⟩ | refine ⟨_, _, Itoa_c _ _ ?_ ?_, ?_⟩ | refine acalls_same (pString h ha ?_ ?_) ?_ | refine ⟨_, pString h ha ?_ ?_, ?_⟩ | refine ⟨_, _, pString h ha ?_ ?_, ?_⟩ | refine vcI (fun _ => ?_) (fun _ => ?_) | (refine vcA ?_ ?_; focus (repeat' (first | omega | assumption | refine vcA ?_ ?_); done)) | omega | refine imp_in (fun _ => ?_))
      exact done_keep _ (Le.refl _) (by rw [pA_len, pA_len]; exact Nat.le_refl _) ⟨rfl, rfl⟩
    · rw [h2, if_neg (by decide), if_neg (by decide), if_neg (by decide), if_pos rfl] at hpe
      rw [hpe]
      refine acalls_vc L_ok mixed [1000010] (rs := []) (n := 54) Tryz.func47 rfl rfl rfl rfl (Nat.le_of_ble_eq_true rfl) (by kernel_rfl) ?_
      repeat' (first | refine unhold ?_ | (simp -dsimp -implicitDefEqProofs (disch := (first | assumption | omega | (simp only [ll1, ll2, ll3, ll4, ll5, ll6, ll7, ll8]; omega))) only [go_sem, hc, h2]) | refine acalls_same (hL) ?_ | refine ⟨_, hL, ?_⟩ | refine ⟨_, _, hL, ?_⟩ | refine acalls_same (pquote_c _ h ha ?_ ?_) ?_ | refine ⟨_, pquote_c _ h ha ?_ ?_, ?_⟩ | refine ⟨_, _, pquote_c _ h ha ?_ ?_, ?_⟩ | refine vcI (fun _ => ?_) (fun _ => ?_) | (refine vcA ?_ ?_; focus (repeat' (first | omega | assumption | refine vcA ?_ ?_); done)) | omega | refine imp_in (fun _ => ?_))
      exact done_keep _ (Le.refl _) (by rw [pA_len, pA_len]; exact Nat.le_refl _) ⟨rfl, rfl⟩
theorem ptree_c : ∀ (d : Nat) (v : JV) (a : AV) (H : List AObj) (k m : Nat) (o : bytes), PAt H k m → bAddr k a → (8192 < o.length → a = .mp k 0) → rightJ d v = true → o.length + (printP v).length ≤ 1000000 → sizeJ v ≤ 10000 →
    ACalls Tryz.prog 47 [.mp k 0, jAV v] (pA a H k m o) (fun x H' => x = .tup [] ∧ H' = pA (.mp k 0) H k m (trT v o)) := by
  intro d
  induction d with
  | zero =>
    intro v a H k m o h ha ha2 hr hs hsz
    by_cases hk : v.kind ≠ 5 ∧ v.kind ≠ 6
    · exact ptree_leaf v h ha ha2 hr hk hs hsz
    · rcases right_of hr with h | ⟨h, _⟩
      · exact absurd (by omega) (one_kind h)
      · omega
  | succ d ih =>
    intro v a H k m o h ha ha2 hr hs hsz
    by_cases hk : v.kind ≠ 5 ∧ v.kind ≠ 6
    · exact ptree_leaf v h ha ha2 hr hk hs hsz
    have hk56 : v.kind = 5 ∨ v.kind = 6 := by omega
    have hkl := h.kl
    have hL := Len_c (T := 52) (pA_k (a := a) (o := o) h)
    by_cases hol : 8192 < o.length
    · have hc : (8192 < ((o.length : Nat) : Int)) = True := eq_true (by omega)
      have e := ha2 hol
      subst e
      rw [tr_stop hol]
      refine acalls_vc L_ok mixed [1000010] (rs := []) (n := 54) Tryz.func47 rfl rfl rfl rfl (Nat.le_of_ble_eq_true rfl) (by kernel_rfl) ?_
      repeat' (first | refine unhold ?_ | (simp -dsimp -implicitDefEqProofs (disch := (first | assumption | omega | (simp only [ll1, ll2, ll3, ll4, ll5, ll6, ll7, ll8]; omega))) only [go_sem, hc]) | refine acalls_same (hL) ?_ | refine ⟨_, hL, ?_⟩ | refine ⟨_, _, hL, ?_⟩ | refine vcI (fun _ => ?_) (fun _ => ?_) | (refine vcA ?_ ?_; focus (repeat' (first | omega | assumption | refine vcA ?_ ?_); done)) | omega | refine imp_in (fun _ => ?_))
      exact done_keep _ (Le.refl _) (by exact Nat.le_refl _) ⟨rfl, rfl⟩
    · have hc : (8192 < ((o.length : Nat) : Int)) = False := eq_false (by omega)
      have hall : v.items.all (rightJ d) = true := by
        rcases right_of hr with h | ⟨_, _, h⟩
        · exact absurd hk56 (one_kind h)
        · exact h
      have hit := fun (f l : UInt8) => pitems_c (a := a) (H := H) (k := k) (m := m) (o := o) (d := d) v f l h ha hr hk56 hs hsz fun x hx H o h ho => ih x (.mp k 0) H k m o h bAddr_k (fun _ => rfl) (List.all_eq_true.1 hall x hx) ho (by have := size_item hx; omega)
      have htr := trT_eq v o
      rw [if_neg hol] at htr
      rcases hk56 with e | e
      · have hi := hit 91 93
        rw [e, if_pos rfl] at htr
        rw [e, decide_eq_false (by decide)] at hi
        rw [htr]
        refine acalls_vc L_ok mixed [1000010] (rs := []) (n := 54) Tryz.func47 rfl rfl rfl rfl (Nat.le_of_ble_eq_true rfl) (by kernel_rfl) ?_
        repeat' (first | refine unhold ?_ | (simp -dsimp -implicitDefEqProofs (disch := (first | assumption | omega | (simp only [ll1, ll2, ll3, ll4, ll5, ll6, ll7, ll8]; omega))) only [go_sem, hc, e]) | refine acalls_same (hL) ?_ | refine ⟨_, hL, ?_⟩ | refine ⟨_, _, hL, ?_⟩ | refine acalls_same (hi) ?_ | refine ⟨_, hi, ?_⟩ | refine ⟨_, _, hi, ?_⟩ | refine vcI (fun _ => ?_) (fun _ => ?_) | (refine vcA ?_ ?_; focus (repeat' (first | omega | assumption | refine vcA ?_ ?_); done)) | omega | refine imp_in (fun _ => ?_))
        · rw [jAV_eq, e]
        · exact done_keep _ (Le.refl _) (by rw [pA_len, pA_len]; exact Nat.le_refl _) ⟨rfl, rfl⟩
      · have hi := hit 123 125
        rw [e, if_neg (by decide), if_pos rfl] at htr
        rw [e, decide_eq_true rfl] at hi
        rw [htr]
        refine acalls_vc L_ok mixed [1000010] (rs := []) (n := 54) Tryz.func47 rfl rfl rfl rfl (Nat.le_of_ble_eq_true rfl) (by kernel_rfl) ?_
        repeat' (first | refine unhold ?_ | (simp -dsimp -implicitDefEqProofs (disch := (first | assumption | omega | (simp only [ll1, ll2, ll3, ll4, ll5, ll6, ll7, ll8]; omega))) only [go_sem, hc, e]) | refine acalls_same (hL) ?_ | refine ⟨_, hL, ?_⟩ | refine ⟨_, _, hL, ?_⟩ | refine acalls_same (hi) ?_ | refine ⟨_, hi, ?_⟩ | refine ⟨_, _, hi, ?_⟩ | refine vcI (fun _ => ?_) (fun _ => ?_) | (refine vcA ?_ ?_; focus (repeat' (first | omega | assumption | refine vcA ?_ ?_); done)) | omega | refine imp_in (fun _ => ?_))
        · rw [jAV_eq, e]
        · exact done_keep _ (Le.refl _) (by rw [pA_len, pA_len]; exact Nat.le_refl _) ⟨rfl, rfl⟩
/-- A new printer, and what it holds. -/
def nObjs (H : List AObj) (a : AV) (o : bytes) : List AObj := H ++ [bObj 52 (H.length + 1) a o, gObj o.length]
theorem nObjs_at (H : List AObj) (a : AV) (o : bytes) : PAt (nObjs H a o) H.length (H.length + 1) := ⟨by simp [nObjs], by simp [nObjs], by omega⟩
theorem nObjs_pA (H : List AObj) (a b : AV) (o p : bytes) : pA b (nObjs H a o) H.length (H.length + 1) p = nObjs H b p := by
  unfold pA nObjs
  rw [List.set_append_right _ _ (Nat.le_refl _), Nat.sub_self, List.set_append_right _ _ (by omega), Nat.add_sub_cancel_left]
  rfl
theorem nObjs_k (H : List AObj) (a : AV) (o : bytes) : (nObjs H a o)[H.length]? = some (bObj 52 (H.length + 1) a o) := by
  unfold nObjs
  rw [List.getElem?_append_right (Nat.le_refl _), Nat.sub_self]
  rfl
theorem nObjs_m (H : List AObj) (a : AV) (o : bytes) : (nObjs H a o)[H.length + 1]? = some (gObj o.length) := by
  unfold nObjs
  rw [List.getElem?_append_right (by omega), Nat.add_sub_cancel_left]
  rfl
def printE (v : JV) : bytes × Int := if rightJ 12 v = true then (if 8192 < (printP v).length then ([], 3) else (printP v, 0)) else ([], 1)
def quoteE (s : bytes) : bytes × Int := if Lib.validD s = true then (quoteP s, 0) else ([], 1)
def printAV (p : bytes × Int) : AV := .tup [.str p.1, .lit (.int .i64 p.2)]
def lengthE (v : JV) : Int := if (printE v).2 = 3 then 8193 else (printE v).1.length
def canonE (t : bytes) : Bool := decide ((parseP t).2 = 0) && (decide ((printE (parseP t).1).2 = 0) && decide ((printE (parseP t).1).1 = t))
theorem Print_c (v : JV) (H : List AObj) (hs : sizeJ v ≤ 10000) : ACalls Tryz.prog 24 [jAV v] H (fun x H' => x = printAV (printE v) ∧ H' = H) := by
  have hR := fun H => Right_j v H hs
  cases hr : rightJ 12 v with
  | false =>
    rw [hr] at hR
    refine acalls_vc L_ok mixed [3000004005] (rs := [.tmp 2, .tmp 3]) (n := 15) Tryz.func24 rfl rfl rfl rfl (Nat.le_of_ble_eq_true rfl) (by kernel_rfl) ?_
    repeat' (first | refine unhold ?_ | (simp -dsimp -implicitDefEqProofs (disch := (first | assumption | omega | (simp only [ll1, ll2, ll3, ll4, ll5, ll6, ll7, ll8]; omega))) only [go_sem]) | refine acalls_same (hR _) ?_ | refine ⟨_, hR _, ?_⟩ | refine ⟨_, _, hR _, ?_⟩ | refine vcI (fun _ => ?_) (fun _ => ?_) | (refine vcA ?_ ?_; focus (repeat' (first | omega | assumption | refine vcA ?_ ?_); done)) | omega | refine imp_in (fun _ => ?_))
    exact done_same ⟨by rw [printE, hr]; rfl, rfl⟩
  | true =>
    rw [hr] at hR
    have hps := print_size 12 v hr
    have ht := ptree_c 12 v (.lit (.pointer none)) (nObjs H (.lit (.pointer none)) []) H.length (H.length + 1) [] (nObjs_at _ _ _) bAddr_n (fun h => absurd h (by decide)) hr (by rw [List.length_nil]; omega) hs
    rw [nObjs_pA, nObjs_pA] at ht
    obtain ⟨t1, t2⟩ := tr_all v
    have hcut := (tr_cut v []).2.1
    generalize trT v [] = y at *
    have hL := Len_c (T := 52) (nObjs_k H (.mp H.length 0) y)
    have hS := String_c (T := 52) (nObjs_k H (.mp H.length 0) y) (nObjs_m H (.mp H.length 0) y) (by rw [List.length_nil] at hcut; omega)
    have hre : printE v = if 8192 < (printP v).length then ([], 3) else (printP v, 0) := by rw [printE, hr, if_pos rfl]
    rw [hre]
    unfold nObjs at ht
    by_cases hl : 8192 < (printP v).length
    · have hy := t1.2 hl
      have hc : (8192 < ((y.length : Nat) : Int)) = True := eq_true (by omega)
      rw [if_pos hl]
      refine acalls_vc L_ok mixed [3000004005] (rs := [.tmp 2, .tmp 3]) (n := 15) Tryz.func24 rfl rfl rfl rfl (Nat.le_of_ble_eq_true rfl) (by kernel_rfl) ?_
      repeat' (first | refine unhold ?_ | (simp -dsimp -implicitDefEqProofs (disch := (first | assumption | omega | (simp only [ll1, ll2, ll3, ll4, ll5, ll6, ll7, ll8]; omega))) only [go_sem, hc]) | refine acalls_same (hR _) ?_ | refine ⟨_, hR _, ?_⟩ | refine ⟨_, _, hR _, ?_⟩ | refine acalls_same (ht) ?_ | refine ⟨_, ht, ?_⟩ | refine ⟨_, _, ht, ?_⟩ | refine acalls_same (hL) ?_ | refine ⟨_, hL, ?_⟩ | refine ⟨_, _, hL, ?_⟩ | refine acalls_same (hS) ?_ | refine ⟨_, hS, ?_⟩ | refine ⟨_, _, hS, ?_⟩ | refine vcI (fun _ => ?_) (fun _ => ?_) | (refine vcA ?_ ?_; focus (repeat' (first | omega | assumption | refine vcA ?_ ?_); done)) | omega | refine imp_in (fun _ => ?_))
      exact done_cut _ (Le.refl _) (low_tup (lowAll_cons (.str _) (lowAll_cons (.lit _) lowAll_nil))) ⟨rfl, rfl⟩
    · have hy := t2 (by omega)
      have hc : (8192 < ((y.length : Nat) : Int)) = False := eq_false (by have := t1.1; omega)
      rw [if_neg hl, ← hy]
      refine acalls_vc L_ok mixed [3000004005] (rs := [.tmp 2, .tmp 3]) (n := 15) Tryz.func24 rfl rfl rfl rfl (Nat.le_of_ble_eq_true rfl) (by kernel_rfl) ?_
      repeat' (first | refine unhold ?_ | (simp -dsimp -implicitDefEqProofs (disch := (first | assumption | omega | (simp only [ll1, ll2, ll3, ll4, ll5, ll6, ll7, ll8]; omega))) only [go_sem, hc]) | refine acalls_same (hR _) ?_ | refine ⟨_, hR _, ?_⟩ | refine ⟨_, _, hR _, ?_⟩ | refine acalls_same (ht) ?_ | refine ⟨_, ht, ?_⟩ | refine ⟨_, _, ht, ?_⟩ | refine acalls_same (hL) ?_ | refine ⟨_, hL, ?_⟩ | refine ⟨_, _, hL, ?_⟩ | refine acalls_same (hS) ?_ | refine ⟨_, hS, ?_⟩ | refine ⟨_, _, hS, ?_⟩ | refine vcI (fun _ => ?_) (fun _ => ?_) | (refine vcA ?_ ?_; focus (repeat' (first | omega | assumption | refine vcA ?_ ?_); done)) | omega | refine imp_in (fun _ => ?_))
      exact done_cut _ (Le.refl _) (low_tup (lowAll_cons (.str _) (lowAll_cons (.lit _) lowAll_nil))) ⟨rfl, rfl⟩
theorem pquote_n (s : bytes) (H : List AObj) (hs : s.length ≤ 100000) : ACalls Tryz.prog 26 [.mp H.length 0, .str s] (nObjs H (.lit (.pointer none)) []) (fun x H' => x = .tup [] ∧ H' = nObjs H (.mp H.length 0) (quoteP s)) := by
  have := pquote_c (a := .lit (.pointer none)) (o := []) s (nObjs_at H (.lit (.pointer none)) []) bAddr_n (by decide) hs
  rw [nObjs_pA, nObjs_pA] at this
  exact this
theorem Quote_c (s : bytes) (H : List AObj) (hs : s.length ≤ 10000) : ACalls Tryz.prog 8 [.str s] H (fun x H' => x = printAV (quoteE s) ∧ H' = H) := by
  have hR := fun (o : Own) (H : List AObj) => Right_c (o := o) s H hs
  have hq := quoteP_len s
  cases hr : Lib.validD s with
  | false =>
    rw [hr] at hR
    refine acalls_vc L_ok mixed [3000004005] (rs := [.tmp 2, .tmp 3]) (n := 13) Tryz.func8 rfl rfl rfl rfl (Nat.le_of_ble_eq_true rfl) (by kernel_rfl) ?_
    repeat' (first | refine unhold ?_ | (simp -dsimp -implicitDefEqProofs (disch := (first | assumption | omega | (simp only [ll1, ll2, ll3, ll4, ll5, ll6, ll7, ll8]; omega))) only [go_sem]) | refine acalls_same (hR _ _) ?_ | refine ⟨_, hR _ _, ?_⟩ | refine ⟨_, _, hR _ _, ?_⟩ | refine vcI (fun _ => ?_) (fun _ => ?_) | (refine vcA ?_ ?_; focus (repeat' (first | omega | assumption | refine vcA ?_ ?_); done)) | omega | refine imp_in (fun _ => ?_))
    exact done_same ⟨by rw [quoteE, hr]; rfl, rfl⟩
  | true =>
    rw [hr] at hR
    have ht := pquote_n s H (by omega)
    have hS := String_c (T := 52) (nObjs_k H (.mp H.length 0) (quoteP s)) (nObjs_m H (.mp H.length 0) (quoteP s)) (by omega)
    have hre : quoteE s = (quoteP s, 0) := by rw [quoteE, hr, if_pos rfl]
    rw [hre]
    generalize quoteP s = y at *
    unfold nObjs at ht
    refine acalls_vc L_ok mixed [3000004005] (rs := [.tmp 2, .tmp 3]) (n := 13) Tryz.func8 rfl rfl rfl rfl (Nat.le_of_ble_eq_true rfl) (by kernel_rfl) ?_
    repeat' (first | refine unhold ?_ | (simp -dsimp -implicitDefEqProofs (disch := (first | assumption | omega | (simp only [ll1, ll2, ll3, ll4, ll5, ll6, ll7, ll8]; omega))) only [go_sem]) | refine acalls_same (hR _ _) ?_ | refine ⟨_, hR _ _, ?_⟩ | refine ⟨_, _, hR _ _, ?_⟩ | refine acalls_same (ht) ?_ | refine ⟨_, ht, ?_⟩ | refine ⟨_, _, ht, ?_⟩ | refine acalls_same (hS) ?_ | refine ⟨_, hS, ?_⟩ | refine ⟨_, _, hS, ?_⟩ | refine vcI (fun _ => ?_) (fun _ => ?_) | (refine vcA ?_ ?_; focus (repeat' (first | omega | assumption | refine vcA ?_ ?_); done)) | omega | refine imp_in (fun _ => ?_))
    exact done_cut _ (Le.refl _) (low_tup (lowAll_cons (.str _) (lowAll_cons (.lit _) lowAll_nil))) ⟨rfl, rfl⟩
end Go.Proofs.YtdahdbnfknmmgaaGreatDoor
end

section
set_option linter.unusedSimpArgs false
set_option linter.unusedVariables false
namespace Go.Proofs.YtdahdbnfknmmgaaGreatDoor
open Go V
set_option maxRecDepth 10000
set_option maxHeartbeats 1000000
theorem printE_cases (v : JV) : printE v = ([], 1) ∧ rightJ 12 v = false ∨ printE v = ([], 3) ∧ rightJ 12 v = true ∧ 8192 < (printP v).length ∨ printE v = (printP v, 0) ∧ rightJ 12 v = true ∧ (printP v).length ≤ 8192 := by
  unfold printE
  cases hr : rightJ 12 v with
  | false => exact .inl ⟨rfl, rfl⟩
  | true =>
    rw [if_pos rfl]
    by_cases h : 8192 < (printP v).length
    · rw [if_pos h]; exact .inr (.inl ⟨rfl, rfl, h⟩)
    · rw [if_neg h]; exact .inr (.inr ⟨rfl, rfl, by omega⟩)
theorem Length_c (v : JV) (H : List AObj) (hs : sizeJ v ≤ 10000) : ACalls Tryz.prog 12 [jAV v] H (fun x H' => x = .lit (.int .i64 (lengthE v)) ∧ H' = H) := by
  have hP := fun H => Print_c v H hs
  have hle : lengthE v = if (printE v).2 = 3 then 8193 else ((printE v).1.length : Int) := rfl
  rw [hle]
  unfold printAV at hP
  have h13 : (1 : Int) = 3 ↔ False := by decide
  rcases printE_cases v with ⟨e, _⟩ | ⟨e, _⟩ | ⟨e, _, hl⟩
  all_goals
    rw [e] at hP ⊢
    dsimp only at hP ⊢
    refine acalls_vc L_ok mixed [] (rs := [.tmp 2]) (n := 14) Tryz.func12 rfl rfl rfl rfl (Nat.le_of_ble_eq_true rfl) (by kernel_rfl) ?_
    repeat' (first | refine unhold ?_ | (simp -dsimp -implicitDefEqProofs (disch := (first | assumption | omega | (simp only [ll1, ll2, ll3, ll4, ll5, ll6, ll7, ll8]; omega))) only [go_sem]) | refine acalls_same (hP _) ?_ | refine ⟨_, hP _, ?_⟩ | refine ⟨_, _, hP _, ?_⟩ | refine vcI (fun _ => ?_) (fun _ => ?_) | (refine vcA ?_ ?_; focus (repeat' (first | omega | assumption | refine vcA ?_ ?_); done)) | omega | refine imp_in (fun _ => ?_))
    exact done_same ⟨rfl, rfl⟩
end Go.Proofs.YtdahdbnfknmmgaaGreatDoor
end

section
set_option linter.unusedSimpArgs false
set_option linter.unusedVariables false
namespace Go.Proofs.YtdahdbnfknmmgaaGreatDoor
open Go V
set_option maxRecDepth 10000
set_option maxHeartbeats 4000000
end Go.Proofs.YtdahdbnfknmmgaaGreatDoor
end

section
set_option linter.unusedSimpArgs false
set_option linter.unusedVariables false
namespace Go.Proofs.YtdahdbnfknmmgaaGreatDoor
open Go V
set_option maxRecDepth 10000
set_option maxHeartbeats 4000000
end Go.Proofs.YtdahdbnfknmmgaaGreatDoor
end

section
set_option linter.unusedSimpArgs false
set_option linter.unusedVariables false
namespace Go.Proofs.YtdahdbnfknmmgaaGreatDoor
open Go V
set_option maxRecDepth 10000
set_option maxHeartbeats 4000000
end Go.Proofs.YtdahdbnfknmmgaaGreatDoor
end

section
set_option linter.unusedSimpArgs false
set_option linter.unusedVariables false
namespace Go.Proofs.YtdahdbnfknmmgaaGreatDoor
open Go V
set_option maxRecDepth 10000
set_option maxHeartbeats 4000000
/-- The state of put's loop: the place, whether it is put, what is made. -/
structure PS where
  i : Nat
  d : Bool
  o : Prs
end Go.Proofs.YtdahdbnfknmmgaaGreatDoor
end

section
set_option linter.unusedSimpArgs false
set_option linter.unusedVariables false
namespace Go.Proofs.YtdahdbnfknmmgaaGreatDoor
open Go V
set_option maxRecDepth 10000
set_option maxHeartbeats 4000000
end Go.Proofs.YtdahdbnfknmmgaaGreatDoor
end

section
set_option linter.unusedSimpArgs false
set_option linter.unusedVariables false
namespace Go.Proofs.YtdahdbnfknmmgaaGreatDoor
open Go V
set_option maxRecDepth 10000
set_option maxHeartbeats 4000000
def lJ (is : List JV) : JV := .mk 5 0 [] [] is
theorem treeR_l {f : bytes → JV × bytes × Int} {e : UInt8} (hf : ∀ r, (f r).2.1 <:+ r) (is : List JV) (r : bytes) : treeR f e (lJ is) r = treeEnd (treeR f e) e (lJ (is ++ [(f r).1])) (f r).2.1 (f r).2.2 := by
  rw [treeR_eq hf, if_neg (by show ¬ ((5 : Int) = 6); decide)]
  rfl
section
variable {H M : List AObj} {k : Nat} {o x : AObj}
theorem lk_2 : (H.set k o ++ M)[H.length + 2]? = M[2]? := by rw [List.getElem?_append_right (by rw [List.length_set]; omega), List.length_set, Nat.add_sub_cancel_left]
theorem st_2 : (H.set k o ++ M).set (H.length + 2) x = H.set k o ++ M.set 2 x := by rw [List.set_append_right _ _ (by rw [List.length_set]; omega), List.length_set, Nat.add_sub_cancel_left]
end
theorem done_cutm {H₀ : List AObj} {k : Nat} {o g g' : AObj} {M : List AObj} {R : AV → List AObj → Prop} {x : AV} (hk : k < H₀.length) (hg : ∀ sh cs, g' ≠ .cells sh cs) (hx : Low (H₀ ++ [g]).length x) (hcs : ∀ sh cs, o = .cells sh cs → ∀ m, ∀ y ∈ cs, Low m y) (hr : R x (H₀.set k o ++ [g'])) : Done (H₀ ++ [g]) R x (H₀.set k o ++ (g' :: M)) := by
  unfold Done
  have hl : (H₀.set k o ++ [g']).length = (H₀ ++ [g]).length := by simp
  refine ⟨x, (H₀.set k o ++ (g' :: M)).take (H₀ ++ [g]).length, ends_cut (Le.refl x) (Nat.le_refl _) hx fun i sh cs hi e => ?_, ?_⟩
  · rw [show H₀.set k o ++ (g' :: M) = (H₀.set k o ++ [g']) ++ M by simp, List.getElem?_append_left (by rw [hl]; exact hi)] at e
    by_cases hik : i < H₀.length
    · rw [List.getElem?_append_left (by simpa using hik)] at e
      rcases get_set e with ⟨_, e'⟩ | ⟨_, e', _⟩
      · exact .inl (by rw [List.getElem?_append_left hik]; exact e')
      · exact .inr (hcs sh cs e'.symm _)
    · rw [List.getElem?_append_right (by simpa using hik)] at e
      have h1 := lt_of_get e
      simp only [List.length_cons, List.length_nil] at h1
      rw [show i - (H₀.set k o).length = 0 by omega] at e
      simp at e
      exact absurd e (hg _ _)
  · rw [show H₀.set k o ++ (g' :: M) = (H₀.set k o ++ [g']) ++ M by simp, ← hl, List.take_left]
    exact hr
/-- A call that gets a fresh tree: a token for its items. -/
theorem acalls_mintJ {P : Program} {f : FuncId} {H : List AObj} {a b d c0 c1 c2 c3 y : AV} {k : Nat} {o : AObj} (hk : k < H.length) (hcs : ∀ sh cs, o = .cells sh cs → ∀ m, ∀ y ∈ cs, Low m y) (hy : ∀ m, Low m y)
    (h : ACalls P f [a, .agg [c0, c1, c2, c3, .sl (.tok H.length) 5 []], b, d] (H ++ [.grow 5 0 none]) (fun x H' => x = y ∧ ∃ n, H' = H.set k o ++ [.grow 5 n none])) :
    ACalls P f [a, .agg [c0, c1, c2, c3, .sl .full 0 []], b, d] H (fun x H' => x = y ∧ H' = H.set k o) := fun G w vs hi ha => by
  obtain ⟨hsz, hrel⟩ := ha
  obtain ⟨v1, hv1⟩ : ∃ v, vs[1]? = some v := ⟨_, Array.getElem?_eq_getElem (by rw [hsz]; simp)⟩
  have r1 := hrel 1 _ v1 rfl hv1
  cases r1 with
  | agg _ arr hl hr =>
  obtain ⟨v4, hv4⟩ : ∃ v, arr[4]? = some v := ⟨_, Array.getElem?_eq_getElem (by rw [hl]; simp)⟩
  have r4 := hr 4 _ v4 rfl hv4
  have r4' := r4
  cases r4 with
  | sl _ _ _ ad len cap val hl4 hcap hs' hc hr' hf' ha' ho =>
  obtain ⟨hi', st, r5⟩ := mint none hi r4' (s := 5) (by decide) (fun h => absurd rfl h) (fun h => absurd rfl h)
  refine (h _ w vs hi' ⟨hsz, fun j x v ex ev => ?_⟩).mono ?_
  · match j, ex with
    | 0, ex => cases ex; exact (hrel 0 _ v rfl ev).mono st
    | 1, ex =>
      cases ex
      rw [hv1] at ev
      cases ev
      refine .agg _ arr (by rw [hl]; rfl) fun i z u ez eu => ?_
      match i, ez with
      | 0, ez => cases ez; exact (hr 0 _ u rfl eu).mono st
      | 1, ez => cases ez; exact (hr 1 _ u rfl eu).mono st
      | 2, ez => cases ez; exact (hr 2 _ u rfl eu).mono st
      | 3, ez => cases ez; exact (hr 3 _ u rfl eu).mono st
      | 4, ez =>
        cases ez
        rw [hv4] at eu
        cases eu
        exact r5
    | 2, ex => cases ex; exact (hrel 2 _ v rfl ev).mono st
    | 3, ex => cases ex; exact (hrel 3 _ v rfl ev).mono st
  · rintro v w' ⟨x, G', H', h1, h2, h3, rfl, n, rfl⟩
    have hl : (H.set k o).length = H.length := by simp
    obtain ⟨G2, g1, g2, g3⟩ := ends_cut (H₀ := H) (H := H.set k o ++ [.grow 5 n none]) (m := H.length) (Le.refl x) (Nat.le_refl _) (hy _) (fun i sh cs hi e => by
      rw [List.getElem?_append_left (by rw [hl]; exact hi)] at e
      rcases get_set e with ⟨_, e'⟩ | ⟨_, e', _⟩
      · exact .inl e'
      · exact .inr (hcs sh cs e'.symm _)) G w G' w' v hi h1 (st.trans h2) h3
    exact ⟨x, G2, _, g1, g2, g3, rfl, by rw [← hl, List.take_left]⟩
theorem low_pObj' {t r : bytes} {e : Int} : ∀ sh cs, pObj t r e = .cells sh cs → ∀ m, ∀ y ∈ cs, Low m y := fun sh cs h _ => low_pObj sh cs h
/-- The state of a list's loop. -/
structure LS where
  r : bytes
  is : List JV
  e : Int
abbrev lCells (m : Nat) (is : List JV) : List AV := [.lit (.int .i64 5), .lit (.int .i64 0), .str [], .sl .full 0 [], .sl (.tok m) 5 (is.map jAV)]
theorem le_list {o : Own} {m : Nat} {is : List JV} : Le (.agg [.lit (.int .i64 5), .lit (.int .i64 0), .str [], .sl o 0 [], .sl (.tok m) 5 (is.map jAV)]) (jAV (lJ is)) := le_j (ns := []) le_nil le_sh
def lObjs (t : bytes) (H : List AObj) (k : Nat) (y : LS) : List AObj := H.set k (pObj t y.r y.e) ++ [.grow 5 y.is.length none, .cells (.one 29) (lCells H.length y.is), .cells (.one 29) zCells]
theorem tree_l {f : bytes → JV × bytes × Int} {k : Nat} {t r : bytes} {H : List AObj} {w : Int} (hw : 0 ≤ w ∧ w ≤ 100) (hk : H[k]? = some (pObj t r 0)) (hs : r <:+ t) (hl : t.length ≤ 10000) (hf : ∀ r, (f r).2.1 <:+ r) (hval : ValC f t (w + 1)) :
    ACalls Tryz.prog 57 [.mp k 0, .agg (lCells H.length []), .str [93], .lit (.int .i64 w)] (H ++ [.grow 5 0 none]) (fun x H' => x = jAV (treeP f 93 listJ r).1 ∧ ∃ n, H' = H.set k (pObj t (treeP f 93 listJ r).2.1 (treeP f 93 listJ r).2.2) ++ [.grow 5 n none]) := by
  have hkl := lt_of_get hk
  have hs1 := suf_blanks hs
  have hrl := suf_len hs1
  cases hsk : skipW [93] (blanks r) with
  | some r2 =>
    have htp : treeP f 93 listJ r = (listJ, r2, 0) := by rw [treeP, hsk]
    rw [htp]
    refine acalls_vc L_ok mixed [5, 1000008, 1000008000005, 1000009, 1000009001005] (rs := [.cell 8 29]) (n := 78) Tryz.func57 rfl rfl rfl rfl (Nat.le_of_ble_eq_true rfl) (by kernel_rfl) ?_
    repeat' (first | refine unhold ?_ | (simp -dsimp -implicitDefEqProofs (disch := (first | assumption | omega | (simp only [ll1, ll2, ll3, ll4, ll5, ll6, ll7, ll8]; omega))) only [go_sem, lk_k hkl, st_k hkl, lk_b, st_b, lk_m, st_m, lk_2, st_2, h_left hkl, h_setl hkl, hsk, List.append_assoc]) | refine acalls_same (blanks_c (by rw [h_left hkl]; exact hk) hs hl) ?_ | refine ⟨_, blanks_c (by rw [h_left hkl]; exact hk) hs hl, ?_⟩ | refine ⟨_, _, blanks_c (by rw [h_left hkl]; exact hk) hs hl, ?_⟩ | refine acalls_same (skip_c (w := [93]) (lk_k hkl) hs1 hl (by decide)) ?_ | refine ⟨_, skip_c (w := [93]) (lk_k hkl) hs1 hl (by decide), ?_⟩ | refine ⟨_, _, skip_c (w := [93]) (lk_k hkl) hs1 hl (by decide), ?_⟩ | refine vcI (fun _ => ?_) (fun _ => ?_) | (refine vcA ?_ ?_; focus (repeat' (first | omega | assumption | refine vcA ?_ ?_); done)) | omega | refine imp_in (fun _ => ?_))
    exact done_weak (y := jAV listJ) (le_list (is := [])) (done_cutm hkl nofun (low_jAV _) low_pObj' ⟨rfl, _, rfl⟩)
  | none =>
    have htp : treeP f 93 listJ r = treeR f 93 (lJ []) (blanks r) := by rw [treeP, hsk]; rfl
    rw [htp]
    generalize hq : treeR f 93 (lJ []) (blanks r) = q
    have hb1 : 0 + (blanks r).length ≤ t.length + 1 := by omega
    have hb2 : 0 + (blanks r).length ≤ t.length := by omega
    refine acalls_vc L_ok mixed [5, 1000008, 1000008000005, 1000009, 1000009001005] (rs := [.cell 8 29]) (n := 78) Tryz.func57 rfl rfl rfl rfl (Nat.le_of_ble_eq_true rfl) (by kernel_rfl) ?_
    repeat' (first | refine unhold ?_ | (simp -dsimp -implicitDefEqProofs (disch := (first | assumption | omega | (simp only [ll1, ll2, ll3, ll4, ll5, ll6, ll7, ll8]; omega))) only [go_sem, lk_k hkl, st_k hkl, lk_b, st_b, lk_m, st_m, lk_2, st_2, h_left hkl, h_setl hkl, hsk, List.append_assoc]) | refine acalls_same (blanks_c (by rw [h_left hkl]; exact hk) hs hl) ?_ | refine ⟨_, blanks_c (by rw [h_left hkl]; exact hk) hs hl, ?_⟩ | refine ⟨_, _, blanks_c (by rw [h_left hkl]; exact hk) hs hl, ?_⟩ | refine acalls_same (skip_c (w := [93]) (lk_k hkl) hs1 hl (by decide)) ?_ | refine ⟨_, skip_c (w := [93]) (lk_k hkl) hs1 hl (by decide), ?_⟩ | refine ⟨_, _, skip_c (w := [93]) (lk_k hkl) hs1 hl (by decide), ?_⟩ | refine vcI (fun _ => ?_) (fun _ => ?_) | (refine vcA ?_ ?_; focus (repeat' (first | omega | assumption | refine vcA ?_ ?_); done)) | omega | refine imp_in (fun _ => ?_))
    refine vc_loopk L_ok mixed [5, 1000008, 1000008000005, 1000009, 1000009001005] [0, 2, 3, 5, 8] (fun y : LS => y.r <:+ t ∧ y.is.length + y.r.length ≤ t.length + 1 ∧ ((y.e = 0 ∧ y.is.length + y.r.length ≤ t.length ∧ treeR f 93 (lJ y.is) y.r = q) ∨ (y.e ≠ 0 ∧ q = (zeroJ, y.r, y.e)))) (fun _ => []) (lObjs t H k) (fun y => if y.e = 0 then y.r.length + 1 else 0) (by kernel_rfl) ?_ ⟨blanks r, [], 0⟩ ⟨hs1, hb1, .inl ⟨rfl, hb2, hq⟩⟩ env_ok rfl
    rintro ⟨r', is, e⟩ ⟨hs', hnl, hst⟩
    dsimp only at hs' hnl hst ⊢
    have hrl' := suf_len hs'
    unfold lObjs
    dsimp only [lCells, zCells]
    rcases hst with ⟨rfl, hnl2, hq'⟩ | ⟨he, rfl⟩
    · rw [treeR_l hf] at hq'
      have hv2 := fun H h => hval k r' H h hs'
      have hs3 := (hf r').trans hs'
      have hs3' := (hf r').length_le
      generalize f r' = vp at *
      obtain ⟨x, r3, e3⟩ := vp
      dsimp only at hv2 hs3 hs3' hq'
      have hs4 := suf_blanks hs3
      have hs4' := (suf_blanks (List.suffix_refl r3)).length_le
      have hm : is.map jAV ++ [jAV x] = (is ++ [x]).map jAV := by simp
      by_cases he3 : e3 = 0
      · subst he3
        cases hk1 : skipW [93] (blanks r3) with
        | some r4 =>
          have hqq : q = (lJ (is ++ [x]), r4, 0) := by rw [← hq', treeEnd, if_neg (by simp), hk1]
          subst hqq
          repeat' (first | refine unhold ?_ | (simp -dsimp -implicitDefEqProofs (disch := (first | assumption | omega | (simp only [ll1, ll2, ll3, ll4, ll5, ll6, ll7, ll8]; omega))) only [go_sem, lk_k hkl, st_k hkl, lk_b, st_b, lk_m, st_m, lk_2, st_2, hk1, hm]) | refine acalls_same (hv2 _ (lk_k hkl)) ?_ | refine ⟨_, hv2 _ (lk_k hkl), ?_⟩ | refine ⟨_, _, hv2 _ (lk_k hkl), ?_⟩ | refine acalls_same (blanks_c (lk_k hkl) hs3 hl) ?_ | refine ⟨_, blanks_c (lk_k hkl) hs3 hl, ?_⟩ | refine ⟨_, _, blanks_c (lk_k hkl) hs3 hl, ?_⟩ | refine acalls_same (skip_c (w := [93]) (lk_k hkl) hs4 hl (by decide)) ?_ | refine ⟨_, skip_c (w := [93]) (lk_k hkl) hs4 hl (by decide), ?_⟩ | refine ⟨_, _, skip_c (w := [93]) (lk_k hkl) hs4 hl (by decide), ?_⟩ | refine vcI (fun _ => ?_) (fun _ => ?_) | (refine vcA ?_ ?_; focus (repeat' (first | omega | assumption | refine vcA ?_ ?_); done)) | omega | refine imp_in (fun _ => ?_))
          exact done_weak le_list (done_cutm hkl nofun (low_jAV _) low_pObj' ⟨rfl, _, rfl⟩)
        | none =>
          cases hk2 : skipW [44] (blanks r3) with
          | some r4 =>
            have hqq : treeR f 93 (lJ (is ++ [x])) r4 = q := by rw [← hq', treeEnd, if_neg (by simp), hk1, hk2]
            have hl4 := skip_len hk2
            have hs5 := suf_skip hs4 hk2
            simp only [List.length_cons, List.length_nil] at hl4
            repeat' (first | refine unhold ?_ | (simp -dsimp -implicitDefEqProofs (disch := (first | assumption | omega | (simp only [ll1, ll2, ll3, ll4, ll5, ll6, ll7, ll8]; omega))) only [go_sem, lk_k hkl, st_k hkl, lk_b, st_b, lk_m, st_m, lk_2, st_2, hk1, hk2, hm]) | refine acalls_same (hv2 _ (lk_k hkl)) ?_ | refine ⟨_, hv2 _ (lk_k hkl), ?_⟩ | refine ⟨_, _, hv2 _ (lk_k hkl), ?_⟩ | refine acalls_same (blanks_c (lk_k hkl) hs3 hl) ?_ | refine ⟨_, blanks_c (lk_k hkl) hs3 hl, ?_⟩ | refine ⟨_, _, blanks_c (lk_k hkl) hs3 hl, ?_⟩ | refine acalls_same (skip_c (w := [93]) (lk_k hkl) hs4 hl (by decide)) ?_ | refine ⟨_, skip_c (w := [93]) (lk_k hkl) hs4 hl (by decide), ?_⟩ | refine ⟨_, _, skip_c (w := [93]) (lk_k hkl) hs4 hl (by decide), ?_⟩ | refine acalls_same (skip_c (w := [44]) (lk_k hkl) hs4 hl (by decide)) ?_ | refine ⟨_, skip_c (w := [44]) (lk_k hkl) hs4 hl (by decide), ?_⟩ | refine ⟨_, _, skip_c (w := [44]) (lk_k hkl) hs4 hl (by decide), ?_⟩ | refine vcI (fun _ => ?_) (fun _ => ?_) | (refine vcA ?_ ?_; focus (repeat' (first | omega | assumption | refine vcA ?_ ?_); done)) | omega | refine imp_in (fun _ => ?_))
            refine again (⟨r4, is ++ [x], 0⟩) ?_ ?_ ?_ env_ok
            · simp
              omega
            · exact ⟨hs5, by simp; omega, .inl ⟨rfl, by simp; omega, hqq⟩⟩
            · simp
          | none =>
            have hqq : q = (zeroJ, blanks r3, 2) := by rw [← hq', treeEnd, if_neg (by simp), hk1, hk2]
            subst hqq
            repeat' (first | refine unhold ?_ | (simp -dsimp -implicitDefEqProofs (disch := (first | assumption | omega | (simp only [ll1, ll2, ll3, ll4, ll5, ll6, ll7, ll8]; omega))) only [go_sem, lk_k hkl, st_k hkl, lk_b, st_b, lk_m, st_m, lk_2, st_2, hk1, hk2, hm]) | refine acalls_same (hv2 _ (lk_k hkl)) ?_ | refine ⟨_, hv2 _ (lk_k hkl), ?_⟩ | refine ⟨_, _, hv2 _ (lk_k hkl), ?_⟩ | refine acalls_same (blanks_c (lk_k hkl) hs3 hl) ?_ | refine ⟨_, blanks_c (lk_k hkl) hs3 hl, ?_⟩ | refine ⟨_, _, blanks_c (lk_k hkl) hs3 hl, ?_⟩ | refine acalls_same (skip_c (w := [93]) (lk_k hkl) hs4 hl (by decide)) ?_ | refine ⟨_, skip_c (w := [93]) (lk_k hkl) hs4 hl (by decide), ?_⟩ | refine ⟨_, _, skip_c (w := [93]) (lk_k hkl) hs4 hl (by decide), ?_⟩ | refine acalls_same (skip_c (w := [44]) (lk_k hkl) hs4 hl (by decide)) ?_ | refine ⟨_, skip_c (w := [44]) (lk_k hkl) hs4 hl (by decide), ?_⟩ | refine ⟨_, _, skip_c (w := [44]) (lk_k hkl) hs4 hl (by decide), ?_⟩ | refine acalls_same (fail_c (lk_k hkl)) ?_ | refine ⟨_, fail_c (lk_k hkl), ?_⟩ | refine ⟨_, _, fail_c (lk_k hkl), ?_⟩ | refine vcI (fun _ => ?_) (fun _ => ?_) | (refine vcA ?_ ?_; focus (repeat' (first | omega | assumption | refine vcA ?_ ?_); done)) | omega | refine imp_in (fun _ => ?_))
            refine again (⟨blanks r3, is ++ [x], 2⟩) ?_ ?_ ?_ env_ok
            · simp
            · exact ⟨hs4, by simp; omega, .inr ⟨by simp, rfl⟩⟩
            · simp
      · have hqq : q = (zeroJ, blanks r3, e3) := by rw [← hq', treeEnd, if_pos he3]
        subst hqq
        repeat' (first | refine unhold ?_ | (simp -dsimp -implicitDefEqProofs (disch := (first | assumption | omega | (simp only [ll1, ll2, ll3, ll4, ll5, ll6, ll7, ll8]; omega))) only [go_sem, lk_k hkl, st_k hkl, lk_b, st_b, lk_m, st_m, lk_2, st_2, he3, hm]) | refine acalls_same (hv2 _ (lk_k hkl)) ?_ | refine ⟨_, hv2 _ (lk_k hkl), ?_⟩ | refine ⟨_, _, hv2 _ (lk_k hkl), ?_⟩ | refine acalls_same (blanks_c (lk_k hkl) hs3 hl) ?_ | refine ⟨_, blanks_c (lk_k hkl) hs3 hl, ?_⟩ | refine ⟨_, _, blanks_c (lk_k hkl) hs3 hl, ?_⟩ | refine vcI (fun _ => ?_) (fun _ => ?_) | (refine vcA ?_ ?_; focus (repeat' (first | omega | assumption | refine vcA ?_ ?_); done)) | omega | refine imp_in (fun _ => ?_))
        refine again (⟨blanks r3, is ++ [x], e3⟩) ?_ ?_ ?_ env_ok
        · simp [he3]
        · exact ⟨hs4, by simp; omega, .inr ⟨he3, rfl⟩⟩
        · simp
    · repeat' (first | refine unhold ?_ | (simp -dsimp -implicitDefEqProofs (disch := (first | assumption | omega | (simp only [ll1, ll2, ll3, ll4, ll5, ll6, ll7, ll8]; omega))) only [go_sem, lk_k hkl, st_k hkl, lk_b, st_b, lk_m, st_m, lk_2, st_2, he]) | refine vcI (fun _ => ?_) (fun _ => ?_) | (refine vcA ?_ ?_; focus (repeat' (first | omega | assumption | refine vcA ?_ ?_); done)) | omega | refine imp_in (fun _ => ?_))
      exact done_weak le_zero (done_cutm hkl nofun (low_jAV _) low_pObj' ⟨rfl, _, rfl⟩)
theorem tree_l0 {f : bytes → JV × bytes × Int} {k : Nat} {t r : bytes} {H : List AObj} {w : Int} (hw : 0 ≤ w ∧ w ≤ 100) (hk : H[k]? = some (pObj t r 0)) (hs : r <:+ t) (hl : t.length ≤ 10000) (hf : ∀ r, (f r).2.1 <:+ r) (hval : ValC f t (w + 1)) :
    ACalls Tryz.prog 57 [.mp k 0, .agg [.lit (.int .i64 5), .lit (.int .i64 0), .str [], .sl .full 0 [], .sl .full 0 []], .str [93], .lit (.int .i64 w)] H (fun x H' => x = jAV (treeP f 93 listJ r).1 ∧ H' = H.set k (pObj t (treeP f 93 listJ r).2.1 (treeP f 93 listJ r).2.2)) :=
  acalls_mintJ (lt_of_get hk) low_pObj' (fun _ => low_jAV _) (tree_l hw hk hs hl hf hval)
theorem tree_o0 {f : bytes → JV × bytes × Int} {k : Nat} {t r : bytes} {H : List AObj} {w : Int} (hw : 0 ≤ w ∧ w ≤ 100) (hk : H[k]? = some (pObj t r 0)) (hs : r <:+ t) (hl : t.length ≤ 10000) (hf : ∀ r, (f r).2.1 <:+ r) (hval : ValC f t (w + 1)) :
    ACalls Tryz.prog 57 [.mp k 0, .agg [.lit (.int .i64 6), .lit (.int .i64 0), .str [], .sl .full 0 [], .sl .full 0 []], .str [125], .lit (.int .i64 w)] H (fun x H' => x = jAV (treeP f 125 objJ r).1 ∧ H' = H.set k (pObj t (treeP f 125 objJ r).2.1 (treeP f 125 objJ r).2.2)) :=
  (tree_o hw hk hs hl hf hval).weak rfl fun j x y e1 e2 => by
    match j, e1, e2 with
    | 0, e1, e2 => cases e1; cases e2; exact Le.refl _
    | 1, e1, e2 => cases e1; cases e2; exact le_j (ns := []) (is := []) le_nil le_nil
    | 2, e1, e2 => cases e1; cases e2; exact Le.refl _
    | 3, e1, e2 => cases e1; cases e2; exact Le.refl _
end Go.Proofs.YtdahdbnfknmmgaaGreatDoor
end

section
set_option linter.unusedSimpArgs false
set_option linter.unusedVariables false
namespace Go.Proofs.YtdahdbnfknmmgaaGreatDoor
open Go V
set_option maxRecDepth 10000
set_option maxHeartbeats 4000000
/-- The state of a list's loop in the document's parser. -/
structure RS where
  r : bytes
  is : List JV
end Go.Proofs.YtdahdbnfknmmgaaGreatDoor
end

section
set_option linter.unusedSimpArgs false
set_option linter.unusedVariables false
namespace Go.Proofs.YtdahdbnfknmmgaaGreatDoor
open Go V
set_option maxRecDepth 10000
set_option maxHeartbeats 4000000
structure OS where
  r : bytes
  v : JV
end Go.Proofs.YtdahdbnfknmmgaaGreatDoor
end

section
set_option linter.unusedSimpArgs false
set_option linter.unusedVariables false
namespace Go.Proofs.YtdahdbnfknmmgaaGreatDoor
open Go V
set_option maxRecDepth 10000
set_option maxHeartbeats 4000000
theorem drop1_len {r : bytes} (h : peek r ≠ 0) : (r.drop 1).length + 1 = r.length := by
  have := peek_pos h
  rw [List.length_drop]; omega
theorem u8_eq {c d : UInt8} : ((c.toNat : Int) = (d.toNat : Int)) = (c = d) := by
  have : (c.toNat = d.toNat) = (c = d) := propext ⟨UInt8.toNat_inj.1, fun h => by rw [h]⟩
  rw [← this]
  exact propext ⟨Int.ofNat.inj, fun h => by rw [h]⟩
theorem value_leaf {n : Nat} {r : bytes} {x : JV × bytes × Int} (h : leafP (blanks r) = some x) : valueP n r = x := by
  cases n <;> rw [valueP, h] <;> rfl
theorem value_deep {r : bytes} (h : leafP (blanks r) = none) : valueP 0 r = (zeroJ, blanks r, 4) := by rw [valueP, h]; rfl
theorem value_tree {n : Nat} {r : bytes} (h : leafP (blanks r) = none) : valueP (n + 1) r = if peek (blanks r) = 91 then treeP (valueP n) 93 listJ ((blanks r).drop 1) else treeP (valueP n) 125 objJ ((blanks r).drop 1) := by rw [valueP, h]; rfl
theorem le_kind {k : Int} : Le (.agg [.lit (.int .i64 k), .lit (.int .i64 0), .str [], .sl .full 0 [], .sl .full 0 []]) (jAV (.mk k 0 [] [] [])) := le_j (ns := []) (is := []) le_nil le_nil
theorem le_text {t : bytes} : Le (.agg [.lit (.int .i64 4), .lit (.int .i64 0), .str t, .sl .full 0 [], .sl .full 0 []]) (jAV (.mk 4 0 t [] [])) := le_j (ns := []) (is := []) le_nil le_nil
theorem le_num {n : Int} : Le (.agg [.lit (.int .i64 3), .lit (.int .i64 n), .str [], .sl .full 0 [], .sl .full 0 []]) (jAV (.mk 3 n [] [] [])) := le_j (ns := []) (is := []) le_nil le_nil
theorem value_one {t : bytes} (hl : t.length ≤ 10000) (n : Nat) (w : Int) (hn : n ≤ 12) (hw : w = 12 - (n : Int)) (ih : ∀ m, n = m + 1 → ValC (valueP m) t (w + 1)) : ValC (valueP n) t w := by
  intro k r H hk hs
  have hkl := lt_of_get hk
  have hs1 := suf_blanks hs
  have hrl := suf_len hs1
  cases h0 : skipW [110, 117, 108, 108] (blanks r) with
  | some r2 =>
    have hv : valueP n r = (zeroJ, r2, 0) := value_leaf (by unfold leafP wNull wTrue wFalse; simp [h0])
    rw [hv]
    refine acalls_vc L_ok mixed [] (rs := [.cell 4 29]) (n := 87) Tryz.func28 rfl rfl rfl rfl (Nat.le_of_ble_eq_true rfl) (by kernel_rfl) ?_
    repeat' (first | refine unhold ?_ | (simp -dsimp -implicitDefEqProofs (disch := (first | assumption | omega | (simp only [ll1, ll2, ll3, ll4, ll5, ll6, ll7, ll8]; omega))) only [go_sem, lk_k hkl, st_k hkl, lk_b, st_b, h_left hkl, h_setl hkl, h0]) | refine acalls_same (blanks_c (by rw [h_left hkl]; exact hk) hs hl) ?_ | refine ⟨_, blanks_c (by rw [h_left hkl]; exact hk) hs hl, ?_⟩ | refine ⟨_, _, blanks_c (by rw [h_left hkl]; exact hk) hs hl, ?_⟩ | refine acalls_same (peek_c (lk_k hkl) hs1 hl) ?_ | refine ⟨_, peek_c (lk_k hkl) hs1 hl, ?_⟩ | refine ⟨_, _, peek_c (lk_k hkl) hs1 hl, ?_⟩ | refine acalls_same (skip_c (w := [110, 117, 108, 108]) (lk_k hkl) hs1 hl (by decide)) ?_ | refine ⟨_, skip_c (w := [110, 117, 108, 108]) (lk_k hkl) hs1 hl (by decide), ?_⟩ | refine ⟨_, _, skip_c (w := [110, 117, 108, 108]) (lk_k hkl) hs1 hl (by decide), ?_⟩ | refine vcI (fun _ => ?_) (fun _ => ?_) | (refine vcA ?_ ?_; focus (repeat' (first | omega | assumption | refine vcA ?_ ?_); done)) | omega | refine imp_in (fun _ => ?_))
    exact done_weak le_zero (done_cut' (low_jAV _) rfl low_pObj ⟨rfl, rfl⟩)
  | none =>
    cases h1 : skipW [116, 114, 117, 101] (blanks r) with
    | some r2 =>
      have hv : valueP n r = ((.mk 1 0 [] [] []), r2, 0) := value_leaf (by unfold leafP wNull wTrue wFalse; simp [h0, h1])
      rw [hv]
      refine acalls_vc L_ok mixed [] (rs := [.cell 4 29]) (n := 87) Tryz.func28 rfl rfl rfl rfl (Nat.le_of_ble_eq_true rfl) (by kernel_rfl) ?_
      repeat' (first | refine unhold ?_ | (simp -dsimp -implicitDefEqProofs (disch := (first | assumption | omega | (simp only [ll1, ll2, ll3, ll4, ll5, ll6, ll7, ll8]; omega))) only [go_sem, lk_k hkl, st_k hkl, lk_b, st_b, h_left hkl, h_setl hkl, h0, h1]) | refine acalls_same (blanks_c (by rw [h_left hkl]; exact hk) hs hl) ?_ | refine ⟨_, blanks_c (by rw [h_left hkl]; exact hk) hs hl, ?_⟩ | refine ⟨_, _, blanks_c (by rw [h_left hkl]; exact hk) hs hl, ?_⟩ | refine acalls_same (peek_c (lk_k hkl) hs1 hl) ?_ | refine ⟨_, peek_c (lk_k hkl) hs1 hl, ?_⟩ | refine ⟨_, _, peek_c (lk_k hkl) hs1 hl, ?_⟩ | refine acalls_same (skip_c (w := [110, 117, 108, 108]) (lk_k hkl) hs1 hl (by decide)) ?_ | refine ⟨_, skip_c (w := [110, 117, 108, 108]) (lk_k hkl) hs1 hl (by decide), ?_⟩ | refine ⟨_, _, skip_c (w := [110, 117, 108, 108]) (lk_k hkl) hs1 hl (by decide), ?_⟩ | refine acalls_same (skip_c (w := [116, 114, 117, 101]) (lk_k hkl) hs1 hl (by decide)) ?_ | refine ⟨_, skip_c (w := [116, 114, 117, 101]) (lk_k hkl) hs1 hl (by decide), ?_⟩ | refine ⟨_, _, skip_c (w := [116, 114, 117, 101]) (lk_k hkl) hs1 hl (by decide), ?_⟩ | refine vcI (fun _ => ?_) (fun _ => ?_) | (refine vcA ?_ ?_; focus (repeat' (first | omega | assumption | refine vcA ?_ ?_); done)) | omega | refine imp_in (fun _ => ?_))
      exact done_weak le_kind (done_cut' (low_jAV _) rfl low_pObj ⟨rfl, rfl⟩)
    | none =>
      cases h2 : skipW [102, 97, 108, 115, 101] (blanks r) with
      | some r2 =>
        have hv : valueP n r = ((.mk 2 0 [] [] []), r2, 0) := value_leaf (by unfold leafP wNull wTrue wFalse; simp [h0, h1, h2])
        rw [hv]
        refine acalls_vc L_ok mixed [] (rs := [.cell 4 29]) (n := 87) Tryz.func28 rfl rfl rfl rfl (Nat.le_of_ble_eq_true rfl) (by kernel_rfl) ?_
        repeat' (first | refine unhold ?_ | (simp -dsimp -implicitDefEqProofs (disch := (first | assumption | omega | (simp only [ll1, ll2, ll3, ll4, ll5, ll6, ll7, ll8]; omega))) only [go_sem, lk_k hkl, st_k hkl, lk_b, st_b, h_left hkl, h_setl hkl, h0, h1, h2]) | refine acalls_same (blanks_c (by rw [h_left hkl]; exact hk) hs hl) ?_ | refine ⟨_, blanks_c (by rw [h_left hkl]; exact hk) hs hl, ?_⟩ | refine ⟨_, _, blanks_c (by rw [h_left hkl]; exact hk) hs hl, ?_⟩ | refine acalls_same (peek_c (lk_k hkl) hs1 hl) ?_ | refine ⟨_, peek_c (lk_k hkl) hs1 hl, ?_⟩ | refine ⟨_, _, peek_c (lk_k hkl) hs1 hl, ?_⟩ | refine acalls_same (skip_c (w := [110, 117, 108, 108]) (lk_k hkl) hs1 hl (by decide)) ?_ | refine ⟨_, skip_c (w := [110, 117, 108, 108]) (lk_k hkl) hs1 hl (by decide), ?_⟩ | refine ⟨_, _, skip_c (w := [110, 117, 108, 108]) (lk_k hkl) hs1 hl (by decide), ?_⟩ | refine acalls_same (skip_c (w := [116, 114, 117, 101]) (lk_k hkl) hs1 hl (by decide)) ?_ | refine ⟨_, skip_c (w := [116, 114, 117, 101]) (lk_k hkl) hs1 hl (by decide), ?_⟩ | refine ⟨_, _, skip_c (w := [116, 114, 117, 101]) (lk_k hkl) hs1 hl (by decide), ?_⟩ | refine acalls_same (skip_c (w := [102, 97, 108, 115, 101]) (lk_k hkl) hs1 hl (by decide)) ?_ | refine ⟨_, skip_c (w := [102, 97, 108, 115, 101]) (lk_k hkl) hs1 hl (by decide), ?_⟩ | refine ⟨_, _, skip_c (w := [102, 97, 108, 115, 101]) (lk_k hkl) hs1 hl (by decide), ?_⟩ | refine vcI (fun _ => ?_) (fun _ => ?_) | (refine vcA ?_ ?_; focus (repeat' (first | omega | assumption | refine vcA ?_ ?_); done)) | omega | refine imp_in (fun _ => ?_))
        exact done_weak le_kind (done_cut' (low_jAV _) rfl low_pObj ⟨rfl, rfl⟩)
      | none =>
        have hcl := (peek (blanks r)).toNat_lt
        have e34 : (((peek (blanks r)).toNat : Int) = 34) = (peek (blanks r) = 34) := u8_eq (d := 34)
        have e45 : (((peek (blanks r)).toNat : Int) = 45) = (peek (blanks r) = 45) := u8_eq (d := 45)
        have e91 : (((peek (blanks r)).toNat : Int) = 91) = (peek (blanks r) = 91) := u8_eq (d := 91)
        have e123 : (((peek (blanks r)).toNat : Int) = 123) = (peek (blanks r) = 123) := u8_eq (d := 123)
        have edg : isDigit (peek (blanks r)) = decide (48 ≤ (peek (blanks r)).toNat ∧ (peek (blanks r)).toNat ≤ 57) := rfl
        by_cases c34 : peek (blanks r) = 34
        · have hv : valueP n r = (.mk 4 0 (quotedP (blanks r)).1 [] [], (quotedP (blanks r)).2.1, (quotedP (blanks r)).2.2) := value_leaf (by unfold leafP wNull wTrue wFalse; simp [h0, h1, h2, c34])
          rw [hv]
          have hq := quoted_c (H := H.set k (pObj t (blanks r) 0) ++ [.cells (.one 29) zCells]) (lk_k hkl) hs1 hl
          have f34 := e34.trans (eq_true c34)
          generalize quotedP (blanks r) = q at *
          refine acalls_vc L_ok mixed [] (rs := [.cell 4 29]) (n := 87) Tryz.func28 rfl rfl rfl rfl (Nat.le_of_ble_eq_true rfl) (by kernel_rfl) ?_
          repeat' (first | refine unhold ?_ | (simp -dsimp -implicitDefEqProofs (disch := (first | assumption | omega | (simp only [ll1, ll2, ll3, ll4, ll5, ll6, ll7, ll8]; omega))) only [go_sem, lk_k hkl, st_k hkl, lk_b, st_b, h_left hkl, h_setl hkl, h0, h1, h2, f34]) | refine acalls_same (blanks_c (by rw [h_left hkl]; exact hk) hs hl) ?_ | refine ⟨_, blanks_c (by rw [h_left hkl]; exact hk) hs hl, ?_⟩ | refine ⟨_, _, blanks_c (by rw [h_left hkl]; exact hk) hs hl, ?_⟩ | refine acalls_same (peek_c (lk_k hkl) hs1 hl) ?_ | refine ⟨_, peek_c (lk_k hkl) hs1 hl, ?_⟩ | refine ⟨_, _, peek_c (lk_k hkl) hs1 hl, ?_⟩ | refine acalls_same (skip_c (w := [110, 117, 108, 108]) (lk_k hkl) hs1 hl (by decide)) ?_ | refine ⟨_, skip_c (w := [110, 117, 108, 108]) (lk_k hkl) hs1 hl (by decide), ?_⟩ | refine ⟨_, _, skip_c (w := [110, 117, 108, 108]) (lk_k hkl) hs1 hl (by decide), ?_⟩ | refine acalls_same (skip_c (w := [116, 114, 117, 101]) (lk_k hkl) hs1 hl (by decide)) ?_ | refine ⟨_, skip_c (w := [116, 114, 117, 101]) (lk_k hkl) hs1 hl (by decide), ?_⟩ | refine ⟨_, _, skip_c (w := [116, 114, 117, 101]) (lk_k hkl) hs1 hl (by decide), ?_⟩ | refine acalls_same (skip_c (w := [102, 97, 108, 115, 101]) (lk_k hkl) hs1 hl (by decide)) ?_ | refine ⟨_, skip_c (w := [102, 97, 108, 115, 101]) (lk_k hkl) hs1 hl (by decide), ?_⟩ | refine ⟨_, _, skip_c (w := [102, 97, 108, 115, 101]) (lk_k hkl) hs1 hl (by decide), ?_⟩ | refine acalls_same (hq) ?_ | refine ⟨_, hq, ?_⟩ | refine ⟨_, _, hq, ?_⟩ | refine vcI (fun _ => ?_) (fun _ => ?_) | (refine vcA ?_ ?_; focus (repeat' (first | omega | assumption | refine vcA ?_ ?_); done)) | omega | refine imp_in (fun _ => ?_))
          exact done_weak le_text (done_cut' (low_jAV _) rfl low_pObj ⟨rfl, rfl⟩)
        have f34 := e34.trans (eq_false c34)
        by_cases cn : peek (blanks r) = 45 ∨ isDigit (peek (blanks r)) = true
        · have hv : valueP n r = (.mk 3 (numP (blanks r)).1 [] [] [], (numP (blanks r)).2.1, (numP (blanks r)).2.2) := value_leaf (by unfold leafP wNull wTrue wFalse; simp only [h0, h1, h2]; rw [if_neg c34, if_pos cn])
          rw [hv]
          have hq := number_c (H := H.set k (pObj t (blanks r) 0) ++ [.cells (.one 29) zCells]) (lk_k hkl) hs1 hl
          generalize numP (blanks r) = q at *
          by_cases c45 : peek (blanks r) = 45
          · have f45 := e45.trans (eq_true c45)
            refine acalls_vc L_ok mixed [] (rs := [.cell 4 29]) (n := 87) Tryz.func28 rfl rfl rfl rfl (Nat.le_of_ble_eq_true rfl) (by kernel_rfl) ?_
            repeat' (first | refine unhold ?_ | (simp -dsimp -implicitDefEqProofs (disch := (first | assumption | omega | (simp only [ll1, ll2, ll3, ll4, ll5, ll6, ll7, ll8]; omega))) only [go_sem, lk_k hkl, st_k hkl, lk_b, st_b, h_left hkl, h_setl hkl, h0, h1, h2, f34, f45]) | refine acalls_same (blanks_c (by rw [h_left hkl]; exact hk) hs hl) ?_ | refine ⟨_, blanks_c (by rw [h_left hkl]; exact hk) hs hl, ?_⟩ | refine ⟨_, _, blanks_c (by rw [h_left hkl]; exact hk) hs hl, ?_⟩ | refine acalls_same (peek_c (lk_k hkl) hs1 hl) ?_ | refine ⟨_, peek_c (lk_k hkl) hs1 hl, ?_⟩ | refine ⟨_, _, peek_c (lk_k hkl) hs1 hl, ?_⟩ | refine acalls_same (skip_c (w := [110, 117, 108, 108]) (lk_k hkl) hs1 hl (by decide)) ?_ | refine ⟨_, skip_c (w := [110, 117, 108, 108]) (lk_k hkl) hs1 hl (by decide), ?_⟩ | refine ⟨_, _, skip_c (w := [110, 117, 108, 108]) (lk_k hkl) hs1 hl (by decide), ?_⟩ | refine acalls_same (skip_c (w := [116, 114, 117, 101]) (lk_k hkl) hs1 hl (by decide)) ?_ | refine ⟨_, skip_c (w := [116, 114, 117, 101]) (lk_k hkl) hs1 hl (by decide), ?_⟩ | refine ⟨_, _, skip_c (w := [116, 114, 117, 101]) (lk_k hkl) hs1 hl (by decide), ?_⟩ | refine acalls_same (skip_c (w := [102, 97, 108, 115, 101]) (lk_k hkl) hs1 hl (by decide)) ?_ | refine ⟨_, skip_c (w := [102, 97, 108, 115, 101]) (lk_k hkl) hs1 hl (by decide), ?_⟩ | refine ⟨_, _, skip_c (w := [102, 97, 108, 115, 101]) (lk_k hkl) hs1 hl (by decide), ?_⟩ | refine acalls_same (hq) ?_ | refine ⟨_, hq, ?_⟩ | refine ⟨_, _, hq, ?_⟩ | refine vcI (fun _ => ?_) (fun _ => ?_) | (refine vcA ?_ ?_; focus (repeat' (first | omega | assumption | refine vcA ?_ ?_); done)) | omega | refine imp_in (fun _ => ?_))
            exact done_weak le_num (done_cut' (low_jAV _) rfl low_pObj ⟨rfl, rfl⟩)
          · have f45 := e45.trans (eq_false c45)
            have cd := cn.resolve_left c45
            rw [edg, decide_eq_true_eq] at cd
            have f48 : ((48 : Int) ≤ ((peek (blanks r)).toNat : Int)) = True := eq_true (by omega)
            have f57 : (((peek (blanks r)).toNat : Int) ≤ 57) = True := eq_true (by omega)
            refine acalls_vc L_ok mixed [] (rs := [.cell 4 29]) (n := 87) Tryz.func28 rfl rfl rfl rfl (Nat.le_of_ble_eq_true rfl) (by kernel_rfl) ?_
            repeat' (first | refine unhold ?_ | (simp -dsimp -implicitDefEqProofs (disch := (first | assumption | omega | (simp only [ll1, ll2, ll3, ll4, ll5, ll6, ll7, ll8]; omega))) only [go_sem, lk_k hkl, st_k hkl, lk_b, st_b, h_left hkl, h_setl hkl, h0, h1, h2, f34, f45, f48, f57]) | refine acalls_same (blanks_c (by rw [h_left hkl]; exact hk) hs hl) ?_ | refine ⟨_, blanks_c (by rw [h_left hkl]; exact hk) hs hl, ?_⟩ | refine ⟨_, _, blanks_c (by rw [h_left hkl]; exact hk) hs hl, ?_⟩ | refine acalls_same (peek_c (lk_k hkl) hs1 hl) ?_ | refine ⟨_, peek_c (lk_k hkl) hs1 hl, ?_⟩ | refine ⟨_, _, peek_c (lk_k hkl) hs1 hl, ?_⟩ | refine acalls_same (skip_c (w := [110, 117, 108, 108]) (lk_k hkl) hs1 hl (by decide)) ?_ | refine ⟨_, skip_c (w := [110, 117, 108, 108]) (lk_k hkl) hs1 hl (by decide), ?_⟩ | refine ⟨_, _, skip_c (w := [110, 117, 108, 108]) (lk_k hkl) hs1 hl (by decide), ?_⟩ | refine acalls_same (skip_c (w := [116, 114, 117, 101]) (lk_k hkl) hs1 hl (by decide)) ?_ | refine ⟨_, skip_c (w := [116, 114, 117, 101]) (lk_k hkl) hs1 hl (by decide), ?_⟩ | refine ⟨_, _, skip_c (w := [116, 114, 117, 101]) (lk_k hkl) hs1 hl (by decide), ?_⟩ | refine acalls_same (skip_c (w := [102, 97, 108, 115, 101]) (lk_k hkl) hs1 hl (by decide)) ?_ | refine ⟨_, skip_c (w := [102, 97, 108, 115, 101]) (lk_k hkl) hs1 hl (by decide), ?_⟩ | refine ⟨_, _, skip_c (w := [102, 97, 108, 115, 101]) (lk_k hkl) hs1 hl (by decide), ?_⟩ | refine acalls_same (hq) ?_ | refine ⟨_, hq, ?_⟩ | refine ⟨_, _, hq, ?_⟩ | refine vcI (fun _ => ?_) (fun _ => ?_) | (refine vcA ?_ ?_; focus (repeat' (first | omega | assumption | refine vcA ?_ ?_); done)) | omega | refine imp_in (fun _ => ?_))
            exact done_weak le_num (done_cut' (low_jAV _) rfl low_pObj ⟨rfl, rfl⟩)
        have f45 := e45.trans (eq_false fun h => cn (.inl h))
        have cd : ¬ isDigit (peek (blanks r)) = true := fun h => cn (.inr h)
        rw [edg, decide_eq_true_eq] at cd
        have hdd : (((48 : Int) ≤ ((peek (blanks r)).toNat : Int)) = False) ∨ (((48 : Int) ≤ ((peek (blanks r)).toNat : Int)) = True ∧ ((((peek (blanks r)).toNat : Int) ≤ 57)) = False) := by
          by_cases h : (48 : Int) ≤ ((peek (blanks r)).toNat : Int)
          · exact .inr ⟨eq_true h, eq_false (by omega)⟩
          · exact .inl (eq_false h)
        by_cases cb : peek (blanks r) ≠ 91 ∧ peek (blanks r) ≠ 123
        · have hv : valueP n r = (zeroJ, blanks r, 2) := value_leaf (by unfold leafP wNull wTrue wFalse; simp only [h0, h1, h2]; rw [if_neg c34, if_neg cn, if_pos cb])
          rw [hv]
          have f91 := e91.trans (eq_false cb.1)
          have f123 := e123.trans (eq_false cb.2)
          rcases hdd with f48 | ⟨f48, f57⟩
          · skip
            refine acalls_vc L_ok mixed [] (rs := [.cell 4 29]) (n := 87) Tryz.func28 rfl rfl rfl rfl (Nat.le_of_ble_eq_true rfl) (by kernel_rfl) ?_
            repeat' (first | refine unhold ?_ | (simp -dsimp -implicitDefEqProofs (disch := (first | assumption | omega | (simp only [ll1, ll2, ll3, ll4, ll5, ll6, ll7, ll8]; omega))) only [go_sem, lk_k hkl, st_k hkl, lk_b, st_b, h_left hkl, h_setl hkl, h0, h1, h2, f34, f45, f91, f123, f48]) | refine acalls_same (blanks_c (by rw [h_left hkl]; exact hk) hs hl) ?_ | refine ⟨_, blanks_c (by rw [h_left hkl]; exact hk) hs hl, ?_⟩ | refine ⟨_, _, blanks_c (by rw [h_left hkl]; exact hk) hs hl, ?_⟩ | refine acalls_same (peek_c (lk_k hkl) hs1 hl) ?_ | refine ⟨_, peek_c (lk_k hkl) hs1 hl, ?_⟩ | refine ⟨_, _, peek_c (lk_k hkl) hs1 hl, ?_⟩ | refine acalls_same (skip_c (w := [110, 117, 108, 108]) (lk_k hkl) hs1 hl (by decide)) ?_ | refine ⟨_, skip_c (w := [110, 117, 108, 108]) (lk_k hkl) hs1 hl (by decide), ?_⟩ | refine ⟨_, _, skip_c (w := [110, 117, 108, 108]) (lk_k hkl) hs1 hl (by decide), ?_⟩ | refine acalls_same (skip_c (w := [116, 114, 117, 101]) (lk_k hkl) hs1 hl (by decide)) ?_ | refine ⟨_, skip_c (w := [116, 114, 117, 101]) (lk_k hkl) hs1 hl (by decide), ?_⟩ | refine ⟨_, _, skip_c (w := [116, 114, 117, 101]) (lk_k hkl) hs1 hl (by decide), ?_⟩ | refine acalls_same (skip_c (w := [102, 97, 108, 115, 101]) (lk_k hkl) hs1 hl (by decide)) ?_ | refine ⟨_, skip_c (w := [102, 97, 108, 115, 101]) (lk_k hkl) hs1 hl (by decide), ?_⟩ | refine ⟨_, _, skip_c (w := [102, 97, 108, 115, 101]) (lk_k hkl) hs1 hl (by decide), ?_⟩ | refine acalls_same (fail_c (lk_k hkl)) ?_ | refine ⟨_, fail_c (lk_k hkl), ?_⟩ | refine ⟨_, _, fail_c (lk_k hkl), ?_⟩ | refine vcI (fun _ => ?_) (fun _ => ?_) | (refine vcA ?_ ?_; focus (repeat' (first | omega | assumption | refine vcA ?_ ?_); done)) | omega | refine imp_in (fun _ => ?_))
            exact done_weak le_zero (done_cut' (low_jAV _) rfl low_pObj ⟨rfl, rfl⟩)
          · skip
            refine acalls_vc L_ok mixed [] (rs := [.cell 4 29]) (n := 87) Tryz.func28 rfl rfl rfl rfl (Nat.le_of_ble_eq_true rfl) (by kernel_rfl) ?_
            repeat' (first | refine unhold ?_ | (simp -dsimp -implicitDefEqProofs (disch := (first | assumption | omega | (simp only [ll1, ll2, ll3, ll4, ll5, ll6, ll7, ll8]; omega))) only [go_sem, lk_k hkl, st_k hkl, lk_b, st_b, h_left hkl, h_setl hkl, h0, h1, h2, f34, f45, f91, f123, f48, f57]) | refine acalls_same (blanks_c (by rw [h_left hkl]; exact hk) hs hl) ?_ | refine ⟨_, blanks_c (by rw [h_left hkl]; exact hk) hs hl, ?_⟩ | refine ⟨_, _, blanks_c (by rw [h_left hkl]; exact hk) hs hl, ?_⟩ | refine acalls_same (peek_c (lk_k hkl) hs1 hl) ?_ | refine ⟨_, peek_c (lk_k hkl) hs1 hl, ?_⟩ | refine ⟨_, _, peek_c (lk_k hkl) hs1 hl, ?_⟩ | refine acalls_same (skip_c (w := [110, 117, 108, 108]) (lk_k hkl) hs1 hl (by decide)) ?_ | refine ⟨_, skip_c (w := [110, 117, 108, 108]) (lk_k hkl) hs1 hl (by decide), ?_⟩ | refine ⟨_, _, skip_c (w := [110, 117, 108, 108]) (lk_k hkl) hs1 hl (by decide), ?_⟩ | refine acalls_same (skip_c (w := [116, 114, 117, 101]) (lk_k hkl) hs1 hl (by decide)) ?_ | refine ⟨_, skip_c (w := [116, 114, 117, 101]) (lk_k hkl) hs1 hl (by decide), ?_⟩ | refine ⟨_, _, skip_c (w := [116, 114, 117, 101]) (lk_k hkl) hs1 hl (by decide), ?_⟩ | refine acalls_same (skip_c (w := [102, 97, 108, 115, 101]) (lk_k hkl) hs1 hl (by decide)) ?_ | refine ⟨_, skip_c (w := [102, 97, 108, 115, 101]) (lk_k hkl) hs1 hl (by decide), ?_⟩ | refine ⟨_, _, skip_c (w := [102, 97, 108, 115, 101]) (lk_k hkl) hs1 hl (by decide), ?_⟩ | refine acalls_same (fail_c (lk_k hkl)) ?_ | refine ⟨_, fail_c (lk_k hkl), ?_⟩ | refine ⟨_, _, fail_c (lk_k hkl), ?_⟩ | refine vcI (fun _ => ?_) (fun _ => ?_) | (refine vcA ?_ ?_; focus (repeat' (first | omega | assumption | refine vcA ?_ ?_); done)) | omega | refine imp_in (fun _ => ?_))
            exact done_weak le_zero (done_cut' (low_jAV _) rfl low_pObj ⟨rfl, rfl⟩)
        have hlf : leafP (blanks r) = none := by unfold leafP wNull wTrue wFalse; simp only [h0, h1, h2]; rw [if_neg c34, if_neg cn, if_neg cb]
        have hp0 : peek (blanks r) ≠ 0 := fun h => cb (by rw [h]; decide)
        have hdl := drop1_len hp0
        have hs5 := suf_drop_n hs1 1
        have hpo : AObj.cells (.one 59) [.str t, .lit (.int .i64 (((t.length - (blanks r).length : Nat) : Int) + 1)), .lit (.int .i64 0)] = pObj t ((blanks r).drop 1) 0 := pc (by omega)
        cases n with
        | zero =>
          rw [value_deep hlf]
          have fw : ((12 : Int) ≤ w) = True := eq_true (by omega)
          rcases hdd with f48 | ⟨f48, f57⟩
          · skip
            by_cases c91 : peek (blanks r) = 91
            · have f91 := e91.trans (eq_true c91)
              refine acalls_vc L_ok mixed [] (rs := [.cell 4 29]) (n := 87) Tryz.func28 rfl rfl rfl rfl (Nat.le_of_ble_eq_true rfl) (by kernel_rfl) ?_
              repeat' (first | refine unhold ?_ | (simp -dsimp -implicitDefEqProofs (disch := (first | assumption | omega | (simp only [ll1, ll2, ll3, ll4, ll5, ll6, ll7, ll8]; omega))) only [go_sem, lk_k hkl, st_k hkl, lk_b, st_b, h_left hkl, h_setl hkl, h0, h1, h2, f34, f45, f91, fw, f48]) | refine acalls_same (blanks_c (by rw [h_left hkl]; exact hk) hs hl) ?_ | refine ⟨_, blanks_c (by rw [h_left hkl]; exact hk) hs hl, ?_⟩ | refine ⟨_, _, blanks_c (by rw [h_left hkl]; exact hk) hs hl, ?_⟩ | refine acalls_same (peek_c (lk_k hkl) hs1 hl) ?_ | refine ⟨_, peek_c (lk_k hkl) hs1 hl, ?_⟩ | refine ⟨_, _, peek_c (lk_k hkl) hs1 hl, ?_⟩ | refine acalls_same (skip_c (w := [110, 117, 108, 108]) (lk_k hkl) hs1 hl (by decide)) ?_ | refine ⟨_, skip_c (w := [110, 117, 108, 108]) (lk_k hkl) hs1 hl (by decide), ?_⟩ | refine ⟨_, _, skip_c (w := [110, 117, 108, 108]) (lk_k hkl) hs1 hl (by decide), ?_⟩ | refine acalls_same (skip_c (w := [116, 114, 117, 101]) (lk_k hkl) hs1 hl (by decide)) ?_ | refine ⟨_, skip_c (w := [116, 114, 117, 101]) (lk_k hkl) hs1 hl (by decide), ?_⟩ | refine ⟨_, _, skip_c (w := [116, 114, 117, 101]) (lk_k hkl) hs1 hl (by decide), ?_⟩ | refine acalls_same (skip_c (w := [102, 97, 108, 115, 101]) (lk_k hkl) hs1 hl (by decide)) ?_ | refine ⟨_, skip_c (w := [102, 97, 108, 115, 101]) (lk_k hkl) hs1 hl (by decide), ?_⟩ | refine ⟨_, _, skip_c (w := [102, 97, 108, 115, 101]) (lk_k hkl) hs1 hl (by decide), ?_⟩ | refine acalls_same (fail_c (lk_k hkl)) ?_ | refine ⟨_, fail_c (lk_k hkl), ?_⟩ | refine ⟨_, _, fail_c (lk_k hkl), ?_⟩ | refine vcI (fun _ => ?_) (fun _ => ?_) | (refine vcA ?_ ?_; focus (repeat' (first | omega | assumption | refine vcA ?_ ?_); done)) | omega | refine imp_in (fun _ => ?_))
              exact done_weak le_zero (done_cut' (low_jAV _) rfl low_pObj ⟨rfl, rfl⟩)
            · have f91 := e91.trans (eq_false c91)
              have f123 := e123.trans (eq_true (Classical.byContradiction fun h => cb ⟨c91, h⟩))
              refine acalls_vc L_ok mixed [] (rs := [.cell 4 29]) (n := 87) Tryz.func28 rfl rfl rfl rfl (Nat.le_of_ble_eq_true rfl) (by kernel_rfl) ?_
              repeat' (first | refine unhold ?_ | (simp -dsimp -implicitDefEqProofs (disch := (first | assumption | omega | (simp only [ll1, ll2, ll3, ll4, ll5, ll6, ll7, ll8]; omega))) only [go_sem, lk_k hkl, st_k hkl, lk_b, st_b, h_left hkl, h_setl hkl, h0, h1, h2, f34, f45, f91, f123, fw, f48]) | refine acalls_same (blanks_c (by rw [h_left hkl]; exact hk) hs hl) ?_ | refine ⟨_, blanks_c (by rw [h_left hkl]; exact hk) hs hl, ?_⟩ | refine ⟨_, _, blanks_c (by rw [h_left hkl]; exact hk) hs hl, ?_⟩ | refine acalls_same (peek_c (lk_k hkl) hs1 hl) ?_ | refine ⟨_, peek_c (lk_k hkl) hs1 hl, ?_⟩ | refine ⟨_, _, peek_c (lk_k hkl) hs1 hl, ?_⟩ | refine acalls_same (skip_c (w := [110, 117, 108, 108]) (lk_k hkl) hs1 hl (by decide)) ?_ | refine ⟨_, skip_c (w := [110, 117, 108, 108]) (lk_k hkl) hs1 hl (by decide), ?_⟩ | refine ⟨_, _, skip_c (w := [110, 117, 108, 108]) (lk_k hkl) hs1 hl (by decide), ?_⟩ | refine acalls_same (skip_c (w := [116, 114, 117, 101]) (lk_k hkl) hs1 hl (by decide)) ?_ | refine ⟨_, skip_c (w := [116, 114, 117, 101]) (lk_k hkl) hs1 hl (by decide), ?_⟩ | refine ⟨_, _, skip_c (w := [116, 114, 117, 101]) (lk_k hkl) hs1 hl (by decide), ?_⟩ | refine acalls_same (skip_c (w := [102, 97, 108, 115, 101]) (lk_k hkl) hs1 hl (by decide)) ?_ | refine ⟨_, skip_c (w := [102, 97, 108, 115, 101]) (lk_k hkl) hs1 hl (by decide), ?_⟩ | refine ⟨_, _, skip_c (w := [102, 97, 108, 115, 101]) (lk_k hkl) hs1 hl (by decide), ?_⟩ | refine acalls_same (fail_c (lk_k hkl)) ?_ | refine ⟨_, fail_c (lk_k hkl), ?_⟩ | refine ⟨_, _, fail_c (lk_k hkl), ?_⟩ | refine vcI (fun _ => ?_) (fun _ => ?_) | (refine vcA ?_ ?_; focus (repeat' (first | omega | assumption | refine vcA ?_ ?_); done)) | omega | refine imp_in (fun _ => ?_))
              exact done_weak le_zero (done_cut' (low_jAV _) rfl low_pObj ⟨rfl, rfl⟩)
          · skip
            by_cases c91 : peek (blanks r) = 91
            · have f91 := e91.trans (eq_true c91)
              refine acalls_vc L_ok mixed [] (rs := [.cell 4 29]) (n := 87) Tryz.func28 rfl rfl rfl rfl (Nat.le_of_ble_eq_true rfl) (by kernel_rfl) ?_
              repeat' (first | refine unhold ?_ | (simp -dsimp -implicitDefEqProofs (disch := (first | assumption | omega | (simp only [ll1, ll2, ll3, ll4, ll5, ll6, ll7, ll8]; omega))) only [go_sem, lk_k hkl, st_k hkl, lk_b, st_b, h_left hkl, h_setl hkl, h0, h1, h2, f34, f45, f91, fw, f48, f57]) | refine acalls_same (blanks_c (by rw [h_left hkl]; exact hk) hs hl) ?_ | refine ⟨_, blanks_c (by rw [h_left hkl]; exact hk) hs hl, ?_⟩ | refine ⟨_, _, blanks_c (by rw [h_left hkl]; exact hk) hs hl, ?_⟩ | refine acalls_same (peek_c (lk_k hkl) hs1 hl) ?_ | refine ⟨_, peek_c (lk_k hkl) hs1 hl, ?_⟩ | refine ⟨_, _, peek_c (lk_k hkl) hs1 hl, ?_⟩ | refine acalls_same (skip_c (w := [110, 117, 108, 108]) (lk_k hkl) hs1 hl (by decide)) ?_ | refine ⟨_, skip_c (w := [110, 117, 108, 108]) (lk_k hkl) hs1 hl (by decide), ?_⟩ | refine ⟨_, _, skip_c (w := [110, 117, 108, 108]) (lk_k hkl) hs1 hl (by decide), ?_⟩ | refine acalls_same (skip_c (w := [116, 114, 117, 101]) (lk_k hkl) hs1 hl (by decide)) ?_ | refine ⟨_, skip_c (w := [116, 114, 117, 101]) (lk_k hkl) hs1 hl (by decide), ?_⟩ | refine ⟨_, _, skip_c (w := [116, 114, 117, 101]) (lk_k hkl) hs1 hl (by decide), ?_⟩ | refine acalls_same (skip_c (w := [102, 97, 108, 115, 101]) (lk_k hkl) hs1 hl (by decide)) ?_ | refine ⟨_, skip_c (w := [102, 97, 108, 115, 101]) (lk_k hkl) hs1 hl (by decide), ?_⟩ | refine ⟨_, _, skip_c (w := [102, 97, 108, 115, 101]) (lk_k hkl) hs1 hl (by decide), ?_⟩ | refine acalls_same (fail_c (lk_k hkl)) ?_ | refine ⟨_, fail_c (lk_k hkl), ?_⟩ | refine ⟨_, _, fail_c (lk_k hkl), ?_⟩ | refine vcI (fun _ => ?_) (fun _ => ?_) | (refine vcA ?_ ?_; focus (repeat' (first | omega | assumption | refine vcA ?_ ?_); done)) | omega | refine imp_in (fun _ => ?_))
              exact done_weak le_zero (done_cut' (low_jAV _) rfl low_pObj ⟨rfl, rfl⟩)
            · have f91 := e91.trans (eq_false c91)
              have f123 := e123.trans (eq_true (Classical.byContradiction fun h => cb ⟨c91, h⟩))
              refine acalls_vc L_ok mixed [] (rs := [.cell 4 29]) (n := 87) Tryz.func28 rfl rfl rfl rfl (Nat.le_of_ble_eq_true rfl) (by kernel_rfl) ?_
              repeat' (first | refine unhold ?_ | (simp -dsimp -implicitDefEqProofs (disch := (first | assumption | omega | (simp only [ll1, ll2, ll3, ll4, ll5, ll6, ll7, ll8]; omega))) only [go_sem, lk_k hkl, st_k hkl, lk_b, st_b, h_left hkl, h_setl hkl, h0, h1, h2, f34, f45, f91, f123, fw, f48, f57]) | refine acalls_same (blanks_c (by rw [h_left hkl]; exact hk) hs hl) ?_ | refine ⟨_, blanks_c (by rw [h_left hkl]; exact hk) hs hl, ?_⟩ | refine ⟨_, _, blanks_c (by rw [h_left hkl]; exact hk) hs hl, ?_⟩ | refine acalls_same (peek_c (lk_k hkl) hs1 hl) ?_ | refine ⟨_, peek_c (lk_k hkl) hs1 hl, ?_⟩ | refine ⟨_, _, peek_c (lk_k hkl) hs1 hl, ?_⟩ | refine acalls_same (skip_c (w := [110, 117, 108, 108]) (lk_k hkl) hs1 hl (by decide)) ?_ | refine ⟨_, skip_c (w := [110, 117, 108, 108]) (lk_k hkl) hs1 hl (by decide), ?_⟩ | refine ⟨_, _, skip_c (w := [110, 117, 108, 108]) (lk_k hkl) hs1 hl (by decide), ?_⟩ | refine acalls_same (skip_c (w := [116, 114, 117, 101]) (lk_k hkl) hs1 hl (by decide)) ?_ | refine ⟨_, skip_c (w := [116, 114, 117, 101]) (lk_k hkl) hs1 hl (by decide), ?_⟩ | refine ⟨_, _, skip_c (w := [116, 114, 117, 101]) (lk_k hkl) hs1 hl (by decide), ?_⟩ | refine acalls_same (skip_c (w := [102, 97, 108, 115, 101]) (lk_k hkl) hs1 hl (by decide)) ?_ | refine ⟨_, skip_c (w := [102, 97, 108, 115, 101]) (lk_k hkl) hs1 hl (by decide), ?_⟩ | refine ⟨_, _, skip_c (w := [102, 97, 108, 115, 101]) (lk_k hkl) hs1 hl (by decide), ?_⟩ | refine acalls_same (fail_c (lk_k hkl)) ?_ | refine ⟨_, fail_c (lk_k hkl), ?_⟩ | refine ⟨_, _, fail_c (lk_k hkl), ?_⟩ | refine vcI (fun _ => ?_) (fun _ => ?_) | (refine vcA ?_ ?_; focus (repeat' (first | omega | assumption | refine vcA ?_ ?_); done)) | omega | refine imp_in (fun _ => ?_))
              exact done_weak le_zero (done_cut' (low_jAV _) rfl low_pObj ⟨rfl, rfl⟩)
        | succ m =>
          rw [value_tree hlf]
          have hih := ih m rfl
          have hsv := suf_value m
          have fw : ((12 : Int) ≤ w) = False := eq_false (by omega)
          have hw1 : 0 ≤ w ∧ w ≤ 100 := by omega
          generalize valueP m = f at *
          rcases hdd with f48 | ⟨f48, f57⟩
          · skip
            by_cases c91 : peek (blanks r) = 91
            · have f91 := e91.trans (eq_true c91)
              rw [if_pos c91]
              have ht := fun H h => tree_l0 (k := k) (H := H) hw1 h hs5 hl hsv hih
              generalize treeP f 93 listJ ((blanks r).drop 1) = q at *
              refine acalls_vc L_ok mixed [] (rs := [.cell 4 29]) (n := 87) Tryz.func28 rfl rfl rfl rfl (Nat.le_of_ble_eq_true rfl) (by kernel_rfl) ?_
              repeat' (first | refine unhold ?_ | (simp -dsimp -implicitDefEqProofs (disch := (first | assumption | omega | (simp only [ll1, ll2, ll3, ll4, ll5, ll6, ll7, ll8]; omega))) only [go_sem, lk_k hkl, st_k hkl, lk_b, st_b, h_left hkl, h_setl hkl, h0, h1, h2, f34, f45, f91, fw, pObj, f48]) | refine acalls_same (blanks_c (by rw [h_left hkl]; exact hk) hs hl) ?_ | refine ⟨_, blanks_c (by rw [h_left hkl]; exact hk) hs hl, ?_⟩ | refine ⟨_, _, blanks_c (by rw [h_left hkl]; exact hk) hs hl, ?_⟩ | refine acalls_same (peek_c (lk_k hkl) hs1 hl) ?_ | refine ⟨_, peek_c (lk_k hkl) hs1 hl, ?_⟩ | refine ⟨_, _, peek_c (lk_k hkl) hs1 hl, ?_⟩ | refine acalls_same (skip_c (w := [110, 117, 108, 108]) (lk_k hkl) hs1 hl (by decide)) ?_ | refine ⟨_, skip_c (w := [110, 117, 108, 108]) (lk_k hkl) hs1 hl (by decide), ?_⟩ | refine ⟨_, _, skip_c (w := [110, 117, 108, 108]) (lk_k hkl) hs1 hl (by decide), ?_⟩ | refine acalls_same (skip_c (w := [116, 114, 117, 101]) (lk_k hkl) hs1 hl (by decide)) ?_ | refine ⟨_, skip_c (w := [116, 114, 117, 101]) (lk_k hkl) hs1 hl (by decide), ?_⟩ | refine ⟨_, _, skip_c (w := [116, 114, 117, 101]) (lk_k hkl) hs1 hl (by decide), ?_⟩ | refine acalls_same (skip_c (w := [102, 97, 108, 115, 101]) (lk_k hkl) hs1 hl (by decide)) ?_ | refine ⟨_, skip_c (w := [102, 97, 108, 115, 101]) (lk_k hkl) hs1 hl (by decide), ?_⟩ | refine ⟨_, _, skip_c (w := [102, 97, 108, 115, 101]) (lk_k hkl) hs1 hl (by decide), ?_⟩ | refine acalls_same (ht _ ((lk_k hkl).trans (congrArg some hpo))) ?_ | refine ⟨_, ht _ ((lk_k hkl).trans (congrArg some hpo)), ?_⟩ | refine ⟨_, _, ht _ ((lk_k hkl).trans (congrArg some hpo)), ?_⟩ | refine vcI (fun _ => ?_) (fun _ => ?_) | (refine vcA ?_ ?_; focus (repeat' (first | omega | assumption | refine vcA ?_ ?_); done)) | omega | refine imp_in (fun _ => ?_))
              exact done_cut' (low_jAV _) rfl (low_pObj (t := t) (r := q.2.1) (e := q.2.2)) ⟨rfl, rfl⟩
            · have f91 := e91.trans (eq_false c91)
              rw [if_neg c91]
              have f123 := e123.trans (eq_true (Classical.byContradiction fun h => cb ⟨c91, h⟩))
              have ht := fun H h => tree_o0 (k := k) (H := H) hw1 h hs5 hl hsv hih
              generalize treeP f 125 objJ ((blanks r).drop 1) = q at *
              refine acalls_vc L_ok mixed [] (rs := [.cell 4 29]) (n := 87) Tryz.func28 rfl rfl rfl rfl (Nat.le_of_ble_eq_true rfl) (by kernel_rfl) ?_
              repeat' (first | refine unhold ?_ | (simp -dsimp -implicitDefEqProofs (disch := (first | assumption | omega | (simp only [ll1, ll2, ll3, ll4, ll5, ll6, ll7, ll8]; omega))) only [go_sem, lk_k hkl, st_k hkl, lk_b, st_b, h_left hkl, h_setl hkl, h0, h1, h2, f34, f45, f91, f123, fw, pObj, f48]) | refine acalls_same (blanks_c (by rw [h_left hkl]; exact hk) hs hl) ?_ | refine ⟨_, blanks_c (by rw [h_left hkl]; exact hk) hs hl, ?_⟩ | refine ⟨_, _, blanks_c (by rw [h_left hkl]; exact hk) hs hl, ?_⟩ | refine acalls_same (peek_c (lk_k hkl) hs1 hl) ?_ | refine ⟨_, peek_c (lk_k hkl) hs1 hl, ?_⟩ | refine ⟨_, _, peek_c (lk_k hkl) hs1 hl, ?_⟩ | refine acalls_same (skip_c (w := [110, 117, 108, 108]) (lk_k hkl) hs1 hl (by decide)) ?_ | refine ⟨_, skip_c (w := [110, 117, 108, 108]) (lk_k hkl) hs1 hl (by decide), ?_⟩ | refine ⟨_, _, skip_c (w := [110, 117, 108, 108]) (lk_k hkl) hs1 hl (by decide), ?_⟩ | refine acalls_same (skip_c (w := [116, 114, 117, 101]) (lk_k hkl) hs1 hl (by decide)) ?_ | refine ⟨_, skip_c (w := [116, 114, 117, 101]) (lk_k hkl) hs1 hl (by decide), ?_⟩ | refine ⟨_, _, skip_c (w := [116, 114, 117, 101]) (lk_k hkl) hs1 hl (by decide), ?_⟩ | refine acalls_same (skip_c (w := [102, 97, 108, 115, 101]) (lk_k hkl) hs1 hl (by decide)) ?_ | refine ⟨_, skip_c (w := [102, 97, 108, 115, 101]) (lk_k hkl) hs1 hl (by decide), ?_⟩ | refine ⟨_, _, skip_c (w := [102, 97, 108, 115, 101]) (lk_k hkl) hs1 hl (by decide), ?_⟩ | refine acalls_same (ht _ ((lk_k hkl).trans (congrArg some hpo))) ?_ | refine ⟨_, ht _ ((lk_k hkl).trans (congrArg some hpo)), ?_⟩ | refine ⟨_, _, ht _ ((lk_k hkl).trans (congrArg some hpo)), ?_⟩ | refine vcI (fun _ => ?_) (fun _ => ?_) | (refine vcA ?_ ?_; focus (repeat' (first | omega | assumption | refine vcA ?_ ?_); done)) | omega | refine imp_in (fun _ => ?_))
              exact done_cut' (low_jAV _) rfl (low_pObj (t := t) (r := q.2.1) (e := q.2.2)) ⟨rfl, rfl⟩
          · skip
            by_cases c91 : peek (blanks r) = 91
            · have f91 := e91.trans (eq_true c91)
              rw [if_pos c91]
              have ht := fun H h => tree_l0 (k := k) (H := H) hw1 h hs5 hl hsv hih
              generalize treeP f 93 listJ ((blanks r).drop 1) = q at *
              refine acalls_vc L_ok mixed [] (rs := [.cell 4 29]) (n := 87) Tryz.func28 rfl rfl rfl rfl (Nat.le_of_ble_eq_true rfl) (by kernel_rfl) ?_
              repeat' (first | refine unhold ?_ | (simp -dsimp -implicitDefEqProofs (disch := (first | assumption | omega | (simp only [ll1, ll2, ll3, ll4, ll5, ll6, ll7, ll8]; omega))) only [go_sem, lk_k hkl, st_k hkl, lk_b, st_b, h_left hkl, h_setl hkl, h0, h1, h2, f34, f45, f91, fw, pObj, f48, f57]) | refine acalls_same (blanks_c (by rw [h_left hkl]; exact hk) hs hl) ?_ | refine ⟨_, blanks_c (by rw [h_left hkl]; exact hk) hs hl, ?_⟩ | refine ⟨_, _, blanks_c (by rw [h_left hkl]; exact hk) hs hl, ?_⟩ | refine acalls_same (peek_c (lk_k hkl) hs1 hl) ?_ | refine ⟨_, peek_c (lk_k hkl) hs1 hl, ?_⟩ | refine ⟨_, _, peek_c (lk_k hkl) hs1 hl, ?_⟩ | refine acalls_same (skip_c (w := [110, 117, 108, 108]) (lk_k hkl) hs1 hl (by decide)) ?_ | refine ⟨_, skip_c (w := [110, 117, 108, 108]) (lk_k hkl) hs1 hl (by decide), ?_⟩ | refine ⟨_, _, skip_c (w := [110, 117, 108, 108]) (lk_k hkl) hs1 hl (by decide), ?_⟩ | refine acalls_same (skip_c (w := [116, 114, 117, 101]) (lk_k hkl) hs1 hl (by decide)) ?_ | refine ⟨_, skip_c (w := [116, 114, 117, 101]) (lk_k hkl) hs1 hl (by decide), ?_⟩ | refine ⟨_, _, skip_c (w := [116, 114, 117, 101]) (lk_k hkl) hs1 hl (by decide), ?_⟩ | refine acalls_same (skip_c (w := [102, 97, 108, 115, 101]) (lk_k hkl) hs1 hl (by decide)) ?_ | refine ⟨_, skip_c (w := [102, 97, 108, 115, 101]) (lk_k hkl) hs1 hl (by decide), ?_⟩ | refine ⟨_, _, skip_c (w := [102, 97, 108, 115, 101]) (lk_k hkl) hs1 hl (by decide), ?_⟩ | refine acalls_same (ht _ ((lk_k hkl).trans (congrArg some hpo))) ?_ | refine ⟨_, ht _ ((lk_k hkl).trans (congrArg some hpo)), ?_⟩ | refine ⟨_, _, ht _ ((lk_k hkl).trans (congrArg some hpo)), ?_⟩ | refine vcI (fun _ => ?_) (fun _ => ?_) | (refine vcA ?_ ?_; focus (repeat' (first | omega | assumption | refine vcA ?_ ?_); done)) | omega | refine imp_in (fun _ => ?_))
              exact done_cut' (low_jAV _) rfl (low_pObj (t := t) (r := q.2.1) (e := q.2.2)) ⟨rfl, rfl⟩
            · have f91 := e91.trans (eq_false c91)
              rw [if_neg c91]
              have f123 := e123.trans (eq_true (Classical.byContradiction fun h => cb ⟨c91, h⟩))
              have ht := fun H h => tree_o0 (k := k) (H := H) hw1 h hs5 hl hsv hih
              generalize treeP f 125 objJ ((blanks r).drop 1) = q at *
              refine acalls_vc L_ok mixed [] (rs := [.cell 4 29]) (n := 87) Tryz.func28 rfl rfl rfl rfl (Nat.le_of_ble_eq_true rfl) (by kernel_rfl) ?_
              repeat' (first | refine unhold ?_ | (simp -dsimp -implicitDefEqProofs (disch := (first | assumption | omega | (simp only [ll1, ll2, ll3, ll4, ll5, ll6, ll7, ll8]; omega))) only [go_sem, lk_k hkl, st_k hkl, lk_b, st_b, h_left hkl, h_setl hkl, h0, h1, h2, f34, f45, f91, f123, fw, pObj, f48, f57]) | refine acalls_same (blanks_c (by rw [h_left hkl]; exact hk) hs hl) ?_ | refine ⟨_, blanks_c (by rw [h_left hkl]; exact hk) hs hl, ?_⟩ | refine ⟨_, _, blanks_c (by rw [h_left hkl]; exact hk) hs hl, ?_⟩ | refine acalls_same (peek_c (lk_k hkl) hs1 hl) ?_ | refine ⟨_, peek_c (lk_k hkl) hs1 hl, ?_⟩ | refine ⟨_, _, peek_c (lk_k hkl) hs1 hl, ?_⟩ | refine acalls_same (skip_c (w := [110, 117, 108, 108]) (lk_k hkl) hs1 hl (by decide)) ?_ | refine ⟨_, skip_c (w := [110, 117, 108, 108]) (lk_k hkl) hs1 hl (by decide), ?_⟩ | refine ⟨_, _, skip_c (w := [110, 117, 108, 108]) (lk_k hkl) hs1 hl (by decide), ?_⟩ | refine acalls_same (skip_c (w := [116, 114, 117, 101]) (lk_k hkl) hs1 hl (by decide)) ?_ | refine ⟨_, skip_c (w := [116, 114, 117, 101]) (lk_k hkl) hs1 hl (by decide), ?_⟩ | refine ⟨_, _, skip_c (w := [116, 114, 117, 101]) (lk_k hkl) hs1 hl (by decide), ?_⟩ | refine acalls_same (skip_c (w := [102, 97, 108, 115, 101]) (lk_k hkl) hs1 hl (by decide)) ?_ | refine ⟨_, skip_c (w := [102, 97, 108, 115, 101]) (lk_k hkl) hs1 hl (by decide), ?_⟩ | refine ⟨_, _, skip_c (w := [102, 97, 108, 115, 101]) (lk_k hkl) hs1 hl (by decide), ?_⟩ | refine acalls_same (ht _ ((lk_k hkl).trans (congrArg some hpo))) ?_ | refine ⟨_, ht _ ((lk_k hkl).trans (congrArg some hpo)), ?_⟩ | refine ⟨_, _, ht _ ((lk_k hkl).trans (congrArg some hpo)), ?_⟩ | refine vcI (fun _ => ?_) (fun _ => ?_) | (refine vcA ?_ ?_; focus (repeat' (first | omega | assumption | refine vcA ?_ ?_); done)) | omega | refine imp_in (fun _ => ?_))
              exact done_cut' (low_jAV _) rfl (low_pObj (t := t) (r := q.2.1) (e := q.2.2)) ⟨rfl, rfl⟩
theorem value_c {t : bytes} (hl : t.length ≤ 10000) : ∀ (n : Nat) (w : Int), n ≤ 12 → w = 12 - (n : Int) → ValC (valueP n) t w := by
  intro n
  induction n with
  | zero => exact fun w _ hw => value_one hl 0 w (by omega) hw fun m hm => by omega
  | succ n ih =>
    intro w hn hw
    refine value_one hl (n + 1) w hn hw ?_
    intro m hm
    cases hm
    exact ih (w + 1) (by omega) (by omega)
theorem le_pair {x y z : AV} (h : Le x y) : Le (.tup [x, z]) (.tup [y, z]) := le_tup (LeAll.cons h (LeAll.cons (Le.refl _) LeAll.nil))
def parseAV (p : JV × Int) : AV := .tup [jAV p.1, .int .i64 p.2]
theorem low_parse {m : Nat} {p : JV × Int} : Low m (parseAV p) := low_tup (lowAll_cons (low_jAV _) (lowAll_cons (.lit _) lowAll_nil))
theorem at1 {H M : List AObj} {a b : AObj} : (H ++ (a :: b :: M))[H.length + 1]? = some b := by rw [List.getElem?_append_right (by omega), Nat.add_sub_cancel_left]; rfl
theorem Parse_c (s : bytes) (H : List AObj) (hl : s.length ≤ 10000) : ACalls Tryz.prog 9 [.str s] H (fun x H' => x = parseAV (parseP s) ∧ H' = H) := by
  unfold parseP
  by_cases c1 : 8192 < s.length
  · rw [if_pos c1]
    refine acalls_vc L_ok mixed [3, 1000011, 1000011004005] (rs := [.cell 2 29, .tmp 3]) (n := 48) Tryz.func9 rfl rfl rfl rfl (Nat.le_of_ble_eq_true rfl) (by kernel_rfl) ?_
    repeat' (first | refine unhold ?_ | (simp -dsimp -implicitDefEqProofs (disch := (first | assumption | omega | (simp only [ll1, ll2, ll3, ll4, ll5, ll6, ll7, ll8]; omega))) only [go_sem]) | refine vcI (fun _ => ?_) (fun _ => ?_) | (refine vcA ?_ ?_; focus (repeat' (first | omega | assumption | refine vcA ?_ ?_); done)) | omega | refine imp_in (fun _ => ?_))
    exact done_weak (le_pair le_zero) (done_cut (parseAV (zeroJ, 3)) (Le.refl _) low_parse ⟨rfl, rfl⟩)
  · rw [if_neg c1]
    cases c2 : Lib.validD s with
    | false =>
      rw [if_pos rfl]
      refine acalls_vc L_ok mixed [3, 1000011, 1000011004005] (rs := [.cell 2 29, .tmp 3]) (n := 48) Tryz.func9 rfl rfl rfl rfl (Nat.le_of_ble_eq_true rfl) (by kernel_rfl) ?_
      repeat' (first | refine unhold ?_ | (simp -dsimp -implicitDefEqProofs (disch := (first | assumption | omega | (simp only [ll1, ll2, ll3, ll4, ll5, ll6, ll7, ll8]; omega))) only [go_sem, c2]) | refine acalls_same (Right_c s _ hl) ?_ | refine ⟨_, Right_c s _ hl, ?_⟩ | refine ⟨_, _, Right_c s _ hl, ?_⟩ | refine vcI (fun _ => ?_) (fun _ => ?_) | (refine vcA ?_ ?_; focus (repeat' (first | omega | assumption | refine vcA ?_ ?_); done)) | omega | refine imp_in (fun _ => ?_))
      exact done_weak (le_pair le_zero) (done_cut (parseAV (zeroJ, 2)) (Le.refl _) low_parse ⟨rfl, rfl⟩)
    | true =>
      rw [if_neg (by simp)]
      have hv := fun k H h => value_c hl 12 0 (by omega) (by omega) k s H h (List.suffix_refl s)
      have hs1 := suf_value 12 s
      generalize valueP 12 s = q at *
      obtain ⟨v, r, e⟩ := q
      dsimp only at hv hs1 ⊢
      have hs2 := suf_blanks hs1
      have p0 : AObj.cells (.one 59) [.str s, .lit (.int .i64 0), .lit (.int .i64 0)] = pObj s s 0 := by rw [pObj, Nat.sub_self]; rfl
      have hbl := hs2.length_le
      by_cases hb : blanks r = []
      · have hlt : (((s.length - (blanks r).length : Nat) : Int) < (s.length : Int)) = False := eq_false (by rw [hb]; simp)
        by_cases he : e = 0
        · subst he
          rw [if_neg (by simp), if_neg (by simp [hb])]
          refine acalls_vc L_ok mixed [20, 1000011, 1000011004005] (rs := [.cell 2 29, .tmp 3]) (n := 48) Tryz.func9 rfl rfl rfl rfl (Nat.le_of_ble_eq_true rfl) (by kernel_rfl) ?_
          repeat' (first | refine unhold ?_ | (simp -dsimp -implicitDefEqProofs (disch := (first | assumption | omega | (simp only [ll1, ll2, ll3, ll4, ll5, ll6, ll7, ll8]; omega))) only [go_sem, c2, hlt]) | refine acalls_same (Right_c s _ hl) ?_ | refine ⟨_, Right_c s _ hl, ?_⟩ | refine ⟨_, _, Right_c s _ hl, ?_⟩ | refine acalls_same (hv _ _ (at1.trans (congrArg some p0))) ?_ | refine ⟨_, hv _ _ (at1.trans (congrArg some p0)), ?_⟩ | refine ⟨_, _, hv _ _ (at1.trans (congrArg some p0)), ?_⟩ | refine acalls_same (blanks_c at1 hs1 hl) ?_ | refine ⟨_, blanks_c at1 hs1 hl, ?_⟩ | refine ⟨_, _, blanks_c at1 hs1 hl, ?_⟩ | refine vcI (fun _ => ?_) (fun _ => ?_) | (refine vcA ?_ ?_; focus (repeat' (first | omega | assumption | refine vcA ?_ ?_); done)) | omega | refine imp_in (fun _ => ?_))
          exact done_cut (parseAV (v, 0)) (Le.refl _) low_parse ⟨rfl, rfl⟩
        · rw [if_pos he]
          refine acalls_vc L_ok mixed [20, 1000011, 1000011004005] (rs := [.cell 2 29, .tmp 3]) (n := 48) Tryz.func9 rfl rfl rfl rfl (Nat.le_of_ble_eq_true rfl) (by kernel_rfl) ?_
          repeat' (first | refine unhold ?_ | (simp -dsimp -implicitDefEqProofs (disch := (first | assumption | omega | (simp only [ll1, ll2, ll3, ll4, ll5, ll6, ll7, ll8]; omega))) only [go_sem, c2, hlt, he]) | refine acalls_same (Right_c s _ hl) ?_ | refine ⟨_, Right_c s _ hl, ?_⟩ | refine ⟨_, _, Right_c s _ hl, ?_⟩ | refine acalls_same (hv _ _ (at1.trans (congrArg some p0))) ?_ | refine ⟨_, hv _ _ (at1.trans (congrArg some p0)), ?_⟩ | refine ⟨_, _, hv _ _ (at1.trans (congrArg some p0)), ?_⟩ | refine acalls_same (blanks_c at1 hs1 hl) ?_ | refine ⟨_, blanks_c at1 hs1 hl, ?_⟩ | refine ⟨_, _, blanks_c at1 hs1 hl, ?_⟩ | refine vcI (fun _ => ?_) (fun _ => ?_) | (refine vcA ?_ ?_; focus (repeat' (first | omega | assumption | refine vcA ?_ ?_); done)) | omega | refine imp_in (fun _ => ?_))
          exact done_weak (le_pair le_zero) (done_cut (parseAV (zeroJ, e)) (Le.refl _) low_parse ⟨rfl, rfl⟩)
      · have hlp := List.length_pos_iff.2 hb
        have hlt : (((s.length - (blanks r).length : Nat) : Int) < (s.length : Int)) = True := eq_true (by omega)
        by_cases he : e = 0
        · subst he
          rw [if_neg (by simp), if_pos hb]
          refine acalls_vc L_ok mixed [20, 1000011, 1000011004005] (rs := [.cell 2 29, .tmp 3]) (n := 48) Tryz.func9 rfl rfl rfl rfl (Nat.le_of_ble_eq_true rfl) (by kernel_rfl) ?_
          repeat' (first | refine unhold ?_ | (simp -dsimp -implicitDefEqProofs (disch := (first | assumption | omega | (simp only [ll1, ll2, ll3, ll4, ll5, ll6, ll7, ll8]; omega))) only [go_sem, c2, hlt]) | refine acalls_same (Right_c s _ hl) ?_ | refine ⟨_, Right_c s _ hl, ?_⟩ | refine ⟨_, _, Right_c s _ hl, ?_⟩ | refine acalls_same (hv _ _ (at1.trans (congrArg some p0))) ?_ | refine ⟨_, hv _ _ (at1.trans (congrArg some p0)), ?_⟩ | refine ⟨_, _, hv _ _ (at1.trans (congrArg some p0)), ?_⟩ | refine acalls_same (blanks_c at1 hs1 hl) ?_ | refine ⟨_, blanks_c at1 hs1 hl, ?_⟩ | refine ⟨_, _, blanks_c at1 hs1 hl, ?_⟩ | refine acalls_same (fail_c at1) ?_ | refine ⟨_, fail_c at1, ?_⟩ | refine ⟨_, _, fail_c at1, ?_⟩ | refine vcI (fun _ => ?_) (fun _ => ?_) | (refine vcA ?_ ?_; focus (repeat' (first | omega | assumption | refine vcA ?_ ?_); done)) | omega | refine imp_in (fun _ => ?_))
          exact done_weak (le_pair le_zero) (done_cut (parseAV (zeroJ, 2)) (Le.refl _) low_parse ⟨rfl, rfl⟩)
        · rw [if_pos he]
          refine acalls_vc L_ok mixed [20, 1000011, 1000011004005] (rs := [.cell 2 29, .tmp 3]) (n := 48) Tryz.func9 rfl rfl rfl rfl (Nat.le_of_ble_eq_true rfl) (by kernel_rfl) ?_
          repeat' (first | refine unhold ?_ | (simp -dsimp -implicitDefEqProofs (disch := (first | assumption | omega | (simp only [ll1, ll2, ll3, ll4, ll5, ll6, ll7, ll8]; omega))) only [go_sem, c2, hlt, he]) | refine acalls_same (Right_c s _ hl) ?_ | refine ⟨_, Right_c s _ hl, ?_⟩ | refine ⟨_, _, Right_c s _ hl, ?_⟩ | refine acalls_same (hv _ _ (at1.trans (congrArg some p0))) ?_ | refine ⟨_, hv _ _ (at1.trans (congrArg some p0)), ?_⟩ | refine ⟨_, _, hv _ _ (at1.trans (congrArg some p0)), ?_⟩ | refine acalls_same (blanks_c at1 hs1 hl) ?_ | refine ⟨_, blanks_c at1 hs1 hl, ?_⟩ | refine ⟨_, _, blanks_c at1 hs1 hl, ?_⟩ | refine acalls_same (fail_c at1) ?_ | refine ⟨_, fail_c at1, ?_⟩ | refine ⟨_, _, fail_c at1, ?_⟩ | refine vcI (fun _ => ?_) (fun _ => ?_) | (refine vcA ?_ ?_; focus (repeat' (first | omega | assumption | refine vcA ?_ ?_); done)) | omega | refine imp_in (fun _ => ?_))
          exact done_weak (le_pair le_zero) (done_cut (parseAV (zeroJ, e)) (Le.refl _) low_parse ⟨rfl, rfl⟩)
end Go.Proofs.YtdahdbnfknmmgaaGreatDoor
end

section
set_option linter.unusedSimpArgs false
set_option linter.unusedVariables false
namespace Go.Proofs.YtdahdbnfknmmgaaGreatDoor
open Go V
set_option maxRecDepth 10000
set_option maxHeartbeats 4000000
theorem take5 {a b c d e : AV} {l : List AV} : (a :: b :: c :: d :: e :: l).take 5 = [a, b, c, d, e] := rfl
theorem drop5 {a b c d e : AV} {l : List AV} : (a :: b :: c :: d :: e :: l).drop 5 = l := rfl
end Go.Proofs.YtdahdbnfknmmgaaGreatDoor
end

section
set_option linter.unusedSimpArgs false
set_option linter.unusedVariables false
namespace Go.Proofs.YtdahdbnfknmmgaaGreatDoor
open Go V
set_option maxRecDepth 10000
set_option maxHeartbeats 4000000
end Go.Proofs.YtdahdbnfknmmgaaGreatDoor
end

section
set_option linter.unusedSimpArgs false
set_option linter.unusedVariables false
namespace Go.Proofs.YtdahdbnfknmmgaaGreatDoor
open Go V
set_option maxRecDepth 10000
set_option maxHeartbeats 1000000
theorem Canonical_c (t : bytes) (H : List AObj) (hl : t.length ≤ 10000) : ACalls Tryz.prog 10 [.str t] H (fun x H' => x = .bool (canonE t) ∧ H' = H) := by
  have hp := fun H => Parse_c t H hl
  obtain ⟨g1, g2⟩ := parse_good t
  have hP := fun H => Print_c (parseP t).1 H g1
  have hce : canonE t = (decide ((parseP t).2 = 0) && (decide ((printE (parseP t).1).2 = 0) && decide ((printE (parseP t).1).1 = t))) := rfl
  rw [hce]
  unfold parseAV at hp
  unfold printAV at hP
  generalize printE (parseP t).1 = q at *
  generalize parseP t = p at *
  clear g1 g2 hce
  by_cases c1 : p.2 = 0
  · rw [c1] at hp
    by_cases c2 : q.2 = 0
    · rw [c2] at hP
      rw [decide_eq_true c1, decide_eq_true c2]
      refine acalls_vc L_ok mixed [] (rs := [.tmp 2]) (n := 25) Tryz.func10 rfl rfl rfl rfl (Nat.le_of_ble_eq_true rfl) (by kernel_rfl) ?_
      repeat' (first | refine unhold ?_ | (simp -dsimp -implicitDefEqProofs (disch := (first | assumption | omega | (simp only [ll1, ll2, ll3, ll4, ll5, ll6, ll7, ll8]; omega))) only [go_sem]) | refine acalls_same (hp _) ?_ | refine ⟨_, hp _, ?_⟩ | refine ⟨_, _, hp _, ?_⟩ | refine acalls_same (hP _) ?_ | refine ⟨_, hP _, ?_⟩ | refine ⟨_, _, hP _, ?_⟩ | refine vcI (fun _ => ?_) (fun _ => ?_) | (refine vcA ?_ ?_; focus (repeat' (first | omega | assumption | refine vcA ?_ ?_); done)) | omega | refine imp_in (fun _ => ?_))
      exact done_lit ⟨by simp, rfl⟩
    · have hc2 : (q.2 = 0) = False := eq_false c2
      rw [decide_eq_true c1, decide_eq_false c2]
      refine acalls_vc L_ok mixed [] (rs := [.tmp 2]) (n := 25) Tryz.func10 rfl rfl rfl rfl (Nat.le_of_ble_eq_true rfl) (by kernel_rfl) ?_
      repeat' (first | refine unhold ?_ | (simp -dsimp -implicitDefEqProofs (disch := (first | assumption | omega | (simp only [ll1, ll2, ll3, ll4, ll5, ll6, ll7, ll8]; omega))) only [go_sem, hc2]) | refine acalls_same (hp _) ?_ | refine ⟨_, hp _, ?_⟩ | refine ⟨_, _, hp _, ?_⟩ | refine acalls_same (hP _) ?_ | refine ⟨_, hP _, ?_⟩ | refine ⟨_, _, hP _, ?_⟩ | refine vcI (fun _ => ?_) (fun _ => ?_) | (refine vcA ?_ ?_; focus (repeat' (first | omega | assumption | refine vcA ?_ ?_); done)) | omega | refine imp_in (fun _ => ?_))
      exact done_lit ⟨by simp, rfl⟩
  · have hc1 : (p.2 = 0) = False := eq_false c1
    rw [decide_eq_false c1]
    refine acalls_vc L_ok mixed [] (rs := [.tmp 2]) (n := 25) Tryz.func10 rfl rfl rfl rfl (Nat.le_of_ble_eq_true rfl) (by kernel_rfl) ?_
    repeat' (first | refine unhold ?_ | (simp -dsimp -implicitDefEqProofs (disch := (first | assumption | omega | (simp only [ll1, ll2, ll3, ll4, ll5, ll6, ll7, ll8]; omega))) only [go_sem, hc1]) | refine acalls_same (hp _) ?_ | refine ⟨_, hp _, ?_⟩ | refine ⟨_, _, hp _, ?_⟩ | refine acalls_same (hP _) ?_ | refine ⟨_, hP _, ?_⟩ | refine ⟨_, _, hP _, ?_⟩ | refine vcI (fun _ => ?_) (fun _ => ?_) | (refine vcA ?_ ?_; focus (repeat' (first | omega | assumption | refine vcA ?_ ?_); done)) | omega | refine imp_in (fun _ => ?_))
    exact done_lit ⟨by simp, rfl⟩
def canonT1 : bytes := [123, 34, 98, 34, 58, 49, 44, 34, 97, 34, 58, 34, 92, 117, 48, 48, 101, 57, 47, 92, 117, 48, 48, 48, 49, 34, 125]
def canonT2 : bytes := [123, 34, 97, 34, 58, 34, 195, 169, 47, 92, 117, 48, 48, 48, 49, 34, 44, 34, 98, 34, 58, 49, 125]
def canonV : JV := .mk 6 0 [] [[97], [98]] [.mk 4 0 [195, 169, 47, 1] [] [], .mk 3 1 [] [] []]
theorem itoa_one : Lib.itoa 1 = [49] := by
  rw [show (1 : Int) = ((1 : Nat) : Int) from rfl, Lib.itoa_nonneg, Lib.decDigits_one (by omega)]
  rfl
theorem canon1 : parseP canonT1 = (canonV, 0) := by kernel_rfl
theorem canonP : printP canonV = canonT2 := by
  unfold canonV canonT2
  simp only [printP, itemsP, itoa_one, headP]
  decide
theorem canonR : rightJ 12 canonV = true := by kernel_rfl
theorem canon2 : printE canonV = (canonT2, 0) := by
  rw [printE, canonR, if_pos rfl, canonP, if_neg (by decide)]
theorem canon_yes {v : JV} (h : printE v = (printP v, 0)) (hr : rightJ 12 v = true) (hl : (printP v).length ≤ 8192) : canonE (printP v) = true := by
  unfold canonE
  rw [parse_print hr hl]
  dsimp only
  rw [h]
  simp
theorem canon3 : canonE canonT2 = true := by
  have := canon_yes (v := canonV) (by rw [canonP]; exact canon2) canonR (by rw [canonP]; decide)
  rw [canonP] at this
  exact this
theorem canon4 : canonE [32, 49] = false := by
  have h1 : parseP [32, 49] = (.mk 3 1 [] [] [], 0) := by kernel_rfl
  have h2 : printP (.mk 3 1 [] [] []) = [49] := by
    rw [printP]
    exact itoa_one
  have h3 : rightJ 12 (.mk 3 1 [] [] []) = true := by kernel_rfl
  unfold canonE
  rw [h1]
  dsimp only
  rw [printE, h3, if_pos rfl, h2]
  decide
theorem alive3_c (H : List AObj) : ACalls Tryz.prog 7 [] H (fun x H' => x = .bool true ∧ H' = H) := by
  have h1 := fun H => Parse_c canonT1 H (by decide)
  have h2 := fun H => Print_c canonV H (by decide)
  have h3 := fun H => Canonical_c canonT2 H (by decide)
  have h4 := fun H => Canonical_c [32, 49] H (by decide)
  rw [canon1] at h1
  rw [canon2] at h2
  rw [canon3] at h3
  rw [canon4] at h4
  unfold parseAV at h1
  unfold printAV at h2
  unfold canonT1 at h1
  unfold canonT2 at h2 h3
  dsimp only at h1 h2
  generalize canonV = v at *
  refine acalls_vc L_ok mixed [] (rs := [.tmp 0]) (n := 32) Tryz.func7 rfl rfl rfl rfl (Nat.le_of_ble_eq_true rfl) (by kernel_rfl) ?_
  repeat' (first | refine unhold ?_ | (simp -dsimp -implicitDefEqProofs (disch := (first | assumption | omega | (simp only [ll1, ll2, ll3, ll4, ll5, ll6, ll7, ll8]; omega))) only [go_sem]) | refine acalls_same (h1 _) ?_ | refine ⟨_, h1 _, ?_⟩ | refine ⟨_, _, h1 _, ?_⟩ | refine acalls_same (h2 _) ?_ | refine ⟨_, h2 _, ?_⟩ | refine ⟨_, _, h2 _, ?_⟩ | refine acalls_same (h3 _) ?_ | refine ⟨_, h3 _, ?_⟩ | refine ⟨_, _, h3 _, ?_⟩ | refine acalls_same (h4 _) ?_ | refine ⟨_, h4 _, ?_⟩ | refine ⟨_, _, h4 _, ?_⟩ | refine vcI (fun _ => ?_) (fun _ => ?_) | (refine vcA ?_ ?_; focus (repeat' (first | omega | assumption | refine vcA ?_ ?_); done)) | omega | refine imp_in (fun _ => ?_))
  exact done_lit ⟨rfl, rfl⟩
def greatK (l : List JV) : Int := (l.map (weigh · 9000)).sum
theorem great3_c {o : Own} (l : List JV) (H : List AObj) (hl : l.length ≤ 100) : ACalls Tryz.prog 11 [.sl o 5 (l.map jAV)] H (fun x H' => x = .bool (decide (9000 < greatK l)) ∧ H' = H) := by
  refine acalls_vc L_ok mixed [] (rs := [.tmp 2]) (n := 20) Tryz.func11 rfl rfl rfl rfl (Nat.le_of_ble_eq_true rfl) (by kernel_rfl) ?_
  repeat' (first | refine unhold ?_ | (simp -dsimp -implicitDefEqProofs (disch := (first | assumption | omega | (simp only [ll1, ll2, ll3, ll4, ll5, ll6, ll7, ll8]; omega))) only [go_sem]) | refine vcI (fun _ => ?_) (fun _ => ?_) | (refine vcA ?_ ?_; focus (repeat' (first | omega | assumption | refine vcA ?_ ?_); done)) | omega | refine imp_in (fun _ => ?_))
  refine vc_loopk L_ok mixed [] [0, 2] (fun i : Nat => i ≤ l.length ∧ 0 ≤ greatK (l.take i) ∧ greatK (l.take i) ≤ 30000 * i) (fun i => [(3, .int .i64 (greatK (l.take i))), (4, .int .i64 i)]) (fun _ => H) (fun i => l.length - i) (by kernel_rfl) ?_ 0 ⟨by omega, by simp [greatK], by simp [greatK]⟩ env_ok rfl
  rintro i ⟨hi, h1, h2⟩
  by_cases hil : i < l.length
  · have hx := getD_j hil
    have hw := weigh_le (l.getD i zeroJ) 9000 (by decide)
    have hs : greatK (l.take (i + 1)) = greatK (l.take i) + weigh (l.getD i zeroJ) 9000 := by
      rw [greatK, List.take_succ_eq_append_getElem hil, List.map_append, List.sum_append, List.getD, List.getElem?_eq_getElem hil]
      simp [greatK]
    generalize l.getD i zeroJ = y at *
    repeat' (first | refine unhold ?_ | (simp -dsimp -implicitDefEqProofs (disch := (first | assumption | omega | (simp only [ll1, ll2, ll3, ll4, ll5, ll6, ll7, ll8]; omega))) only [go_sem, hx]) | refine acalls_same (Weigh_c y 9000 _ (by decide) (by decide)) ?_ | refine ⟨_, Weigh_c y 9000 _ (by decide) (by decide), ?_⟩ | refine ⟨_, _, Weigh_c y 9000 _ (by decide) (by decide), ?_⟩ | refine vcI (fun _ => ?_) (fun _ => ?_) | (refine vcA ?_ ?_; focus (repeat' (first | omega | assumption | refine vcA ?_ ?_); done)) | omega | refine imp_in (fun _ => ?_))
    refine again (i + 1) ?_ ?_ rfl env_ok
    · omega
    · exact ⟨by omega, by rw [hs]; omega, by rw [hs]; omega⟩
  · obtain rfl : i = l.length := by omega
    rw [List.take_length] at *
    repeat' (first | refine unhold ?_ | (simp -dsimp -implicitDefEqProofs (disch := (first | assumption | omega | (simp only [ll1, ll2, ll3, ll4, ll5, ll6, ll7, ll8]; omega))) only [go_sem]) | refine vcI (fun _ => ?_) (fun _ => ?_) | (refine vcA ?_ ?_; focus (repeat' (first | omega | assumption | refine vcA ?_ ?_); done)) | omega | refine imp_in (fun _ => ?_))
    exact done_same ⟨rfl, rfl⟩
theorem greatK1 {v : JV} (h : ¬ 9000 < greatK [v]) : sizeJ v ≤ 9000 := by
  have h1 := weigh_le v 9000 (by decide)
  have h3 : greatK [v] = weigh v 9000 := by simp [greatK]
  rw [h3] at h
  have h4 := h1.2.2.1 (by omega)
  omega
end Go.Proofs.YtdahdbnfknmmgaaGreatDoor
end

section
set_option linter.unusedSimpArgs false
set_option linter.unusedVariables false
namespace Go.Proofs.YtdahdbnfknmmgaaGreatDoor
open Go V
set_option maxRecDepth 10000
set_option maxHeartbeats 4000000
def wrapJ (v : JV) : JV := .mk 5 0 [] [] [v]
theorem size_wrap (v : JV) : sizeJ (wrapJ v) = 1 + sizeJ v := by
  rw [sizeJ_eq, sizesJ_eq]
  simp [wrapJ, JV.text, JV.names, JV.items]
theorem right_wrap (n : Nat) (v : JV) : rightJ (n + 1) (wrapJ v) = rightJ n v := by
  have h1 : oneJ (wrapJ v) = false := rfl
  have h2 : manyJ (wrapJ v) = true := rfl
  rw [rightJ, h1, h2]
  simp [wrapJ, JV.items]
theorem wrap_right (v : JV) : rightJ 12 (wrapJ v) = (rightJ 12 v && decide (((deepJ 13 v : Nat) : Int) < 12)) := by
  rw [right_wrap]
  cases h : rightJ 12 v with
  | false =>
    rw [Bool.false_and]
    cases e : rightJ 11 v with
    | false => rfl
    | true => rw [right_up (by omega) v e] at h; cases h
  | true =>
    rw [Bool.true_and]
    by_cases hd : deepJ 13 v < 12
    · rw [decide_eq_true (by omega), right_deep 13 11 12 v h (by omega) (by omega)]
    · rw [decide_eq_false (by omega)]
      cases e : rightJ 11 v with
      | false => rfl
      | true => have := deep_right 11 13 v e; omega
abbrev wrapAV (v : JV) : AV := .agg [.lit (.int .i64 5), .lit (.int .i64 0), .str [], .sl .full 0 [], .sl .full 5 [jAV v]]
theorem le_wrap (v : JV) : Le (wrapAV v) (jAV (wrapJ v)) := le_j (ns := []) (is := [v]) le_nil le_sh
theorem weak1 {P : Program} {f : FuncId} {H : List AObj} {x y : AV} {R : AV → List AObj → Prop} (h : Le x y) (k : ACalls P f [y] H R) : ACalls P f [x] H R :=
  k.weak rfl fun j a b e1 e2 => by
    match j, e1, e2 with
    | 0, e1, e2 => cases e1; cases e2; exact h
end Go.Proofs.YtdahdbnfknmmgaaGreatDoor
end
