/- The laws of canon: what all share; whether a text is canonical. -/
import Derived.Test.YtplmbhjhihoneaaGreatDoorWPn
import Derived.Test.YtplmbhjhihoneaaGreatDoorWPe
import Derived.Test.YtplmbhjhihoneaaGreatDoorW7
import Derived.Test.YtplmbhjhihoneaaGreatDoorWPa
section
set_option linter.unusedSimpArgs false
set_option linter.unusedVariables false
namespace Go.Proofs.YtplmbhjhihoneaaGreatDoor
open Go V
set_option maxRecDepth 10000
set_option maxHeartbeats 1000000
theorem Canonical_c (t : bytes) (H : List AObj) (hl : t.length ≤ 10000) : ACalls Tryz.prog 39 [.str t] H (fun x H' => x = .bool (canonE t) ∧ H' = H) := by
  have hp := fun H => Parse_c t H hl
  obtain ⟨g1, g2⟩ := parse_good t
  have hP := fun H => Print_c (parseP t).1 H g1
  have hce : canonE t = (decide ((parseP t).2 = 0) && (decide ((printE (parseP t).1).2 = 0) && decide ((printE (parseP t).1).1 = t))) := rfl
  rw [hce]
  unfold parseAV at hp
  unfold printAV at hP
  generalize printE (parseP t).1 = q at *
  generalize parseP t = p at *
  clear g1 g2 hce
  by_cases c1 : p.2 = 0
  · rw [c1] at hp
    by_cases c2 : q.2 = 0
    · rw [c2] at hP
      rw [decide_eq_true c1, decide_eq_true c2]
      refine acalls_vc L_ok mixed [] (rs := [.tmp 2]) (n := 25) Tryz.func39 rfl rfl rfl rfl (Nat.le_of_ble_eq_true rfl) (by kernel_rfl) ?_
      repeat' (first | refine unhold ?_ | (simp -dsimp -implicitDefEqProofs (disch := (first | assumption | omega | (simp only [ll1, ll2, ll3, ll4, ll5, ll6, ll7, ll8]; omega))) only [go_sem]) | refine acalls_same (hp _) ?_ | refine ⟨_, hp _, ?_⟩ | refine ⟨_, _, hp _, ?_⟩ | refine acalls_same (hP _) ?_ | refine ⟨_, hP _, ?_⟩ | refine ⟨_, _, hP _, ?_⟩ | refine vcI (fun _ => ?_) (fun _ => ?_) | (refine vcA ?_ ?_; focus (repeat' (first | omega | assumption | refine vcA ?_ ?_); done)) | omega | refine imp_in (fun _ => ?_))
      exact done_lit ⟨by simp, rfl⟩
    · have hc2 : (q.2 = 0) = False := eq_false c2
      rw [decide_eq_true c1, decide_eq_false c2]
      refine acalls_vc L_ok mixed [] (rs := [.tmp 2]) (n := 25) Tryz.func39 rfl rfl rfl rfl (Nat.le_of_ble_eq_true rfl) (by kernel_rfl) ?_
      repeat' (first | refine unhold ?_ | (simp -dsimp -implicitDefEqProofs (disch := (first | assumption | omega | (simp only [ll1, ll2, ll3, ll4, ll5, ll6, ll7, ll8]; omega))) only [go_sem, hc2]) | refine acalls_same (hp _) ?_ | refine ⟨_, hp _, ?_⟩ | refine ⟨_, _, hp _, ?_⟩ | refine acalls_same (hP _) ?_ | refine ⟨_, hP _, ?_⟩ | refine ⟨_, _, hP _, ?_⟩ | refine vcI (fun _ => ?_) (fun _ => ?_) | (refine vcA ?_ ?_; focus (repeat' (first | omega | assumption | refine vcA ?_ ?_); done)) | omega | refine imp_in (fun _ => ?_))
      exact done_lit ⟨by simp, rfl⟩
  · have hc1 : (p.2 = 0) = False := eq_false c1
    rw [decide_eq_false c1]
    refine acalls_vc L_ok mixed [] (rs := [.tmp 2]) (n := 25) Tryz.func39 rfl rfl rfl rfl (Nat.le_of_ble_eq_true rfl) (by kernel_rfl) ?_
    repeat' (first | refine unhold ?_ | (simp -dsimp -implicitDefEqProofs (disch := (first | assumption | omega | (simp only [ll1, ll2, ll3, ll4, ll5, ll6, ll7, ll8]; omega))) only [go_sem, hc1]) | refine acalls_same (hp _) ?_ | refine ⟨_, hp _, ?_⟩ | refine ⟨_, _, hp _, ?_⟩ | refine acalls_same (hP _) ?_ | refine ⟨_, hP _, ?_⟩ | refine ⟨_, _, hP _, ?_⟩ | refine vcI (fun _ => ?_) (fun _ => ?_) | (refine vcA ?_ ?_; focus (repeat' (first | omega | assumption | refine vcA ?_ ?_); done)) | omega | refine imp_in (fun _ => ?_))
    exact done_lit ⟨by simp, rfl⟩
theorem Canonical_r (t : bytes) (H : List AObj) (hl : t.length ≤ 10000) : ACalls Tryz.prog 40 [.str t] H (fun x H' => x = .bool (canonE t) ∧ H' = H) := by
  have hp := fun H => Parse_r t H hl
  obtain ⟨g1, g2⟩ := parse_good t
  have hP := fun H => Print_r (parseP t).1 H g1
  have hce : canonE t = (decide ((parseP t).2 = 0) && (decide ((printE (parseP t).1).2 = 0) && decide ((printE (parseP t).1).1 = t))) := rfl
  rw [hce]
  unfold parseAV at hp
  unfold printAV at hP
  generalize printE (parseP t).1 = q at *
  generalize parseP t = p at *
  clear g1 g2 hce
  by_cases c1 : p.2 = 0
  · rw [c1] at hp
    by_cases c2 : q.2 = 0
    · rw [c2] at hP
      rw [decide_eq_true c1, decide_eq_true c2]
      refine acalls_vc L_ok mixed [] (rs := [.tmp 2]) (n := 26) Tryz.func40 rfl rfl rfl rfl (Nat.le_of_ble_eq_true rfl) (by kernel_rfl) ?_
      repeat' (first | refine unhold ?_ | (simp -dsimp -implicitDefEqProofs (disch := (first | assumption | omega | (simp only [ll1, ll2, ll3, ll4, ll5, ll6, ll7, ll8]; omega))) only [go_sem]) | refine acalls_same (hp _) ?_ | refine ⟨_, hp _, ?_⟩ | refine ⟨_, _, hp _, ?_⟩ | refine acalls_same (hP _) ?_ | refine ⟨_, hP _, ?_⟩ | refine ⟨_, _, hP _, ?_⟩ | refine vcI (fun _ => ?_) (fun _ => ?_) | (refine vcA ?_ ?_; focus (repeat' (first | omega | assumption | refine vcA ?_ ?_); done)) | omega | refine imp_in (fun _ => ?_))
      exact done_lit ⟨by simp, rfl⟩
    · have hc2 : (q.2 = 0) = False := eq_false c2
      rw [decide_eq_true c1, decide_eq_false c2]
      refine acalls_vc L_ok mixed [] (rs := [.tmp 2]) (n := 26) Tryz.func40 rfl rfl rfl rfl (Nat.le_of_ble_eq_true rfl) (by kernel_rfl) ?_
      repeat' (first | refine unhold ?_ | (simp -dsimp -implicitDefEqProofs (disch := (first | assumption | omega | (simp only [ll1, ll2, ll3, ll4, ll5, ll6, ll7, ll8]; omega))) only [go_sem, hc2]) | refine acalls_same (hp _) ?_ | refine ⟨_, hp _, ?_⟩ | refine ⟨_, _, hp _, ?_⟩ | refine acalls_same (hP _) ?_ | refine ⟨_, hP _, ?_⟩ | refine ⟨_, _, hP _, ?_⟩ | refine vcI (fun _ => ?_) (fun _ => ?_) | (refine vcA ?_ ?_; focus (repeat' (first | omega | assumption | refine vcA ?_ ?_); done)) | omega | refine imp_in (fun _ => ?_))
      exact done_lit ⟨by simp, rfl⟩
  · have hc1 : (p.2 = 0) = False := eq_false c1
    rw [decide_eq_false c1]
    refine acalls_vc L_ok mixed [] (rs := [.tmp 2]) (n := 26) Tryz.func40 rfl rfl rfl rfl (Nat.le_of_ble_eq_true rfl) (by kernel_rfl) ?_
    repeat' (first | refine unhold ?_ | (simp -dsimp -implicitDefEqProofs (disch := (first | assumption | omega | (simp only [ll1, ll2, ll3, ll4, ll5, ll6, ll7, ll8]; omega))) only [go_sem, hc1]) | refine acalls_same (hp _) ?_ | refine ⟨_, hp _, ?_⟩ | refine ⟨_, _, hp _, ?_⟩ | refine acalls_same (hP _) ?_ | refine ⟨_, hP _, ?_⟩ | refine ⟨_, _, hP _, ?_⟩ | refine vcI (fun _ => ?_) (fun _ => ?_) | (refine vcA ?_ ?_; focus (repeat' (first | omega | assumption | refine vcA ?_ ?_); done)) | omega | refine imp_in (fun _ => ?_))
    exact done_lit ⟨by simp, rfl⟩
def canonT1 : bytes := [123, 34, 98, 34, 58, 49, 44, 34, 97, 34, 58, 34, 92, 117, 48, 48, 101, 57, 47, 92, 117, 48, 48, 48, 49, 34, 125]
def canonT2 : bytes := [123, 34, 97, 34, 58, 34, 195, 169, 47, 92, 117, 48, 48, 48, 49, 34, 44, 34, 98, 34, 58, 49, 125]
def canonV : JV := .mk 6 0 [] [[97], [98]] [.mk 4 0 [195, 169, 47, 1] [] [], .mk 3 1 [] [] []]
theorem itoa_one : Lib.itoa 1 = [49] := by
  rw [show (1 : Int) = ((1 : Nat) : Int) from rfl, Lib.itoa_nonneg, Lib.decDigits_one (by omega)]
  rfl
theorem canon1 : parseP canonT1 = (canonV, 0) := by kernel_rfl
theorem canonP : printP canonV = canonT2 := by
  unfold canonV canonT2
  simp only [printP, itemsP, itoa_one, headP]
  decide
theorem canonR : rightJ 12 canonV = true := by kernel_rfl
theorem canon2 : printE canonV = (canonT2, 0) := by
  rw [printE, canonR, if_pos rfl, canonP, if_neg (by decide)]
theorem canon_yes {v : JV} (h : printE v = (printP v, 0)) (hr : rightJ 12 v = true) (hl : (printP v).length ≤ 8192) : canonE (printP v) = true := by
  unfold canonE
  rw [parse_print hr hl]
  dsimp only
  rw [h]
  simp
theorem canon3 : canonE canonT2 = true := by
  have := canon_yes (v := canonV) (by rw [canonP]; exact canon2) canonR (by rw [canonP]; decide)
  rw [canonP] at this
  exact this
theorem canon4 : canonE [32, 49] = false := by
  have h1 : parseP [32, 49] = (.mk 3 1 [] [] [], 0) := by kernel_rfl
  have h2 : printP (.mk 3 1 [] [] []) = [49] := by
    rw [printP]
    exact itoa_one
  have h3 : rightJ 12 (.mk 3 1 [] [] []) = true := by kernel_rfl
  unfold canonE
  rw [h1]
  dsimp only
  rw [printE, h3, if_pos rfl, h2]
  decide
theorem alive3_c (H : List AObj) : ACalls Tryz.prog 38 [] H (fun x H' => x = .bool true ∧ H' = H) := by
  have h1 := fun H => Parse_c canonT1 H (by decide)
  have h2 := fun H => Print_c canonV H (by decide)
  have h3 := fun H => Canonical_c canonT2 H (by decide)
  have h4 := fun H => Canonical_c [32, 49] H (by decide)
  rw [canon1] at h1
  rw [canon2] at h2
  rw [canon3] at h3
  rw [canon4] at h4
  unfold parseAV at h1
  unfold printAV at h2
  unfold canonT1 at h1
  unfold canonT2 at h2 h3
  dsimp only at h1 h2
  generalize canonV = v at *
  refine acalls_vc L_ok mixed [] (rs := [.tmp 0]) (n := 32) Tryz.func38 rfl rfl rfl rfl (Nat.le_of_ble_eq_true rfl) (by kernel_rfl) ?_
  repeat' (first | refine unhold ?_ | (simp -dsimp -implicitDefEqProofs (disch := (first | assumption | omega | (simp only [ll1, ll2, ll3, ll4, ll5, ll6, ll7, ll8]; omega))) only [go_sem]) | refine acalls_same (h1 _) ?_ | refine ⟨_, h1 _, ?_⟩ | refine ⟨_, _, h1 _, ?_⟩ | refine acalls_same (h2 _) ?_ | refine ⟨_, h2 _, ?_⟩ | refine ⟨_, _, h2 _, ?_⟩ | refine acalls_same (h3 _) ?_ | refine ⟨_, h3 _, ?_⟩ | refine ⟨_, _, h3 _, ?_⟩ | refine acalls_same (h4 _) ?_ | refine ⟨_, h4 _, ?_⟩ | refine ⟨_, _, h4 _, ?_⟩ | refine vcI (fun _ => ?_) (fun _ => ?_) | (refine vcA ?_ ?_; focus (repeat' (first | omega | assumption | refine vcA ?_ ?_); done)) | omega | refine imp_in (fun _ => ?_))
  exact done_lit ⟨rfl, rfl⟩
def greatK (l : List JV) : Int := (l.map (weigh · 9000)).sum
theorem great3_c {o : Own} (l : List JV) (H : List AObj) (hl : l.length ≤ 100) : ACalls Tryz.prog 41 [.sl o 5 (l.map jAV)] H (fun x H' => x = .bool (decide (9000 < greatK l)) ∧ H' = H) := by
  refine acalls_vc L_ok mixed [] (rs := [.tmp 2]) (n := 20) Tryz.func41 rfl rfl rfl rfl (Nat.le_of_ble_eq_true rfl) (by kernel_rfl) ?_
  repeat' (first | refine unhold ?_ | (simp -dsimp -implicitDefEqProofs (disch := (first | assumption | omega | (simp only [ll1, ll2, ll3, ll4, ll5, ll6, ll7, ll8]; omega))) only [go_sem]) | refine vcI (fun _ => ?_) (fun _ => ?_) | (refine vcA ?_ ?_; focus (repeat' (first | omega | assumption | refine vcA ?_ ?_); done)) | omega | refine imp_in (fun _ => ?_))
  refine vc_loopk L_ok mixed [] [0, 2] (fun i : Nat => i ≤ l.length ∧ 0 ≤ greatK (l.take i) ∧ greatK (l.take i) ≤ 30000 * i) (fun i => [(3, .int .i64 (greatK (l.take i))), (4, .int .i64 i)]) (fun _ => H) (fun i => l.length - i) (by kernel_rfl) ?_ 0 ⟨by omega, by simp [greatK], by simp [greatK]⟩ env_ok rfl
  rintro i ⟨hi, h1, h2⟩
  by_cases hil : i < l.length
  · have hx := getD_j hil
    have hw := weigh_le (l.getD i zeroJ) 9000 (by decide)
    have hs : greatK (l.take (i + 1)) = greatK (l.take i) + weigh (l.getD i zeroJ) 9000 := by
      rw [greatK, List.take_succ_eq_append_getElem hil, List.map_append, List.sum_append, List.getD, List.getElem?_eq_getElem hil]
      simp [greatK]
    generalize l.getD i zeroJ = y at *
    repeat' (first | refine unhold ?_ | (simp -dsimp -implicitDefEqProofs (disch := (first | assumption | omega | (simp only [ll1, ll2, ll3, ll4, ll5, ll6, ll7, ll8]; omega))) only [go_sem, hx]) | refine acalls_same (Weigh_c y 9000 _ (by decide) (by decide)) ?_ | refine ⟨_, Weigh_c y 9000 _ (by decide) (by decide), ?_⟩ | refine ⟨_, _, Weigh_c y 9000 _ (by decide) (by decide), ?_⟩ | refine vcI (fun _ => ?_) (fun _ => ?_) | (refine vcA ?_ ?_; focus (repeat' (first | omega | assumption | refine vcA ?_ ?_); done)) | omega | refine imp_in (fun _ => ?_))
    refine again (i + 1) ?_ ?_ rfl env_ok
    · omega
    · exact ⟨by omega, by rw [hs]; omega, by rw [hs]; omega⟩
  · obtain rfl : i = l.length := by omega
    rw [List.take_length] at *
    repeat' (first | refine unhold ?_ | (simp -dsimp -implicitDefEqProofs (disch := (first | assumption | omega | (simp only [ll1, ll2, ll3, ll4, ll5, ll6, ll7, ll8]; omega))) only [go_sem]) | refine vcI (fun _ => ?_) (fun _ => ?_) | (refine vcA ?_ ?_; focus (repeat' (first | omega | assumption | refine vcA ?_ ?_); done)) | omega | refine imp_in (fun _ => ?_))
    exact done_same ⟨rfl, rfl⟩
theorem greatK1 {v : JV} (h : ¬ 9000 < greatK [v]) : sizeJ v ≤ 9000 := by
  have h1 := weigh_le v 9000 (by decide)
  have h3 : greatK [v] = weigh v 9000 := by simp [greatK]
  rw [h3] at h
  have h4 := h1.2.2.1 (by omega)
  omega
theorem greatK2 {v w : JV} (h : ¬ 9000 < greatK [v, w]) : sizeJ v ≤ 9000 ∧ sizeJ w ≤ 9000 := by
  have h1 := weigh_le v 9000 (by decide)
  have h2 := weigh_le w 9000 (by decide)
  have h3 : greatK [v, w] = weigh v 9000 + weigh w 9000 := by simp [greatK]
  rw [h3] at h
  have h4 := h1.2.2.1 (by omega)
  have h5 := h2.2.2.1 (by omega)
  omega
theorem CanonTexts_c (t : bytes) (H : List AObj) : ACalls Tryz.prog 11 [.str t] H (fun x H' => x = .bool true ∧ H' = H) := by
  by_cases hl : 9000 < t.length
  · have hc : (9000 < ((t.length : Nat) : Int)) = True := eq_true (by omega)
    refine acalls_vc L_ok mixed [] (rs := [.tmp 2]) (n := 13) Tryz.func11 rfl rfl rfl rfl (Nat.le_of_ble_eq_true rfl) (by kernel_rfl) ?_
    repeat' (first | refine unhold ?_ | (simp -dsimp -implicitDefEqProofs (disch := (first | assumption | omega | (simp only [ll1, ll2, ll3, ll4, ll5, ll6, ll7, ll8]; omega))) only [go_sem, hc]) | refine acalls_same (alive3_c _) ?_ | refine ⟨_, alive3_c _, ?_⟩ | refine ⟨_, _, alive3_c _, ?_⟩ | refine vcI (fun _ => ?_) (fun _ => ?_) | (refine vcA ?_ ?_; focus (repeat' (first | omega | assumption | refine vcA ?_ ?_); done)) | omega | refine imp_in (fun _ => ?_))
    exact done_same ⟨rfl, rfl⟩
  · have hc : (9000 < ((t.length : Nat) : Int)) = False := eq_false (by omega)
    refine acalls_vc L_ok mixed [] (rs := [.tmp 2]) (n := 13) Tryz.func11 rfl rfl rfl rfl (Nat.le_of_ble_eq_true rfl) (by kernel_rfl) ?_
    repeat' (first | refine unhold ?_ | (simp -dsimp -implicitDefEqProofs (disch := (first | assumption | omega | (simp only [ll1, ll2, ll3, ll4, ll5, ll6, ll7, ll8]; omega))) only [go_sem, hc]) | refine acalls_same (alive3_c _) ?_ | refine ⟨_, alive3_c _, ?_⟩ | refine ⟨_, _, alive3_c _, ?_⟩ | refine acalls_same (Canonical_c t _ (by omega)) ?_ | refine ⟨_, Canonical_c t _ (by omega), ?_⟩ | refine ⟨_, _, Canonical_c t _ (by omega), ?_⟩ | refine acalls_same (Canonical_r t _ (by omega)) ?_ | refine ⟨_, Canonical_r t _ (by omega), ?_⟩ | refine ⟨_, _, Canonical_r t _ (by omega), ?_⟩ | refine vcI (fun _ => ?_) (fun _ => ?_) | (refine vcA ?_ ?_; focus (repeat' (first | omega | assumption | refine vcA ?_ ?_); done)) | omega | refine imp_in (fun _ => ?_))
    exact done_same ⟨rfl, rfl⟩
end Go.Proofs.YtplmbhjhihoneaaGreatDoor
end

section
set_option linter.unusedSimpArgs false
set_option linter.unusedVariables false
namespace Go.Proofs.YtplmbhjhihoneaaGreatDoor
open Go V
set_option maxRecDepth 10000
set_option maxHeartbeats 4000000
def wrapJ (v : JV) : JV := .mk 5 0 [] [] [v]
theorem size_wrap (v : JV) : sizeJ (wrapJ v) = 1 + sizeJ v := by
  rw [sizeJ_eq, sizesJ_eq]
  simp [wrapJ, JV.text, JV.names, JV.items]
theorem right_wrap (n : Nat) (v : JV) : rightJ (n + 1) (wrapJ v) = rightJ n v := by
  have h1 : oneJ (wrapJ v) = false := rfl
  have h2 : manyJ (wrapJ v) = true := rfl
  rw [rightJ, h1, h2]
  simp [wrapJ, JV.items]
theorem wrap_right (v : JV) : rightJ 12 (wrapJ v) = (rightJ 12 v && decide (((deepJ 13 v : Nat) : Int) < 12)) := by
  rw [right_wrap]
  cases h : rightJ 12 v with
  | false =>
    rw [Bool.false_and]
    cases e : rightJ 11 v with
    | false => rfl
    | true => rw [right_up (by omega) v e] at h; cases h
  | true =>
    rw [Bool.true_and]
    by_cases hd : deepJ 13 v < 12
    · rw [decide_eq_true (by omega), right_deep 13 11 12 v h (by omega) (by omega)]
    · rw [decide_eq_false (by omega)]
      cases e : rightJ 11 v with
      | false => rfl
      | true => have := deep_right 11 13 v e; omega
abbrev wrapAV (v : JV) : AV := .agg [.lit (.int .i64 5), .lit (.int .i64 0), .str [], .sl .full 0 [], .sl .full 5 [jAV v]]
theorem le_wrap (v : JV) : Le (wrapAV v) (jAV (wrapJ v)) := le_j (ns := []) (is := [v]) le_nil le_sh
theorem weak1 {P : Program} {f : FuncId} {H : List AObj} {x y : AV} {R : AV → List AObj → Prop} (h : Le x y) (k : ACalls P f [y] H R) : ACalls P f [x] H R :=
  k.weak rfl fun j a b e1 e2 => by
    match j, e1, e2 with
    | 0, e1, e2 => cases e1; cases e2; exact h
end Go.Proofs.YtplmbhjhihoneaaGreatDoor
end
