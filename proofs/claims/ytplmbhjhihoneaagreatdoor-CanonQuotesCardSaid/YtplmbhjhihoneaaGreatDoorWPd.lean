/- The document's parser: blanks, words, digits. -/
import Derived.Test.YtplmbhjhihoneaaGreatDoorWPa
section
set_option linter.unusedSimpArgs false
set_option linter.unusedVariables false
namespace Go.Proofs.YtplmbhjhihoneaaGreatDoor
open Go V
set_option maxRecDepth 10000
set_option maxHeartbeats 4000000
theorem peek_any {r t : bytes} (h : r <:+ t) : t.getD (t.length - r.length) 0 = peek r := by
  have := suf_get h 0
  rw [Nat.add_zero] at this
  rw [this]
  cases r <;> rfl
theorem blank_nat (c : UInt8) : isBlank c = decide ((c.toNat : Int) = 32 ∨ (c.toNat : Int) = 9 ∨ (c.toNat : Int) = 10 ∨ (c.toNat : Int) = 13) := by
  unfold isBlank
  rw [Bool.eq_iff_iff]
  simp only [Bool.or_eq_true, beq_iff_eq, decide_eq_true_eq]
  constructor
  · rintro (((rfl | rfl) | rfl) | rfl) <;> decide
  · have h : ∀ d : UInt8, (c.toNat : Int) = d.toNat → c = d := fun d e => UInt8.toNat_inj.1 (by omega)
    rintro (h1 | h1 | h1 | h1)
    · exact .inl (.inl (.inl (h 32 h1)))
    · exact .inl (.inl (.inr (h 9 h1)))
    · exact .inl (.inr (h 10 h1))
    · exact .inr (h 13 h1)
/-- A place in a text: where what is left begins. -/
abbrev at_ (t r : bytes) : AV := .lit (.int .i64 ((t.length - r.length : Nat) : Int))
theorem int_at {t r : bytes} {a : Int} (h : a = ((t.length - r.length : Nat) : Int)) : AV.lit (.int .i64 a) = at_ t r := by rw [h]
theorem blank_r {t r : bytes} {H : List AObj} (hs : r <:+ t) (hl : t.length ≤ 10000) : ACalls Tryz.prog 55 [.str t, at_ t r] H (fun x H' => x = at_ t (blanks r) ∧ H' = H) := by
  refine acalls_vc L_ok mixed [] (rs := [.tmp 4]) (n := 36) Tryz.func55 rfl rfl rfl rfl (Nat.le_of_ble_eq_true rfl) (by kernel_rfl) ?_
  repeat' (first | refine unhold ?_ | (simp -dsimp -implicitDefEqProofs (disch := (first | assumption | omega | (simp only [ll1, ll2, ll3, ll4, ll5, ll6, ll7, ll8]; omega))) only [go_sem]) | refine vcI (fun _ => ?_) (fun _ => ?_) | (refine vcA ?_ ?_; focus (repeat' (first | omega | assumption | refine vcA ?_ ?_); done)) | omega | refine imp_in (fun _ => ?_))
  refine vc_loopk L_ok mixed [] [0, 4] (fun r' : bytes => r' <:+ t ∧ blanks r' = blanks r) (fun r' => [(1, at_ t r')]) (fun _ => H) (fun r' => r'.length) (by kernel_rfl) ?_ r ⟨hs, rfl⟩ env_ok rfl
  rintro r' ⟨hs', hb⟩
  have h1 := suf_len hs'
  have h2 := peek_any hs'
  have h3 := blank_nat (peek r')
  have h4 : isBlank (peek r') = true → blanks (r'.drop 1) = blanks r ∧ 1 ≤ r'.length := fun h => by
    have hne : r' ≠ [] := by rintro rfl; revert h; decide
    exact ⟨by rw [← blanks_step hne h]; exact hb, List.length_pos_iff.2 hne⟩
  repeat' (first | refine unhold ?_ | (simp -dsimp -implicitDefEqProofs (disch := (first | assumption | omega | (simp only [ll1, ll2, ll3, ll4, ll5, ll6, ll7, ll8]; omega))) only [go_sem, h2]) | refine vcI (fun _ => ?_) (fun _ => ?_) | (refine vcA ?_ ?_; focus (repeat' (first | omega | assumption | refine vcA ?_ ?_); done)) | omega | refine imp_in (fun _ => ?_))
  iterate 4
    · have h5 := h4 (by rw [h3]; exact decide_eq_true (by omega))
      have e : ((t.length - r'.length : Nat) : Int) + 1 = ((t.length - (r'.drop 1).length : Nat) : Int) := by rw [List.length_drop]; omega
      simp only [e]
      refine again (r'.drop 1) ?_ ?_ rfl env_ok
      · rw [List.length_drop]; omega
      · exact ⟨suf_drop_n hs' 1, h5.1⟩
  · rw [← hb, blanks_stop (by rw [h3]; exact decide_eq_false (by omega))]
    exact done_same ⟨rfl, rfl⟩
  · obtain rfl : r' = [] := List.eq_nil_of_length_eq_zero (by omega)
    rw [← hb]
    exact done_same ⟨rfl, rfl⟩
theorem begins_r {t r w : bytes} {H : List AObj} (hs : r <:+ t) (hl : t.length ≤ 10000) (hw : w.length ≤ 100) : ACalls Tryz.prog 79 [.str t, at_ t r, .str w] H (fun x H' => x = .bool (skipW w r).isSome ∧ H' = H) := by
  have h1 := suf_len hs
  have h2 := suf_drop hs
  refine acalls_vc L_ok mixed [] (rs := [.tmp 6]) (n := 25) Tryz.func79 rfl rfl rfl rfl (Nat.le_of_ble_eq_true rfl) (by kernel_rfl) ?_
  have h3 : (skipW w r).isSome = decide (w.length ≤ r.length ∧ r.take w.length = w) := by
    unfold skipW
    rw [prefix_dec]
    by_cases h : w.length ≤ r.length ∧ r.take w.length = w
    · simp [h]
    · simp [h]
  rw [h3]
  repeat' (first | refine unhold ?_ | (simp -dsimp -implicitDefEqProofs (disch := (first | assumption | omega | (simp only [ll1, ll2, ll3, ll4, ll5, ll6, ll7, ll8]; omega))) only [go_sem, h2]) | refine vcI (fun _ => ?_) (fun _ => ?_) | (refine vcA ?_ ?_; focus (repeat' (first | omega | assumption | refine vcA ?_ ?_); done)) | omega | refine imp_in (fun _ => ?_))
  · rename_i h4
    rw [show (((t.length - r.length : Nat) : Int) + (w.length : Int)).toNat - (t.length - r.length) = w.length by omega]
    exact done_same ⟨bool_eq (decide_eq_decide.2 ⟨fun h => ⟨by omega, h⟩, fun h => h.2⟩), rfl⟩
  · exact done_same ⟨bool_eq (decide_eq_false fun h => by omega).symm, rfl⟩
def hexI (c : UInt8) : Int := match hexV c with | some n => n | none => -1
theorem digit_r (c : UInt8) (H : List AObj) : ACalls Tryz.prog 142 [.lit (.int .u8 c.toNat)] H (fun x H' => x = .lit (.int .i64 (hexI c)) ∧ H' = H) := by
  have hc := c.toNat_lt
  refine acalls_vc L_ok mixed [] (rs := [.tmp 2]) (n := 35) Tryz.func142 rfl rfl rfl rfl (Nat.le_of_ble_eq_true rfl) (by kernel_rfl) ?_
  repeat' (first | refine unhold ?_ | (simp -dsimp -implicitDefEqProofs (disch := (first | assumption | omega | (simp only [ll1, ll2, ll3, ll4, ll5, ll6, ll7, ll8]; omega))) only [go_sem]) | refine vcI (fun _ => ?_) (fun _ => ?_) | (refine vcA ?_ ?_; focus (repeat' (first | omega | assumption | refine vcA ?_ ?_); done)) | omega | refine imp_in (fun _ => ?_))
  all_goals
    refine done_same ⟨int_eq ?_, rfl⟩
    unfold hexI hexV
    first
      | (rw [if_pos (by omega)]; simp only; omega)
      | (rw [if_neg (by omega), if_pos (by omega)]; simp only; omega)
      | (rw [if_neg (by omega), if_neg (by omega), if_pos (by omega)]; simp only; omega)
      | (rw [if_neg (by omega), if_neg (by omega), if_neg (by omega)])
def fourI (r : bytes) : Int := if (unitP r).2.1 then (unitP r).1 else -1
theorem hexI_le (c : UInt8) : -1 ≤ hexI c ∧ hexI c ≤ 15 := by
  unfold hexI hexV
  by_cases h1 : 48 ≤ c.toNat ∧ c.toNat ≤ 57
  · rw [if_pos h1]; simp only; omega
  · rw [if_neg h1]
    by_cases h2 : 97 ≤ c.toNat ∧ c.toNat ≤ 102
    · rw [if_pos h2]; simp only; omega
    · rw [if_neg h2]
      by_cases h3 : 65 ≤ c.toNat ∧ c.toNat ≤ 70
      · rw [if_pos h3]; simp only; omega
      · rw [if_neg h3]; simp only; omega
theorem hexI_hex (c : UInt8) : isHex c = decide (0 ≤ hexI c) := by
  unfold isHex hexI
  cases hexV c <;> simp
theorem hexI_val {c : UInt8} (h : 0 ≤ hexI c) : hexI c = (((hexV c).getD 0 : Nat) : Int) := by
  unfold hexI at *
  cases hV : hexV c with
  | none => rw [hV] at h; exact absurd h (by decide)
  | some n => rfl
theorem hexNum_put {r : bytes} {i : Nat} (h : i < r.length) : hexNum (r.take (i + 1)) = hexNum (r.take i) * 16 + (hexV (r.getD i 0)).getD 0 := by
  rw [List.take_succ_eq_append_getElem h, List.getD, List.getElem?_eq_getElem h]
  unfold hexNum
  rw [List.foldl_append]
  rfl
theorem all_take {p : UInt8 → Bool} {r : bytes} {i : Nat} (h : i < r.length) : (r.take (i + 1)).all p = ((r.take i).all p && p (r.getD i 0)) := by
  rw [List.take_succ_eq_append_getElem h, List.getD, List.getElem?_eq_getElem h, List.all_append]
  simp
theorem fourI_no {r : bytes} {i : Nat} (hi : i < 4) (h : r.length ≤ i ∨ (i < r.length ∧ isHex (r.getD i 0) = false)) : fourI r = -1 := by
  have hu : (unitP r).2.1 = false := by
    unfold unitP
    split
    · rfl
    · split
      · rename_i h1 h2
        rcases h with h | ⟨h, h3⟩
        · omega
        · have := all_getD h2 i (by rw [List.length_take]; omega)
          rw [take_getD hi, h3] at this
          cases this
      · rfl
  rw [fourI, hu]
  rfl
theorem four_r {t r : bytes} {H : List AObj} (hs : r <:+ t) (hl : t.length ≤ 10000) : ACalls Tryz.prog 126 [.str t, at_ t r] H (fun x H' => x = .lit (.int .i64 (fourI r)) ∧ H' = H) := by
  have h1 := suf_len hs
  refine acalls_vc L_ok mixed [] (rs := [.tmp 4]) (n := 36) Tryz.func126 rfl rfl rfl rfl (Nat.le_of_ble_eq_true rfl) (by kernel_rfl) ?_
  repeat' (first | refine unhold ?_ | (simp -dsimp -implicitDefEqProofs (disch := (first | assumption | omega | (simp only [ll1, ll2, ll3, ll4, ll5, ll6, ll7, ll8]; omega))) only [go_sem]) | refine vcI (fun _ => ?_) (fun _ => ?_) | (refine vcA ?_ ?_; focus (repeat' (first | omega | assumption | refine vcA ?_ ?_); done)) | omega | refine imp_in (fun _ => ?_))
  refine vc_loopk L_ok mixed [] [0, 1] (fun i : Nat => i ≤ 4 ∧ i ≤ r.length ∧ (r.take i).all isHex = true) (fun i => [(6, .int .i64 i), (5, .int .i64 (hexNum (r.take i) : Nat))]) (fun _ => H) (fun i => 4 - i) (by kernel_rfl) ?_ 0 ⟨by omega, by omega, rfl⟩ env_ok rfl
  rintro i ⟨h4, hi, hp⟩
  have hx := hexNum_lt (r.take i) i (by rw [List.length_take]; omega) (all_getD hp)
  rw [List.take_take, Nat.min_self] at hx
  have hx2 : hexNum (r.take i) < 65536 := Nat.lt_of_lt_of_le hx (Nat.pow_le_pow_right (n := 16) (by decide) h4)
  have hr := hexI_le (r.getD i 0)
  have hg : t.getD (((t.length - r.length : Nat) : Int) + (i : Int)).toNat 0 = r.getD i 0 := by rw [← suf_get hs i]; congr 1
  repeat' (first | refine unhold ?_ | (simp -dsimp -implicitDefEqProofs (disch := (first | assumption | omega | (simp only [ll1, ll2, ll3, ll4, ll5, ll6, ll7, ll8]; omega))) only [go_sem, hg]) | refine acalls_same (digit_r _ _) ?_ | refine ⟨_, digit_r _ _, ?_⟩ | refine ⟨_, _, digit_r _ _, ?_⟩ | refine vcI (fun _ => ?_) (fun _ => ?_) | (refine vcA ?_ ?_; focus (repeat' (first | omega | assumption | refine vcA ?_ ?_); done)) | omega | refine imp_in (fun _ => ?_))
  · exact done_same ⟨int_eq (fourI_no (i := i) (by omega) (.inl (by omega))).symm, rfl⟩
  · rename_i e1 e2 e3
    exact done_same ⟨int_eq (fourI_no (i := i) (by omega) (.inr ⟨by omega, by rw [hexI_hex]; exact decide_eq_false (by omega)⟩)).symm, rfl⟩
  · rename_i e1 e2 e3
    have hn := hexNum_put (r := r) (i := i) (by omega)
    have hv := hexI_val e3
    have ha := all_take (p := isHex) (r := r) (i := i) (by omega)
    refine again (i + 1) ?_ ?_ rfl env_ok
    · omega
    · refine ⟨by omega, by omega, ?_⟩
      rw [ha, hp, hexI_hex, Bool.true_and]
      exact decide_eq_true e3
  · obtain rfl : i = 4 := by omega
    have hu : unitP r = ((hexNum (r.take 4) : Int), true, r.drop 4) := by rw [unitP, if_neg (by omega), if_pos hp]
    exact done_same ⟨by rw [fourI, hu]; rfl, rfl⟩
end Go.Proofs.YtplmbhjhihoneaaGreatDoor
end

section
set_option linter.unusedSimpArgs false
set_option linter.unusedVariables false
namespace Go.Proofs.YtplmbhjhihoneaaGreatDoor
open Go V
set_option maxRecDepth 10000
set_option maxHeartbeats 4000000
theorem idx_here {c : UInt8} {i : Nat} (hi : i < 8) (h : escSigns.getD i 0 = c) : escSigns.idxOf c = i := by
  subst h
  have : ∀ j : Fin 8, escSigns.idxOf (escSigns.getD j.val 0) = j.val := by decide
  exact this ⟨i, hi⟩
theorem idx_nowhere {c : UInt8} (h : ∀ j, j < 8 → escSigns.getD j 0 ≠ c) : ¬ escSigns.idxOf c < 8 := fun hi => by
  refine h _ hi ?_
  have : escSigns.idxOf c < escSigns.length := hi
  rw [List.getD, List.getElem?_eq_getElem this, List.getElem_idxOf]
  rfl
theorem byte_eq {c d : UInt8} (h : (c.toNat : Int) = (d.toNat : Int)) : c = d := UInt8.toNat_inj.1 (by omega)
def escAV (t : bytes) (x : bytes × Int × bytes) : AV := if x.2.1 = 0 then .tup [.str x.1, at_ t x.2.2] else .tup [.str [], .lit (.int .i64 (-1))]
theorem escAV_ok {t o r : bytes} : escAV t (o, 0, r) = .tup [.str o, at_ t r] := rfl
theorem four_I {t r : bytes} {H : List AObj} {a : Int} (ha : a = ((t.length - r.length : Nat) : Int)) (hs : r <:+ t) (hl : t.length ≤ 10000) : ACalls Tryz.prog 126 [.str t, .lit (.int .i64 a)] H (fun x H' => x = .lit (.int .i64 (fourI r)) ∧ H' = H) := by subst ha; exact four_r hs hl
theorem begins_I {t r w : bytes} {H : List AObj} {a : Int} (ha : a = ((t.length - r.length : Nat) : Int)) (hs : r <:+ t) (hl : t.length ≤ 10000) (hw : w.length ≤ 100) : ACalls Tryz.prog 79 [.str t, .lit (.int .i64 a), .str w] H (fun x H' => x = .bool (skipW w r).isSome ∧ H' = H) := by subst ha; exact begins_r hs hl hw
theorem enc_yes {n : Int} (h : isRune n = true) : encR [n] = enc1 n ∧ encE [n] = 0 := by
  have := encRE_ok (l := [n]) (by simp [encOk, h])
  rw [this.1, this.2]
  exact ⟨by simp [encL], rfl⟩
theorem enc_not {n : Int} (h : isRune n = false) : encR [n] = [] ∧ encE [n] = 2 := encRE_no (l := [n]) (by simp [encOk, h])
theorem Encode_1 (n : Int) (H : List AObj) : ACalls Tryz.prog 127 [.sl .full 1 [.lit (.int .i32 n)]] H (fun x H' => x = .tup [.sl .sh 1 ((encR [n]).map byteAV), .lit (.int .i64 (encE [n]))] ∧ H' = H) := Encode_r [n] H (by simp)
theorem unit_rest {r : bytes} (h : (unitP r).2.1 = true) : (unitP r).2.2 = r.drop 4 ∧ 4 ≤ r.length := by
  unfold unitP at h ⊢
  split at h
  · cases h
  · rename_i hl
    rw [if_neg hl]
    split at h
    · rename_i hx; rw [if_pos hx]; exact ⟨rfl, by omega⟩
    · cases h
theorem four_ok {r : bytes} (h : (unitP r).2.1 = true) : fourI r = (unitP r).1 := if_pos h
theorem four_bad {r : bytes} (h : (unitP r).2.1 = false) : fourI r = -1 := by rw [fourI, h]; rfl
theorem four_le (r : bytes) : -1 ≤ fourI r ∧ fourI r < 65536 := by
  have := unit_lt r
  unfold fourI
  split <;> omega
/-- The number of an escape's character, or of no one, and what is left behind its digits. -/
theorem esc_rune {r : bytes} {n : Int} {s : bytes} (h : (runeP r).2.1 = isRune n) (h2 : isRune n = true → (runeP r).1 = n ∧ (runeP r).2.2 = s) (t : bytes) : escAV t (escU (runeP r)) = if isRune n = true then .tup [.str (enc1 n), at_ t s] else .tup [.str [], .lit (.int .i64 (-1))] := by
  unfold escU
  rw [h]
  split
  · rename_i hr
    rw [(h2 hr).1, (h2 hr).2]
    rfl
  · rfl
theorem rune_b {r : bytes} (hu : (unitP r).2.1 = true) (hn : ¬ (55296 ≤ (unitP r).1 ∧ (unitP r).1 ≤ 56319)) : (runeP r).2.1 = isRune (unitP r).1 ∧ (isRune (unitP r).1 = true → (runeP r).1 = (unitP r).1 ∧ (runeP r).2.2 = (unitP r).2.2) := by
  have hlt := unit_lt r
  unfold runeP
  by_cases hh : halfR (unitP r).1 = true
  · rw [if_pos (by rw [hu, hh]; rfl)]
    have hx := of_decide_eq_true hh
    have hir : isRune (unitP r).1 = false := decide_eq_false (by omega)
    rw [hir]
    refine ⟨?_, fun h => by cases h⟩
    unfold lowP
    cases skipW [92, 117] (unitP r).2.2 with
    | none => rfl
    | some r2 =>
      have : joined (unitP r).1 (unitP r2).1 = (0, false) := if_pos (by omega)
      simp only [this, Bool.and_false]
  · rw [if_neg (by rw [hu, Bool.true_and]; exact hh), hu]
    have hir : isRune (unitP r).1 = true := decide_eq_true (by unfold halfR at hh; rw [decide_eq_true_eq] at hh; omega)
    rw [hir]
    exact ⟨rfl, fun _ => ⟨rfl, rfl⟩⟩
theorem rune_high {r : bytes} (hu : (unitP r).2.1 = true) (hn : 55296 ≤ (unitP r).1 ∧ (unitP r).1 ≤ 56319) : runeP r = lowP (unitP r).1 (unitP r).2.2 ∧ isRune (unitP r).1 = false := by
  refine ⟨?_, decide_eq_false (by omega)⟩
  unfold runeP
  rw [if_pos]
  rw [hu, Bool.true_and]
  exact decide_eq_true (by omega)
theorem low_none {n : Int} {r : bytes} (h : skipW [92, 117] r = none) : (lowP n r).2.1 = false := by unfold lowP; rw [h]
theorem low_bad {n : Int} {r r4 : bytes} (h : skipW [92, 117] r = some r4) (hm : ¬ (56320 ≤ fourI r4 ∧ fourI r4 ≤ 57343)) : (lowP n r).2.1 = false := by
  unfold lowP
  rw [h]
  simp only
  cases hu : (unitP r4).2.1 with
  | false => rfl
  | true =>
    rw [four_ok hu] at hm
    have : joined n (unitP r4).1 = (0, false) := if_pos (by omega)
    rw [this]
    rfl
theorem low_good {n : Int} {r r4 : bytes} (hn : 55296 ≤ n ∧ n ≤ 56319) (h : skipW [92, 117] r = some r4) (hm : 56320 ≤ fourI r4 ∧ fourI r4 ≤ 57343) : lowP n r = (65536 + (n - 55296) * 1024 + fourI r4 - 56320, true, (unitP r4).2.2) ∧ (unitP r4).2.1 = true := by
  have hu : (unitP r4).2.1 = true := by
    cases e : (unitP r4).2.1 with
    | true => rfl
    | false => rw [four_bad e] at hm; omega
  refine ⟨?_, hu⟩
  rw [four_ok hu] at hm ⊢
  have : joined n (unitP r4).1 = (65536 + (n - 55296) * 1024 + ((unitP r4).1 - 56320), true) := if_neg (by omega)
  unfold lowP
  rw [h]
  simp only [this, hu, Bool.and_self]
  congr 1
  omega
theorem escape_r {t r : bytes} {H : List AObj} (hs : r <:+ t) (hl : t.length ≤ 10000) : ACalls Tryz.prog 106 [.str t, at_ t r] H (fun x H' => x = escAV t (escP r) ∧ H' = H) := by
  have h1 := suf_len hs
  have h2 := peek_any hs
  have hlit : [AV.lit (.int .u8 34), .lit (.int .u8 92), .lit (.int .u8 47), .lit (.int .u8 8), .lit (.int .u8 12), .lit (.int .u8 10), .lit (.int .u8 13), .lit (.int .u8 9)] = escBytes.map byteAV := rfl
  have hsig : [34, 92, 47, 98, 102, 110, 114, 116] = escSigns := rfl
  have hsl : escSigns.length = 8 := rfl
  have hbl : escBytes.length = 8 := rfl
  by_cases hnil : r = []
  · subst hnil
    refine acalls_vc L_ok mixed [1000008] (rs := [.tmp 4, .tmp 5]) (n := 89) Tryz.func106 rfl rfl rfl rfl (Nat.le_of_ble_eq_true rfl) (by kernel_rfl) ?_
    repeat' (first | refine unhold ?_ | (simp -dsimp -implicitDefEqProofs (disch := (first | assumption | omega | (simp only [ll1, ll2, ll3, ll4, ll5, ll6, ll7, ll8]; omega))) only [go_sem]) | refine vcI (fun _ => ?_) (fun _ => ?_) | (refine vcA ?_ ?_; focus (repeat' (first | omega | assumption | refine vcA ?_ ?_); done)) | omega | refine imp_in (fun _ => ?_))
    exact done_same ⟨rfl, rfl⟩
  have hpos := List.length_pos_iff.2 hnil
  have hlt : ((t.length - r.length : Nat) : Int) < t.length := by omega
  by_cases c117 : ((peek r).toNat : Int) = 117
  · have h117 : peek r = 117 := byte_eq (d := 117) c117
    have h117n : ∀ i : Nat, i < 8 → ¬ (117 : Int) = ((escSigns.getD i 0).toNat : Int) := fun i hi => by
      have : ∀ j : Fin 8, ¬ (117 : Int) = ((escSigns.getD j.val 0).toNat : Int) := by decide
      exact this ⟨i, hi⟩
    have hsk : skipW [117] r = some (r.drop 1) := by rw [skip_peek (by decide), if_pos h117]
    have he : ¬ escSigns.idxOf (peek r) < 8 := by rw [h117]; decide
    have hs2 : r.drop 1 <:+ t := suf_drop_n hs 1
    have hl2 : (r.drop 1).length = r.length - 1 := List.length_drop
    have hex : escP r = escU (runeP (r.drop 1)) := by rw [escP_eq, if_neg he, hsk]
    have hc1 := fun H => four_I (H := H) (a := ((t.length - r.length : Nat) : Int) + 1) (by omega) hs2 hl
    rw [hex]
    generalize r.drop 1 = r2 at *
    cases hu : (unitP r2).2.1 with
    | false =>
      have hres := esc_rune (r := r2) (n := -1) (s := r2) (by unfold runeP; rw [hu]; exact hu) (fun h => by cases h) t
      rw [if_neg (by decide)] at hres
      rw [four_bad hu] at hc1
      obtain ⟨e1, e2⟩ := enc_not (n := -1) rfl
      rw [hres]
      refine acalls_vc L_ok mixed [1000008] (rs := [.tmp 4, .tmp 5]) (n := 89) Tryz.func106 rfl rfl rfl rfl (Nat.le_of_ble_eq_true rfl) (by kernel_rfl) ?_
      repeat' (first | refine unhold ?_ | (simp -dsimp -implicitDefEqProofs (disch := (first | assumption | omega | (simp only [ll1, ll2, ll3, ll4, ll5, ll6, ll7, ll8]; omega))) only [go_sem]) | refine vcI (fun _ => ?_) (fun _ => ?_) | (refine vcA ?_ ?_; focus (repeat' (first | omega | assumption | refine vcA ?_ ?_); done)) | omega | refine imp_in (fun _ => ?_))
      refine vc_loopk L_ok mixed [1000008] [0, 1, 6, 7] (fun i : Nat => i ≤ 8 ∧ ∀ j, j < i → escSigns.getD j 0 ≠ peek r) (fun i => [(8, .int .i64 i)]) (fun _ => H) (fun i => 8 - i) (by kernel_rfl) ?_ 0 ⟨by omega, fun j hj => by omega⟩ env_ok rfl
      rintro i ⟨hi, hp⟩
      repeat' (first | refine unhold ?_ | (simp -dsimp -implicitDefEqProofs (disch := (first | assumption | omega | (simp only [ll1, ll2, ll3, ll4, ll5, ll6, ll7, ll8]; omega))) only [go_sem, h2, hlit, hsig, hsl, hbl, c117, e1, e2]) | refine acalls_same (hc1 _) ?_ | refine ⟨_, hc1 _, ?_⟩ | refine ⟨_, _, hc1 _, ?_⟩ | refine acalls_same (Encode_1 _ _) ?_ | refine ⟨_, Encode_1 _ _, ?_⟩ | refine ⟨_, _, Encode_1 _ _, ?_⟩ | refine vcI (fun _ => ?_) (fun _ => ?_) | (refine vcA ?_ ?_; focus (repeat' (first | omega | assumption | refine vcA ?_ ?_); done)) | omega | refine imp_in (fun _ => ?_))
      · exact absurd (by assumption) (h117n i (by omega))
      · rename_i e1 e2 e3
        refine again (i + 1) ?_ ?_ rfl env_ok
        · omega
        · exact ⟨by omega, upto_succ hp (fun e => e3 (by rw [e, h117]; rfl))⟩
      all_goals exact done_same ⟨rfl, rfl⟩
    | true =>
      rw [four_ok hu] at hc1
      have hlt2 := unit_lt r2
      obtain ⟨hr3, hr4⟩ := unit_rest hu
      have hs3 := suf_unit hs2
      have hl3 : (unitP r2).2.2.length = r2.length - 4 := by rw [hr3, List.length_drop]
      by_cases hn : 55296 ≤ (unitP r2).1 ∧ (unitP r2).1 ≤ 56319
      · obtain ⟨hrh, hir⟩ := rune_high hu hn
        obtain ⟨e1, e2⟩ := enc_not hir
        obtain ⟨hn1, hn2⟩ := hn
        have hc2 := fun H => begins_I (H := H) (w := [92, 117]) (a := ((t.length - r.length : Nat) : Int) + 5) (by omega) hs3 hl (by decide)
        cases hk : skipW [92, 117] (unitP r2).2.2 with
        | none =>
          have hres := esc_rune (r := r2) (n := (unitP r2).1) (s := r2) (by rw [hrh, low_none hk, hir]) (fun h => by rw [hir] at h; cases h) t
          rw [if_neg (by rw [hir]; decide)] at hres
          rw [hk] at hc2
          rw [hres]
          generalize (unitP r2).1 = n at *
          refine acalls_vc L_ok mixed [1000008] (rs := [.tmp 4, .tmp 5]) (n := 89) Tryz.func106 rfl rfl rfl rfl (Nat.le_of_ble_eq_true rfl) (by kernel_rfl) ?_
          repeat' (first | refine unhold ?_ | (simp -dsimp -implicitDefEqProofs (disch := (first | assumption | omega | (simp only [ll1, ll2, ll3, ll4, ll5, ll6, ll7, ll8]; omega))) only [go_sem]) | refine vcI (fun _ => ?_) (fun _ => ?_) | (refine vcA ?_ ?_; focus (repeat' (first | omega | assumption | refine vcA ?_ ?_); done)) | omega | refine imp_in (fun _ => ?_))
          refine vc_loopk L_ok mixed [1000008] [0, 1, 6, 7] (fun i : Nat => i ≤ 8 ∧ ∀ j, j < i → escSigns.getD j 0 ≠ peek r) (fun i => [(8, .int .i64 i)]) (fun _ => H) (fun i => 8 - i) (by kernel_rfl) ?_ 0 ⟨by omega, fun j hj => by omega⟩ env_ok rfl
          rintro i ⟨hi, hp⟩
          repeat' (first | refine unhold ?_ | (simp -dsimp -implicitDefEqProofs (disch := (first | assumption | omega | (simp only [ll1, ll2, ll3, ll4, ll5, ll6, ll7, ll8]; omega))) only [go_sem, h2, hlit, hsig, hsl, hbl, c117, e1, e2, eq_true hn1, eq_true hn2]) | refine acalls_same (hc1 _) ?_ | refine ⟨_, hc1 _, ?_⟩ | refine ⟨_, _, hc1 _, ?_⟩ | refine acalls_same (hc2 _) ?_ | refine ⟨_, hc2 _, ?_⟩ | refine ⟨_, _, hc2 _, ?_⟩ | refine acalls_same (Encode_1 _ _) ?_ | refine ⟨_, Encode_1 _ _, ?_⟩ | refine ⟨_, _, Encode_1 _ _, ?_⟩ | refine vcI (fun _ => ?_) (fun _ => ?_) | (refine vcA ?_ ?_; focus (repeat' (first | omega | assumption | refine vcA ?_ ?_); done)) | omega | refine imp_in (fun _ => ?_))
          · exact absurd (by assumption) (h117n i (by omega))
          · rename_i e1 e2 e3
            refine again (i + 1) ?_ ?_ rfl env_ok
            · omega
            · exact ⟨by omega, upto_succ hp (fun e => e3 (by rw [e, h117]; rfl))⟩
          all_goals exact done_same ⟨rfl, rfl⟩
        | some r4 =>
          have hs4 := suf_skip hs3 hk
          have hl4 := skip_len hk
          simp only [List.length_cons, List.length_nil] at hl4
          rw [hk] at hc2
          have hc3 := fun H => four_I (H := H) (a := ((t.length - r.length : Nat) : Int) + 5 + 2) (by omega) hs4 hl
          have hfl := four_le r4
          by_cases hm : 56320 ≤ fourI r4 ∧ fourI r4 ≤ 57343
          · obtain ⟨hlg, hu4⟩ := low_good (n := (unitP r2).1) ⟨hn1, hn2⟩ hk hm
            obtain ⟨hr5, hr6⟩ := unit_rest hu4
            obtain ⟨hm1, hm2⟩ := hm
            have hir2 : isRune (65536 + ((unitP r2).1 - 55296) * 1024 + fourI r4 - 56320) = true := decide_eq_true (by omega)
            obtain ⟨e3, e4⟩ := enc_yes hir2
            have hres := esc_rune (r := r2) (n := 65536 + ((unitP r2).1 - 55296) * 1024 + fourI r4 - 56320) (s := r4.drop 4) (by rw [hrh, hlg, hir2]) (fun _ => by rw [hrh, hlg]; exact ⟨rfl, hr5⟩) t
            rw [if_pos hir2] at hres
            rw [hres]
            have hend : AV.lit (.int .i64 (((t.length - r.length : Nat) : Int) + 5 + 6)) = at_ t (r4.drop 4) := int_at (by rw [List.length_drop]; omega)
            generalize (unitP r2).1 = n at *
            generalize fourI r4 = m at *
            refine acalls_vc L_ok mixed [1000008] (rs := [.tmp 4, .tmp 5]) (n := 89) Tryz.func106 rfl rfl rfl rfl (Nat.le_of_ble_eq_true rfl) (by kernel_rfl) ?_
            repeat' (first | refine unhold ?_ | (simp -dsimp -implicitDefEqProofs (disch := (first | assumption | omega | (simp only [ll1, ll2, ll3, ll4, ll5, ll6, ll7, ll8]; omega))) only [go_sem]) | refine vcI (fun _ => ?_) (fun _ => ?_) | (refine vcA ?_ ?_; focus (repeat' (first | omega | assumption | refine vcA ?_ ?_); done)) | omega | refine imp_in (fun _ => ?_))
            refine vc_loopk L_ok mixed [1000008] [0, 1, 6, 7] (fun i : Nat => i ≤ 8 ∧ ∀ j, j < i → escSigns.getD j 0 ≠ peek r) (fun i => [(8, .int .i64 i)]) (fun _ => H) (fun i => 8 - i) (by kernel_rfl) ?_ 0 ⟨by omega, fun j hj => by omega⟩ env_ok rfl
            rintro i ⟨hi, hp⟩
            repeat' (first | refine unhold ?_ | (simp -dsimp -implicitDefEqProofs (disch := (first | assumption | omega | (simp only [ll1, ll2, ll3, ll4, ll5, ll6, ll7, ll8]; omega))) only [go_sem, h2, hlit, hsig, hsl, hbl, c117, e3, e4, eq_true hn1, eq_true hn2, eq_true hm1, eq_true hm2]) | refine acalls_same (hc1 _) ?_ | refine ⟨_, hc1 _, ?_⟩ | refine ⟨_, _, hc1 _, ?_⟩ | refine acalls_same (hc2 _) ?_ | refine ⟨_, hc2 _, ?_⟩ | refine ⟨_, _, hc2 _, ?_⟩ | refine acalls_same (hc3 _) ?_ | refine ⟨_, hc3 _, ?_⟩ | refine ⟨_, _, hc3 _, ?_⟩ | refine acalls_same (Encode_1 _ _) ?_ | refine ⟨_, Encode_1 _ _, ?_⟩ | refine ⟨_, _, Encode_1 _ _, ?_⟩ | refine vcI (fun _ => ?_) (fun _ => ?_) | (refine vcA ?_ ?_; focus (repeat' (first | omega | assumption | refine vcA ?_ ?_); done)) | omega | refine imp_in (fun _ => ?_))
            · exact absurd (by assumption) (h117n i (by omega))
            · rename_i e1 e2 e3
              refine again (i + 1) ?_ ?_ rfl env_ok
              · omega
              · exact ⟨by omega, upto_succ hp (fun e => e3 (by rw [e, h117]; rfl))⟩
            all_goals exact done_same ⟨by rw [← hend], rfl⟩
          · have hres := esc_rune (r := r2) (n := (unitP r2).1) (s := r2) (by rw [hrh, low_bad hk hm, hir]) (fun h => by rw [hir] at h; cases h) t
            rw [if_neg (by rw [hir]; decide)] at hres
            rw [hres]
            generalize (unitP r2).1 = n at *
            generalize fourI r4 = m at *
            refine acalls_vc L_ok mixed [1000008] (rs := [.tmp 4, .tmp 5]) (n := 89) Tryz.func106 rfl rfl rfl rfl (Nat.le_of_ble_eq_true rfl) (by kernel_rfl) ?_
            repeat' (first | refine unhold ?_ | (simp -dsimp -implicitDefEqProofs (disch := (first | assumption | omega | (simp only [ll1, ll2, ll3, ll4, ll5, ll6, ll7, ll8]; omega))) only [go_sem]) | refine vcI (fun _ => ?_) (fun _ => ?_) | (refine vcA ?_ ?_; focus (repeat' (first | omega | assumption | refine vcA ?_ ?_); done)) | omega | refine imp_in (fun _ => ?_))
            refine vc_loopk L_ok mixed [1000008] [0, 1, 6, 7] (fun i : Nat => i ≤ 8 ∧ ∀ j, j < i → escSigns.getD j 0 ≠ peek r) (fun i => [(8, .int .i64 i)]) (fun _ => H) (fun i => 8 - i) (by kernel_rfl) ?_ 0 ⟨by omega, fun j hj => by omega⟩ env_ok rfl
            rintro i ⟨hi, hp⟩
            repeat' (first | refine unhold ?_ | (simp -dsimp -implicitDefEqProofs (disch := (first | assumption | omega | (simp only [ll1, ll2, ll3, ll4, ll5, ll6, ll7, ll8]; omega))) only [go_sem, h2, hlit, hsig, hsl, hbl, c117, e1, e2, eq_true hn1, eq_true hn2]) | refine acalls_same (hc1 _) ?_ | refine ⟨_, hc1 _, ?_⟩ | refine ⟨_, _, hc1 _, ?_⟩ | refine acalls_same (hc2 _) ?_ | refine ⟨_, hc2 _, ?_⟩ | refine ⟨_, _, hc2 _, ?_⟩ | refine acalls_same (hc3 _) ?_ | refine ⟨_, hc3 _, ?_⟩ | refine ⟨_, _, hc3 _, ?_⟩ | refine acalls_same (Encode_1 _ _) ?_ | refine ⟨_, Encode_1 _ _, ?_⟩ | refine ⟨_, _, Encode_1 _ _, ?_⟩ | refine vcI (fun _ => ?_) (fun _ => ?_) | (refine vcA ?_ ?_; focus (repeat' (first | omega | assumption | refine vcA ?_ ?_); done)) | omega | refine imp_in (fun _ => ?_))
            · exact absurd (by assumption) (h117n i (by omega))
            · rename_i e1 e2 e3
              refine again (i + 1) ?_ ?_ rfl env_ok
              · omega
              · exact ⟨by omega, upto_succ hp (fun e => e3 (by rw [e, h117]; rfl))⟩
            all_goals first | exact done_same ⟨rfl, rfl⟩ | exact absurd (by constructor <;> omega) hm
      · obtain ⟨hb1, hb2⟩ := rune_b hu hn
        have hres := esc_rune hb1 hb2 t
        rw [hres]
        have hend : AV.lit (.int .i64 (((t.length - r.length : Nat) : Int) + 5)) = at_ t (unitP r2).2.2 := int_at (by omega)
        cases hir : isRune (unitP r2).1 with
        | true =>
          obtain ⟨e1, e2⟩ := enc_yes hir
          generalize (unitP r2).1 = n at *
          refine acalls_vc L_ok mixed [1000008] (rs := [.tmp 4, .tmp 5]) (n := 89) Tryz.func106 rfl rfl rfl rfl (Nat.le_of_ble_eq_true rfl) (by kernel_rfl) ?_
          repeat' (first | refine unhold ?_ | (simp -dsimp -implicitDefEqProofs (disch := (first | assumption | omega | (simp only [ll1, ll2, ll3, ll4, ll5, ll6, ll7, ll8]; omega))) only [go_sem]) | refine vcI (fun _ => ?_) (fun _ => ?_) | (refine vcA ?_ ?_; focus (repeat' (first | omega | assumption | refine vcA ?_ ?_); done)) | omega | refine imp_in (fun _ => ?_))
          refine vc_loopk L_ok mixed [1000008] [0, 1, 6, 7] (fun i : Nat => i ≤ 8 ∧ ∀ j, j < i → escSigns.getD j 0 ≠ peek r) (fun i => [(8, .int .i64 i)]) (fun _ => H) (fun i => 8 - i) (by kernel_rfl) ?_ 0 ⟨by omega, fun j hj => by omega⟩ env_ok rfl
          rintro i ⟨hi, hp⟩
          repeat' (first | refine unhold ?_ | (simp -dsimp -implicitDefEqProofs (disch := (first | assumption | omega | (simp only [ll1, ll2, ll3, ll4, ll5, ll6, ll7, ll8]; omega))) only [go_sem, h2, hlit, hsig, hsl, hbl, c117, e1, e2]) | refine acalls_same (hc1 _) ?_ | refine ⟨_, hc1 _, ?_⟩ | refine ⟨_, _, hc1 _, ?_⟩ | refine acalls_same (Encode_1 _ _) ?_ | refine ⟨_, Encode_1 _ _, ?_⟩ | refine ⟨_, _, Encode_1 _ _, ?_⟩ | refine vcI (fun _ => ?_) (fun _ => ?_) | (refine vcA ?_ ?_; focus (repeat' (first | omega | assumption | refine vcA ?_ ?_); done)) | omega | refine imp_in (fun _ => ?_))
          · exact absurd (by assumption) (h117n i (by omega))
          · rename_i e1 e2 e3
            refine again (i + 1) ?_ ?_ rfl env_ok
            · omega
            · exact ⟨by omega, upto_succ hp (fun e => e3 (by rw [e, h117]; rfl))⟩
          all_goals first | exact done_same ⟨by rw [← hend], rfl⟩ | exact absurd (by constructor <;> omega) hn
        | false =>
          obtain ⟨e1, e2⟩ := enc_not hir
          generalize (unitP r2).1 = n at *
          refine acalls_vc L_ok mixed [1000008] (rs := [.tmp 4, .tmp 5]) (n := 89) Tryz.func106 rfl rfl rfl rfl (Nat.le_of_ble_eq_true rfl) (by kernel_rfl) ?_
          repeat' (first | refine unhold ?_ | (simp -dsimp -implicitDefEqProofs (disch := (first | assumption | omega | (simp only [ll1, ll2, ll3, ll4, ll5, ll6, ll7, ll8]; omega))) only [go_sem]) | refine vcI (fun _ => ?_) (fun _ => ?_) | (refine vcA ?_ ?_; focus (repeat' (first | omega | assumption | refine vcA ?_ ?_); done)) | omega | refine imp_in (fun _ => ?_))
          refine vc_loopk L_ok mixed [1000008] [0, 1, 6, 7] (fun i : Nat => i ≤ 8 ∧ ∀ j, j < i → escSigns.getD j 0 ≠ peek r) (fun i => [(8, .int .i64 i)]) (fun _ => H) (fun i => 8 - i) (by kernel_rfl) ?_ 0 ⟨by omega, fun j hj => by omega⟩ env_ok rfl
          rintro i ⟨hi, hp⟩
          repeat' (first | refine unhold ?_ | (simp -dsimp -implicitDefEqProofs (disch := (first | assumption | omega | (simp only [ll1, ll2, ll3, ll4, ll5, ll6, ll7, ll8]; omega))) only [go_sem, h2, hlit, hsig, hsl, hbl, c117, e1, e2]) | refine acalls_same (hc1 _) ?_ | refine ⟨_, hc1 _, ?_⟩ | refine ⟨_, _, hc1 _, ?_⟩ | refine acalls_same (Encode_1 _ _) ?_ | refine ⟨_, Encode_1 _ _, ?_⟩ | refine ⟨_, _, Encode_1 _ _, ?_⟩ | refine vcI (fun _ => ?_) (fun _ => ?_) | (refine vcA ?_ ?_; focus (repeat' (first | omega | assumption | refine vcA ?_ ?_); done)) | omega | refine imp_in (fun _ => ?_))
          · exact absurd (by assumption) (h117n i (by omega))
          · rename_i e1 e2 e3
            refine again (i + 1) ?_ ?_ rfl env_ok
            · omega
            · exact ⟨by omega, upto_succ hp (fun e => e3 (by rw [e, h117]; rfl))⟩
          all_goals first | exact done_same ⟨rfl, rfl⟩ | exact absurd (by constructor <;> omega) hn
  · have hm : ∀ i : Nat, i < 8 → ((peek r).toNat : Int) = ((escSigns.getD i 0).toNat : Int) → AV.tup [.str ((escBytes.drop i).take (((i : Int) + 1).toNat - i)), .lit (.int .i64 (((t.length - r.length : Nat) : Int) + 1))] = escAV t (escP r) := fun i hi h => by
      have hx := idx_here hi (byte_eq h).symm
      rw [escP_eq, if_pos (by omega), hx, escAV_ok, show ((i : Int) + 1).toNat - i = 1 by omega, int_at (t := t) (r := r.drop 1) (by rw [List.length_drop]; omega)]
      congr 3
      match i, hi with
      | 0, _ => rfl
      | 1, _ => rfl
      | 2, _ => rfl
      | 3, _ => rfl
      | 4, _ => rfl
      | 5, _ => rfl
      | 6, _ => rfl
      | 7, _ => rfl
    have hno : ∀ i : Nat, (∀ j, j < i → escSigns.getD j 0 ≠ peek r) → 8 ≤ (i : Int) → escAV t (escP r) = .tup [.str [], .lit (.int .i64 (-1))] := fun i h h8 => by
      rw [escP_eq, if_neg (idx_nowhere fun j hj => h j (by omega)), skip_peek (by decide), if_neg (fun e => c117 (by rw [e]; rfl))]
      rfl
    refine acalls_vc L_ok mixed [1000008] (rs := [.tmp 4, .tmp 5]) (n := 89) Tryz.func106 rfl rfl rfl rfl (Nat.le_of_ble_eq_true rfl) (by kernel_rfl) ?_
    repeat' (first | refine unhold ?_ | (simp -dsimp -implicitDefEqProofs (disch := (first | assumption | omega | (simp only [ll1, ll2, ll3, ll4, ll5, ll6, ll7, ll8]; omega))) only [go_sem]) | refine vcI (fun _ => ?_) (fun _ => ?_) | (refine vcA ?_ ?_; focus (repeat' (first | omega | assumption | refine vcA ?_ ?_); done)) | omega | refine imp_in (fun _ => ?_))
    refine vc_loopk L_ok mixed [1000008] [0, 1, 6, 7] (fun i : Nat => i ≤ 8 ∧ ∀ j, j < i → escSigns.getD j 0 ≠ peek r) (fun i => [(8, .int .i64 i)]) (fun _ => H) (fun i => 8 - i) (by kernel_rfl) ?_ 0 ⟨by omega, fun j hj => by omega⟩ env_ok rfl
    rintro i ⟨hi, hp⟩
    repeat' (first | refine unhold ?_ | (simp -dsimp -implicitDefEqProofs (disch := (first | assumption | omega | (simp only [ll1, ll2, ll3, ll4, ll5, ll6, ll7, ll8]; omega))) only [go_sem, h2, hlit, hsig, hsl, hbl, c117]) | refine vcI (fun _ => ?_) (fun _ => ?_) | (refine vcA ?_ ?_; focus (repeat' (first | omega | assumption | refine vcA ?_ ?_); done)) | omega | refine imp_in (fun _ => ?_))
    · exact done_same ⟨hm i (by omega) (by assumption), rfl⟩
    · rename_i e1 e2 e3
      refine again (i + 1) ?_ ?_ rfl env_ok
      · omega
      · exact ⟨by omega, upto_succ hp (fun e => e3 (by rw [e]))⟩
    all_goals (rw [hno i hp (by omega)]; exact done_same ⟨rfl, rfl⟩)
end Go.Proofs.YtplmbhjhihoneaaGreatDoor
end

section
set_option linter.unusedSimpArgs false
set_option linter.unusedVariables false
namespace Go.Proofs.YtplmbhjhihoneaaGreatDoor
open Go V
set_option maxRecDepth 10000
set_option maxHeartbeats 4000000
theorem escape_I {t r : bytes} {H : List AObj} {a : Int} (ha : a = ((t.length - r.length : Nat) : Int)) (hs : r <:+ t) (hl : t.length ≤ 10000) : ACalls Tryz.prog 106 [.str t, .lit (.int .i64 a)] H (fun x H' => x = escAV t (escP r) ∧ H' = H) := by subst ha; exact escape_r hs hl
def quoAV (t : bytes) (x : bytes × bytes × Int) : AV := if x.2.2 = 0 then .tup [.str x.1, at_ t x.2.1] else .tup [.str [], .lit (.int .i64 (-1))]
theorem take1_at {r : bytes} (h : 1 ≤ r.length) : r.take 1 = [peek r] := by
  cases r with
  | nil => simp at h
  | cons c r => rfl
theorem quoted_r {t r : bytes} {H : List AObj} (hs : r <:+ t) (hl : t.length ≤ 10000) : ACalls Tryz.prog 80 [.str t, at_ t r] H (fun x H' => x = quoAV t (quotedP r) ∧ H' = H) := by
  have h1 := suf_len hs
  have hb := fun H => begins_r (H := H) (w := [34]) hs hl (by decide)
  rw [skip_peek (by decide)] at hb
  rw [quotedP_eq]
  by_cases h34 : peek r = 34
  · rw [if_pos h34] at hb ⊢
    have hpos := peek_pos (r := r) (by rw [h34]; decide)
    generalize hq : quotedR (r.drop 1) [] = q
    have e : ((t.length - r.length : Nat) : Int) + 1 = ((t.length - (r.drop 1).length : Nat) : Int) := by rw [List.length_drop]; omega
    have hol0 : ([] : bytes).length + 4 * (r.drop 1).length ≤ 4 * t.length := by simp; omega
    refine acalls_vc L_ok mixed [] (rs := [.tmp 4, .tmp 5]) (n := 59) Tryz.func80 rfl rfl rfl rfl (Nat.le_of_ble_eq_true rfl) (by kernel_rfl) ?_
    repeat' (first | refine unhold ?_ | (simp -dsimp -implicitDefEqProofs (disch := (first | assumption | omega | (simp only [ll1, ll2, ll3, ll4, ll5, ll6, ll7, ll8]; omega))) only [go_sem]) | refine acalls_same (hb _) ?_ | refine ⟨_, hb _, ?_⟩ | refine ⟨_, _, hb _, ?_⟩ | refine vcI (fun _ => ?_) (fun _ => ?_) | (refine vcA ?_ ?_; focus (repeat' (first | omega | assumption | refine vcA ?_ ?_); done)) | omega | refine imp_in (fun _ => ?_))
    simp only [e]
    refine vc_loopk L_ok mixed [] [0] (fun y : bytes × bytes => y.1 <:+ t ∧ y.2.length + 4 * y.1.length ≤ 4 * t.length ∧ quotedR y.1 y.2 = q) (fun y => [(1, at_ t y.1), (6, .str y.2)]) (fun _ => H) (fun y => y.1.length) (by kernel_rfl) ?_ (r.drop 1, []) ⟨suf_drop_n hs 1, hol0, hq⟩ env_ok rfl
    rintro ⟨r', o⟩ ⟨hs', hol, hq'⟩
    dsimp only at hs' hol hq' ⊢
    have h1' := suf_len hs'
    have h2 := peek_any hs'
    by_cases hnil : r' = []
    · subst hnil
      have : q = ([], [], 2) := by rw [← hq', quotedR_ctl (by decide)]
      subst this
      repeat' (first | refine unhold ?_ | (simp -dsimp -implicitDefEqProofs (disch := (first | assumption | omega | (simp only [ll1, ll2, ll3, ll4, ll5, ll6, ll7, ll8]; omega))) only [go_sem]) | refine vcI (fun _ => ?_) (fun _ => ?_) | (refine vcA ?_ ?_; focus (repeat' (first | omega | assumption | refine vcA ?_ ?_); done)) | omega | refine imp_in (fun _ => ?_))
      exact done_same ⟨rfl, rfl⟩
    have hpos' := List.length_pos_iff.2 hnil
    have hlt : ((t.length - r'.length : Nat) : Int) < t.length := by omega
    have hs2 := suf_drop_n hs' 1
    have e' : ((t.length - r'.length : Nat) : Int) + 1 = ((t.length - (r'.drop 1).length : Nat) : Int) := by rw [List.length_drop]; omega
    by_cases c1 : ((peek r').toNat : Int) < 32
    · have c34 : ¬ ((peek r').toNat : Int) = 34 := by omega
      have c92 : ¬ ((peek r').toNat : Int) = 92 := by omega
      rw [quotedR_ctl (by omega)] at hq'
      subst hq'
      repeat' (first | refine unhold ?_ | (simp -dsimp -implicitDefEqProofs (disch := (first | assumption | omega | (simp only [ll1, ll2, ll3, ll4, ll5, ll6, ll7, ll8]; omega))) only [go_sem, h2, c34, c92]) | refine vcI (fun _ => ?_) (fun _ => ?_) | (refine vcA ?_ ?_; focus (repeat' (first | omega | assumption | refine vcA ?_ ?_); done)) | omega | refine imp_in (fun _ => ?_))
      exact done_same ⟨rfl, rfl⟩
    by_cases c34 : ((peek r').toNat : Int) = 34
    · rw [quotedR_end (byte_eq (d := 34) c34)] at hq'
      subst hq'
      repeat' (first | refine unhold ?_ | (simp -dsimp -implicitDefEqProofs (disch := (first | assumption | omega | (simp only [ll1, ll2, ll3, ll4, ll5, ll6, ll7, ll8]; omega))) only [go_sem, h2, c34]) | refine vcI (fun _ => ?_) (fun _ => ?_) | (refine vcA ?_ ?_; focus (repeat' (first | omega | assumption | refine vcA ?_ ?_); done)) | omega | refine imp_in (fun _ => ?_))
      exact done_same ⟨by rw [quoAV, if_pos rfl, ← int_at e'], rfl⟩
    by_cases c92 : ((peek r').toNat : Int) = 92
    · have hE := fun H => escape_I (H := H) (t := t) (r := r'.drop 1) e' hs2 hl
      have hel := (escP_len (r'.drop 1)).1
      have hel2 := (escP_len (r'.drop 1)).2
      have hs3 := suf_esc hs2
      rw [List.length_drop] at hel
      by_cases he : (escP (r'.drop 1)).2.1 = 0
      · rw [quotedR_esc (byte_eq (d := 92) c92) he] at hq'
        rw [escAV, if_pos he] at hE
        generalize escP (r'.drop 1) = x at *
        have h1'' := suf_len hs3
        repeat' (first | refine unhold ?_ | (simp -dsimp -implicitDefEqProofs (disch := (first | assumption | omega | (simp only [ll1, ll2, ll3, ll4, ll5, ll6, ll7, ll8]; omega))) only [go_sem, h2, c34, c92]) | refine acalls_same (hE _) ?_ | refine ⟨_, hE _, ?_⟩ | refine ⟨_, _, hE _, ?_⟩ | refine vcI (fun _ => ?_) (fun _ => ?_) | (refine vcA ?_ ?_; focus (repeat' (first | omega | assumption | refine vcA ?_ ?_); done)) | omega | refine imp_in (fun _ => ?_))
        refine again ((x.2.2, o ++ x.1)) ?_ ?_ rfl env_ok
        · dsimp only; omega
        · exact ⟨hs3, by simp only [List.length_append]; omega, hq'⟩
      · rw [quotedR_bad (byte_eq (d := 92) c92) he] at hq'
        rw [escAV, if_neg he] at hE
        subst hq'
        repeat' (first | refine unhold ?_ | (simp -dsimp -implicitDefEqProofs (disch := (first | assumption | omega | (simp only [ll1, ll2, ll3, ll4, ll5, ll6, ll7, ll8]; omega))) only [go_sem, h2, c34, c92]) | refine acalls_same (hE _) ?_ | refine ⟨_, hE _, ?_⟩ | refine ⟨_, _, hE _, ?_⟩ | refine vcI (fun _ => ?_) (fun _ => ?_) | (refine vcA ?_ ?_; focus (repeat' (first | omega | assumption | refine vcA ?_ ?_); done)) | omega | refine imp_in (fun _ => ?_))
        exact done_same ⟨by rw [quoAV, if_neg he], rfl⟩
    · rw [quotedR_one (by omega) (fun h => c34 (by rw [h]; rfl)) (fun h => c92 (by rw [h]; rfl))] at hq'
      have e3 : (((t.length - r'.length : Nat) : Int) + 1).toNat - (t.length - r'.length) = 1 := by omega
      have e4 := suf_drop hs'
      have e5 := take1_at (r := r') (by omega)
      repeat' (first | refine unhold ?_ | (simp -dsimp -implicitDefEqProofs (disch := (first | assumption | omega | (simp only [ll1, ll2, ll3, ll4, ll5, ll6, ll7, ll8]; omega))) only [go_sem, h2, c34, c92, c1, e3, e4, e5]) | refine vcI (fun _ => ?_) (fun _ => ?_) | (refine vcA ?_ ?_; focus (repeat' (first | omega | assumption | refine vcA ?_ ?_); done)) | omega | refine imp_in (fun _ => ?_))
      rw [e']
      refine again ((r'.drop 1, o ++ [peek r'])) ?_ ?_ rfl env_ok
      · dsimp only; rw [List.length_drop]; omega
      · exact ⟨hs2, by simp only [List.length_append, List.length_cons, List.length_nil, List.length_drop]; omega, hq'⟩
  · rw [if_neg h34] at hb ⊢
    refine acalls_vc L_ok mixed [] (rs := [.tmp 4, .tmp 5]) (n := 59) Tryz.func80 rfl rfl rfl rfl (Nat.le_of_ble_eq_true rfl) (by kernel_rfl) ?_
    repeat' (first | refine unhold ?_ | (simp -dsimp -implicitDefEqProofs (disch := (first | assumption | omega | (simp only [ll1, ll2, ll3, ll4, ll5, ll6, ll7, ll8]; omega))) only [go_sem]) | refine acalls_same (hb _) ?_ | refine ⟨_, hb _, ?_⟩ | refine ⟨_, _, hb _, ?_⟩ | refine vcI (fun _ => ?_) (fun _ => ?_) | (refine vcA ?_ ?_; focus (repeat' (first | omega | assumption | refine vcA ?_ ?_); done)) | omega | refine imp_in (fun _ => ?_))
    exact done_same ⟨rfl, rfl⟩
def numAV (t : bytes) (x : Int × bytes × Int) : AV := if x.2.2 = 0 then .tup [.lit (.int .i64 x.1), at_ t x.2.1, .lit (.int .i64 0)] else .tup [.lit (.int .i64 0), .lit (.int .i64 0), .lit (.int .i64 x.2.2)]
theorem foldl_ge (l : bytes) : ∀ a : Nat, a ≤ l.foldl (fun n c => n * 10 + (c.toNat - 48)) a := by
  induction l with
  | nil => exact fun a => Nat.le_refl _
  | cons c l ih => exact fun a => Nat.le_trans (show a ≤ a * 10 + (c.toNat - 48) by omega) (ih _)
theorem decVal_pos {r : bytes} {n : Nat} (hn : 1 ≤ n) (hr : 1 ≤ r.length) : (peek r).toNat - 48 ≤ decVal (r.take n) := by
  cases r with
  | nil => simp at hr
  | cons c r =>
    obtain ⟨n, rfl⟩ : ∃ m, n = m + 1 := ⟨n - 1, by omega⟩
    rw [List.take_succ_cons]
    unfold decVal
    rw [List.foldl_cons]
    have := foldl_ge (r.take n) (0 * 10 + (c.toNat - 48))
    show c.toNat - 48 ≤ _
    omega
theorem tw_stop {p : UInt8 → Bool} : ∀ {r : bytes}, (r.takeWhile p).length < r.length → p (r.getD (r.takeWhile p).length 0) = false
  | [], h => by simp at h
  | c :: r, h => by
    rw [List.takeWhile_cons] at h ⊢
    cases hc : p c with
    | true =>
      rw [hc] at h
      simp only [if_true, List.length_cons] at h ⊢
      rw [List.getD_cons_succ]
      exact tw_stop (by omega)
    | false => simpa using hc
def sat (n : Nat) : Int := ((min n 9007199254740992 : Nat) : Int)
theorem sat_le (n : Nat) : 0 ≤ sat n ∧ sat n ≤ 9007199254740992 := by unfold sat; omega
theorem sat_step {n d : Nat} (h : 48 ≤ d) : min (sat n * 10 + ((d : Int) - 48)) 9007199254740992 = sat (n * 10 + (d - 48)) := by unfold sat; omega
theorem number_r {t r : bytes} {H : List AObj} (hs : r <:+ t) (hl : t.length ≤ 10000) (hr : r ≠ []) : ACalls Tryz.prog 81 [.str t, at_ t r] H (fun x H' => x = numAV t (numP r) ∧ H' = H) := by
  have h1 := suf_len hs
  have h2 := peek_any hs
  have hpos := List.length_pos_iff.2 hr
  have hlt : ((t.length - r.length : Nat) : Int) < t.length := by omega
  have hnum : numLen r = numLen r := rfl
  have key : ∀ (b : Bool) (r1 : bytes), r1 <:+ t → numP r = numGo b r1 → ((peek r).toNat : Int) = 45 ∧ b = true ∧ r1 = r.drop 1 ∨ ¬ ((peek r).toNat : Int) = 45 ∧ b = false ∧ r1 = r → ACalls Tryz.prog 81 [.str t, at_ t r] H (fun x H' => x = numAV t (numGo b r1) ∧ H' = H) := by
    intro b r1 hs1 hgo hb
    have hl1 := suf_len hs1
    have hp1 := peek_any hs1
    have hd1 := digit_iff (peek r1)
    have htw := tw_le isDigit r1
    have hnl := numLen_le r1
    cases hdg : isDigit (peek r1) with
    | false =>
      have h0 : numLen r1 = 0 := by
        unfold numLen
        rw [if_neg (fun e => by rw [e] at hdg; cases hdg)]
        refine tw_len (Nat.zero_le _) (fun j hj => by omega) fun h => ?_
        cases r1 with
        | nil => simp at h
        | cons c r1 => exact hdg
      have hz : numGo b r1 = (0, r1, 2) := by rw [numGo, if_pos (.inl h0)]
      have hnd : ¬ (48 ≤ ((peek r1).toNat : Int) ∧ ((peek r1).toNat : Int) ≤ 57) := by rw [hdg] at hd1; exact of_decide_eq_false hd1.symm
      rw [hz]
      rcases hb with ⟨c45, rfl, rfl⟩ | ⟨c45, rfl, rfl⟩
      · have e0 : ((t.length - r.length : Nat) : Int) + 1 = ((t.length - (r.drop 1).length : Nat) : Int) := by rw [List.length_drop]; omega
        generalize r.drop 1 = r1 at *
        refine acalls_vc L_ok mixed [] (rs := [.tmp 4, .tmp 5, .tmp 6]) (n := 84) Tryz.func81 rfl rfl rfl rfl (Nat.le_of_ble_eq_true rfl) (by kernel_rfl) ?_
        repeat' (first | refine unhold ?_ | (simp -dsimp -implicitDefEqProofs (disch := (first | assumption | omega | (simp only [ll1, ll2, ll3, ll4, ll5, ll6, ll7, ll8]; omega))) only [go_sem, h2, hp1, c45, e0]) | refine vcI (fun _ => ?_) (fun _ => ?_) | (refine vcA ?_ ?_; focus (repeat' (first | omega | assumption | refine vcA ?_ ?_); done)) | omega | refine imp_in (fun _ => ?_))
        all_goals first | exact done_same ⟨rfl, rfl⟩ | exact absurd (by constructor <;> omega) hnd
      · refine acalls_vc L_ok mixed [] (rs := [.tmp 4, .tmp 5, .tmp 6]) (n := 84) Tryz.func81 rfl rfl rfl rfl (Nat.le_of_ble_eq_true rfl) (by kernel_rfl) ?_
        repeat' (first | refine unhold ?_ | (simp -dsimp -implicitDefEqProofs (disch := (first | assumption | omega | (simp only [ll1, ll2, ll3, ll4, ll5, ll6, ll7, ll8]; omega))) only [go_sem, h2, c45]) | refine vcI (fun _ => ?_) (fun _ => ?_) | (refine vcA ?_ ?_; focus (repeat' (first | omega | assumption | refine vcA ?_ ?_); done)) | omega | refine imp_in (fun _ => ?_))
        all_goals first | exact done_same ⟨rfl, rfl⟩ | exact absurd (by constructor <;> omega) hnd
    | true =>
      have hdd : 48 ≤ ((peek r1).toNat : Int) ∧ ((peek r1).toNat : Int) ≤ 57 := by rw [hdg] at hd1; exact of_decide_eq_true hd1.symm
      have hne : 1 ≤ r1.length := peek_pos (r := r1) (by intro e; rw [e] at hdg; cases hdg)
      have htw1 : 1 ≤ (r1.takeWhile isDigit).length := by
        cases r1 with
        | nil => simp at hne
        | cons c r1 => rw [List.takeWhile_cons, show isDigit c = true from hdg]; simp
      have hn1 : 1 ≤ numLen r1 := by unfold numLen; split <;> omega
      have hn48 : ((peek r1).toNat : Int) = 48 → numLen r1 = 1 := fun h => by rw [numLen, if_pos (byte_eq (d := 48) h)]
      have hnn : ¬ ((peek r1).toNat : Int) = 48 → numLen r1 = (r1.takeWhile isDigit).length := fun h => by rw [numLen, if_neg (fun e => h (by rw [e]; rfl))]
      have hstop : numLen r1 < r1.length → ¬ ((peek r1).toNat : Int) = 48 → ¬ (48 ≤ ((r1.getD (numLen r1) 0).toNat : Int) ∧ ((r1.getD (numLen r1) 0).toNat : Int) ≤ 57) := fun h1 h2 => by
        have := tw_stop (p := isDigit) (r := r1) (by rw [← hnn h2]; exact h1)
        rw [← hnn h2, digit_iff] at this
        exact of_decide_eq_false this
      have hin : ∀ j, j < numLen r1 → 48 ≤ ((r1.getD j 0).toNat : Int) ∧ ((r1.getD j 0).toNat : Int) ≤ 57 := fun j hj => by
        have := numLen_digit hj
        rw [digit_iff] at this
        exact of_decide_eq_true this
      have hval : numGo b r1 = if b = true ∧ decVal (r1.take (numLen r1)) = 0 then (0, r1, 2) else if 9007199254740991 < decVal (r1.take (numLen r1)) then (0, r1.drop (numLen r1), 5) else (if b then -(decVal (r1.take (numLen r1)) : Int) else decVal (r1.take (numLen r1)), r1.drop (numLen r1), 0) := by
        rw [numGo]
        have hiff : (numLen r1 = 0 ∨ b = true ∧ peek r1 = 48) ↔ (b = true ∧ decVal (r1.take (numLen r1)) = 0) := by
          have hp := decVal_pos (r := r1) hn1 hne
          constructor
          · rintro (h | ⟨h1, h2⟩)
            · omega
            · refine ⟨h1, ?_⟩
              rw [hn48 (by rw [h2]; rfl), take1_at hne, h2]
              rfl
          · rintro ⟨h1, h2⟩
            exact .inr ⟨h1, byte_eq (d := 48) (by show _ = (48 : Int); omega)⟩
        by_cases hc : b = true ∧ decVal (r1.take (numLen r1)) = 0
        · rw [if_pos hc, if_pos (hiff.2 hc)]
        · rw [if_neg hc, if_neg (fun h => hc (hiff.1 h))]
      rw [hval]
      have hlt1 : ((t.length - r1.length : Nat) : Int) < t.length := by omega
      have hend : ((t.length - r1.length : Nat) : Int) + ((numLen r1 : Nat) : Int) = ((t.length - (r1.drop (numLen r1)).length : Nat) : Int) := by rw [List.length_drop]; omega
      have hend_at : AV.lit (.int .i64 (((t.length - r1.length : Nat) : Int) + ((numLen r1 : Nat) : Int))) = at_ t (r1.drop (numLen r1)) := int_at hend
      obtain ⟨hdd1, hdd2⟩ := hdd
      have hone : ∀ (_ : Unit) (j : Nat), j < numLen r1 → ¬ j = 0 → (((peek r1).toNat : Int) = 48) = False := fun _ j h1 h2 => eq_false fun h => by have := hn48 h; omega
      have hout : ∀ (_ : Unit), numLen r1 < r1.length → ((peek r1).toNat : Int) ≠ 48 → 48 ≤ ((r1.getD (numLen r1) 0).toNat : Int) → ((r1.getD (numLen r1) 0).toNat : Int) ≤ 57 → False := fun _ a b c d => hstop a b ⟨c, d⟩
      have hl0 : ((t.length - r1.length : Nat) : Int) + r1.length = t.length := by omega
      clear hn48 hnn hstop hgo hnum htw1 htw hd1 hdg hend
      generalize hV : decVal (r1.take (numLen r1)) = V at *
      have g1 : (((t.length : Nat) : Int) ≤ ((t.length - r1.length : Nat) : Int)) = False := eq_false (by omega)
      have g2 : (((peek r1).toNat : Int) < 48) = False := eq_false (by omega)
      have g3 : (57 < ((peek r1).toNat : Int)) = False := eq_false (by omega)
      rcases hb with ⟨c45, rfl, rfl⟩ | ⟨c45, rfl, rfl⟩
      · have e0 : ((t.length - r.length : Nat) : Int) + 1 = ((t.length - (r.drop 1).length : Nat) : Int) := by rw [List.length_drop]; omega
        generalize r.drop 1 = r1 at *
        by_cases v0 : V = 0
        · rw [if_pos ⟨rfl, v0⟩]
          refine acalls_vc L_ok mixed [] (rs := [.tmp 4, .tmp 5, .tmp 6]) (n := 84) Tryz.func81 rfl rfl rfl rfl (Nat.le_of_ble_eq_true rfl) (by kernel_rfl) ?_
          repeat' (first | refine unhold ?_ | (simp -dsimp -implicitDefEqProofs (disch := (first | assumption | omega | (simp only [ll1, ll2, ll3, ll4, ll5, ll6, ll7, ll8]; omega))) only [go_sem, h2, hp1, c45, e0, g1, g2, g3]) | refine vcI (fun _ => ?_) (fun _ => ?_) | (refine vcA ?_ ?_; focus (repeat' (first | omega | assumption | refine vcA ?_ ?_); done)) | omega | refine imp_in (fun _ => ?_))
          refine vc_loopk L_ok mixed [] [0, 4, 5, 6, 7, 9] (fun j : Nat => j ≤ numLen r1) (fun j => [(1, .int .i64 (((t.length - r1.length : Nat) : Int) + j)), (8, .int .i64 (sat (decVal (r1.take j))))]) (fun _ => H) (fun j => numLen r1 - j) (by kernel_rfl) ?_ 0 (by omega) env_ok rfl
          intro j hj
          have hg : t.getD (((t.length - r1.length : Nat) : Int) + (j : Int)).toNat 0 = r1.getD j 0 := by rw [← suf_get hs1 j]; congr 1
          by_cases hjn : j < numLen r1
          · obtain ⟨d1, d2⟩ := hin j hjn
            have hv := decVal_take (l := r1) (i := j) (by omega)
            have hst : ∀ (_ : Unit), min (sat (decVal (r1.take j)) * 10 + (((r1.getD j 0).toNat : Int) - 48)) 9007199254740992 = sat (decVal (r1.take (j + 1))) := fun _ => by rw [hv, sat_step (by omega)]
            have hm := sat_le (decVal (r1.take j))
            have flt : (((t.length - r1.length : Nat) : Int) + (j : Int) < ((t.length : Nat) : Int)) = True := eq_true (by omega)
            clear hv
            generalize sat (decVal (r1.take j)) = m at *
            by_cases hj0 : j = 0
            · have f0 : (((t.length - r1.length : Nat) : Int) + (j : Int) = ((t.length - r1.length : Nat) : Int)) = True := eq_true (by omega)
              repeat' (first | refine unhold ?_ | (simp -dsimp -implicitDefEqProofs (disch := (first | assumption | omega | (simp only [ll1, ll2, ll3, ll4, ll5, ll6, ll7, ll8]; omega))) only [go_sem, h2, hp1, c45, hg, f0, flt, eq_true d1, eq_true d2, hst ()]) | refine vcI (fun _ => ?_) (fun _ => ?_) | (refine vcA ?_ ?_; focus (repeat' (first | omega | assumption | refine vcA ?_ ?_); done)) | omega | refine imp_in (fun _ => ?_))
              refine again (j + 1) ?_ ?_ rfl env_ok
              · omega
              · omega
            · have f0 : (((t.length - r1.length : Nat) : Int) + (j : Int) = ((t.length - r1.length : Nat) : Int)) = False := eq_false (by omega)
              have f48 := hone () j hjn hj0
              repeat' (first | refine unhold ?_ | (simp -dsimp -implicitDefEqProofs (disch := (first | assumption | omega | (simp only [ll1, ll2, ll3, ll4, ll5, ll6, ll7, ll8]; omega))) only [go_sem, h2, hp1, c45, hg, f0, f48, flt, eq_true d1, eq_true d2, hst ()]) | refine vcI (fun _ => ?_) (fun _ => ?_) | (refine vcA ?_ ?_; focus (repeat' (first | omega | assumption | refine vcA ?_ ?_); done)) | omega | refine imp_in (fun _ => ?_))
              refine again (j + 1) ?_ ?_ rfl env_ok
              · omega
              · omega
          · obtain rfl : j = numLen r1 := by omega
            have f0 : (((t.length - r1.length : Nat) : Int) + ((numLen r1 : Nat) : Int) = ((t.length - r1.length : Nat) : Int)) = False := eq_false (by omega)
            rw [hV]
            have fm : sat V = 0 := by unfold sat; omega
            repeat' (first | refine unhold ?_ | (simp -dsimp -implicitDefEqProofs (disch := (first | assumption | omega | (simp only [ll1, ll2, ll3, ll4, ll5, ll6, ll7, ll8]; omega))) only [go_sem, h2, hp1, c45, hg, f0, fm]) | refine vcI (fun _ => ?_) (fun _ => ?_) | (refine vcA ?_ ?_; focus (repeat' (first | omega | assumption | refine vcA ?_ ?_); done)) | omega | refine imp_in (fun _ => ?_))
            all_goals first | (exact done_same ⟨rfl, rfl⟩) | (exfalso; apply hout () <;> first | assumption | omega)
        · rw [if_neg (fun h => v0 h.2)]
          by_cases v1 : 9007199254740991 < V
          · rw [if_pos v1]
            refine acalls_vc L_ok mixed [] (rs := [.tmp 4, .tmp 5, .tmp 6]) (n := 84) Tryz.func81 rfl rfl rfl rfl (Nat.le_of_ble_eq_true rfl) (by kernel_rfl) ?_
            repeat' (first | refine unhold ?_ | (simp -dsimp -implicitDefEqProofs (disch := (first | assumption | omega | (simp only [ll1, ll2, ll3, ll4, ll5, ll6, ll7, ll8]; omega))) only [go_sem, h2, hp1, c45, e0, g1, g2, g3]) | refine vcI (fun _ => ?_) (fun _ => ?_) | (refine vcA ?_ ?_; focus (repeat' (first | omega | assumption | refine vcA ?_ ?_); done)) | omega | refine imp_in (fun _ => ?_))
            refine vc_loopk L_ok mixed [] [0, 4, 5, 6, 7, 9] (fun j : Nat => j ≤ numLen r1) (fun j => [(1, .int .i64 (((t.length - r1.length : Nat) : Int) + j)), (8, .int .i64 (sat (decVal (r1.take j))))]) (fun _ => H) (fun j => numLen r1 - j) (by kernel_rfl) ?_ 0 (by omega) env_ok rfl
            intro j hj
            have hg : t.getD (((t.length - r1.length : Nat) : Int) + (j : Int)).toNat 0 = r1.getD j 0 := by rw [← suf_get hs1 j]; congr 1
            by_cases hjn : j < numLen r1
            · obtain ⟨d1, d2⟩ := hin j hjn
              have hv := decVal_take (l := r1) (i := j) (by omega)
              have hst : ∀ (_ : Unit), min (sat (decVal (r1.take j)) * 10 + (((r1.getD j 0).toNat : Int) - 48)) 9007199254740992 = sat (decVal (r1.take (j + 1))) := fun _ => by rw [hv, sat_step (by omega)]
              have hm := sat_le (decVal (r1.take j))
              have flt : (((t.length - r1.length : Nat) : Int) + (j : Int) < ((t.length : Nat) : Int)) = True := eq_true (by omega)
              clear hv
              generalize sat (decVal (r1.take j)) = m at *
              by_cases hj0 : j = 0
              · have f0 : (((t.length - r1.length : Nat) : Int) + (j : Int) = ((t.length - r1.length : Nat) : Int)) = True := eq_true (by omega)
                repeat' (first | refine unhold ?_ | (simp -dsimp -implicitDefEqProofs (disch := (first | assumption | omega | (simp only [ll1, ll2, ll3, ll4, ll5, ll6, ll7, ll8]; omega))) only [go_sem, h2, hp1, c45, hg, f0, flt, eq_true d1, eq_true d2, hst ()]) | refine vcI (fun _ => ?_) (fun _ => ?_) | (refine vcA ?_ ?_; focus (repeat' (first | omega | assumption | refine vcA ?_ ?_); done)) | omega | refine imp_in (fun _ => ?_))
                refine again (j + 1) ?_ ?_ rfl env_ok
                · omega
                · omega
              · have f0 : (((t.length - r1.length : Nat) : Int) + (j : Int) = ((t.length - r1.length : Nat) : Int)) = False := eq_false (by omega)
                have f48 := hone () j hjn hj0
                repeat' (first | refine unhold ?_ | (simp -dsimp -implicitDefEqProofs (disch := (first | assumption | omega | (simp only [ll1, ll2, ll3, ll4, ll5, ll6, ll7, ll8]; omega))) only [go_sem, h2, hp1, c45, hg, f0, f48, flt, eq_true d1, eq_true d2, hst ()]) | refine vcI (fun _ => ?_) (fun _ => ?_) | (refine vcA ?_ ?_; focus (repeat' (first | omega | assumption | refine vcA ?_ ?_); done)) | omega | refine imp_in (fun _ => ?_))
                refine again (j + 1) ?_ ?_ rfl env_ok
                · omega
                · omega
            · obtain rfl : j = numLen r1 := by omega
              have f0 : (((t.length - r1.length : Nat) : Int) + ((numLen r1 : Nat) : Int) = ((t.length - r1.length : Nat) : Int)) = False := eq_false (by omega)
              rw [hV]
              have fM : sat V = 9007199254740992 := by unfold sat; omega
              repeat' (first | refine unhold ?_ | (simp -dsimp -implicitDefEqProofs (disch := (first | assumption | omega | (simp only [ll1, ll2, ll3, ll4, ll5, ll6, ll7, ll8]; omega))) only [go_sem, h2, hp1, c45, hg, f0, fM]) | refine vcI (fun _ => ?_) (fun _ => ?_) | (refine vcA ?_ ?_; focus (repeat' (first | omega | assumption | refine vcA ?_ ?_); done)) | omega | refine imp_in (fun _ => ?_))
              all_goals first | (exact done_same ⟨rfl, rfl⟩) | (exfalso; apply hout () <;> first | assumption | omega)
          · rw [if_neg v1]
            refine acalls_vc L_ok mixed [] (rs := [.tmp 4, .tmp 5, .tmp 6]) (n := 84) Tryz.func81 rfl rfl rfl rfl (Nat.le_of_ble_eq_true rfl) (by kernel_rfl) ?_
            repeat' (first | refine unhold ?_ | (simp -dsimp -implicitDefEqProofs (disch := (first | assumption | omega | (simp only [ll1, ll2, ll3, ll4, ll5, ll6, ll7, ll8]; omega))) only [go_sem, h2, hp1, c45, e0, g1, g2, g3]) | refine vcI (fun _ => ?_) (fun _ => ?_) | (refine vcA ?_ ?_; focus (repeat' (first | omega | assumption | refine vcA ?_ ?_); done)) | omega | refine imp_in (fun _ => ?_))
            refine vc_loopk L_ok mixed [] [0, 4, 5, 6, 7, 9] (fun j : Nat => j ≤ numLen r1) (fun j => [(1, .int .i64 (((t.length - r1.length : Nat) : Int) + j)), (8, .int .i64 (sat (decVal (r1.take j))))]) (fun _ => H) (fun j => numLen r1 - j) (by kernel_rfl) ?_ 0 (by omega) env_ok rfl
            intro j hj
            have hg : t.getD (((t.length - r1.length : Nat) : Int) + (j : Int)).toNat 0 = r1.getD j 0 := by rw [← suf_get hs1 j]; congr 1
            by_cases hjn : j < numLen r1
            · obtain ⟨d1, d2⟩ := hin j hjn
              have hv := decVal_take (l := r1) (i := j) (by omega)
              have hst : ∀ (_ : Unit), min (sat (decVal (r1.take j)) * 10 + (((r1.getD j 0).toNat : Int) - 48)) 9007199254740992 = sat (decVal (r1.take (j + 1))) := fun _ => by rw [hv, sat_step (by omega)]
              have hm := sat_le (decVal (r1.take j))
              have flt : (((t.length - r1.length : Nat) : Int) + (j : Int) < ((t.length : Nat) : Int)) = True := eq_true (by omega)
              clear hv
              generalize sat (decVal (r1.take j)) = m at *
              by_cases hj0 : j = 0
              · have f0 : (((t.length - r1.length : Nat) : Int) + (j : Int) = ((t.length - r1.length : Nat) : Int)) = True := eq_true (by omega)
                repeat' (first | refine unhold ?_ | (simp -dsimp -implicitDefEqProofs (disch := (first | assumption | omega | (simp only [ll1, ll2, ll3, ll4, ll5, ll6, ll7, ll8]; omega))) only [go_sem, h2, hp1, c45, hg, f0, flt, eq_true d1, eq_true d2, hst ()]) | refine vcI (fun _ => ?_) (fun _ => ?_) | (refine vcA ?_ ?_; focus (repeat' (first | omega | assumption | refine vcA ?_ ?_); done)) | omega | refine imp_in (fun _ => ?_))
                refine again (j + 1) ?_ ?_ rfl env_ok
                · omega
                · omega
              · have f0 : (((t.length - r1.length : Nat) : Int) + (j : Int) = ((t.length - r1.length : Nat) : Int)) = False := eq_false (by omega)
                have f48 := hone () j hjn hj0
                repeat' (first | refine unhold ?_ | (simp -dsimp -implicitDefEqProofs (disch := (first | assumption | omega | (simp only [ll1, ll2, ll3, ll4, ll5, ll6, ll7, ll8]; omega))) only [go_sem, h2, hp1, c45, hg, f0, f48, flt, eq_true d1, eq_true d2, hst ()]) | refine vcI (fun _ => ?_) (fun _ => ?_) | (refine vcA ?_ ?_; focus (repeat' (first | omega | assumption | refine vcA ?_ ?_); done)) | omega | refine imp_in (fun _ => ?_))
                refine again (j + 1) ?_ ?_ rfl env_ok
                · omega
                · omega
            · obtain rfl : j = numLen r1 := by omega
              have f0 : (((t.length - r1.length : Nat) : Int) + ((numLen r1 : Nat) : Int) = ((t.length - r1.length : Nat) : Int)) = False := eq_false (by omega)
              rw [hV]
              have fv : sat V = (V : Int) := by unfold sat; omega
              have fm : ((V : Int) = 0) = False := eq_false (by omega)
              have fM : ((V : Int) = 9007199254740992) = False := eq_false (by omega)
              repeat' (first | refine unhold ?_ | (simp -dsimp -implicitDefEqProofs (disch := (first | assumption | omega | (simp only [ll1, ll2, ll3, ll4, ll5, ll6, ll7, ll8]; omega))) only [go_sem, h2, hp1, c45, hg, f0, fv, fm, fM]) | refine vcI (fun _ => ?_) (fun _ => ?_) | (refine vcA ?_ ?_; focus (repeat' (first | omega | assumption | refine vcA ?_ ?_); done)) | omega | refine imp_in (fun _ => ?_))
              all_goals first | (exact done_same ⟨by (rw [numAV, if_pos rfl, ← hend_at]) <;> first | rfl | rw [Int.zero_sub], rfl⟩) | (exfalso; apply hout () <;> first | assumption | omega)
      · rw [if_neg (fun h => by cases h.1)]
        by_cases v1 : 9007199254740991 < V
        · rw [if_pos v1]
          refine acalls_vc L_ok mixed [] (rs := [.tmp 4, .tmp 5, .tmp 6]) (n := 84) Tryz.func81 rfl rfl rfl rfl (Nat.le_of_ble_eq_true rfl) (by kernel_rfl) ?_
          repeat' (first | refine unhold ?_ | (simp -dsimp -implicitDefEqProofs (disch := (first | assumption | omega | (simp only [ll1, ll2, ll3, ll4, ll5, ll6, ll7, ll8]; omega))) only [go_sem, h2, c45, g1, g2, g3]) | refine vcI (fun _ => ?_) (fun _ => ?_) | (refine vcA ?_ ?_; focus (repeat' (first | omega | assumption | refine vcA ?_ ?_); done)) | omega | refine imp_in (fun _ => ?_))
          refine vc_loopk L_ok mixed [] [0, 4, 5, 6, 7, 9] (fun j : Nat => j ≤ numLen r1) (fun j => [(1, .int .i64 (((t.length - r1.length : Nat) : Int) + j)), (8, .int .i64 (sat (decVal (r1.take j))))]) (fun _ => H) (fun j => numLen r1 - j) (by kernel_rfl) ?_ 0 (by omega) env_ok rfl
          intro j hj
          have hg : t.getD (((t.length - r1.length : Nat) : Int) + (j : Int)).toNat 0 = r1.getD j 0 := by rw [← suf_get hs1 j]; congr 1
          by_cases hjn : j < numLen r1
          · obtain ⟨d1, d2⟩ := hin j hjn
            have hv := decVal_take (l := r1) (i := j) (by omega)
            have hst : ∀ (_ : Unit), min (sat (decVal (r1.take j)) * 10 + (((r1.getD j 0).toNat : Int) - 48)) 9007199254740992 = sat (decVal (r1.take (j + 1))) := fun _ => by rw [hv, sat_step (by omega)]
            have hm := sat_le (decVal (r1.take j))
            have flt : (((t.length - r1.length : Nat) : Int) + (j : Int) < ((t.length : Nat) : Int)) = True := eq_true (by omega)
            clear hv
            generalize sat (decVal (r1.take j)) = m at *
            by_cases hj0 : j = 0
            · have f0 : (((t.length - r1.length : Nat) : Int) + (j : Int) = ((t.length - r1.length : Nat) : Int)) = True := eq_true (by omega)
              repeat' (first | refine unhold ?_ | (simp -dsimp -implicitDefEqProofs (disch := (first | assumption | omega | (simp only [ll1, ll2, ll3, ll4, ll5, ll6, ll7, ll8]; omega))) only [go_sem, h2, hp1, c45, hg, f0, flt, eq_true d1, eq_true d2, hst ()]) | refine vcI (fun _ => ?_) (fun _ => ?_) | (refine vcA ?_ ?_; focus (repeat' (first | omega | assumption | refine vcA ?_ ?_); done)) | omega | refine imp_in (fun _ => ?_))
              refine again (j + 1) ?_ ?_ rfl env_ok
              · omega
              · omega
            · have f0 : (((t.length - r1.length : Nat) : Int) + (j : Int) = ((t.length - r1.length : Nat) : Int)) = False := eq_false (by omega)
              have f48 := hone () j hjn hj0
              repeat' (first | refine unhold ?_ | (simp -dsimp -implicitDefEqProofs (disch := (first | assumption | omega | (simp only [ll1, ll2, ll3, ll4, ll5, ll6, ll7, ll8]; omega))) only [go_sem, h2, hp1, c45, hg, f0, f48, flt, eq_true d1, eq_true d2, hst ()]) | refine vcI (fun _ => ?_) (fun _ => ?_) | (refine vcA ?_ ?_; focus (repeat' (first | omega | assumption | refine vcA ?_ ?_); done)) | omega | refine imp_in (fun _ => ?_))
              refine again (j + 1) ?_ ?_ rfl env_ok
              · omega
              · omega
          · obtain rfl : j = numLen r1 := by omega
            have f0 : (((t.length - r1.length : Nat) : Int) + ((numLen r1 : Nat) : Int) = ((t.length - r1.length : Nat) : Int)) = False := eq_false (by omega)
            rw [hV]
            have fM : sat V = 9007199254740992 := by unfold sat; omega
            repeat' (first | refine unhold ?_ | (simp -dsimp -implicitDefEqProofs (disch := (first | assumption | omega | (simp only [ll1, ll2, ll3, ll4, ll5, ll6, ll7, ll8]; omega))) only [go_sem, h2, hp1, c45, hg, f0, fM]) | refine vcI (fun _ => ?_) (fun _ => ?_) | (refine vcA ?_ ?_; focus (repeat' (first | omega | assumption | refine vcA ?_ ?_); done)) | omega | refine imp_in (fun _ => ?_))
            all_goals first | (exact done_same ⟨rfl, rfl⟩) | (exfalso; apply hout () <;> first | assumption | omega)
        · rw [if_neg v1]
          refine acalls_vc L_ok mixed [] (rs := [.tmp 4, .tmp 5, .tmp 6]) (n := 84) Tryz.func81 rfl rfl rfl rfl (Nat.le_of_ble_eq_true rfl) (by kernel_rfl) ?_
          repeat' (first | refine unhold ?_ | (simp -dsimp -implicitDefEqProofs (disch := (first | assumption | omega | (simp only [ll1, ll2, ll3, ll4, ll5, ll6, ll7, ll8]; omega))) only [go_sem, h2, c45, g1, g2, g3]) | refine vcI (fun _ => ?_) (fun _ => ?_) | (refine vcA ?_ ?_; focus (repeat' (first | omega | assumption | refine vcA ?_ ?_); done)) | omega | refine imp_in (fun _ => ?_))
          refine vc_loopk L_ok mixed [] [0, 4, 5, 6, 7, 9] (fun j : Nat => j ≤ numLen r1) (fun j => [(1, .int .i64 (((t.length - r1.length : Nat) : Int) + j)), (8, .int .i64 (sat (decVal (r1.take j))))]) (fun _ => H) (fun j => numLen r1 - j) (by kernel_rfl) ?_ 0 (by omega) env_ok rfl
          intro j hj
          have hg : t.getD (((t.length - r1.length : Nat) : Int) + (j : Int)).toNat 0 = r1.getD j 0 := by rw [← suf_get hs1 j]; congr 1
          by_cases hjn : j < numLen r1
          · obtain ⟨d1, d2⟩ := hin j hjn
            have hv := decVal_take (l := r1) (i := j) (by omega)
            have hst : ∀ (_ : Unit), min (sat (decVal (r1.take j)) * 10 + (((r1.getD j 0).toNat : Int) - 48)) 9007199254740992 = sat (decVal (r1.take (j + 1))) := fun _ => by rw [hv, sat_step (by omega)]
            have hm := sat_le (decVal (r1.take j))
            have flt : (((t.length - r1.length : Nat) : Int) + (j : Int) < ((t.length : Nat) : Int)) = True := eq_true (by omega)
            clear hv
            generalize sat (decVal (r1.take j)) = m at *
            by_cases hj0 : j = 0
            · have f0 : (((t.length - r1.length : Nat) : Int) + (j : Int) = ((t.length - r1.length : Nat) : Int)) = True := eq_true (by omega)
              repeat' (first | refine unhold ?_ | (simp -dsimp -implicitDefEqProofs (disch := (first | assumption | omega | (simp only [ll1, ll2, ll3, ll4, ll5, ll6, ll7, ll8]; omega))) only [go_sem, h2, hp1, c45, hg, f0, flt, eq_true d1, eq_true d2, hst ()]) | refine vcI (fun _ => ?_) (fun _ => ?_) | (refine vcA ?_ ?_; focus (repeat' (first | omega | assumption | refine vcA ?_ ?_); done)) | omega | refine imp_in (fun _ => ?_))
              refine again (j + 1) ?_ ?_ rfl env_ok
              · omega
              · omega
            · have f0 : (((t.length - r1.length : Nat) : Int) + (j : Int) = ((t.length - r1.length : Nat) : Int)) = False := eq_false (by omega)
              have f48 := hone () j hjn hj0
              repeat' (first | refine unhold ?_ | (simp -dsimp -implicitDefEqProofs (disch := (first | assumption | omega | (simp only [ll1, ll2, ll3, ll4, ll5, ll6, ll7, ll8]; omega))) only [go_sem, h2, hp1, c45, hg, f0, f48, flt, eq_true d1, eq_true d2, hst ()]) | refine vcI (fun _ => ?_) (fun _ => ?_) | (refine vcA ?_ ?_; focus (repeat' (first | omega | assumption | refine vcA ?_ ?_); done)) | omega | refine imp_in (fun _ => ?_))
              refine again (j + 1) ?_ ?_ rfl env_ok
              · omega
              · omega
          · obtain rfl : j = numLen r1 := by omega
            have f0 : (((t.length - r1.length : Nat) : Int) + ((numLen r1 : Nat) : Int) = ((t.length - r1.length : Nat) : Int)) = False := eq_false (by omega)
            rw [hV]
            have fv : sat V = (V : Int) := by unfold sat; omega
            have fM : ((V : Int) = 9007199254740992) = False := eq_false (by omega)
            repeat' (first | refine unhold ?_ | (simp -dsimp -implicitDefEqProofs (disch := (first | assumption | omega | (simp only [ll1, ll2, ll3, ll4, ll5, ll6, ll7, ll8]; omega))) only [go_sem, h2, hp1, c45, hg, f0, fv, fM]) | refine vcI (fun _ => ?_) (fun _ => ?_) | (refine vcA ?_ ?_; focus (repeat' (first | omega | assumption | refine vcA ?_ ?_); done)) | omega | refine imp_in (fun _ => ?_))
            all_goals first | (exact done_same ⟨by (rw [numAV, if_pos rfl, ← hend_at]) <;> first | rfl | rw [Int.zero_sub], rfl⟩) | (exfalso; apply hout () <;> first | assumption | omega)
  have hn : numP r = if peek r = 45 then numGo true (r.drop 1) else numGo false r := by
    rw [numP, skip_peek (by decide)]
    by_cases h : peek r = 45
    · rw [if_pos h, if_pos h]
    · rw [if_neg h, if_neg h]
  by_cases h45 : peek r = 45
  · rw [if_pos h45] at hn
    rw [hn]
    exact key true _ (suf_drop_n hs 1) hn (.inl ⟨by rw [h45]; rfl, rfl, rfl⟩)
  · rw [if_neg h45] at hn
    rw [hn]
    exact key false _ hs hn (.inr ⟨fun e => h45 (byte_eq (d := 45) e), rfl, rfl⟩)
end Go.Proofs.YtplmbhjhihoneaaGreatDoor
end
