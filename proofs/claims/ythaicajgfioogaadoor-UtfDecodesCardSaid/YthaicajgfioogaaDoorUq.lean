/- What is encoded is decoded as it was, and back. No program in sight. -/
import Derived.Test.YthaicajgfioogaaDoorU3
import Derived.Test.YthaicajgfioogaaDoorU6
set_option linter.unusedSimpArgs false
set_option linter.unusedVariables false
namespace Go.Proofs.YthaicajgfioogaaDoor
open Go
theorem byteOf_n {i : Int} (h : 0 ≤ i ∧ i < 256) : (byteOf i).toNat = i.toNat := by have := byteOf_nat h; omega
theorem byteOf_eq {i : Int} {b : UInt8} (h : i = (b.toNat : Int)) : byteOf i = b := by
  subst h
  unfold byteOf
  rw [Int.toNat_natCast]
  simp
/-- The bytes of a rune are read as that rune. -/
theorem dec_enc1 {r : Int} (hr : isRune r = true) (m : List UInt8) : Lib.decodeL (enc1 r ++ m) = (r.toNat, (enc1 r).length) := by
  have hr' := of_decide_eq_true hr
  rw [Lib.decodeL_N]
  rcases Int.lt_or_le r 128 with h | h
  · rw [one_c1 h]
    simp only [List.cons_append, List.nil_append, List.getD_cons_zero, List.length_cons, List.length_nil]
    rw [byteOf_n (by omega), Lib.decodeN, if_pos (by omega)]
  rcases Int.lt_or_le r 2048 with h2 | h2
  · rw [one_c2 h h2]
    simp only [List.cons_append, List.nil_append, List.getD_cons_zero, List.getD_cons_succ, List.length_cons, List.length_nil]
    rw [byteOf_n (by omega), byteOf_n (by omega), Lib.decodeN, if_neg (by omega), if_pos (by omega), if_pos (by omega)]
    congr 1
    omega
  rcases Int.lt_or_le r 65536 with h3 | h3
  · rw [one_c3 h2 h3]
    simp only [List.cons_append, List.nil_append, List.getD_cons_zero, List.getD_cons_succ, List.length_cons, List.length_nil]
    rw [byteOf_n (by omega), byteOf_n (by omega), byteOf_n (by omega), Lib.decodeN, if_neg (by omega), if_neg (by omega), if_pos (by omega), if_pos (by omega)]
    congr 1
    omega
  · rw [one_c4 h3]
    simp only [List.cons_append, List.nil_append, List.getD_cons_zero, List.getD_cons_succ, List.length_cons, List.length_nil]
    rw [byteOf_n (by omega), byteOf_n (by omega), byteOf_n (by omega), byteOf_n (by omega), Lib.decodeN, if_neg (by omega), if_neg (by omega), if_neg (by omega), if_pos (by omega), if_pos (by omega)]
    congr 1
    omega
theorem take1 {l : List UInt8} (h : 0 < l.length) : l.take 1 = [l.getD 0 0] := by
  match l, h with
  | a :: r, _ => rfl
theorem take2 {l : List UInt8} (h : 1 < l.length) : l.take 2 = [l.getD 0 0, l.getD 1 0] := by
  match l, h with
  | a :: b :: r, _ => rfl
theorem take3 {l : List UInt8} (h : 2 < l.length) : l.take 3 = [l.getD 0 0, l.getD 1 0, l.getD 2 0] := by
  match l, h with
  | a :: b :: c :: r, _ => rfl
theorem take4 {l : List UInt8} (h : 3 < l.length) : l.take 4 = [l.getD 0 0, l.getD 1 0, l.getD 2 0, l.getD 3 0] := by
  match l, h with
  | a :: b :: c :: d :: r, _ => rfl
/-- What is read as a rune are the rune's bytes. -/
theorem enc_dec1 {l : List UInt8} (hl : l ≠ []) (hg : ¬ ((Lib.decodeL l).1 = 65533 ∧ (Lib.decodeL l).2 = 1)) : isRune ((Lib.decodeL l).1 : Int) = true ∧ enc1 ((Lib.decodeL l).1 : Int) = l.take (Lib.decodeL l).2 ∧ (Lib.decodeL l).2 ≤ 4 := by
  have hp := List.length_pos_iff.2 hl
  have b0 := (l.getD 0 0).toNat_lt
  have b1 := (l.getD 1 0).toNat_lt
  have b2 := (l.getD 2 0).toNat_lt
  have b3 := (l.getD 3 0).toNat_lt
  rw [Lib.decodeL_N] at hg ⊢
  unfold Lib.decodeN at hg ⊢
  split
  · rename_i h
    simp only
    refine ⟨decide_eq_true (by omega), ?_, by omega⟩
    rw [one_c1 (by omega), take1 hp]
    congr 1
    exact byteOf_eq (by omega)
  rename_i h0
  rw [if_neg h0] at hg
  split
  · rename_i h
    rw [if_pos h] at hg
    split
    · rename_i h2
      simp only
      refine ⟨decide_eq_true (by omega), ?_, by omega⟩
      rw [one_c2 (by omega) (by omega), take2 (by omega)]
      congr 1
      · exact byteOf_eq (by omega)
      · congr 1; exact byteOf_eq (by omega)
    · rename_i h2
      rw [if_neg h2] at hg
      exact absurd ⟨rfl, rfl⟩ hg
  rename_i h1
  rw [if_neg h1] at hg
  split
  · rename_i h
    rw [if_pos h] at hg
    split
    · rename_i h2
      simp only
      refine ⟨decide_eq_true (by omega), ?_, by omega⟩
      rw [one_c3 (by omega) (by omega), take3 (by omega)]
      congr 1
      · exact byteOf_eq (by omega)
      congr 1
      · exact byteOf_eq (by omega)
      · congr 1; exact byteOf_eq (by omega)
    · rename_i h2
      rw [if_neg h2] at hg
      exact absurd ⟨rfl, rfl⟩ hg
  rename_i h2
  rw [if_neg h2] at hg
  split
  · rename_i h
    rw [if_pos h] at hg
    split
    · rename_i h3
      simp only
      refine ⟨decide_eq_true (by omega), ?_, by omega⟩
      rw [one_c4 (by omega), take4 (by omega)]
      congr 1
      · exact byteOf_eq (by omega)
      congr 1
      · exact byteOf_eq (by omega)
      congr 1
      · exact byteOf_eq (by omega)
      · congr 1; exact byteOf_eq (by omega)
    · rename_i h3
      rw [if_neg h3] at hg
      exact absurd ⟨rfl, rfl⟩ hg
  · rename_i h3
    rw [if_neg h3] at hg
    exact absurd ⟨rfl, rfl⟩ hg
theorem enc1_ne (r : Int) : enc1 r ≠ [] := by
  unfold enc1
  repeat' split
  all_goals simp
theorem dec_enc : ∀ (l : List Int), encOk l = true → Lib.validD (encL l) = true ∧ runesOf (encL l) = l
  | [], _ => ⟨rfl, rfl⟩
  | r :: l, h => by
    simp only [encOk, List.all_cons, Bool.and_eq_true] at h
    obtain ⟨h1, h2⟩ := dec_enc l h.2
    have e : encL (r :: l) = enc1 r ++ encL l := rfl
    have hne : enc1 r ++ encL l ≠ [] := by simp [enc1_ne]
    have hd := dec_enc1 h.1 (encL l)
    have hr' := of_decide_eq_true h.1
    rw [e]
    constructor
    · rw [Lib.validD_step _ hne, hd, if_neg ?_]
      · rw [List.drop_left]; exact h1
      · simp only
        intro ⟨h3, h4⟩
        have : r = 65533 := by omega
        subst this
        revert h4
        decide
    · rw [runesOf_step hne, hd]
      simp only
      rw [List.drop_left, h2, Int.toNat_of_nonneg (by omega)]
theorem enc_dec : ∀ (n : Nat) (b : List UInt8), b.length ≤ n → Lib.validD b = true → encOk (runesOf b) = true ∧ encL (runesOf b) = b
  | _, [], _, _ => ⟨rfl, rfl⟩
  | 0, _ :: _, h, _ => by simp at h
  | n + 1, x :: b, h, hv => by
    have hne : x :: b ≠ [] := by simp
    rw [Lib.validD_step _ hne] at hv
    split at hv
    · cases hv
    · rename_i hg
      obtain ⟨h1, h2, h3⟩ := enc_dec1 hne hg
      have hw := Lib.decodeL_width (x :: b)
      obtain ⟨i1, i2⟩ := enc_dec n ((x :: b).drop (Lib.decodeL (x :: b)).2) (by rw [List.length_drop]; simp only [List.length_cons] at h ⊢; omega) hv
      rw [runesOf_step hne]
      constructor
      · unfold encOk at i1 ⊢
        rw [List.all_cons, h1, i1]; rfl
      · show enc1 _ ++ encL _ = _
        rw [i2, h2, List.take_append_drop]
theorem back_enc {l : List Int} (h : encE l = 0) : decE (encR l) = 0 ∧ decR (encR l) = l := by
  have hk : encOk l = true := by
    unfold encE at h
    split at h
    · assumption
    · cases h
  obtain ⟨h1, h2⟩ := dec_enc l hk
  rw [(encRE_ok hk).1]
  unfold decE decR
  rw [if_pos h1, if_pos h1]
  exact ⟨rfl, h2⟩
theorem back_dec {b : List UInt8} (h : decE b = 0) : encE (decR b) = 0 ∧ encR (decR b) = b := by
  have hv := decE_ok h
  obtain ⟨h1, h2⟩ := enc_dec b.length b (Nat.le_refl _) hv
  have e : decR b = runesOf b := if_pos hv
  rw [e, (encRE_ok h1).1, (encRE_ok h1).2]
  exact ⟨rfl, h2⟩
end Go.Proofs.YthaicajgfioogaaDoor
