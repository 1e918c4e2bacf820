/- The plain law of decoding: right bytes one behind the other. No program in sight. -/
import Derived.Lib.ValidLaws
import Derived.Lib.MapLaws
set_option linter.unusedSimpArgs false
set_option linter.unusedVariables false
namespace Go.Proofs.YthaicajgfioogaaDoor
open Go
theorem decodeN_mono {n n' b0 b1 b2 b3 c1 c2 c3 : Nat} (h : n ≤ n') (e1 : 1 < n → c1 = b1) (e2 : 2 < n → c2 = b2) (e3 : 3 < n → c3 = b3) (hg : ¬ ((Lib.decodeN n b0 b1 b2 b3).1 = 65533 ∧ (Lib.decodeN n b0 b1 b2 b3).2 = 1)) :
    Lib.decodeN n' b0 c1 c2 c3 = Lib.decodeN n b0 b1 b2 b3 := by
  unfold Lib.decodeN at hg ⊢
  by_cases h0 : b0 < 128
  · rw [if_pos h0, if_pos h0]
  rw [if_neg h0] at hg ⊢
  rw [if_neg h0]
  by_cases hA : b0 / 32 = 6 ∧ (1 < n ∧ b1 / 64 = 2)
  · obtain rfl := e1 hA.2.1
    rw [if_pos (show b0 / 32 = 6 ∧ (1 < n' ∧ c1 / 64 = 2) from ⟨hA.1, by omega, hA.2.2⟩), if_pos hA]
  rw [if_neg hA] at hg ⊢
  by_cases hB : b0 / 16 = 14 ∧ (1 < n ∧ b1 / 64 = 2) ∧ (2 < n ∧ b2 / 64 = 2)
  · obtain rfl := e1 hB.2.1.1
    obtain rfl := e2 hB.2.2.1
    rw [if_neg (show ¬ (b0 / 32 = 6 ∧ (1 < n' ∧ c1 / 64 = 2)) by omega), if_pos (show b0 / 16 = 14 ∧ (1 < n' ∧ c1 / 64 = 2) ∧ (2 < n' ∧ c2 / 64 = 2) by omega), if_pos hB]
  rw [if_neg hB] at hg ⊢
  by_cases hC : b0 / 8 = 30 ∧ (1 < n ∧ b1 / 64 = 2) ∧ (2 < n ∧ b2 / 64 = 2) ∧ (3 < n ∧ b3 / 64 = 2)
  · obtain rfl := e1 hC.2.1.1
    obtain rfl := e2 hC.2.2.1.1
    obtain rfl := e3 hC.2.2.2.1
    rw [if_neg (show ¬ (b0 / 32 = 6 ∧ (1 < n' ∧ c1 / 64 = 2)) by omega), if_neg (show ¬ (b0 / 16 = 14 ∧ (1 < n' ∧ c1 / 64 = 2) ∧ (2 < n' ∧ c2 / 64 = 2)) by omega), if_pos (show b0 / 8 = 30 ∧ (1 < n' ∧ c1 / 64 = 2) ∧ (2 < n' ∧ c2 / 64 = 2) ∧ (3 < n' ∧ c3 / 64 = 2) by omega), if_pos hC]
  rw [if_neg hC] at hg
  exact absurd ⟨rfl, rfl⟩ hg
theorem getD_app {l m : List UInt8} {i : Nat} (h : i < l.length) : (l ++ m).getD i 0 = l.getD i 0 := by
  rw [List.getD, List.getD, List.getElem?_append_left h]
/-- A right head stays what it is, whatever comes behind. -/
theorem decodeL_app {l : List UInt8} (hl : l ≠ []) (hg : ¬ ((Lib.decodeL l).1 = 65533 ∧ (Lib.decodeL l).2 = 1)) (m : List UInt8) : Lib.decodeL (l ++ m) = Lib.decodeL l := by
  rw [Lib.decodeL_N] at hg
  rw [Lib.decodeL_N, Lib.decodeL_N, getD_app (List.length_pos_iff.2 hl)]
  exact decodeN_mono (by simp) (fun h => by rw [getD_app h]) (fun h => by rw [getD_app h]) (fun h => by rw [getD_app h]) hg
/-- Runes, with fuel. -/
def runesGo : Nat → List UInt8 → List Int
  | 0, _ => []
  | n + 1, l => if l = [] then [] else ((Lib.decodeL l).1 : Int) :: runesGo n (l.drop (Lib.decodeL l).2)
/-- The runes of bytes. -/
def runesOf (l : List UInt8) : List Int := runesGo l.length l
theorem runesGo_fuel : ∀ (n m : Nat) (l : List UInt8), l.length ≤ n → l.length ≤ m → runesGo n l = runesGo m l
  | 0, 0, _, _, _ => rfl
  | 0, m + 1, l, h, _ => by
    have : l = [] := List.eq_nil_of_length_eq_zero (by omega)
    subst this
    simp [runesGo]
  | n + 1, 0, l, _, h => by
    have : l = [] := List.eq_nil_of_length_eq_zero (by omega)
    subst this
    simp [runesGo]
  | n + 1, m + 1, l, h1, h2 => by
    unfold runesGo
    by_cases e : l = []
    · rw [if_pos e, if_pos e]
    · rw [if_neg e, if_neg e]
      have hw := Lib.decodeL_width l
      have hp := List.length_pos_iff.2 e
      rw [runesGo_fuel n m _ (by rw [List.length_drop]; omega) (by rw [List.length_drop]; omega)]
theorem runesOf_nil : runesOf [] = [] := rfl
theorem runesOf_step {l : List UInt8} (h : l ≠ []) : runesOf l = ((Lib.decodeL l).1 : Int) :: runesOf (l.drop (Lib.decodeL l).2) := by
  have hp := List.length_pos_iff.2 h
  have hw := Lib.decodeL_width l
  unfold runesOf
  obtain ⟨k, hk⟩ : ∃ k, l.length = k + 1 := ⟨l.length - 1, by omega⟩
  rw [hk, runesGo, if_neg h, runesGo_fuel k (l.drop (Lib.decodeL l).2).length _ (by rw [List.length_drop]; omega) (Nat.le_refl _)]
theorem valid_app : ∀ (n : Nat) (a b : List UInt8), a.length ≤ n → Lib.validD a = true → Lib.validD (a ++ b) = Lib.validD b ∧ runesOf (a ++ b) = runesOf a ++ runesOf b
  | n, [], b, _, _ => ⟨rfl, rfl⟩
  | 0, x :: a, b, h, _ => by simp at h
  | n + 1, x :: a, b, h, hv => by
    have hne : x :: a ≠ [] := by simp
    rw [Lib.validD_step _ hne] at hv
    split at hv
    · cases hv
    · rename_i hg
      have hd := decodeL_app hne hg b
      have hw := Lib.decodeL_width (x :: a)
      have hle := Lib.decodeL_le (x :: a) hne
      have hdrop : ((x :: a) ++ b).drop (Lib.decodeL (x :: a)).2 = (x :: a).drop (Lib.decodeL (x :: a)).2 ++ b := List.drop_append_of_le_length hle
      obtain ⟨i1, i2⟩ := valid_app n ((x :: a).drop (Lib.decodeL (x :: a)).2) b (by rw [List.length_drop]; omega) hv
      have hne' : (x :: a) ++ b ≠ [] := by simp
      constructor
      · rw [Lib.validD_step _ hne', hd, if_neg hg, hdrop, i1]
      · rw [runesOf_step hne', runesOf_step hne, hd, hdrop, i2, List.cons_append]
end Go.Proofs.YthaicajgfioogaaDoor
