/- First runes: the library's decoder, the program's and the document's. -/
import Derived.Test.YthaicajgfioogaaDoorUq
set_option linter.unusedSimpArgs false
set_option linter.unusedVariables false
namespace Go.Proofs.YthaicajgfioogaaDoor
open Go V
set_option maxRecDepth 10000
set_option maxHeartbeats 4000000
/-- The rune that bytes begin with, and its bytes' number; none: (65533, 0 or 1). -/
def decP (l : List UInt8) : Nat × Nat := if l = [] then (65533, 0) else Lib.decodeL l
def badP (l : List UInt8) : Bool := decide ((decP l).1 = 65533 ∧ (decP l).2 < 2)
def firR (l : List UInt8) : Int := if badP l = true then 0 else (decP l).1
def firN (l : List UInt8) : Int := if badP l = true then 0 else (decP l).2
def firE (l : List UInt8) : Int := if badP l = true then 2 else 0
theorem lead_cases {b : Nat} (h1 : 128 ≤ b) (h2 : b < 256) : (Lib.firstT b = 241 ∧ (b < 194 ∨ 244 < b)) ∨ (Lib.firstT b = 2 ∧ 194 ≤ b ∧ b < 224) ∨ (Lib.firstT b = 19 ∧ b = 224) ∨ (Lib.firstT b = 3 ∧ 225 ≤ b ∧ b < 240 ∧ b ≠ 237) ∨ (Lib.firstT b = 35 ∧ b = 237) ∨ (Lib.firstT b = 52 ∧ b = 240) ∨ (Lib.firstT b = 4 ∧ 241 ≤ b ∧ b < 244) ∨ (Lib.firstT b = 68 ∧ b = 244) := by
  unfold Lib.firstT
  repeat' split
  all_goals omega
theorem decP_N {l : List UInt8} (h : 1 ≤ (l.length : Int)) : decP l = Lib.decodeN l.length (l.getD 0 0).toNat (l.getD 1 0).toNat (l.getD 2 0).toNat (l.getD 3 0).toNat := by
  have : l ≠ [] := by intro e; subst e; simp at h
  rw [decP, if_neg this, Lib.decodeL_N]
theorem slow_err (b : Int) : IntKind.i32.wrap ((BitVec.ofInt IntKind.i32.bits (IntKind.i32.wrap ((BitVec.ofInt IntKind.i32.bits b &&& ~~~BitVec.ofInt IntKind.i32.bits (IntKind.i32.wrap 517543559168 / 2147483648)).toNat : Int)) ||| BitVec.ofInt IntKind.i32.bits (IntKind.i32.wrap ((BitVec.ofInt IntKind.i32.bits 65533 &&& BitVec.ofInt IntKind.i32.bits (IntKind.i32.wrap 517543559168 / 2147483648)).toNat : Int))).toNat : Int) = 65533 := by
  have e : BitVec.ofInt IntKind.i32.bits (IntKind.i32.wrap 517543559168 / 2147483648) = BitVec.allOnes 32 := by
    show BitVec.ofInt 32 (IntKind.i32.wrap 517543559168 / 2147483648) = BitVec.allOnes 32
    decide
  have e2 : (BitVec.ofInt IntKind.i32.bits b &&& ~~~BitVec.ofInt IntKind.i32.bits (IntKind.i32.wrap 517543559168 / 2147483648)) = 0#32 := by
    rw [e]
    show (BitVec.ofInt 32 b &&& ~~~BitVec.allOnes 32) = 0#32
    simp
  rw [e2]
  decide
theorem tup2_eq {k k' : IntKind} {a a' b b' : Int} (h : a = a') (h2 : b = b') : AV.tup [.lit (.int k a), .lit (.int k' b)] = .tup [.lit (.int k a'), .lit (.int k' b')] := by rw [h, h2]
theorem done_lit2' {H₀ M : List AObj} {R : AV → List AObj → Prop} {v u : Value} (hr : R (.tup [.lit v, .lit u]) H₀) : Done H₀ R (.tup [.lit v, .lit u]) (H₀ ++ M) := done_cut _ (Le.refl _) (low_tup (lowAll_cons (.lit _) (lowAll_cons (.lit _) lowAll_nil))) hr
theorem decodeSlow_c {o : Own} (l : List UInt8) (H : List AObj) (hl : l.length ≤ 10000) (hh : l = [] ∨ 128 ≤ (l.getD 0 0).toNat) : ACalls Tryd.prog 33 [.sl o 1 (l.map byteAV)] H (fun x H' => x = .tup [.int .i32 ((decP l).1 : Nat), .int .i64 ((decP l).2 : Nat)] ∧ H' = H) := by
  have b0 := (l.getD 0 0).toNat_lt
  have b1 := (l.getD 1 0).toNat_lt
  have b2 := (l.getD 2 0).toNat_lt
  have b3 := (l.getD 3 0).toNat_lt
  rcases hh with rfl | hh
  · refine acalls_vc L_ok mixed [] (rs := [.tmp 2, .tmp 3]) (n := 122) Tryd.func33 rfl rfl rfl rfl (Nat.le_of_ble_eq_true rfl) (by kernel_rfl) ?_
    repeat' (first | refine unhold ?_ | (simp -dsimp -implicitDefEqProofs (disch := (first | assumption | omega | (simp only [List.length_map, List.length_append, List.length_cons, List.length_nil, List.length_replicate, List.length_drop, List.length_take]; omega))) only [go_sem, reduceCtorEq, Nat.reducePow, Int.reducePow, Nat.reduceDiv, Nat.reduceBEq, Nat.reduceEqDiff, Nat.reduceLT, Nat.reduceLeDiff, Nat.reduceAdd, Nat.reduceSub, Nat.reduceMul, Nat.reduceMod, Int.reduceToNat, Int.reduceNeg, Int.reduceAdd, Int.reduceSub, Int.reduceMul, Int.reduceDiv, Int.reduceMod, Int.reduceLT, Int.reduceLE, Int.reduceEq, ↓reduceIte]) | (refine And.intro (fun _ => unhold ?_) (fun _ => unhold ?_)) | (refine And.intro ?_ ?_; focus (first | omega | assumption | (repeat' (first | assumption | omega | refine And.intro ?_ ?_); done))) | omega)
    exact done_same ⟨rfl, rfl⟩
  have hp : 0 < l.length := by
    rcases Nat.eq_zero_or_pos l.length with h | h
    · rw [List.eq_nil_of_length_eq_zero h] at hh; simp at hh
    · exact h
  have hN := decP_N (l := l) (by omega)
  rcases lead_cases hh (by omega) with ⟨hf, hb⟩ | ⟨hf, hb⟩ | ⟨hf, hb⟩ | ⟨hf, hb⟩ | ⟨hf, hb⟩ | ⟨hf, hb⟩ | ⟨hf, hb⟩ | ⟨hf, hb⟩
  · refine acalls_vc L_ok mixed [] (rs := [.tmp 2, .tmp 3]) (n := 122) Tryd.func33 rfl rfl rfl rfl (Nat.le_of_ble_eq_true rfl) (by kernel_rfl) ?_
    repeat' (first | refine unhold ?_ | (simp -dsimp -implicitDefEqProofs (disch := (first | assumption | omega | (simp only [List.length_map, List.length_append, List.length_cons, List.length_nil, List.length_replicate, List.length_drop, List.length_take]; omega))) only [go_sem, reduceCtorEq, Nat.reducePow, Int.reducePow, Nat.reduceDiv, Nat.reduceBEq, Nat.reduceEqDiff, Nat.reduceLT, Nat.reduceLeDiff, Nat.reduceAdd, Nat.reduceSub, Nat.reduceMul, Nat.reduceMod, Int.reduceToNat, Int.reduceNeg, Int.reduceAdd, Int.reduceSub, Int.reduceMul, Int.reduceDiv, Int.reduceMod, Int.reduceLT, Int.reduceLE, Int.reduceEq, ↓reduceIte, hf, slow_err]) | (refine And.intro (fun _ => unhold ?_) (fun _ => unhold ?_)) | (refine And.intro ?_ ?_; focus (first | omega | assumption | (repeat' (first | assumption | omega | refine And.intro ?_ ?_); done))) | omega)
    refine done_same ⟨tup2_eq ?_ ?_, rfl⟩ <;>
      (rw [hN, Lib.decodeN, if_neg (by omega)]; repeat' split) <;> first | rfl | omega
  all_goals
    refine acalls_vc L_ok mixed [] (rs := [.tmp 2, .tmp 3]) (n := 122) Tryd.func33 rfl rfl rfl rfl (Nat.le_of_ble_eq_true rfl) (by kernel_rfl) ?_
    repeat' (first | refine unhold ?_ | (simp -dsimp -implicitDefEqProofs (disch := (first | assumption | omega | (simp only [List.length_map, List.length_append, List.length_cons, List.length_nil, List.length_replicate, List.length_drop, List.length_take]; omega))) only [go_sem, reduceCtorEq, Nat.reducePow, Int.reducePow, Nat.reduceDiv, Nat.reduceBEq, Nat.reduceEqDiff, Nat.reduceLT, Nat.reduceLeDiff, Nat.reduceAdd, Nat.reduceSub, Nat.reduceMul, Nat.reduceMod, Int.reduceToNat, Int.reduceNeg, Int.reduceAdd, Int.reduceSub, Int.reduceMul, Int.reduceDiv, Int.reduceMod, Int.reduceLT, Int.reduceLE, Int.reduceEq, ↓reduceIte, hf]) | (refine And.intro (fun _ => unhold ?_) (fun _ => unhold ?_)) | (refine And.intro ?_ ?_; focus (first | omega | assumption | (repeat' (first | assumption | omega | refine And.intro ?_ ?_); done))) | omega)
    all_goals
      refine done_lit2' ⟨tup2_eq ?_ ?_, rfl⟩ <;> (rw [hN, Lib.decodeN, if_neg (by omega)]; repeat' split) <;> first | rfl | omega
end Go.Proofs.YthaicajgfioogaaDoor
