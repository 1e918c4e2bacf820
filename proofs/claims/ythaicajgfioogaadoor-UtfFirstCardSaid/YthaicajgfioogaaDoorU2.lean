import Derived.Test.YthaicajgfioogaaDoorU1
import Derived.Test.YthaicajgfioogaaDoorVp
import Derived.Lib.ValidAsc
import Derived.Lib.EndianMore
set_option linter.unusedSimpArgs false
set_option linter.unusedVariables false
namespace Go.Proofs.YthaicajgfioogaaDoor
open Go V
set_option maxRecDepth 10000
set_option maxHeartbeats 4000000
theorem le_step {xs ys : List UInt8} {b : UInt8} {k : Nat} {c : Int} (hy : xs ++ [b] = ys) (hc : c = 2 ^ k) (hx : 8 * xs.length = k) (hk : k ≤ 56) : IntKind.u64.wrap ((BitVec.ofInt IntKind.u64.bits ((Lib.leNat xs : Nat) : Int) ||| BitVec.ofInt IntKind.u64.bits (IntKind.u64.wrap ((b.toNat : Int) * c))).toNat : Int) = ((Lib.leNat ys : Nat) : Int) := by
  subst hy
  subst hc
  have hb := b.toNat_lt
  have hlt : Lib.leNat xs < 2 ^ k := by
    have := Lib.leNat_lt xs
    rwa [show (256 : Nat) = 2 ^ 8 from rfl, ← Nat.pow_mul, hx] at this
  have hp : (2 : Nat) ^ k ≤ 2 ^ 56 := Nat.pow_le_pow_right (by omega) hk
  have h1 : b.toNat * 2 ^ k < 2 ^ 64 := by
    have : b.toNat * 2 ^ k ≤ 255 * 2 ^ 56 := Nat.mul_le_mul (by omega) hp
    omega
  have h2 : (b.toNat : Int) * 2 ^ k = ((b.toNat * 2 ^ k : Nat) : Int) := by simp
  rw [h2, wrap_nat_u64 h1, or_u64 (by omega) h1, Lib.leNat_append, show (256 : Nat) = 2 ^ 8 from rfl, ← Nat.pow_mul, hx]
  congr 1
  have := Nat.two_pow_add_eq_or_of_lt hlt b.toNat
  rw [Nat.or_comm, Nat.mul_comm, ← this]
  simp [Lib.leNat]
  omega
theorem leNat_one (b : UInt8) : (b.toNat : Int) = ((Lib.leNat [b] : Nat) : Int) := by simp [Lib.leNat]
theorem take8' {l : List UInt8} (h : 8 ≤ l.length) : l.take 8 = [l.getD 0 0, l.getD 1 0, l.getD 2 0, l.getD 3 0, l.getD 4 0, l.getD 5 0, l.getD 6 0, l.getD 7 0] := by
  match l, h with
  | a0 :: a1 :: a2 :: a3 :: a4 :: a5 :: a6 :: a7 :: r, _ => simp
theorem word_c {o : Own} (l : List UInt8) (H : List AObj) (hl : 8 ≤ l.length) : ACalls Tryd.prog 35 [.sl o 1 (l.map byteAV)] H (fun x H' => x = .int .u64 (Lib.leNat (l.take 8)) ∧ H' = H) := by
  refine acalls_vc L_ok mixed [] (rs := [.tmp 2]) (n := 71) Tryd.func35 rfl rfl rfl rfl (Nat.le_of_ble_eq_true rfl) (by kernel_rfl) ?_
  repeat' (first | refine unhold ?_ | (simp -dsimp -implicitDefEqProofs (disch := (first | assumption | omega | (simp only [List.length_map, List.length_append, List.length_cons, List.length_nil, List.length_replicate, List.length_drop, List.length_take]; omega))) only [go_sem, reduceCtorEq, Nat.reducePow, Int.reducePow, Nat.reduceDiv, Nat.reduceBEq, Nat.reduceEqDiff, Nat.reduceLT, Nat.reduceLeDiff, Nat.reduceAdd, Nat.reduceSub, Nat.reduceMul, Nat.reduceMod, Int.reduceToNat, Int.reduceNeg, Int.reduceAdd, Int.reduceSub, Int.reduceMul, Int.reduceDiv, Int.reduceMod, Int.reduceLT, Int.reduceLE, Int.reduceEq, ↓reduceIte]) | (refine And.intro (fun _ => unhold ?_) (fun _ => unhold ?_)) | (refine And.intro ?_ ?_; focus (first | omega | assumption | (repeat' (first | assumption | omega | refine And.intro ?_ ?_); done))) | omega)
  refine done_same ⟨?_, rfl⟩
  rw [leNat_one (l.getD 0 0), le_step (xs := [l.getD 0 0]) (ys := [l.getD 0 0, l.getD 1 0]) (b := l.getD 1 0) (k := 8) (c := 256) rfl (by decide) rfl (by decide), le_step (xs := [l.getD 0 0, l.getD 1 0]) (ys := [l.getD 0 0, l.getD 1 0, l.getD 2 0]) (b := l.getD 2 0) (k := 16) (c := 65536) rfl (by decide) rfl (by decide), le_step (xs := [l.getD 0 0, l.getD 1 0, l.getD 2 0]) (ys := [l.getD 0 0, l.getD 1 0, l.getD 2 0, l.getD 3 0]) (b := l.getD 3 0) (k := 24) (c := 16777216) rfl (by decide) rfl (by decide), le_step (xs := [l.getD 0 0, l.getD 1 0, l.getD 2 0, l.getD 3 0]) (ys := [l.getD 0 0, l.getD 1 0, l.getD 2 0, l.getD 3 0, l.getD 4 0]) (b := l.getD 4 0) (k := 32) (c := 4294967296) rfl (by decide) rfl (by decide), le_step (xs := [l.getD 0 0, l.getD 1 0, l.getD 2 0, l.getD 3 0, l.getD 4 0]) (ys := [l.getD 0 0, l.getD 1 0, l.getD 2 0, l.getD 3 0, l.getD 4 0, l.getD 5 0]) (b := l.getD 5 0) (k := 40) (c := 1099511627776) rfl (by decide) rfl (by decide), le_step (xs := [l.getD 0 0, l.getD 1 0, l.getD 2 0, l.getD 3 0, l.getD 4 0, l.getD 5 0]) (ys := [l.getD 0 0, l.getD 1 0, l.getD 2 0, l.getD 3 0, l.getD 4 0, l.getD 5 0, l.getD 6 0]) (b := l.getD 6 0) (k := 48) (c := 281474976710656) rfl (by decide) rfl (by decide), le_step (xs := [l.getD 0 0, l.getD 1 0, l.getD 2 0, l.getD 3 0, l.getD 4 0, l.getD 5 0, l.getD 6 0]) (ys := [l.getD 0 0, l.getD 1 0, l.getD 2 0, l.getD 3 0, l.getD 4 0, l.getD 5 0, l.getD 6 0, l.getD 7 0]) (b := l.getD 7 0) (k := 56) (c := 72057594037927936) rfl (by decide) rfl (by decide), take8' hl]
theorem and7 {x : Nat} (h : x < 256) : IntKind.u8.wrap ((BitVec.ofInt IntKind.u8.bits (x : Int) &&& BitVec.ofInt IntKind.u8.bits 7).toNat : Int) = ((x % 8 : Nat) : Int) := by
  show IntKind.u8.wrap ((BitVec.ofInt 8 (x : Int) &&& BitVec.ofInt 8 ((7 : Nat) : Int)).toNat : Int) = _
  rw [bv_and (by omega) (by decide), show (7 : Nat) = 2 ^ 3 - 1 from rfl, Nat.and_two_pow_sub_one_eq_mod, wrap_nat_u8 (by omega)]
theorem firstT_lt (n : Nat) : Lib.firstT n < 256 := by unfold Lib.firstT; (repeat' split) <;> omega
theorem and7_first (n : Nat) : IntKind.u8.wrap ((BitVec.ofInt IntKind.u8.bits ((Lib.firstT n : Nat) : Int) &&& BitVec.ofInt IntKind.u8.bits 7).toNat : Int) = ((Lib.firstT n % 8 : Nat) : Int) := and7 (firstT_lt n)
theorem first_div (n : Nat) : (Lib.firstT n / 16 < 16) = True := eq_true (by have := firstT_lt n; omega)
theorem first_div' (n : Nat) : (((Lib.firstT n / 16 : Nat) : Int) < 16) = True := eq_true (by have := firstT_lt n; omega)
theorem accept_first (n : Nat) : (acceptAV.drop (Lib.firstT n / 16 * 2)).take 2 = [.lit (.int .u8 (Lib.accLo (Lib.firstT n / 16))), .lit (.int .u8 (Lib.accHi (Lib.firstT n / 16)))] := accept_at (by have := firstT_lt n; omega)
theorem lead_false {m : List UInt8} (h0 : 0 < (m.length : Int)) (h1 : 128 ≤ ((m.getD 0 0).toNat : Int)) (h : (Lib.firstT (m.getD 0 0).toNat % 8 = 2 ∧ (m.length < 2 ∨ (m.getD 1 0).toNat < Lib.accLo (Lib.firstT (m.getD 0 0).toNat / 16) ∨ Lib.accHi (Lib.firstT (m.getD 0 0).toNat / 16) < (m.getD 1 0).toNat)) ∨
    (Lib.firstT (m.getD 0 0).toNat % 8 = 3 ∧ (m.length < 3 ∨ (m.getD 1 0).toNat < Lib.accLo (Lib.firstT (m.getD 0 0).toNat / 16) ∨ Lib.accHi (Lib.firstT (m.getD 0 0).toNat / 16) < (m.getD 1 0).toNat ∨ (m.getD 2 0).toNat < 128 ∨ 191 < (m.getD 2 0).toNat)) ∨
    (Lib.firstT (m.getD 0 0).toNat % 8 = 4 ∧ (m.length < 4 ∨ (m.getD 1 0).toNat < Lib.accLo (Lib.firstT (m.getD 0 0).toNat / 16) ∨ Lib.accHi (Lib.firstT (m.getD 0 0).toNat / 16) < (m.getD 1 0).toNat ∨ (m.getD 2 0).toNat < 128 ∨ 191 < (m.getD 2 0).toNat ∨ (m.getD 3 0).toNat < 128 ∨ 191 < (m.getD 3 0).toNat)) ∨
    (Lib.firstT (m.getD 0 0).toNat % 8 ≠ 2 ∧ Lib.firstT (m.getD 0 0).toNat % 8 ≠ 3 ∧ Lib.firstT (m.getD 0 0).toNat % 8 ≠ 4)) : Lib.validD m = false := by
  rw [Lib.validD_lead m (List.length_pos_iff.1 (by omega)) (by omega), Lib.checkN]
  rcases h with ⟨h, h'⟩ | ⟨h, h'⟩ | ⟨h, h'⟩ | ⟨h, h', h''⟩
  · rw [if_pos h, if_pos h']
  · rw [if_neg (by omega), if_pos h, if_pos h']
  · rw [if_neg (by omega), if_neg (by omega), if_pos h, if_pos h']
  · rw [if_neg h, if_neg h', if_neg h'']
theorem lead_some {m : List UInt8} {k : Nat} (hk : k = Lib.firstT (m.getD 0 0).toNat % 8) (h0 : k ≤ m.length) (h1 : 128 ≤ ((m.getD 0 0).toNat : Int)) (h2 : Lib.accLo (Lib.firstT (m.getD 0 0).toNat / 16) ≤ (m.getD 1 0).toNat) (h3 : (m.getD 1 0).toNat ≤ Lib.accHi (Lib.firstT (m.getD 0 0).toNat / 16))
    (h : k = 2 ∨ (k = 3 ∧ 128 ≤ (m.getD 2 0).toNat ∧ (m.getD 2 0).toNat ≤ 191) ∨ (k = 4 ∧ 128 ≤ (m.getD 2 0).toNat ∧ (m.getD 2 0).toNat ≤ 191 ∧ 128 ≤ (m.getD 3 0).toNat ∧ (m.getD 3 0).toNat ≤ 191)) : Lib.validD (m.drop k) = Lib.validD m := by
  rw [Lib.validD_lead m (List.length_pos_iff.1 (by omega)) (by omega), Lib.checkN]
  rcases h with h | ⟨h, h'⟩ | ⟨h, h'⟩
  · rw [if_pos (by omega), if_neg (by omega), h]
  · rw [if_neg (by omega), if_pos (by omega), if_neg (by omega), h]
  · rw [if_neg (by omega), if_neg (by omega), if_pos (by omega), if_neg (by omega), h]
theorem skip {m : List UInt8} {n k : Nat} (h : ∀ b ∈ (m.drop n).take k, b.toNat < 128) {x : Bool} (hx : Lib.validD (m.drop n) = x) : Lib.validD (m.drop (n + k)) = x := by
  rw [← hx, Lib.validD_ascii k _ h, List.drop_drop]
theorem skip1 {m : List UInt8} (h0 : 0 < (m.length : Int)) (h : ((m.getD 0 0).toNat : Int) < 128) {x : Bool} (hx : Lib.validD m = x) : Lib.validD (m.drop 1) = x := by
  refine skip (n := 0) (k := 1) ?_ hx
  match m, h0, h with
  | a :: r, _, h =>
    intro b hb
    simp at hb
    subst hb
    simp at h
    omega
theorem lt8 (w : List UInt8) : Lib.leNat (w.take 8) < 2 ^ 64 := by
  have h1 := Lib.leNat_lt (w.take 8)
  have h2 : (w.take 8).length ≤ 8 := List.length_take_le ..
  exact Nat.lt_of_lt_of_le h1 (show 256 ^ (w.take 8).length ≤ 256 ^ 8 from Nat.pow_le_pow_right (by omega) h2)
theorem mask_zero {x : Nat} (hx : x < 2 ^ 64) (h : IntKind.u64.wrap ((BitVec.ofInt IntKind.u64.bits (x : Int) &&& BitVec.ofInt IntKind.u64.bits 9259542123273814144).toNat : Int) = 0) : x &&& Lib.maskN 8 = 0 := by
  have e : (9259542123273814144 : Int) = ((9259542123273814144 : Nat) : Int) := rfl
  rw [e, and_u64 hx (by decide)] at h
  rw [Lib.maskN8]
  omega
theorem asc_of {w : List UInt8} (hw : 8 ≤ w.length) (h : Lib.leNat (w.take 8) &&& Lib.maskN 8 = 0) : ∀ b ∈ w.take 8, b.toNat < 128 := by
  refine (Lib.leNat_mask (w.take 8)).1 ?_
  rwa [show (w.take 8).length = 8 by rw [List.length_take]; omega]
theorem asc1 {w : List UInt8} (hw : 8 ≤ w.length) (h : IntKind.u64.wrap ((BitVec.ofInt IntKind.u64.bits ((Lib.leNat (w.take 8) : Nat) : Int) &&& BitVec.ofInt IntKind.u64.bits 9259542123273814144).toNat : Int) = 0) : ∀ b ∈ w.take 8, b.toNat < 128 :=
  asc_of hw (mask_zero (lt8 w) h)
theorem asc2 {w v : List UInt8} (hw : 8 ≤ w.length) (hv : 8 ≤ v.length) (h : IntKind.u64.wrap ((BitVec.ofInt IntKind.u64.bits (IntKind.u64.wrap ((BitVec.ofInt IntKind.u64.bits ((Lib.leNat (w.take 8) : Nat) : Int) ||| BitVec.ofInt IntKind.u64.bits ((Lib.leNat (v.take 8) : Nat) : Int)).toNat : Int)) &&& BitVec.ofInt IntKind.u64.bits 9259542123273814144).toNat : Int) = 0) :
    (∀ b ∈ w.take 8, b.toNat < 128) ∧ (∀ b ∈ v.take 8, b.toNat < 128) := by
  rw [or_u64 (lt8 w) (lt8 v)] at h
  have := mask_zero (Nat.or_lt_two_pow (lt8 w) (lt8 v)) h
  rw [Lib.or_mask] at this
  exact ⟨asc_of hw this.1, asc_of hv this.2⟩
theorem asc4 {w v u t : List UInt8} (hw : 8 ≤ w.length) (hv : 8 ≤ v.length) (hu : 8 ≤ u.length) (ht : 8 ≤ t.length) (h : IntKind.u64.wrap ((BitVec.ofInt IntKind.u64.bits (IntKind.u64.wrap ((BitVec.ofInt IntKind.u64.bits (IntKind.u64.wrap ((BitVec.ofInt IntKind.u64.bits ((Lib.leNat (w.take 8) : Nat) : Int) ||| BitVec.ofInt IntKind.u64.bits ((Lib.leNat (v.take 8) : Nat) : Int)).toNat : Int)) ||| BitVec.ofInt IntKind.u64.bits (IntKind.u64.wrap ((BitVec.ofInt IntKind.u64.bits ((Lib.leNat (u.take 8) : Nat) : Int) ||| BitVec.ofInt IntKind.u64.bits ((Lib.leNat (t.take 8) : Nat) : Int)).toNat : Int))).toNat : Int)) &&& BitVec.ofInt IntKind.u64.bits 9259542123273814144).toNat : Int) = 0) :
    (∀ b ∈ w.take 8, b.toNat < 128) ∧ (∀ b ∈ v.take 8, b.toNat < 128) ∧ (∀ b ∈ u.take 8, b.toNat < 128) ∧ (∀ b ∈ t.take 8, b.toNat < 128) := by
  have l1 := Nat.or_lt_two_pow (lt8 w) (lt8 v)
  have l2 := Nat.or_lt_two_pow (lt8 u) (lt8 t)
  rw [or_u64 (lt8 w) (lt8 v), or_u64 (lt8 u) (lt8 t), or_u64 l1 l2] at h
  have := mask_zero (Nat.or_lt_two_pow l1 l2) h
  rw [Lib.or_mask, Lib.or_mask, Lib.or_mask] at this
  exact ⟨asc_of hw this.1.1, asc_of hv this.1.2, asc_of hu this.2.1, asc_of ht this.2.2⟩
theorem Valid_c {o : Own} (l : List UInt8) (H : List AObj) (hl : l.length ≤ 10000) : ACalls Tryd.prog 31 [.sl o 1 (l.map byteAV)] H (fun x H' => x = .bool (Lib.validD l) ∧ H' = H) := by
  refine acalls_vc L_ok mixed [1000008, 1000010] (rs := [.tmp 2]) (n := 188) Tryd.func31 rfl rfl rfl rfl (Nat.le_of_ble_eq_true rfl) (by kernel_rfl) ?_
  repeat' (first | refine unhold ?_ | (simp -dsimp -implicitDefEqProofs (disch := (first | assumption | omega | (simp only [List.length_map, List.length_append, List.length_cons, List.length_nil, List.length_replicate, List.length_drop, List.length_take]; omega))) only [go_sem, reduceCtorEq, Nat.reducePow, Int.reducePow, Nat.reduceDiv, Nat.reduceBEq, Nat.reduceEqDiff, Nat.reduceLT, Nat.reduceLeDiff, Nat.reduceAdd, Nat.reduceSub, Nat.reduceMul, Nat.reduceMod, Int.reduceToNat, Int.reduceNeg, Int.reduceAdd, Int.reduceSub, Int.reduceMul, Int.reduceDiv, Int.reduceMod, Int.reduceLT, Int.reduceLE, Int.reduceEq, ↓reduceIte]) | (refine And.intro (fun _ => unhold ?_) (fun _ => unhold ?_)) | (refine And.intro ?_ ?_; focus (first | omega | assumption | (repeat' (first | assumption | omega | refine And.intro ?_ ?_); done))) | omega)
  refine vc_loop L_ok mixed [] (fun m : List UInt8 => m.length ≤ l.length ∧ Lib.validD m = Lib.validD l) (fun m => [(0, .sl .sh 1 (m.map byteAV))]) (fun _ => H) (fun m => m.length) (by kernel_rfl) ?_ l ⟨Nat.le_refl _, rfl⟩ (by repeat (first | exact envLe_nil | (refine envLe_cons ?_ ?_; focus (first | exact Le.refl _ | exact Le.any _ | exact le_sh | exact le_nil | (refine le_tup ?_; repeat (first | exact LeAll.nil | (refine LeAll.cons ?_ ?_; focus (first | exact Le.refl _ | exact Le.any _ | exact le_sh | exact le_nil)))) | (refine le_agg ?_; repeat (first | exact LeAll.nil | (refine LeAll.cons ?_ ?_; focus (first | exact Le.refl _ | exact Le.any _ | exact le_sh | exact le_nil)))) | (refine le_eq ?_; simp -implicitDefEqProofs (disch := omega) only [get_cons, get_nil, if_true, if_false, ↓reduceIte, Nat.reduceEqDiff, eq_self, IntWalk.i64_in, IntWalk.i32_in, IntWalk.u8_in, IntWalk.u32_in, IntWalk.u64_in, reduceCtorEq]; try (first | rfl | (refine int_eq ?_; omega))))))) rfl
  intro m ⟨hm, hv⟩
  have hF := firstT_lt (m.getD 0 0).toNat
  repeat' (first | refine unhold ?_ | (simp -dsimp -implicitDefEqProofs (disch := (first | assumption | omega | (simp only [List.length_map, List.length_append, List.length_cons, List.length_nil, List.length_replicate, List.length_drop, List.length_take]; omega))) only [go_sem, reduceCtorEq, Nat.reducePow, Int.reducePow, Nat.reduceDiv, Nat.reduceBEq, Nat.reduceEqDiff, Nat.reduceLT, Nat.reduceLeDiff, Nat.reduceAdd, Nat.reduceSub, Nat.reduceMul, Nat.reduceMod, Int.reduceToNat, Int.reduceNeg, Int.reduceAdd, Int.reduceSub, Int.reduceMul, Int.reduceDiv, Int.reduceMod, Int.reduceLT, Int.reduceLE, Int.reduceEq, ↓reduceIte, and7_first, first_div, first_div', accept_first]) | (refine acalls_same (word_c _ _ ?_) ?_) | (refine ⟨_, word_c _ _ ?_, ?_⟩) | (refine ⟨_, _, word_c _ _ ?_, ?_⟩) | (refine And.intro (fun _ => unhold ?_) (fun _ => unhold ?_)) | (refine And.intro ?_ ?_; focus (first | omega | assumption | (repeat' (first | assumption | omega | refine And.intro ?_ ?_); done))) | omega)
  · rename_i h1 h2 h3 h4 h5 h6
    have v1 := skip1 h1 h2 hv
    have v9 := skip (asc1 (by rw [List.length_drop]; omega) h4) v1
    have a2 := asc2 (w := m.drop 9) (v := m.drop 17) (by rw [List.length_drop]; omega) (by rw [List.length_drop]; omega) h6
    have v17 := skip a2.1 v9
    have v25 := skip a2.2 v17
    refine vc_loop L_ok mixed [] (fun q : List UInt8 => q.length < m.length ∧ Lib.validD q = Lib.validD l) (fun q => [(0, .sl .sh 1 (q.map byteAV))]) (fun _ => H) (fun q => q.length) (by kernel_rfl) ?_ (m.drop 25) ⟨by rw [List.length_drop]; omega, v25⟩ (by repeat (first | exact envLe_nil | (refine envLe_cons ?_ ?_; focus (first | exact Le.refl _ | exact Le.any _ | exact le_sh | exact le_nil | (refine le_tup ?_; repeat (first | exact LeAll.nil | (refine LeAll.cons ?_ ?_; focus (first | exact Le.refl _ | exact Le.any _ | exact le_sh | exact le_nil)))) | (refine le_agg ?_; repeat (first | exact LeAll.nil | (refine LeAll.cons ?_ ?_; focus (first | exact Le.refl _ | exact Le.any _ | exact le_sh | exact le_nil)))) | (refine le_eq ?_; simp -implicitDefEqProofs (disch := omega) only [get_cons, get_nil, if_true, if_false, ↓reduceIte, Nat.reduceEqDiff, eq_self, IntWalk.i64_in, IntWalk.i32_in, IntWalk.u8_in, IntWalk.u32_in, IntWalk.u64_in, reduceCtorEq]; try (first | rfl | (refine int_eq ?_; omega))))))) rfl
    intro q ⟨hq, hvq⟩
    repeat' (first | refine unhold ?_ | (simp -dsimp -implicitDefEqProofs (disch := (first | assumption | omega | (simp only [List.length_map, List.length_append, List.length_cons, List.length_nil, List.length_replicate, List.length_drop, List.length_take]; omega))) only [go_sem, reduceCtorEq, Nat.reducePow, Int.reducePow, Nat.reduceDiv, Nat.reduceBEq, Nat.reduceEqDiff, Nat.reduceLT, Nat.reduceLeDiff, Nat.reduceAdd, Nat.reduceSub, Nat.reduceMul, Nat.reduceMod, Int.reduceToNat, Int.reduceNeg, Int.reduceAdd, Int.reduceSub, Int.reduceMul, Int.reduceDiv, Int.reduceMod, Int.reduceLT, Int.reduceLE, Int.reduceEq, ↓reduceIte]) | (refine acalls_same (word_c _ _ ?_) ?_) | (refine ⟨_, word_c _ _ ?_, ?_⟩) | (refine ⟨_, _, word_c _ _ ?_, ?_⟩) | (refine And.intro (fun _ => unhold ?_) (fun _ => unhold ?_)) | (refine And.intro ?_ ?_; focus (first | omega | assumption | (repeat' (first | assumption | omega | refine And.intro ?_ ?_); done))) | omega)
    · rename_i k1 k2
      have a4 := asc4 (w := q) (v := q.drop 8) (u := q.drop 16) (t := q.drop 24) (by omega) (by rw [List.length_drop]; omega) (by rw [List.length_drop]; omega) (by rw [List.length_drop]; omega) k2
      refine again (q.drop 32) ?_ ?_ rfl (by repeat (first | exact envLe_nil | (refine envLe_cons ?_ ?_; focus (first | exact Le.refl _ | exact Le.any _ | exact le_sh | exact le_nil | (refine le_tup ?_; repeat (first | exact LeAll.nil | (refine LeAll.cons ?_ ?_; focus (first | exact Le.refl _ | exact Le.any _ | exact le_sh | exact le_nil)))) | (refine le_agg ?_; repeat (first | exact LeAll.nil | (refine LeAll.cons ?_ ?_; focus (first | exact Le.refl _ | exact Le.any _ | exact le_sh | exact le_nil)))) | (refine le_eq ?_; simp -implicitDefEqProofs (disch := omega) only [get_cons, get_nil, if_true, if_false, ↓reduceIte, Nat.reduceEqDiff, eq_self, IntWalk.i64_in, IntWalk.i32_in, IntWalk.u8_in, IntWalk.u32_in, IntWalk.u64_in, reduceCtorEq]; try (first | rfl | (refine int_eq ?_; omega)))))))
      · simp only [List.length_drop]; omega
      · exact ⟨by simp only [List.length_drop]; omega, skip (n := 24) a4.2.2.2 (skip (n := 16) a4.2.2.1 (skip (n := 8) a4.2.1 (skip (n := 0) a4.1 hvq)))⟩
    · refine again (q) ?_ ?_ rfl (by repeat (first | exact envLe_nil | (refine envLe_cons ?_ ?_; focus (first | exact Le.refl _ | exact Le.any _ | exact le_sh | exact le_nil | (refine le_tup ?_; repeat (first | exact LeAll.nil | (refine LeAll.cons ?_ ?_; focus (first | exact Le.refl _ | exact Le.any _ | exact le_sh | exact le_nil)))) | (refine le_agg ?_; repeat (first | exact LeAll.nil | (refine LeAll.cons ?_ ?_; focus (first | exact Le.refl _ | exact Le.any _ | exact le_sh | exact le_nil)))) | (refine le_eq ?_; simp -implicitDefEqProofs (disch := omega) only [get_cons, get_nil, if_true, if_false, ↓reduceIte, Nat.reduceEqDiff, eq_self, IntWalk.i64_in, IntWalk.i32_in, IntWalk.u8_in, IntWalk.u32_in, IntWalk.u64_in, reduceCtorEq]; try (first | rfl | (refine int_eq ?_; omega)))))))
      · omega
      · exact ⟨by omega, hvq⟩
    · refine again (q) ?_ ?_ rfl (by repeat (first | exact envLe_nil | (refine envLe_cons ?_ ?_; focus (first | exact Le.refl _ | exact Le.any _ | exact le_sh | exact le_nil | (refine le_tup ?_; repeat (first | exact LeAll.nil | (refine LeAll.cons ?_ ?_; focus (first | exact Le.refl _ | exact Le.any _ | exact le_sh | exact le_nil)))) | (refine le_agg ?_; repeat (first | exact LeAll.nil | (refine LeAll.cons ?_ ?_; focus (first | exact Le.refl _ | exact Le.any _ | exact le_sh | exact le_nil)))) | (refine le_eq ?_; simp -implicitDefEqProofs (disch := omega) only [get_cons, get_nil, if_true, if_false, ↓reduceIte, Nat.reduceEqDiff, eq_self, IntWalk.i64_in, IntWalk.i32_in, IntWalk.u8_in, IntWalk.u32_in, IntWalk.u64_in, reduceCtorEq]; try (first | rfl | (refine int_eq ?_; omega)))))))
      · omega
      · exact ⟨by omega, hvq⟩
  · rename_i h1 h2 h3 h4 h5 h6
    have v1 := skip1 h1 h2 hv
    refine again (m.drop 9) ?_ ?_ rfl (by repeat (first | exact envLe_nil | (refine envLe_cons ?_ ?_; focus (first | exact Le.refl _ | exact Le.any _ | exact le_sh | exact le_nil | (refine le_tup ?_; repeat (first | exact LeAll.nil | (refine LeAll.cons ?_ ?_; focus (first | exact Le.refl _ | exact Le.any _ | exact le_sh | exact le_nil)))) | (refine le_agg ?_; repeat (first | exact LeAll.nil | (refine LeAll.cons ?_ ?_; focus (first | exact Le.refl _ | exact Le.any _ | exact le_sh | exact le_nil)))) | (refine le_eq ?_; simp -implicitDefEqProofs (disch := omega) only [get_cons, get_nil, if_true, if_false, ↓reduceIte, Nat.reduceEqDiff, eq_self, IntWalk.i64_in, IntWalk.i32_in, IntWalk.u8_in, IntWalk.u32_in, IntWalk.u64_in, reduceCtorEq]; try (first | rfl | (refine int_eq ?_; omega)))))))
    · simp only [List.length_drop]; omega
    · exact ⟨by simp only [List.length_drop]; omega, skip (asc1 (by rw [List.length_drop]; omega) h4) v1⟩
  · rename_i h1 h2 h3 h4 h5
    have v1 := skip1 h1 h2 hv
    refine again (m.drop 9) ?_ ?_ rfl (by repeat (first | exact envLe_nil | (refine envLe_cons ?_ ?_; focus (first | exact Le.refl _ | exact Le.any _ | exact le_sh | exact le_nil | (refine le_tup ?_; repeat (first | exact LeAll.nil | (refine LeAll.cons ?_ ?_; focus (first | exact Le.refl _ | exact Le.any _ | exact le_sh | exact le_nil)))) | (refine le_agg ?_; repeat (first | exact LeAll.nil | (refine LeAll.cons ?_ ?_; focus (first | exact Le.refl _ | exact Le.any _ | exact le_sh | exact le_nil)))) | (refine le_eq ?_; simp -implicitDefEqProofs (disch := omega) only [get_cons, get_nil, if_true, if_false, ↓reduceIte, Nat.reduceEqDiff, eq_self, IntWalk.i64_in, IntWalk.i32_in, IntWalk.u8_in, IntWalk.u32_in, IntWalk.u64_in, reduceCtorEq]; try (first | rfl | (refine int_eq ?_; omega)))))))
    · simp only [List.length_drop]; omega
    · exact ⟨by simp only [List.length_drop]; omega, skip (asc1 (by rw [List.length_drop]; omega) h4) v1⟩
  · rename_i h1 h2 h3 h4
    refine again (m.drop 1) ?_ ?_ rfl (by repeat (first | exact envLe_nil | (refine envLe_cons ?_ ?_; focus (first | exact Le.refl _ | exact Le.any _ | exact le_sh | exact le_nil | (refine le_tup ?_; repeat (first | exact LeAll.nil | (refine LeAll.cons ?_ ?_; focus (first | exact Le.refl _ | exact Le.any _ | exact le_sh | exact le_nil)))) | (refine le_agg ?_; repeat (first | exact LeAll.nil | (refine LeAll.cons ?_ ?_; focus (first | exact Le.refl _ | exact Le.any _ | exact le_sh | exact le_nil)))) | (refine le_eq ?_; simp -implicitDefEqProofs (disch := omega) only [get_cons, get_nil, if_true, if_false, ↓reduceIte, Nat.reduceEqDiff, eq_self, IntWalk.i64_in, IntWalk.i32_in, IntWalk.u8_in, IntWalk.u32_in, IntWalk.u64_in, reduceCtorEq]; try (first | rfl | (refine int_eq ?_; omega)))))))
    · simp only [List.length_drop]; omega
    · exact ⟨by simp only [List.length_drop]; omega, skip1 h1 h2 hv⟩
  · rename_i h1 h2 h3
    refine again (m.drop 1) ?_ ?_ rfl (by repeat (first | exact envLe_nil | (refine envLe_cons ?_ ?_; focus (first | exact Le.refl _ | exact Le.any _ | exact le_sh | exact le_nil | (refine le_tup ?_; repeat (first | exact LeAll.nil | (refine LeAll.cons ?_ ?_; focus (first | exact Le.refl _ | exact Le.any _ | exact le_sh | exact le_nil)))) | (refine le_agg ?_; repeat (first | exact LeAll.nil | (refine LeAll.cons ?_ ?_; focus (first | exact Le.refl _ | exact Le.any _ | exact le_sh | exact le_nil)))) | (refine le_eq ?_; simp -implicitDefEqProofs (disch := omega) only [get_cons, get_nil, if_true, if_false, ↓reduceIte, Nat.reduceEqDiff, eq_self, IntWalk.i64_in, IntWalk.i32_in, IntWalk.u8_in, IntWalk.u32_in, IntWalk.u64_in, reduceCtorEq]; try (first | rfl | (refine int_eq ?_; omega)))))))
    · simp only [List.length_drop]; omega
    · exact ⟨by simp only [List.length_drop]; omega, skip1 h1 h2 hv⟩
  · exact done_drop (.lit _) ⟨bool_eq (by rw [← hv, lead_false (by omega) (by omega) (by omega)]), rfl⟩
  · exact done_drop (.lit _) ⟨bool_eq (by rw [← hv, lead_false (by omega) (by omega) (by omega)]), rfl⟩
  · exact done_drop (.lit _) ⟨bool_eq (by rw [← hv, lead_false (by omega) (by omega) (by omega)]), rfl⟩
  · refine again_cut (m.drop 2) ?_ ?_ (by repeat (first | exact envLow_nil | (refine envLow_cons ?_ ?_; focus (first | (first | exact .lit _ | exact .str _ | exact .any | exact low_bytes | exact low_runes | exact .mp _ _ (by omega) | exact .msl _ _ _ _ (by omega) | exact low_nilsl (fun k e => by cases e)) | (refine low_tup ?_; repeat (first | exact lowAll_nil | (refine lowAll_cons ?_ ?_; focus (first | exact .lit _ | exact .str _ | exact .any | exact low_bytes | exact low_runes | exact .mp _ _ (by omega) | exact .msl _ _ _ _ (by omega) | exact low_nilsl (fun k e => by cases e))))) | (refine low_agg ?_; repeat (first | exact lowAll_nil | (refine lowAll_cons ?_ ?_; focus (first | exact .lit _ | exact .str _ | exact .any | exact low_bytes | exact low_runes | exact .mp _ _ (by omega) | exact .msl _ _ _ _ (by omega) | exact low_nilsl (fun k e => by cases e))))))))) (by repeat (first | exact envLe_nil | (refine envLe_cons ?_ ?_; focus (first | exact Le.refl _ | exact Le.any _ | exact le_sh | exact le_nil | (refine le_tup ?_; repeat (first | exact LeAll.nil | (refine LeAll.cons ?_ ?_; focus (first | exact Le.refl _ | exact Le.any _ | exact le_sh | exact le_nil)))) | (refine le_agg ?_; repeat (first | exact LeAll.nil | (refine LeAll.cons ?_ ?_; focus (first | exact Le.refl _ | exact Le.any _ | exact le_sh | exact le_nil)))) | (refine le_eq ?_; simp -implicitDefEqProofs (disch := omega) only [get_cons, get_nil, if_true, if_false, ↓reduceIte, Nat.reduceEqDiff, eq_self, IntWalk.i64_in, IntWalk.i32_in, IntWalk.u8_in, IntWalk.u32_in, IntWalk.u64_in, reduceCtorEq]; try (first | rfl | (refine int_eq ?_; omega)))))))
    · simp only [List.length_drop]; omega
    · exact ⟨by simp only [List.length_drop]; omega, (lead_some (by omega) (by omega) (by omega) (by omega) (by omega) (by omega)).trans hv⟩
  · exact done_drop (.lit _) ⟨bool_eq (by rw [← hv, lead_false (by omega) (by omega) (by omega)]), rfl⟩
  · exact done_drop (.lit _) ⟨bool_eq (by rw [← hv, lead_false (by omega) (by omega) (by omega)]), rfl⟩
  · exact done_drop (.lit _) ⟨bool_eq (by rw [← hv, lead_false (by omega) (by omega) (by omega)]), rfl⟩
  · exact done_drop (.lit _) ⟨bool_eq (by rw [← hv, lead_false (by omega) (by omega) (by omega)]), rfl⟩
  · exact done_drop (.lit _) ⟨bool_eq (by rw [← hv, lead_false (by omega) (by omega) (by omega)]), rfl⟩
  · refine again_cut (m.drop 3) ?_ ?_ (by repeat (first | exact envLow_nil | (refine envLow_cons ?_ ?_; focus (first | (first | exact .lit _ | exact .str _ | exact .any | exact low_bytes | exact low_runes | exact .mp _ _ (by omega) | exact .msl _ _ _ _ (by omega) | exact low_nilsl (fun k e => by cases e)) | (refine low_tup ?_; repeat (first | exact lowAll_nil | (refine lowAll_cons ?_ ?_; focus (first | exact .lit _ | exact .str _ | exact .any | exact low_bytes | exact low_runes | exact .mp _ _ (by omega) | exact .msl _ _ _ _ (by omega) | exact low_nilsl (fun k e => by cases e))))) | (refine low_agg ?_; repeat (first | exact lowAll_nil | (refine lowAll_cons ?_ ?_; focus (first | exact .lit _ | exact .str _ | exact .any | exact low_bytes | exact low_runes | exact .mp _ _ (by omega) | exact .msl _ _ _ _ (by omega) | exact low_nilsl (fun k e => by cases e))))))))) (by repeat (first | exact envLe_nil | (refine envLe_cons ?_ ?_; focus (first | exact Le.refl _ | exact Le.any _ | exact le_sh | exact le_nil | (refine le_tup ?_; repeat (first | exact LeAll.nil | (refine LeAll.cons ?_ ?_; focus (first | exact Le.refl _ | exact Le.any _ | exact le_sh | exact le_nil)))) | (refine le_agg ?_; repeat (first | exact LeAll.nil | (refine LeAll.cons ?_ ?_; focus (first | exact Le.refl _ | exact Le.any _ | exact le_sh | exact le_nil)))) | (refine le_eq ?_; simp -implicitDefEqProofs (disch := omega) only [get_cons, get_nil, if_true, if_false, ↓reduceIte, Nat.reduceEqDiff, eq_self, IntWalk.i64_in, IntWalk.i32_in, IntWalk.u8_in, IntWalk.u32_in, IntWalk.u64_in, reduceCtorEq]; try (first | rfl | (refine int_eq ?_; omega)))))))
    · simp only [List.length_drop]; omega
    · exact ⟨by simp only [List.length_drop]; omega, (lead_some (by omega) (by omega) (by omega) (by omega) (by omega) (by omega)).trans hv⟩
  · exact done_drop (.lit _) ⟨bool_eq (by rw [← hv, lead_false (by omega) (by omega) (by omega)]), rfl⟩
  · exact done_drop (.lit _) ⟨bool_eq (by rw [← hv, lead_false (by omega) (by omega) (by omega)]), rfl⟩
  · exact done_drop (.lit _) ⟨bool_eq (by rw [← hv, lead_false (by omega) (by omega) (by omega)]), rfl⟩
  · exact done_drop (.lit _) ⟨bool_eq (by rw [← hv, lead_false (by omega) (by omega) (by omega)]), rfl⟩
  · exact done_drop (.lit _) ⟨bool_eq (by rw [← hv, lead_false (by omega) (by omega) (by omega)]), rfl⟩
  · exact done_drop (.lit _) ⟨bool_eq (by rw [← hv, lead_false (by omega) (by omega) (by omega)]), rfl⟩
  · exact done_drop (.lit _) ⟨bool_eq (by rw [← hv, lead_false (by omega) (by omega) (by omega)]), rfl⟩
  · refine again_cut (m.drop 4) ?_ ?_ (by repeat (first | exact envLow_nil | (refine envLow_cons ?_ ?_; focus (first | (first | exact .lit _ | exact .str _ | exact .any | exact low_bytes | exact low_runes | exact .mp _ _ (by omega) | exact .msl _ _ _ _ (by omega) | exact low_nilsl (fun k e => by cases e)) | (refine low_tup ?_; repeat (first | exact lowAll_nil | (refine lowAll_cons ?_ ?_; focus (first | exact .lit _ | exact .str _ | exact .any | exact low_bytes | exact low_runes | exact .mp _ _ (by omega) | exact .msl _ _ _ _ (by omega) | exact low_nilsl (fun k e => by cases e))))) | (refine low_agg ?_; repeat (first | exact lowAll_nil | (refine lowAll_cons ?_ ?_; focus (first | exact .lit _ | exact .str _ | exact .any | exact low_bytes | exact low_runes | exact .mp _ _ (by omega) | exact .msl _ _ _ _ (by omega) | exact low_nilsl (fun k e => by cases e))))))))) (by repeat (first | exact envLe_nil | (refine envLe_cons ?_ ?_; focus (first | exact Le.refl _ | exact Le.any _ | exact le_sh | exact le_nil | (refine le_tup ?_; repeat (first | exact LeAll.nil | (refine LeAll.cons ?_ ?_; focus (first | exact Le.refl _ | exact Le.any _ | exact le_sh | exact le_nil)))) | (refine le_agg ?_; repeat (first | exact LeAll.nil | (refine LeAll.cons ?_ ?_; focus (first | exact Le.refl _ | exact Le.any _ | exact le_sh | exact le_nil)))) | (refine le_eq ?_; simp -implicitDefEqProofs (disch := omega) only [get_cons, get_nil, if_true, if_false, ↓reduceIte, Nat.reduceEqDiff, eq_self, IntWalk.i64_in, IntWalk.i32_in, IntWalk.u8_in, IntWalk.u32_in, IntWalk.u64_in, reduceCtorEq]; try (first | rfl | (refine int_eq ?_; omega)))))))
    · simp only [List.length_drop]; omega
    · exact ⟨by simp only [List.length_drop]; omega, (lead_some (by omega) (by omega) (by omega) (by omega) (by omega) (by omega)).trans hv⟩
  · exact done_drop (.lit _) ⟨bool_eq (by rw [← hv, lead_false (by omega) (by omega) (by omega)]), rfl⟩
  · have : m = [] := List.eq_nil_of_length_eq_zero (by omega)
    subst this
    exact done_same ⟨bool_eq hv, rfl⟩
end Go.Proofs.YthaicajgfioogaaDoor
