/- Numbers as texts: how many digits. -/
import Derived.Test.YtplmbhjhihoneaaGreatDoorW5
import Derived.Lib.ItoaNum
import Derived.Lib.ItoaWalk
import Derived.Lib.ItoaMem
section
set_option linter.unusedSimpArgs false
set_option linter.unusedVariables false
namespace Go.Proofs.YtplmbhjhihoneaaGreatDoor
open Go V
set_option maxRecDepth 10000
set_option maxHeartbeats 4000000
theorem Len64_c (x : Nat) (H : List AObj) (hx : x < 18446744073709551616) : ACalls Tryz.prog 162 [.lit (.int .u64 x)] H (fun y H' => y = .lit (.int .i64 ((Lib.bitLen x : Nat) : Int)) ∧ H' = H) := by
  refine acalls_vc L_ok mixed [] (rs := [.tmp 2]) (n := 25) Tryz.func162 rfl rfl rfl rfl (Nat.le_of_ble_eq_true rfl) (by kernel_rfl) ?_
  go_name_bytes B hB
  have hT : ∀ i : Fin 256, (B.data.toList.getD i.val 0).toNat = Lib.bitLen i.val := by rw [← hB]; decide +kernel
  have hl : B.data.toList.length = 256 := by rw [← hB]; decide +kernel
  clear hB
  have hT' : ∀ v, v < 256 → (B.data.toList.getD v 0).toNat = Lib.bitLen v := fun v h => hT ⟨v, h⟩
  have hb : ∀ v, v < 256 → Lib.bitLen v ≤ 8 := fun v h => Lib.bitLen_le8 ⟨v, h⟩
  clear hT
  repeat' (first | refine unhold ?_ | (simp -dsimp -implicitDefEqProofs (disch := (first | assumption | omega | (simp only [ll1, ll2, ll3, ll4, ll5, ll6, ll7, ll8]; omega))) only [go_sem, hl]) | refine vcI (fun _ => ?_) (fun _ => ?_) | (refine vcA ?_ ?_; focus (repeat' (first | omega | assumption | refine vcA ?_ ?_); done)) | omega | refine imp_in (fun _ => ?_))
  · have e1 := hT' (((x / 4294967296) / 65536) / 256) (by omega)
    have e2 := hb (((x / 4294967296) / 65536) / 256) (by omega)
    rw [e1, IntWalk.i64_in _ (by omega)]
    refine done_same ⟨int_eq ?_, rfl⟩
    rw [Lib.bitLen_shift32 x (by omega) hx, Lib.bitLen_shift16 (x / 4294967296) (by omega) (by omega), Lib.bitLen_shift8 ((x / 4294967296) / 65536) (by omega) (by omega)]
    omega
  · have e1 := hT' ((x / 4294967296) / 65536) (by omega)
    have e2 := hb ((x / 4294967296) / 65536) (by omega)
    rw [e1, IntWalk.i64_in _ (by omega)]
    refine done_same ⟨int_eq ?_, rfl⟩
    rw [Lib.bitLen_shift32 x (by omega) hx, Lib.bitLen_shift16 (x / 4294967296) (by omega) (by omega)]
    omega
  · have e1 := hT' ((x / 4294967296) / 256) (by omega)
    have e2 := hb ((x / 4294967296) / 256) (by omega)
    rw [e1, IntWalk.i64_in _ (by omega)]
    refine done_same ⟨int_eq ?_, rfl⟩
    rw [Lib.bitLen_shift32 x (by omega) hx, Lib.bitLen_shift8 (x / 4294967296) (by omega) (by omega)]
    omega
  · have e1 := hT' (x / 4294967296) (by omega)
    have e2 := hb (x / 4294967296) (by omega)
    rw [e1, IntWalk.i64_in _ (by omega)]
    refine done_same ⟨int_eq ?_, rfl⟩
    rw [Lib.bitLen_shift32 x (by omega) hx]
    omega
  · have e1 := hT' ((x / 65536) / 256) (by omega)
    have e2 := hb ((x / 65536) / 256) (by omega)
    rw [e1, IntWalk.i64_in _ (by omega)]
    refine done_same ⟨int_eq ?_, rfl⟩
    rw [Lib.bitLen_shift16 x (by omega) (by omega), Lib.bitLen_shift8 (x / 65536) (by omega) (by omega)]
    omega
  · have e1 := hT' (x / 65536) (by omega)
    have e2 := hb (x / 65536) (by omega)
    rw [e1, IntWalk.i64_in _ (by omega)]
    refine done_same ⟨int_eq ?_, rfl⟩
    rw [Lib.bitLen_shift16 x (by omega) (by omega)]
    omega
  · have e1 := hT' (x / 256) (by omega)
    have e2 := hb (x / 256) (by omega)
    rw [e1, IntWalk.i64_in _ (by omega)]
    refine done_same ⟨int_eq ?_, rfl⟩
    rw [Lib.bitLen_shift8 x (by omega) (by omega)]
    omega
  · have e1 := hT' x (by omega)
    have e2 := hb x (by omega)
    rw [e1, IntWalk.i64_in _ (by omega)]
    refine done_same ⟨int_eq ?_, rfl⟩
    omega
theorem log10Pow2_c (x : Nat) (H : List AObj) (hx : x ≤ 64) : ACalls Tryz.prog 161 [.lit (.int .i64 x)] H (fun y H' => y = .lit (.int .i64 ((Lib.l10 x : Nat) : Int)) ∧ H' = H) := by
  refine acalls_vc L_ok mixed [] (rs := [.tmp 2]) (n := 6) Tryz.func161 rfl rfl rfl rfl (Nat.le_of_ble_eq_true rfl) (by kernel_rfl) ?_
  repeat' (first | refine unhold ?_ | (simp -dsimp -implicitDefEqProofs (disch := (first | assumption | omega | (simp only [ll1, ll2, ll3, ll4, ll5, ll6, ll7, ll8]; omega))) only [go_sem]) | refine vcI (fun _ => ?_) (fun _ => ?_) | (refine vcA ?_ ?_; focus (repeat' (first | omega | assumption | refine vcA ?_ ?_); done)) | omega | refine imp_in (fun _ => ?_))
  refine done_same ⟨int_eq ?_, rfl⟩
  unfold Lib.l10
  omega
theorem bool2_c (b : Bool) (H : List AObj) : ACalls Tryz.prog 163 [.lit (.bool b)] H (fun y H' => y = .lit (.int .i64 (if b then 1 else 0)) ∧ H' = H) := by
  cases b
  all_goals
    refine acalls_vc L_ok mixed [] (rs := [.tmp 2]) (n := 4) Tryz.func163 rfl rfl rfl rfl (Nat.le_of_ble_eq_true rfl) (by kernel_rfl) ?_
    repeat' (first | refine unhold ?_ | (simp -dsimp -implicitDefEqProofs (disch := (first | assumption | omega | (simp only [ll1, ll2, ll3, ll4, ll5, ll6, ll7, ll8]; omega))) only [go_sem]) | refine vcI (fun _ => ?_) (fun _ => ?_) | (refine vcA ?_ ?_; focus (repeat' (first | omega | assumption | refine vcA ?_ ?_); done)) | omega | refine imp_in (fun _ => ?_))
    exact done_same ⟨rfl, rfl⟩
theorem small_c (i : Nat) (H : List AObj) (hi : i < 100) : ACalls Tryz.prog 145 [.lit (.int .i64 i)] H (fun y H' => y = .str (Lib.decDigits i) ∧ H' = H) := by
  by_cases h : i < 10
  · have ht : ((i : Int) < 10) = True := eq_true (by omega)
    refine acalls_vc L_ok mixed [] (rs := [.tmp 2]) (n := 15) Tryz.func145 rfl rfl rfl rfl (Nat.le_of_ble_eq_true rfl) (by kernel_rfl) ?_
    go_name_bytes B hB
    have hBs : B = Lib.digits36 := by rw [← hB]; decide +kernel
    have hl : B.data.toList.length = 36 := by rw [hBs]; exact Lib.digits36_size
    clear hB
    repeat' (first | refine unhold ?_ | (simp -dsimp -implicitDefEqProofs (disch := (first | assumption | omega | (simp only [ll1, ll2, ll3, ll4, ll5, ll6, ll7, ll8]; omega))) only [go_sem, ht, hl]) | refine vcI (fun _ => ?_) (fun _ => ?_) | (refine vcA ?_ ?_; focus (repeat' (first | omega | assumption | refine vcA ?_ ?_); done)) | omega | refine imp_in (fun _ => ?_))
    have := Lib.digits36_piece h
    rw [← hBs] at this
    rw [show ((i : Int) + 1).toNat = i + 1 by omega, this]
    exact done_same ⟨rfl, rfl⟩
  · have ht : ((i : Int) < 10) = False := eq_false (by omega)
    refine acalls_vc L_ok mixed [] (rs := [.tmp 2]) (n := 15) Tryz.func145 rfl rfl rfl rfl (Nat.le_of_ble_eq_true rfl) (by kernel_rfl) ?_
    go_name_bytes B hB
    go_name_bytes C hC
    have hCs : C = Lib.smalls := by rw [← hC]; decide +kernel
    have hl : C.data.toList.length = 200 := by rw [hCs]; exact Lib.smalls_size
    clear hB hC
    repeat' (first | refine unhold ?_ | (simp -dsimp -implicitDefEqProofs (disch := (first | assumption | omega | (simp only [ll1, ll2, ll3, ll4, ll5, ll6, ll7, ll8]; omega))) only [go_sem, ht, hl]) | refine vcI (fun _ => ?_) (fun _ => ?_) | (refine vcA ?_ ?_; focus (repeat' (first | omega | assumption | refine vcA ?_ ?_); done)) | omega | refine imp_in (fun _ => ?_))
    have := Lib.smalls_piece h hi
    rw [← hCs] at this
    rw [show ((i : Int) * 2 + 2).toNat = i * 2 + 2 by omega, show ((i : Int) * 2).toNat = i * 2 by omega, this]
    exact done_same ⟨rfl, rfl⟩
theorem numDigits_c (u : Nat) (H : List AObj) (h1 : 1 ≤ u) (h2 : u < 18446744073709551616) : ACalls Tryz.prog 146 [.lit (.int .u64 u)] H (fun y H' => y = .lit (.int .i64 ((Lib.nDigits u : Nat) : Int)) ∧ H' = H) := by
  obtain ⟨e1, e2⟩ := Lib.numDigits_eq u h1 h2
  have e3 := Lib.bitLen_le u 64 (Nat.le_refl _) h2
  have cL := fun H => Len64_c u H h2
  have cP := fun H => log10Pow2_c (Lib.bitLen u) H e3
  generalize Lib.l10 (Lib.bitLen u) = q at *
  have hg : globAV 5 = .ip (.agg pow10AV) := glob_pow10 rfl rfl
  have hp := pow10_at (i := q) (by omega)
  refine acalls_vc L_ok mixed [] (rs := [.tmp 2]) (n := 15) Tryz.func146 rfl rfl rfl rfl (Nat.le_of_ble_eq_true rfl) (by kernel_rfl) ?_
  repeat' (first | refine unhold ?_ | (simp -dsimp -implicitDefEqProofs (disch := (first | assumption | omega | (simp only [ll1, ll2, ll3, ll4, ll5, ll6, ll7, ll8]; omega))) only [go_sem, hg, hp, pow10AV_len]) | refine acalls_same (cL _) ?_ | refine ⟨_, cL _, ?_⟩ | refine ⟨_, _, cL _, ?_⟩ | refine acalls_same (cP _) ?_ | refine ⟨_, cP _, ?_⟩ | refine ⟨_, _, cP _, ?_⟩ | refine acalls_same (bool2_c _ _) ?_ | refine ⟨_, bool2_c _ _, ?_⟩ | refine ⟨_, _, bool2_c _ _, ?_⟩ | refine vcI (fun _ => ?_) (fun _ => ?_) | (refine vcA ?_ ?_; focus (repeat' (first | omega | assumption | refine vcA ?_ ?_); done)) | omega | refine imp_in (fun _ => ?_))
  refine done_same ⟨int_eq ?_, rfl⟩
  rw [← e1]
  by_cases h : 10 ^ q ≤ u
  · have hc : ((10 ^ q : Nat) : Int) ≤ (u : Int) := Int.ofNat_le.mpr h
    simp only [if_pos h, if_pos hc]
    omega
  · have hc : ¬ ((10 ^ q : Nat) : Int) ≤ (u : Int) := fun h' => h (Int.ofNat_le.mp h')
    simp only [if_neg h, if_neg hc]
    omega
end Go.Proofs.YtplmbhjhihoneaaGreatDoor
end

section
set_option linter.unusedSimpArgs false
set_option linter.unusedVariables false
namespace Go.Proofs.YtplmbhjhihoneaaGreatDoor
open Go V
set_option maxRecDepth 10000
set_option maxHeartbeats 600000
/-- An object of 24 bytes: a zero, the row, zeros. -/
def c24 (d : Array UInt8) : List AV := byteAV 0 :: (d.toList.map byteAV ++ List.replicate (23 - d.size) (AV.lit (.int .u8 0)))
theorem c24_len {d : Array UInt8} (h : d.size ≤ 23) : (c24 d).length = 24 := by
  unfold c24
  simp
  omega
theorem c24_set {d : Array UInt8} {i j : Nat} {v : Int} (x : UInt8) (h : i < d.size) (hj : j = 1 + i) (hv : v = (x.toNat : Int)) : (c24 d).set j (AV.lit (.int .u8 v)) = c24 (d.setIfInBounds i x) := by
  subst hj hv
  unfold c24
  rw [show 1 + i = i + 1 by omega, List.set_cons_succ, List.set_append_left _ _ (by simp; exact h)]
  rw [Array.toList_setIfInBounds, Array.size_setIfInBounds, List.map_set]
  rfl
/-- A pair of digits laid. -/
def twoD (d : Array UInt8) (k w : Nat) : Array UInt8 := (d.setIfInBounds (k + 1) (Lib.sm (w * 2 + 1))).setIfInBounds k (Lib.sm (w * 2))
theorem twoD_size (d : Array UInt8) (k w : Nat) : (twoD d k w).size = d.size := by simp [twoD]
theorem two_inv {nd0 u k v : Nat} {d : Array UInt8} (h : Lib.FmtInv nd0 u (k + 2) v d) : Lib.FmtInv nd0 u k (v / 100) (twoD d k (v % 100)) := h.step2'
theorem c24_two {B : ByteArray} {d : Array UInt8} {i1 i0 a1 a0 : Nat} (k w : Nat) (hB : B = Lib.smalls) (hk : k + 1 < d.size) (h1 : i1 = w * 2 + 1) (h0 : i0 = w * 2) (ha1 : a1 = 1 + (k + 1)) (ha0 : a0 = 1 + k) :
    ((c24 d).set a1 (AV.lit (.int .u8 (((B.data.toList.getD i1 0).toNat : Nat) : Int)))).set a0 (AV.lit (.int .u8 (((B.data.toList.getD i0 0).toNat : Nat) : Int))) = c24 (twoD d k w) := by
  subst hB h1 h0
  show ((c24 d).set a1 (AV.lit (.int .u8 (((Lib.sm (w * 2 + 1)).toNat : Nat) : Int)))).set a0 (AV.lit (.int .u8 (((Lib.sm (w * 2)).toNat : Nat) : Int))) = _
  rw [c24_set (i := k + 1) (Lib.sm (w * 2 + 1)) hk ha1 rfl, c24_set (i := k) (Lib.sm (w * 2)) (by simp; omega) ha0 rfl]
  rfl
theorem c24_one {d : Array UInt8} {z : Int} (w : Nat) (h : 0 < d.size) (hw : w < 10) (hz : z = 48 + (w : Int)) : (c24 d).set 1 (AV.lit (.int .u8 z)) = c24 (d.setIfInBounds 0 (UInt8.ofNat (48 + w))) :=
  c24_set (UInt8.ofNat (48 + w)) h rfl (by
    rw [hz, UInt8.toNat_ofNat_of_lt' (by show 48 + w < 256; omega)]
    omega)
theorem format_c (u : Nat) (d0 : Array UInt8) (H : List AObj) (hd : d0.size = Lib.nDigits u) (h2 : u < 18446744073709551616) (h3 : d0.size ≤ 20) :
    ACalls Tryz.prog 147 [.msl H.length 1 d0.size 23, .lit (.int .u64 u)] (H ++ [.cells (.one 152) (c24 d0)]) (fun y H' => ∃ dk v', Lib.FmtInv d0.size u 0 v' dk ∧ y = .tup [] ∧ H' = H ++ [.cells (.one 152) (c24 dk)]) := by
  have hst : Lib.FmtInv d0.size u d0.size u d0 := Lib.FmtInv.start d0 u (by rw [hd]; exact Lib.lt_pow_nDigits u)
  refine acalls_vc L_ok mixed [1000007, 1000008, 1000009, 1000010, 1000017, 1000018, 1000023] (rs := []) (n := 167) Tryz.func147 rfl rfl rfl rfl (Nat.le_of_ble_eq_true rfl) (by kernel_rfl) ?_
  go_name_bytes B hB
  have hBs : B = Lib.smalls := by rw [← hB]; decide +kernel
  have hl : B.data.toList.length = 200 := by rw [hBs]; exact Lib.smalls_size
  clear hB
  repeat' (first | refine unhold ?_ | (simp -dsimp -implicitDefEqProofs (disch := (first | assumption | omega | (simp only [ll1, ll2, ll3, ll4, ll5, ll6, ll7, ll8]; omega))) only [go_sem]) | refine vcI (fun _ => ?_) (fun _ => ?_) | (refine vcA ?_ ?_; focus (repeat' (first | omega | assumption | refine vcA ?_ ?_); done)) | omega | refine imp_in (fun _ => ?_))
  refine vc_loopk L_ok mixed [1000007, 1000008, 1000009, 1000010, 1000017, 1000018, 1000023] [0] (fun (x : Nat × Nat × Array UInt8) => Lib.FmtInv d0.size u x.1 x.2.1 x.2.2) (fun x => [(4, .int .i64 x.1), (1, .int .u64 x.2.1)]) (fun x => H ++ [.cells (.one 152) (c24 x.2.2)]) (fun x => x.1) (by kernel_rfl) ?_ (d0.size, u, d0) hst env_ok rfl
  rintro ⟨nd, v, d⟩ hI
  dsimp only at *
  by_cases h8 : 8 ≤ nd
  · have hc : ((nd : Int) ≥ 8) = True := eq_true (by omega)
    have hle := hI.le
    have hcl := c24_len (d := d) (by rw [hI.size]; omega)
    obtain ⟨k, rfl⟩ : ∃ k, nd = k + 8 := ⟨nd - 8, by omega⟩
    have hvb : v < 18446744073709551616 := by
      rw [hI.rest]
      exact Nat.lt_of_le_of_lt (Nat.div_le_self _ _) h2
    have j1 := two_inv (k := k + 6) hI
    have j2 := two_inv (k := k + 4) j1
    have j3 := two_inv (k := k + 2) j2
    have j4 := two_inv (k := k) j3
    have hs := hI.size
    generalize hv4 : v / 100 / 100 / 100 / 100 = v4 at j4
    generalize hd4 : twoD (twoD (twoD (twoD d (k + 6) (v % 100)) (k + 4) (v / 100 % 100)) (k + 2) (v / 100 / 100 % 100)) k (v / 100 / 100 / 100 % 100) = d4 at j4
    clear j1 j2 j3
    repeat' (first | refine unhold ?_ | (simp -dsimp -implicitDefEqProofs (disch := (first | assumption | omega | (simp only [ll1, ll2, ll3, ll4, ll5, ll6, ll7, ll8]; omega))) only [go_sem, hc, hl, hcl]) | refine vcI (fun _ => ?_) (fun _ => ?_) | (refine vcA ?_ ?_; focus (repeat' (first | omega | assumption | refine vcA ?_ ?_); done)) | omega | refine imp_in (fun _ => ?_))
    refine again ((k, v4, d4)) ?_ ?_ ?_ env_ok
    · show k < k + 8
      omega
    · exact j4
    · rw [c24_two (d := d) (k + 6) (v % 100) hBs (by omega) (by omega) (by omega) (by omega) (by omega),
        c24_two (k + 4) (v / 100 % 100) hBs (by rw [twoD_size]; omega) (by omega) (by omega) (by omega) (by omega),
        c24_two (k + 2) (v / 100 / 100 % 100) hBs (by rw [twoD_size, twoD_size]; omega) (by omega) (by omega) (by omega) (by omega),
        c24_two k (v / 100 / 100 / 100 % 100) hBs (by rw [twoD_size, twoD_size, twoD_size]; omega) (by omega) (by omega) (by omega) (by omega), hd4]
  · have hc : ((nd : Int) ≥ 8) = False := eq_false (by omega)
    have hv7 := hI.lt7 (by omega)
    have hcl := c24_len (d := d) (by rw [hI.size]; omega)
    have hle := hI.le
    have hs := hI.size
    repeat' (first | refine unhold ?_ | (simp -dsimp -implicitDefEqProofs (disch := (first | assumption | omega | (simp only [ll1, ll2, ll3, ll4, ll5, ll6, ll7, ll8]; omega))) only [go_sem, hc, hl, hcl]) | refine vcI (fun _ => ?_) (fun _ => ?_) | (refine vcA ?_ ?_; focus (repeat' (first | omega | assumption | refine vcA ?_ ?_); done)) | omega | refine imp_in (fun _ => ?_))
    · obtain rfl : nd = 7 := by omega
      have j1 := two_inv (k := 5) hI
      have j2 := two_inv (k := 3) j1
      have j3 := two_inv (k := 1) j2
      have e1 : v / 100 / 100 / 100 < 10 := by simpa using j3.small
      refine done_keep _ (Le.refl _) (by simp) ⟨_, _, j3.step1, rfl, ?_⟩
      rw [c24_two (d := _) 5 (v % 100) hBs (by (try simp only [twoD_size]); omega) (by omega) (by omega) (by omega) (by omega), c24_two (d := _) 3 (v / 100 % 100) hBs (by (try simp only [twoD_size]); omega) (by omega) (by omega) (by omega) (by omega), c24_two (d := _) 1 (v / 100 / 100 % 100) hBs (by (try simp only [twoD_size]); omega) (by omega) (by omega) (by omega) (by omega), c24_one (v / 100 / 100 / 100) (by (try simp only [twoD_size]); omega) e1 (by omega)]
    · obtain rfl : nd = 6 := by omega
      have j1 := two_inv (k := 4) hI
      have j2 := two_inv (k := 2) j1
      have j3 := two_inv (k := 0) j2
      refine done_keep _ (Le.refl _) (by simp) ⟨_, _, j3, rfl, ?_⟩
      rw [c24_two (d := _) 4 (v % 100) hBs (by (try simp only [twoD_size]); omega) (by omega) (by omega) (by omega) (by omega), c24_two (d := _) 2 (v / 100 % 100) hBs (by (try simp only [twoD_size]); omega) (by omega) (by omega) (by omega) (by omega), c24_two (d := _) 0 (v / 100 / 100 % 100) hBs (by (try simp only [twoD_size]); omega) (by omega) (by omega) (by omega) (by omega)]
    · obtain rfl : nd = 5 := by omega
      have j1 := two_inv (k := 3) hI
      have j2 := two_inv (k := 1) j1
      have e1 : v / 100 / 100 < 10 := by simpa using j2.small
      refine done_keep _ (Le.refl _) (by simp) ⟨_, _, j2.step1, rfl, ?_⟩
      rw [IntWalk.u8_in (48 + (v : Int) / 10000) (by omega)]
      rw [c24_two (d := _) 3 (v % 100) hBs (by (try simp only [twoD_size]); omega) (by omega) (by omega) (by omega) (by omega), c24_two (d := _) 1 (v / 100 % 100) hBs (by (try simp only [twoD_size]); omega) (by omega) (by omega) (by omega) (by omega), c24_one (v / 100 / 100) (by (try simp only [twoD_size]); omega) e1 (by omega)]
    · obtain rfl : nd = 4 := by omega
      have j1 := two_inv (k := 2) hI
      have j2 := two_inv (k := 0) j1
      refine done_keep _ (Le.refl _) (by simp) ⟨_, _, j2, rfl, ?_⟩
      rw [c24_two (d := _) 2 (v % 100) hBs (by (try simp only [twoD_size]); omega) (by omega) (by omega) (by omega) (by omega), c24_two (d := _) 0 (v / 100 % 100) hBs (by (try simp only [twoD_size]); omega) (by omega) (by omega) (by omega) (by omega)]
    · obtain rfl : nd = 3 := by omega
      have j1 := two_inv (k := 1) hI
      have e1 : v / 100 < 10 := by simpa using j1.small
      refine done_keep _ (Le.refl _) (by simp) ⟨_, _, j1.step1, rfl, ?_⟩
      rw [IntWalk.u8_in (48 + (v : Int) / 100) (by omega)]
      rw [c24_two (d := _) 1 (v % 100) hBs (by (try simp only [twoD_size]); omega) (by omega) (by omega) (by omega) (by omega), c24_one (v / 100) (by (try simp only [twoD_size]); omega) e1 (by omega)]
    · obtain rfl : nd = 2 := by omega
      have j1 := two_inv (k := 0) hI
      refine done_keep _ (Le.refl _) (by simp) ⟨_, _, j1, rfl, ?_⟩
      rw [c24_two (d := _) 0 (v % 100) hBs (by (try simp only [twoD_size]); omega) (by omega) (by omega) (by omega) (by omega)]
    · obtain rfl : nd = 1 := by omega
      have e1 : v < 10 := by simpa using hI.small
      refine done_keep _ (Le.refl _) (by simp) ⟨_, _, hI.step1, rfl, ?_⟩
      rw [IntWalk.u8_in (48 + (v : Int)) (by omega)]
      rw [c24_one (v) (by (try simp only [twoD_size]); omega) e1 (by omega)]
    · obtain rfl : nd = 0 := by omega
      refine done_keep _ (Le.refl _) (by simp) ⟨_, _, hI, rfl, ?_⟩
      rfl
end Go.Proofs.YtplmbhjhihoneaaGreatDoor
end

section
set_option linter.unusedSimpArgs false
set_option linter.unusedVariables false
namespace Go.Proofs.YtplmbhjhihoneaaGreatDoor
open Go V
set_option maxRecDepth 10000
set_option maxHeartbeats 1000000
def l24 (l : List UInt8) : List AV := byteAV 0 :: (l.map byteAV ++ List.replicate (23 - l.length) (AV.lit (.int .u8 0)))
theorem c24_zero {n : Nat} (h : n ≤ 23) : c24 (Array.replicate n 0) = List.replicate 24 (AV.lit (.int .u8 0)) := by
  unfold c24
  have e : byteAV 0 = AV.lit (.int .u8 0) := rfl
  rw [Array.toList_replicate, List.map_replicate, Array.size_replicate, e, List.replicate_append_replicate, show n + (23 - n) = 23 by omega]
  rfl
theorem c24_done {u v' : Nat} {dk : Array UInt8} (h : Lib.FmtInv (Lib.nDigits u) u 0 v' dk) : c24 dk = l24 (Lib.decDigits u) := by
  have e : dk.toList = Lib.decDigits u := by
    refine List.ext_getElem (by rw [Array.length_toList, h.size, Lib.decDigits_length]) fun j h1 h2 => ?_
    rw [Lib.row_is_numeral h j h2, Array.getElem_toList]
    exact (getElem!_pos dk j (by simpa using h1)).symm
  unfold c24 l24
  rw [e, h.size, Lib.decDigits_length]
theorem l24_len {l : List UInt8} (h : l.length ≤ 23) : (l24 l).length = 24 := by
  unfold l24
  simp
  omega
theorem l24_neg {l : List UInt8} {n : Nat} (h : l.length = n) : ((l24 l).set 0 (AV.lit (.int .u8 45))).take (n + 1) = (45 :: l).map byteAV := by
  subst h
  unfold l24
  rw [List.set_cons_zero, List.take_succ_cons, List.take_left' (by simp)]
  rfl
theorem l24_pos {l : List UInt8} {n : Nat} (h : l.length = n) : ((l24 l).drop 1).take n = l.map byteAV := by
  subst h
  unfold l24
  rw [List.drop_succ_cons, List.drop_zero, List.take_left' (by simp)]
theorem nDigits_20 {u : Nat} (h : u < 18446744073709551616) : Lib.nDigits u ≤ 20 := by
  rcases Nat.eq_zero_or_pos u with e | e
  · subst e
    rw [Lib.nDigits_small (by omega)]
    omega
  · have := Lib.numDigits_eq u e h
    split at this <;> omega
theorem format_f (u : Nat) (H : List AObj) (h2 : u < 18446744073709551616) :
    ACalls Tryz.prog 147 [.msl H.length 1 (Lib.nDigits u) 23, .lit (.int .u64 u)] (H ++ [.cells (.one 152) (List.replicate 24 (AV.lit (.int .u8 0)))]) (fun y H' => y = .tup [] ∧ H' = H ++ [.cells (.one 152) (l24 (Lib.decDigits u))]) := by
  have hn := nDigits_20 h2
  have := format_c u (Array.replicate (Lib.nDigits u) 0) H (by simp) h2 (by simpa using hn)
  rw [c24_zero (by omega), Array.size_replicate] at this
  refine this.mono fun _ H' ⟨dk, v', hI, ey, e⟩ => ⟨ey, ?_⟩
  rw [e, c24_done hI]
theorem FormatInt_c (i : Int) (H : List AObj) (h1 : -9223372036854775808 < i) (h2 : i < 9223372036854775808) : ACalls Tryz.prog 132 [.lit (.int .i64 i), .lit (.int .i64 10)] H (fun y H' => y = .str (Lib.itoa i) ∧ H' = H) := by
  by_cases hs : 0 ≤ i ∧ i < 100
  · obtain ⟨n, rfl⟩ := Int.eq_ofNat_of_zero_le hs.1
    have hc1 : ((0 : Int) ≤ (n : Int)) = True := eq_true (by omega)
    have hc2 : ((n : Int) < 100) = True := eq_true (by omega)
    rw [Lib.itoa_nonneg]
    refine acalls_vc L_ok mixed [5] (rs := [.tmp 4]) (n := 54) Tryz.func132 rfl rfl rfl rfl (Nat.le_of_ble_eq_true rfl) (by kernel_rfl) ?_
    repeat' (first | refine unhold ?_ | (simp -dsimp -implicitDefEqProofs (disch := (first | assumption | omega | (simp only [ll1, ll2, ll3, ll4, ll5, ll6, ll7, ll8]; omega))) only [go_sem, hc1, hc2]) | refine acalls_same (small_c _ _ (by omega)) ?_ | refine ⟨_, small_c _ _ (by omega), ?_⟩ | refine ⟨_, _, small_c _ _ (by omega), ?_⟩ | refine vcI (fun _ => ?_) (fun _ => ?_) | (refine vcA ?_ ?_; focus (repeat' (first | omega | assumption | refine vcA ?_ ?_); done)) | omega | refine imp_in (fun _ => ?_))
    exact done_same ⟨rfl, rfl⟩
  · by_cases hn : i < 0
    · obtain ⟨u, rfl⟩ : ∃ u : Nat, i = -(u : Int) := ⟨i.natAbs, by omega⟩
      have hc1 : ((0 : Int) ≤ -(u : Int)) = False := eq_false (by omega)
      have hc2 : (-(u : Int) < 0) = True := eq_true (by omega)
      have hd := nDigits_20 (u := u) (by omega)
      have hz : (1 + ((Lib.nDigits u : Nat) : Int)).toNat - 1 = Lib.nDigits u := by omega
      have hl := Lib.decDigits_length u
      have hu1 : IntKind.u64.wrap (-(u : Int)) = 18446744073709551616 - (u : Int) := by
        show (-(u : Int)) % 18446744073709551616 = _
        omega
      have hu2 : IntKind.u64.wrap (0 - (18446744073709551616 - (u : Int))) = (u : Int) := by
        show (0 - (18446744073709551616 - (u : Int))) % 18446744073709551616 = _
        omega
      rw [Lib.itoa_neg u (by omega)]
      refine acalls_vc L_ok mixed [5] (rs := [.tmp 4]) (n := 54) Tryz.func132 rfl rfl rfl rfl (Nat.le_of_ble_eq_true rfl) (by kernel_rfl) ?_
      have hl24 := l24_len (l := Lib.decDigits u) (by omega)
      have hn1 := l24_neg hl
      have hz2 : (1 + ((Lib.nDigits u : Nat) : Int)).toNat - 0 = Lib.nDigits u + 1 := by omega
      repeat' (first | refine unhold ?_ | (simp -dsimp -implicitDefEqProofs (disch := (first | assumption | omega | (simp only [ll1, ll2, ll3, ll4, ll5, ll6, ll7, ll8]; omega))) only [go_sem, hc1, hc2, hu1, hu2, hz, hz2, hl24, hn1]) | refine acalls_same (numDigits_c _ _ ?_ ?_) ?_ | refine ⟨_, numDigits_c _ _ ?_ ?_, ?_⟩ | refine ⟨_, _, numDigits_c _ _ ?_ ?_, ?_⟩ | refine acalls_same (format_f _ _ ?_) ?_ | refine ⟨_, format_f _ _ ?_, ?_⟩ | refine ⟨_, _, format_f _ _ ?_, ?_⟩ | refine vcI (fun _ => ?_) (fun _ => ?_) | (refine vcA ?_ ?_; focus (repeat' (first | omega | assumption | refine vcA ?_ ?_); done)) | omega | refine imp_in (fun _ => ?_))
      · exact isBytes_map (45 :: Lib.decDigits u)
      · rw [show unbytes (byteAV 45 :: (Lib.decDigits u).map byteAV) = 45 :: Lib.decDigits u from unbytes_map (45 :: Lib.decDigits u)]
        exact done_cut _ (Le.refl _) (.str _) ⟨rfl, rfl⟩
    · obtain ⟨u, rfl⟩ := Int.eq_ofNat_of_zero_le (show 0 ≤ i by omega)
      have hc1 : ((0 : Int) ≤ (u : Int)) = True := eq_true (by omega)
      have hc2 : ((u : Int) < 0) = False := eq_false (by omega)
      have hc3 : ((u : Int) < 100) = False := eq_false (by omega)
      have hd := nDigits_20 (u := u) (by omega)
      have hz : (1 + ((Lib.nDigits u : Nat) : Int)).toNat - 1 = Lib.nDigits u := by omega
      have hl := Lib.decDigits_length u
      rw [Lib.itoa_nonneg]
      refine acalls_vc L_ok mixed [5] (rs := [.tmp 4]) (n := 54) Tryz.func132 rfl rfl rfl rfl (Nat.le_of_ble_eq_true rfl) (by kernel_rfl) ?_
      have hl24 := l24_len (l := Lib.decDigits u) (by omega)
      have hp1 := l24_pos hl
      repeat' (first | refine unhold ?_ | (simp -dsimp -implicitDefEqProofs (disch := (first | assumption | omega | (simp only [ll1, ll2, ll3, ll4, ll5, ll6, ll7, ll8]; omega))) only [go_sem, hc1, hc2, hc3, hz, hl24, hp1]) | refine acalls_same (numDigits_c _ _ ?_ ?_) ?_ | refine ⟨_, numDigits_c _ _ ?_ ?_, ?_⟩ | refine ⟨_, _, numDigits_c _ _ ?_ ?_, ?_⟩ | refine acalls_same (format_f _ _ ?_) ?_ | refine ⟨_, format_f _ _ ?_, ?_⟩ | refine ⟨_, _, format_f _ _ ?_, ?_⟩ | refine vcI (fun _ => ?_) (fun _ => ?_) | (refine vcA ?_ ?_; focus (repeat' (first | omega | assumption | refine vcA ?_ ?_); done)) | omega | refine imp_in (fun _ => ?_))
      exact done_cut _ (Le.refl _) (.str _) ⟨rfl, rfl⟩
theorem Itoa_i (i : Int) (H : List AObj) (h1 : -9223372036854775808 < i) (h2 : i < 9223372036854775808) : ACalls Tryz.prog 115 [.lit (.int .i64 i)] H (fun y H' => y = .str (Lib.itoa i) ∧ H' = H) := by
  have c := fun H => FormatInt_c i H h1 h2
  refine acalls_vc L_ok mixed [] (rs := [.tmp 2]) (n := 5) Tryz.func115 rfl rfl rfl rfl (Nat.le_of_ble_eq_true rfl) (by kernel_rfl) ?_
  repeat' (first | refine unhold ?_ | (simp -dsimp -implicitDefEqProofs (disch := (first | assumption | omega | (simp only [ll1, ll2, ll3, ll4, ll5, ll6, ll7, ll8]; omega))) only [go_sem]) | refine acalls_same (c _) ?_ | refine ⟨_, c _, ?_⟩ | refine ⟨_, _, c _, ?_⟩ | refine vcI (fun _ => ?_) (fun _ => ?_) | (refine vcA ?_ ?_; focus (repeat' (first | omega | assumption | refine vcA ?_ ?_); done)) | omega | refine imp_in (fun _ => ?_))
  exact done_same ⟨rfl, rfl⟩
theorem Itoa_c (i : Int) (H : List AObj) (h1 : -9223372036854775808 < i) (h2 : i < 9223372036854775808) : ACalls Tryz.prog 94 [.lit (.int .i64 i)] H (fun y H' => y = .str (Lib.itoa i) ∧ H' = H) := by
  have c := fun H => Itoa_i i H h1 h2
  refine acalls_vc L_ok mixed [] (rs := [.tmp 2]) (n := 5) Tryz.func94 rfl rfl rfl rfl (Nat.le_of_ble_eq_true rfl) (by kernel_rfl) ?_
  repeat' (first | refine unhold ?_ | (simp -dsimp -implicitDefEqProofs (disch := (first | assumption | omega | (simp only [ll1, ll2, ll3, ll4, ll5, ll6, ll7, ll8]; omega))) only [go_sem]) | refine acalls_same (c _) ?_ | refine ⟨_, c _, ?_⟩ | refine ⟨_, _, c _, ?_⟩ | refine vcI (fun _ => ?_) (fun _ => ?_) | (refine vcA ?_ ?_; focus (repeat' (first | omega | assumption | refine vcA ?_ ?_); done)) | omega | refine imp_in (fun _ => ?_))
  exact done_same ⟨rfl, rfl⟩
end Go.Proofs.YtplmbhjhihoneaaGreatDoor
end
