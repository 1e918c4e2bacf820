/- Bits of numbers. -/
import Derived.Test.YthaicajgfioogaaDoorVo
set_option linter.unusedSimpArgs false
set_option linter.unusedVariables false
namespace Go.Proofs.YthaicajgfioogaaDoor.V
open Go
theorem ofInt_nat {w x : Nat} (hx : x < 2 ^ w) : (BitVec.ofInt w (x : Int)).toNat = x := by
  rw [BitVec.ofInt_natCast, BitVec.toNat_ofNat, Nat.mod_eq_of_lt hx]
theorem bv_or {w x y : Nat} (hx : x < 2 ^ w) (hy : y < 2 ^ w) : (BitVec.ofInt w (x : Int) ||| BitVec.ofInt w (y : Int)).toNat = x ||| y := by
  rw [BitVec.toNat_or, ofInt_nat hx, ofInt_nat hy]
theorem bv_and {w x y : Nat} (hx : x < 2 ^ w) (hy : y < 2 ^ w) : (BitVec.ofInt w (x : Int) &&& BitVec.ofInt w (y : Int)).toNat = x &&& y := by
  rw [BitVec.toNat_and, ofInt_nat hx, ofInt_nat hy]
theorem bv_xor {w x y : Nat} (hx : x < 2 ^ w) (hy : y < 2 ^ w) : (BitVec.ofInt w (x : Int) ^^^ BitVec.ofInt w (y : Int)).toNat = x ^^^ y := by
  rw [BitVec.toNat_xor, ofInt_nat hx, ofInt_nat hy]
theorem wrap_nat_u64 {x : Nat} (hx : x < 2 ^ 64) : IntKind.u64.wrap (x : Int) = x := IntWalk.u64_in _ (by omega)
theorem wrap_nat_u32 {x : Nat} (hx : x < 2 ^ 32) : IntKind.u32.wrap (x : Int) = x := IntWalk.u32_in _ (by omega)
theorem wrap_nat_u8 {x : Nat} (hx : x < 2 ^ 8) : IntKind.u8.wrap (x : Int) = x := IntWalk.u8_in _ (by omega)
theorem or_u64 {x y : Nat} (hx : x < 2 ^ 64) (hy : y < 2 ^ 64) : IntKind.u64.wrap ((BitVec.ofInt IntKind.u64.bits (x : Int) ||| BitVec.ofInt IntKind.u64.bits (y : Int)).toNat : Int) = ((x ||| y : Nat) : Int) := by
  show IntKind.u64.wrap ((BitVec.ofInt 64 (x : Int) ||| BitVec.ofInt 64 (y : Int)).toNat : Int) = _
  rw [bv_or hx hy, wrap_nat_u64 (Nat.or_lt_two_pow hx hy)]
theorem and_u64 {x y : Nat} (hx : x < 2 ^ 64) (hy : y < 2 ^ 64) : IntKind.u64.wrap ((BitVec.ofInt IntKind.u64.bits (x : Int) &&& BitVec.ofInt IntKind.u64.bits (y : Int)).toNat : Int) = ((x &&& y : Nat) : Int) := by
  show IntKind.u64.wrap ((BitVec.ofInt 64 (x : Int) &&& BitVec.ofInt 64 (y : Int)).toNat : Int) = _
  rw [bv_and hx hy, wrap_nat_u64 (Nat.and_lt_two_pow _ hy)]
theorem and_u8 {x y : Nat} (hx : x < 2 ^ 8) (hy : y < 2 ^ 8) : IntKind.u8.wrap ((BitVec.ofInt IntKind.u8.bits (x : Int) &&& BitVec.ofInt IntKind.u8.bits (y : Int)).toNat : Int) = ((x &&& y : Nat) : Int) := by
  show IntKind.u8.wrap ((BitVec.ofInt 8 (x : Int) &&& BitVec.ofInt 8 (y : Int)).toNat : Int) = _
  rw [bv_and hx hy, wrap_nat_u8 (Nat.and_lt_two_pow _ hy)]
end Go.Proofs.YthaicajgfioogaaDoor.V
